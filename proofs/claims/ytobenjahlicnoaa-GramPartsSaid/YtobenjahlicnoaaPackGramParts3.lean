/- Lemmas towards the statement: mirrors of functions, and plain laws. No condition. -/
import Derived.Laws.CopyRow
import Derived.Laws.IdiomCopy
import Derived.Lib.Builder
import Derived.Lib.UnsafeStr
import Derived.Laws.Externs
import Derived.Laws.BitsLemmas
import Derived.Recover
import Derived.Laws.BytesString
import Derived.Lib.ConvBytes
import Derived.Test.YtobenjahlicnoaaPackGramParts2
namespace Go.Proofs.Ytobenjahlicnoaa
open Go.RowKit Go.MapKept
set_option linter.unusedSimpArgs false
set_option linter.unusedVariables false
set_option maxRecDepth 100000
def tailE (l : List Oper) (m : Nat) : Bool := (List.range l.length).all fun k => Nat.blt k m || (List.range k).all fun j => (onI l k).contains j || (closE l k (onI l k)).contains j
theorem closE_listed {l : List Oper} {L : Nat → Bool} (hc : Closed' l L) : ∀ (n : Nat) {s : List Nat}, (∀ j ∈ s, L j = true) → ∀ j ∈ closE l n s, L j = true
 | 0, s, h, j, hj => h j hj
 | n + 1, s, h, j, hj => by
  unfold closE at hj
  split at hj
  ·rename_i hm
   refine closE_listed hc n (fun k hk => ?_) j hj
   rcases List.mem_append.1 hk with hk | hk
   ·exact h k hk
   ·exact (hc n (h n (List.contains_iff_mem.1 hm))).2 k hk
  ·exact closE_listed hc n h j hj
theorem tail_all {l : List Oper} {m : Nat} (ht : tailE l m = true) {L : Nat → Bool} (hc : Closed' l L) {i : Nat} {o : Oper} (hi : l[i]? = some o) (hm : m ≤ i) (hon : ∀ j ∈ onE o, L j = true) : ∀ j, j < i → L j = true := fun j hj => by
 have hlt := (List.getElem?_eq_some_iff.1 hi).1
 have h1 := List.all_eq_true.1 ht i (List.mem_range.2 hlt)
 rw [Bool.or_eq_true] at h1
 rcases h1 with h1 | h1
 ·have := Nat.le_of_ble_eq_true h1
  omega
 ·have h2 := List.all_eq_true.1 h1 j (List.mem_range.2 hj)
  rw [onI_eq hi, Bool.or_eq_true] at h2
  rcases h2 with h2 | h2
  ·exact hon j (List.contains_iff_mem.1 h2)
  ·exact closE_listed hc i hon j (List.contains_iff_mem.1 h2)
theorem blt_iff {a b : Nat} : Nat.blt a b = true ↔ a < b := ⟨fun h => Nat.le_of_ble_eq_true h, fun h => Nat.ble_eq_true_of_le h⟩
section
variable {c : Cfg} {C : Cert} {l : List Oper} {n m : Nat} {N : Po}
theorem tail_ok (hb : ∀ (i : Nat) (o : Oper), l[i]? = some o → ∀ j ∈ onE o, j < i) (ht : tailE l m = true) : ∀ (fuel k : Nat) (listed : Array Bool) (a : Act) (w : World), k + fuel = l.length → m ≤ k → listed.size = l.length → LB listed = (fun i => Nat.blt i k) → wpList Try.prog l.toArray (OnlyP c N) (l.drop k) a w → wpAny Try.prog .any l.toArray (OnlyP c N) fuel listed a w := by
 have hcl : ∀ k, k ≤ l.length → Closed' l (fun i => Nat.blt i k) := fun k hk i hi => by
  have hi := blt_iff.1 hi
  refine ⟨by omega, fun j hj => blt_iff.2 ?_⟩
  have ho : l[i]? = some (l[i]'(by omega)) := List.getElem?_eq_getElem (by omega)
  rw [onI_eq ho] at hj
  have := hb i _ ho j hj
  omega
 intro fuel
 induction fuel with
 | zero =>
  intro k listed a w hk hm hsz hL hw
  have hk : k = l.length := by omega
  subst hk
  rw [List.drop_length] at hw
  refine ⟨?_, hw⟩
  cases hr : Region.ready .any l.toArray listed with
  | nil => rfl
  | cons i r =>
   obtain ⟨o, ho, hF, _⟩ := ready_mem hsz (i := i) (by rw [hr]; simp)
   have hF2 : Nat.blt i l.length = false := by rw [hL] at hF; exact hF
   have : Nat.blt i l.length = true := blt_iff.2 (List.getElem?_eq_some_iff.1 ho).1
   rw [this] at hF2
   cases hF2
 | succ fuel ih =>
  intro k listed a w hk hm hsz hL hw
  have hkl : k < l.length := by omega
  refine ⟨fun hr => ?_, fun i hi => ?_⟩
  ·have := ready_nil hsz hb hr k hkl
   rw [hL] at this
   have := blt_iff.1 this
   omega
  ·obtain ⟨o, ho, hF, hon⟩ := ready_mem hsz hi
   have hik : k ≤ i := by
    refine Decidable.byContradiction fun hc => ?_
    have : LB listed i = true := by rw [hL]; exact blt_iff.2 (by omega)
    rw [this] at hF
    cases hF
   have hik : i = k := by
    refine Decidable.byContradiction fun hc => ?_
    have hcl' := hcl k (by omega)
    rw [hL] at hon
    have := blt_iff.1 (tail_all ht hcl' ho (by omega) hon k (by omega))
    omega
   subst hik
   have hset := LB_set (listed := listed) (i := i) (by omega)
   have hnext : ∀ a' w', wpList Try.prog l.toArray (OnlyP c N) (l.drop (i + 1)) a' w' → wpAny Try.prog .any l.toArray (OnlyP c N) fuel (listed.setIfInBounds i true) a' w' := fun a' w' h' => by
    refine ih (i + 1) _ a' w' (by omega) (by omega) (by simpa using hsz) ?_ h'
    rw [hset, hL]
    funext j
    unfold addL
    by_cases e : j = i
    ·rw [if_pos e]
     exact (blt_iff.2 (by omega)).symm
    ·rw [if_neg e]
     show Nat.blt j i = Nat.blt j (i + 1)
     cases h1 : Nat.blt j i with
     | true => exact (blt_iff.2 (by have := blt_iff.1 h1; omega)).symm
     | false =>
      cases h2 : Nat.blt j (i + 1) with
      | false => rfl
      | true =>
       have := blt_iff.1 h2
       have : Nat.blt j i = true := blt_iff.2 (by omega)
       rw [h1] at this
       cases this
   have hd : l.drop i = o :: l.drop (i + 1) := by
    rw [List.drop_eq_getElem_cons hkl]
    congr 1
    rw [List.getElem?_eq_getElem hkl] at ho
    exact Option.some.inj ho
   rw [hd] at hw
   unfold wpList at hw
   unfold wpOp
   have ho' : l.toArray[i]? = some o := by simpa using ho
   rw [ho']
   simp only
   split
   ·rename_i hwant
    rw [if_pos hwant] at hw
    rcases hw with hw | hw
    ·exact .inl (Oper.wp_mono hnext hw)
    ·exact .inr hw
   ·rename_i hwant
    rw [if_neg hwant] at hw
    exact hnext _ _ hw
theorem anyT_ok (hk : Chk C l) (hn : c.n = n) (hd : (l.all fun o => match o.dst with | some d => Nat.blt d n | none => true) = true) (hml : m ≤ l.length) (ht : tailE l m = true) (hs : StepsOk c C l 0 (l.take m))
  (hN : ∀ a w, Ok c ⟨C.FL l (fun i => Nat.blt i m), C.ML (fun i => Nat.blt i m)⟩ a w → wpList Try.prog l.toArray (OnlyP c N) (l.drop m) a w) :
  ∀ (fuel : Nat) (listed : Array Bool) (a : Act) (w : World), listed.size = l.length → Closed' l (LB listed) → (∀ i, LB listed i = true → i < m) → (listed.toList.filter id).length + fuel = l.length → Ok c ⟨C.FL l (LB listed), C.ML (LB listed)⟩ a w → wpAny Try.prog .any l.toArray (OnlyP c N) fuel listed a w := by
 have full : ∀ listed : Array Bool, (∀ i, LB listed i = true → i < m) → (∀ i, i < m → LB listed i = true) → LB listed = fun i => Nat.blt i m := fun listed h1 h2 => by
  funext i
  cases hL : LB listed i with
  | true => exact (blt_iff.2 (h1 i hL)).symm
  | false =>
   cases hb : Nat.blt i m with
   | false => rfl
   | true => rw [h2 i (blt_iff.1 hb)] at hL; cases hL
 have cnt : ∀ (q : List Bool) (r : Nat), r ≤ q.length → (∀ i, i < q.length → q.getD i false = Nat.blt i r) → (q.filter id).length = r := by
  intro q
  induction q with
  | nil => intro r h _; simp at h; simp [h]
  | cons x q ih =>
   intro r h hq
   have h0 := hq 0 (by simp)
   rw [List.getD_cons_zero] at h0
   cases r with
   | zero =>
    have hx : x = false := h0
    have := ih 0 (Nat.zero_le _) fun i hi => by
     have h2 := hq (i + 1) (by simp; omega)
     rw [List.getD_cons_succ] at h2
     rw [h2]
     rfl
    subst hx
    simpa using this
   | succ r =>
    have hx : x = true := h0
    have := ih r (by simpa using h) fun i hi => by
     have h2 := hq (i + 1) (by simp; omega)
     rw [List.getD_cons_succ] at h2
     rw [h2]
     rfl
    subst hx
    simpa using this
 intro fuel
 induction fuel with
 | zero =>
  intro listed a w hsz hcl hlt hcnt hok
  have hall : ∀ i, i < l.length → LB listed i = true := fun i hi => by
   have hlen : listed.toList.length = l.length := by simpa using hsz
   have := count_all listed.toList (by omega) (listed[i]'(by omega)) (by simp)
   unfold LB
   rw [Array.getD_eq_getD_getElem?]
   simp [hsz, hi, this]
  have hme : m = l.length := by
   refine Decidable.byContradiction fun hc => ?_
   have := hlt m (hall m (by omega))
   omega
  have hf := full listed hlt fun i hi => hall i (by omega)
  exact tail_ok hk.below ht 0 m listed a w (by omega) (Nat.le_refl _) hsz hf (hN a w (hf ▸ hok))
 | succ fuel ih =>
  intro listed a w hsz hcl hlt hcnt hok
  by_cases hA : ∀ i, i < m → LB listed i = true
  ·have hf := full listed hlt hA
   have hc : (listed.toList.filter id).length = m := cnt listed.toList m (by simpa [hsz] using hml) fun i hi => by
    have := congrFun hf i
    unfold LB at this
    rw [← this, Array.getD_eq_getD_getElem?, List.getD_eq_getElem?_getD]
    simp
   exact tail_ok hk.below ht (fuel + 1) m listed a w (by omega) (Nat.le_refl _) hsz hf (hN a w (hf ▸ hok))
  ·obtain ⟨i0, h0⟩ := Classical.not_forall.1 hA
   obtain ⟨h0m, h0L⟩ := Classical.not_imp.1 h0
   refine ⟨fun hr => absurd (ready_nil hsz hk.below hr i0 (by omega)) h0L, fun i hi => ?_⟩
   obtain ⟨o, ho, hL, hon⟩ := ready_mem hsz hi
   have hltl := (List.getElem?_eq_some_iff.1 ho).1
   have him : i < m := by
    refine Decidable.byContradiction fun hc => h0L ?_
    exact tail_all ht hcl ho (by omega) hon i0 (by omega)
   have hst := stepsOk_get hs i o (by rw [List.getElem?_take_of_lt him]; exact ho)
   rw [Nat.zero_add] at hst
   have hset := LB_set (listed := listed) (i := i) (by omega)
   have hnext : ∀ a' w', Ok c ⟨C.FL l (addL (LB listed) i), C.ML (addL (LB listed) i)⟩ a' w' → wpAny Try.prog .any l.toArray (OnlyP c N) fuel (listed.setIfInBounds i true) a' w' := fun a' w' h' => by
    refine ih _ a' w' (by simpa using hsz) ?_ ?_ ?_ (by rw [hset]; exact h')
    ·rw [hset]
     intro j hj
     unfold addL at hj ⊢
     by_cases e : j = i
     ·subst e
      refine ⟨hltl, fun k hk' => ?_⟩
      rw [onI_eq ho] at hk'
      split
      ·rfl
      ·exact hon k hk'
     ·rw [if_neg e] at hj
      obtain ⟨h1, h2⟩ := hcl j hj
      refine ⟨h1, fun k hk' => ?_⟩
      split
      ·rfl
      ·exact h2 k hk'
    ·rw [hset]
     intro j hj
     unfold addL at hj
     by_cases e : j = i
     ·omega
     ·rw [if_neg e] at hj
      exact hlt j hj
    ·rw [Array.toList_setIfInBounds, count_set]
     ·omega
     ·unfold LB at hL
      rw [Array.getD_eq_getD_getElem?] at hL
      have : listed[i]? = some listed[i] := by simp [hsz, hltl]
      rw [this] at hL
      simp at hL
      rw [Array.getElem?_toList, this, hL]
   have := step_ok (Z := N) hk hcl hn hd ho hL hon hst hok hnext
   unfold wpOp
   have ho' : l.toArray[i]? = some o := by simpa using ho
   rw [ho']
   simp only
   split
   ·rename_i hw
    rw [if_pos hw] at this
    exact .inl this
   ·rename_i hw
    rw [if_neg hw] at this
    exact this
theorem En.regionT {S : St} {id : Nat} {E : List (Nat × Po)} {R : Po} (C : Cert) (m : Nat) (fin : St) (hm : Try.prog.follows .mixedOrders = true) (hn : c.n = n) (hml : Nat.ble m l.length = true) (ht : tailE l m = true) (hk : chkE C l = true) (hd : (l.all fun o => match o.dst with | some d => Nat.blt d n | none => true) = true)
  (h0 : subE ⟨C.FL l (fun _ => false), C.ML (fun _ => false)⟩ S = subX ⟨C.FL l (fun _ => false), C.ML (fun _ => false)⟩) (hs : StepsOk c C l 0 (l.take m))
  (h1 : subE fin ⟨C.FL l (fun i => Nat.blt i m), C.ML (fun i => Nat.blt i m)⟩ = subX fin) (h2 : WL c l.toArray (l.drop m) fin N) : En c S (cwp (.region id l.toArray true) (PQ c N E R)) := fun a w ⟨g, hs', hok⟩ => by
 have hok1 : Ok' c S a w.drew g hs' := hok.grown (grown_drew w)
 have hL : LB (Array.replicate l.length false) = fun _ => false := by
  funext i
  unfold LB
  rw [Array.getD_eq_getD_getElem?, Array.getElem?_replicate]
  split <;> rfl
 refine Code.wp_mono (fun e a w q => ?_) (wp_region_any (Q := OnlyP c N) hm (anyT_ok (chk_of hk) hn hd (Nat.le_of_ble_eq_true hml) ht hs (fun a w h => h2 a w (sub_ok h1 a w h)) l.toArray.size _ a w.drew (by simp) ?_ ?_ ?_ ?_))
 ·cases e <;> first | exact q | exact (q : False).elim
 ·intro i hi
  simp only [List.size_toArray] at hi
  rw [hL] at hi
  cases hi
 ·intro i hi
  simp only [List.size_toArray] at hi
  rw [hL] at hi
  cases hi
 ·simp only [List.size_toArray, Array.toList_replicate]
  rw [List.filter_replicate_of_neg (by simp)]
  simp
 ·simp only [List.size_toArray]
  rw [hL]
  exact sub_ok h0 a w.drew ⟨g, hs', hok1⟩
end
end Go.Proofs.Ytobenjahlicnoaa
namespace Go.Proofs.Ytobenjahlicnoaa
open Go.RowKit Go.MapKept Go.ChangeMaps
set_option linter.unusedSimpArgs false
set_option linter.unusedVariables false
set_option maxRecDepth 100000
section
variable {κ α : Type} [DecidableEq κ]
theorem mput_same {k : κ} {v : α} : ∀ {D : List (κ × α)}, mget k D = some v → mput k v D = D
 | [], h => by cases h
 | x :: D, h => by
  rw [mget] at h
  rw [mput]
  split at h
  ·rename_i e
   cases h
   rw [if_pos e, e]
  ·rename_i e
   rw [if_neg e, mput_same h]
theorem mput_put {k : κ} {u v : α} : ∀ {D : List (κ × α)}, mput k v (mput k u D) = mput k v D
 | [] => by simp [mput]
 | x :: D => by
  rw [mput, mput]
  by_cases e : k = x.1
  ·rw [if_pos e, if_pos e, mput, if_pos rfl]
  ·rw [if_neg e, if_neg e, mput, if_neg e, mput_put]
theorem findD_idx {a : κ} : ∀ {D : List (κ × Value)} {n i : Nat} {u : Value}, findD a D n = some (i, u) → a ∈ D.map (·.1) ∧ i = n + (D.map (·.1)).idxOf a
 | [], _, _, _, h => by cases h
 | x :: D, n, i, u, h => by
  rw [findD] at h
  rw [List.map_cons, List.idxOf_cons]
  by_cases e : a = x.1
  ·rw [if_pos e] at h
   cases h
   exact ⟨by simp [e], by simp [e]⟩
  ·rw [if_neg e] at h
   obtain ⟨h1, h2⟩ := findD_idx h
   refine ⟨List.mem_cons_of_mem _ h1, ?_⟩
   rw [show (x.1 == a) = false by simpa using fun h => e h.symm]
   simp only [cond_false]
   omega
def stampX (k : κ) (D : List (κ × α)) (es : Array MapEntry) (ck : Nat) : Nat := if k ∈ D.map (·.1) then ((es[(D.map (·.1)).idxOf k]?).map (·.born)).getD 0 else ck
def mapBR (enc : κ → Value) (T : Ty α) (D : List (κ × α)) (k : κ) (b : Nat) : Rl (Array MapEntry × Nat) :=
 ⟨fun g p => mapRead enc T D g p ∧ ∃ (i : Nat) (e : MapEntry), p.1[i]? = some e ∧ e.born = b ∧ (D.map (·.1))[i]? = some k, fun g g' L h ⟨h1, h2⟩ => ⟨(mapR enc T D).mono g g' L h h1, h2⟩⟩
abbrev mapB (enc : κ → Value) (T : Ty α) (D : List (κ × α)) (k : κ) (b : Nat) : Item := .map (mapBR enc T D k b)
end
section
variable {κ α : Type} [DecidableEq κ] {enc : κ → Value} {T : Ty α} {D : List (κ × α)} {es : Array MapEntry} {ck : Nat}
variable {c : Cfg} {S S1 : St} {n : Nat} {o : Oper} {ops : Array Oper} {rest L : List Oper} {N : Po}
omit [DecidableEq κ] in
theorem En.openM (i : Nat) (hi : S.M[i]? = some (mapI enc T D)) (h : ∀ es clock, En c ⟨S.F, S.M.set i (mapX enc T D es clock)⟩ N) : En c S N := fun a w ⟨g, hs, hk⟩ => by
 obtain ⟨es, clock, hk'⟩ := opens hk hi
 exact h es clock a w ⟨g, hs, hk'⟩
omit [DecidableEq κ] in
theorem mt_nilBox {β : Type} {T : Ty β} {x : SC} {K : List Nat} {p ty : Nat} {cells : List At} (j : Nat) (h : MT c S o x K (some (p, .box cells ty false))) (hj : cells[j]? = some (.v (.slice none 0 0))) : MT c S o x K (some (p, .box (cells.set j (LS T ([] : List β))) ty false)) := fun a w g hs hk N Z hN =>
 h a w g hs hk N Z fun v w' g' h' h1 h2 h3 => hN v w' g' h' h1 h2 ⟨by
  obtain ⟨⟨b, cs, k1, k2, k3⟩, _⟩ := h3
  exact ⟨b, cs, k1, oks_nil j hj k2, k3⟩, h3.2⟩
theorem eff_block {w : World} {g : Gh} {hs : Nat → Value} {a : Act} {i m : Nat} {o' : Obj} (hk : Ok' c S a w g hs) {it : Item} (hi : S.M[i]? = some it) (hf : it.fz = false) (hg : it ≠ .gone) (h1 : hs i = .map (some m)) {es0 : Array MapEntry} {ck0 : Nat} (h2 : w.heap[m]? = some (.map es0 ck0)) :
  Eff hs [i] w g (setBlock w m o') g ∧ g m = none := by
 have hm : Blk (hs i) m := by rw [h1]; rfl
 have hgm := ((hk.mine i it hi hg m hm).2 hf).2
 refine ⟨⟨rfl, rfl, rfl, by simp [setBlock], fun b _ hb => heap_setBlock_other h2 _ (fun e => hb i (by simp) (by rw [e]; exact hm)), Gh.le.refl g, fun _ _ e => .inl e, fun b o e => ?_⟩, hgm⟩
 rw [heap_setBlock_other h2 _ (fun e2 => by rw [e2, hgm] at e; cases e)]
 exact hk.base.pers b o e
theorem me_mapEntry {kt e t i : Nat} (K : KeyLaw kt enc) {k : κ} {m x : Operand} (z : α) {zv : Value} (ho : o.op = .mapEntry t m x) (ht : Try.prog.underlying t = some (.map kt e)) (hz : ∀ w, (zeroValue e).run Try.prog w = .ok zv w) (hz2 : ∀ g, (T.sv z).ok g hs0 zv)
  (hm : evX S.F m = some (.sv (.one (.own i)))) (hi : S.M[i]? = some (mapX enc T D es ck)) (hx : evKV S.F x = some (enc k)) (hc : ∀ a, (T.sv a).refs = []) :
  ME c S o (.tup [T.sv ((mget k D).getD z), .one (I ((stampX k D es ck : Nat) : Int))]) [(i, mapB enc T (mput k ((mget k D).getD z) D) k (stampX k D es ck))] := fun a w g hs hk N Z hN => by
 unfold Oper.wp
 obtain ⟨b, es', ck', h1, h2, h3, D0, ⟨h4, h5, h6⟩, h7, h8, h9⟩ := hk.items i _ hi
 cases h3
 have hmv : a.eval m = .map (some b) := (evX_ok hk hm).1.trans h1
 have hu : (Go.underlying t).run Try.prog w = .ok (.map kt e) w := run_underlying ht w
 have hf := run_findKey K k w es.toList D0 h4
 have hset : ∀ o, (setObj b o).run Try.prog w = .ok () (setBlock w b o) := fun o => by simp [setObj, Sem.run, h2, setBlock]
 have up : ∀ {s : SV} {v : Value}, s.refs = [] → s.ok g hs0 v → s.ok g hs v := fun hc h => SV.ok_hs (fun i hi => by rw [hc] at hi; cases hi) h
 have hfin : ∀ (v : Value) (ob : Obj), (Instr.mapEntry t (.map (some b)) (enc k)).run Try.prog w = .ok v (setBlock w b ob) → N (a.put o.dst v) (setBlock w b ob) → Oper.upon Try.prog o a N (OnlyP c Z) ((execOp a.eval o).run Try.prog w) := fun v ob hr hn => by
  have hrun : (execOp a.eval o).run Try.prog w = .ok (.value v) (setBlock w b ob) := by
   have e : execOp a.eval o = (do pure (.value (← Instr.mapEntry t (a.eval m) (a.eval x))) : Sem Next) := by unfold execOp; rw [ho]
   rw [e, hmv, evKV_ok hk hx, Sem.run_bind, hr]
   simp
  rw [hrun]
  exact hn
 rcases pairs_get (k := k) h7 h9 with ⟨e1, e2⟩ | ⟨v, y, e1, e2, e3⟩
 ·have hfd : findD k D0 0 = none := by
   unfold lookD at e1
   cases h : findD k D0 0 with
   | none => rfl
   | some p => rw [h] at e1; cases e1
  rw [hfd] at hf
  have hn := findD_none.1 hfd
  have hnD : k ∉ D.map (·.1) := by rw [← h7]; exact hn
  have hst : stampX k D es ck = ck := if_neg hnD
  have hlen : es.size = D.length := by
   have l1 := congrArg List.length h4
   have l2 := congrArg List.length h7
   simp at l1 l2
   omega
  refine hfin (.tuple #[zv, goInt ck]) (.map (es.push { key := enc k, val := zv, born := ck }) (ck + 1)) ?_ ?_
  ·simp only [Instr.mapEntry, Sem.run_bind, hu, Result.andThen_ok, getObj, Sem.run, h2, K.check, hf, hz, hset, Sem.run_pure]
  ·obtain ⟨he, hgm⟩ := eff_block (o' := .map (es.push { key := enc k, val := zv, born := ck }) (ck + 1)) hk hi rfl (by simp) h1 h2
   rw [e2, hst] at hN
   refine hN _ _ g he (fun q hq b' hb => ?_) ⟨[zv, goInt ck], rfl, up (hc _) (hz2 g), ⟨rfl, trivial⟩, trivial⟩ (fun p hp => ?_)
   ·simp at hq
    subst hq
    rw [h1] at hb
    cases hb
    exact hgm
   ·simp only [List.mem_singleton] at hp
    subst hp
    obtain ⟨p1, p2⟩ := pairs_put (T := T) (g := g) (k := k) (v := zv) (y := z) (hz2 g) h7 h9
    refine ⟨b, _, _, h1, heap_setBlock_same h2 _, ⟨putD k zv D0, ⟨?_, ?_, ?_⟩, p1, mput_nodup h8, p2⟩, es.size, ({ key := enc k, val := zv, born := ck } : MapEntry), by simp, rfl, ?_⟩
    ·rw [putD_none hn]
     simp [h4]
    ·simp only [Array.toList_push, List.map_append, List.map_cons, List.map_nil]
     rw [List.pairwise_append]
     exact ⟨h5, by simp, fun x hx y hy => by
      simp at hy
      subst hy
      obtain ⟨e, he, rfl⟩ := List.mem_map.1 hx
      exact h6 e he⟩
    ·intro x hx
     simp at hx
     rcases hx with hx | rfl
     ·have := h6 x (by simpa using hx); simp only at this ⊢; omega
     ·simp
    ·simp only [Option.getD_none]
     rw [mput_keys, if_neg hnD, hlen, List.getElem?_append_right (by simp)]
     simp
 ·obtain ⟨j, hfd⟩ : ∃ j, findD k D0 0 = some (j, v) := by
   unfold lookD at e1
   cases h : findD k D0 0 with
   | none => rw [h] at e1; cases e1
   | some p =>
    rw [h] at e1
    cases e1
    exact ⟨p.1, rfl⟩
  rw [hfd] at hf
  obtain ⟨_, hD⟩ := findD_lt hfd
  rw [Nat.sub_zero] at hD
  obtain ⟨hin, hj⟩ := findD_idx hfd
  rw [Nat.zero_add, h7] at hj
  rw [h7] at hin
  have hjs : j < es.size := by
   have l1 := congrArg List.length h4
   simp at l1
   have := (List.getElem?_eq_some_iff.1 hD).1
   omega
  have hee : es[j]? = some es[j] := by simp [hjs]
  have hke : es[j].key = enc k := by
   have := congrArg (·[j]?) h4
   simp [hjs, hD] at this
   exact this.1
  have hst : stampX k D es ck = es[j].born := by
   unfold stampX
   rw [if_pos hin, ← hj, hee]
   rfl
  have hmod : (es.modify j fun e => { e with key := enc k }) = es := by
   refine Array.ext_getElem? fun q => ?_
   rw [Array.getElem?_modify]
   split
   ·rename_i e
    subst e
    rw [hee, Option.map_some, ← hke]
   ·rfl
  refine hfin (.tuple #[v, goInt (es[j].born)]) (.map es ck) ?_ ?_
  ·have hmod' : (es.modify j fun e => { key := enc k, val := e.val, born := e.born }) = es := hmod
   simp only [Instr.mapEntry, Sem.run_bind, hu, Result.andThen_ok, getObj, Sem.run, h2, K.check, hf, hee, Option.map_some, Option.getD_some, hke, Instr.keyThatStays, K.bits, if_true, Sem.run_pure, hset, hmod']
  ·obtain ⟨he, hgm⟩ := eff_block (o' := .map es ck) hk hi rfl (by simp) h1 h2
   rw [e2, hst] at hN
   refine hN _ _ g he (fun q hq b' hb => ?_) ⟨[v, goInt (es[j].born)], rfl, up (hc _) e3, ⟨rfl, trivial⟩, trivial⟩ (fun p hp => ?_)
   ·simp at hq
    subst hq
    rw [h1] at hb
    cases hb
    exact hgm
   ·simp only [List.mem_singleton] at hp
    subst hp
    simp only [Option.getD_some]
    rw [mput_same e2]
    refine ⟨b, _, _, h1, heap_setBlock_same h2 _, ⟨D0, ⟨h4, h5, h6⟩, h7, h8, h9⟩, j, es[j], hee, rfl, ?_⟩
    rw [← h7, List.getElem?_map, hD]
    rfl
theorem WL.entryStore {t i b : Nat} {k : κ} {y : α} {m s v : Operand} (hn : c.n = n) (hw : wantE ops S.F o = some true) (ho : o.op = .entryStore t m s v)
  (hm : evX S.F m = some (.sv (.one (.own i)))) (hi : S.M[i]? = some (mapB enc T D k b)) (hs : evX S.F s = some (.sv (.one (I ((b : Nat) : Int))))) (hv : evX S.F v = some (.sv (T.sv y))) (hc : (T.sv y).refs = [])
  (e : putE n o.dst (.tup []) ⟨S.F, S.M.set i (mapI enc T (mput k y D))⟩ = some S1) (h : WL c ops rest S1 N) : WL c ops (o :: rest) S N := fun a w ⟨g, hs', hk⟩ => by
 unfold wpList
 rw [if_pos (wantE_ok hk hw)]
 refine .inl ?_
 unfold Oper.wp
 obtain ⟨mb, es, ck, h1, h2, ⟨D0, ⟨h4, h5, h6⟩, h7, h8, h9⟩, j, en, hj, hjb, hjk⟩ := hk.items i _ hi
 simp only at hj h4 h5 h6
 have hmv : a.eval m = .map (some mb) := (evX_ok hk hm).1.trans h1
 have hsv : a.eval s = .int .i64 ((b : Nat) : Int) := (evX_ok hk hs).1
 have hval : (T.sv y).ok g hs0 (a.eval v) := SV.ok_hs (fun i hi => by rw [hc] at hi; cases hi) (evX_ok hk hv)
 have hset : ∀ o, (setObj mb o).run Try.prog w = .ok () (setBlock w mb o) := fun o => by simp [setObj, Sem.run, h2, setBlock]
 have hjs : j < es.size := (Array.getElem?_eq_some_iff.1 hj).1
 have hfind : es.findIdx? (fun e => (e.born : Int) == ((b : Nat) : Int)) = some j := by
  rw [Array.findIdx?_eq_some_iff_getElem]
  have hej : es[j] = en := (Array.getElem?_eq_some_iff.1 hj).2
  refine ⟨hjs, by rw [hej, hjb]; simp, fun q hq => ?_⟩
  have hlt := List.pairwise_iff_getElem.1 h5 q j (by simp; omega) (by simpa using hjs) hq
  simp only [List.getElem_map, Array.getElem_toList] at hlt
  rw [hej, hjb] at hlt
  simp
  omega
 have hD : ∃ u, D0[j]? = some (k, u) := by
  rw [← h7, List.getElem?_map] at hjk
  cases hx : D0[j]? with
  | none => rw [hx] at hjk; cases hjk
  | some x =>
   rw [hx] at hjk
   simp only [Option.map_some, Option.some.injEq] at hjk
   exact ⟨x.2, by rw [← hjk]⟩
 obtain ⟨u, hD⟩ := hD
 have hfd : ∃ u', findD k D0 0 = some (j, u') := by
  cases hx : findD k D0 0 with
  | none => exact absurd (List.mem_map.2 ⟨_, List.mem_of_getElem? hD, rfl⟩) (findD_none.1 hx)
  | some x =>
   obtain ⟨j', u'⟩ := x
   obtain ⟨_, hD'⟩ := findD_lt hx
   rw [Nat.sub_zero] at hD'
   have hn : (D0.map (·.1)).Nodup := by rw [h7]; exact h8
   have e1 : (D0.map (·.1))[j]? = some k := by rw [List.getElem?_map, hD]; rfl
   have e2 : (D0.map (·.1))[j']? = some k := by rw [List.getElem?_map, hD']; rfl
   have hl1 := (List.getElem?_eq_some_iff.1 e1).1
   have : j = j' := (List.getElem?_inj hl1 hn).1 (e1.trans e2.symm)
   exact ⟨u', by rw [this]⟩
 obtain ⟨u', hfd⟩ := hfd
 have hrun : (execOp a.eval o).run Try.prog w = .ok .skip (setBlock w mb (.map (es.modify j fun e => { e with val := a.eval v }) ck)) := by
  have e : execOp a.eval o = (do Instr.entryStore t (a.eval m) (a.eval s) (a.eval v); pure .skip : Sem Next) := by unfold execOp; rw [ho]
  rw [e, hmv, hsv, Sem.run_bind]
  have : (Instr.entryStore t (.map (some mb)) (.int .i64 ((b : Nat) : Int)) (a.eval v)).run Try.prog w = .ok () (setBlock w mb (.map (es.modify j fun e => { e with val := a.eval v }) ck)) := by
   simp only [Instr.entryStore, Sem.run_bind, getObj, Sem.run, h2, Result.andThen_ok, asInt, asIntOf, Sem.run_pure, hfind, hset]
  rw [this]
  simp
 rw [hrun]
 obtain ⟨p1, p2⟩ := pairs_put (k := k) hval h7 h9
 have hes : (es.modify j fun e => { e with val := a.eval v }).toList.map (fun e => (e.key, e.val)) = (putD k (a.eval v) D0).map (fun x => (enc x.1, x.2)) := by
  rw [putD_some hfd, Nat.sub_zero]
  apply List.ext_getElem?
  intro q
  have hq := congrArg (·[q]?) h4
  simp only [List.getElem?_map, Array.getElem?_toList] at hq ⊢
  rw [Array.getElem?_modify, List.getElem?_set]
  by_cases e : j = q
  ·subst e
   rw [hj, hD] at hq
   simp only [Option.map_some, Option.some.injEq, Prod.mk.injEq] at hq
   simp [hj, (List.getElem?_eq_some_iff.1 hD).1, hq.1]
  ·rw [if_neg e, if_neg e]
   exact hq
 have hbn : (es.modify j fun e => { e with val := a.eval v }).toList.map (·.born) = es.toList.map (·.born) := by
  apply List.ext_getElem?
  intro q
  simp only [List.getElem?_map, Array.getElem?_toList, Array.getElem?_modify]
  split
  ·rename_i e; subst e; simp [hj]
  ·rfl
 have hlt : ∀ e ∈ (es.modify j fun e => { e with val := a.eval v }).toList, e.born < ck := fun x hx => by
  have : x.born ∈ es.toList.map (·.born) := by rw [← hbn]; exact List.mem_map.2 ⟨x, hx, rfl⟩
  obtain ⟨y, hy, e⟩ := List.mem_map.1 this
  rw [← e]
  exact h6 y hy
 have hgr : w.grownBy (setBlock w mb (.map (es.modify j fun e => { e with val := a.eval v }) ck)) (some mb) := ⟨rfl, rfl, rfl, by simp [setBlock], fun i _ hi => heap_setBlock_other h2 _ (fun e => hi (by rw [e]))⟩
 have hup := hk.upd (w' := setBlock w mb (.map (es.modify j fun e => { e with val := a.eval v }) ck)) (it' := mapI enc T (mput k y D)) hi rfl rfl (by rw [h1]; exact hgr)
  ⟨mb, _, _, h1, heap_setBlock_same h2 _, putD k (a.eval v) D0, ⟨hes, by rw [hbn]; exact h5, hlt⟩, p1, mput_nodup h8, p2⟩
 exact h _ _ ⟨g, hs', putE_ok hup hn undef_ok e⟩
end
end Go.Proofs.Ytobenjahlicnoaa
namespace Go.Proofs.Ytobenjahlicnoaa
open Go.RowKit Go.MapKept
set_option linter.unusedSimpArgs false
set_option linter.unusedVariables false
set_option maxRecDepth 100000
section
variable {c : Cfg} {S S1 : St} {tab : Tab}
end
abbrev gridI {α : Type} (tyo ty : Nat) (T : Ty α) (L : List (List α)) : Item := .grid tyo ty T.s (L.map fun l => some (rowR T l, l.length)) none
section
variable {c : Cfg} {S S1 : St} {a : Act} {w : World} {g : Gh} {hs : Nat → Value} {tab : Tab} {n : Nat} {o : Oper} {ops : Array Oper} {rest : List Oper} {N : Po}
theorem grid_row {α : Type} {T : Ty α} {L : List (List α)} {tyo ty : Nat} {v : Value} (h : (gridI tyo ty T L).ok g hs w v) {p : Nat} {l : List α} (hp : L[p]? = some l) : ∃ cs, w.ownsAt ty T.s (gpart v (p + 1)) l.length cs ∧ rowRead T l g cs := by
 obtain ⟨us, ocs, _, _, _, _, h4, _⟩ := h
 exact (h4 p (rowR T l) l.length (by rw [List.getElem?_map, hp]; rfl)).2
theorem grid_out {α : Type} {T : Ty α} {L : List (List α)} {tyo ty : Nat} {v : Value} (h : (gridI tyo ty T L).ok g hs w v) : ∃ us, w.ownsAt tyo 1 (gpart v 0) L.length us ∧ ∀ p, p < L.length → us[p]? = some (gpart v (p + 1)) := by
 obtain ⟨us, ocs, rfl, h2, h3, _, h4, _⟩ := h
 rw [List.length_map] at h2 h3
 refine ⟨ocs, h3, fun p hp => ?_⟩
 exact (h4 p (rowR T L[p]) L[p].length (by rw [List.getElem?_map, List.getElem?_eq_getElem hp]; rfl)).1
theorem run_indexOwn {t el s e : Nat} {ti te : TI} {v iv : Value} {ik : IntKind} {k : Int} {m : Nat} {cs : List Value} (ht : tab.ok) (h1 : tab t = some ti) (h2 : ti.sl = some el) (h3 : tab el = some te) (h4 : te.size = s) (h5 : 0 < s)
  (hv : w.ownsAt e s v m cs) (hi : iv = .int ik k) (hk : 0 ≤ k ∧ k < (m : Int)) : ∃ b of cap, v = .slice (some ⟨b, of, none⟩) m cap ∧ (Instr.indexAt t v iv).run Try.prog w = .ok (.pointer (some ⟨b, of + k.toNat * s, none⟩)) w := by
 have hu := slT_some ((ht t ti h1).sl.trans h2)
 obtain ⟨hl0, r1⟩ := hv
 subst hi
 rcases r1 with ⟨e1, e2⟩ | ⟨gb, of, cap, cur, e1, _⟩
 ·omega
 ·refine ⟨gb, of, cap, e1, ?_⟩
  simp only [Instr.indexAt, asIntOf, e1, Sem.run_bind, Sem.run_pure, Result.andThen_ok, run_underlying hu, if_pos hk, (ht el te h3).run_size, h4, svs_add]
theorem val_indexG0 {α : Type} {T : Ty α} {L : List (List α)} {i tyo ty : Nat} {k : Int} {t el : Nat} {ti te : TI} {x ix : Operand} {ik : IntKind} (ht : tab.ok) (ho : o.op = .indexAddr t x ix) (h1 : tab t = some ti) (h2 : ti.sl = some el) (h3 : tab el = some te) (h4 : te.size = 1)
  (hx : evX S.F x = some (.sv (.one (.gs i 0)))) (hm : S.M[i]? = some (gridI tyo ty T L)) (hi : evK S.F ix = some (.int ik k)) (hk : 0 ≤ k ∧ k < (L.length : Int)) : Val c S o (.sv (.one (.ge i 0 k.toNat 1))) := fun a w g hs h => by
 have hv : a.eval x = gpart (hs i) 0 := (evX_ok h hx).1
 obtain ⟨us, r1, _⟩ := grid_out (h.items i _ hm)
 rw [← hv] at r1
 obtain ⟨b, of, cap, e1, e2⟩ := run_indexOwn (iv := a.eval ix) ht h1 h2 h3 h4 (by decide) r1 (evK_ok h hi) hk
 refine ⟨.pointer (some ⟨b, of + k.toNat * 1, none⟩), ?_, ⟨b, of, L.length, cap, by rw [← hv]; exact e1, rfl⟩, trivial⟩
 have : (execOp a.eval o) = (do pure (.value (← Instr.indexAt t (a.eval x) (a.eval ix))) : Sem Next) := by unfold execOp; rw [ho]
 rw [this]
 exact run_val e2
theorem val_indexG {α : Type} {T : Ty α} {L : List (List α)} {l : List α} {i p tyo ty : Nat} {k : Int} {t el : Nat} {ti te : TI} {x ix : Operand} {ik : IntKind} (ht : tab.ok) (ho : o.op = .indexAddr t x ix) (h1 : tab t = some ti) (h2 : ti.sl = some el) (h3 : tab el = some te) (h4 : te.size = T.s) (h5 : 0 < T.s)
  (hx : evX S.F x = some (.sv (.one (.gs i (p + 1))))) (hm : S.M[i]? = some (gridI tyo ty T L)) (hp : L[p]? = some l) (hi : evK S.F ix = some (.int ik k)) (hk : 0 ≤ k ∧ k < (l.length : Int)) : Val c S o (.sv (.one (.ge i (p + 1) k.toNat T.s))) := fun a w g hs h => by
 have hv : a.eval x = gpart (hs i) (p + 1) := (evX_ok h hx).1
 obtain ⟨cs, r1, _⟩ := grid_row (h.items i _ hm) hp
 rw [← hv] at r1
 obtain ⟨b, of, cap, e1, e2⟩ := run_indexOwn (iv := a.eval ix) ht h1 h2 h3 h4 h5 r1 (evK_ok h hi) hk
 refine ⟨.pointer (some ⟨b, of + k.toNat * T.s, none⟩), ?_, ⟨b, of, l.length, cap, by rw [← hv]; exact e1, rfl⟩, trivial⟩
 have : (execOp a.eval o) = (do pure (.value (← Instr.indexAt t (a.eval x) (a.eval ix))) : Sem Next) := by unfold execOp; rw [ho]
 rw [this]
 exact run_val e2
theorem own_cell {e s : Nat} {v : Value} {m : Nat} {cs : List Value} (hv : w.ownsAt e s v m cs) {b of cap q : Nat} (e1 : v = .slice (some ⟨b, of, none⟩) m cap) {k j : Nat} {u : Value} (hj : cs[k * s + j]? = some u) : w.cell? ((⟨b, of + k * s, none⟩ : Addr).add j) = some u := by
 obtain ⟨hl0, r1⟩ := hv
 rw [svs_add]
 rcases r1 with ⟨e3, _⟩ | ⟨gb, of', cap', cur, e3, e4, _, _, _, e5⟩
 ·rw [e1] at e3; cases e3
 ·rw [e1] at e3
  simp at e3
  obtain ⟨⟨rfl, rfl⟩, rfl⟩ := e3
  unfold World.cell?
  rw [e4]
  rw [← e5, List.getElem?_take] at hj
  split at hj
  ·rw [List.getElem?_drop] at hj
   simpa [Nat.add_assoc] using hj
  ·cases hj
theorem val_loadG0 {α : Type} {T : Ty α} {L : List (List α)} {i p tyo ty t : Nat} {ti : TI} {x : Operand} (ht : tab.ok) (ho : o.op = .load t x) (h1 : tab t = some ti) (h3 : ti.agg = false)
  (hx : evX S.F x = some (.sv (.one (.ge i 0 p 1)))) (hm : S.M[i]? = some (gridI tyo ty T L)) (hp : p < L.length) : Val c S o (.sv (.one (.gs i (p + 1)))) := fun a w g hs h => by
 obtain ⟨⟨b, of, nn, cap, e1, e2⟩, _⟩ := evX_ok h hx
 have hit := h.items i _ hm
 obtain ⟨us, r1, r2⟩ := grid_out hit
 obtain ⟨cs, r3, _⟩ := grid_row hit (List.getElem?_eq_getElem hp)
 have htk := ht t ti h1
 have hsl := ownsRow_slice r3
 have hcv : cellV (gpart (hs i) (p + 1)) := by obtain ⟨ao, m, cp, e⟩ := hsl; rw [e]; trivial
 have hnn : nn = L.length := by
  obtain ⟨_, r⟩ := r1
  rcases r with ⟨e3, _⟩ | ⟨gb, of', cap', cur, e3, _⟩
  ·rw [e1] at e3; cases e3
  ·rw [e1] at e3; simp at e3; exact e3.2.1
 subst hnn
 have hc := own_cell (q := 0) r1 e1 (k := p) (j := 0) (u := gpart (hs i) (p + 1)) (by rw [Nat.mul_one, Nat.add_zero]; exact r2 p hp)
 rw [svs_add, Nat.add_zero, Nat.mul_one] at hc
 have : (execOp a.eval o) = (do pure (.value (← Instr.loadAt t (a.eval x))) : Sem Next) := by unfold execOp; rw [ho]
 rw [this]
 refine ⟨gpart (hs i) (p + 1), run_val ?_, rfl, hcv⟩
 simp only [Instr.loadAt, e2, Instr.sureAddr, loadVar, Sem.run_bind, Sem.run_pure, Result.andThen_ok, htk.run_isAgg]
 rw [h3]
 simp [load, Sem.run, hc]
theorem val_loadG {α : Type} {T : Ty α} {L : List (List α)} {l : List α} {i p k tyo ty t : Nat} {y : α} {ti : TI} {x : Operand} (ht : tab.ok) (ho : o.op = .load t x) (h1 : tab t = some ti) (h2 : ti.size = T.s) (h3 : svFits ti (T.sv y) = true)
  (hx : evX S.F x = some (.sv (.one (.ge i (p + 1) k T.s)))) (hm : S.M[i]? = some (gridI tyo ty T L)) (hp : L[p]? = some l) (hy : l[k]? = some y) (hc : (T.sv y).refs = []) : Val c S o (.sv (T.sv y)) := fun a w g hs h => by
 obtain ⟨⟨b, of, nn, cap, e1, e2⟩, _⟩ := evX_ok h hx
 obtain ⟨cs, r1, r2⟩ := grid_row (h.items i _ hm) hp
 have htk := ht t ti h1
 have hnn : nn = l.length := by
  obtain ⟨_, r⟩ := r1
  rcases r with ⟨e3, _⟩ | ⟨gb, of', cap', cur, e3, _⟩
  ·rw [e1] at e3; cases e3
  ·rw [e1] at e3; simp at e3; exact e3.2.1
 subst hnn
 obtain ⟨u, u1, u2, u3⟩ := row_elem r2 hy
 have : (execOp a.eval o) = (do pure (.value (← Instr.loadAt t (a.eval x))) : Sem Next) := by unfold execOp; rw [ho]
 rw [this]
 have u1' : (T.sv y).ok g hs u := SV.ok_hs (fun i hi => by rw [hc] at hi; cases hi) u1
 refine ⟨u, run_val ?_, u1'⟩
 have hcell : ∀ j v, u.cells.toList[j]? = some v → w.cell? ((⟨b, of + k * T.s, none⟩ : Addr).add j) = some v := fun j v hj => own_cell (q := 0) r1 e1 (u3 j v (by simpa using hj))
 simp only [Instr.loadAt, e2, Instr.sureAddr, loadVar, Sem.run_bind, Sem.run_pure, Result.andThen_ok, htk.run_isAgg]
 cases hsv : T.sv y with
 | agg l' =>
  rw [hsv] at h3 u1
  simp only [svFits] at h3
  rw [h3]
  obtain ⟨cs', rfl, _⟩ := u1
  have hl := run_loadCells_list (P := Try.prog) w ⟨b, of + k * T.s, none⟩ cs' (by simpa [Value.cells] using hcell)
  have e5 : cs'.length = ti.size := by rw [h2, ← u2]; simp [Value.cells]
  rw [e5] at hl
  simp [htk.run_size, hl]
 | one x =>
  rw [hsv] at h3 u1
  have h3' : ti.agg = false ∧ cellV u := by
   have h6 := u1.2
   cases x <;> first | exact ⟨by simpa [svFits] using h3, h6⟩ | (simp [svFits] at h3)
  have hcv : u.cells = #[u] := cellV.cells h3'.2
  rw [h3'.1]
  have := hcell 0 u (by rw [hcv]; rfl)
  rw [svs_add, Nat.add_zero] at this
  simp [load, Sem.run, this]
theorem run_storeOwn {α : Type} {T : Ty α} {l : List α} {t e : Nat} {ti : TI} {v pv uv : Value} {k : Nat} {y : α} {cs : List Value} (htk : TI.ok t ti) (h2 : ti.size = T.s) (hT : T.solid) (r : w.ownsAt e T.s v l.length cs) (r2 : rowRead T l g cs) {b of nn cap : Nat} (e1 : v = .slice (some ⟨b, of, none⟩) nn cap) (e2 : pv = .pointer (some ⟨b, of + k * T.s, none⟩)) (hk : k < l.length)
  (hval0 : (T.sv y).ok g hs0 uv) (hz : (svCells (T.sv y)).length = T.s) : ∃ w', (Instr.storeAt t pv uv).run Try.prog w = .ok () w' ∧ w.grownBy w' (some b) ∧ ∃ cs', w'.ownsAt e T.s v l.length cs' ∧ rowRead T (l.set k y) g cs' := by
 obtain ⟨hl0, r1⟩ := r
 have hcells := sv_cells (hT y) hval0
 have hlen : uv.cells.toList.length = T.s := by rw [← oks_length hcells]; exact hz
 rcases r1 with ⟨e3, e4⟩ | ⟨gb, of', cap', cur, e3, e4, e5, e6, e7, e8⟩
 ·omega
 ·rw [e1] at e3
  simp at e3
  obtain ⟨⟨rfl, rfl⟩, rfl, rfl⟩ := e3
  have hkl : k * T.s + T.s ≤ l.length * T.s := by rw [← Nat.succ_mul]; exact Nat.mul_le_mul_right _ hk
  have hlc : of + l.length * T.s ≤ cur.size := Nat.le_trans (Nat.add_le_add_left (Nat.mul_le_mul_right _ e5) _) e7
  have hst := run_storeCells_at (P := Try.prog) b (of + k * T.s) e uv.cells.toList 0 cur w e4 (by rw [hlen, Nat.add_zero, Nat.add_assoc]; exact Nat.le_trans (Nat.add_le_add_left hkl _) hlc) (fun u hu => (oks_cells hcells u hu).one)
  simp only [Nat.add_zero] at hst
  refine ⟨w.setRow b (cur.toList.take (of + k * T.s) ++ uv.cells.toList ++ cur.toList.drop (of + k * T.s + uv.cells.toList.length)).toArray, ?_, ?_, ?_⟩
  ·simp only [Instr.storeAt, e2, Instr.sureAddr, storeVar, Sem.run_bind, Sem.run_pure, Result.andThen_ok, htk.run_size]
   rw [if_neg (by rw [h2]; simp at hlen; simp [hlen])]
   simp only [hst, Result.andThen_ok, Sem.run_pure]
  ·exact ⟨rfl, rfl, rfl, by simp, fun q hq hne => setRow_other w b q _ (fun e => hne (by rw [e]))⟩
  ·have hset := r2.set hk hval0 (by rw [← hlen]; simp)
   refine ⟨_, ⟨by have := hset.length; rw [List.length_set] at this; exact this, .inr ⟨b, of, cap, _, by rw [e1], setRow_heap w b _ _ _ _ e4, e5, e6, ?_, ?_⟩⟩, hset⟩
   ·simp only [List.size_toArray, List.length_append, List.length_take, List.length_drop, Array.length_toList] at hlen ⊢
    omega
   ·show (List.drop of (_ ++ uv.cells.toList ++ _)).take _ = _
    rw [drop_seg _ _ (by rw [Array.length_toList]; exact Nat.le_trans (Nat.add_le_add_left (Nat.le_trans (Nat.le_add_right _ _) hkl) _) hlc), ← e8, hlen]
    exact seg_take (cur.toList.drop of) uv.cells.toList (k * T.s) T.s (l.length * T.s) hlen hkl (by rw [List.length_drop, Array.length_toList]; exact Nat.le_sub_of_add_le (by rw [Nat.add_comm]; exact hlc))
theorem WL.storeG {α : Type} {T : Ty α} {L : List (List α)} {l : List α} {i p k tyo ty t : Nat} {y : α} {ti : TI} {x v : Operand} {S1 : St} (ht : tab.ok) (hn : c.n = n) (hw : wantE ops S.F o = some true) (ho : o.op = .store t x v) (h1 : tab t = some ti) (h2 : ti.size = T.s) (hT : T.solid)
  (hx : evX S.F x = some (.sv (.one (.ge i (p + 1) k T.s)))) (hm : S.M[i]? = some (gridI tyo ty T L)) (hp : L[p]? = some l) (hk : k < l.length) (hv : evX S.F v = some (.sv (T.sv y))) (hz : (svCells (T.sv y)).length = T.s) (hc : (T.sv y).refs = [])
  (e : putE n o.dst (.tup []) ⟨S.F, S.M.set i (gridI tyo ty T (L.set p (l.set k y)))⟩ = some S1) (h : WL c ops rest S1 N) : WL c ops (o :: rest) S N := fun a w ⟨g, hs, hh⟩ => by
 unfold wpList
 rw [if_pos (wantE_ok hh hw)]
 refine .inl ?_
 unfold Oper.wp
 obtain ⟨⟨b, of, nn, cap, e1, e2⟩, _⟩ := evX_ok hh hx
 have hit := hh.items i _ hm
 obtain ⟨cs, r1, r2⟩ := grid_row hit hp
 have hval : (T.sv y).ok g hs (a.eval v) := evX_ok hh hv
 have hval0 : (T.sv y).ok g hs0 (a.eval v) := SV.ok_hs (fun i hi => by rw [hc] at hi; cases hi) hval
 obtain ⟨w', k1, k2, cs', k3, k4⟩ := run_storeOwn (ht t ti h1) h2 hT r1 r2 e1 e2 hk hval0 hz
 obtain ⟨us, ocs, u1, u2, u3, u3', u4, u4', _, u5⟩ := hit
 have hpl := (List.getElem?_eq_some_iff.1 hp).1
 rw [List.length_map] at u2
 have hbp : blk (gpart (hs i) (p + 1)) = some b := by rw [e1]; rfl
 have hne : ∀ q, q < us.length → q ≠ p + 1 → (gpart (hs i) q).ownBlock = none ∨ (gpart (hs i) q).ownBlock ≠ some b := fun q hq hqp => by
  cases hb : (gpart (hs i) q).ownBlock with
  | none => exact .inl rfl
  | some b' => exact .inr (fun e => by cases e; exact u5 (p + 1) q b (by omega) hq (fun e => hqp e.symm) hbp (ownBlock_blk' hb))
 have hup := hh.updK (w' := w') (it' := gridI tyo ty T (L.set p (l.set k y))) hm rfl rfl (kb := some b) (fun b' e => by cases e; exact Blk.part u1 (by omega) hbp) k2 (by
  refine ⟨us, ocs, u1, by rw [List.length_map, List.length_set]; exact u2, ?_, u3', fun q r n hq => ?_, fun q hq => by rw [List.getElem?_map] at hq; cases hx : (L.set p (l.set k y))[q]? <;> (rw [hx] at hq; simp at hq), (fun p k e => by cases e), u5⟩
  ·rw [List.length_map, List.length_set]
   rw [List.length_map] at u3
   exact u3.kept k2 (hne 0 (by omega) (by omega))
  ·rw [List.getElem?_map, List.getElem?_set] at hq
   by_cases e : p = q
   ·subst e
    rw [if_pos rfl, if_pos hpl] at hq
    simp only [Option.map_some, Option.some.injEq, Prod.mk.injEq] at hq
    obtain ⟨rfl, rfl⟩ := hq
    rw [List.length_set]
    exact ⟨(u4 p (rowR T l) l.length (by rw [List.getElem?_map, hp]; rfl)).1, cs', k3, k4⟩
   ·rw [if_neg e] at hq
    obtain ⟨k0, cs2, k5, k6⟩ := u4 q r n (by rw [List.getElem?_map]; exact hq)
    have hql : q < L.length := by
     cases hL : L[q]? with
     | none => rw [hL] at hq; simp at hq
     | some _ => exact (List.getElem?_eq_some_iff.1 hL).1
    exact ⟨k0, cs2, k5.kept k2 (hne (q + 1) (by omega) (by omega)), k6⟩)
 have hrun : (execOp a.eval o).run Try.prog w = .ok .skip w' := by
  have : execOp a.eval o = (do Instr.storeAt t (a.eval x) (a.eval v); pure .skip : Sem Next) := by unfold execOp; rw [ho]
  rw [this]
  simp only [Sem.run_bind, k1, Result.andThen_ok, Sem.run_pure]
 rw [hrun]
 exact h _ _ ⟨g, hs, putE_ok hup hn undef_ok e⟩
end
def At.subG (a : At) (i : Nat) (b : At) : At := match a with
 | .gs j 0 => match Nat.beq j i with
  | true => b
  | false => .gs j 0
 | a => a
def SV.subG (s : SV) (i : Nat) (b : At) : SV := match s with
 | .one a => .one (a.subG i b)
 | .agg l => .agg (l.map (·.subG i b))
def SC.subG (x : SC) (i : Nat) (b : At) : SC := match x with
 | .sv s => .sv (s.subG i b)
 | .tup l => .tup (l.map (·.subG i b))
def Item.subG (it : Item) (i : Nat) (b : At) : Item := match it with
 | .box cells ty fz => .box (cells.map (·.subG i b)) ty fz
 | it => it
section
variable {g : Gh} {hs : Nat → Value} {i : Nat} {b : At}
theorem At.subG_ok (hb : b.ok g hs (gpart (hs i) 0)) {a : At} {u : Value} (h : a.ok g hs u) : (a.subG i b).ok g hs u := by
 unfold At.subG
 split
 ·rename_i j
  cases hj : Nat.beq j i with
  | true =>
   have := Nat.eq_of_beq_eq_true hj
   subst this
   have : u = gpart (hs j) 0 := h.1
   subst this
   exact hb
  | false => exact h
 ·exact h
theorem oks_subG (hb : b.ok g hs (gpart (hs i) 0)) : ∀ {l : List At} {us : List Value}, oks g hs l us → oks g hs (l.map (·.subG i b)) us
 | [], [], _ => trivial
 | [], _ :: _, h => h.elim
 | _ :: _, [], h => h.elim
 | _ :: _, _ :: _, h => ⟨At.subG_ok hb h.1, h.2.1, oks_subG hb h.2.2⟩
theorem SV.subG_ok (hb : b.ok g hs (gpart (hs i) 0)) {a : SV} {u : Value} (h : a.ok g hs u) : (a.subG i b).ok g hs u := by
 cases a with
 | one a => exact At.subG_ok hb h
 | agg l =>
  obtain ⟨cs, h1, h2⟩ := h
  exact ⟨cs, h1, oks_subG hb h2⟩
theorem svs_subG (hb : b.ok g hs (gpart (hs i) 0)) : ∀ {l : List SV} {us : List Value}, SV.oks g hs l us → SV.oks g hs (l.map (·.subG i b)) us
 | [], [], _ => trivial
 | [], _ :: _, h => h.elim
 | _ :: _, [], h => h.elim
 | _ :: _, _ :: _, h => ⟨SV.subG_ok hb h.1, svs_subG hb h.2⟩
theorem SC.subG_ok (hb : b.ok g hs (gpart (hs i) 0)) {a : SC} {u : Value} (h : a.ok g hs u) : (a.subG i b).ok g hs u := by
 cases a with
 | sv s => exact SV.subG_ok hb h
 | tup l =>
  obtain ⟨cs, h1, h2⟩ := h
  exact ⟨cs, h1, svs_subG hb h2⟩
end
section
variable {c : Cfg} {S S1 : St} {a : Act} {w : World} {g : Gh} {hs : Nat → Value} {tab : Tab} {n : Nat} {o : Oper} {ops : Array Oper} {rest L : List Oper} {N : Po}
theorem grid_LS {α : Type} {T : Ty α} {L : List (List α)} {tyo ty : Nat} {v : Value} {g' : Gh} (h : (gridI tyo ty T L).ok g hs w v) (hle : Gh.le g g') (hb : ∀ b, Blk v b → g' b = w.heap[b]?) : (LS (lsT T) L).ok g' hs (gpart v 0) := by
 have hrow := fun p l hp => grid_row h (p := p) (l := l) hp
 obtain ⟨us, ocs, hv, h2, h3, hsl, h4, _, _, h5⟩ := h
 rw [List.length_map] at h2 h3
 have hg : ∀ k, k < us.length → ∀ b, (gpart v k).ownBlock = some b → g' b = w.heap[b]? := fun k hk b e => hb b (Blk.part hv hk (ownBlock_blk' e))
 have hlo : ocs.length = L.length := by have := h3.1; omega
 have hd : ∀ p u, ocs[p]? = some u → p < L.length ∧ u = gpart v (p + 1) := fun p u hp => by
  have hlt := (List.getElem?_eq_some_iff.1 hp).1
  have hlt' : p < L.length := by omega
  refine ⟨hlt', ?_⟩
  have := (h4 p (rowR T L[p]) L[p].length (by rw [List.getElem?_map, List.getElem?_eq_getElem hlt']; rfl)).1
  rw [hp] at this
  exact Option.some.inj this
 have hcell : ∀ u ∈ ocs, u.cells = #[u] := fun u hu => by
  obtain ⟨ao, m, cp, e⟩ := hsl u hu
  rw [e]
  rfl
 have h3' : w.ownsAt tyo (lsT T).s (gpart v 0) L.length ocs := h3
 refine row_LS h3' (g := g') ⟨ocs, ?_, hlo, fun k u l hu hl => ?_⟩ (fun _ _ e => e) (hg 0 (by omega))
 ·have : ∀ l : List Value, (∀ u ∈ l, u.cells = #[u]) → l = l.flatMap fun u => u.cells.toList := fun l => by
   induction l with
   | nil => intro _; rfl
   | cons u l ih =>
    intro hc
    rw [List.flatMap_cons, hc u List.mem_cons_self, ← ih fun x hx => hc x (List.mem_cons_of_mem _ hx)]
    rfl
  exact this _ hcell
 ·obtain ⟨h6, rfl⟩ := hd k u hu
  obtain ⟨cs, r1, r2⟩ := hrow k l hl
  refine ⟨row_LS r1 r2 hle (hg (k + 1) (by omega)), ?_⟩
  rw [hcell _ (List.mem_of_getElem? hu)]
  rfl
def sealG (S : St) (i : Nat) (b : At) : St := ⟨S.F.map fun e => (e.1, e.2.subG i b), (S.M.set i .gone).map (·.subG i b)⟩
theorem Ok'.sealG' {α : Type} {T : Ty α} {L : List (List α)} {tyo ty i : Nat} (h : Ok' c S a w g hs) (hm : S.M[i]? = some (gridI tyo ty T L)) : ∃ g', Gh.le g g' ∧ (∀ b, Blk (hs i) b → g' b = w.heap[b]?) ∧ Ok' c (sealG S i (LS (lsT T) L)) a w g' hs := by
 classical
 have hit := h.items i _ hm
 have hmine := h.mine i _ hm (by simp)
 let g' : Gh := fun x => if Blk (hs i) x then w.heap[x]? else g x
 have hle : Gh.le g g' := fun x o e => by
  show (if Blk (hs i) x then _ else g x) = some o
  by_cases hx : Blk (hs i) x
  ·have := (hmine x hx).2 rfl
   rw [this.2] at e
   cases e
  ·rw [if_neg hx]; exact e
 have hb : (LS (lsT T) L).ok g' hs (gpart (hs i) 0) := grid_LS hit hle (fun b hb => if_pos hb)
 have hset : ∀ (j : Nat) (jt : Item), ((S.M.set i .gone).map (·.subG i (LS (lsT T) L)))[j]? = some jt → jt ≠ .gone → ∃ kt, j ≠ i ∧ S.M[j]? = some kt ∧ jt = kt.subG i (LS (lsT T) L) ∧ kt ≠ .gone ∧ jt.fz = kt.fz := fun j jt hj hn => by
  rw [List.getElem?_map, List.getElem?_set] at hj
  by_cases e : i = j
  ·rw [if_pos e] at hj
   split at hj
   ·simp [Item.subG] at hj
    exact absurd hj.symm hn
   ·cases hj
  ·rw [if_neg e] at hj
   cases hk : S.M[j]? with
   | none => rw [hk] at hj; cases hj
   | some kt =>
    rw [hk] at hj
    simp at hj
    refine ⟨kt, Ne.symm e, rfl, hj.symm, fun e => ?_, ?_⟩
    ·subst e; exact hn hj.symm
    ·rw [← hj]; cases kt <;> rfl
 refine ⟨g', hle, fun b hb => if_pos hb, h.size, h.defers, ⟨h.base.os, h.base.tape, h.base.output, h.base.grows, h.base.frame, h.base.ghle.trans hle, fun x o e => ?_, fun x o e => ?_⟩, fun t x hx => ?_, fun j jt hj => ?_, fun j k jt kt hjk hj hk hfj hnk x hx => ?_, fun j jt hj hnj x hx => ?_⟩
 ·by_cases hx : Blk (hs i) x
  ·exact .inr ((hmine x hx).2 rfl).1
  ·rw [show g' x = g x from if_neg hx] at e
   exact h.base.ghnew x o e
 ·by_cases hx : Blk (hs i) x
  ·rw [show g' x = w.heap[x]? from if_pos hx] at e
   exact e
  ·rw [show g' x = g x from if_neg hx] at e
   exact h.base.pers x o e
 ·obtain ⟨y, hy, e⟩ := List.mem_map.1 hx
  cases e
  exact SC.subG_ok hb (SC.mono hle (h.slots _ _ hy))
 ·by_cases hn : jt = .gone
  ·subst hn; trivial
  ·obtain ⟨kt, h1, h2, rfl, h3, _⟩ := hset j jt hj hn
   have h4 := Item.mono hle (h.items j kt h2)
   cases kt with
   | box cells ty fz =>
    obtain ⟨b, us, k1, k2, k3, k4⟩ := h4
    exact ⟨b, us, k1, oks_subG hb k2, k3, k4⟩
   | _ => exact h4
 ·obtain ⟨jt', h1, h2, rfl, h3, h4⟩ := hset j jt hj (fz_gone hfj)
  obtain ⟨kt', k1, k2, rfl, k3, k4⟩ := hset k kt hk hnk
  exact h.sep j k jt' kt' hjk h2 k2 (by rw [← h4]; exact hfj) k3 x hx
 ·obtain ⟨jt', h1, h2, rfl, h3, h4⟩ := hset j jt hj hnj
  obtain ⟨m1, m2⟩ := h.mine j jt' h2 h3 x hx
  refine ⟨m1, fun hf => ?_⟩
  rw [h4] at hf
  refine ⟨(m2 hf).1, ?_⟩
  have hx' : ¬ Blk (hs i) x := fun e => h.sep j i jt' _ h1 h2 hm hf (by simp) x hx e
  rw [show g' x = g x from if_neg hx']
  exact (m2 hf).2
theorem Ok'.sealG {α : Type} {T : Ty α} {L : List (List α)} {tyo ty i : Nat} (h : Ok' c S a w g hs) (hm : S.M[i]? = some (gridI tyo ty T L)) : ∃ g', Ok' c (Proofs.Ytobenjahlicnoaa.sealG S i (LS (lsT T) L)) a w g' hs := by
 obtain ⟨g', _, _, h'⟩ := h.sealG' hm
 exact ⟨g', h'⟩
theorem WL.sealG {α : Type} {T : Ty α} {L' : List (List α)} {tyo ty : Nat} (i : Nat) (hm : S.M[i]? = some (gridI tyo ty T L')) (h : WL c ops L (sealG S i (LS (lsT T) L')) N) : WL c ops L S N := fun a w ⟨g, hs, hk⟩ => by
 obtain ⟨g', hk'⟩ := hk.sealG hm
 exact h a w ⟨g', hs, hk'⟩
theorem En.sealG {α : Type} {T : Ty α} {L' : List (List α)} {tyo ty : Nat} (i : Nat) (hm : S.M[i]? = some (gridI tyo ty T L')) (h : En c (Proofs.Ytobenjahlicnoaa.sealG S i (LS (lsT T) L')) N) : En c S N := fun a w ⟨g, hs, hk⟩ => by
 obtain ⟨g', hk'⟩ := hk.sealG hm
 exact h a w ⟨g', hs, hk'⟩
theorem own_slice {e : TypeId} {s m : Nat} {v : Value} {cs : List Value} (h : w.ownsAt e s v m cs) : ∃ ao cap, v = .slice ao m cap := by
 obtain ⟨_, h⟩ := h
 rcases h with ⟨rfl, rfl⟩ | ⟨gb, of, cap, cur, rfl, _⟩
 ·exact ⟨none, 0, rfl⟩
 ·exact ⟨_, cap, rfl⟩
theorem run_lenOwn {t el : Nat} {ti : TI} {x : Operand} {e : TypeId} {s m : Nat} {cs : List Value} (ht : tab.ok) (ho : o.op = .call ⟨.builtin .len, #[x], #[t]⟩) (h1 : tab t = some ti) (h2 : ti.sl = some el) (h : w.ownsAt e s (a.eval x) m cs) : (execOp a.eval o).run Try.prog w = .ok (.value (.int .i64 m)) w := by
 have hu := slT_some ((ht t ti h1).sl.trans h2)
 obtain ⟨ao, cap, e1⟩ := own_slice h
 have : execOp a.eval o = (do pure (.value (← Builtin.len_ #[t] o.type #[a.eval x])) : Sem Next) := by
  unfold execOp
  rw [ho]
  simp [resolve, invoke, builtin]
 rw [this, e1]
 exact run_val (len_slice hu w)
theorem val_lenG0 {α : Type} {T : Ty α} {L : List (List α)} {i tyo ty t el : Nat} {ti : TI} {x : Operand} (ht : tab.ok) (ho : o.op = .call ⟨.builtin .len, #[x], #[t]⟩) (h1 : tab t = some ti) (h2 : ti.sl = some el) (hx : evX S.F x = some (.sv (.one (.gs i 0)))) (hm : S.M[i]? = some (gridI tyo ty T L)) : Val c S o (.sv (.one (I (L.length : Int)))) := fun a w g hs h => by
 obtain ⟨us, r1, _⟩ := grid_out (h.items i _ hm)
 have hv : a.eval x = gpart (hs i) 0 := (evX_ok h hx).1
 rw [← hv] at r1
 exact ⟨_, run_lenOwn ht ho h1 h2 r1, rfl, trivial⟩
def nilT : Ty Unit := ⟨1, fun _ => .one (.v (.slice none 0 0))⟩
theorem nil_cells {k : Nat} {cs : List Value} (h : rowRead nilT (List.replicate k ()) g cs) : cs = List.replicate k (.slice none 0 0) := by
 obtain ⟨us, rfl, h2, h3⟩ := h
 have hu : ∀ u ∈ us, u = .slice none 0 0 := fun u hu => by
  obtain ⟨q, hq⟩ := List.mem_iff_getElem?.1 hu
  have hlt := (List.getElem?_eq_some_iff.1 hq).1
  rw [h2, List.length_replicate] at hlt
  exact (h3 q u () hq (by simp [hlt])).1.1
 have e : us = List.replicate k (.slice none 0 0) := List.eq_replicate_iff.2 ⟨by rw [h2, List.length_replicate], hu⟩
 subst e
 clear hu h2 h3
 induction k with
 | zero => rfl
 | succ k ih =>
  rw [List.replicate_succ, List.flatMap_cons, ih]
  rfl
theorem mt_makeG {α : Type} (T : Ty α) (ty : Nat) {zv : Value} (p : Nat) {t e : Nat} {ti te : TI} {x y : Operand} {k1 k2 : IntKind} {l cp : Int} (ht : tab.ok) (ho : o.op = .makeSlice t x y) (h1 : tab t = some ti) (h2 : ti.sl = some e) (h3 : tab e = some te) (h4 : te.size = 1)
  (hx : evK S.F x = some (.int k1 l)) (hy : evK S.F y = some (.int k2 cp)) (hl0 : 0 ≤ l) (hlc : l ≤ cp) (hb : cp * te.bytes ≤ 140737488355328) (hb2 : cp ≤ 140737488355328) (hzc : zv.cells.toList = te.zero) (hz : zv = .slice none 0 0) :
  MT c S o (.sv (.one (.gs p 0))) [] (some (p, gridI e ty T (List.replicate l.toNat []))) := fun a w g hs h N Z hN =>
 mt_make (T := nilT) () p ht ho h1 h2 h3 h4 (by decide) hx hy hl0 hlc hb hb2 hzc (fun _ => by subst hz; exact ⟨rfl, trivial⟩) a w g hs h N Z fun v w' g' h' m1 m2 m3 => by
  obtain ⟨⟨cs, k1, k2⟩, k3⟩ := m3
  have hcs := nil_cells k2
  subst hcs
  rw [List.length_replicate] at k1
  have hv : v = h' := by
   have := m2.1
   have e : newH hs (some (p, rowI e nilT (List.replicate l.toNat ()))) h' p = h' := by simp [newH]
   exact this.trans e
  refine hN v w' g' (.tuple (h' :: List.replicate l.toNat (.slice none 0 0)).toArray) m1 ⟨?_, m2.2⟩ ⟨⟨_, List.replicate l.toNat (.slice none 0 0), rfl, ?_, ?_, fun u hu => ⟨none, 0, 0, List.eq_of_mem_replicate hu⟩, fun q r n hq => ?_, fun q hq => ?_, (fun p k e => by cases e), fun q q' b hq hq' hne hb1 hb2 => ?_⟩, fun b hb1 => ?_⟩
  ·show v = gpart (if p = p then _ else hs p) 0
   rw [if_pos rfl, hv]
   rfl
  ·simp
  ·rw [List.length_map, List.length_replicate]
   exact k1
  ·rw [List.getElem?_map, List.getElem?_replicate] at hq
   split at hq
   ·rename_i hlt
    simp only [Option.map_some, Option.some.injEq, Prod.mk.injEq] at hq
    obtain ⟨rfl, rfl⟩ := hq
    have : gpart (.tuple (h' :: List.replicate l.toNat (.slice none 0 0)).toArray) (q + 1) = .slice none 0 0 := by
     show (h' :: List.replicate l.toNat (.slice none 0 0)).getD (q + 1) undef = _
     simp [hlt]
    rw [this]
    refine ⟨by simp [hlt], [], ?_, rowRead.nil⟩
    exact World.ownsAt_nil _ _ _
   ·cases hq
  ·rw [List.getElem?_map, List.getElem?_replicate] at hq
   split at hq <;> simp at hq
  ·have hnil : ∀ q, q < l.toNat + 1 → q ≠ 0 → blk (gpart (.tuple (h' :: List.replicate l.toNat (.slice none 0 0)).toArray) q) = none := fun q hq h0 => by
    obtain ⟨k, rfl⟩ : ∃ k, q = k + 1 := ⟨q - 1, by omega⟩
    show blk ((h' :: List.replicate l.toNat (.slice none 0 0)).getD (k + 1) undef) = none
    have : k < l.toNat := by omega
    simp [this, blk]
   simp only [List.length_cons, List.length_replicate] at hq hq'
   by_cases e1 : q = 0
   ·rw [hnil q' hq' (by omega)] at hb2
    cases hb2
   ·rw [hnil q hq e1] at hb1
    cases hb1
  ·obtain ⟨u, hu, hub⟩ := hb1
   rcases List.mem_cons.1 hu with rfl | hu
   ·exact k3 b (Blk.of hub)
   ·rw [List.eq_of_mem_replicate hu] at hub
    cases hub
end
def At.keepG (i j : Nat) : At → Bool
 | .gs k q => !(Nat.beq k j) && (!(Nat.beq k i) || Nat.beq q 0)
 | .ge k q _ _ => !(Nat.beq k j) && (!(Nat.beq k i) || Nat.beq q 0)
 | a => a.refs.all fun k => !(Nat.beq k j) && !(Nat.beq k i)
def SV.keepG (i j : Nat) : SV → Bool
 | .one a => a.keepG i j
 | .agg l => l.all (·.keepG i j)
def SC.keepG (i j : Nat) : SC → Bool
 | .sv s => s.keepG i j
 | .tup l => l.all (·.keepG i j)
def Item.keepG (i j : Nat) : Item → Bool
 | .box cells _ _ => cells.all (·.keepG i j)
 | .iter k _ => !(Nat.beq k j) && !(Nat.beq k i)
 | .grid _ _ _ _ (some (_, k)) => !(Nat.beq k j) && !(Nat.beq k i)
 | _ => true
def dropG (i j : Nat) (F : List (Nat × SC)) : List (Nat × SC) := F.filter fun e => e.2.keepG i j
theorem beq_ne {a b : Nat} (h : (!(Nat.beq a b)) = true) : a ≠ b := fun e => by subst e; simp at h
section
variable {g : Gh} {hs hs' : Nat → Value} {i j : Nat}
theorem At.keepG_ok (h0 : gpart (hs' i) 0 = gpart (hs i) 0) (h1 : ∀ k, k ≠ i → k ≠ j → hs' k = hs k) {a : At} {u : Value} (hk : a.keepG i j = true) (h : a.ok g hs u) : a.ok g hs' u := by
 have gen : ∀ a : At, (a.refs.all fun k => !(Nat.beq k j) && !(Nat.beq k i)) = true → a.ok g hs u → a.ok g hs' u := fun a hk h => At.ok_hs (fun k hk' => by
  have := List.all_eq_true.1 hk k hk'
  rw [Bool.and_eq_true] at this
  exact h1 k (beq_ne this.2) (beq_ne this.1)) h
 have gp : ∀ k q, (!(Nat.beq k j) && (!(Nat.beq k i) || Nat.beq q 0)) = true → gpart (hs' k) q = gpart (hs k) q := fun k q hk => by
  rw [Bool.and_eq_true, Bool.or_eq_true] at hk
  by_cases e : k = i
  ·subst e
   rcases hk.2 with h2 | h2
   ·exact absurd rfl (beq_ne h2)
   ·have := Nat.eq_of_beq_eq_true h2
    subst this
    exact h0
  ·rw [h1 k e (beq_ne hk.1)]
 cases a with
 | gs k q =>
  obtain ⟨h2, h3⟩ := h
  refine ⟨?_, h3⟩
  show u = gpart (hs' k) q
  rw [gp k q hk]
  exact h2
 | ge k q m s =>
  obtain ⟨⟨b, o, n, cap, h2, h3⟩, h4⟩ := h
  exact ⟨⟨b, o, n, cap, by rw [gp k q hk]; exact h2, h3⟩, h4⟩
 | _ => exact gen _ hk h
theorem oks_keepG (h0 : gpart (hs' i) 0 = gpart (hs i) 0) (h1 : ∀ k, k ≠ i → k ≠ j → hs' k = hs k) : ∀ {l : List At} {us : List Value}, l.all (·.keepG i j) = true → oks g hs l us → oks g hs' l us
 | [], [], _, _ => trivial
 | [], _ :: _, _, h => h.elim
 | _ :: _, [], _, h => h.elim
 | _ :: _, _ :: _, hk, h => by
  rw [List.all_cons, Bool.and_eq_true] at hk
  exact ⟨At.keepG_ok h0 h1 hk.1 h.1, h.2.1, oks_keepG h0 h1 hk.2 h.2.2⟩
theorem SV.keepG_ok (h0 : gpart (hs' i) 0 = gpart (hs i) 0) (h1 : ∀ k, k ≠ i → k ≠ j → hs' k = hs k) {a : SV} {u : Value} (hk : a.keepG i j = true) (h : a.ok g hs u) : a.ok g hs' u := by
 cases a with
 | one a => exact At.keepG_ok h0 h1 hk h
 | agg l =>
  obtain ⟨cs, h2, h3⟩ := h
  exact ⟨cs, h2, oks_keepG h0 h1 hk h3⟩
theorem svs_keepG (h0 : gpart (hs' i) 0 = gpart (hs i) 0) (h1 : ∀ k, k ≠ i → k ≠ j → hs' k = hs k) : ∀ {l : List SV} {us : List Value}, l.all (·.keepG i j) = true → SV.oks g hs l us → SV.oks g hs' l us
 | [], [], _, _ => trivial
 | [], _ :: _, _, h => h.elim
 | _ :: _, [], _, h => h.elim
 | _ :: _, _ :: _, hk, h => by
  rw [List.all_cons, Bool.and_eq_true] at hk
  exact ⟨SV.keepG_ok h0 h1 hk.1 h.1, svs_keepG h0 h1 hk.2 h.2⟩
theorem SC.keepG_ok (h0 : gpart (hs' i) 0 = gpart (hs i) 0) (h1 : ∀ k, k ≠ i → k ≠ j → hs' k = hs k) {a : SC} {u : Value} (hk : a.keepG i j = true) (h : a.ok g hs u) : a.ok g hs' u := by
 cases a with
 | sv s => exact SV.keepG_ok h0 h1 hk h
 | tup l =>
  obtain ⟨us, h2, h3⟩ := h
  exact ⟨us, h2, svs_keepG h0 h1 hk h3⟩
theorem Item.keepG_ok (h0 : gpart (hs' i) 0 = gpart (hs i) 0) (h1 : ∀ k, k ≠ i → k ≠ j → hs' k = hs k) {w : World} {x : Value} {it : Item} (hk : it.keepG i j = true) (h : it.ok g hs w x) : it.ok g hs' w x := by
 cases it with
 | box cells ty fz =>
  obtain ⟨b, cs, h2, h3, h4⟩ := h
  exact ⟨b, cs, h2, oks_keepG h0 h1 hk h3, h4⟩
 | iter k r =>
  obtain ⟨rb, m, clock, seen, h2, h3, h4⟩ := h
  rw [Item.keepG, Bool.and_eq_true] at hk
  exact ⟨rb, m, clock, seen, h2, (h1 k (beq_ne hk.2) (beq_ne hk.1)).trans h3, h4⟩
 | grid tyo ty s rows link =>
  obtain ⟨us, ocs, u1, u2, u3, u4, u5, u6, u7, u8⟩ := h
  refine ⟨us, ocs, u1, u2, u3, u4, u5, u6, fun p k hl => ?_, u8⟩
  subst hl
  rw [Item.keepG, Bool.and_eq_true] at hk
  rw [h1 k (beq_ne hk.2) (beq_ne hk.1)]
  exact u7 p k rfl
 | _ => exact h
end
def rawT : Ty Value := ⟨1, fun v => .one (.v v)⟩
theorem rawT_solid : rawT.solid := fun a e => by cases e
theorem raw_cells {g : Gh} {l cs : List Value} (h : rowRead rawT l g cs) : cs = l := by
 obtain ⟨us, rfl, h2, h3⟩ := h
 induction us generalizing l with
 | nil => cases l with
  | nil => rfl
  | cons _ _ => simp at h2
 | cons u us ih =>
  cases l with
  | nil => simp at h2
  | cons v l =>
   obtain ⟨⟨h4, h5⟩, _⟩ := h3 0 u v rfl rfl
   have h4 : u = v := h4
   subst h4
   rw [List.flatMap_cons, cellV.cells h5, ih (by simpa using h2) fun q x y hx hy => h3 (q + 1) x y (by simpa using hx) (by simpa using hy)]
   rfl
theorem raw_read {g : Gh} {l : List Value} (h : ∀ u ∈ l, ∃ ao m cap, u = .slice ao m cap) : rowRead rawT l g l := by
 have hc : ∀ u ∈ l, cellV u := fun u hu => by obtain ⟨_, _, _, rfl⟩ := h u hu; trivial
 clear h
 refine ⟨l, ?_, rfl, fun q u v hu hv => ?_⟩
 ·induction l with
  | nil => rfl
  | cons u l ih =>
   rw [List.flatMap_cons, cellV.cells (hc u List.mem_cons_self), ← ih fun x hx => hc x (List.mem_cons_of_mem _ hx)]
   rfl
 ·rw [hu] at hv
  cases hv
  have h1 := hc u (List.mem_of_getElem? hu)
  exact ⟨⟨rfl, h1⟩, by rw [cellV.cells h1]; rfl⟩
theorem gpart_set_same {us : List Value} {k : Nat} {v : Value} (h : k < us.length) : gpart (.tuple (us.set k v).toArray) k = v := by
 show (us.set k v).getD k undef = v
 simp [h]
theorem gpart_set_ne {us : List Value} {k q : Nat} {v : Value} (h : q ≠ k) : gpart (.tuple (us.set k v).toArray) q = gpart (.tuple us.toArray) q := by
 show (us.set k v).getD q undef = us.getD q undef
 simp [List.getD_eq_getElem?_getD, List.getElem?_set, Ne.symm h]
theorem Blk_set {us : List Value} {k b : Nat} {v : Value} (h : Blk (.tuple (us.set k v).toArray) b) : Blk (.tuple us.toArray) b ∨ blk v = some b := by
 obtain ⟨u, hu, e⟩ := h
 rcases List.mem_or_eq_of_mem_set hu with h1 | h1
 ·exact .inl ⟨u, h1, e⟩
 ·exact .inr (h1 ▸ e)
section
variable {c : Cfg} {S S1 : St} {a : Act} {w : World} {g : Gh} {hs : Nat → Value} {tab : Tab} {n : Nat} {o : Oper} {ops : Array Oper} {rest : List Oper} {N : Po}
theorem Ok'.putG (h : Ok' c S a w g hs) {i j p tyo ty s m : Nat} {rows : List (Option (Rl (List Value) × Nat))} {link : Option (Nat × Nat)} {r : Rl (List Value)} (hm : S.M[i]? = some (.grid tyo ty s rows link)) (hj : S.M[j]? = some (.row ty s r m)) (hp : p < rows.length)
  {b of nn cap : Nat} (e1 : gpart (hs i) 0 = .slice (some ⟨b, of, none⟩) nn cap) {t : Nat} {ti : TI} (htk : TI.ok t ti) (hts : ti.size = 1) (hkM : S.M.all (·.keepG i j) = true) :
  ∃ w' hs', (Instr.storeAt t (.pointer (some ⟨b, of + p * 1, none⟩)) (hs j)).run Try.prog w = .ok () w' ∧ Ok' c ⟨dropG i j S.F, (S.M.set i (.grid tyo ty s (rows.set p (some (r, m))) none)).set j .gone⟩ a w' g hs' := by
 have hij : i ≠ j := fun e => by subst e; rw [hm] at hj; cases hj
 have hit := h.items i _ hm
 obtain ⟨csj, hcj, hrj⟩ := h.items j _ hj
 obtain ⟨us, ocs, u1, u2, u3, u3', u4, u4', uk, u5⟩ := hit
 have hlo : ocs.length = rows.length := by have := u3.1; omega
 have hslj := own_slice hcj
 have hcvj : cellV (hs j) := by obtain ⟨_, _, e⟩ := hslj; rw [e]; trivial
 have hcj1 := cellV.cells hcvj
 rw [← hlo] at u3
 obtain ⟨w', k1, k2, cs', k3, k4⟩ := run_storeOwn (T := rawT) (l := ocs) (y := hs j) (k := p) (g := g) (t := t) (nn := nn) (cap := cap) (pv := .pointer (some ⟨b, of + p * 1, none⟩)) htk (by rw [hts]; rfl) rawT_solid u3 (raw_read u3') e1 rfl (by omega) ⟨rfl, hcvj⟩ rfl
 have := raw_cells k4
 subst this
 have hbi : Blk (hs i) b := Blk.part u1 (k := 0) (by omega) (by rw [e1]; rfl)
 have hl0 : p + 1 < us.length := by omega
 let hs' : Nat → Value := fun k => if k = i then .tuple (us.set (p + 1) (hs j)).toArray else hs k
 have hsi : hs' i = .tuple (us.set (p + 1) (hs j)).toArray := if_pos rfl
 have hsk : ∀ k, k ≠ i → hs' k = hs k := fun k hk => if_neg hk
 have hg0 : gpart (hs' i) 0 = gpart (hs i) 0 := by rw [hsi, gpart_set_ne (by omega), u1]
 have hgp : gpart (hs' i) (p + 1) = hs j := by rw [hsi, gpart_set_same hl0]
 have hgq : ∀ q, q ≠ p + 1 → gpart (hs' i) q = gpart (hs i) q := fun q hq => by rw [hsi, gpart_set_ne hq, u1]
 have hbj : ∀ b', blk (hs j) = some b' → ¬ Blk (hs i) b' := fun b' e => h.sep j i _ _ (Ne.symm hij) hj hm rfl (by simp) b' (Blk.of e)
 have hbs : ∀ b', Blk (hs' i) b' → Blk (hs i) b' ∨ blk (hs j) = some b' := fun b' hb => by
  rw [hsi] at hb
  rw [u1]
  exact Blk_set hb
 have hne : ∀ q, q < us.length → q ≠ 0 → (gpart (hs i) q).ownBlock = none ∨ (gpart (hs i) q).ownBlock ≠ some b := fun q hq hq0 => by
  cases hb : (gpart (hs i) q).ownBlock with
  | none => exact .inl rfl
  | some b' => exact .inr (fun e => by cases e; exact u5 0 q b (by omega) hq (fun e => hq0 e.symm) (by rw [e1]; rfl) (ownBlock_blk' hb))
 have hset : ∀ (k : Nat) (kt : Item), (((S.M.set i (.grid tyo ty s (rows.set p (some (r, m))) none)).set j .gone))[k]? = some kt → kt ≠ .gone → (k = i ∧ kt = .grid tyo ty s (rows.set p (some (r, m))) none) ∨ (k ≠ i ∧ k ≠ j ∧ S.M[k]? = some kt) := fun k kt hk hn => by
  rw [List.getElem?_set] at hk
  by_cases ej : j = k
  ·rw [if_pos ej] at hk
   split at hk
   ·simp at hk; exact absurd hk.symm hn
   ·cases hk
  ·rw [if_neg ej, List.getElem?_set] at hk
   by_cases ei : i = k
   ·rw [if_pos ei] at hk
    split at hk
    ·simp at hk; exact .inl ⟨ei.symm, hk.symm⟩
    ·cases hk
   ·rw [if_neg ei] at hk
    exact .inr ⟨Ne.symm ei, Ne.symm ej, hk⟩
 refine ⟨w', hs', k1, h.size, h.defers, h.base.kept k2 (fun b' e => by cases e; exact (h.mine i _ hm (by simp) b hbi).2 rfl), fun t x hx => ?_, fun k kt hk => ?_, fun k l kt lt hkl hk hl hf hn b' hb => ?_, fun k kt hk hn b' hb => ?_⟩
 ·obtain ⟨hx1, hx2⟩ := List.mem_filter.1 hx
  exact SC.keepG_ok hg0 (fun k hk _ => hsk k hk) hx2 (h.slots t x hx1)
 ·by_cases hn : kt = .gone
  ·subst hn; trivial
  ·rcases hset k kt hk hn with ⟨rfl, rfl⟩ | ⟨h1, h2, h3⟩
   ·refine ⟨us.set (p + 1) (hs j), ocs.set p (hs j), hsi, by simp [u2], ?_, fun u hu => ?_, fun q r' n' hq => ?_, fun q hq => ?_, (fun p k e => by cases e), fun q q' b' hq hq' hqq hb1 hb2 => ?_⟩
    ·rw [hg0, List.length_set, ← hlo]
     exact k3
    ·rcases List.mem_or_eq_of_mem_set hu with hu | hu
     ·exact u3' u hu
     ·obtain ⟨ao, cp, e⟩ := hslj
      exact ⟨ao, m, cp, hu.trans e⟩
    ·rw [List.getElem?_set] at hq
     by_cases e : p = q
     ·subst e
      rw [if_pos rfl, if_pos hp] at hq
      simp only [Option.some.injEq, Prod.mk.injEq] at hq
      obtain ⟨rfl, rfl⟩ := hq
      rw [hgp]
      refine ⟨by rw [List.getElem?_set_self (by omega)], csj, hcj.kept k2 ?_, hrj⟩
      cases hb : (hs j).ownBlock with
      | none => exact .inl rfl
      | some b' => exact .inr (fun e => by cases e; exact hbj b (ownBlock_blk' hb) hbi)
     ·rw [if_neg e] at hq
      have hql := (List.getElem?_eq_some_iff.1 hq).1
      obtain ⟨k5, cs2, k6, k7⟩ := u4 q r' n' hq
      rw [hgq (q + 1) (by omega)]
      exact ⟨by rw [List.getElem?_set_ne e]; exact k5, cs2, k6.kept k2 (hne (q + 1) (by omega) (by omega)), k7⟩
    ·rw [List.getElem?_set] at hq
     by_cases e : p = q
     ·rw [if_pos e] at hq
      split at hq <;> simp at hq
     ·rw [if_neg e] at hq
      rw [hgq (q + 1) (by omega)]
      exact u4' q hq
    ·rw [List.length_set] at hq hq'
     by_cases e : q = p + 1
     ·subst e
      rw [hgp] at hb1
      rw [hgq q' (Ne.symm hqq)] at hb2
      exact hbj b' hb1 (Blk.part u1 hq' hb2)
     ·rw [hgq q e] at hb1
      by_cases e' : q' = p + 1
      ·subst e'
       rw [hgp] at hb2
       exact hbj b' hb2 (Blk.part u1 hq hb1)
      ·rw [hgq q' e'] at hb2
       exact u5 q q' b' hq hq' hqq hb1 hb2
   ·rw [hsk k h1]
    refine Item.keepG_ok hg0 (fun k hk _ => hsk k hk) (List.all_eq_true.1 hkM kt (List.mem_of_getElem? h3)) ?_
    exact Item.kept k2 (h := h.items k kt h3) fun b' hb => ⟨(h.mine k kt h3 hn b' hb).1, fun e => by cases e; exact h.sep i k _ kt (Ne.symm h1) hm h3 rfl hn b hbi hb⟩
 ·rcases hset k kt hk (fz_gone hf) with ⟨rfl, rfl⟩ | ⟨h1, h2, h3⟩
  ·rcases hset l lt hl hn with ⟨rfl, rfl⟩ | ⟨l1, l2, l3⟩
   ·exact absurd rfl hkl
   ·rw [hsk l l1]
    rcases hbs b' hb with h4 | h4
    ·exact h.sep k l _ lt hkl hm l3 rfl hn b' h4
    ·exact h.sep j l _ lt (Ne.symm l2) hj l3 rfl hn b' (Blk.of h4)
  ·rw [hsk k h1] at hb
   rcases hset l lt hl hn with ⟨rfl, rfl⟩ | ⟨l1, l2, l3⟩
   ·intro hb2
    rcases hbs b' hb2 with h4 | h4
    ·exact h.sep k l kt _ hkl h3 hm hf (by simp) b' hb h4
    ·exact h.sep k j kt _ h2 h3 hj hf (by simp) b' hb (Blk.of h4)
   ·rw [hsk l l1]
    exact h.sep k l kt lt hkl h3 l3 hf hn b' hb
 ·rcases hset k kt hk hn with ⟨rfl, rfl⟩ | ⟨h1, h2, h3⟩
  ·rcases hbs b' hb with h4 | h4
   ·obtain ⟨m1, m2⟩ := h.mine k _ hm (by simp) b' h4
    exact ⟨Nat.lt_of_lt_of_le m1 k2.size, fun _ => m2 rfl⟩
   ·obtain ⟨m1, m2⟩ := h.mine j _ hj (by simp) b' (Blk.of h4)
    exact ⟨Nat.lt_of_lt_of_le m1 k2.size, fun _ => m2 rfl⟩
  ·rw [hsk k h1] at hb
   obtain ⟨m1, m2⟩ := h.mine k kt h3 hn b' hb
   exact ⟨Nat.lt_of_lt_of_le m1 k2.size, m2⟩
abbrev gridH {α : Type} (tyo ty : Nat) (T : Ty α) (L : List (List α)) (p : Nat) (link : Option (Nat × Nat)) : Item := .grid tyo ty T.s ((L.map fun l => some (rowR T l, l.length)).set p none) link
theorem WL.putG0 {i j p tyo ty s m t : Nat} {rows : List (Option (Rl (List Value) × Nat))} {link : Option (Nat × Nat)} {r : Rl (List Value)} {ti : TI} {x v : Operand} {S1 : St} (ht : tab.ok) (hn : c.n = n) (hw : wantE ops S.F o = some true) (ho : o.op = .store t x v) (h1 : tab t = some ti) (h2 : ti.size = 1)
  (hx : evX S.F x = some (.sv (.one (.ge i 0 p 1)))) (hv : evX S.F v = some (.sv (.one (.own j)))) (hm : S.M[i]? = some (.grid tyo ty s rows link)) (hj : S.M[j]? = some (.row ty s r m)) (hp : p < rows.length) (hkM : S.M.all (·.keepG i j) = true)
  (e : putE n o.dst (.tup []) ⟨dropG i j S.F, (S.M.set i (.grid tyo ty s (rows.set p (some (r, m))) none)).set j .gone⟩ = some S1) (h : WL c ops rest S1 N) : WL c ops (o :: rest) S N := fun a w ⟨g, hs, hh⟩ => by
 unfold wpList
 rw [if_pos (wantE_ok hh hw)]
 refine .inl ?_
 unfold Oper.wp
 obtain ⟨⟨b, of, nn, cap, e1, e2⟩, _⟩ := evX_ok hh hx
 have hvj : a.eval v = hs j := (evX_ok hh hv).1
 obtain ⟨w', hs', k1, k2⟩ := hh.putG hm hj hp e1 (ht t ti h1) h2 hkM
 have hrun : (execOp a.eval o).run Try.prog w = .ok .skip w' := by
  have : execOp a.eval o = (do Instr.storeAt t (a.eval x) (a.eval v); pure .skip : Sem Next) := by unfold execOp; rw [ho]
  rw [this, e2, hvj]
  simp only [Sem.run_bind, k1, Result.andThen_ok, Sem.run_pure]
 rw [hrun]
 exact h _ _ ⟨g, hs', putE_ok k2 hn undef_ok e⟩
theorem gridI_set {α : Type} {T : Ty α} {L : List (List α)} {l : List α} {p : Nat} : (L.map fun l => some (rowR T l, l.length)).set p (some (rowR T l, l.length)) = ((L.set p l).map fun l => some (rowR T l, l.length)) := by
 rw [List.map_set]
theorem WL.putG {α : Type} {T : Ty α} {L : List (List α)} {l : List α} {i j p tyo ty t : Nat} {ti : TI} {x v : Operand} {S1 : St} (ht : tab.ok) (hn : c.n = n) (hw : wantE ops S.F o = some true) (ho : o.op = .store t x v) (h1 : tab t = some ti) (h2 : ti.size = 1)
  (hx : evX S.F x = some (.sv (.one (.ge i 0 p 1)))) (hv : evX S.F v = some (.sv (.one (.own j)))) (hm : S.M[i]? = some (gridI tyo ty T L)) (hj : S.M[j]? = some (rowI ty T l)) (hp : p < L.length) (hkM : S.M.all (·.keepG i j) = true)
  (e : putE n o.dst (.tup []) ⟨dropG i j S.F, (S.M.set i (gridI tyo ty T (L.set p l))).set j .gone⟩ = some S1) (h : WL c ops rest S1 N) : WL c ops (o :: rest) S N :=
 WL.putG0 ht hn hw ho h1 h2 hx hv hm hj (by rw [List.length_map]; exact hp) hkM (by rw [gridI_set]; exact e) h
theorem WL.putGH {α : Type} {T : Ty α} {L : List (List α)} {l : List α} {link : Option (Nat × Nat)} {i j p tyo ty t : Nat} {ti : TI} {x v : Operand} {S1 : St} (ht : tab.ok) (hn : c.n = n) (hw : wantE ops S.F o = some true) (ho : o.op = .store t x v) (h1 : tab t = some ti) (h2 : ti.size = 1)
  (hx : evX S.F x = some (.sv (.one (.ge i 0 p 1)))) (hv : evX S.F v = some (.sv (.one (.own j)))) (hm : S.M[i]? = some (gridH tyo ty T L p link)) (hj : S.M[j]? = some (rowI ty T l)) (hp : p < L.length) (hkM : S.M.all (·.keepG i j) = true)
  (e : putE n o.dst (.tup []) ⟨dropG i j S.F, (S.M.set i (gridI tyo ty T (L.set p l))).set j .gone⟩ = some S1) (h : WL c ops rest S1 N) : WL c ops (o :: rest) S N :=
 WL.putG0 ht hn hw ho h1 h2 hx hv hm hj (by rw [List.length_set, List.length_map]; exact hp) hkM (by rw [List.set_set, gridI_set]; exact e) h
theorem Ok'.takeG {i p tyo ty s m : Nat} {rows : List (Option (Rl (List Value) × Nat))} {link : Option (Nat × Nat)} {r : Rl (List Value)} (h : Ok' c S a w g hs) (hm : S.M[i]? = some (.grid tyo ty s rows link)) (hp : rows[p]? = some (some (r, m))) (hkM : S.M.all (·.keepG i S.M.length) = true) :
  ∃ hs', hs' S.M.length = gpart (hs i) (p + 1) ∧ Ok' c ⟨dropG i S.M.length S.F, S.M.set i (.grid tyo ty s (rows.set p none) (some (p, S.M.length))) ++ [.row ty s r m]⟩ a w g hs' := by
 have hil : i < S.M.length := (List.getElem?_eq_some_iff.1 hm).1
 have hpl : p < rows.length := (List.getElem?_eq_some_iff.1 hp).1
 have hit := h.items i _ hm
 obtain ⟨us, ocs, u1, u2, u3, u3', u4, u4', uk, u5⟩ := hit
 obtain ⟨q1, csj, q2, q3⟩ := u4 p r m hp
 have hslj := own_slice q2
 have hl0 : p + 1 < us.length := by omega
 let hs' : Nat → Value := fun k => if k = i then .tuple (us.set (p + 1) (.slice none 0 0)).toArray else if k = S.M.length then gpart (hs i) (p + 1) else hs k
 have hsi : hs' i = .tuple (us.set (p + 1) (.slice none 0 0)).toArray := if_pos rfl
 have hsj : hs' S.M.length = gpart (hs i) (p + 1) := by
  show (if S.M.length = i then _ else if S.M.length = S.M.length then _ else _) = _
  rw [if_neg (by omega), if_pos rfl]
 have hsk : ∀ k, k ≠ i → k ≠ S.M.length → hs' k = hs k := fun k h1 h2 => by
  show (if k = i then _ else if k = S.M.length then _ else hs k) = _
  rw [if_neg h1, if_neg h2]
 have hg0 : gpart (hs' i) 0 = gpart (hs i) 0 := by rw [hsi, gpart_set_ne (by omega), u1]
 have hgp : gpart (hs' i) (p + 1) = .slice none 0 0 := by rw [hsi, gpart_set_same hl0]
 have hgq : ∀ q, q ≠ p + 1 → gpart (hs' i) q = gpart (hs i) q := fun q hq => by rw [hsi, gpart_set_ne hq, u1]
 have hbs : ∀ b', Blk (hs' i) b' → Blk (hs i) b' ∧ blk (gpart (hs i) (p + 1)) ≠ some b' := fun b' hb => by
  rw [hsi] at hb
  obtain ⟨u, hu, e⟩ := hb
  obtain ⟨q, hq⟩ := List.mem_iff_getElem?.1 hu
  have hql := (List.getElem?_eq_some_iff.1 hq).1
  rw [List.length_set] at hql
  by_cases eq : q = p + 1
  ·subst eq
   rw [List.getElem?_set_self hl0] at hq
   simp at hq
   rw [← hq] at e
   cases e
  ·rw [List.getElem?_set_ne (Ne.symm eq)] at hq
   have hgu : gpart (hs i) q = u := by
    rw [u1]
    show us.getD q undef = u
    rw [List.getD_eq_getElem?_getD, hq]
    rfl
   exact ⟨Blk.part u1 hql (by rw [hgu]; exact e), fun e2 => u5 q (p + 1) b' hql hl0 eq (by rw [hgu]; exact e) e2⟩
 have hbj : ∀ b', Blk (hs' S.M.length) b' → blk (gpart (hs i) (p + 1)) = some b' := fun b' hb => by
  rw [hsj] at hb
  obtain ⟨ao, cp, e⟩ := hslj
  rw [e] at hb ⊢
  exact hb
 have hbj2 : ∀ b', blk (gpart (hs i) (p + 1)) = some b' → Blk (hs i) b' := fun b' e => Blk.part u1 hl0 e
 have hset : ∀ (k : Nat) (kt : Item), (S.M.set i (.grid tyo ty s (rows.set p none) (some (p, S.M.length))) ++ [.row ty s r m])[k]? = some kt → (k = i ∧ kt = .grid tyo ty s (rows.set p none) (some (p, S.M.length))) ∨ (k = S.M.length ∧ kt = .row ty s r m) ∨ (k ≠ i ∧ k ≠ S.M.length ∧ S.M[k]? = some kt) := fun k kt hk => by
  rw [List.getElem?_append, List.length_set] at hk
  split at hk
  ·rename_i hlt
   rw [List.getElem?_set] at hk
   by_cases ei : i = k
   ·rw [if_pos ei, if_pos hil] at hk
    simp at hk
    exact .inl ⟨ei.symm, hk.symm⟩
   ·rw [if_neg ei] at hk
    exact .inr (.inr ⟨Ne.symm ei, by omega, hk⟩)
  ·by_cases e2 : k = S.M.length
   ·subst e2
    simp at hk
    exact .inr (.inl ⟨rfl, hk.symm⟩)
   ·rw [List.getElem?_eq_none (by simp; omega)] at hk
    cases hk
 refine ⟨hs', hsj, h.size, h.defers, h.base, fun t x hx => ?_, fun k kt hk => ?_, fun k l kt lt hkl hk hl hf hn b' hb => ?_, fun k kt hk hn b' hb => ?_⟩
 ·obtain ⟨hx1, hx2⟩ := List.mem_filter.1 hx
  exact SC.keepG_ok hg0 hsk hx2 (h.slots t x hx1)
 ·rcases hset k kt hk with ⟨rfl, rfl⟩ | ⟨rfl, rfl⟩ | ⟨h1, h2, h3⟩
  ·refine ⟨us.set (p + 1) (.slice none 0 0), ocs, hsi, by simp [u2], by rw [hg0, List.length_set]; exact u3, u3', fun q r' n' hq => ?_, fun q hq => ?_, (fun p' k e => by cases e; rw [hsj]; exact q1), fun q q' b' hq hq' hqq hb1 hb2 => ?_⟩
   ·rw [List.getElem?_set] at hq
    by_cases e : p = q
    ·rw [if_pos e] at hq
     split at hq <;> simp at hq
    ·rw [if_neg e] at hq
     rw [hgq (q + 1) (by omega)]
     exact u4 q r' n' hq
   ·rw [List.getElem?_set] at hq
    by_cases e : p = q
    ·subst e
     exact hgp
    ·rw [if_neg e] at hq
     rw [hgq (q + 1) (by omega)]
     exact u4' q hq
   ·rw [List.length_set] at hq hq'
    by_cases e : q = p + 1
    ·subst e
     rw [hgp] at hb1
     cases hb1
    ·rw [hgq q e] at hb1
     by_cases e' : q' = p + 1
     ·subst e'
      rw [hgp] at hb2
      cases hb2
     ·rw [hgq q' e'] at hb2
      exact u5 q q' b' hq hq' hqq hb1 hb2
  ·rw [hsj]
   exact ⟨csj, q2, q3⟩
  ·by_cases hn : kt = .gone
   ·subst hn; trivial
   ·rw [hsk k h1 h2]
    exact Item.keepG_ok hg0 hsk (List.all_eq_true.1 hkM kt (List.mem_of_getElem? h3)) (h.items k kt h3)
 ·rcases hset k kt hk with ⟨rfl, rfl⟩ | ⟨rfl, rfl⟩ | ⟨h1, h2, h3⟩
  ·obtain ⟨hb1, hb2⟩ := hbs b' hb
   rcases hset l lt hl with ⟨rfl, rfl⟩ | ⟨rfl, rfl⟩ | ⟨l1, l2, l3⟩
   ·exact absurd rfl hkl
   ·exact fun e => hb2 (hbj b' e)
   ·rw [hsk l l1 l2]
    exact h.sep k l _ lt hkl hm l3 rfl hn b' hb1
  ·have hb1 := hbj b' hb
   rcases hset l lt hl with ⟨rfl, rfl⟩ | ⟨rfl, rfl⟩ | ⟨l1, l2, l3⟩
   ·exact fun e => (hbs b' e).2 hb1
   ·exact absurd rfl hkl
   ·rw [hsk l l1 l2]
    exact h.sep i l _ lt (Ne.symm l1) hm l3 rfl hn b' (hbj2 b' hb1)
  ·rw [hsk k h1 h2] at hb
   rcases hset l lt hl with ⟨rfl, rfl⟩ | ⟨rfl, rfl⟩ | ⟨l1, l2, l3⟩
   ·exact fun e => h.sep k l kt _ hkl h3 hm hf (by simp) b' hb (hbs b' e).1
   ·exact fun e => h.sep k i kt _ h1 h3 hm hf (by simp) b' hb (hbj2 b' (hbj b' e))
   ·rw [hsk l l1 l2]
    exact h.sep k l kt lt hkl h3 l3 hf hn b' hb
 ·rcases hset k kt hk with ⟨rfl, rfl⟩ | ⟨rfl, rfl⟩ | ⟨h1, h2, h3⟩
  ·exact h.mine k _ hm (by simp) b' (hbs b' hb).1
  ·exact h.mine i _ hm (by simp) b' (hbj2 b' (hbj b' hb))
  ·rw [hsk k h1 h2] at hb
   exact h.mine k kt h3 hn b' hb
theorem WL.takeG {α : Type} {T : Ty α} {L : List (List α)} {l : List α} {L0 : List Oper} {i p tyo ty j : Nat} (t0 : Nat) (hm : S.M[i]? = some (gridI tyo ty T L)) (hp : L[p]? = some l) (hl : look t0 S.F = some (.sv (.one (.gs i (p + 1))))) (hj : S.M.length = j) (hkM : S.M.all (·.keepG i j) = true)
  (h : WL c ops L0 ⟨(t0, .sv (.one (.own j))) :: dropG i j S.F, (S.M.set i (gridH tyo ty T L p (some (p, j))) ++ [rowI ty T l]).set i (gridH tyo ty T L p none)⟩ N) : WL c ops L0 S N := fun a w ⟨g, hs, hk⟩ => by
 subst hj
 obtain ⟨hs', hsj, hk'⟩ := hk.takeG (p := p) (r := rowR T l) (m := l.length) hm (by rw [List.getElem?_map, hp]; rfl) hkM
 have hil := (List.getElem?_eq_some_iff.1 hm).1
 have hi' : (S.M.set i (gridH tyo ty T L p (some (p, S.M.length))) ++ [rowI ty T l])[i]? = some (gridH tyo ty T L p (some (p, S.M.length))) := by
  rw [List.getElem?_append_left (by rw [List.length_set]; exact hil), List.getElem?_set_self hil]
 have h1 := hk'.items i _ hi'
 have h2 := hk'.retell (it' := gridH tyo ty T L p none) hi' rfl rfl (by
  obtain ⟨us, ocs, u1, u2, u3, u4, u5, u6, u7, u8⟩ := h1
  exact ⟨us, ocs, u1, u2, u3, u4, u5, u6, (fun p k e => by cases e), u8⟩)
 refine h a w ⟨g, hs', h2.size, h2.defers, h2.base, fun t x hx => ?_, h2.items, h2.sep, h2.mine⟩
 rcases List.mem_cons.1 hx with hx | hx
 ·cases hx
  have h5 := hk.slots t0 _ (look_mem hl)
  refine ⟨?_, h5.2⟩
  show _ = hs' S.M.length
  rw [hsj]
  exact h5.1
 ·exact h2.slots t x hx
theorem val_indexGH {α : Type} {T : Ty α} {L : List (List α)} {i tyo ty q : Nat} {link : Option (Nat × Nat)} {k : Int} {t el : Nat} {ti te : TI} {x ix : Operand} {ik : IntKind} (ht : tab.ok) (ho : o.op = .indexAddr t x ix) (h1 : tab t = some ti) (h2 : ti.sl = some el) (h3 : tab el = some te) (h4 : te.size = 1)
  (hx : evX S.F x = some (.sv (.one (.gs i 0)))) (hm : S.M[i]? = some (gridH tyo ty T L q link)) (hi : evK S.F ix = some (.int ik k)) (hk : 0 ≤ k ∧ k < (L.length : Int)) : Val c S o (.sv (.one (.ge i 0 k.toNat 1))) := fun a w g hs h => by
 have hv : a.eval x = gpart (hs i) 0 := (evX_ok h hx).1
 obtain ⟨us, ocs, _, _, r1, _⟩ := h.items i _ hm
 rw [List.length_set, List.length_map] at r1
 rw [← hv] at r1
 obtain ⟨b, of, cap, e1, e2⟩ := run_indexOwn (iv := a.eval ix) ht h1 h2 h3 h4 (by decide) r1 (evK_ok h hi) hk
 refine ⟨.pointer (some ⟨b, of + k.toNat * 1, none⟩), ?_, ⟨b, of, L.length, cap, by rw [← hv]; exact e1, rfl⟩, trivial⟩
 have : (execOp a.eval o) = (do pure (.value (← Instr.indexAt t (a.eval x) (a.eval ix))) : Sem Next) := by unfold execOp; rw [ho]
 rw [this]
 exact run_val e2
end
section
variable {c : Cfg} {S S1 : St} {a : Act} {w : World} {g : Gh} {hs : Nat → Value} {tab : Tab} {n : Nat} {o : Oper} {ops : Array Oper} {rest : List Oper} {N : Po}
theorem WL.me {x : SC} {i : Nat} {it it' : Item} (hn : c.n = n) (hw : wantE ops S.F o = some true) (hm : ME c S o x [(i, it')]) (hi : S.M[i]? = some it) (hf : it.fz = false) (hf' : it'.fz = false) (e : putE n o.dst x ⟨S.F, S.M.set i it'⟩ = some S1) (h : WL c ops rest S1 N) : WL c ops (o :: rest) S N := fun a w ⟨g, hs, hk⟩ => by
 unfold wpList
 rw [if_pos (wantE_ok hk hw)]
 refine .inl (hm a w g hs hk _ N fun v w' g' h1 h2 h3 h4 => ?_)
 have := hk.updS (us := [(i, it')]) (fun p hp => by simp at hp; subst hp; exact ⟨it, hi, hf⟩) (fun p hp => by simp at hp; subst hp; exact hf') h1 h2 h4
 exact h _ _ ⟨g', hs, putE_ok this hn h3 e⟩
end
section
variable {c : Cfg} {S S1 : St} {a : Act} {w : World} {g : Gh} {hs : Nat → Value} {tab : Tab} {n : Nat} {o : Oper} {ops : Array Oper} {rest : List Oper} {N : Po}
end
section
variable {c : Cfg} {S S1 : St} {a : Act} {w : World} {g : Gh} {hs : Nat → Value} {tab : Tab} {n : Nat} {o : Oper} {ops : Array Oper} {rest : List Oper} {N : Po}
end
inductive Tr (α : Type) where
 | node (a : α) (kids : List (Tr α))
inductive TrOk {α : Type} (lab : α → List Value) (g : Gh) : Tr α → Value → Prop
 | mk (a : α) (kids : List (Tr α)) (b off : Nat) (ao : Option Addr) (cap b' o' : Nat) (us : Nat → Value)
   (h1 : ∀ j c, (lab a)[j]? = some c → g.cell ⟨b, off + j, none⟩ = some c) (h2 : g.cell ⟨b, off + (lab a).length, none⟩ = some (.slice ao kids.length cap))
   (h3 : kids.length ≤ cap) (h4 : cap ≤ maxLen) (h5 : ao = none → cap = 0) (h6 : 0 < kids.length → ao = some ⟨b', o', none⟩)
   (h7 : ∀ q x, kids[q]? = some x → g.cell ⟨b', o' + q, none⟩ = some (us q)) (h8 : ∀ q x, kids[q]? = some x → TrOk lab g x (us q)) : TrOk lab g (.node a kids) (.pointer (some ⟨b, off, none⟩))
section
variable {c : Cfg} {S S1 : St} {a : Act} {w : World} {g : Gh} {hs : Nat → Value} {tab : Tab} {n : Nat} {o : Oper} {ops : Array Oper} {rest : List Oper} {N : Po}
end
section
variable {c : Cfg} {S S1 : St} {a : Act} {w : World} {g : Gh} {hs : Nat → Value} {tab : Tab} {n : Nat} {o : Oper} {ops : Array Oper} {rest L : List Oper} {N : Po}
end
def pinA (P : Nat → Option Value) (D : Nat → Option Nat) : At → At
 | .own i => match P i with
  | some x => .pown i x
  | none => .own i
 | .ptr i k => match D i with
  | some b => .pptr i k b
  | none => .ptr i k
 | a => a
def pinI (P : Nat → Option Value) (D : Nat → Option Nat) : Item → Item
 | .box cells ty fz => .box (cells.map (pinA P D)) ty fz
 | it => it
def pinG (pin : List Nat) (B : Nat → Nat) (i : Nat) : Option Nat := bif pin.any (Nat.beq i) then some (B i) else none
def pinK (L : List (Nat × Nat)) (i : Nat) : Option Nat := match L with
 | [] => none
 | (j, x) :: L => bif Nat.beq i j then some x else pinK L i
def pinF (pin : List Nat) (V : Nat → Value) (i : Nat) : Option Value := bif pin.any (Nat.beq i) then some (V i) else none
def pinL (L : List (Nat × Value)) (i : Nat) : Option Value := match L with
 | [] => none
 | (j, x) :: L => bif Nat.beq i j then some x else pinL L i
section
variable {P : Nat → Option Value} {D : Nat → Option Nat} {g : Gh} {hs : Nat → Value}
theorem pinA_some {i : Nat} {x : Value} (h : P i = some x) : pinA P D (.own i) = .pown i x := by simp only [pinA, h]
theorem pinA_none {i : Nat} (h : P i = none) : pinA P D (.own i) = .own i := by simp only [pinA, h]
theorem pinA_ptr {i k b : Nat} (h : D i = some b) : pinA P D (.ptr i k) = .pptr i k b := by simp only [pinA, h]
theorem pinA_noptr {i k : Nat} (h : D i = none) : pinA P D (.ptr i k) = .ptr i k := by simp only [pinA, h]
theorem pinA_ok (hP : ∀ i x, P i = some x → hs i = x) (hD : ∀ i b, D i = some b → hs i = .pointer (some ⟨b, 0, none⟩)) {a : At} {u : Value} (h : a.ok g hs u) : (pinA P D a).ok g hs u := by
 cases a with
 | own i =>
  cases e : P i with
  | some x => rw [pinA_some e]; exact ⟨⟨hP i x e, h.1⟩, h.2⟩
  | none => rw [pinA_none e]; exact h
 | ptr i k =>
  cases e : D i with
  | some b =>
   rw [pinA_ptr e]
   obtain ⟨⟨b', h1, h2⟩, h3⟩ := h
   have h4 := hD i b e
   rw [h1] at h4
   simp at h4
   subst h4
   exact ⟨⟨h1, h2⟩, h3⟩
  | none => rw [pinA_noptr e]; exact h
 | _ => exact h
theorem unpinA_ok {a : At} {u : Value} (h : (pinA P D a).ok g hs u) : a.ok g hs u := by
 cases a with
 | own i =>
  cases e : P i with
  | some x => rw [pinA_some e] at h; exact ⟨h.1.2, h.2⟩
  | none => rw [pinA_none e] at h; exact h
 | ptr i k =>
  cases e : D i with
  | some b => rw [pinA_ptr e] at h; exact ⟨⟨b, h.1.1, h.1.2⟩, h.2⟩
  | none => rw [pinA_noptr e] at h; exact h
 | _ => exact h
theorem pinA_oks (hP : ∀ i x, P i = some x → hs i = x) (hD : ∀ i b, D i = some b → hs i = .pointer (some ⟨b, 0, none⟩)) : ∀ {l : List At} {us : List Value}, oks g hs l us → oks g hs (l.map (pinA P D)) us
 | [], [], _ => trivial
 | [], _ :: _, h => h.elim
 | _ :: _, [], h => h.elim
 | _ :: _, _ :: _, h => ⟨pinA_ok hP hD h.1, h.2.1, pinA_oks hP hD h.2.2⟩
theorem unpinA_oks : ∀ {l : List At} {us : List Value}, oks g hs (l.map (pinA P D)) us → oks g hs l us
 | [], [], _ => trivial
 | [], _ :: _, h => h.elim
 | _ :: _, [], h => h.elim
 | _ :: _, _ :: _, h => ⟨unpinA_ok h.1, h.2.1, unpinA_oks h.2.2⟩
theorem pinI_ok (hP : ∀ i x, P i = some x → hs i = x) (hD : ∀ i b, D i = some b → hs i = .pointer (some ⟨b, 0, none⟩)) {it : Item} {w : World} {v : Value} (h : it.ok g hs w v) : (pinI P D it).ok g hs w v := by
 cases it with
 | box cells ty fz => obtain ⟨b, cs, h1, h2, h3⟩ := h; exact ⟨b, cs, h1, pinA_oks hP hD h2, h3⟩
 | _ => exact h
theorem unpinI_ok {it : Item} {w : World} {v : Value} (h : (pinI P D it).ok g hs w v) : it.ok g hs w v := by
 cases it with
 | box cells ty fz => obtain ⟨b, cs, h1, h2, h3⟩ := h; exact ⟨b, cs, h1, unpinA_oks h2, h3⟩
 | _ => exact h
theorem pinI_fz {it : Item} : (pinI P D it).fz = it.fz := by cases it <;> rfl
theorem pinI_gone {it : Item} : pinI P D it = .gone ↔ it = .gone := by cases it <;> simp [pinI]
theorem map_pin_get {M : List Item} {i : Nat} {jt : Item} (h : (M.map (pinI P D))[i]? = some jt) : ∃ it, M[i]? = some it ∧ pinI P D it = jt := by
 rw [List.getElem?_map] at h
 cases e : M[i]? with
 | none => rw [e] at h; cases h
 | some it => rw [e] at h; exact ⟨it, rfl, Option.some.inj h⟩
theorem ItemsOk.pin {may : Nat → Prop} {lo : Nat} {M : List Item} {w : World} (hP : ∀ i x, P i = some x → hs i = x) (hD : ∀ i b, D i = some b → hs i = .pointer (some ⟨b, 0, none⟩)) (h : ItemsOk may lo M g hs w) : ItemsOk may lo (M.map (pinI P D)) g hs w := by
 refine ⟨fun i jt hi => ?_, fun i j it jt hij hi hj hf hn => ?_, fun i it hi hn => ?_⟩
 ·obtain ⟨it, h1, rfl⟩ := map_pin_get hi
  exact pinI_ok hP hD (h.items i it h1)
 ·obtain ⟨it', h1, rfl⟩ := map_pin_get hi
  obtain ⟨jt', h2, rfl⟩ := map_pin_get hj
  exact h.sep i j it' jt' hij h1 h2 (by rw [← hf, pinI_fz]) (fun e => hn (pinI_gone.2 e))
 ·obtain ⟨it', h1, rfl⟩ := map_pin_get hi
  rw [pinI_fz]
  exact h.mine i it' h1 (fun e => hn (pinI_gone.2 e))
theorem ItemsOk.unpin {may : Nat → Prop} {lo : Nat} {M : List Item} {w : World} (h : ItemsOk may lo (M.map (pinI P D)) g hs w) : ItemsOk may lo M g hs w := by
 have key : ∀ {i : Nat} {it : Item}, M[i]? = some it → (M.map (pinI P D))[i]? = some (pinI P D it) := fun {i it} e => by rw [List.getElem?_map, e]; rfl
 refine ⟨fun i it hi => unpinI_ok (h.items i _ (key hi)), fun i j it jt hij hi hj hf hn => h.sep i j _ _ hij (key hi) (key hj) (by rw [pinI_fz]; exact hf) (fun e => hn (pinI_gone.1 e)), fun i it hi hn => ?_⟩
 have := h.mine i _ (key hi) (fun e => hn (pinI_gone.1 e))
 rwa [pinI_fz] at this
theorem mayM_pin {M : List Item} : mayM (M.map (pinI P D)) hs = mayM M hs := by
 funext b
 refine propext ⟨?_, ?_⟩
 ·rintro ⟨i, jt, h1, h2, h3⟩
  obtain ⟨it, h4, rfl⟩ := map_pin_get h1
  exact ⟨i, it, h4, by rw [← h2, pinI_fz], h3⟩
 ·rintro ⟨i, it, h1, h2, h3⟩
  exact ⟨i, pinI P D it, by rw [List.getElem?_map, h1]; rfl, by rw [pinI_fz]; exact h2, h3⟩
end
def cellIn (M : List Item) (p : At → Bool) : Bool := M.any fun it => match it with
 | .box cells _ _ => cells.any p
 | _ => false
def isOwn (i : Nat) : At → Bool
 | .own j => Nat.beq i j
 | _ => false
def isPtr (i : Nat) : At → Bool
 | .ptr j 0 => Nat.beq i j
 | _ => false
theorem pinL_mem {L : List (Nat × Value)} {i : Nat} {x : Value} (h : pinL L i = some x) : (i, x) ∈ L := by
 induction L with
 | nil => cases h
 | cons y L ih =>
  obtain ⟨j, z⟩ := y
  unfold pinL at h
  cases e : Nat.beq i j with
  | true =>
   rw [e] at h
   have := Nat.eq_of_beq_eq_true e
   subst this
   have h : some z = some x := h
   cases h
   exact List.mem_cons_self
  | false =>
   rw [e] at h
   exact List.mem_cons_of_mem _ (ih h)
theorem pinK_mem {L : List (Nat × Nat)} {i x : Nat} (h : pinK L i = some x) : (i, x) ∈ L := by
 induction L with
 | nil => cases h
 | cons y L ih =>
  obtain ⟨j, z⟩ := y
  unfold pinK at h
  cases e : Nat.beq i j with
  | true =>
   rw [e] at h
   have := Nat.eq_of_beq_eq_true e
   subst this
   have h : some z = some x := h
   cases h
   exact List.mem_cons_self
  | false =>
   rw [e] at h
   exact List.mem_cons_of_mem _ (ih h)
theorem oks_at {g : Gh} {hs : Nat → Value} : ∀ {l : List At} {us : List Value} {a : At}, oks g hs l us → a ∈ l → ∃ u, a.ok g hs u
 | [], _, _, _, h => by cases h
 | _ :: _, [], _, h, _ => h.elim
 | y :: l, u :: us, a, h, ha => by
  rcases List.mem_cons.1 ha with rfl | ha
  ·exact ⟨u, h.1⟩
  ·exact oks_at h.2.2 ha
theorem cellIn_at {M : List Item} {p : At → Bool} {f : At → At} {F : Item → Item} {may : Nat → Prop} {lo : Nat} {g : Gh} {hs : Nat → Value} {w : World} (hF : ∀ cells ty fz, F (.box cells ty fz) = .box (cells.map f) ty fz) (hm : ItemsOk may lo (M.map F) g hs w) (h : cellIn M p = true) : ∃ a u, p a = true ∧ (f a).ok g hs u := by
 obtain ⟨it, h1, h2⟩ := List.any_eq_true.1 h
 split at h2
 ·rename_i cells ty fz
  obtain ⟨a, h3, h4⟩ := List.any_eq_true.1 h2
  obtain ⟨q, hq⟩ := List.mem_iff_getElem?.1 h1
  obtain ⟨b, cs, _, h6, _⟩ := hm.items q (.box (cells.map f) ty fz) (by rw [List.getElem?_map, hq]; exact congrArg some (hF cells ty fz))
  obtain ⟨u, h7⟩ := oks_at h6 (List.mem_map_of_mem h3)
  exact ⟨a, u, h4, h7⟩
 ·cases h2
theorem CtE.kept {β : Type} {f : Nat} {ins : List SC} {M : List Item} {pin : List Nat} {post : β → Prop} {out : β → SC} {M' : β → List Item} (h : CtE f ins M pin post out M') (L : List (Nat × Value)) (B : List (Nat × Nat)) (hL : (L.all (fun x => cellIn M (isOwn x.1) && pin.any (Nat.beq x.1)) && B.all (fun x => cellIn M (isPtr x.1) && pin.any (Nat.beq x.1))) = true) : CtE f ins (M.map (pinI (pinL L) (pinK B))) pin post out (fun r => (M' r).map (pinI (pinL L) (pinK B))) := fun w g hs args hp ha hm => by
 obtain ⟨hL, hB⟩ := (Bool.and_eq_true _ _).mp hL
 have hP : ∀ i x, pinL L i = some x → hs i = x ∧ i ∈ pin := fun i x e => by
  obtain ⟨m1, m2⟩ := (Bool.and_eq_true _ _).mp (List.all_eq_true.1 hL _ (pinL_mem e))
  obtain ⟨a, u, h4, h7⟩ := cellIn_at (fun _ _ _ => rfl) hm m1
  cases a <;> first | cases h4; done | skip
  have h4 := Nat.eq_of_beq_eq_true h4
  simp only at h4
  subst h4
  rw [pinA_some e] at h7
  exact ⟨h7.1.1, any_beq.1 m2⟩
 have hD : ∀ i b, pinK B i = some b → hs i = .pointer (some ⟨b, 0, none⟩) ∧ i ∈ pin := fun i b e => by
  obtain ⟨m1, m2⟩ := (Bool.and_eq_true _ _).mp (List.all_eq_true.1 hB _ (pinK_mem e))
  obtain ⟨a, u, h4, h7⟩ := cellIn_at (fun _ _ _ => rfl) hm m1
  have h4 : isPtr i a = true := h4
  unfold isPtr at h4
  split at h4
  ·rename_i j
   have h4 := Nat.eq_of_beq_eq_true h4
   subst h4
   rw [pinA_ptr e] at h7
   exact ⟨h7.1.1, any_beq.1 m2⟩
  ·cases h4
 refine (h w g hs args hp ha hm.unpin).mono ?_
 rintro e w' ⟨v, g', hs', r, e1, e2, e3, e4, e5, e6⟩
 rw [mayM_pin]
 exact ⟨v, g', hs', r, e1, e2, e3, e4, e5, e6.pin (fun i x hx => (e4 i (hP i x hx).2).trans (hP i x hx).1) (fun i b hx => (e4 i (hD i b hx).2).trans (hD i b hx).1)⟩
def pinT (pin : List Nat) (B : Nat → Nat) : SC → SC
 | .sv (.one (.fn f caps)) => bif caps.all (fun i => pin.any (Nat.beq i)) then .sv (.one (.pfn f (caps.map fun i => (i, B i)))) else .sv (.one (.fn f caps))
 | x => pinS pin B x
theorem okArgs_pinT {g : Gh} {hs : Nat → Value} {pin : List Nat} {B : Nat → Nat} (hB : ∀ i ∈ pin, hs i = .pointer (some ⟨B i, 0, none⟩)) : ∀ {l : List SC} {us : List Value}, okArgs g hs l us → okArgs g hs (l.map (pinT pin B)) us
 | [], [], _ => trivial
 | [], _ :: _, h => h.elim
 | _ :: _, [], h => h.elim
 | x :: l, u :: us, h => by
  refine ⟨?_, okArgs_pinT hB h.2⟩
  have h1 := h.1
  unfold pinT
  split
  ·rename_i f caps
   cases hc : caps.all (fun i => pin.any (Nat.beq i)) with
   | false => exact h1
   | true =>
    refine ⟨⟨fun p hp => ?_, ?_⟩, h1.2⟩
    ·obtain ⟨i, hi, rfl⟩ := List.mem_map.1 hp
     exact hB i (any_beq.1 (List.all_eq_true.1 hc i hi))
    ·have e : (caps.map fun i => (i, B i)).map (·.1) = caps := by
      rw [List.map_map]
      exact List.map_id caps
     rw [e]
     exact h1.1
  ·exact (okArgs_pin hB (l := [x]) (us := [u]) ⟨h1, trivial⟩).1
theorem CtE.args {β : Type} {f : Nat} {ins ins' : List SC} {M : List Item} {pin : List Nat} {post : β → Prop} {out : β → SC} {M' : β → List Item} (h : CtE f ins M pin post out M') (hle : ArgLe ins' ins) : CtE f ins' M pin post out M' := fun w g hs args h1 h2 h3 => h w g hs args h1 (hle _ _ _ h2) h3
def RetK {β : Type} (c : Cfg) (rs : Array ResultVar) (pin : List Nat) (B : Nat → Nat) (pinr : List Nat) (V : Nat → Value) (post : β → Prop) (out : β → SC) (M' : β → List Item) : Po := fun a w => a.defers = c.dfr ∧ ∃ v g hs r, (resR rs a.tmps).run Try.prog w = .ok v w ∧ post r ∧ (out r).ok g hs v ∧ (∀ i ∈ pin, hs i = .pointer (some ⟨B i, 0, none⟩)) ∧ (∀ i ∈ pinr, hs i = V i) ∧ Base c w g ∧ ItemsOk c.may c.w0.heap.size (M' r) g hs w
def isBoxAt (M : List Item) (i : Nat) : Bool := match M[i]? with
 | some (.box _ _ _) => true
 | _ => false
theorem CtE.bodyP {β : Type} {f : Nat} {fn : Func} {code : Code} {n : Nat} {rs : Array ResultVar} {ins : List SC} {M : List Item} (pin pinr : List Nat) {post : β → Prop} {out : β → SC} {M' : β → List Item} (hf : Try.prog.funcs[f]? = some fn) (hb : fn.body = some code) (hn : fn.ntmps = n) (hr : fn.results = rs)
  (hl : Nat.ble ins.length n = true) (hpin : pin.all (isBoxAt M) = true) (h : ∀ (c : Cfg) (B : Nat → Nat) (V : Nat → Value), c.n = n → En c ⟨enumF 0 (ins.map (pinT pin B)), M.map (pinI (pinF pinr V) (pinG pin B))⟩ (cwp code (PQ c (RetK c rs pin B pinr V post out M') [] (RetK c rs pin B pinr V post out M')))) : CtE f ins M (pin ++ pinr) post out M' := fun w g hs args hp ha hm => by
 have hl := Nat.le_of_ble_eq_true hl
 have hla := okArgs_length ha
 have hB : ∀ i ∈ pin, hs i = .pointer (some ⟨(blk (hs i)).getD 0, 0, none⟩) := fun i hi => by
  have e := List.all_eq_true.1 hpin i hi
  unfold isBoxAt at e
  split at e
  ·rename_i hbx
   obtain ⟨b, cs, h1, _⟩ := hm.items i _ hbx
   rw [h1]
   rfl
  ·cases e
 have hmP := hm.pin (P := pinF pinr hs) (D := pinG pin fun i => (blk (hs i)).getD 0) (fun i x e => by
  unfold pinF at e
  cases hc : pinr.any (Nat.beq i) with
  | true => rw [hc] at e; exact Option.some.inj e
  | false => rw [hc] at e; cases e) (fun i b e => by
  unfold pinG at e
  cases hc : pin.any (Nat.beq i) with
  | true =>
   rw [hc] at e
   rw [hB i (any_beq.1 hc), ← Option.some.inj e]
  | false => rw [hc] at e; cases e)
 refine calls_of_wp hf hb (Code.wp_mono (fun e a w' q => ?_) (h (cfgM n w g (mayM M hs)) (fun i => (blk (hs i)).getD 0) hs rfl { tmps := args.toArray ++ Array.replicate (fn.ntmps - args.toArray.size) undef, defers := [] } w ⟨g, hs, ?_⟩))
 ·have key : RetK (cfgM n w g (mayM M hs)) rs pin (fun i => (blk (hs i)).getD 0) pinr hs post out M' a w' → a.defers = [] ∧ ∃ v, (results fn a.tmps).run Try.prog w' = .ok v w' ∧ ∃ v' g' hs' r, Ending.returned v = .returned v' ∧ post r ∧ (out r).ok g' hs' v' ∧ (∀ i ∈ pin ++ pinr, hs' i = hs i) ∧ Base (cfgM 0 w g (mayM M hs)) w' g' ∧ ItemsOk (mayM M hs) w.heap.size (M' r) g' hs' w' := fun ⟨h1, v, g', hs', r, h2, h3, h4, h5, h5', h6, h7⟩ => by
   refine ⟨h1, v, ?_, v, g', hs', r, rfl, h3, h4, fun i hi => ?_, ⟨h6.os, h6.tape, h6.output, h6.grows, h6.frame, h6.ghle, h6.ghnew, h6.pers⟩, h7⟩
   ·subst hr
    exact h2
   ·rcases List.mem_append.1 hi with hi | hi
    ·exact (h5 i hi).trans (hB i hi).symm
    ·exact h5' i hi
  cases e <;> first | exact key q | exact (q : False).elim | exact (q.2 : False).elim
 ·refine ⟨?_, rfl, ⟨rfl, rfl, rfl, Nat.le_refl _, fun _ _ _ => rfl, Gh.le.refl g, fun b o e => .inl e, hp⟩, fun t x hx => ?_, hmP.items, hmP.sep, fun i it hi hn b hb => ?_⟩
  ·simp [hn]
   omega
  ·obtain ⟨u, h1, _, h3⟩ := enumF_ok (okArgs_pinT hB ha) hx
   simp only [Nat.sub_zero] at h1
   have hlt := (List.getElem?_eq_some_iff.1 h1).1
   have : (args.toArray ++ Array.replicate (fn.ntmps - args.toArray.size) undef).getD t undef = u := by
    rw [Array.getD_eq_getD_getElem?, Array.getElem?_append_left (by simpa using hlt)]
    simp [h1]
   rw [this]
   exact h3
  ·obtain ⟨h1, h2⟩ := hmP.mine i it hi hn b hb
   obtain ⟨it', h3, rfl⟩ := map_pin_get hi
   exact ⟨h1, fun hf => ⟨.inl ⟨i, it', h3, by rw [← hf, pinI_fz], hb⟩, (h2 hf).2⟩⟩
inductive Wit where
 | slot (t : Nat)
 | cell (q j : Nat)
 | cap (t k : Nat)
def witOf (S : St) : Wit → Option At
 | .slot t => match look t S.F with
  | some (.sv (.one a)) => some a
  | _ => none
 | .cell q j => match S.M[q]? with
  | some (.box cells _ _) => cells[j]?
  | _ => none
 | .cap t k => match look t S.F with
  | some (.sv (.one (.pfn _ l))) => match l[k]? with
   | some p => some (.pptr p.1 0 p.2)
   | none => none
  | _ => none
theorem witOf_ok {c : Cfg} {S : St} {a : Act} {w : World} {g : Gh} {hs : Nat → Value} (h : Ok' c S a w g hs) {x : Wit} {y : At} (e : witOf S x = some y) : ∃ u, y.ok g hs u := by
 cases x with
 | slot t =>
  unfold witOf at e
  simp only at e
  split at e
  ·rename_i b hl
   cases e
   exact ⟨_, h.slots t _ (look_mem hl)⟩
  ·cases e
 | cell q j =>
  unfold witOf at e
  simp only at e
  split at e
  ·rename_i cells ty fz hq
   obtain ⟨b, cs, _, h6, _⟩ := h.items q _ hq
   exact oks_at h6 (List.mem_of_getElem? e)
  ·cases e
 | cap t k =>
  unfold witOf at e
  simp only at e
  split at e
  ·rename_i f l hl
   have hk := h.slots t _ (look_mem hl)
   split at e
   ·rename_i p hp
    cases e
    exact ⟨_, ⟨hk.1.1 p (List.mem_of_getElem? hp), rfl⟩, trivial⟩
   ·cases e
  ·cases e
theorem wits {c : Cfg} {S : St} {a : Act} {w : World} {g : Gh} {hs : Nat → Value} (h : Ok' c S a w g hs) {ws : List Wit} {pin : List Nat} {f : Nat → At} (e : ws.map (witOf S) = pin.map fun i => some (f i)) {i : Nat} (hi : i ∈ pin) : ∃ u, (f i).ok g hs u := by
 obtain ⟨j, hj⟩ := List.mem_iff_getElem?.1 hi
 have := congrArg (·[j]?) e
 simp only [List.getElem?_map, hj, Option.map_some] at this
 cases ht : ws[j]? with
 | none => rw [ht] at this; simp at this
 | some t =>
  rw [ht] at this
  simp only [Option.map_some, Option.some.injEq] at this
  exact witOf_ok h this
section
variable {c : Cfg} {S : St} {tab : Tab}
theorem En.backP {β : Type} {post : β → Prop} {out : β → SC} {M' : β → List Item} {rs : Array ResultVar} {pin : List Nat} {B : Nat → Nat} {pinr : List Nat} {V : Nat → Value} (ts ws : List Wit) (ht : tab.ok) (r : β) (hp : post r) (e : evR tab S rs = some (out r)) (hM : (dropM ((M' r).map (pinI (pinF pinr V) (pinG pin B))) S.M).1 = (dropM ((M' r).map (pinI (pinF pinr V) (pinG pin B))) S.M).2)
  (hB : ts.map (witOf S) = pin.map fun i => some (.pptr i 0 (B i))) (hR : ws.map (witOf S) = pinr.map fun i => some (.pown i (V i))) : En c S (RetK c rs pin B pinr V post out M') := fun a w ⟨g, hs, h⟩ => by
 obtain ⟨v, h1, h2⟩ := evR_ok ht h e
 have hM := dropM_ok hM
 have hm : ∀ (i : Nat) (it : Item), ((M' r).map (pinI (pinF pinr V) (pinG pin B)))[i]? = some it → it ≠ .gone → S.M[i]? = some it := fun i it hi hn => (hM i it hi).resolve_left hn
 have hI : ItemsOk c.may c.w0.heap.size ((M' r).map (pinI (pinF pinr V) (pinG pin B))) g hs w := by
  refine ⟨fun i it hi => ?_, fun i j it jt hij hi hj hfi hnj => h.sep i j it jt hij (hm i it hi (fz_gone hfi)) (hm j jt hj hnj) hfi hnj, fun i it hi hni => h.mine i it (hm i it hi hni) hni⟩
  rcases hM i it hi with rfl | h1
  ·trivial
  ·exact h.items i it h1
 refine ⟨h.defers, v, g, hs, r, h1, hp, h2, fun i hi => ?_, fun i hi => ?_, h.base, hI.unpin⟩
 ·obtain ⟨u, hu⟩ := wits h hB hi
  exact hu.1.1
 ·obtain ⟨u, hu⟩ := wits h hR hi
  exact hu.1.1
end
theorem dlt {k n : Nat} (h : decide ((k : Int) < (n : Int)) = true) : k < n := by
 have := of_decide_eq_true h
 omega
theorem dge {k n : Nat} (h : decide ((k : Int) < (n : Int)) = false) : n ≤ k := by
 have := of_decide_eq_false h
 omega
theorem wsucc {k : Nat} (h : k < 9223372036854775807) : wr ((k : Int) + 1) = ((k + 1 : Nat) : Int) := by
 rw [wr_in (by omega) (by omega)]
 rfl
theorem mu_up {n k : Nat} (h : k < n) (hk : k < 9223372036854775807) : n - (wr ((k : Int) + 1)).toNat < n - (k : Int).toNat := by
 rw [wsucc hk, Int.toNat_natCast, Int.toNat_natCast]
 omega
theorem idx_at {α : Type} {l : List α} {k : Nat} (h : k < l.length) : idx l (k : Int) = some l[k] := by simp [idx, h]
theorem idx_of {α : Type} {l : List α} {i : Int} (z : α) (h0 : 0 ≤ i) (h1 : i < (l.length : Int)) : idx l i = some (l.getD i.toNat z) := by
 have h : i.toNat < l.length := by omega
 unfold idx
 rw [if_pos h0, List.getD_eq_getElem?_getD, List.getElem?_eq_getElem h]
 rfl
theorem capOk_of {n m b : Nat} (h : (n + m) * b ≤ 140737488355328) : capOk n m b := h
section
variable {c : Cfg} {S : St} {tab : Tab} {n : Nat} {o : Oper} {N : Po}
end
section
variable {c : Cfg} {S S1 : St} {a : Act} {w : World} {g : Gh} {hs : Nat → Value} {tab : Tab} {n : Nat} {o : Oper} {ops : Array Oper} {rest : List Oper} {N R : Po} {E : List (Nat × Po)}
end
section
variable {c : Cfg} {S S1 : St} {a : Act} {w : World} {g : Gh} {hs : Nat → Value} {tab : Tab} {n : Nat} {o : Oper} {ops : Array Oper} {rest L0 : List Oper} {N : Po}
end
theorem letsOut_any {c : Cfg} {N Z : Po} (h : LetsOut (OnlyP c N)) : LetsOut (OnlyP c Z) := by
 obtain ⟨a, w, h⟩ := h
 exact h.elim
theorem wp_anyN {c : Cfg} {o : Oper} {a : Act} {w : World} {K N Z : Po} (hh : o.wp Try.prog a w K (OnlyP c N)) : o.wp Try.prog a w K (OnlyP c Z) := by
 unfold Oper.wp at *
 generalize (execOp a.eval o).run Try.prog w = r at *
 cases r with
 | ok n w' =>
  cases n <;> simp only [Oper.upon] at hh ⊢ <;>
   first
    | exact hh
    | exact Calls.mono hh (fun e w'' he => by cases e <;> first | exact he | exact letsOut_any he)
 | halt x w' => cases x <;> simp only [Oper.upon] at hh ⊢ <;> exact hh
section
variable {c : Cfg} {l : List Oper} {N : Po} {S : St} {fuel : Nat} {listed : Array Bool}
def RD (c : Cfg) (l : List Oper) (N : Po) (fuel : Nat) (listed : Array Bool) (S : St) : Prop := ∀ a w, Ok c S a w → wpAny Try.prog .any l.toArray (OnlyP c N) fuel listed a w
theorem RD.nil (hr : Region.ready .any l.toArray listed = []) (h : En c S N) : RD c l N 0 listed S := fun a w hk => ⟨hr, h a w hk⟩
def RDs (c : Cfg) (l : List Oper) (N : Po) (fuel : Nat) (listed : Array Bool) (S : St) : List Nat → Prop
 | [] => True
 | i :: r => (∃ (o : Oper) (S' : St) (L' : Array Bool), l[i]? = some o ∧ WL c l.toArray [o] S (fun a w => Ok c S' a w) ∧ listed.setIfInBounds i true = L' ∧ RD c l N fuel L' S') ∧ RDs c l N fuel listed S r
theorem RDs.get : ∀ {is : List Nat}, RDs c l N fuel listed S is → ∀ i ∈ is, ∃ (o : Oper) (S' : St), l[i]? = some o ∧ WL c l.toArray [o] S (fun a w => Ok c S' a w) ∧ RD c l N fuel (listed.setIfInBounds i true) S'
 | j :: r, h, i, hi => by
  rcases List.mem_cons.1 hi with e | hi
  ·subst e
   obtain ⟨o, S', L', h1, h2, h3, h4⟩ := h.1
   subst h3
   exact ⟨o, S', h1, h2, h4⟩
  ·exact RDs.get h.2 i hi
theorem RD.succ (is : List Nat) (hr : Region.ready .any l.toArray listed = is) (hne : is.isEmpty = false) (h : RDs c l N fuel listed S is) : RD c l N (fuel + 1) listed S := fun a w hk => by
 refine ⟨fun e => ?_, fun i hi => ?_⟩
 ·rw [hr] at e
  subst e
  cases hne
 ·rw [hr] at hi
  obtain ⟨o, S', ho, hw, hd⟩ := RDs.get h i hi
  have hw := hw a w hk
  have ho' : l.toArray[i]? = some o := by simpa using ho
  unfold wpOp
  rw [ho']
  simp only
  unfold wpList at hw
  split
  ·rename_i hwant
   rw [if_pos hwant] at hw
   rcases hw with hw | hw
   ·exact .inl (wp_anyN (Oper.wp_mono (fun a' w' h' => hd a' w' h') hw))
   ·exact .inr ⟨hw.1, letsOut_any hw.2⟩
  ·rename_i hwant
   rw [if_neg hwant] at hw
   exact hd _ _ hw
theorem WL.nilI {ops : Array Oper} : WL c ops [] S (fun a w => Ok c S a w) := fun _ _ hk => hk
end
section
variable {c : Cfg} {S : St}
end
def xsE (l : List Oper) (ms : List Nat) : Nat → List (List Bool)
 | 0 => [[]]
 | i + 1 => (xsE l ms i).flatMap fun b => match ms.contains i with
  | true => [b ++ [true]]
  | false => match (onI l i).all fun j => b.getD j false with
   | true => [b ++ [false], b ++ [true]]
   | false => [b ++ [false]]
def xsA (l : List Oper) (ms : List Nat) (m : Nat) : List (Array Bool) := (xsE l ms m).map fun b => (b ++ List.replicate (l.length - m) false).toArray
def behindE (l : List Oper) (m : Nat) : Bool := (List.range l.length).all fun k => Nat.ble k m || ((onI l k).contains m || (closE l k (onI l k)).contains m)
def mustE (l : List Oper) (m : Nat) (ms : List Nat) : Bool := ms.all fun j => (onI l m).contains j || (closE l m (onI l m)).contains j
section
variable {c : Cfg} {C : Cert} {l : List Oper} {n m : Nat} {N : Po}
def XsOk (c : Cfg) (C : Cert) (l : List Oper) (N : Po) : List (Array Bool) → Prop
 | [] => True
 | A :: r => (∃ (S : St) (f : Nat), subE S ⟨C.FL l (LB A), C.ML (LB A)⟩ = subX S ∧ (A.toList.filter id).length + f = l.length ∧ RD c l N f A S) ∧ XsOk c C l N r
theorem XsOk.get : ∀ {As : List (Array Bool)}, XsOk c C l N As → ∀ A ∈ As, ∃ (S : St) (f : Nat), subE S ⟨C.FL l (LB A), C.ML (LB A)⟩ = subX S ∧ (A.toList.filter id).length + f = l.length ∧ RD c l N f A S
 | B :: r, h, A, hA => by
  rcases List.mem_cons.1 hA with rfl | hA
  ·exact h.1
  ·exact XsOk.get h.2 A hA
theorem XsOk.have {As : List (Array Bool)} (f' : Nat) (L' : Array Bool) (S' : St) (h1 : RD c l N f' L' S') (h2 : RD c l N f' L' S' → XsOk c C l N As) : XsOk c C l N As := h2 h1
theorem xsE_mem {ms : List Nat} {listed : Array Bool} (hs : listed.size = l.length) (hb : ∀ (i : Nat) (o : Oper), l[i]? = some o → ∀ j ∈ onE o, j < i) (hcl : Closed' l (LB listed)) (hm : ∀ j ∈ ms, LB listed j = true) : ∀ i, i ≤ l.length → listed.toList.take i ∈ xsE l ms i
 | 0, _ => by simp [xsE]
 | i + 1, hi => by
  have ih := xsE_mem hs hb hcl hm i (by omega)
  have hlt : i < listed.toList.length := by rw [Array.length_toList, hs]; omega
  have hLi : LB listed i = listed.toList[i] := by
   unfold LB
   rw [Array.getD_eq_getD_getElem?, ← Array.getElem?_toList, List.getElem?_eq_getElem hlt]
   rfl
  have hpre : ∀ j, j < i → (listed.toList.take i).getD j false = LB listed j := fun j hj => by
   unfold LB
   rw [List.getD_eq_getElem?_getD, List.getElem?_take_of_lt hj, Array.getD_eq_getD_getElem?, ← Array.getElem?_toList]
  rw [List.take_add_one, List.getElem?_eq_getElem hlt]
  show _ ∈ (xsE l ms i).flatMap _
  rw [List.mem_flatMap]
  refine ⟨_, ih, ?_⟩
  show _ ++ [listed.toList[i]] ∈ _
  split
  ·rename_i hc
   have := hm i (List.contains_iff_mem.1 hc)
   rw [hLi] at this
   rw [this]
   exact List.mem_singleton.2 rfl
  ·split
   ·cases listed.toList[i] <;> simp
   ·rename_i hne
    cases he : listed.toList[i] with
    | false => simp
    | true =>
     exfalso
     rw [he] at hLi
     obtain ⟨h1, h2⟩ := hcl i hLi
     have ho : l[i]? = some (l[i]'h1) := List.getElem?_eq_getElem h1
     have : ((onI l i).all fun j => (listed.toList.take i).getD j false) = true := List.all_eq_true.2 fun j hj => by
      have hj2 := h2 j hj
      rw [onI_eq ho] at hj
      rw [hpre j (hb i _ ho j hj)]
      exact hj2
     rw [this] at hne
     cases hne
theorem xsA_mem {ms : List Nat} {listed : Array Bool} (hs : listed.size = l.length) (hb : ∀ (i : Nat) (o : Oper), l[i]? = some o → ∀ j ∈ onE o, j < i) (hcl : Closed' l (LB listed)) (hm : ∀ j ∈ ms, LB listed j = true) (hml : m ≤ l.length) (hlt : ∀ i, LB listed i = true → i < m) : listed ∈ xsA l ms m := by
 unfold xsA
 rw [List.mem_map]
 refine ⟨_, xsE_mem hs hb hcl hm m hml, ?_⟩
 have hd : listed.toList.drop m = List.replicate (l.length - m) false := by
  refine List.eq_replicate_iff.2 ⟨by simp [hs], fun b hb' => ?_⟩
  obtain ⟨i, hi, rfl⟩ := List.mem_iff_getElem.1 hb'
  rw [List.getElem_drop]
  have hi2 : m + i < listed.toList.length := by simp at hi ⊢; omega
  have hLi : LB listed (m + i) = listed.toList[m + i] := by
   unfold LB
   rw [Array.getD_eq_getD_getElem?, ← Array.getElem?_toList, List.getElem?_eq_getElem hi2]
   rfl
  cases he : listed.toList[m + i] with
  | false => rfl
  | true =>
   rw [he] at hLi
   have := hlt _ hLi
   omega
 rw [← hd, List.take_append_drop]
theorem anyX_ok {ms : List Nat} (hk : Chk C l) (hn : c.n = n) (hd : (l.all fun o => match o.dst with | some d => Nat.blt d n | none => true) = true) (hml : m < l.length) (hbe : behindE l m = true) (hms : mustE l m ms = true) (hs : StepsOk c C l 0 (l.take m)) (hX : XsOk c C l N (xsA l ms m)) :
  ∀ (fuel : Nat) (listed : Array Bool) (a : Act) (w : World), listed.size = l.length → Closed' l (LB listed) → (∀ i, LB listed i = true → i < m) → (listed.toList.filter id).length + fuel = l.length → Ok c ⟨C.FL l (LB listed), C.ML (LB listed)⟩ a w → wpAny Try.prog .any l.toArray (OnlyP c N) fuel listed a w := by
 intro fuel
 induction fuel with
 | zero =>
  intro listed a w hsz hcl hlt hcnt hok
  have hall : ∀ i, i < l.length → LB listed i = true := fun i hi => by
   have hlen : listed.toList.length = l.length := by simpa using hsz
   have := count_all listed.toList (by omega) (listed[i]'(by omega)) (by simp)
   unfold LB
   rw [Array.getD_eq_getD_getElem?]
   simp [hsz, hi, this]
  have := hlt m (hall m hml)
  omega
 | succ fuel ih =>
  intro listed a w hsz hcl hlt hcnt hok
  by_cases hR : ∀ j ∈ onI l m, LB listed j = true
  ·have hmem : listed ∈ xsA l ms m := xsA_mem hsz hk.below hcl (fun j hj => by
    have h1 := List.all_eq_true.1 hms j hj
    rw [Bool.or_eq_true] at h1
    rcases h1 with h1 | h1
    ·exact hR j (List.contains_iff_mem.1 h1)
    ·exact closE_listed hcl m hR j (List.contains_iff_mem.1 h1)) (by omega) hlt
   obtain ⟨S, f, h1, h2, h3⟩ := hX.get listed hmem
   obtain rfl : f = fuel + 1 := by omega
   exact h3 a w (sub_ok h1 a w hok)
  ·have hmF : LB listed m = false := by
    cases e : LB listed m with
    | false => rfl
    | true => exact absurd (hlt m e) (Nat.lt_irrefl _)
   refine ⟨fun hr => ?_, fun i hi => ?_⟩
   ·have := ready_nil hsz hk.below hr m hml
    rw [this] at hmF
    cases hmF
   obtain ⟨o, ho, hL, hon⟩ := ready_mem hsz hi
   have hltl := (List.getElem?_eq_some_iff.1 ho).1
   have him : i < m := by
    refine Decidable.byContradiction fun hc => ?_
    rcases Nat.lt_or_ge m i with hmi | hmi
    ·have h1 := List.all_eq_true.1 hbe i (List.mem_range.2 hltl)
     rw [Bool.or_eq_true] at h1
     rcases h1 with h1 | h1
     ·have := Nat.le_of_ble_eq_true h1
      omega
     ·rw [onI_eq ho, Bool.or_eq_true] at h1
      have : LB listed m = true := by
       rcases h1 with h1 | h1
       ·exact hon m (List.contains_iff_mem.1 h1)
       ·exact closE_listed hcl i hon m (List.contains_iff_mem.1 h1)
      rw [this] at hmF
      cases hmF
    ·obtain rfl : i = m := by omega
     exact hR (by rw [onI_eq ho]; exact hon)
   have hst := stepsOk_get hs i o (by rw [List.getElem?_take_of_lt him]; exact ho)
   rw [Nat.zero_add] at hst
   have hset := LB_set (listed := listed) (i := i) (by omega)
   have hnext : ∀ a' w', Ok c ⟨C.FL l (addL (LB listed) i), C.ML (addL (LB listed) i)⟩ a' w' → wpAny Try.prog .any l.toArray (OnlyP c N) fuel (listed.setIfInBounds i true) a' w' := fun a' w' h' => by
    refine ih _ a' w' (by simpa using hsz) ?_ ?_ ?_ (by rw [hset]; exact h')
    ·rw [hset]
     intro j hj
     unfold addL at hj ⊢
     by_cases e : j = i
     ·subst e
      refine ⟨hltl, fun k hk' => ?_⟩
      rw [onI_eq ho] at hk'
      split
      ·rfl
      ·exact hon k hk'
     ·rw [if_neg e] at hj
      obtain ⟨h1, h2⟩ := hcl j hj
      refine ⟨h1, fun k hk' => ?_⟩
      split
      ·rfl
      ·exact h2 k hk'
    ·rw [hset]
     intro j hj
     unfold addL at hj
     by_cases e : j = i
     ·omega
     ·rw [if_neg e] at hj
      exact hlt j hj
    ·rw [Array.toList_setIfInBounds, count_set]
     ·omega
     ·unfold LB at hL
      rw [Array.getD_eq_getD_getElem?] at hL
      have : listed[i]? = some listed[i] := by simp [hsz, hltl]
      rw [this] at hL
      simp at hL
      rw [Array.getElem?_toList, this, hL]
   have := step_ok (Z := N) hk hcl hn hd ho hL hon hst hok hnext
   unfold wpOp
   have ho' : l.toArray[i]? = some o := by simpa using ho
   rw [ho']
   simp only
   split
   ·rename_i hw
    rw [if_pos hw] at this
    exact .inl this
   ·rename_i hw
    rw [if_neg hw] at this
    exact this
theorem En.regionX {S : St} {id : Nat} {E : List (Nat × Po)} {R : Po} (C : Cert) (m : Nat) (ms : List Nat) (As : List (Array Bool)) (fin : St) (hm : Try.prog.follows .mixedOrders = true) (hn : c.n = n) (hml : Nat.blt m l.length = true) (hbe : behindE l m = true) (hms : mustE l m ms = true) (hk : chkE C l = true) (hd : (l.all fun o => match o.dst with | some d => Nat.blt d n | none => true) = true)
  (h0 : subE ⟨C.FL l (fun _ => false), C.ML (fun _ => false)⟩ S = subX ⟨C.FL l (fun _ => false), C.ML (fun _ => false)⟩) (hA : xsA l ms m = As) (hs : StepsOk c C l 0 (l.take m))
  (h1 : ∀ N : Po, En c fin N → XsOk c C l N As) (h2 : En c fin N) : En c S (cwp (.region id l.toArray true) (PQ c N E R)) := fun a w ⟨g, hs', hok⟩ => by
 have hok1 : Ok' c S a w.drew g hs' := hok.grown (grown_drew w)
 have hL : LB (Array.replicate l.length false) = fun _ => false := by
  funext i
  unfold LB
  rw [Array.getD_eq_getD_getElem?, Array.getElem?_replicate]
  split <;> rfl
 subst hA
 refine Code.wp_mono (fun e a w q => ?_) (wp_region_any (Q := OnlyP c N) hm (anyX_ok (chk_of hk) hn hd (Nat.le_of_ble_eq_true hml) hbe hms hs (h1 N h2) l.toArray.size _ a w.drew (by simp) ?_ ?_ ?_ ?_))
 ·cases e <;> first | exact q | exact (q : False).elim
 ·intro i hi
  simp only [List.size_toArray] at hi
  rw [hL] at hi
  cases hi
 ·intro i hi
  simp only [List.size_toArray] at hi
  rw [hL] at hi
  cases hi
 ·simp only [List.size_toArray, Array.toList_replicate]
  rw [List.filter_replicate_of_neg (by simp)]
  simp
 ·simp only [List.size_toArray]
  rw [hL]
  exact sub_ok h0 a w.drew ⟨g, hs', hok1⟩
end
def unNil (k : Nat) : SC → SC
 | .sv (.one (.own j)) => bif Nat.beq j k then .sv (.one (.v (.slice none 0 0))) else .sv (.one (.own j))
 | x => x
def awayS (k : Nat) (x : SC) : Bool := x.refs.all fun i => !(Nat.beq i k)
def awayI (k : Nat) (x : Item) : Bool := x.refs.all fun i => !(Nat.beq i k)
section
variable {g : Gh} {hs : Nat → Value} {k : Nat}
theorem away_of {l : List Nat} (h : (l.all fun i => !(Nat.beq i k)) = true) : ∀ i ∈ l, (if i = k then Value.slice none 0 0 else hs i) = hs i := fun i hi => by
 rw [if_neg (beq_ne (List.all_eq_true.1 h i hi))]
theorem okArgs_unNil : ∀ {l : List SC} {us : List Value}, ((l.map (unNil k)).all (awayS k)) = true → okArgs g hs (l.map (unNil k)) us → okArgs g (fun i => if i = k then .slice none 0 0 else hs i) l us
 | [], [], _, _ => trivial
 | [], _ :: _, _, h => h.elim
 | _ :: _, [], _, h => h.elim
 | x :: l, u :: us, ha, h => by
  rw [List.map_cons, List.all_cons, Bool.and_eq_true] at ha
  refine ⟨?_, okArgs_unNil ha.2 h.2⟩
  have h1 := h.1
  have h2 := ha.1
  have gen : unNil k x = x → SC.ok g (fun i => if i = k then .slice none 0 0 else hs i) x u := fun e => by
   rw [e] at h1 h2
   exact SC.ok_hs (away_of h2) h1
  unfold unNil at h1 gen
  split at h1
  ·rename_i j
   cases hc : Nat.beq j k with
   | false => exact gen (by simp [hc])
   | true =>
    rw [hc] at h1
    have hj := Nat.eq_of_beq_eq_true hc
    subst hj
    refine ⟨?_, h1.2⟩
    show u = (if j = j then _ else hs j)
    rw [if_pos rfl]
    exact h1.1
  ·rename_i hne
   refine gen ?_
   split
   ·rename_i j
    exact absurd rfl (hne j)
   ·rfl
theorem CtE.nilOwn {β α : Type} {f e : Nat} {T : Ty α} {ins : List SC} {M : List Item} {pin : List Nat} {post : β → Prop} {out : β → SC} {M' : β → List Item} (h : CtE f ins (M ++ [rowI e T []]) pin post out M') (hk : M.length = k) (hc : ((ins.map (unNil k)).all (awayS k) && M.all (awayI k) && pin.all fun i => !(Nat.beq i k)) = true) : CtE f (ins.map (unNil k)) M pin post out M' := fun w g hs args h1 h2 h3 => by
 rw [Bool.and_eq_true, Bool.and_eq_true] at hc
 obtain ⟨⟨c1, c2⟩, c3⟩ := hc
 have hget : ∀ {i : Nat} {it : Item}, (M ++ [rowI e T ([] : List α)])[i]? = some it → (i ≠ k ∧ M[i]? = some it) ∨ (i = k ∧ it = rowI e T []) := fun {i it} hi => by
  rcases Nat.lt_or_ge i M.length with hl | hl
  ·rw [List.getElem?_append_left hl] at hi
   exact .inl ⟨by omega, hi⟩
  ·rw [List.getElem?_append_right hl] at hi
   have : i - M.length = 0 := by
    refine Decidable.byContradiction fun hc => ?_
    rw [List.getElem?_eq_none (by simp; omega)] at hi
    cases hi
   rw [this] at hi
   cases hi
   exact .inr ⟨by omega, rfl⟩
 have hne : ∀ {i : Nat}, i ≠ k → (if i = k then Value.slice none 0 0 else hs i) = hs i := fun hi => if_neg hi
 have heq : (if k = k then Value.slice none 0 0 else hs k) = Value.slice none 0 0 := if_pos rfl
 have hmay : mayM (M ++ [rowI e T ([] : List α)]) (fun i => if i = k then Value.slice none 0 0 else hs i) = mayM M hs := by
  funext b
  refine propext ⟨?_, ?_⟩
  ·rintro ⟨i, it, p1, p2, p3⟩
   replace p3 : Blk (if i = k then Value.slice none 0 0 else hs i) b := p3
   rcases hget p1 with ⟨q1, q2⟩ | ⟨q1, q2⟩
   ·rw [hne q1] at p3
    exact ⟨i, it, q2, p2, p3⟩
   ·subst q1
    rw [heq] at p3
    cases p3
  ·rintro ⟨i, it, p1, p2, p3⟩
   have hl := (List.getElem?_eq_some_iff.1 p1).1
   refine ⟨i, it, by rw [List.getElem?_append_left hl]; exact p1, p2, ?_⟩
   show Blk (if i = k then Value.slice none 0 0 else hs i) b
   rw [hne (by omega)]
   exact p3
 have := h w g (fun i => if i = k then .slice none 0 0 else hs i) args h1 (okArgs_unNil c1 h2) ⟨fun i it hi => ?_, fun i j it jt hij hi hj hf hg b hb hb2 => ?_, fun i it hi hg b hb => ?_⟩
 ·rw [hmay] at this
  refine this.mono ?_
  rintro en w' ⟨v, g', hs', r, e1, e2, e3, e4, e5⟩
  exact ⟨v, g', hs', r, e1, e2, e3, fun i hi => (e4 i hi).trans (hne (beq_ne (List.all_eq_true.1 c3 i hi))), e5⟩
 ·rcases hget hi with ⟨q1, q2⟩ | ⟨q1, q2⟩
  ·show it.ok g _ w (if i = k then Value.slice none 0 0 else hs i)
   rw [hne q1]
   exact Item.ok_hs (away_of (List.all_eq_true.1 c2 it (List.mem_of_getElem? q2))) (h3.items i it q2)
  ·subst q1 q2
   show (rowI e T ([] : List α)).ok g _ w (if i = i then Value.slice none 0 0 else hs i)
   rw [heq]
   exact ⟨[], World.ownsAt_nil _ _ _, rowRead.nil⟩
 ·rcases hget hi with ⟨q1, q2⟩ | ⟨q1, q2⟩
  ·rw [hne q1] at hb
   rcases hget hj with ⟨r1, r2⟩ | ⟨r1, r2⟩
   ·rw [hne r1] at hb2
    exact h3.sep i j it jt hij q2 r2 hf hg b hb hb2
   ·subst r1
    rw [heq] at hb2
    cases hb2
  ·subst q1
   rw [heq] at hb
   cases hb
 ·rcases hget hi with ⟨q1, q2⟩ | ⟨q1, q2⟩
  ·rw [hne q1] at hb
   exact h3.mine i it q2 hg b hb
  ·subst q1
   rw [heq] at hb
   cases hb
end
section
variable {c : Cfg} {S : St} {a : Act} {w : World} {g : Gh} {hs hs' : Nat → Value} {i p : Nat}
theorem Ok'.regroup (h : Ok' c S a w g hs) (F' : List (Nat × SC)) (M' : List Item) (hF : ∀ t x, (t, x) ∈ F' → x.ok g hs' (a.tmps.getD t undef)) (hM : ∀ q it, M'[q]? = some it → q ≠ i → q ≠ p → S.M[q]? = some it) (hH : ∀ q, q ≠ i → q ≠ p → hs' q = hs q)
  (hR : ∀ j it, S.M[j]? = some it → j ≠ i → j ≠ p → ∀ q ∈ it.refs, hs' q = hs q) (hn : ∀ q it, M'[q]? = some it → q = i ∨ q = p → it.ok g hs' w (hs' q))
  (hB : ∀ q it, M'[q]? = some it → it ≠ .gone → q = i ∨ q = p → ∀ b, Blk (hs' q) b → ∃ q' it', (q' = i ∨ q' = p) ∧ S.M[q']? = some it' ∧ it'.fz = false ∧ Blk (hs q') b)
  (hD : ∀ it jt, M'[i]? = some it → M'[p]? = some jt → i ≠ p → it ≠ .gone → jt ≠ .gone → ∀ b, Blk (hs' i) b → ¬ Blk (hs' p) b) : Ok' c ⟨F', M'⟩ a w g hs' := by
 refine ⟨h.size, h.defers, h.base, hF, fun q it hq => ?_, fun x y it jt hxy hx hy hfz hng b hbx hby => ?_, fun q it hq hng b hb => ?_⟩
 ·by_cases e : q = i ∨ q = p
  ·exact hn q it hq e
  ·have e1 : q ≠ i := fun h => e (.inl h)
   have e2 : q ≠ p := fun h => e (.inr h)
   have h1 := hM q it hq e1 e2
   show it.ok g hs' w (hs' q)
   rw [hH q e1 e2]
   exact Item.ok_hs (hR q it h1 e1 e2) (h.items q it h1)
 ·by_cases ex : x = i ∨ x = p
  ·obtain ⟨x', ix, hx1, hx2, hx3, hx4⟩ := hB x it hx (fz_gone hfz) ex b hbx
   by_cases ey : y = i ∨ y = p
   ·rcases ex with rfl | rfl
    ·rcases ey with rfl | rfl
     ·exact hxy rfl
     ·exact hD it jt hx hy hxy (fz_gone hfz) hng b hbx hby
    ·rcases ey with rfl | rfl
     ·exact hD jt it hy hx (Ne.symm hxy) hng (fz_gone hfz) b hby hbx
     ·exact hxy rfl
   ·have e1 : y ≠ i := fun h => ey (.inl h)
    have e2 : y ≠ p := fun h => ey (.inr h)
    rw [hH y e1 e2] at hby
    refine h.sep x' y ix jt ?_ hx2 (hM y jt hy e1 e2) hx3 hng b hx4 hby
    rcases hx1 with rfl | rfl
    ·exact Ne.symm e1
    ·exact Ne.symm e2
  ·have e1 : x ≠ i := fun h => ex (.inl h)
   have e2 : x ≠ p := fun h => ex (.inr h)
   have hx1 := hM x it hx e1 e2
   rw [hH x e1 e2] at hbx
   by_cases ey : y = i ∨ y = p
   ·obtain ⟨y', iy, hy1, hy2, hy3, hy4⟩ := hB y jt hy hng ey b hby
    refine h.sep x y' it iy ?_ hx1 hy2 hfz (fz_gone hy3) b hbx hy4
    rcases hy1 with rfl | rfl
    ·exact e1
    ·exact e2
   ·have f1 : y ≠ i := fun h => ey (.inl h)
    have f2 : y ≠ p := fun h => ey (.inr h)
    rw [hH y f1 f2] at hby
    exact h.sep x y it jt hxy hx1 (hM y jt hy f1 f2) hfz hng b hbx hby
 ·by_cases e : q = i ∨ q = p
  ·obtain ⟨q', it', h1, h2, h3, h4⟩ := hB q it hq hng e b hb
   obtain ⟨m1, m2⟩ := h.mine q' it' h2 (fz_gone h3) b h4
   exact ⟨m1, fun _ => m2 h3⟩
  ·have e1 : q ≠ i := fun h => e (.inl h)
   have e2 : q ≠ p := fun h => e (.inr h)
   rw [hH q e1 e2] at hb
   exact h.mine q it (hM q it hq e1 e2) hng b hb
end
abbrev FamE (κ α : Type) := Value × List (κ × α) × Array MapEntry × Nat
def famRest {κ α : Type} (l : List (FamE κ α)) : Option Nat → List (FamE κ α)
 | none => l
 | some k => l.eraseIdx k
def famRefs {κ α : Type} (l : List (FamE κ α)) : List Value := l.map Prod.fst
section
variable {κ α : Type} {enc : κ → Value} {T : Ty α}
theorem famRefs_set {l : List (FamE κ α)} {k : Nat} {r : Value} {D D' : List (κ × α)} {es es' : Array MapEntry} {ck ck' : Nat} (h : l[k]? = some (r, D, es, ck)) : famRefs (l.set k (r, D', es', ck')) = famRefs l := by
 unfold famRefs
 rw [List.map_set]
 refine List.ext_getElem? fun i => ?_
 rw [List.getElem?_set]
 split
 ·rename_i e
  subst e
  have hl := (List.getElem?_eq_some_iff.1 h).1
  rw [if_pos (by simpa using hl), List.getElem?_map, h]
  rfl
 ·rfl
theorem famRest_mem {l : List (FamE κ α)} {k : Nat} {e : FamE κ α} : e ∈ famRest l (some k) ↔ ∃ i, i ≠ k ∧ l[i]? = some e := by
 unfold famRest
 exact List.mem_eraseIdx_iff_getElem?
theorem famRest_ne {l : List (FamE κ α)} (hn : (famRefs l).Nodup) {k : Nat} {e e' : FamE κ α} (h : l[k]? = some e) (h' : e' ∈ famRest l (some k)) : e'.1 ≠ e.1 := fun he => by
 obtain ⟨i, h1, h2⟩ := famRest_mem.1 h'
 have g1 : (famRefs l)[i]? = some e'.1 := by unfold famRefs; rw [List.getElem?_map, h2]; rfl
 have g2 : (famRefs l)[k]? = some e.1 := by unfold famRefs; rw [List.getElem?_map, h]; rfl
 have hl := (List.getElem?_eq_some_iff.1 g1).1
 exact h1 ((List.getElem?_inj hl hn).1 (by rw [g1, g2, he]))
def famE (enc : κ → Value) (T : Ty α) (g : Gh) (H : Nat → Option Obj) (e : FamE κ α) : Prop := ∃ m, e.1 = .map (some m) ∧ H m = some (.map e.2.2.1 e.2.2.2) ∧ mapRead enc T e.2.1 g (e.2.2.1, e.2.2.2)
def famR (enc : κ → Value) (T : Ty α) (l : List (FamE κ α)) (o : Option Nat) : Ext where
 R g H h := h = .tuple (famRefs (famRest l o)).toArray ∧ (famRefs l).Nodup ∧ ∀ e ∈ famRest l o, famE enc T g H e
 mono g g' H v hg h := by
  refine ⟨h.1, h.2.1, fun e he => ?_⟩
  obtain ⟨m, h1, h2, h3⟩ := h.2.2 e he
  exact ⟨m, h1, h2, (mapR enc T e.2.1).mono g g' _ hg h3⟩
 same g H H' v hb h := by
  obtain ⟨h1, h2, h3⟩ := h
  subst h1
  refine ⟨rfl, h2, fun e he => ?_⟩
  obtain ⟨m, k1, k2, k3⟩ := h3 e he
  refine ⟨m, k1, (hb m ⟨e.1, ?_, by rw [k1]; rfl⟩).trans k2, k3⟩
  exact List.mem_map.2 ⟨e, he, rfl⟩
abbrev famI (enc : κ → Value) (T : Ty α) (l : List (FamE κ α)) (o : Option Nat) : Item := .ext (famR enc T l o)
theorem famBlk {l : List (FamE κ α)} {b : Nat} : Blk (.tuple (famRefs l).toArray) b ↔ ∃ e ∈ l, blk e.1 = some b := by
 constructor
 ·rintro ⟨u, hu, hb⟩
  obtain ⟨e, he, rfl⟩ := List.mem_map.1 hu
  exact ⟨e, he, hb⟩
 ·rintro ⟨e, he, hb⟩
  exact ⟨e.1, List.mem_map.2 ⟨e, he, rfl⟩, hb⟩
theorem blk_map {v : Value} {m b : Nat} (h : v = .map (some m)) : Blk v b ↔ b = m := by
 subst h
 constructor
 ·intro h
  exact (Option.some.inj (h : some m = some b)).symm
 ·rintro rfl
  rfl
end
section
variable {κ α : Type} [DecidableEq κ] {enc : κ → Value} {T : Ty α} {c : Cfg} {S : St} {ops : Array Oper} {L : List Oper} {N : Po} {l : List (FamE κ α)} {r : Value} {D D' : List (κ × α)} {es es' : Array MapEntry} {ck ck' k : Nat}
omit [DecidableEq κ] in
theorem famBlk_rest (h1 : (famRefs l).Nodup) (hk : l[k]? = some (r, D, es, ck)) {b : Nat} : Blk (.tuple (famRefs l).toArray) b ↔ blk r = some b ∨ Blk (.tuple (famRefs (famRest l (some k))).toArray) b := by
 rw [famBlk, famBlk]
 constructor
 ·rintro ⟨e, he, hb⟩
  obtain ⟨q, hq⟩ := List.mem_iff_getElem?.1 he
  by_cases c : q = k
  ·subst c
   rw [hk] at hq
   cases hq
   exact .inl hb
  ·exact .inr ⟨e, famRest_mem.2 ⟨q, c, hq⟩, hb⟩
 ·rintro (hb | ⟨e, he, hb⟩)
  ·exact ⟨_, List.mem_of_getElem? hk, hb⟩
  ·obtain ⟨q, _, hq⟩ := famRest_mem.1 he
   exact ⟨e, List.mem_of_getElem? hq, hb⟩
omit [DecidableEq κ] in
theorem fam_take {a : Act} {w : World} {g : Gh} {hs : Nat → Value} (h : Ok' c S a w g hs) (F' : List (Nat × SC)) (M' : List Item) {i p : Nat} (hip : i ≠ p) (hi : S.M[i]? = some (famI enc T l none)) (hk : l[k]? = some (r, D, es, ck)) {hs' : Nat → Value} (h1 : hs' p = r) (h2 : hs' i = .tuple (famRefs (famRest l (some k))).toArray) (h3 : ∀ q, q ≠ i → q ≠ p → hs' q = hs q)
  (hF : ∀ t x, (t, x) ∈ F' → x.ok g hs' (a.tmps.getD t undef)) (hR : ∀ j it, S.M[j]? = some it → j ≠ i → j ≠ p → ∀ q ∈ it.refs, hs' q = hs q) (hM : ∀ q it, M'[q]? = some it → (q = i ∧ it = famI enc T l (some k)) ∨ (q = p ∧ it = mapX enc T D es ck) ∨ (q ≠ i ∧ q ≠ p ∧ S.M[q]? = some it)) : Ok' c ⟨F', M'⟩ a w g hs' := by
 obtain ⟨f1, f2, f3⟩ := h.items i _ hi
 have f1 : hs i = .tuple (famRefs l).toArray := f1
 have f3 : ∀ e ∈ l, famE enc T g (fun b => w.heap[b]?) e := f3
 obtain ⟨m, e1, e2, e3⟩ := f3 _ (List.mem_of_getElem? hk)
 have e1 : r = .map (some m) := e1
 have hrest : ∀ e ∈ famRest l (some k), e ∈ l := fun e he => by
  obtain ⟨q, _, hq⟩ := famRest_mem.1 he
  exact List.mem_of_getElem? hq
 refine h.regroup (i := i) (p := p) F' M' hF (fun q it hq q1 q2 => ?_) h3 hR (fun q it hq hq2 => ?_) (fun q it hq hng hq2 b hb => ?_) (fun it jt hit hjt _ _ _ b hb hb2 => ?_)
 ·rcases hM q it hq with ⟨rfl, _⟩ | ⟨rfl, _⟩ | ⟨_, _, hh⟩
  ·exact absurd rfl q1
  ·exact absurd rfl q2
  ·exact hh
 ·rcases hM q it hq with ⟨rfl, rfl⟩ | ⟨rfl, rfl⟩ | ⟨g1, g2, _⟩
  ·exact ⟨h2, f2, fun e he => f3 e (hrest e he)⟩
  ·exact ⟨m, es, ck, h1.trans e1, e2, rfl, e3⟩
  ·rcases hq2 with rfl | rfl
   ·exact absurd rfl g1
   ·exact absurd rfl g2
 ·refine ⟨i, _, .inl rfl, hi, rfl, ?_⟩
  rw [f1]
  rcases hM q it hq with ⟨rfl, rfl⟩ | ⟨rfl, rfl⟩ | ⟨g1, g2, _⟩
  ·rw [h2] at hb
   exact (famBlk_rest f2 hk).2 (.inr hb)
  ·rw [h1] at hb
   refine (famBlk_rest f2 hk).2 (.inl ?_)
   rw [e1] at hb ⊢
   exact hb
  ·rcases hq2 with rfl | rfl
   ·exact absurd rfl g1
   ·exact absurd rfl g2
 ·rw [h1, e1] at hb2
  rw [h2] at hb
  obtain ⟨e, he, hbe⟩ := famBlk.1 hb
  obtain ⟨m', k1, _, _⟩ := f3 e (hrest e he)
  rw [k1] at hbe
  have hbe : m' = b := Option.some.inj hbe
  have hb2 := (blk_map rfl).1 hb2
  refine famRest_ne f2 hk he ?_
  rw [k1]
  show _ = r
  rw [e1, hbe, hb2]
omit [DecidableEq κ] in
theorem fam_put {a : Act} {w : World} {g : Gh} {hs : Nat → Value} (h : Ok' c S a w g hs) (F' : List (Nat × SC)) (M' : List Item) {i p : Nat} (hip : i ≠ p) (hi : S.M[i]? = some (famI enc T l (some k))) (hp : S.M[p]? = some (mapX enc T D' es' ck')) (hr : hs p = r) (hk : l[k]? = some (r, D, es, ck)) {hs' : Nat → Value} (h2 : hs' i = .tuple (famRefs l).toArray) (h3 : ∀ q, q ≠ i → hs' q = hs q)
  (hF : ∀ t x, (t, x) ∈ F' → x.ok g hs' (a.tmps.getD t undef)) (hR : ∀ j it, S.M[j]? = some it → j ≠ i → j ≠ p → ∀ q ∈ it.refs, hs' q = hs q) (hM : ∀ q it, M'[q]? = some it → (q = i ∧ it = famI enc T (l.set k (r, D', es', ck')) none) ∨ (q = p ∧ it = .gone) ∨ (q ≠ i ∧ q ≠ p ∧ S.M[q]? = some it)) : Ok' c ⟨F', M'⟩ a w g hs' := by
 obtain ⟨f1, f2, f3⟩ := h.items i _ hi
 obtain ⟨m, es0, ck0, e1, e2, e3, e4⟩ := h.items p _ hp
 cases e3
 have hkl := (List.getElem?_eq_some_iff.1 hk).1
 refine h.regroup (i := i) (p := p) F' M' hF (fun q it hq q1 q2 => ?_) (fun q q1 _ => h3 q q1) hR (fun q it hq hq2 => ?_) (fun q it hq hng hq2 b hb => ?_) (fun it jt hit hjt _ _ hg b hb hb2 => ?_)
 ·rcases hM q it hq with ⟨rfl, _⟩ | ⟨rfl, _⟩ | ⟨_, _, hh⟩
  ·exact absurd rfl q1
  ·exact absurd rfl q2
  ·exact hh
 ·rcases hM q it hq with ⟨rfl, rfl⟩ | ⟨rfl, rfl⟩ | ⟨g1, g2, _⟩
  ·have hs1 := famRefs_set (D' := D') (es' := es') (ck' := ck') hk
   refine ⟨by rw [h2]; show _ = Value.tuple (famRefs (l.set k _)).toArray; rw [hs1], by rw [hs1]; exact f2, fun e he => ?_⟩
   have he : e ∈ l.set k (r, D', es', ck') := he
   obtain ⟨q, hq⟩ := List.mem_iff_getElem?.1 he
   rw [List.getElem?_set] at hq
   split at hq
   ·cases hq
    exact ⟨m, hr.symm.trans e1, e2, e4⟩
   ·rename_i hne
    exact f3 e (famRest_mem.2 ⟨q, Ne.symm hne, hq⟩)
  ·trivial
  ·rcases hq2 with rfl | rfl
   ·exact absurd rfl g1
   ·exact absurd rfl g2
 ·rcases hM q it hq with ⟨rfl, rfl⟩ | ⟨rfl, rfl⟩ | ⟨g1, g2, _⟩
  ·rw [h2] at hb
   rcases (famBlk_rest f2 hk).1 hb with hb | hb
   ·refine ⟨p, _, .inr rfl, hp, rfl, ?_⟩
    rw [hr]
    rw [← hr, e1] at hb ⊢
    exact hb
   ·exact ⟨_, _, .inl rfl, hi, rfl, by rw [f1]; exact hb⟩
  ·exact absurd rfl hng
  ·rcases hq2 with rfl | rfl
   ·exact absurd rfl g1
   ·exact absurd rfl g2
 ·rcases hM p jt hjt with ⟨e, _⟩ | ⟨_, rfl⟩ | ⟨_, e, _⟩
  ·exact hip e.symm
  ·exact hg rfl
  ·exact e rfl
omit [DecidableEq κ] in
theorem fam_add {a : Act} {w : World} {g : Gh} {hs : Nat → Value} (h : Ok' c S a w g hs) (F' : List (Nat × SC)) (M' : List Item) {i p : Nat} (hip : i ≠ p) (hi : S.M[i]? = some (famI enc T l none)) (hp : S.M[p]? = some (mapX enc T D es ck)) (hr : hs p = r) {hs' : Nat → Value} (h2 : hs' i = .tuple (famRefs (l ++ [(r, D, es, ck)])).toArray) (h3 : ∀ q, q ≠ i → hs' q = hs q)
  (hF : ∀ t x, (t, x) ∈ F' → x.ok g hs' (a.tmps.getD t undef)) (hR : ∀ j it, S.M[j]? = some it → j ≠ i → j ≠ p → ∀ q ∈ it.refs, hs' q = hs q) (hM : ∀ q it, M'[q]? = some it → (q = i ∧ it = famI enc T (l ++ [(r, D, es, ck)]) none) ∨ (q = p ∧ it = .gone) ∨ (q ≠ i ∧ q ≠ p ∧ S.M[q]? = some it)) : r ∉ famRefs l ∧ Ok' c ⟨F', M'⟩ a w g hs' := by
 obtain ⟨f1, f2, f3⟩ := h.items i _ hi
 have f1 : hs i = .tuple (famRefs l).toArray := f1
 have f3 : ∀ e ∈ l, famE enc T g (fun b => w.heap[b]?) e := f3
 obtain ⟨m, es0, ck0, e1, e2, e3, e4⟩ := h.items p _ hp
 cases e3
 have hnew : r ∉ famRefs l := fun hin => by
  have hb : Blk (hs i) m := by
   rw [f1]
   obtain ⟨e, he, hee⟩ := List.mem_map.1 hin
   exact famBlk.2 ⟨e, he, by rw [hee, ← hr, e1]; rfl⟩
  exact h.sep i p _ _ hip hi hp rfl (by simp) m hb (by rw [e1]; rfl)
 have hap : famRefs (l ++ [(r, D, es, ck)]) = famRefs l ++ [r] := by unfold famRefs; simp
 refine ⟨hnew, h.regroup (i := i) (p := p) F' M' hF (fun q it hq q1 q2 => ?_) (fun q q1 _ => h3 q q1) hR (fun q it hq hq2 => ?_) (fun q it hq hng hq2 b hb => ?_) (fun it jt hit hjt _ _ hg b hb hb2 => ?_)⟩
 ·rcases hM q it hq with ⟨rfl, _⟩ | ⟨rfl, _⟩ | ⟨_, _, hh⟩
  ·exact absurd rfl q1
  ·exact absurd rfl q2
  ·exact hh
 ·rcases hM q it hq with ⟨rfl, rfl⟩ | ⟨rfl, rfl⟩ | ⟨g1, g2, _⟩
  ·refine ⟨h2, by rw [hap]; exact List.nodup_append.2 ⟨f2, by simp, fun x hx y hy => by rw [List.mem_singleton.1 hy]; exact fun e => hnew (e ▸ hx)⟩, fun e he => ?_⟩
   rcases List.mem_append.1 (show e ∈ l ++ [(r, D, es, ck)] from he) with he | he
   ·exact f3 e he
   ·rw [List.mem_singleton.1 he]
    exact ⟨m, hr.symm.trans e1, e2, e4⟩
  ·trivial
  ·rcases hq2 with rfl | rfl
   ·exact absurd rfl g1
   ·exact absurd rfl g2
 ·rcases hM q it hq with ⟨rfl, rfl⟩ | ⟨rfl, rfl⟩ | ⟨g1, g2, _⟩
  ·rw [h2] at hb
   obtain ⟨e, he, hbe⟩ := famBlk.1 hb
   rcases List.mem_append.1 he with he | he
   ·exact ⟨_, _, .inl rfl, hi, rfl, by rw [f1]; exact famBlk.2 ⟨e, he, hbe⟩⟩
   ·rw [List.mem_singleton.1 he] at hbe
    have hbe : blk r = some b := hbe
    refine ⟨p, _, .inr rfl, hp, rfl, ?_⟩
    rw [← hr] at hbe
    exact Blk.of hbe
  ·exact absurd rfl hng
  ·rcases hq2 with rfl | rfl
   ·exact absurd rfl g1
   ·exact absurd rfl g2
 ·rcases hM p jt hjt with ⟨e, _⟩ | ⟨_, rfl⟩ | ⟨_, e, _⟩
  ·exact hip e.symm
  ·exact hg rfl
  ·exact e rfl
omit [DecidableEq κ] in
theorem set_self {β : Type} {l : List β} {k : Nat} {x : β} (h : l[k]? = some x) : l.set k x = l := by
 refine List.ext_getElem? fun i => ?_
 rw [List.getElem?_set]
 split
 ·rename_i e
  subst e
  rw [if_pos (List.getElem?_eq_some_iff.1 h).1, h]
 ·rfl
theorem set2_get {M : List Item} {i p : Nat} (hip : i ≠ p) {X Y : Item} {q : Nat} {it : Item} (h : ((M.set i X).set p Y)[q]? = some it) : (q = i ∧ it = X) ∨ (q = p ∧ it = Y) ∨ (q ≠ i ∧ q ≠ p ∧ M[q]? = some it) := by
 rw [List.getElem?_set] at h
 by_cases e : p = q
 ·rw [if_pos e] at h
  split at h
  ·cases h
   exact .inr (.inl ⟨e.symm, rfl⟩)
  ·cases h
 ·rw [if_neg e, List.getElem?_set] at h
  by_cases e2 : i = q
  ·rw [if_pos e2] at h
   split at h
   ·cases h
    exact .inl ⟨e2.symm, rfl⟩
   ·cases h
  ·rw [if_neg e2] at h
   exact .inr (.inr ⟨Ne.symm e2, Ne.symm e, h⟩)
theorem setA_get {M : List Item} {i p : Nat} (hp : M.length = p) {X Y : Item} {q : Nat} {it : Item} (h : (M.set i X ++ [Y])[q]? = some it) : (q = i ∧ it = X) ∨ (q = p ∧ it = Y) ∨ (q ≠ i ∧ q ≠ p ∧ M[q]? = some it) := by
 rcases Nat.lt_or_ge q M.length with hl | hl
 ·rw [List.getElem?_append_left (by simpa using hl), List.getElem?_set] at h
  by_cases e2 : i = q
  ·rw [if_pos e2] at h
   split at h
   ·cases h
    exact .inl ⟨e2.symm, rfl⟩
   ·cases h
  ·rw [if_neg e2] at h
   exact .inr (.inr ⟨Ne.symm e2, by omega, h⟩)
 ·rw [List.getElem?_append_right (by simpa using hl)] at h
  have hq : q - (M.set i X).length = 0 := by
   refine Decidable.byContradiction fun hc => ?_
   rw [List.getElem?_eq_none (by simp only [List.length_singleton]; omega)] at h
   cases h
  rw [hq] at h
  cases h
  rw [List.length_set] at hq
  exact .inr (.inl ⟨by omega, rfl⟩)
theorem beq_false_ne {i p : Nat} (h : Nat.beq i p = false) : i ≠ p := fun e => by
 subst e
 rw [show Nat.beq i i = true from Nat.beq_refl i] at h
 cases h
omit [DecidableEq κ] in
theorem WL.famTake (t i p k : Nat) (hl : look t S.F = some (.sv (.one (.v r)))) (hi : S.M[i]? = some (famI enc T l none)) (hp : S.M.length = p) (hk : l[k]? = some (r, D, es, ck)) (hr : S.refsAll (fun q => !(Nat.beq q i) && !(Nat.beq q p)) = true)
  (h : WL c ops L ⟨(t, .sv (.one (.pown p r))) :: S.F, S.M.set i (famI enc T l (some k)) ++ [mapX enc T D es ck]⟩ N) : WL c ops L S N := fun a w ⟨g, hs, h0⟩ => by
 have hil := (List.getElem?_eq_some_iff.1 hi).1
 have hv := h0.slots t _ (look_mem hl)
 let hs' : Nat → Value := fun q => if q = p then r else if q = i then .tuple (famRefs (famRest l (some k))).toArray else hs q
 have h1 : hs' p = r := if_pos rfl
 have h2 : hs' i = .tuple (famRefs (famRest l (some k))).toArray := by show (if i = p then _ else _) = _; rw [if_neg (by omega), if_pos rfl]
 have h3 : ∀ q, q ≠ i → q ≠ p → hs' q = hs q := fun q q1 q2 => by show (if q = p then _ else if q = i then _ else _) = _; rw [if_neg q2, if_neg q1]
 have h4 : ∀ q, (!(Nat.beq q i) && !(Nat.beq q p)) = true → hs' q = hs q := fun q hq => by
  rw [Bool.and_eq_true] at hq
  exact h3 q (beq_ne hq.1) (beq_ne hq.2)
 refine h a w ⟨g, hs', fam_take h0 _ _ (by omega) hi hk h1 h2 h3 (fun t' x hx => ?_) (fun j it hj _ _ q hq => h4 q (St.refs_M hr hj q hq)) (fun q it hq => setA_get hp hq)⟩
 rcases List.mem_cons.1 hx with hx | hx
 ·cases hx
  refine ⟨⟨h1, ?_⟩, hv.2⟩
  rw [h1]
  exact hv.1
 ·exact SC.ok_hs (fun q hq => h4 q (St.refs_F hr hx q hq)) (h0.slots t' x hx)
omit [DecidableEq κ] in
theorem WL.famRetake (t i p k : Nat) (hip : Nat.beq i p = false) (hl : look t S.F = some (.sv (.one (.pown p r)))) (hi : S.M[i]? = some (famI enc T l none)) (hp : S.M[p]? = some .gone) (hk : l[k]? = some (r, D, es, ck)) (hr : S.refsAll (fun q => !(Nat.beq q i)) = true)
  (h : WL c ops L ⟨S.F, (S.M.set i (famI enc T l (some k))).set p (mapX enc T D es ck)⟩ N) : WL c ops L S N := fun a w ⟨g, hs, h0⟩ => by
 have hip := beq_false_ne hip
 have hv := h0.slots t _ (look_mem hl)
 let hs' : Nat → Value := fun q => if q = i then .tuple (famRefs (famRest l (some k))).toArray else hs q
 have h4 : ∀ q, q ≠ i → hs' q = hs q := fun q q1 => if_neg q1
 refine h a w ⟨g, hs', fam_take h0 _ _ hip hi hk ((h4 p (Ne.symm hip)).trans hv.1.1) (if_pos rfl) (fun q q1 _ => h4 q q1) (fun t' x hx => ?_) (fun j it hj _ _ q hq => h4 q (beq_ne (St.refs_M hr hj q hq))) (fun q it hq => set2_get hip hq)⟩
 exact SC.ok_hs (fun q hq => h4 q (beq_ne (St.refs_F hr hx q hq))) (h0.slots t' x hx)
omit [DecidableEq κ] in
theorem WL.famPut (t i p k : Nat) (hip : Nat.beq i p = false) (hl : look t S.F = some (.sv (.one (.pown p r)))) (hi : S.M[i]? = some (famI enc T l (some k))) (hp : S.M[p]? = some (mapX enc T D' es' ck')) (hk : l[k]? = some (r, D, es, ck)) (hr : S.refsAll (fun q => !(Nat.beq q i)) = true)
  (h : WL c ops L ⟨S.F, (S.M.set i (famI enc T (l.set k (r, D', es', ck')) none)).set p .gone⟩ N) : WL c ops L S N := fun a w ⟨g, hs, h0⟩ => by
 have hip := beq_false_ne hip
 have hv := h0.slots t _ (look_mem hl)
 let hs' : Nat → Value := fun q => if q = i then .tuple (famRefs l).toArray else hs q
 have h4 : ∀ q, q ≠ i → hs' q = hs q := fun q q1 => if_neg q1
 refine h a w ⟨g, hs', fam_put h0 _ _ hip hi hp hv.1.1 hk (if_pos rfl) h4 (fun t' x hx => ?_) (fun j it hj _ _ q hq => h4 q (beq_ne (St.refs_M hr hj q hq))) (fun q it hq => set2_get hip hq)⟩
 exact SC.ok_hs (fun q hq => h4 q (beq_ne (St.refs_F hr hx q hq))) (h0.slots t' x hx)
omit [DecidableEq κ] in
theorem WL.famPut0 (t i p k : Nat) (hip : Nat.beq i p = false) (hl : look t S.F = some (.sv (.one (.pown p r)))) (hi : S.M[i]? = some (famI enc T l (some k))) (hp : S.M[p]? = some (mapX enc T D es ck)) (hk : l[k]? = some (r, D, es, ck)) (hr : S.refsAll (fun q => !(Nat.beq q i)) = true)
  (h : WL c ops L ⟨S.F, (S.M.set i (famI enc T l none)).set p .gone⟩ N) : WL c ops L S N := WL.famPut t i p k hip hl hi hp hk hr (by rw [set_self hk]; exact h)
omit [DecidableEq κ] in
theorem En.famNew (enc : κ → Value) (T : Ty α) (p : Nat) (hr : S.refsAll (fun i => !(Nat.beq i p)) = true) (h : En c ⟨S.F, newM S.M [] (some (p, famI enc T [] none))⟩ N) : En c S N := fun a w ⟨g, hs, hk⟩ => by
 have he := hk.eff (K := []) (p := some (p, famI enc T [] none)) (h' := .tuple #[]) (Eff.refl hk.base) ⟨⟨rfl, List.nodup_nil, fun e he => (by cases he)⟩, fun b hb => by obtain ⟨u, hu, _⟩ := hb; cases hu⟩ hr rfl
 exact h a w ⟨g, _, he⟩
end
def valT : Ty Value := ⟨1, fun r => .one (.v r)⟩
def bytesL (s : ByteArray) : List Int := s.data.toList.map fun b => (b.toNat : Int)
section
variable {c : Cfg} {S : St} {o : Oper}
theorem mt_strBytes {s : ByteArray} {src t e : Nat} {x : Operand} (ho : o.op = .convert src t x) (h1 : Try.prog.underlying src = some .string) (h2 : Try.prog.underlying t = some (.slice e)) (h3 : Try.prog.underlying e = some (.int .u8)) (hx : evX S.F x = some (.sv (.one (.v (.string s))))) (hs : s.size ≤ 140737488355328) : MT c S o (.sv (.one (LS (intKT .u8) (bytesL s)))) [] none := fun a w g hs' h N Z hN => by
 classical
 unfold Oper.wp
 have hrun : (execOp a.eval o).run Try.prog w = .ok (.value (.slice (some ⟨w.heap.size, 0, none⟩) s.size (grownCap w s.size 0 e))) (Lib.bytesWorld w e s) := by
  have : execOp a.eval o = (do pure (.value (← convert src t (a.eval x))) : Sem Next) := by unfold execOp; rw [ho]
  rw [this, show a.eval x = .string s from (evX_ok h hx).1]
  exact run_valW (Lib.run_convert_string_bytes w src t e s h1 h2 h3)
 rw [hrun]
 have hnew := Lib.bytesWorld_at_new w e s
 have hold := Lib.bytesWorld_at_old w e s
 have hsz := Lib.bytesWorld_size w e s
 have hgn : g w.heap.size = none := by
  cases hgb : g w.heap.size with
  | none => rfl
  | some o => have := h.base.pers.lt hgb; omega
 let g2 : Gh := fun q => if q = w.heap.size then (Lib.bytesWorld w e s).heap[q]? else g q
 have hle : Gh.le g g2 := fun q ob he => by
  show (if q = w.heap.size then _ else g q) = some ob
  by_cases hq : q = w.heap.size
  ·rw [hq, hgn] at he; cases he
  ·rw [if_neg hq]; exact he
 have hlen : (bytesL s).length = s.size := by unfold bytesL; rw [List.length_map]; rfl
 refine hN _ _ g2 undef ⟨rfl, rfl, rfl, by omega, fun b hb _ => hold b hb, hle, fun b ob he => ?_, fun b ob he => ?_⟩ ?_ trivial
 ·by_cases hq : b = w.heap.size
  ·exact .inr (.inl (by omega))
  ·rw [show g2 b = g b from if_neg hq] at he
   exact .inl he
 ·by_cases hq : b = w.heap.size
  ·rw [show g2 b = (Lib.bytesWorld w e s).heap[b]? from if_pos hq] at he
   exact he
  ·rw [show g2 b = g b from if_neg hq] at he
   exact (hold b (h.base.pers.lt he)).trans (h.base.pers b ob he)
 ·refine ⟨⟨⟨some ⟨w.heap.size, 0, none⟩, (bytesL s).length, grownCap w s.size 0 e, by rw [hlen], rfl, ?_, ?_, (fun e => by cases e), fun q a ha => ?_⟩, _, _, by rw [hlen]⟩, trivial⟩
  ·rw [hlen]
   exact grownCap_ge w s.size 0 e
  ·exact grownCap_le_maxLen w s.size 0 e (by simp only [maxLen]; omega)
  ·obtain ⟨hq, rfl⟩ := List.getElem?_eq_some_iff.1 ha
   rw [hlen] at hq
   refine ⟨w.heap.size, 0, .int .u8 (bytesL s)[q], rfl, ⟨rfl, trivial⟩, rfl, fun j cc hj => ?_⟩
   have hj0 : j = 0 := by
    refine Decidable.byContradiction fun hc => ?_
    rw [Array.getElem?_eq_none (by show 1 ≤ j; omega)] at hj
    cases hj
   subst hj0
   have hj : some (Value.int .u8 (bytesL s)[q]) = some cc := hj
   cases hj
   have hcell := Lib.bytesWorld_cell w e s q hq
   have e1 : (bytesL s)[q] = ((s.data.toList.getD q 0).toNat : Int) := by
    have hq2 : q < s.data.toList.length := hq
    have h5 : (bytesL s)[q]? = some ((s.data.toList.getD q 0).toNat : Int) := by
     unfold bytesL
     rw [List.getElem?_map, List.getD_eq_getElem?_getD, List.getElem?_eq_getElem hq2]
     rfl
    exact Option.some.inj (ha.symm.trans h5)
   rw [e1]
   unfold Gh.cell
   rw [show g2 w.heap.size = _ from if_pos rfl, hnew]
   unfold World.cell? at hcell
   simp only [hnew] at hcell
   simpa [intKT] using hcell
end
section
variable {c : Cfg} {S : St}
theorem own_v {p : Nat} {r : Value} : ∀ a w g hs, Ok' c S a w g hs → ∀ u, SC.ok g hs (.sv (.one (.pown p r))) u → SC.ok g hs (.sv (.one (.v r))) u := fun _ _ g hs _ u hu => ⟨hu.1.2.trans hu.1.1, hu.2⟩
end
section
variable {κ α : Type} {enc : κ → Value} {T : Ty α} {c : Cfg} {S : St} {ops : Array Oper} {L : List Oper} {N : Po} {l : List (FamE κ α)} {D : List (κ × α)} {es : Array MapEntry} {ck : Nat}
theorem WL.famAddB (b j i p : Nat) {cells : List At} {ty : Nat} {fz : Bool} (hip : Nat.beq i p = false) (hbi : Nat.beq b i = false) (hbp : Nat.beq b p = false) (hb : S.M[b]? = some (.box cells ty fz)) (hj : cells[j]? = some (.own p)) (hi : S.M[i]? = some (famI enc T l none)) (hp : S.M[p]? = some (mapX enc T D es ck)) (hr : S.refsAll (fun q => !(Nat.beq q i)) = true)
  (h : ∀ r, r ∉ famRefs l → WL c ops L ⟨S.F, ((S.M.set i (famI enc T (l ++ [(r, D, es, ck)]) none)).set p .gone).set b (.box (cells.set j (.v r)) ty fz)⟩ N) : WL c ops L S N := fun a w ⟨g, hs, h0⟩ => by
 have hip := beq_false_ne hip
 have hbi := beq_false_ne hbi
 have hbp := beq_false_ne hbp
 let hs' : Nat → Value := fun q => if q = i then .tuple (famRefs (l ++ [(hs p, D, es, ck)])).toArray else hs q
 have h4 : ∀ q, q ≠ i → hs' q = hs q := fun q q1 => if_neg q1
 obtain ⟨k1, k2⟩ := fam_add (r := hs p) (F' := S.F) (M' := (S.M.set i (famI enc T (l ++ [(hs p, D, es, ck)]) none)).set p .gone) (hs' := hs') h0 hip hi hp rfl (if_pos rfl) h4 (fun t' x hx => SC.ok_hs (fun q hq => h4 q (beq_ne (St.refs_F hr hx q hq))) (h0.slots t' x hx)) (fun j it hj _ _ q hq => h4 q (beq_ne (St.refs_M hr hj q hq))) (fun q it hq => set2_get hip hq)
 refine h (hs p) k1 a w ⟨g, hs', k2.boxTurn (i := b) (j := j) (x := .own p) (y := .v (hs p)) ?_ hj fun u hu => ?_⟩
 ·show ((S.M.set i _).set p Item.gone)[b]? = _
  rw [List.getElem?_set_ne (Ne.symm hbp), List.getElem?_set_ne (Ne.symm hbi)]
  exact hb
 ·exact ⟨(show u = hs' p from hu.1).trans (h4 p (Ne.symm hip)), hu.2⟩
end
section
variable {c : Cfg} {l : List Oper} {N : Po} {S : St} {fuel : Nat} {listed : Array Bool}
def RDq (c : Cfg) (l : List Oper) (N : Po) (fuel : Nat) (listed : Array Bool) (S : St) : List Nat → Prop
 | [] => True
 | i :: r => (∃ (o : Oper) (L' : Array Bool), l[i]? = some o ∧ listed.setIfInBounds i true = L' ∧ WL c l.toArray [o] S (fun a w => wpAny Try.prog .any l.toArray (OnlyP c N) fuel L' a w)) ∧ RDq c l N fuel listed S r
theorem RDq.get : ∀ {is : List Nat}, RDq c l N fuel listed S is → ∀ i ∈ is, ∃ (o : Oper), l[i]? = some o ∧ WL c l.toArray [o] S (fun a w => wpAny Try.prog .any l.toArray (OnlyP c N) fuel (listed.setIfInBounds i true) a w)
 | j :: r, h, i, hi => by
  rcases List.mem_cons.1 hi with e | hi
  ·subst e
   obtain ⟨o, L', h1, h2, h3⟩ := h.1
   subst h2
   exact ⟨o, h1, h3⟩
  ·exact RDq.get h.2 i hi
theorem RD.succQ (is : List Nat) (hr : Region.ready .any l.toArray listed = is) (hne : is.isEmpty = false) (h : RDq c l N fuel listed S is) : RD c l N (fuel + 1) listed S := fun a w hk => by
 refine ⟨fun e => ?_, fun i hi => ?_⟩
 ·rw [hr] at e
  subst e
  cases hne
 ·rw [hr] at hi
  obtain ⟨o, ho, hw⟩ := RDq.get h i hi
  have hw := hw a w hk
  have ho' : l.toArray[i]? = some o := by simpa using ho
  unfold wpOp
  rw [ho']
  simp only
  unfold wpList at hw
  split
  ·rename_i hwant
   rw [if_pos hwant] at hw
   rcases hw with hw | hw
   ·exact .inl (wp_anyN (Oper.wp_mono (fun a' w' h' => h') hw))
   ·exact .inr ⟨hw.1, letsOut_any hw.2⟩
  ·rename_i hwant
   rw [if_neg hwant] at hw
   exact hw
theorem RD.last {N' : Po} {S' : St} {f : Nat} {L : Array Bool} (h : RD c l N' f L S') (hs : ∀ a w, Ok c S a w → Ok c S' a w) : ∀ a w, Ok c S a w → wpAny Try.prog .any l.toArray (OnlyP c N') f L a w := fun a w hk => h a w (hs a w hk)
theorem XsOk.haveV {C : Cert} {N : Po} {As : List (Array Bool)} (P : Value → Prop) (f' : Nat) (L' : Array Bool) (S' : Array MapEntry → Nat → Value → St) (h1 : ∀ es ck r, P r → RD c l N f' L' (S' es ck r)) (h2 : (∀ es ck r, P r → RD c l N f' L' (S' es ck r)) → XsOk c C l N As) : XsOk c C l N As := h2 h1
theorem En.regionXP {n : Nat} {S : St} {id : Nat} {E : List (Nat × Po)} {R : Po} (FP : Po → Prop) (C : Cert) (m : Nat) (ms : List Nat) (As : List (Array Bool)) (hm : Try.prog.follows .mixedOrders = true) (hn : c.n = n) (hml : Nat.blt m l.length = true) (hbe : behindE l m = true) (hms : mustE l m ms = true) (hk : chkE C l = true) (hd : (l.all fun o => match o.dst with | some d => Nat.blt d n | none => true) = true)
  (h0 : subE ⟨C.FL l (fun _ => false), C.ML (fun _ => false)⟩ S = subX ⟨C.FL l (fun _ => false), C.ML (fun _ => false)⟩) (hA : xsA l ms m = As) (hs : StepsOk c C l 0 (l.take m))
  (h1 : ∀ N : Po, FP N → XsOk c C l N As) (h2 : FP N) : En c S (cwp (.region id l.toArray true) (PQ c N E R)) := fun a w ⟨g, hs', hok⟩ => by
 have hok1 : Ok' c S a w.drew g hs' := hok.grown (grown_drew w)
 have hL : LB (Array.replicate l.length false) = fun _ => false := by
  funext i
  unfold LB
  rw [Array.getD_eq_getD_getElem?, Array.getElem?_replicate]
  split <;> rfl
 subst hA
 refine Code.wp_mono (fun e a w q => ?_) (wp_region_any (Q := OnlyP c N) hm (anyX_ok (chk_of hk) hn hd (Nat.le_of_ble_eq_true hml) hbe hms hs (h1 N h2) l.toArray.size _ a w.drew (by simp) ?_ ?_ ?_ ?_))
 ·cases e <;> first | exact q | exact (q : False).elim
 ·intro i hi
  simp only [List.size_toArray] at hi
  rw [hL] at hi
  cases hi
 ·intro i hi
  simp only [List.size_toArray] at hi
  rw [hL] at hi
  cases hi
 ·simp only [List.size_toArray, Array.toList_replicate]
  rw [List.filter_replicate_of_neg (by simp)]
  simp
 ·simp only [List.size_toArray]
  rw [hL]
  exact sub_ok h0 a w.drew ⟨g, hs', hok1⟩
end
end Go.Proofs.Ytobenjahlicnoaa
namespace Go.Proofs.Ytobenjahlicnoaa
open Go.RowKit Go.MapKept
section
variable {c : Cfg} {S S1 S' : St} {tab : Tab} {n : Nat} {o : Oper} {ops : Array Oper} {rest L : List Oper} {N R : Po} {E : List (Nat × Po)}
theorem WL.r (ht : tab.ok) (hn : c.n = n) (k : Nat) (S' : St) (h : WL c ops (L.drop k) S' N) (e : (evL tab n ops (L.take k) S).map (subE S') = some (subX S') := by kernel_rfl) : WL c ops L S N := WL.run ht hn k S' e h
theorem WL.rn (ht : tab.ok) (hn : c.n = n) (k : Nat) (S' : St) (h : ∀ a w, Ok c S' a w → N a w) (e : (evL tab n ops (L.take k) S).map (subE S') = some (subX S') := by kernel_rfl) (e2 : L.drop k = [] := by rfl) : WL c ops L S N := WL.run ht hn k S' e (by rw [e2]; exact h)
theorem WL.rI (ht : tab.ok) (hn : c.n = n) (e : (evL tab n ops (L.take 1) S).map (subE S') = some (subX S') := by kernel_rfl) (e2 : L.drop 1 = [] := by rfl) : WL c ops L S (fun a w => Ok c S' a w) := WL.run ht hn 1 S' e (by rw [e2]; exact WL.nilI)
theorem WL.v {x : SC} (hn : c.n = n) (hv : Val c S o x) (h : WL c ops rest S' N) (hw : wantE ops S.F o = some true := by rfl) (e : putE n o.dst x S = some S' := by rfl) : WL c ops (o :: rest) S N := WL.val hn hw hv e h
theorem WL.m0 {x : SC} (hn : c.n = n) (hm : MT c S o x [] none) (h : WL c ops rest S1 N) (hw : wantE ops S.F o = some true := by rfl) (hr : refsNe S none = true := by rfl) (hu : usable S [] = true := by rfl) (e : putE n o.dst x ⟨S.F, newM S.M [] none⟩ = some S1 := by rfl) : WL c ops (o :: rest) S N := WL.mt0 hn hw hm hr hu e h
theorem WL.sB (t : Nat) {b b' : Bool} (e : b = b') (h : WL c ops L ⟨(t, .sv (.one (.v (.bool b')))) :: S.F, S.M⟩ N) (hl : look t S.F = some (.sv (.one (.v (.bool b)))) := by kernel_rfl) : WL c ops L S N := WL.setB t e hl h
theorem En.sr {id : Nat} {l : List Oper} {y : Code} (h : WL c l.toArray l S (cwp y (PQ c N E R))) : En c S (cwp (.seq (.region id l.toArray false) y) (PQ c N E R)) := En.seq (En.region h)
theorem En.cd {b : Bool} {o : Operand} {x y : Code} {Q : Exit → Act → World → Prop} (ht : b = true → En c S (cwp x Q)) (hf : b = false → En c S (cwp y Q)) (hb : evK S.F o = some (.bool b) := by kernel_rfl) : En c S (cwp (.cond o x y) Q) := En.cond hb ht hf
theorem En.ch {b : Bool} {A B : Prop} {o : Operand} {x y : Code} {Q : Exit → Act → World → Prop} (h : IfP b A B) (ht : A → En c S (cwp x Q)) (hf : B → En c S (cwp y Q)) (hb : evK S.F o = some (.bool b) := by kernel_rfl) : En c S (cwp (.cond o x y) Q) := En.cond hb (fun e => ht (h.1 e)) (fun e => hf (h.2 e))
theorem En.rb {β : Type} {post : β → Prop} {out : β → SC} {rs : Array ResultVar} (ht : tab.ok) (r : β) (hp : post r) (e : evR tab S rs = some (out r) := by kernel_rfl) (hc : (out r).refs = [] := by rfl) : En c S (cwp .ret (PQ c N E (RetA c rs post out))) := En.ret (En.back ht r hp e hc)
theorem val_ld {s : SV} {sz t : Nat} {ti : TI} {x : Operand} (ht : tab.ok) (ho : o.op = .load t x) (h1 : tab t = some ti := by rfl) (h2 : ti.size = sz := by rfl) (h3 : svFits ti s = true := by rfl) (hx : evX S.F x = some (.sv (.one (.pe (svR s) sz))) := by rfl) (hc : s.refs = [] := by rfl) : Val c S o (.sv s) := val_load ht ho h1 h2 h3 hx hc
theorem val_ix {α : Type} {T : Ty α} {l : List α} {i : Int} {y : α} {t el : Nat} {ti te : TI} {x ix : Operand} {k : IntKind} {m : Nat} (ht : tab.ok) (ho : o.op = .indexAddr t x ix) (hy : idx l i = some y) (h1 : tab t = some ti := by rfl) (h2 : ti.sl = some el := by rfl) (h3 : tab el = some te := by rfl) (h4 : te.size = T.s := by rfl) (hx : evX S.F x = some (.sv (.one (.sl (slR T l) m))) := by rfl) (hi : evK S.F ix = some (.int k i) := by rfl) : Val c S o (.sv (.one (.pe (svR (T.sv y)) T.s))) := val_index ht ho h1 h2 h3 h4 hx hi hy
theorem val_fd {l : List At} {sz t f fo fs : Nat} {ag : Bool} {ti : TI} {x : Operand} {r : SV} (ht : tab.ok) (ho : o.op = .fieldAddr t x f) (h1 : tab t = some ti := by rfl) (h2 : ti.st = true := by rfl) (h3 : ti.offs[f]? = some (fo, fs + 1, ag) := by rfl) (h4 : partE l fo (fs + 1) ag = some r := by rfl) (hx : evX S.F x = some (.sv (.one (.pe (svR (.agg l)) sz))) := by rfl) (h6 : (svCells r).length = fs + 1 := by rfl) : Val c S o (.sv (.one (.pe (svR r) (fs + 1)))) := val_field ht ho h1 h2 h3 h4 hx h6
theorem mt_c {f : Nat} {ins : List SC} {M : List Item} {x : SC} (ct : Ct f ins M (fun (_ : Unit) => True) (fun _ => x)) (en : ∀ args w, (callFunc f args).run Try.prog w = .ok (.enter f args) w) {fo : Operand} {args : Array Operand} {ats : Array TypeId} (ho : o.op = .call ⟨.value fo, args, ats⟩) (hf : evX S.F fo = some (.sv (.one (.fn f []))) := by rfl) (ha : (match evXs S.F args.toList with | some l => some (l ++ ([] : List Nat).map fun i => .sv (.one (.ptr i 0))) | none => none) = some (ins.map (SC.ren fun i => ([] : List Nat).getD i 0)) := by kernel_rfl) (hM : fzE S.M (fun i => ([] : List Nat).getD i 0) 0 M = M.map (fun it => some (it.ren fun i => ([] : List Nat).getD i 0)) := by kernel_rfl) (hz : M.all fzB = true := by rfl) (hcl : x.refs = [] := by rfl) : MT c S o x [] none := mt_call ct en (caps := []) [] ho hf ha hM hz hcl rfl
theorem WL.cE {f : Nat} {ins : List SC} {M : List Item} {pin : List Nat} {out : Unit → SC} {M' : Unit → List Item} (ct : CtE f ins M pin (fun (_ : Unit) => True) out M') (en : ∀ args w, (callFunc f args).run Try.prog w = .ok (.enter f args) w) (rn : List Nat) {fo : Operand} {args : Array Operand} {ats : Array TypeId} (hn : c.n = n) (ho : o.op = .call ⟨.value fo, args, ats⟩) (h : WL c ops rest S1 N) (hw : wantE ops S.F o = some true := by rfl) (hf : evX S.F fo = some (.sv (.one (.fn f []))) := by rfl) (ha : (match evXs S.F args.toList with | some l => some (l ++ ([] : List Nat).map fun i => .sv (.one (.ptr i 0))) | none => none) = some (ins.map (SC.ren (rnF rn S.M.length))) := by kernel_rfl) (hM : M.map (fun it => some (it.mv (rnF rn S.M.length))) = rn.map (fun j => S.M[j]?) := by kernel_rfl) (hnd : rn.Nodup := by decide) (hal : aloneE S rn pin = true := by rfl) (hpl : pin.all (fun i => Nat.blt i rn.length) = true := by rfl) (hx : (refsB (M' ()) && Nat.ble M.length (M' ()).length && backC pin M (M' ()) && (out ()).refs.all (fun i => Nat.blt i (M' ()).length)) = true := by rfl) (e : putE n o.dst ((out ()).ren (rnF rn S.M.length)) ⟨S.F, putItems (rnF rn S.M.length) S.M rn (M' ())⟩ = some S1 := by rfl) : WL c ops (o :: rest) S N := WL.callE ct en (caps := []) rn hn hw ho hf (argsAs ha rfl) hM hnd hal hpl (fun _ _ => ⟨hx, S1, e, h⟩)
end
theorem StepOk.ev {c : Cfg} {C : Cert} {ops : List Oper} {i : Nat} {o : Oper} {tab : Tab} (S : St) (ht : tab.ok) (hf : fitsE C ops i S = fitsX S := by kernel_rfl) (hw : wantE ops.toArray S.F o = some true := by rfl) (e : evV tab S o = some (C.x i) := by kernel_rfl) (hk : killE C i = [] := by rfl) (hb : bornE C i = [] := by rfl) (hu : updE C i = [] := by rfl) (huse : usable S [] = true := by rfl) : StepOk c C ops i o := .mt S [] none hf hw (mt_ev ht e) hk hb hu huse
theorem StepOk.vl {c : Cfg} {C : Cert} {ops : List Oper} {i : Nat} {o : Oper} (S : St) (hm : MT c S o (C.x i) [] none) (hf : fitsE C ops i S = fitsX S := by kernel_rfl) (hw : wantE ops.toArray S.F o = some true := by rfl) (hk : killE C i = [] := by rfl) (hb : bornE C i = [] := by rfl) (hu : updE C i = [] := by rfl) (huse : usable S [] = true := by rfl) : StepOk c C ops i o := .mt S [] none hf hw hm hk hb hu huse
end Go.Proofs.Ytobenjahlicnoaa
namespace Go.Proofs.Ytobenjahlicnoaa
open Go.RowKit Go.MapKept
set_option linter.unusedSimpArgs false
set_option linter.unusedVariables false
set_option maxRecDepth 100000
structure ApiDet where
 fLetters : Int
 fStart : Int
 fNext : (List (List Int))
 fMark : (List Int)
deriving DecidableEq, Inhabited
abbrev ApiDet.sv (x : ApiDet) : SV := .agg [I x.fLetters, I x.fStart, LS (lsT intT) x.fNext, LS intT x.fMark]
abbrev ApiDet.cl (x : ApiDet) : List At := [I x.fLetters, I x.fStart, LS (lsT intT) x.fNext, LS intT x.fMark]
abbrev ApiDet.ty : Ty ApiDet := ⟨4, ApiDet.sv⟩
structure ApiQuery where
 fGuessed : Bool
 fWord : (List Int)
 fYes : Bool
 fGuess : ApiDet
 fRight : Bool
deriving DecidableEq, Inhabited
structure ApiMake where
 fFrom : Int
 fTo : (List Int)
deriving DecidableEq, Inhabited
abbrev ApiMake.sv (x : ApiMake) : SV := .agg [I x.fFrom, LS intT x.fTo]
abbrev ApiMake.cl (x : ApiMake) : List At := [I x.fFrom, LS intT x.fTo]
abbrev ApiMake.ty : Ty ApiMake := ⟨2, ApiMake.sv⟩
structure ApiGrammar where
 fLetters : Int
 fNames : Int
 fMakes : (List ApiMake)
deriving DecidableEq, Inhabited
abbrev ApiGrammar.sv (x : ApiGrammar) : SV := .agg [I x.fLetters, I x.fNames, LS ApiMake.ty x.fMakes]
abbrev ApiGrammar.cl (x : ApiGrammar) : List At := [I x.fLetters, I x.fNames, LS ApiMake.ty x.fMakes]
abbrev ApiGrammar.ty : Ty ApiGrammar := ⟨3, ApiGrammar.sv⟩
structure ApiFault where
 fCode : Int
 fAt : Int
deriving DecidableEq, Inhabited
structure ApiHeaps where
 fPlaces : Int
 fTakes : (List (List Int))
 fGives : (List (List Int))
deriving DecidableEq, Inhabited
structure ApiPump where
 fBounded : Bool
 fFirst : (List Int)
 fAgain : (List Int)
deriving DecidableEq, Inhabited
structure ApiCover where
 fCan : Bool
 fSteps : (List Int)
 fBars : (List (List Int))
deriving DecidableEq, Inhabited
structure LearnTeacher where
 fD : ApiDet
 fLog : (List ApiQuery)
deriving DecidableEq, Inhabited
structure LogicStop where
 fFault : ApiFault
deriving DecidableEq, Inhabited
structure LogicMaker where
 fSets : (List Bool)
deriving DecidableEq, Inhabited
structure MonoidElement where
 fDoes : (List Int)
 fWord : (List Int)
deriving DecidableEq, Inhabited
structure EhrenTable where
 fU : (List Int)
 fV : (List Int)
 fA : (List Int)
 fB : (List Int)
deriving DecidableEq, Inhabited
structure SumsMade where
 fVars : (List Int)
 fD : ApiDet
deriving DecidableEq, Inhabited
structure CoverBar where
 fState : (List Int)
 fStep : Int
 fThen : Int
deriving DecidableEq, Inhabited
structure RegularPlaces where
 fLetters : (List Int)
 fNext : (List (List Int))
deriving DecidableEq, Inhabited
structure St170 where
 fE0 : Int
 fE1 : Int
 fE2 : Int
deriving DecidableEq, Inhabited
structure GramChoice where
 fMake : Int
 fEnds : (List Int)
deriving DecidableEq, Inhabited
abbrev GramChoice.sv (x : GramChoice) : SV := .agg [I x.fMake, LS intT x.fEnds]
abbrev GramChoice.cl (x : GramChoice) : List At := [I x.fMake, LS intT x.fEnds]
abbrev GramChoice.ty : Ty GramChoice := ⟨2, GramChoice.sv⟩
structure LogicReader where
 fText : ByteArray
 fI : Int
 fNodes : Int
 fNest : Int
 fScope : (List Int)
deriving DecidableEq, Inhabited
structure SumsWrong where
 fFault : ApiFault
deriving DecidableEq, Inhabited
structure SumsReader where
 fText : ByteArray
 fI : Int
 fDeep : Int
 fCount : Int
 fWithin : Int
deriving DecidableEq, Inhabited
structure St199 where
 fE0 : Bool
 fE1 : Bool
 fE2 : Bool
deriving DecidableEq, Inhabited
structure RegularStop where
 fFault : ApiFault
deriving DecidableEq, Inhabited
structure RegularReader where
 fText : ByteArray
 fI : Int
 fDeep : Int
deriving DecidableEq, Inhabited
structure RegularEnds where
 fEmpty : Bool
 fFirst : (List Int)
 fLast : (List Int)
deriving DecidableEq, Inhabited
structure St223 where
 fE0 : Int
 fE1 : Int
deriving DecidableEq, Inhabited
structure DetCouple where
 fE0 : Int
 fE1 : Int
deriving DecidableEq, Inhabited
structure DetSplit where
 fOwn : Int
 fNext : ByteArray
deriving DecidableEq, Inhabited
def tabs : List (Nat × TI) := [
 (3, ⟨false, false, 1, [.int .i64 0], [], some .i64, none, 8⟩),
 (4, ⟨false, false, 1, [.bool false], [], none, none, 1⟩),
 (5, ⟨false, false, 1, [.int .u8 0], [], some .u8, none, 1⟩),
 (9, ⟨false, false, 1, [.string ByteArray.empty], [], none, none, 16⟩),
 (21, ⟨false, false, 1, [.int .i32 0], [], some .i32, none, 4⟩),
 (22, ⟨false, false, 1, [.slice none 0 0], [], none, some 23, 24⟩),
 (23, ⟨false, false, 1, [.slice none 0 0], [], none, some 3, 24⟩),
 (25, ⟨true, true, 4, [.int .i64 0, .int .i64 0, .slice none 0 0, .slice none 0 0], [(0, 1, false), (1, 1, false), (2, 1, false), (3, 1, false)], none, none, 64⟩),
 (27, ⟨false, false, 1, [.slice none 0 0], [], none, some 32, 24⟩),
 (28, ⟨false, false, 1, [.int .i64 0], [], some .i64, none, 8⟩),
 (32, ⟨true, true, 8, [.bool false, .slice none 0 0, .bool false, .int .i64 0, .int .i64 0, .slice none 0 0, .slice none 0 0, .bool false], [(0, 1, false), (1, 1, false), (2, 1, false), (3, 4, true), (7, 1, false)], none, none, 112⟩),
 (35, ⟨false, false, 1, [.slice none 0 0], [], none, some 39, 24⟩),
 (37, ⟨true, true, 3, [.int .i64 0, .int .i64 0, .slice none 0 0], [(0, 1, false), (1, 1, false), (2, 1, false)], none, none, 40⟩),
 (39, ⟨true, true, 2, [.int .i64 0, .slice none 0 0], [(0, 1, false), (1, 1, false)], none, none, 32⟩),
 (52, ⟨true, true, 2, [.int .i64 0, .int .i64 0], [(0, 1, false), (1, 1, false)], none, none, 16⟩),
 (63, ⟨true, true, 3, [.int .i64 0, .slice none 0 0, .slice none 0 0], [(0, 1, false), (1, 1, false), (2, 1, false)], none, none, 56⟩),
 (65, ⟨true, true, 3, [.bool false, .slice none 0 0, .slice none 0 0], [(0, 1, false), (1, 1, false), (2, 1, false)], none, none, 56⟩),
 (69, ⟨true, true, 3, [.bool false, .slice none 0 0, .slice none 0 0], [(0, 1, false), (1, 1, false), (2, 1, false)], none, none, 56⟩),
 (76, ⟨false, false, 1, [.pointer none], [], none, none, 8⟩),
 (78, ⟨true, true, 5, [.int .i64 0, .int .i64 0, .slice none 0 0, .slice none 0 0, .slice none 0 0], [(0, 4, true), (4, 1, false)], none, none, 88⟩),
 (79, ⟨false, false, 1, [.map none], [], none, none, 8⟩),
 (81, ⟨true, true, 5, [.pointer none, .int .i64 0, .slice none 0 0, .slice none 0 0, .map none], [(0, 1, false), (1, 1, false), (2, 1, false), (3, 1, false), (4, 1, false)], none, none, 72⟩),
 (91, ⟨false, false, 1, [.slice none 0 0], [], none, some 4, 24⟩),
 (92, ⟨false, false, 1, [.nilFunc], [], none, none, 8⟩),
 (100, ⟨false, false, 1, [.slice none 0 0], [], none, some 101, 24⟩),
 (101, ⟨false, false, 1, [.slice none 0 0], [], none, some 79, 24⟩),
 (102, ⟨false, false, 1, [.nilFunc], [], none, none, 8⟩),
 (105, ⟨false, false, 1, [.nilFunc], [], none, none, 8⟩),
 (107, ⟨false, false, 1, [.pointer none], [], none, none, 8⟩),
 (111, ⟨true, true, 2, [.int .i64 0, .int .i64 0], [(0, 2, true)], none, none, 16⟩),
 (112, ⟨false, false, 1, [.pointer none], [], none, none, 8⟩),
 (114, ⟨true, true, 1, [.slice none 0 0], [(0, 1, false)], none, none, 24⟩),
 (116, ⟨false, false, 1, [.slice none 0 0], [], none, some 119, 24⟩),
 (119, ⟨true, true, 2, [.slice none 0 0, .slice none 0 0], [(0, 1, false), (1, 1, false)], none, none, 48⟩),
 (122, ⟨true, true, 4, [.slice none 0 0, .slice none 0 0, .slice none 0 0, .slice none 0 0], [(0, 1, false), (1, 1, false), (2, 1, false), (3, 1, false)], none, none, 96⟩),
 (124, ⟨false, false, 1, [.pointer none], [], none, none, 8⟩),
 (130, ⟨true, true, 5, [.slice none 0 0, .int .i64 0, .int .i64 0, .slice none 0 0, .slice none 0 0], [(0, 1, false), (1, 4, true)], none, none, 88⟩),
 (136, ⟨true, true, 9, [.int .i64 0, .slice none 0 0, .slice none 0 0, .map none, .slice none 0 0, .slice none 0 0, .bool false, .slice none 0 0, .slice none 0 0], [(0, 3, true), (3, 1, false), (4, 1, false), (5, 1, false), (6, 3, true)], none, none, 168⟩),
 (138, ⟨true, true, 3, [.slice none 0 0, .int .i64 0, .int .i64 0], [(0, 1, false), (1, 1, false), (2, 1, false)], none, none, 40⟩),
 (139, ⟨false, false, 1, [.slice none 0 0], [], none, some 138, 24⟩),
 (142, ⟨false, false, 1, [.pointer none], [], none, none, 8⟩),
 (147, ⟨false, false, 1, [.pointer none], [], none, none, 8⟩),
 (151, ⟨true, true, 2, [.slice none 0 0, .slice none 0 0], [(0, 1, false), (1, 1, false)], none, none, 48⟩),
 (154, ⟨false, false, 1, [.nilFunc], [], none, none, 8⟩),
 (165, ⟨false, false, 1, [.pointer none], [], none, none, 8⟩),
 (166, ⟨false, false, 1, [.map none], [], none, none, 8⟩),
 (167, ⟨false, false, 1, [.map none], [], none, none, 8⟩),
 (169, ⟨true, true, 9, [.int .i64 0, .int .i64 0, .slice none 0 0, .int .i64 0, .int .i64 0, .slice none 0 0, .slice none 0 0, .map none, .map none], [(0, 3, true), (3, 4, true), (7, 1, false), (8, 1, false)], none, none, 120⟩),
 (170, ⟨true, false, 3, [.int .i64 0, .int .i64 0, .int .i64 0], [(0, 1, false), (1, 1, false), (2, 1, false)], none, none, 24⟩),
 (171, ⟨false, false, 1, [.map none], [], none, none, 8⟩),
 (173, ⟨true, true, 6, [.int .i64 0, .int .i64 0, .slice none 0 0, .slice none 0 0, .map none, .map none], [(0, 3, true), (3, 1, false), (4, 1, false), (5, 1, false)], none, none, 80⟩),
 (177, ⟨true, true, 2, [.int .i64 0, .slice none 0 0], [(0, 1, false), (1, 1, false)], none, none, 32⟩),
 (178, ⟨false, false, 1, [.slice none 0 0], [], none, some 5, 24⟩),
 (181, ⟨true, true, 5, [.string ByteArray.empty, .int .i64 0, .int .i64 0, .int .i64 0, .slice none 0 0], [(0, 1, false), (1, 1, false), (2, 1, false), (3, 1, false), (4, 1, false)], none, none, 64⟩),
 (184, ⟨false, false, 1, [.slice none 0 0], [], none, some 107, 24⟩),
 (186, ⟨true, true, 6, [.int .i64 0, .int .i64 0, .int .i64 0, .int .i64 0, .bool false, .slice none 0 0], [(0, 1, false), (1, 1, false), (2, 1, false), (3, 1, false), (4, 1, false), (5, 1, false)], none, none, 64⟩),
 (188, ⟨false, false, 1, [.nilFunc], [], none, none, 8⟩),
 (190, ⟨false, false, 1, [.slice none 0 0], [], none, some 122, 24⟩),
 (193, ⟨true, true, 2, [.int .i64 0, .int .i64 0], [(0, 2, true)], none, none, 16⟩),
 (196, ⟨true, true, 5, [.string ByteArray.empty, .int .i64 0, .int .i64 0, .int .i64 0, .int .i64 0], [(0, 1, false), (1, 1, false), (2, 1, false), (3, 1, false), (4, 1, false)], none, none, 48⟩),
 (199, ⟨true, false, 3, [.bool false, .bool false, .bool false], [(0, 1, false), (1, 1, false), (2, 1, false)], none, none, 3⟩),
 (210, ⟨true, true, 2, [.int .i64 0, .int .i64 0], [(0, 2, true)], none, none, 16⟩),
 (213, ⟨true, true, 3, [.string ByteArray.empty, .int .i64 0, .int .i64 0], [(0, 1, false), (1, 1, false), (2, 1, false)], none, none, 32⟩),
 (217, ⟨true, true, 3, [.bool false, .slice none 0 0, .slice none 0 0], [(0, 1, false), (1, 1, false), (2, 1, false)], none, none, 56⟩),
 (219, ⟨false, false, 1, [.map none], [], none, none, 8⟩),
 (223, ⟨true, false, 2, [.int .i64 0, .int .i64 0], [(0, 1, false), (1, 1, false)], none, none, 16⟩),
 (224, ⟨true, false, 2, [.int .i64 0, .int .i64 0], [(0, 1, false), (1, 1, false)], none, none, 16⟩),
 (227, ⟨false, false, 1, [.pointer none], [], none, none, 8⟩),
 (229, ⟨true, true, 2, [.pointer none, .slice none 0 0], [(0, 1, false), (1, 1, false)], none, none, 32⟩),
 (241, ⟨false, false, 1, [.nilFunc], [], none, none, 8⟩),
 (243, ⟨false, false, 1, [.map none], [], none, none, 8⟩),
 (249, ⟨false, false, 1, [.int .u64 0], [], some .u64, none, 8⟩),
 (251, ⟨false, false, 1, [.slice none 0 0], [], none, some 124, 24⟩),
 (253, ⟨true, true, 10, [.int .u8 0, .int .i64 0, .bool false, .bool false, .bool false, .int .i64 0, .int .i64 0, .int .i64 0, .int .i64 0, .slice none 0 0], [(0, 1, false), (1, 1, false), (2, 3, true), (5, 3, true), (8, 1, false), (9, 1, false)], none, none, 80⟩),
 (259, ⟨false, false, 1, [.slice none 0 0], [], none, some 142, 24⟩),
 (261, ⟨true, true, 3, [.int .i64 0, .int .i64 0, .slice none 0 0], [(0, 1, false), (1, 1, false), (2, 1, false)], none, none, 40⟩),
 (265, ⟨false, false, 1, [.map none], [], none, none, 8⟩),
 (267, ⟨true, true, 2, [.int .i64 0, .string ByteArray.empty], [(0, 1, false), (1, 1, false)], none, none, 24⟩),
 (268, ⟨false, false, 1, [.slice none 0 0], [], none, some 25, 24⟩),
 (269, ⟨false, false, 1, [.map none], [], none, none, 8⟩),
 (270, ⟨false, false, 1, [.slice none 0 0], [], none, some 224, 24⟩),
 (271, ⟨false, false, 1, [.pointer none], [], none, none, 8⟩),
 (276, ⟨false, false, 1, [.slice none 0 0], [], none, some 9, 24⟩),
 (283, ⟨false, false, 1, [.nilFunc], [], none, none, 8⟩),
 (284, ⟨false, false, 1, [.slice none 0 0], [], none, some 22, 24⟩),
 (289, ⟨false, false, 1, [.slice none 0 0], [], none, some 170, 24⟩),
 (298, ⟨false, false, 1, [.int .u32 0], [], some .u32, none, 4⟩),
 (300, ⟨false, false, 1, [.int .u64 0], [], some .u64, none, 8⟩),
 (301, ⟨false, false, 1, [.map none], [], none, none, 8⟩),
 (302, ⟨false, false, 1, [.slice none 0 0], [], none, some 223, 24⟩),
 (304, ⟨false, false, 1, [.int .u64 0], [], some .u64, none, 8⟩)]
def tab : Tab := tabL tabs
theorem ti3 : TI.ok 3 ⟨false, false, 1, [.int .i64 0], [], some .i64, none, 8⟩ := ⟨by kernel_rfl, by kernel_rfl, by kernel_rfl, by kernel_rfl, by kernel_rfl, by kernel_rfl, by rfl, by rfl, by decide⟩
theorem ti4 : TI.ok 4 ⟨false, false, 1, [.bool false], [], none, none, 1⟩ := ⟨by kernel_rfl, by kernel_rfl, by kernel_rfl, by kernel_rfl, by kernel_rfl, by kernel_rfl, by rfl, by rfl, by decide⟩
theorem ti5 : TI.ok 5 ⟨false, false, 1, [.int .u8 0], [], some .u8, none, 1⟩ := ⟨by kernel_rfl, by kernel_rfl, by kernel_rfl, by kernel_rfl, by kernel_rfl, by kernel_rfl, by rfl, by rfl, by decide⟩
theorem ti9 : TI.ok 9 ⟨false, false, 1, [.string ByteArray.empty], [], none, none, 16⟩ := ⟨by kernel_rfl, by kernel_rfl, by kernel_rfl, by kernel_rfl, by kernel_rfl, by kernel_rfl, by rfl, by rfl, by decide⟩
theorem ti21 : TI.ok 21 ⟨false, false, 1, [.int .i32 0], [], some .i32, none, 4⟩ := ⟨by kernel_rfl, by kernel_rfl, by kernel_rfl, by kernel_rfl, by kernel_rfl, by kernel_rfl, by rfl, by rfl, by decide⟩
theorem ti22 : TI.ok 22 ⟨false, false, 1, [.slice none 0 0], [], none, some 23, 24⟩ := ⟨by kernel_rfl, by kernel_rfl, by kernel_rfl, by kernel_rfl, by kernel_rfl, by kernel_rfl, by rfl, by rfl, by decide⟩
theorem ti23 : TI.ok 23 ⟨false, false, 1, [.slice none 0 0], [], none, some 3, 24⟩ := ⟨by kernel_rfl, by kernel_rfl, by kernel_rfl, by kernel_rfl, by kernel_rfl, by kernel_rfl, by rfl, by rfl, by decide⟩
theorem ti25 : TI.ok 25 ⟨true, true, 4, [.int .i64 0, .int .i64 0, .slice none 0 0, .slice none 0 0], [(0, 1, false), (1, 1, false), (2, 1, false), (3, 1, false)], none, none, 64⟩ := ⟨by kernel_rfl, by kernel_rfl, by kernel_rfl, by kernel_rfl, by kernel_rfl, by kernel_rfl, by rfl, by rfl, by decide⟩
theorem ti27 : TI.ok 27 ⟨false, false, 1, [.slice none 0 0], [], none, some 32, 24⟩ := ⟨by kernel_rfl, by kernel_rfl, by kernel_rfl, by kernel_rfl, by kernel_rfl, by kernel_rfl, by rfl, by rfl, by decide⟩
theorem ti28 : TI.ok 28 ⟨false, false, 1, [.int .i64 0], [], some .i64, none, 8⟩ := ⟨by kernel_rfl, by kernel_rfl, by kernel_rfl, by kernel_rfl, by kernel_rfl, by kernel_rfl, by rfl, by rfl, by decide⟩
theorem ti32 : TI.ok 32 ⟨true, true, 8, [.bool false, .slice none 0 0, .bool false, .int .i64 0, .int .i64 0, .slice none 0 0, .slice none 0 0, .bool false], [(0, 1, false), (1, 1, false), (2, 1, false), (3, 4, true), (7, 1, false)], none, none, 112⟩ := ⟨by kernel_rfl, by kernel_rfl, by kernel_rfl, by kernel_rfl, by kernel_rfl, by kernel_rfl, by rfl, by rfl, by decide⟩
theorem ti35 : TI.ok 35 ⟨false, false, 1, [.slice none 0 0], [], none, some 39, 24⟩ := ⟨by kernel_rfl, by kernel_rfl, by kernel_rfl, by kernel_rfl, by kernel_rfl, by kernel_rfl, by rfl, by rfl, by decide⟩
theorem ti37 : TI.ok 37 ⟨true, true, 3, [.int .i64 0, .int .i64 0, .slice none 0 0], [(0, 1, false), (1, 1, false), (2, 1, false)], none, none, 40⟩ := ⟨by kernel_rfl, by kernel_rfl, by kernel_rfl, by kernel_rfl, by kernel_rfl, by kernel_rfl, by rfl, by rfl, by decide⟩
theorem ti39 : TI.ok 39 ⟨true, true, 2, [.int .i64 0, .slice none 0 0], [(0, 1, false), (1, 1, false)], none, none, 32⟩ := ⟨by kernel_rfl, by kernel_rfl, by kernel_rfl, by kernel_rfl, by kernel_rfl, by kernel_rfl, by rfl, by rfl, by decide⟩
theorem ti52 : TI.ok 52 ⟨true, true, 2, [.int .i64 0, .int .i64 0], [(0, 1, false), (1, 1, false)], none, none, 16⟩ := ⟨by kernel_rfl, by kernel_rfl, by kernel_rfl, by kernel_rfl, by kernel_rfl, by kernel_rfl, by rfl, by rfl, by decide⟩
theorem ti63 : TI.ok 63 ⟨true, true, 3, [.int .i64 0, .slice none 0 0, .slice none 0 0], [(0, 1, false), (1, 1, false), (2, 1, false)], none, none, 56⟩ := ⟨by kernel_rfl, by kernel_rfl, by kernel_rfl, by kernel_rfl, by kernel_rfl, by kernel_rfl, by rfl, by rfl, by decide⟩
theorem ti65 : TI.ok 65 ⟨true, true, 3, [.bool false, .slice none 0 0, .slice none 0 0], [(0, 1, false), (1, 1, false), (2, 1, false)], none, none, 56⟩ := ⟨by kernel_rfl, by kernel_rfl, by kernel_rfl, by kernel_rfl, by kernel_rfl, by kernel_rfl, by rfl, by rfl, by decide⟩
theorem ti69 : TI.ok 69 ⟨true, true, 3, [.bool false, .slice none 0 0, .slice none 0 0], [(0, 1, false), (1, 1, false), (2, 1, false)], none, none, 56⟩ := ⟨by kernel_rfl, by kernel_rfl, by kernel_rfl, by kernel_rfl, by kernel_rfl, by kernel_rfl, by rfl, by rfl, by decide⟩
theorem ti76 : TI.ok 76 ⟨false, false, 1, [.pointer none], [], none, none, 8⟩ := ⟨by kernel_rfl, by kernel_rfl, by kernel_rfl, by kernel_rfl, by kernel_rfl, by kernel_rfl, by rfl, by rfl, by decide⟩
theorem ti78 : TI.ok 78 ⟨true, true, 5, [.int .i64 0, .int .i64 0, .slice none 0 0, .slice none 0 0, .slice none 0 0], [(0, 4, true), (4, 1, false)], none, none, 88⟩ := ⟨by kernel_rfl, by kernel_rfl, by kernel_rfl, by kernel_rfl, by kernel_rfl, by kernel_rfl, by rfl, by rfl, by decide⟩
theorem ti79 : TI.ok 79 ⟨false, false, 1, [.map none], [], none, none, 8⟩ := ⟨by kernel_rfl, by kernel_rfl, by kernel_rfl, by kernel_rfl, by kernel_rfl, by kernel_rfl, by rfl, by rfl, by decide⟩
theorem ti81 : TI.ok 81 ⟨true, true, 5, [.pointer none, .int .i64 0, .slice none 0 0, .slice none 0 0, .map none], [(0, 1, false), (1, 1, false), (2, 1, false), (3, 1, false), (4, 1, false)], none, none, 72⟩ := ⟨by kernel_rfl, by kernel_rfl, by kernel_rfl, by kernel_rfl, by kernel_rfl, by kernel_rfl, by rfl, by rfl, by decide⟩
theorem ti91 : TI.ok 91 ⟨false, false, 1, [.slice none 0 0], [], none, some 4, 24⟩ := ⟨by kernel_rfl, by kernel_rfl, by kernel_rfl, by kernel_rfl, by kernel_rfl, by kernel_rfl, by rfl, by rfl, by decide⟩
theorem ti92 : TI.ok 92 ⟨false, false, 1, [.nilFunc], [], none, none, 8⟩ := ⟨by kernel_rfl, by kernel_rfl, by kernel_rfl, by kernel_rfl, by kernel_rfl, by kernel_rfl, by rfl, by rfl, by decide⟩
theorem ti100 : TI.ok 100 ⟨false, false, 1, [.slice none 0 0], [], none, some 101, 24⟩ := ⟨by kernel_rfl, by kernel_rfl, by kernel_rfl, by kernel_rfl, by kernel_rfl, by kernel_rfl, by rfl, by rfl, by decide⟩
theorem ti101 : TI.ok 101 ⟨false, false, 1, [.slice none 0 0], [], none, some 79, 24⟩ := ⟨by kernel_rfl, by kernel_rfl, by kernel_rfl, by kernel_rfl, by kernel_rfl, by kernel_rfl, by rfl, by rfl, by decide⟩
theorem ti102 : TI.ok 102 ⟨false, false, 1, [.nilFunc], [], none, none, 8⟩ := ⟨by kernel_rfl, by kernel_rfl, by kernel_rfl, by kernel_rfl, by kernel_rfl, by kernel_rfl, by rfl, by rfl, by decide⟩
theorem ti105 : TI.ok 105 ⟨false, false, 1, [.nilFunc], [], none, none, 8⟩ := ⟨by kernel_rfl, by kernel_rfl, by kernel_rfl, by kernel_rfl, by kernel_rfl, by kernel_rfl, by rfl, by rfl, by decide⟩
theorem ti107 : TI.ok 107 ⟨false, false, 1, [.pointer none], [], none, none, 8⟩ := ⟨by kernel_rfl, by kernel_rfl, by kernel_rfl, by kernel_rfl, by kernel_rfl, by kernel_rfl, by rfl, by rfl, by decide⟩
theorem ti111 : TI.ok 111 ⟨true, true, 2, [.int .i64 0, .int .i64 0], [(0, 2, true)], none, none, 16⟩ := ⟨by kernel_rfl, by kernel_rfl, by kernel_rfl, by kernel_rfl, by kernel_rfl, by kernel_rfl, by rfl, by rfl, by decide⟩
theorem ti112 : TI.ok 112 ⟨false, false, 1, [.pointer none], [], none, none, 8⟩ := ⟨by kernel_rfl, by kernel_rfl, by kernel_rfl, by kernel_rfl, by kernel_rfl, by kernel_rfl, by rfl, by rfl, by decide⟩
theorem ti114 : TI.ok 114 ⟨true, true, 1, [.slice none 0 0], [(0, 1, false)], none, none, 24⟩ := ⟨by kernel_rfl, by kernel_rfl, by kernel_rfl, by kernel_rfl, by kernel_rfl, by kernel_rfl, by rfl, by rfl, by decide⟩
theorem ti116 : TI.ok 116 ⟨false, false, 1, [.slice none 0 0], [], none, some 119, 24⟩ := ⟨by kernel_rfl, by kernel_rfl, by kernel_rfl, by kernel_rfl, by kernel_rfl, by kernel_rfl, by rfl, by rfl, by decide⟩
theorem ti119 : TI.ok 119 ⟨true, true, 2, [.slice none 0 0, .slice none 0 0], [(0, 1, false), (1, 1, false)], none, none, 48⟩ := ⟨by kernel_rfl, by kernel_rfl, by kernel_rfl, by kernel_rfl, by kernel_rfl, by kernel_rfl, by rfl, by rfl, by decide⟩
theorem ti122 : TI.ok 122 ⟨true, true, 4, [.slice none 0 0, .slice none 0 0, .slice none 0 0, .slice none 0 0], [(0, 1, false), (1, 1, false), (2, 1, false), (3, 1, false)], none, none, 96⟩ := ⟨by kernel_rfl, by kernel_rfl, by kernel_rfl, by kernel_rfl, by kernel_rfl, by kernel_rfl, by rfl, by rfl, by decide⟩
theorem ti124 : TI.ok 124 ⟨false, false, 1, [.pointer none], [], none, none, 8⟩ := ⟨by kernel_rfl, by kernel_rfl, by kernel_rfl, by kernel_rfl, by kernel_rfl, by kernel_rfl, by rfl, by rfl, by decide⟩
theorem ti130 : TI.ok 130 ⟨true, true, 5, [.slice none 0 0, .int .i64 0, .int .i64 0, .slice none 0 0, .slice none 0 0], [(0, 1, false), (1, 4, true)], none, none, 88⟩ := ⟨by kernel_rfl, by kernel_rfl, by kernel_rfl, by kernel_rfl, by kernel_rfl, by kernel_rfl, by rfl, by rfl, by decide⟩
theorem ti136 : TI.ok 136 ⟨true, true, 9, [.int .i64 0, .slice none 0 0, .slice none 0 0, .map none, .slice none 0 0, .slice none 0 0, .bool false, .slice none 0 0, .slice none 0 0], [(0, 3, true), (3, 1, false), (4, 1, false), (5, 1, false), (6, 3, true)], none, none, 168⟩ := ⟨by kernel_rfl, by kernel_rfl, by kernel_rfl, by kernel_rfl, by kernel_rfl, by kernel_rfl, by rfl, by rfl, by decide⟩
theorem ti138 : TI.ok 138 ⟨true, true, 3, [.slice none 0 0, .int .i64 0, .int .i64 0], [(0, 1, false), (1, 1, false), (2, 1, false)], none, none, 40⟩ := ⟨by kernel_rfl, by kernel_rfl, by kernel_rfl, by kernel_rfl, by kernel_rfl, by kernel_rfl, by rfl, by rfl, by decide⟩
theorem ti139 : TI.ok 139 ⟨false, false, 1, [.slice none 0 0], [], none, some 138, 24⟩ := ⟨by kernel_rfl, by kernel_rfl, by kernel_rfl, by kernel_rfl, by kernel_rfl, by kernel_rfl, by rfl, by rfl, by decide⟩
theorem ti142 : TI.ok 142 ⟨false, false, 1, [.pointer none], [], none, none, 8⟩ := ⟨by kernel_rfl, by kernel_rfl, by kernel_rfl, by kernel_rfl, by kernel_rfl, by kernel_rfl, by rfl, by rfl, by decide⟩
theorem ti147 : TI.ok 147 ⟨false, false, 1, [.pointer none], [], none, none, 8⟩ := ⟨by kernel_rfl, by kernel_rfl, by kernel_rfl, by kernel_rfl, by kernel_rfl, by kernel_rfl, by rfl, by rfl, by decide⟩
theorem ti151 : TI.ok 151 ⟨true, true, 2, [.slice none 0 0, .slice none 0 0], [(0, 1, false), (1, 1, false)], none, none, 48⟩ := ⟨by kernel_rfl, by kernel_rfl, by kernel_rfl, by kernel_rfl, by kernel_rfl, by kernel_rfl, by rfl, by rfl, by decide⟩
theorem ti154 : TI.ok 154 ⟨false, false, 1, [.nilFunc], [], none, none, 8⟩ := ⟨by kernel_rfl, by kernel_rfl, by kernel_rfl, by kernel_rfl, by kernel_rfl, by kernel_rfl, by rfl, by rfl, by decide⟩
theorem ti165 : TI.ok 165 ⟨false, false, 1, [.pointer none], [], none, none, 8⟩ := ⟨by kernel_rfl, by kernel_rfl, by kernel_rfl, by kernel_rfl, by kernel_rfl, by kernel_rfl, by rfl, by rfl, by decide⟩
theorem ti166 : TI.ok 166 ⟨false, false, 1, [.map none], [], none, none, 8⟩ := ⟨by kernel_rfl, by kernel_rfl, by kernel_rfl, by kernel_rfl, by kernel_rfl, by kernel_rfl, by rfl, by rfl, by decide⟩
theorem ti167 : TI.ok 167 ⟨false, false, 1, [.map none], [], none, none, 8⟩ := ⟨by kernel_rfl, by kernel_rfl, by kernel_rfl, by kernel_rfl, by kernel_rfl, by kernel_rfl, by rfl, by rfl, by decide⟩
theorem ti169 : TI.ok 169 ⟨true, true, 9, [.int .i64 0, .int .i64 0, .slice none 0 0, .int .i64 0, .int .i64 0, .slice none 0 0, .slice none 0 0, .map none, .map none], [(0, 3, true), (3, 4, true), (7, 1, false), (8, 1, false)], none, none, 120⟩ := ⟨by kernel_rfl, by kernel_rfl, by kernel_rfl, by kernel_rfl, by kernel_rfl, by kernel_rfl, by rfl, by rfl, by decide⟩
theorem ti170 : TI.ok 170 ⟨true, false, 3, [.int .i64 0, .int .i64 0, .int .i64 0], [(0, 1, false), (1, 1, false), (2, 1, false)], none, none, 24⟩ := ⟨by kernel_rfl, by kernel_rfl, by kernel_rfl, by kernel_rfl, by kernel_rfl, by kernel_rfl, by rfl, by rfl, by decide⟩
theorem ti171 : TI.ok 171 ⟨false, false, 1, [.map none], [], none, none, 8⟩ := ⟨by kernel_rfl, by kernel_rfl, by kernel_rfl, by kernel_rfl, by kernel_rfl, by kernel_rfl, by rfl, by rfl, by decide⟩
theorem ti173 : TI.ok 173 ⟨true, true, 6, [.int .i64 0, .int .i64 0, .slice none 0 0, .slice none 0 0, .map none, .map none], [(0, 3, true), (3, 1, false), (4, 1, false), (5, 1, false)], none, none, 80⟩ := ⟨by kernel_rfl, by kernel_rfl, by kernel_rfl, by kernel_rfl, by kernel_rfl, by kernel_rfl, by rfl, by rfl, by decide⟩
theorem ti177 : TI.ok 177 ⟨true, true, 2, [.int .i64 0, .slice none 0 0], [(0, 1, false), (1, 1, false)], none, none, 32⟩ := ⟨by kernel_rfl, by kernel_rfl, by kernel_rfl, by kernel_rfl, by kernel_rfl, by kernel_rfl, by rfl, by rfl, by decide⟩
theorem ti178 : TI.ok 178 ⟨false, false, 1, [.slice none 0 0], [], none, some 5, 24⟩ := ⟨by kernel_rfl, by kernel_rfl, by kernel_rfl, by kernel_rfl, by kernel_rfl, by kernel_rfl, by rfl, by rfl, by decide⟩
theorem ti181 : TI.ok 181 ⟨true, true, 5, [.string ByteArray.empty, .int .i64 0, .int .i64 0, .int .i64 0, .slice none 0 0], [(0, 1, false), (1, 1, false), (2, 1, false), (3, 1, false), (4, 1, false)], none, none, 64⟩ := ⟨by kernel_rfl, by kernel_rfl, by kernel_rfl, by kernel_rfl, by kernel_rfl, by kernel_rfl, by rfl, by rfl, by decide⟩
theorem ti184 : TI.ok 184 ⟨false, false, 1, [.slice none 0 0], [], none, some 107, 24⟩ := ⟨by kernel_rfl, by kernel_rfl, by kernel_rfl, by kernel_rfl, by kernel_rfl, by kernel_rfl, by rfl, by rfl, by decide⟩
theorem ti186 : TI.ok 186 ⟨true, true, 6, [.int .i64 0, .int .i64 0, .int .i64 0, .int .i64 0, .bool false, .slice none 0 0], [(0, 1, false), (1, 1, false), (2, 1, false), (3, 1, false), (4, 1, false), (5, 1, false)], none, none, 64⟩ := ⟨by kernel_rfl, by kernel_rfl, by kernel_rfl, by kernel_rfl, by kernel_rfl, by kernel_rfl, by rfl, by rfl, by decide⟩
theorem ti188 : TI.ok 188 ⟨false, false, 1, [.nilFunc], [], none, none, 8⟩ := ⟨by kernel_rfl, by kernel_rfl, by kernel_rfl, by kernel_rfl, by kernel_rfl, by kernel_rfl, by rfl, by rfl, by decide⟩
theorem ti190 : TI.ok 190 ⟨false, false, 1, [.slice none 0 0], [], none, some 122, 24⟩ := ⟨by kernel_rfl, by kernel_rfl, by kernel_rfl, by kernel_rfl, by kernel_rfl, by kernel_rfl, by rfl, by rfl, by decide⟩
theorem ti193 : TI.ok 193 ⟨true, true, 2, [.int .i64 0, .int .i64 0], [(0, 2, true)], none, none, 16⟩ := ⟨by kernel_rfl, by kernel_rfl, by kernel_rfl, by kernel_rfl, by kernel_rfl, by kernel_rfl, by rfl, by rfl, by decide⟩
theorem ti196 : TI.ok 196 ⟨true, true, 5, [.string ByteArray.empty, .int .i64 0, .int .i64 0, .int .i64 0, .int .i64 0], [(0, 1, false), (1, 1, false), (2, 1, false), (3, 1, false), (4, 1, false)], none, none, 48⟩ := ⟨by kernel_rfl, by kernel_rfl, by kernel_rfl, by kernel_rfl, by kernel_rfl, by kernel_rfl, by rfl, by rfl, by decide⟩
theorem ti199 : TI.ok 199 ⟨true, false, 3, [.bool false, .bool false, .bool false], [(0, 1, false), (1, 1, false), (2, 1, false)], none, none, 3⟩ := ⟨by kernel_rfl, by kernel_rfl, by kernel_rfl, by kernel_rfl, by kernel_rfl, by kernel_rfl, by rfl, by rfl, by decide⟩
theorem ti210 : TI.ok 210 ⟨true, true, 2, [.int .i64 0, .int .i64 0], [(0, 2, true)], none, none, 16⟩ := ⟨by kernel_rfl, by kernel_rfl, by kernel_rfl, by kernel_rfl, by kernel_rfl, by kernel_rfl, by rfl, by rfl, by decide⟩
theorem ti213 : TI.ok 213 ⟨true, true, 3, [.string ByteArray.empty, .int .i64 0, .int .i64 0], [(0, 1, false), (1, 1, false), (2, 1, false)], none, none, 32⟩ := ⟨by kernel_rfl, by kernel_rfl, by kernel_rfl, by kernel_rfl, by kernel_rfl, by kernel_rfl, by rfl, by rfl, by decide⟩
theorem ti217 : TI.ok 217 ⟨true, true, 3, [.bool false, .slice none 0 0, .slice none 0 0], [(0, 1, false), (1, 1, false), (2, 1, false)], none, none, 56⟩ := ⟨by kernel_rfl, by kernel_rfl, by kernel_rfl, by kernel_rfl, by kernel_rfl, by kernel_rfl, by rfl, by rfl, by decide⟩
theorem ti219 : TI.ok 219 ⟨false, false, 1, [.map none], [], none, none, 8⟩ := ⟨by kernel_rfl, by kernel_rfl, by kernel_rfl, by kernel_rfl, by kernel_rfl, by kernel_rfl, by rfl, by rfl, by decide⟩
theorem ti223 : TI.ok 223 ⟨true, false, 2, [.int .i64 0, .int .i64 0], [(0, 1, false), (1, 1, false)], none, none, 16⟩ := ⟨by kernel_rfl, by kernel_rfl, by kernel_rfl, by kernel_rfl, by kernel_rfl, by kernel_rfl, by rfl, by rfl, by decide⟩
theorem ti224 : TI.ok 224 ⟨true, false, 2, [.int .i64 0, .int .i64 0], [(0, 1, false), (1, 1, false)], none, none, 16⟩ := ⟨by kernel_rfl, by kernel_rfl, by kernel_rfl, by kernel_rfl, by kernel_rfl, by kernel_rfl, by rfl, by rfl, by decide⟩
theorem ti227 : TI.ok 227 ⟨false, false, 1, [.pointer none], [], none, none, 8⟩ := ⟨by kernel_rfl, by kernel_rfl, by kernel_rfl, by kernel_rfl, by kernel_rfl, by kernel_rfl, by rfl, by rfl, by decide⟩
theorem ti229 : TI.ok 229 ⟨true, true, 2, [.pointer none, .slice none 0 0], [(0, 1, false), (1, 1, false)], none, none, 32⟩ := ⟨by kernel_rfl, by kernel_rfl, by kernel_rfl, by kernel_rfl, by kernel_rfl, by kernel_rfl, by rfl, by rfl, by decide⟩
theorem ti241 : TI.ok 241 ⟨false, false, 1, [.nilFunc], [], none, none, 8⟩ := ⟨by kernel_rfl, by kernel_rfl, by kernel_rfl, by kernel_rfl, by kernel_rfl, by kernel_rfl, by rfl, by rfl, by decide⟩
theorem ti243 : TI.ok 243 ⟨false, false, 1, [.map none], [], none, none, 8⟩ := ⟨by kernel_rfl, by kernel_rfl, by kernel_rfl, by kernel_rfl, by kernel_rfl, by kernel_rfl, by rfl, by rfl, by decide⟩
theorem ti249 : TI.ok 249 ⟨false, false, 1, [.int .u64 0], [], some .u64, none, 8⟩ := ⟨by kernel_rfl, by kernel_rfl, by kernel_rfl, by kernel_rfl, by kernel_rfl, by kernel_rfl, by rfl, by rfl, by decide⟩
theorem ti251 : TI.ok 251 ⟨false, false, 1, [.slice none 0 0], [], none, some 124, 24⟩ := ⟨by kernel_rfl, by kernel_rfl, by kernel_rfl, by kernel_rfl, by kernel_rfl, by kernel_rfl, by rfl, by rfl, by decide⟩
theorem ti253 : TI.ok 253 ⟨true, true, 10, [.int .u8 0, .int .i64 0, .bool false, .bool false, .bool false, .int .i64 0, .int .i64 0, .int .i64 0, .int .i64 0, .slice none 0 0], [(0, 1, false), (1, 1, false), (2, 3, true), (5, 3, true), (8, 1, false), (9, 1, false)], none, none, 80⟩ := ⟨by kernel_rfl, by kernel_rfl, by kernel_rfl, by kernel_rfl, by kernel_rfl, by kernel_rfl, by rfl, by rfl, by decide⟩
theorem ti259 : TI.ok 259 ⟨false, false, 1, [.slice none 0 0], [], none, some 142, 24⟩ := ⟨by kernel_rfl, by kernel_rfl, by kernel_rfl, by kernel_rfl, by kernel_rfl, by kernel_rfl, by rfl, by rfl, by decide⟩
theorem ti261 : TI.ok 261 ⟨true, true, 3, [.int .i64 0, .int .i64 0, .slice none 0 0], [(0, 1, false), (1, 1, false), (2, 1, false)], none, none, 40⟩ := ⟨by kernel_rfl, by kernel_rfl, by kernel_rfl, by kernel_rfl, by kernel_rfl, by kernel_rfl, by rfl, by rfl, by decide⟩
theorem ti265 : TI.ok 265 ⟨false, false, 1, [.map none], [], none, none, 8⟩ := ⟨by kernel_rfl, by kernel_rfl, by kernel_rfl, by kernel_rfl, by kernel_rfl, by kernel_rfl, by rfl, by rfl, by decide⟩
theorem ti267 : TI.ok 267 ⟨true, true, 2, [.int .i64 0, .string ByteArray.empty], [(0, 1, false), (1, 1, false)], none, none, 24⟩ := ⟨by kernel_rfl, by kernel_rfl, by kernel_rfl, by kernel_rfl, by kernel_rfl, by kernel_rfl, by rfl, by rfl, by decide⟩
theorem ti268 : TI.ok 268 ⟨false, false, 1, [.slice none 0 0], [], none, some 25, 24⟩ := ⟨by kernel_rfl, by kernel_rfl, by kernel_rfl, by kernel_rfl, by kernel_rfl, by kernel_rfl, by rfl, by rfl, by decide⟩
theorem ti269 : TI.ok 269 ⟨false, false, 1, [.map none], [], none, none, 8⟩ := ⟨by kernel_rfl, by kernel_rfl, by kernel_rfl, by kernel_rfl, by kernel_rfl, by kernel_rfl, by rfl, by rfl, by decide⟩
theorem ti270 : TI.ok 270 ⟨false, false, 1, [.slice none 0 0], [], none, some 224, 24⟩ := ⟨by kernel_rfl, by kernel_rfl, by kernel_rfl, by kernel_rfl, by kernel_rfl, by kernel_rfl, by rfl, by rfl, by decide⟩
theorem ti271 : TI.ok 271 ⟨false, false, 1, [.pointer none], [], none, none, 8⟩ := ⟨by kernel_rfl, by kernel_rfl, by kernel_rfl, by kernel_rfl, by kernel_rfl, by kernel_rfl, by rfl, by rfl, by decide⟩
theorem ti276 : TI.ok 276 ⟨false, false, 1, [.slice none 0 0], [], none, some 9, 24⟩ := ⟨by kernel_rfl, by kernel_rfl, by kernel_rfl, by kernel_rfl, by kernel_rfl, by kernel_rfl, by rfl, by rfl, by decide⟩
theorem ti283 : TI.ok 283 ⟨false, false, 1, [.nilFunc], [], none, none, 8⟩ := ⟨by kernel_rfl, by kernel_rfl, by kernel_rfl, by kernel_rfl, by kernel_rfl, by kernel_rfl, by rfl, by rfl, by decide⟩
theorem ti284 : TI.ok 284 ⟨false, false, 1, [.slice none 0 0], [], none, some 22, 24⟩ := ⟨by kernel_rfl, by kernel_rfl, by kernel_rfl, by kernel_rfl, by kernel_rfl, by kernel_rfl, by rfl, by rfl, by decide⟩
theorem ti289 : TI.ok 289 ⟨false, false, 1, [.slice none 0 0], [], none, some 170, 24⟩ := ⟨by kernel_rfl, by kernel_rfl, by kernel_rfl, by kernel_rfl, by kernel_rfl, by kernel_rfl, by rfl, by rfl, by decide⟩
theorem ti298 : TI.ok 298 ⟨false, false, 1, [.int .u32 0], [], some .u32, none, 4⟩ := ⟨by kernel_rfl, by kernel_rfl, by kernel_rfl, by kernel_rfl, by kernel_rfl, by kernel_rfl, by rfl, by rfl, by decide⟩
theorem ti300 : TI.ok 300 ⟨false, false, 1, [.int .u64 0], [], some .u64, none, 8⟩ := ⟨by kernel_rfl, by kernel_rfl, by kernel_rfl, by kernel_rfl, by kernel_rfl, by kernel_rfl, by rfl, by rfl, by decide⟩
theorem ti301 : TI.ok 301 ⟨false, false, 1, [.map none], [], none, none, 8⟩ := ⟨by kernel_rfl, by kernel_rfl, by kernel_rfl, by kernel_rfl, by kernel_rfl, by kernel_rfl, by rfl, by rfl, by decide⟩
theorem ti302 : TI.ok 302 ⟨false, false, 1, [.slice none 0 0], [], none, some 223, 24⟩ := ⟨by kernel_rfl, by kernel_rfl, by kernel_rfl, by kernel_rfl, by kernel_rfl, by kernel_rfl, by rfl, by rfl, by decide⟩
theorem ti304 : TI.ok 304 ⟨false, false, 1, [.int .u64 0], [], some .u64, none, 8⟩ := ⟨by kernel_rfl, by kernel_rfl, by kernel_rfl, by kernel_rfl, by kernel_rfl, by kernel_rfl, by rfl, by rfl, by decide⟩
theorem tab_ok : tab.ok := tabL_ok fun x hx => by
 simp only [tabs, List.mem_cons, List.not_mem_nil, or_false] at hx
 rcases hx with rfl | rfl | rfl | rfl | rfl | rfl | rfl | rfl | rfl | rfl | rfl | rfl | rfl | rfl | rfl | rfl | rfl | rfl | rfl | rfl | rfl | rfl | rfl | rfl | rfl | rfl | rfl | rfl | rfl | rfl | rfl | rfl | rfl | rfl | rfl | rfl | rfl | rfl | rfl | rfl | rfl | rfl | rfl | rfl | rfl | rfl | rfl | rfl | rfl | rfl | rfl | rfl | rfl | rfl | rfl | rfl | rfl | rfl | rfl | rfl | rfl | rfl | rfl | rfl | rfl | rfl | rfl | rfl | rfl | rfl | rfl | rfl | rfl | rfl | rfl | rfl | rfl | rfl | rfl | rfl | rfl | rfl | rfl | rfl | rfl | rfl | rfl | rfl | rfl | rfl | rfl
 ·exact ti3
 ·exact ti4
 ·exact ti5
 ·exact ti9
 ·exact ti21
 ·exact ti22
 ·exact ti23
 ·exact ti25
 ·exact ti27
 ·exact ti28
 ·exact ti32
 ·exact ti35
 ·exact ti37
 ·exact ti39
 ·exact ti52
 ·exact ti63
 ·exact ti65
 ·exact ti69
 ·exact ti76
 ·exact ti78
 ·exact ti79
 ·exact ti81
 ·exact ti91
 ·exact ti92
 ·exact ti100
 ·exact ti101
 ·exact ti102
 ·exact ti105
 ·exact ti107
 ·exact ti111
 ·exact ti112
 ·exact ti114
 ·exact ti116
 ·exact ti119
 ·exact ti122
 ·exact ti124
 ·exact ti130
 ·exact ti136
 ·exact ti138
 ·exact ti139
 ·exact ti142
 ·exact ti147
 ·exact ti151
 ·exact ti154
 ·exact ti165
 ·exact ti166
 ·exact ti167
 ·exact ti169
 ·exact ti170
 ·exact ti171
 ·exact ti173
 ·exact ti177
 ·exact ti178
 ·exact ti181
 ·exact ti184
 ·exact ti186
 ·exact ti188
 ·exact ti190
 ·exact ti193
 ·exact ti196
 ·exact ti199
 ·exact ti210
 ·exact ti213
 ·exact ti217
 ·exact ti219
 ·exact ti223
 ·exact ti224
 ·exact ti227
 ·exact ti229
 ·exact ti241
 ·exact ti243
 ·exact ti249
 ·exact ti251
 ·exact ti253
 ·exact ti259
 ·exact ti261
 ·exact ti265
 ·exact ti267
 ·exact ti268
 ·exact ti269
 ·exact ti270
 ·exact ti271
 ·exact ti276
 ·exact ti283
 ·exact ti284
 ·exact ti289
 ·exact ti298
 ·exact ti300
 ·exact ti301
 ·exact ti302
 ·exact ti304
theorem keyS9 : KeyLaw 9 encS where
 check := fun b a w => by unfold encS; kernel_rfl
 bits := fun a => by unfold encS; simp [Instr.sameBits, beq_bytes]
 now := ⟨_, Try.underlying9, .inr fun a b => by simp [Instr.sameNow, encS, beq_bytes]⟩
 equal := fun a b w => by
  unfold encS
  have hu := run_underlying Try.underlying9 w
  show (Op.equalIn (9999 + 1) _ _ _).run _ _ = _
  rw [Op.equalIn]
  simp only [Sem.run_bind, hu, Result.andThen_ok, Sem.run_pure, beq_bytes]
def St170.enc (k : St170) : Value := .agg #[.int .i64 k.fE0, .int .i64 k.fE1, .int .i64 k.fE2]
theorem St170.part0 (x0 : Int) (x1 : Int) (x2 : Int) (w : World) : (Go.part 3 #[.int .i64 x0, .int .i64 x1, .int .i64 x2] 0).run Try.prog w = .ok (.int .i64 x0) w := by kernel_rfl
theorem St170.part1 (x0 : Int) (x1 : Int) (x2 : Int) (w : World) : (Go.part 3 #[.int .i64 x0, .int .i64 x1, .int .i64 x2] 1).run Try.prog w = .ok (.int .i64 x1) w := by kernel_rfl
theorem St170.part2 (x0 : Int) (x1 : Int) (x2 : Int) (w : World) : (Go.part 3 #[.int .i64 x0, .int .i64 x1, .int .i64 x2] 2).run Try.prog w = .ok (.int .i64 x2) w := by kernel_rfl
theorem St170.eq3 (x y : Int) (n : Nat) (w : World) : (Op.equalIn (n + 1) 3 (.int .i64 x) (.int .i64 y)).run Try.prog w = .ok (x == y) w := by
 have hu := run_underlying Try.underlying3 w
 simp only [Op.equalIn, Sem.run_bind, hu, Result.andThen_ok, if_true, Sem.run_pure]
theorem St170.keyLaw : KeyLaw 170 St170.enc where
 check := fun b a w => by unfold St170.enc; kernel_rfl
 bits := fun a => by unfold St170.enc; simp [Instr.sameBits, beq_bytes]
 now := ⟨_, Try.underlying170, .inl fun a b => rfl⟩
 equal := fun a b w => by
  unfold St170.enc
  have hu := run_underlying Try.underlying170 w
  have hsz : ∀ w, (sizeOf 3).run Try.prog w = .ok 1 w := fun w => by kernel_rfl
  have hr : List.range' 0 3 = [0, 1, 2] := rfl
  show (Op.equalIn (9999 + 1) _ _ _).run _ _ = _
  rw [Op.equalIn]
  simp only [Sem.run_bind, hu, Result.andThen_ok]
  simp [Go.program, Sem.run, hsz, hr, St170.part0, St170.part1, St170.part2, St170.eq3]
  rcases a with ⟨a0, a1, a2⟩
  rcases b with ⟨b0, b1, b2⟩
  by_cases h0 : a0 = b0 <;> by_cases h1 : a1 = b1 <;> by_cases h2 : a2 = b2 <;> simp [h0, h1, h2]
def cloneInt_vc (l : List Int) (Q : (List Int) → Prop) : Prop :=
 l.length ≤ 9223372036854775807 →
 (∀ isnil : Bool, (isnil = true → l = []) →
 (IfP (isnil != false) (Q []) (capOk ([] : List Int).length (l : List Int).length 8 ∧
 Q (([] : List Int) ++ l))))
theorem cloneInt_walk (l : List Int) (Q : (List Int) → Prop) (h : cloneInt_vc l Q) : CtJ 37 [.sv (.one (LS intT l))] [] Q (fun (r : List Int) => rowI 3 intT r) := by
 have ht := tab_ok
 refine CtJ.body Try.func37 rfl rfl rfl rfl (fun c hn hmay => ?_)
 unfold cloneInt_vc at h
 refine En.lenL 0 (by rfl) (fun hl => ?_)
 replace h := h hl
 clear hl
 refine En.sr ?_
 refine WL.rn ht hn 1 ⟨[sl 0 (LS intT l)], []⟩ ?_
 refine En.seq ?_
 refine En.sr ?_
 refine WL.r ht hn 1 ⟨[sl 0 (LS intT l), sl 3 (LS intT l)], []⟩ ?_
 refine WL.eqNil (T := intT) (l := l) .eql false (by simp) ht hn (by rfl) rfl (by rfl) (by rfl) (by rfl) rfl (by rfl) (fun isnil hisnil => ?_)
 replace h := h isnil hisnil
 clear hisnil
 refine WL.nil ?_
 refine En.ch h (fun h => ?_) (fun h => ?_)
 refine En.sr ?_
 refine WL.rn ht hn 1 ⟨[sl 2 (.v (.slice none 0 0))], []⟩ ?_
 refine En.ret ?_
 exact En.backN (by rfl) h
 refine En.skip ?_
 refine En.sr ?_
 refine WL.mt0 (K := []) (p := some (0, rowI 3 intT ([] : List Int))) hn (by rfl) (mt_empty intT 0 ht rfl (by rfl) (by rfl) (by rfl)) (by rfl) (by rfl) (by rfl) ?_
 refine WL.r ht hn 1 ⟨[sl 5 (.own 0), sl 6 (LS intT l)], [rowI 3 intT ([] : List Int)]⟩ ?_
 obtain ⟨hp, h⟩ := h
 refine WL.mt (S2 := ⟨[sl 6 (LS intT l)], [rowI 3 intT ([] : List Int)]⟩) (K := [0]) (p := some (0, rowI 3 intT (([] : List Int) ++ l))) hn (by rfl) (mt_append (T := intT) (l := ([] : List Int)) (es := l) ht rfl (by rfl) (by rfl) (by rfl) (by rfl) (by decide) (by rfl) (by rfl) (srcLS (T := intT) (es := l) (fun _ h => by cases h) (by decide) (by rfl)) (by exact hp) (by exact hp.le (by decide))) (by kernel_rfl) (by rfl) (by rfl) (by rfl) ?_
 refine WL.rn ht hn 1 ⟨[sl 2 (.own 0)], [rowI 3 intT (([] : List Int) ++ l)]⟩ ?_
 refine En.ret ?_
 exact En.backJ (itf := fun l => rowI 3 intT l) hmay (by rfl) (by rfl) rfl rfl h
theorem en37 : ∀ args w, (callFunc 37 args).run Try.prog w = .ok (.enter 37 args) w := enters_of Try.func37 (by kernel_rfl) rfl
theorem cloneInt_ct (l : List Int) (hp : l.length * 8 ≤ 140737488355328) : CtI 37 [.sv (.one (LS intT l))] [] (rowI 3 intT l) := by
 refine (cloneInt_walk l (fun r => r = l) ?_).fun
 unfold cloneInt_vc
 refine fun _ isnil h => ⟨fun hb => (h (by simpa using hb)).symm, fun _ => ⟨?_, by simp⟩⟩
 unfold capOk
 simpa using hp
end Go.Proofs.Ytobenjahlicnoaa
namespace Go.Proofs.Ytobenjahlicnoaa
open Go.RowKit Go.MapKept
set_option linter.unusedSimpArgs false
set_option linter.unusedVariables false
set_option maxRecDepth 100000
set_option linter.unusedSectionVars false
theorem nodup_le {α : Type} : ∀ {l m : List α}, l.Nodup → (∀ x ∈ l, x ∈ m) → l.length ≤ m.length
 | [], _, _, _ => Nat.zero_le _
 | x :: l, m, hn, h => by
  rw [List.nodup_cons] at hn
  obtain ⟨s, t, rfl⟩ := List.append_of_mem (h x List.mem_cons_self)
  have := nodup_le (l := l) (m := s ++ t) hn.2 fun y hy => by
   have h1 := h y (List.mem_cons_of_mem _ hy)
   rw [List.mem_append, List.mem_cons] at h1
   rw [List.mem_append]
   rcases h1 with h1 | rfl | h1
   ·exact .inl h1
   ·exact absurd hy hn.1
   ·exact .inr h1
  simp only [List.length_append, List.length_cons] at this ⊢
  omega
section
variable {K : Type} [DecidableEq K]
def growTo (go : K → Nat → K) (k : K) : Nat → List K → List K
 | 0, l => l
 | n + 1, l => if go k n ∈ growTo go k n l then growTo go k n l else growTo go k n l ++ [go k n]
def expl (go : K → Nat → K) (L : Nat) (k0 : K) : Nat → List K
 | 0 => [k0]
 | i + 1 => match (expl go L k0 i)[i]? with
  | some k => growTo go k L (expl go L k0 i)
  | none => expl go L k0 i
variable {go : K → Nat → K} {mark : K → Int} {L : Nat} {k0 : K} {P : K → Prop}
def rowOf (go : K → Nat → K) (L : Nat) (l : List K) (k : K) : List Int := (List.range L).map fun a => (l.idxOf (go k a) : Int)
def detOf (go : K → Nat → K) (mark : K → Int) (L : Nat) (l : List K) : ApiDet := ⟨L, 0, l.map (rowOf go L l), l.map mark⟩
open Classical in
noncomputable def explL (go : K → Nat → K) (L : Nat) (k0 : K) : List K := if h : ∃ n, (expl go L k0 n).length = n then expl go L k0 h.choose else [k0]
noncomputable def explD (go : K → Nat → K) (mark : K → Int) (L : Nat) (k0 : K) : ApiDet := detOf go mark L (explL go L k0)
section
variable {K' : Type} [DecidableEq K'] {go' : K' → Nat → K'} {mark' : K' → Int} {φ : K → K'}
end
end
abbrev Lang := List Nat → Int
noncomputable instance langDec : DecidableEq Lang := fun _ _ => Classical.propDecidable _
def rs (L : Nat) (r : Lang) : Lang := fun w => if ∀ a ∈ w, a < L then r w else 0
def der (r : Lang) (a : Nat) : Lang := fun w => r (a :: w)
noncomputable def canon (L : Nat) (r : Lang) : ApiDet := explD der (fun r => r []) L (rs L r)
section
variable {K : Type} [DecidableEq K] {go : K → Nat → K} {mark : K → Int} {L : Nat} {k0 : K} {P : K → Prop}
end
def stepD (d : ApiDet) (q : Nat) (a : Nat) : Nat := ((d.fNext.getD q []).getD a 0).toNat
def langD (d : ApiDet) (q : Nat) : Lang := fun w => d.fMark.getD (w.foldl (stepD d) q) 0
section
variable {K : Type} [DecidableEq K] {go : K → Nat → K} {mark : K → Int} {L : Nat} {k0 : K} {P : K → Prop}
end
structure Wf (d : ApiDet) : Prop where
 letters : 0 ≤ d.fLetters
 rows : ∀ r ∈ d.fNext, r.length = d.fLetters.toNat
 next : ∀ r ∈ d.fNext, ∀ x ∈ r, 0 ≤ x ∧ x < (d.fNext.length : Int)
 start : 0 ≤ d.fStart ∧ d.fStart < (d.fNext.length : Int)
 mark : d.fMark.length = d.fNext.length
section
variable {K : Type} [DecidableEq K] {go : K → Nat → K} {mark : K → Int} {L : Nat} {k0 : K} {P : K → Prop}
end
section
variable {K : Type} [DecidableEq K] {go : K → Nat → K} {mark : K → Int} {L : Nat} {k0 : K} {P : K → Prop}
end
def two8 (c : Int) : List Int := [c % 256, c / 256 % 256]
def rowCls (cls : List Int) (r : List Int) : List Int := r.map fun t => cls.getD t.toNat 0
def keyOf (cls : List Int) (q : Nat) (r : List Int) : DetSplit := ⟨cls.getD q 0, bytesOf ((rowCls cls r).flatMap two8)⟩
structure RoundOf (N : List (List Int)) (cls next : List Int) (m : Nat) : Prop where
 len : next.length = N.length
 range : ∀ x ∈ next, 0 ≤ x ∧ x < (m : Int)
 onto : ∀ j : Nat, j < m → (j : Int) ∈ next
 same : ∀ (p q : Nat) (r s : List Int) (x y : Int), N[p]? = some r → N[q]? = some s → next[p]? = some x → next[q]? = some y → (x = y ↔ keyOf cls p r = keyOf cls q s)
structure ClsPre (d : ApiDet) : Prop where
 size : d.fNext.length ≤ 65536
 next : ∀ r ∈ d.fNext, ∀ x ∈ r, 0 ≤ x ∧ x < (d.fNext.length : Int)
 wide : ∀ r ∈ d.fNext, r.length ≤ 1000
 marks : d.fMark.length = d.fNext.length
 small : ∀ x ∈ d.fMark, 0 ≤ x ∧ x < 65536
structure Half (N : List (List Int)) (cls : List Int) (q : Nat) (m2 : List (DetSplit × Int)) (next : List Int) : Prop where
 len : next.length = N.length
 get : ∀ (p : Nat) (r : List Int), p < q → N[p]? = some r → ∃ x : Int, next[p]? = some x ∧ mget (keyOf cls p r) m2 = some x
 range : ∀ (k : DetSplit) (x : Int), mget k m2 = some x → 0 ≤ x ∧ x < (m2.length : Int)
 inj : ∀ (k l : DetSplit) (x : Int), mget k m2 = some x → mget l m2 = some x → k = l
 onto : ∀ j : Nat, j < m2.length → ∃ p : Nat, p < q ∧ next[p]? = some (j : Int)
 size : m2.length ≤ q
theorem mput_length {κ : Type} [DecidableEq κ] {a : κ} {v : Int} : ∀ {D : List (κ × Int)}, mget a D = none → (mput a v D).length = D.length + 1
 | [], _ => rfl
 | x :: D, h => by
  rw [mget] at h
  split at h
  ·cases h
  ·rename_i e
   rw [mput, if_neg e, List.length_cons, mput_length h, List.length_cons]
structure ClsInv (d : ApiDet) (L : Nat) (x4 : Int) (cls : List Int) : Prop where
 len : cls.length = d.fNext.length
 range : ∀ x ∈ cls, 0 ≤ x ∧ x < 65536
 sound : ∀ p q, p < d.fNext.length → q < d.fNext.length → rs L (langD d p) = rs L (langD d q) → cls.getD p 0 = cls.getD q 0
 marks : ∀ p q, p < d.fNext.length → q < d.fNext.length → cls.getD p 0 = cls.getD q 0 → d.fMark.getD p 0 = d.fMark.getD q 0
 count : x4 = 0 ∨ ∃ m : Nat, x4 = m ∧ m ≤ d.fNext.length ∧ (∀ x ∈ cls, 0 ≤ x ∧ x < (m : Int)) ∧ ∀ j : Nat, j < m → (j : Int) ∈ cls
theorem getD_mem {α : Type} {l : List α} {i : Nat} {z : α} (h : i < l.length) : l.getD i z ∈ l := by
 rw [List.getD_eq_getElem?_getD, List.getElem?_eq_getElem h]
 exact List.getElem_mem h
section
variable {d : ApiDet} (hd : ClsPre d) {L : Nat} (hL : ∀ r ∈ d.fNext, r.length = L)
include hd
end
structure ClsOk (d : ApiDet) : Prop where
 wf : Wf d
 size : d.fNext.length ≤ 65536
 wide : d.fLetters ≤ 1000
 small : ∀ x ∈ d.fMark, 0 ≤ x ∧ x < 65536
structure IsClass (d : ApiDet) (cls : List Int) : Prop where
 len : cls.length = d.fNext.length
 range : ∀ x ∈ cls, 0 ≤ x ∧ x < (d.fNext.length : Int)
 same : ∀ p q, p < d.fNext.length → q < d.fNext.length → (cls.getD p 0 = cls.getD q 0 ↔ rs d.fLetters.toNat (langD d p) = rs d.fLetters.toNat (langD d q))
end Go.Proofs.Ytobenjahlicnoaa
namespace Go.Proofs.Ytobenjahlicnoaa
open Go.RowKit Go.MapKept
set_option linter.unusedSimpArgs false
set_option linter.unusedVariables false
set_option maxRecDepth 100000
end Go.Proofs.Ytobenjahlicnoaa
namespace Go.Proofs.Ytobenjahlicnoaa
open Go.RowKit Go.MapKept
set_option linter.unusedSimpArgs false
set_option linter.unusedVariables false
set_option maxRecDepth 100000
set_option linter.unusedSectionVars false
section
variable {d : ApiDet} {cls back : List Int}
end
structure CanonOk (L : Nat) (r : Lang) (n : Nat) : Prop where
 wf : Wf (canon L r)
 letters : (canon L r).fLetters = L
 start : (canon L r).fStart = 0
 count : (canon L r).fNext.length ≤ n
 lang : ∀ w, (∀ a ∈ w, a < L) → langD (canon L r) 0 w = r w
 marks : ∀ m ∈ (canon L r).fMark, ∃ u, m = r u
section
variable {d : ApiDet}
end
end Go.Proofs.Ytobenjahlicnoaa
