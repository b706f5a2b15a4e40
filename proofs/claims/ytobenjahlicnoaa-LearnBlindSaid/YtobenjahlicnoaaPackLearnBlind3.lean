/- Lemmas towards the statement: mirrors of functions, and plain laws. No condition. -/
import Derived.Laws.CopyRow
import Derived.Laws.IdiomCopy
import Derived.Lib.Builder
import Derived.Lib.UnsafeStr
import Derived.Laws.Externs
import Derived.Laws.BitsLemmas
import Derived.Recover
import Derived.Laws.BytesString
import Derived.Test.YtobenjahlicnoaaPackLearnBlind2
namespace Go.Proofs.Ytobenjahlicnoaa
open Go.RowKit Go.MapKept
set_option linter.unusedSimpArgs false
set_option linter.unusedVariables false
set_option maxRecDepth 100000
def tailE (l : List Oper) (m : Nat) : Bool := (List.range l.length).all fun k => Nat.blt k m || (List.range k).all fun j => (onI l k).contains j || (closE l k (onI l k)).contains j
theorem closE_listed {l : List Oper} {L : Nat → Bool} (hc : Closed' l L) : ∀ (n : Nat) {s : List Nat}, (∀ j ∈ s, L j = true) → ∀ j ∈ closE l n s, L j = true
 | 0, s, h, j, hj => h j hj
 | n + 1, s, h, j, hj => by
  unfold closE at hj
  split at hj
  ·rename_i hm
   refine closE_listed hc n (fun k hk => ?_) j hj
   rcases List.mem_append.1 hk with hk | hk
   ·exact h k hk
   ·exact (hc n (h n (List.contains_iff_mem.1 hm))).2 k hk
  ·exact closE_listed hc n h j hj
theorem tail_all {l : List Oper} {m : Nat} (ht : tailE l m = true) {L : Nat → Bool} (hc : Closed' l L) {i : Nat} {o : Oper} (hi : l[i]? = some o) (hm : m ≤ i) (hon : ∀ j ∈ onE o, L j = true) : ∀ j, j < i → L j = true := fun j hj => by
 have hlt := (List.getElem?_eq_some_iff.1 hi).1
 have h1 := List.all_eq_true.1 ht i (List.mem_range.2 hlt)
 rw [Bool.or_eq_true] at h1
 rcases h1 with h1 | h1
 ·have := Nat.le_of_ble_eq_true h1
  omega
 ·have h2 := List.all_eq_true.1 h1 j (List.mem_range.2 hj)
  rw [onI_eq hi, Bool.or_eq_true] at h2
  rcases h2 with h2 | h2
  ·exact hon j (List.contains_iff_mem.1 h2)
  ·exact closE_listed hc i hon j (List.contains_iff_mem.1 h2)
theorem blt_iff {a b : Nat} : Nat.blt a b = true ↔ a < b := ⟨fun h => Nat.le_of_ble_eq_true h, fun h => Nat.ble_eq_true_of_le h⟩
section
variable {c : Cfg} {C : Cert} {l : List Oper} {n m : Nat} {N : Po}
theorem tail_ok (hb : ∀ (i : Nat) (o : Oper), l[i]? = some o → ∀ j ∈ onE o, j < i) (ht : tailE l m = true) : ∀ (fuel k : Nat) (listed : Array Bool) (a : Act) (w : World), k + fuel = l.length → m ≤ k → listed.size = l.length → LB listed = (fun i => Nat.blt i k) → wpList Try.prog l.toArray (OnlyP c N) (l.drop k) a w → wpAny Try.prog .any l.toArray (OnlyP c N) fuel listed a w := by
 have hcl : ∀ k, k ≤ l.length → Closed' l (fun i => Nat.blt i k) := fun k hk i hi => by
  have hi := blt_iff.1 hi
  refine ⟨by omega, fun j hj => blt_iff.2 ?_⟩
  have ho : l[i]? = some (l[i]'(by omega)) := List.getElem?_eq_getElem (by omega)
  rw [onI_eq ho] at hj
  have := hb i _ ho j hj
  omega
 intro fuel
 induction fuel with
 | zero =>
  intro k listed a w hk hm hsz hL hw
  have hk : k = l.length := by omega
  subst hk
  rw [List.drop_length] at hw
  refine ⟨?_, hw⟩
  cases hr : Region.ready .any l.toArray listed with
  | nil => rfl
  | cons i r =>
   obtain ⟨o, ho, hF, _⟩ := ready_mem hsz (i := i) (by rw [hr]; simp)
   have hF2 : Nat.blt i l.length = false := by rw [hL] at hF; exact hF
   have : Nat.blt i l.length = true := blt_iff.2 (List.getElem?_eq_some_iff.1 ho).1
   rw [this] at hF2
   cases hF2
 | succ fuel ih =>
  intro k listed a w hk hm hsz hL hw
  have hkl : k < l.length := by omega
  refine ⟨fun hr => ?_, fun i hi => ?_⟩
  ·have := ready_nil hsz hb hr k hkl
   rw [hL] at this
   have := blt_iff.1 this
   omega
  ·obtain ⟨o, ho, hF, hon⟩ := ready_mem hsz hi
   have hik : k ≤ i := by
    refine Decidable.byContradiction fun hc => ?_
    have : LB listed i = true := by rw [hL]; exact blt_iff.2 (by omega)
    rw [this] at hF
    cases hF
   have hik : i = k := by
    refine Decidable.byContradiction fun hc => ?_
    have hcl' := hcl k (by omega)
    rw [hL] at hon
    have := blt_iff.1 (tail_all ht hcl' ho (by omega) hon k (by omega))
    omega
   subst hik
   have hset := LB_set (listed := listed) (i := i) (by omega)
   have hnext : ∀ a' w', wpList Try.prog l.toArray (OnlyP c N) (l.drop (i + 1)) a' w' → wpAny Try.prog .any l.toArray (OnlyP c N) fuel (listed.setIfInBounds i true) a' w' := fun a' w' h' => by
    refine ih (i + 1) _ a' w' (by omega) (by omega) (by simpa using hsz) ?_ h'
    rw [hset, hL]
    funext j
    unfold addL
    by_cases e : j = i
    ·rw [if_pos e]
     exact (blt_iff.2 (by omega)).symm
    ·rw [if_neg e]
     show Nat.blt j i = Nat.blt j (i + 1)
     cases h1 : Nat.blt j i with
     | true => exact (blt_iff.2 (by have := blt_iff.1 h1; omega)).symm
     | false =>
      cases h2 : Nat.blt j (i + 1) with
      | false => rfl
      | true =>
       have := blt_iff.1 h2
       have : Nat.blt j i = true := blt_iff.2 (by omega)
       rw [h1] at this
       cases this
   have hd : l.drop i = o :: l.drop (i + 1) := by
    rw [List.drop_eq_getElem_cons hkl]
    congr 1
    rw [List.getElem?_eq_getElem hkl] at ho
    exact Option.some.inj ho
   rw [hd] at hw
   unfold wpList at hw
   unfold wpOp
   have ho' : l.toArray[i]? = some o := by simpa using ho
   rw [ho']
   simp only
   split
   ·rename_i hwant
    rw [if_pos hwant] at hw
    rcases hw with hw | hw
    ·exact .inl (Oper.wp_mono hnext hw)
    ·exact .inr hw
   ·rename_i hwant
    rw [if_neg hwant] at hw
    exact hnext _ _ hw
theorem anyT_ok (hk : Chk C l) (hn : c.n = n) (hd : (l.all fun o => match o.dst with | some d => Nat.blt d n | none => true) = true) (hml : m ≤ l.length) (ht : tailE l m = true) (hs : StepsOk c C l 0 (l.take m))
  (hN : ∀ a w, Ok c ⟨C.FL l (fun i => Nat.blt i m), C.ML (fun i => Nat.blt i m)⟩ a w → wpList Try.prog l.toArray (OnlyP c N) (l.drop m) a w) :
  ∀ (fuel : Nat) (listed : Array Bool) (a : Act) (w : World), listed.size = l.length → Closed' l (LB listed) → (∀ i, LB listed i = true → i < m) → (listed.toList.filter id).length + fuel = l.length → Ok c ⟨C.FL l (LB listed), C.ML (LB listed)⟩ a w → wpAny Try.prog .any l.toArray (OnlyP c N) fuel listed a w := by
 have full : ∀ listed : Array Bool, (∀ i, LB listed i = true → i < m) → (∀ i, i < m → LB listed i = true) → LB listed = fun i => Nat.blt i m := fun listed h1 h2 => by
  funext i
  cases hL : LB listed i with
  | true => exact (blt_iff.2 (h1 i hL)).symm
  | false =>
   cases hb : Nat.blt i m with
   | false => rfl
   | true => rw [h2 i (blt_iff.1 hb)] at hL; cases hL
 have cnt : ∀ (q : List Bool) (r : Nat), r ≤ q.length → (∀ i, i < q.length → q.getD i false = Nat.blt i r) → (q.filter id).length = r := by
  intro q
  induction q with
  | nil => intro r h _; simp at h; simp [h]
  | cons x q ih =>
   intro r h hq
   have h0 := hq 0 (by simp)
   rw [List.getD_cons_zero] at h0
   cases r with
   | zero =>
    have hx : x = false := h0
    have := ih 0 (Nat.zero_le _) fun i hi => by
     have h2 := hq (i + 1) (by simp; omega)
     rw [List.getD_cons_succ] at h2
     rw [h2]
     rfl
    subst hx
    simpa using this
   | succ r =>
    have hx : x = true := h0
    have := ih r (by simpa using h) fun i hi => by
     have h2 := hq (i + 1) (by simp; omega)
     rw [List.getD_cons_succ] at h2
     rw [h2]
     rfl
    subst hx
    simpa using this
 intro fuel
 induction fuel with
 | zero =>
  intro listed a w hsz hcl hlt hcnt hok
  have hall : ∀ i, i < l.length → LB listed i = true := fun i hi => by
   have hlen : listed.toList.length = l.length := by simpa using hsz
   have := count_all listed.toList (by omega) (listed[i]'(by omega)) (by simp)
   unfold LB
   rw [Array.getD_eq_getD_getElem?]
   simp [hsz, hi, this]
  have hme : m = l.length := by
   refine Decidable.byContradiction fun hc => ?_
   have := hlt m (hall m (by omega))
   omega
  have hf := full listed hlt fun i hi => hall i (by omega)
  exact tail_ok hk.below ht 0 m listed a w (by omega) (Nat.le_refl _) hsz hf (hN a w (hf ▸ hok))
 | succ fuel ih =>
  intro listed a w hsz hcl hlt hcnt hok
  by_cases hA : ∀ i, i < m → LB listed i = true
  ·have hf := full listed hlt hA
   have hc : (listed.toList.filter id).length = m := cnt listed.toList m (by simpa [hsz] using hml) fun i hi => by
    have := congrFun hf i
    unfold LB at this
    rw [← this, Array.getD_eq_getD_getElem?, List.getD_eq_getElem?_getD]
    simp
   exact tail_ok hk.below ht (fuel + 1) m listed a w (by omega) (Nat.le_refl _) hsz hf (hN a w (hf ▸ hok))
  ·obtain ⟨i0, h0⟩ := Classical.not_forall.1 hA
   obtain ⟨h0m, h0L⟩ := Classical.not_imp.1 h0
   refine ⟨fun hr => absurd (ready_nil hsz hk.below hr i0 (by omega)) h0L, fun i hi => ?_⟩
   obtain ⟨o, ho, hL, hon⟩ := ready_mem hsz hi
   have hltl := (List.getElem?_eq_some_iff.1 ho).1
   have him : i < m := by
    refine Decidable.byContradiction fun hc => h0L ?_
    exact tail_all ht hcl ho (by omega) hon i0 (by omega)
   have hst := stepsOk_get hs i o (by rw [List.getElem?_take_of_lt him]; exact ho)
   rw [Nat.zero_add] at hst
   have hset := LB_set (listed := listed) (i := i) (by omega)
   have hnext : ∀ a' w', Ok c ⟨C.FL l (addL (LB listed) i), C.ML (addL (LB listed) i)⟩ a' w' → wpAny Try.prog .any l.toArray (OnlyP c N) fuel (listed.setIfInBounds i true) a' w' := fun a' w' h' => by
    refine ih _ a' w' (by simpa using hsz) ?_ ?_ ?_ (by rw [hset]; exact h')
    ·rw [hset]
     intro j hj
     unfold addL at hj ⊢
     by_cases e : j = i
     ·subst e
      refine ⟨hltl, fun k hk' => ?_⟩
      rw [onI_eq ho] at hk'
      split
      ·rfl
      ·exact hon k hk'
     ·rw [if_neg e] at hj
      obtain ⟨h1, h2⟩ := hcl j hj
      refine ⟨h1, fun k hk' => ?_⟩
      split
      ·rfl
      ·exact h2 k hk'
    ·rw [hset]
     intro j hj
     unfold addL at hj
     by_cases e : j = i
     ·omega
     ·rw [if_neg e] at hj
      exact hlt j hj
    ·rw [Array.toList_setIfInBounds, count_set]
     ·omega
     ·unfold LB at hL
      rw [Array.getD_eq_getD_getElem?] at hL
      have : listed[i]? = some listed[i] := by simp [hsz, hltl]
      rw [this] at hL
      simp at hL
      rw [Array.getElem?_toList, this, hL]
   have := step_ok (Z := N) hk hcl hn hd ho hL hon hst hok hnext
   unfold wpOp
   have ho' : l.toArray[i]? = some o := by simpa using ho
   rw [ho']
   simp only
   split
   ·rename_i hw
    rw [if_pos hw] at this
    exact .inl this
   ·rename_i hw
    rw [if_neg hw] at this
    exact this
theorem En.regionT {S : St} {id : Nat} {E : List (Nat × Po)} {R : Po} (C : Cert) (m : Nat) (fin : St) (hm : Try.prog.follows .mixedOrders = true) (hn : c.n = n) (hml : Nat.ble m l.length = true) (ht : tailE l m = true) (hk : chkE C l = true) (hd : (l.all fun o => match o.dst with | some d => Nat.blt d n | none => true) = true)
  (h0 : subE ⟨C.FL l (fun _ => false), C.ML (fun _ => false)⟩ S = subX ⟨C.FL l (fun _ => false), C.ML (fun _ => false)⟩) (hs : StepsOk c C l 0 (l.take m))
  (h1 : subE fin ⟨C.FL l (fun i => Nat.blt i m), C.ML (fun i => Nat.blt i m)⟩ = subX fin) (h2 : WL c l.toArray (l.drop m) fin N) : En c S (cwp (.region id l.toArray true) (PQ c N E R)) := fun a w ⟨g, hs', hok⟩ => by
 have hok1 : Ok' c S a w.drew g hs' := hok.grown (grown_drew w)
 have hL : LB (Array.replicate l.length false) = fun _ => false := by
  funext i
  unfold LB
  rw [Array.getD_eq_getD_getElem?, Array.getElem?_replicate]
  split <;> rfl
 refine Code.wp_mono (fun e a w q => ?_) (wp_region_any (Q := OnlyP c N) hm (anyT_ok (chk_of hk) hn hd (Nat.le_of_ble_eq_true hml) ht hs (fun a w h => h2 a w (sub_ok h1 a w h)) l.toArray.size _ a w.drew (by simp) ?_ ?_ ?_ ?_))
 ·cases e <;> first | exact q | exact (q : False).elim
 ·intro i hi
  simp only [List.size_toArray] at hi
  rw [hL] at hi
  cases hi
 ·intro i hi
  simp only [List.size_toArray] at hi
  rw [hL] at hi
  cases hi
 ·simp only [List.size_toArray, Array.toList_replicate]
  rw [List.filter_replicate_of_neg (by simp)]
  simp
 ·simp only [List.size_toArray]
  rw [hL]
  exact sub_ok h0 a w.drew ⟨g, hs', hok1⟩
end
end Go.Proofs.Ytobenjahlicnoaa
namespace Go.Proofs.Ytobenjahlicnoaa
open Go.RowKit Go.MapKept Go.ChangeMaps
set_option linter.unusedSimpArgs false
set_option linter.unusedVariables false
set_option maxRecDepth 100000
section
variable {κ α : Type} [DecidableEq κ]
end
section
variable {κ α : Type} [DecidableEq κ] {enc : κ → Value} {T : Ty α} {D : List (κ × α)} {es : Array MapEntry} {ck : Nat}
variable {c : Cfg} {S S1 : St} {n : Nat} {o : Oper} {ops : Array Oper} {rest L : List Oper} {N : Po}
omit [DecidableEq κ] in
theorem mt_nilBox {β : Type} {T : Ty β} {x : SC} {K : List Nat} {p ty : Nat} {cells : List At} (j : Nat) (h : MT c S o x K (some (p, .box cells ty false))) (hj : cells[j]? = some (.v (.slice none 0 0))) : MT c S o x K (some (p, .box (cells.set j (LS T ([] : List β))) ty false)) := fun a w g hs hk N Z hN =>
 h a w g hs hk N Z fun v w' g' h' h1 h2 h3 => hN v w' g' h' h1 h2 ⟨by
  obtain ⟨⟨b, cs, k1, k2, k3⟩, _⟩ := h3
  exact ⟨b, cs, k1, oks_nil j hj k2, k3⟩, h3.2⟩
end
end Go.Proofs.Ytobenjahlicnoaa
namespace Go.Proofs.Ytobenjahlicnoaa
open Go.RowKit Go.MapKept
set_option linter.unusedSimpArgs false
set_option linter.unusedVariables false
set_option maxRecDepth 100000
section
variable {c : Cfg} {S S1 : St} {tab : Tab}
end
abbrev gridI {α : Type} (tyo ty : Nat) (T : Ty α) (L : List (List α)) : Item := .grid tyo ty T.s (L.map fun l => some (rowR T l, l.length)) none
section
variable {c : Cfg} {S S1 : St} {a : Act} {w : World} {g : Gh} {hs : Nat → Value} {tab : Tab} {n : Nat} {o : Oper} {ops : Array Oper} {rest : List Oper} {N : Po}
theorem run_indexOwn {t el s e : Nat} {ti te : TI} {v iv : Value} {ik : IntKind} {k : Int} {m : Nat} {cs : List Value} (ht : tab.ok) (h1 : tab t = some ti) (h2 : ti.sl = some el) (h3 : tab el = some te) (h4 : te.size = s) (h5 : 0 < s)
  (hv : w.ownsAt e s v m cs) (hi : iv = .int ik k) (hk : 0 ≤ k ∧ k < (m : Int)) : ∃ b of cap, v = .slice (some ⟨b, of, none⟩) m cap ∧ (Instr.indexAt t v iv).run Try.prog w = .ok (.pointer (some ⟨b, of + k.toNat * s, none⟩)) w := by
 have hu := slT_some ((ht t ti h1).sl.trans h2)
 obtain ⟨hl0, r1⟩ := hv
 subst hi
 rcases r1 with ⟨e1, e2⟩ | ⟨gb, of, cap, cur, e1, _⟩
 ·omega
 ·refine ⟨gb, of, cap, e1, ?_⟩
  simp only [Instr.indexAt, asIntOf, e1, Sem.run_bind, Sem.run_pure, Result.andThen_ok, run_underlying hu, if_pos hk, (ht el te h3).run_size, h4, svs_add]
theorem own_cell {e s : Nat} {v : Value} {m : Nat} {cs : List Value} (hv : w.ownsAt e s v m cs) {b of cap q : Nat} (e1 : v = .slice (some ⟨b, of, none⟩) m cap) {k j : Nat} {u : Value} (hj : cs[k * s + j]? = some u) : w.cell? ((⟨b, of + k * s, none⟩ : Addr).add j) = some u := by
 obtain ⟨hl0, r1⟩ := hv
 rw [svs_add]
 rcases r1 with ⟨e3, _⟩ | ⟨gb, of', cap', cur, e3, e4, _, _, _, e5⟩
 ·rw [e1] at e3; cases e3
 ·rw [e1] at e3
  simp at e3
  obtain ⟨⟨rfl, rfl⟩, rfl⟩ := e3
  unfold World.cell?
  rw [e4]
  rw [← e5, List.getElem?_take] at hj
  split at hj
  ·rw [List.getElem?_drop] at hj
   simpa [Nat.add_assoc] using hj
  ·cases hj
theorem run_storeOwn {α : Type} {T : Ty α} {l : List α} {t e : Nat} {ti : TI} {v pv uv : Value} {k : Nat} {y : α} {cs : List Value} (htk : TI.ok t ti) (h2 : ti.size = T.s) (hT : T.solid) (r : w.ownsAt e T.s v l.length cs) (r2 : rowRead T l g cs) {b of nn cap : Nat} (e1 : v = .slice (some ⟨b, of, none⟩) nn cap) (e2 : pv = .pointer (some ⟨b, of + k * T.s, none⟩)) (hk : k < l.length)
  (hval0 : (T.sv y).ok g hs0 uv) (hz : (svCells (T.sv y)).length = T.s) : ∃ w', (Instr.storeAt t pv uv).run Try.prog w = .ok () w' ∧ w.grownBy w' (some b) ∧ ∃ cs', w'.ownsAt e T.s v l.length cs' ∧ rowRead T (l.set k y) g cs' := by
 obtain ⟨hl0, r1⟩ := r
 have hcells := sv_cells (hT y) hval0
 have hlen : uv.cells.toList.length = T.s := by rw [← oks_length hcells]; exact hz
 rcases r1 with ⟨e3, e4⟩ | ⟨gb, of', cap', cur, e3, e4, e5, e6, e7, e8⟩
 ·omega
 ·rw [e1] at e3
  simp at e3
  obtain ⟨⟨rfl, rfl⟩, rfl, rfl⟩ := e3
  have hkl : k * T.s + T.s ≤ l.length * T.s := by rw [← Nat.succ_mul]; exact Nat.mul_le_mul_right _ hk
  have hlc : of + l.length * T.s ≤ cur.size := Nat.le_trans (Nat.add_le_add_left (Nat.mul_le_mul_right _ e5) _) e7
  have hst := run_storeCells_at (P := Try.prog) b (of + k * T.s) e uv.cells.toList 0 cur w e4 (by rw [hlen, Nat.add_zero, Nat.add_assoc]; exact Nat.le_trans (Nat.add_le_add_left hkl _) hlc) (fun u hu => (oks_cells hcells u hu).one)
  simp only [Nat.add_zero] at hst
  refine ⟨w.setRow b (cur.toList.take (of + k * T.s) ++ uv.cells.toList ++ cur.toList.drop (of + k * T.s + uv.cells.toList.length)).toArray, ?_, ?_, ?_⟩
  ·simp only [Instr.storeAt, e2, Instr.sureAddr, storeVar, Sem.run_bind, Sem.run_pure, Result.andThen_ok, htk.run_size]
   rw [if_neg (by rw [h2]; simp at hlen; simp [hlen])]
   simp only [hst, Result.andThen_ok, Sem.run_pure]
  ·exact ⟨rfl, rfl, rfl, by simp, fun q hq hne => setRow_other w b q _ (fun e => hne (by rw [e]))⟩
  ·have hset := r2.set hk hval0 (by rw [← hlen]; simp)
   refine ⟨_, ⟨by have := hset.length; rw [List.length_set] at this; exact this, .inr ⟨b, of, cap, _, by rw [e1], setRow_heap w b _ _ _ _ e4, e5, e6, ?_, ?_⟩⟩, hset⟩
   ·simp only [List.size_toArray, List.length_append, List.length_take, List.length_drop, Array.length_toList] at hlen ⊢
    omega
   ·show (List.drop of (_ ++ uv.cells.toList ++ _)).take _ = _
    rw [drop_seg _ _ (by rw [Array.length_toList]; exact Nat.le_trans (Nat.add_le_add_left (Nat.le_trans (Nat.le_add_right _ _) hkl) _) hlc), ← e8, hlen]
    exact seg_take (cur.toList.drop of) uv.cells.toList (k * T.s) T.s (l.length * T.s) hlen hkl (by rw [List.length_drop, Array.length_toList]; exact Nat.le_sub_of_add_le (by rw [Nat.add_comm]; exact hlc))
end
section
variable {g : Gh} {hs : Nat → Value} {i : Nat} {b : At}
end
section
variable {c : Cfg} {S S1 : St} {a : Act} {w : World} {g : Gh} {hs : Nat → Value} {tab : Tab} {n : Nat} {o : Oper} {ops : Array Oper} {rest L : List Oper} {N : Po}
theorem own_slice {e : TypeId} {s m : Nat} {v : Value} {cs : List Value} (h : w.ownsAt e s v m cs) : ∃ ao cap, v = .slice ao m cap := by
 obtain ⟨_, h⟩ := h
 rcases h with ⟨rfl, rfl⟩ | ⟨gb, of, cap, cur, rfl, _⟩
 ·exact ⟨none, 0, rfl⟩
 ·exact ⟨_, cap, rfl⟩
def nilT : Ty Unit := ⟨1, fun _ => .one (.v (.slice none 0 0))⟩
theorem nil_cells {k : Nat} {cs : List Value} (h : rowRead nilT (List.replicate k ()) g cs) : cs = List.replicate k (.slice none 0 0) := by
 obtain ⟨us, rfl, h2, h3⟩ := h
 have hu : ∀ u ∈ us, u = .slice none 0 0 := fun u hu => by
  obtain ⟨q, hq⟩ := List.mem_iff_getElem?.1 hu
  have hlt := (List.getElem?_eq_some_iff.1 hq).1
  rw [h2, List.length_replicate] at hlt
  exact (h3 q u () hq (by simp [hlt])).1.1
 have e : us = List.replicate k (.slice none 0 0) := List.eq_replicate_iff.2 ⟨by rw [h2, List.length_replicate], hu⟩
 subst e
 clear hu h2 h3
 induction k with
 | zero => rfl
 | succ k ih =>
  rw [List.replicate_succ, List.flatMap_cons, ih]
  rfl
end
def At.keepG (i j : Nat) : At → Bool
 | .gs k q => !(Nat.beq k j) && (!(Nat.beq k i) || Nat.beq q 0)
 | .ge k q _ _ => !(Nat.beq k j) && (!(Nat.beq k i) || Nat.beq q 0)
 | a => a.refs.all fun k => !(Nat.beq k j) && !(Nat.beq k i)
def SV.keepG (i j : Nat) : SV → Bool
 | .one a => a.keepG i j
 | .agg l => l.all (·.keepG i j)
def SC.keepG (i j : Nat) : SC → Bool
 | .sv s => s.keepG i j
 | .tup l => l.all (·.keepG i j)
def Item.keepG (i j : Nat) : Item → Bool
 | .box cells _ _ => cells.all (·.keepG i j)
 | .iter k _ => !(Nat.beq k j) && !(Nat.beq k i)
 | .grid _ _ _ _ (some (_, k)) => !(Nat.beq k j) && !(Nat.beq k i)
 | _ => true
def dropG (i j : Nat) (F : List (Nat × SC)) : List (Nat × SC) := F.filter fun e => e.2.keepG i j
theorem beq_ne {a b : Nat} (h : (!(Nat.beq a b)) = true) : a ≠ b := fun e => by subst e; simp at h
section
variable {g : Gh} {hs hs' : Nat → Value} {i j : Nat}
theorem At.keepG_ok (h0 : gpart (hs' i) 0 = gpart (hs i) 0) (h1 : ∀ k, k ≠ i → k ≠ j → hs' k = hs k) {a : At} {u : Value} (hk : a.keepG i j = true) (h : a.ok g hs u) : a.ok g hs' u := by
 have gen : ∀ a : At, (a.refs.all fun k => !(Nat.beq k j) && !(Nat.beq k i)) = true → a.ok g hs u → a.ok g hs' u := fun a hk h => At.ok_hs (fun k hk' => by
  have := List.all_eq_true.1 hk k hk'
  rw [Bool.and_eq_true] at this
  exact h1 k (beq_ne this.2) (beq_ne this.1)) h
 have gp : ∀ k q, (!(Nat.beq k j) && (!(Nat.beq k i) || Nat.beq q 0)) = true → gpart (hs' k) q = gpart (hs k) q := fun k q hk => by
  rw [Bool.and_eq_true, Bool.or_eq_true] at hk
  by_cases e : k = i
  ·subst e
   rcases hk.2 with h2 | h2
   ·exact absurd rfl (beq_ne h2)
   ·have := Nat.eq_of_beq_eq_true h2
    subst this
    exact h0
  ·rw [h1 k e (beq_ne hk.1)]
 cases a with
 | gs k q =>
  obtain ⟨h2, h3⟩ := h
  refine ⟨?_, h3⟩
  show u = gpart (hs' k) q
  rw [gp k q hk]
  exact h2
 | ge k q m s =>
  obtain ⟨⟨b, o, n, cap, h2, h3⟩, h4⟩ := h
  exact ⟨⟨b, o, n, cap, by rw [gp k q hk]; exact h2, h3⟩, h4⟩
 | _ => exact gen _ hk h
theorem oks_keepG (h0 : gpart (hs' i) 0 = gpart (hs i) 0) (h1 : ∀ k, k ≠ i → k ≠ j → hs' k = hs k) : ∀ {l : List At} {us : List Value}, l.all (·.keepG i j) = true → oks g hs l us → oks g hs' l us
 | [], [], _, _ => trivial
 | [], _ :: _, _, h => h.elim
 | _ :: _, [], _, h => h.elim
 | _ :: _, _ :: _, hk, h => by
  rw [List.all_cons, Bool.and_eq_true] at hk
  exact ⟨At.keepG_ok h0 h1 hk.1 h.1, h.2.1, oks_keepG h0 h1 hk.2 h.2.2⟩
theorem SV.keepG_ok (h0 : gpart (hs' i) 0 = gpart (hs i) 0) (h1 : ∀ k, k ≠ i → k ≠ j → hs' k = hs k) {a : SV} {u : Value} (hk : a.keepG i j = true) (h : a.ok g hs u) : a.ok g hs' u := by
 cases a with
 | one a => exact At.keepG_ok h0 h1 hk h
 | agg l =>
  obtain ⟨cs, h2, h3⟩ := h
  exact ⟨cs, h2, oks_keepG h0 h1 hk h3⟩
theorem svs_keepG (h0 : gpart (hs' i) 0 = gpart (hs i) 0) (h1 : ∀ k, k ≠ i → k ≠ j → hs' k = hs k) : ∀ {l : List SV} {us : List Value}, l.all (·.keepG i j) = true → SV.oks g hs l us → SV.oks g hs' l us
 | [], [], _, _ => trivial
 | [], _ :: _, _, h => h.elim
 | _ :: _, [], _, h => h.elim
 | _ :: _, _ :: _, hk, h => by
  rw [List.all_cons, Bool.and_eq_true] at hk
  exact ⟨SV.keepG_ok h0 h1 hk.1 h.1, svs_keepG h0 h1 hk.2 h.2⟩
theorem SC.keepG_ok (h0 : gpart (hs' i) 0 = gpart (hs i) 0) (h1 : ∀ k, k ≠ i → k ≠ j → hs' k = hs k) {a : SC} {u : Value} (hk : a.keepG i j = true) (h : a.ok g hs u) : a.ok g hs' u := by
 cases a with
 | sv s => exact SV.keepG_ok h0 h1 hk h
 | tup l =>
  obtain ⟨us, h2, h3⟩ := h
  exact ⟨us, h2, svs_keepG h0 h1 hk h3⟩
theorem Item.keepG_ok (h0 : gpart (hs' i) 0 = gpart (hs i) 0) (h1 : ∀ k, k ≠ i → k ≠ j → hs' k = hs k) {w : World} {x : Value} {it : Item} (hk : it.keepG i j = true) (h : it.ok g hs w x) : it.ok g hs' w x := by
 cases it with
 | box cells ty fz =>
  obtain ⟨b, cs, h2, h3, h4⟩ := h
  exact ⟨b, cs, h2, oks_keepG h0 h1 hk h3, h4⟩
 | iter k r =>
  obtain ⟨rb, m, clock, seen, h2, h3, h4⟩ := h
  rw [Item.keepG, Bool.and_eq_true] at hk
  exact ⟨rb, m, clock, seen, h2, (h1 k (beq_ne hk.2) (beq_ne hk.1)).trans h3, h4⟩
 | grid tyo ty s rows link =>
  obtain ⟨us, ocs, u1, u2, u3, u4, u5, u6, u7, u8⟩ := h
  refine ⟨us, ocs, u1, u2, u3, u4, u5, u6, fun p k hl => ?_, u8⟩
  subst hl
  rw [Item.keepG, Bool.and_eq_true] at hk
  rw [h1 k (beq_ne hk.2) (beq_ne hk.1)]
  exact u7 p k rfl
 | _ => exact h
end
def rawT : Ty Value := ⟨1, fun v => .one (.v v)⟩
theorem rawT_solid : rawT.solid := fun a e => by cases e
theorem raw_cells {g : Gh} {l cs : List Value} (h : rowRead rawT l g cs) : cs = l := by
 obtain ⟨us, rfl, h2, h3⟩ := h
 induction us generalizing l with
 | nil => cases l with
  | nil => rfl
  | cons _ _ => simp at h2
 | cons u us ih =>
  cases l with
  | nil => simp at h2
  | cons v l =>
   obtain ⟨⟨h4, h5⟩, _⟩ := h3 0 u v rfl rfl
   have h4 : u = v := h4
   subst h4
   rw [List.flatMap_cons, cellV.cells h5, ih (by simpa using h2) fun q x y hx hy => h3 (q + 1) x y (by simpa using hx) (by simpa using hy)]
   rfl
theorem raw_read {g : Gh} {l : List Value} (h : ∀ u ∈ l, ∃ ao m cap, u = .slice ao m cap) : rowRead rawT l g l := by
 have hc : ∀ u ∈ l, cellV u := fun u hu => by obtain ⟨_, _, _, rfl⟩ := h u hu; trivial
 clear h
 refine ⟨l, ?_, rfl, fun q u v hu hv => ?_⟩
 ·induction l with
  | nil => rfl
  | cons u l ih =>
   rw [List.flatMap_cons, cellV.cells (hc u List.mem_cons_self), ← ih fun x hx => hc x (List.mem_cons_of_mem _ hx)]
   rfl
 ·rw [hu] at hv
  cases hv
  have h1 := hc u (List.mem_of_getElem? hu)
  exact ⟨⟨rfl, h1⟩, by rw [cellV.cells h1]; rfl⟩
theorem gpart_set_same {us : List Value} {k : Nat} {v : Value} (h : k < us.length) : gpart (.tuple (us.set k v).toArray) k = v := by
 show (us.set k v).getD k undef = v
 simp [h]
theorem gpart_set_ne {us : List Value} {k q : Nat} {v : Value} (h : q ≠ k) : gpart (.tuple (us.set k v).toArray) q = gpart (.tuple us.toArray) q := by
 show (us.set k v).getD q undef = us.getD q undef
 simp [List.getD_eq_getElem?_getD, List.getElem?_set, Ne.symm h]
theorem Blk_set {us : List Value} {k b : Nat} {v : Value} (h : Blk (.tuple (us.set k v).toArray) b) : Blk (.tuple us.toArray) b ∨ blk v = some b := by
 obtain ⟨u, hu, e⟩ := h
 rcases List.mem_or_eq_of_mem_set hu with h1 | h1
 ·exact .inl ⟨u, h1, e⟩
 ·exact .inr (h1 ▸ e)
section
variable {c : Cfg} {S S1 : St} {a : Act} {w : World} {g : Gh} {hs : Nat → Value} {tab : Tab} {n : Nat} {o : Oper} {ops : Array Oper} {rest : List Oper} {N : Po}
theorem Ok'.putG (h : Ok' c S a w g hs) {i j p tyo ty s m : Nat} {rows : List (Option (Rl (List Value) × Nat))} {link : Option (Nat × Nat)} {r : Rl (List Value)} (hm : S.M[i]? = some (.grid tyo ty s rows link)) (hj : S.M[j]? = some (.row ty s r m)) (hp : p < rows.length)
  {b of nn cap : Nat} (e1 : gpart (hs i) 0 = .slice (some ⟨b, of, none⟩) nn cap) {t : Nat} {ti : TI} (htk : TI.ok t ti) (hts : ti.size = 1) (hkM : S.M.all (·.keepG i j) = true) :
  ∃ w' hs', (Instr.storeAt t (.pointer (some ⟨b, of + p * 1, none⟩)) (hs j)).run Try.prog w = .ok () w' ∧ Ok' c ⟨dropG i j S.F, (S.M.set i (.grid tyo ty s (rows.set p (some (r, m))) none)).set j .gone⟩ a w' g hs' := by
 have hij : i ≠ j := fun e => by subst e; rw [hm] at hj; cases hj
 have hit := h.items i _ hm
 obtain ⟨csj, hcj, hrj⟩ := h.items j _ hj
 obtain ⟨us, ocs, u1, u2, u3, u3', u4, u4', uk, u5⟩ := hit
 have hlo : ocs.length = rows.length := by have := u3.1; omega
 have hslj := own_slice hcj
 have hcvj : cellV (hs j) := by obtain ⟨_, _, e⟩ := hslj; rw [e]; trivial
 have hcj1 := cellV.cells hcvj
 rw [← hlo] at u3
 obtain ⟨w', k1, k2, cs', k3, k4⟩ := run_storeOwn (T := rawT) (l := ocs) (y := hs j) (k := p) (g := g) (t := t) (nn := nn) (cap := cap) (pv := .pointer (some ⟨b, of + p * 1, none⟩)) htk (by rw [hts]; rfl) rawT_solid u3 (raw_read u3') e1 rfl (by omega) ⟨rfl, hcvj⟩ rfl
 have := raw_cells k4
 subst this
 have hbi : Blk (hs i) b := Blk.part u1 (k := 0) (by omega) (by rw [e1]; rfl)
 have hl0 : p + 1 < us.length := by omega
 let hs' : Nat → Value := fun k => if k = i then .tuple (us.set (p + 1) (hs j)).toArray else hs k
 have hsi : hs' i = .tuple (us.set (p + 1) (hs j)).toArray := if_pos rfl
 have hsk : ∀ k, k ≠ i → hs' k = hs k := fun k hk => if_neg hk
 have hg0 : gpart (hs' i) 0 = gpart (hs i) 0 := by rw [hsi, gpart_set_ne (by omega), u1]
 have hgp : gpart (hs' i) (p + 1) = hs j := by rw [hsi, gpart_set_same hl0]
 have hgq : ∀ q, q ≠ p + 1 → gpart (hs' i) q = gpart (hs i) q := fun q hq => by rw [hsi, gpart_set_ne hq, u1]
 have hbj : ∀ b', blk (hs j) = some b' → ¬ Blk (hs i) b' := fun b' e => h.sep j i _ _ (Ne.symm hij) hj hm rfl (by simp) b' (Blk.of e)
 have hbs : ∀ b', Blk (hs' i) b' → Blk (hs i) b' ∨ blk (hs j) = some b' := fun b' hb => by
  rw [hsi] at hb
  rw [u1]
  exact Blk_set hb
 have hne : ∀ q, q < us.length → q ≠ 0 → (gpart (hs i) q).ownBlock = none ∨ (gpart (hs i) q).ownBlock ≠ some b := fun q hq hq0 => by
  cases hb : (gpart (hs i) q).ownBlock with
  | none => exact .inl rfl
  | some b' => exact .inr (fun e => by cases e; exact u5 0 q b (by omega) hq (fun e => hq0 e.symm) (by rw [e1]; rfl) (ownBlock_blk' hb))
 have hset : ∀ (k : Nat) (kt : Item), (((S.M.set i (.grid tyo ty s (rows.set p (some (r, m))) none)).set j .gone))[k]? = some kt → kt ≠ .gone → (k = i ∧ kt = .grid tyo ty s (rows.set p (some (r, m))) none) ∨ (k ≠ i ∧ k ≠ j ∧ S.M[k]? = some kt) := fun k kt hk hn => by
  rw [List.getElem?_set] at hk
  by_cases ej : j = k
  ·rw [if_pos ej] at hk
   split at hk
   ·simp at hk; exact absurd hk.symm hn
   ·cases hk
  ·rw [if_neg ej, List.getElem?_set] at hk
   by_cases ei : i = k
   ·rw [if_pos ei] at hk
    split at hk
    ·simp at hk; exact .inl ⟨ei.symm, hk.symm⟩
    ·cases hk
   ·rw [if_neg ei] at hk
    exact .inr ⟨Ne.symm ei, Ne.symm ej, hk⟩
 refine ⟨w', hs', k1, h.size, h.defers, h.base.kept k2 (fun b' e => by cases e; exact (h.mine i _ hm (by simp) b hbi).2 rfl), fun t x hx => ?_, fun k kt hk => ?_, fun k l kt lt hkl hk hl hf hn b' hb => ?_, fun k kt hk hn b' hb => ?_⟩
 ·obtain ⟨hx1, hx2⟩ := List.mem_filter.1 hx
  exact SC.keepG_ok hg0 (fun k hk _ => hsk k hk) hx2 (h.slots t x hx1)
 ·by_cases hn : kt = .gone
  ·subst hn; trivial
  ·rcases hset k kt hk hn with ⟨rfl, rfl⟩ | ⟨h1, h2, h3⟩
   ·refine ⟨us.set (p + 1) (hs j), ocs.set p (hs j), hsi, by simp [u2], ?_, fun u hu => ?_, fun q r' n' hq => ?_, fun q hq => ?_, (fun p k e => by cases e), fun q q' b' hq hq' hqq hb1 hb2 => ?_⟩
    ·rw [hg0, List.length_set, ← hlo]
     exact k3
    ·rcases List.mem_or_eq_of_mem_set hu with hu | hu
     ·exact u3' u hu
     ·obtain ⟨ao, cp, e⟩ := hslj
      exact ⟨ao, m, cp, hu.trans e⟩
    ·rw [List.getElem?_set] at hq
     by_cases e : p = q
     ·subst e
      rw [if_pos rfl, if_pos hp] at hq
      simp only [Option.some.injEq, Prod.mk.injEq] at hq
      obtain ⟨rfl, rfl⟩ := hq
      rw [hgp]
      refine ⟨by rw [List.getElem?_set_self (by omega)], csj, hcj.kept k2 ?_, hrj⟩
      cases hb : (hs j).ownBlock with
      | none => exact .inl rfl
      | some b' => exact .inr (fun e => by cases e; exact hbj b (ownBlock_blk' hb) hbi)
     ·rw [if_neg e] at hq
      have hql := (List.getElem?_eq_some_iff.1 hq).1
      obtain ⟨k5, cs2, k6, k7⟩ := u4 q r' n' hq
      rw [hgq (q + 1) (by omega)]
      exact ⟨by rw [List.getElem?_set_ne e]; exact k5, cs2, k6.kept k2 (hne (q + 1) (by omega) (by omega)), k7⟩
    ·rw [List.getElem?_set] at hq
     by_cases e : p = q
     ·rw [if_pos e] at hq
      split at hq <;> simp at hq
     ·rw [if_neg e] at hq
      rw [hgq (q + 1) (by omega)]
      exact u4' q hq
    ·rw [List.length_set] at hq hq'
     by_cases e : q = p + 1
     ·subst e
      rw [hgp] at hb1
      rw [hgq q' (Ne.symm hqq)] at hb2
      exact hbj b' hb1 (Blk.part u1 hq' hb2)
     ·rw [hgq q e] at hb1
      by_cases e' : q' = p + 1
      ·subst e'
       rw [hgp] at hb2
       exact hbj b' hb2 (Blk.part u1 hq hb1)
      ·rw [hgq q' e'] at hb2
       exact u5 q q' b' hq hq' hqq hb1 hb2
   ·rw [hsk k h1]
    refine Item.keepG_ok hg0 (fun k hk _ => hsk k hk) (List.all_eq_true.1 hkM kt (List.mem_of_getElem? h3)) ?_
    exact Item.kept k2 (h := h.items k kt h3) fun b' hb => ⟨(h.mine k kt h3 hn b' hb).1, fun e => by cases e; exact h.sep i k _ kt (Ne.symm h1) hm h3 rfl hn b hbi hb⟩
 ·rcases hset k kt hk (fz_gone hf) with ⟨rfl, rfl⟩ | ⟨h1, h2, h3⟩
  ·rcases hset l lt hl hn with ⟨rfl, rfl⟩ | ⟨l1, l2, l3⟩
   ·exact absurd rfl hkl
   ·rw [hsk l l1]
    rcases hbs b' hb with h4 | h4
    ·exact h.sep k l _ lt hkl hm l3 rfl hn b' h4
    ·exact h.sep j l _ lt (Ne.symm l2) hj l3 rfl hn b' (Blk.of h4)
  ·rw [hsk k h1] at hb
   rcases hset l lt hl hn with ⟨rfl, rfl⟩ | ⟨l1, l2, l3⟩
   ·intro hb2
    rcases hbs b' hb2 with h4 | h4
    ·exact h.sep k l kt _ hkl h3 hm hf (by simp) b' hb h4
    ·exact h.sep k j kt _ h2 h3 hj hf (by simp) b' hb (Blk.of h4)
   ·rw [hsk l l1]
    exact h.sep k l kt lt hkl h3 l3 hf hn b' hb
 ·rcases hset k kt hk hn with ⟨rfl, rfl⟩ | ⟨h1, h2, h3⟩
  ·rcases hbs b' hb with h4 | h4
   ·obtain ⟨m1, m2⟩ := h.mine k _ hm (by simp) b' h4
    exact ⟨Nat.lt_of_lt_of_le m1 k2.size, fun _ => m2 rfl⟩
   ·obtain ⟨m1, m2⟩ := h.mine j _ hj (by simp) b' (Blk.of h4)
    exact ⟨Nat.lt_of_lt_of_le m1 k2.size, fun _ => m2 rfl⟩
  ·rw [hsk k h1] at hb
   obtain ⟨m1, m2⟩ := h.mine k kt h3 hn b' hb
   exact ⟨Nat.lt_of_lt_of_le m1 k2.size, m2⟩
abbrev gridH {α : Type} (tyo ty : Nat) (T : Ty α) (L : List (List α)) (p : Nat) (link : Option (Nat × Nat)) : Item := .grid tyo ty T.s ((L.map fun l => some (rowR T l, l.length)).set p none) link
theorem WL.putG0 {i j p tyo ty s m t : Nat} {rows : List (Option (Rl (List Value) × Nat))} {link : Option (Nat × Nat)} {r : Rl (List Value)} {ti : TI} {x v : Operand} {S1 : St} (ht : tab.ok) (hn : c.n = n) (hw : wantE ops S.F o = some true) (ho : o.op = .store t x v) (h1 : tab t = some ti) (h2 : ti.size = 1)
  (hx : evX S.F x = some (.sv (.one (.ge i 0 p 1)))) (hv : evX S.F v = some (.sv (.one (.own j)))) (hm : S.M[i]? = some (.grid tyo ty s rows link)) (hj : S.M[j]? = some (.row ty s r m)) (hp : p < rows.length) (hkM : S.M.all (·.keepG i j) = true)
  (e : putE n o.dst (.tup []) ⟨dropG i j S.F, (S.M.set i (.grid tyo ty s (rows.set p (some (r, m))) none)).set j .gone⟩ = some S1) (h : WL c ops rest S1 N) : WL c ops (o :: rest) S N := fun a w ⟨g, hs, hh⟩ => by
 unfold wpList
 rw [if_pos (wantE_ok hh hw)]
 refine .inl ?_
 unfold Oper.wp
 obtain ⟨⟨b, of, nn, cap, e1, e2⟩, _⟩ := evX_ok hh hx
 have hvj : a.eval v = hs j := (evX_ok hh hv).1
 obtain ⟨w', hs', k1, k2⟩ := hh.putG hm hj hp e1 (ht t ti h1) h2 hkM
 have hrun : (execOp a.eval o).run Try.prog w = .ok .skip w' := by
  have : execOp a.eval o = (do Instr.storeAt t (a.eval x) (a.eval v); pure .skip : Sem Next) := by unfold execOp; rw [ho]
  rw [this, e2, hvj]
  simp only [Sem.run_bind, k1, Result.andThen_ok, Sem.run_pure]
 rw [hrun]
 exact h _ _ ⟨g, hs', putE_ok k2 hn undef_ok e⟩
theorem gridI_set {α : Type} {T : Ty α} {L : List (List α)} {l : List α} {p : Nat} : (L.map fun l => some (rowR T l, l.length)).set p (some (rowR T l, l.length)) = ((L.set p l).map fun l => some (rowR T l, l.length)) := by
 rw [List.map_set]
theorem WL.putGH {α : Type} {T : Ty α} {L : List (List α)} {l : List α} {link : Option (Nat × Nat)} {i j p tyo ty t : Nat} {ti : TI} {x v : Operand} {S1 : St} (ht : tab.ok) (hn : c.n = n) (hw : wantE ops S.F o = some true) (ho : o.op = .store t x v) (h1 : tab t = some ti) (h2 : ti.size = 1)
  (hx : evX S.F x = some (.sv (.one (.ge i 0 p 1)))) (hv : evX S.F v = some (.sv (.one (.own j)))) (hm : S.M[i]? = some (gridH tyo ty T L p link)) (hj : S.M[j]? = some (rowI ty T l)) (hp : p < L.length) (hkM : S.M.all (·.keepG i j) = true)
  (e : putE n o.dst (.tup []) ⟨dropG i j S.F, (S.M.set i (gridI tyo ty T (L.set p l))).set j .gone⟩ = some S1) (h : WL c ops rest S1 N) : WL c ops (o :: rest) S N :=
 WL.putG0 ht hn hw ho h1 h2 hx hv hm hj (by rw [List.length_set, List.length_map]; exact hp) hkM (by rw [List.set_set, gridI_set]; exact e) h
theorem Ok'.takeG {i p tyo ty s m : Nat} {rows : List (Option (Rl (List Value) × Nat))} {link : Option (Nat × Nat)} {r : Rl (List Value)} (h : Ok' c S a w g hs) (hm : S.M[i]? = some (.grid tyo ty s rows link)) (hp : rows[p]? = some (some (r, m))) (hkM : S.M.all (·.keepG i S.M.length) = true) :
  ∃ hs', hs' S.M.length = gpart (hs i) (p + 1) ∧ Ok' c ⟨dropG i S.M.length S.F, S.M.set i (.grid tyo ty s (rows.set p none) (some (p, S.M.length))) ++ [.row ty s r m]⟩ a w g hs' := by
 have hil : i < S.M.length := (List.getElem?_eq_some_iff.1 hm).1
 have hpl : p < rows.length := (List.getElem?_eq_some_iff.1 hp).1
 have hit := h.items i _ hm
 obtain ⟨us, ocs, u1, u2, u3, u3', u4, u4', uk, u5⟩ := hit
 obtain ⟨q1, csj, q2, q3⟩ := u4 p r m hp
 have hslj := own_slice q2
 have hl0 : p + 1 < us.length := by omega
 let hs' : Nat → Value := fun k => if k = i then .tuple (us.set (p + 1) (.slice none 0 0)).toArray else if k = S.M.length then gpart (hs i) (p + 1) else hs k
 have hsi : hs' i = .tuple (us.set (p + 1) (.slice none 0 0)).toArray := if_pos rfl
 have hsj : hs' S.M.length = gpart (hs i) (p + 1) := by
  show (if S.M.length = i then _ else if S.M.length = S.M.length then _ else _) = _
  rw [if_neg (by omega), if_pos rfl]
 have hsk : ∀ k, k ≠ i → k ≠ S.M.length → hs' k = hs k := fun k h1 h2 => by
  show (if k = i then _ else if k = S.M.length then _ else hs k) = _
  rw [if_neg h1, if_neg h2]
 have hg0 : gpart (hs' i) 0 = gpart (hs i) 0 := by rw [hsi, gpart_set_ne (by omega), u1]
 have hgp : gpart (hs' i) (p + 1) = .slice none 0 0 := by rw [hsi, gpart_set_same hl0]
 have hgq : ∀ q, q ≠ p + 1 → gpart (hs' i) q = gpart (hs i) q := fun q hq => by rw [hsi, gpart_set_ne hq, u1]
 have hbs : ∀ b', Blk (hs' i) b' → Blk (hs i) b' ∧ blk (gpart (hs i) (p + 1)) ≠ some b' := fun b' hb => by
  rw [hsi] at hb
  obtain ⟨u, hu, e⟩ := hb
  obtain ⟨q, hq⟩ := List.mem_iff_getElem?.1 hu
  have hql := (List.getElem?_eq_some_iff.1 hq).1
  rw [List.length_set] at hql
  by_cases eq : q = p + 1
  ·subst eq
   rw [List.getElem?_set_self hl0] at hq
   simp at hq
   rw [← hq] at e
   cases e
  ·rw [List.getElem?_set_ne (Ne.symm eq)] at hq
   have hgu : gpart (hs i) q = u := by
    rw [u1]
    show us.getD q undef = u
    rw [List.getD_eq_getElem?_getD, hq]
    rfl
   exact ⟨Blk.part u1 hql (by rw [hgu]; exact e), fun e2 => u5 q (p + 1) b' hql hl0 eq (by rw [hgu]; exact e) e2⟩
 have hbj : ∀ b', Blk (hs' S.M.length) b' → blk (gpart (hs i) (p + 1)) = some b' := fun b' hb => by
  rw [hsj] at hb
  obtain ⟨ao, cp, e⟩ := hslj
  rw [e] at hb ⊢
  exact hb
 have hbj2 : ∀ b', blk (gpart (hs i) (p + 1)) = some b' → Blk (hs i) b' := fun b' e => Blk.part u1 hl0 e
 have hset : ∀ (k : Nat) (kt : Item), (S.M.set i (.grid tyo ty s (rows.set p none) (some (p, S.M.length))) ++ [.row ty s r m])[k]? = some kt → (k = i ∧ kt = .grid tyo ty s (rows.set p none) (some (p, S.M.length))) ∨ (k = S.M.length ∧ kt = .row ty s r m) ∨ (k ≠ i ∧ k ≠ S.M.length ∧ S.M[k]? = some kt) := fun k kt hk => by
  rw [List.getElem?_append, List.length_set] at hk
  split at hk
  ·rename_i hlt
   rw [List.getElem?_set] at hk
   by_cases ei : i = k
   ·rw [if_pos ei, if_pos hil] at hk
    simp at hk
    exact .inl ⟨ei.symm, hk.symm⟩
   ·rw [if_neg ei] at hk
    exact .inr (.inr ⟨Ne.symm ei, by omega, hk⟩)
  ·by_cases e2 : k = S.M.length
   ·subst e2
    simp at hk
    exact .inr (.inl ⟨rfl, hk.symm⟩)
   ·rw [List.getElem?_eq_none (by simp; omega)] at hk
    cases hk
 refine ⟨hs', hsj, h.size, h.defers, h.base, fun t x hx => ?_, fun k kt hk => ?_, fun k l kt lt hkl hk hl hf hn b' hb => ?_, fun k kt hk hn b' hb => ?_⟩
 ·obtain ⟨hx1, hx2⟩ := List.mem_filter.1 hx
  exact SC.keepG_ok hg0 hsk hx2 (h.slots t x hx1)
 ·rcases hset k kt hk with ⟨rfl, rfl⟩ | ⟨rfl, rfl⟩ | ⟨h1, h2, h3⟩
  ·refine ⟨us.set (p + 1) (.slice none 0 0), ocs, hsi, by simp [u2], by rw [hg0, List.length_set]; exact u3, u3', fun q r' n' hq => ?_, fun q hq => ?_, (fun p' k e => by cases e; rw [hsj]; exact q1), fun q q' b' hq hq' hqq hb1 hb2 => ?_⟩
   ·rw [List.getElem?_set] at hq
    by_cases e : p = q
    ·rw [if_pos e] at hq
     split at hq <;> simp at hq
    ·rw [if_neg e] at hq
     rw [hgq (q + 1) (by omega)]
     exact u4 q r' n' hq
   ·rw [List.getElem?_set] at hq
    by_cases e : p = q
    ·subst e
     exact hgp
    ·rw [if_neg e] at hq
     rw [hgq (q + 1) (by omega)]
     exact u4' q hq
   ·rw [List.length_set] at hq hq'
    by_cases e : q = p + 1
    ·subst e
     rw [hgp] at hb1
     cases hb1
    ·rw [hgq q e] at hb1
     by_cases e' : q' = p + 1
     ·subst e'
      rw [hgp] at hb2
      cases hb2
     ·rw [hgq q' e'] at hb2
      exact u5 q q' b' hq hq' hqq hb1 hb2
  ·rw [hsj]
   exact ⟨csj, q2, q3⟩
  ·by_cases hn : kt = .gone
   ·subst hn; trivial
   ·rw [hsk k h1 h2]
    exact Item.keepG_ok hg0 hsk (List.all_eq_true.1 hkM kt (List.mem_of_getElem? h3)) (h.items k kt h3)
 ·rcases hset k kt hk with ⟨rfl, rfl⟩ | ⟨rfl, rfl⟩ | ⟨h1, h2, h3⟩
  ·obtain ⟨hb1, hb2⟩ := hbs b' hb
   rcases hset l lt hl with ⟨rfl, rfl⟩ | ⟨rfl, rfl⟩ | ⟨l1, l2, l3⟩
   ·exact absurd rfl hkl
   ·exact fun e => hb2 (hbj b' e)
   ·rw [hsk l l1 l2]
    exact h.sep k l _ lt hkl hm l3 rfl hn b' hb1
  ·have hb1 := hbj b' hb
   rcases hset l lt hl with ⟨rfl, rfl⟩ | ⟨rfl, rfl⟩ | ⟨l1, l2, l3⟩
   ·exact fun e => (hbs b' e).2 hb1
   ·exact absurd rfl hkl
   ·rw [hsk l l1 l2]
    exact h.sep i l _ lt (Ne.symm l1) hm l3 rfl hn b' (hbj2 b' hb1)
  ·rw [hsk k h1 h2] at hb
   rcases hset l lt hl with ⟨rfl, rfl⟩ | ⟨rfl, rfl⟩ | ⟨l1, l2, l3⟩
   ·exact fun e => h.sep k l kt _ hkl h3 hm hf (by simp) b' hb (hbs b' e).1
   ·exact fun e => h.sep k i kt _ h1 h3 hm hf (by simp) b' hb (hbj2 b' (hbj b' e))
   ·rw [hsk l l1 l2]
    exact h.sep k l kt lt hkl h3 l3 hf hn b' hb
 ·rcases hset k kt hk with ⟨rfl, rfl⟩ | ⟨rfl, rfl⟩ | ⟨h1, h2, h3⟩
  ·exact h.mine k _ hm (by simp) b' (hbs b' hb).1
  ·exact h.mine i _ hm (by simp) b' (hbj2 b' (hbj b' hb))
  ·rw [hsk k h1 h2] at hb
   exact h.mine k kt h3 hn b' hb
theorem En.takeGL {α : Type} {T : Ty α} {L : List (List α)} {l : List α} {i p tyo ty j : Nat} (hm : S.M[i]? = some (gridI tyo ty T L)) (hp : L[p]? = some l) (hj : S.M.length = j) (hkM : S.M.all (·.keepG i j) = true)
  (h : En c ⟨dropG i j S.F, S.M.set i (gridH tyo ty T L p (some (p, j))) ++ [rowI ty T l]⟩ N) : En c S N := fun a w ⟨g, hs, hk⟩ => by
 subst hj
 obtain ⟨hs', _, hk'⟩ := hk.takeG (p := p) (r := rowR T l) (m := l.length) hm (by rw [List.getElem?_map, hp]; rfl) hkM
 exact h a w ⟨g, hs', hk'⟩
theorem val_indexGH {α : Type} {T : Ty α} {L : List (List α)} {i tyo ty q : Nat} {link : Option (Nat × Nat)} {k : Int} {t el : Nat} {ti te : TI} {x ix : Operand} {ik : IntKind} (ht : tab.ok) (ho : o.op = .indexAddr t x ix) (h1 : tab t = some ti) (h2 : ti.sl = some el) (h3 : tab el = some te) (h4 : te.size = 1)
  (hx : evX S.F x = some (.sv (.one (.gs i 0)))) (hm : S.M[i]? = some (gridH tyo ty T L q link)) (hi : evK S.F ix = some (.int ik k)) (hk : 0 ≤ k ∧ k < (L.length : Int)) : Val c S o (.sv (.one (.ge i 0 k.toNat 1))) := fun a w g hs h => by
 have hv : a.eval x = gpart (hs i) 0 := (evX_ok h hx).1
 obtain ⟨us, ocs, _, _, r1, _⟩ := h.items i _ hm
 rw [List.length_set, List.length_map] at r1
 rw [← hv] at r1
 obtain ⟨b, of, cap, e1, e2⟩ := run_indexOwn (iv := a.eval ix) ht h1 h2 h3 h4 (by decide) r1 (evK_ok h hi) hk
 refine ⟨.pointer (some ⟨b, of + k.toNat * 1, none⟩), ?_, ⟨b, of, L.length, cap, by rw [← hv]; exact e1, rfl⟩, trivial⟩
 have : (execOp a.eval o) = (do pure (.value (← Instr.indexAt t (a.eval x) (a.eval ix))) : Sem Next) := by unfold execOp; rw [ho]
 rw [this]
 exact run_val e2
theorem val_loadGH {α : Type} {T : Ty α} {L : List (List α)} {i p j tyo ty t : Nat} {ti : TI} {x : Operand} (ht : tab.ok) (ho : o.op = .load t x) (h1 : tab t = some ti) (h3 : ti.agg = false)
  (hx : evX S.F x = some (.sv (.one (.ge i 0 p 1)))) (hm : S.M[i]? = some (gridH tyo ty T L p (some (p, j)))) : Val c S o (.sv (.one (.own j))) := fun a w g hs h => by
 obtain ⟨⟨b, of, nn, cap, e1, e2⟩, _⟩ := evX_ok h hx
 obtain ⟨us, ocs, _, _, r1, r2, _, _, r3, _⟩ := h.items i _ hm
 have hc0 := r3 p j rfl
 have htk := ht t ti h1
 obtain ⟨ao, m, cp, hsl⟩ := r2 _ (List.mem_of_getElem? hc0)
 have hcv : cellV (hs j) := by rw [hsl]; trivial
 have hlo : ocs.length = ((L.map fun l => some (rowR T l, l.length)).set p none).length := by have := r1.1; omega
 have hnn : nn = ((L.map fun l => some (rowR T l, l.length)).set p none).length := by
  obtain ⟨_, r⟩ := r1
  rcases r with ⟨e3, _⟩ | ⟨gb, of', cap', cur, e3, _⟩
  ·rw [e1] at e3; cases e3
  ·rw [e1] at e3; simp only [Value.slice.injEq] at e3; exact e3.2.1
 subst hnn
 have hc := own_cell (q := 0) r1 e1 (k := p) (j := 0) (u := hs j) (by rw [Nat.mul_one, Nat.add_zero]; exact hc0)
 rw [svs_add, Nat.add_zero, Nat.mul_one] at hc
 have : (execOp a.eval o) = (do pure (.value (← Instr.loadAt t (a.eval x))) : Sem Next) := by unfold execOp; rw [ho]
 rw [this]
 refine ⟨hs j, run_val ?_, rfl, hcv⟩
 simp only [Instr.loadAt, e2, Instr.sureAddr, loadVar, Sem.run_bind, Sem.run_pure, Result.andThen_ok, htk.run_isAgg]
 rw [h3]
 simp [load, Sem.run, hc]
end
section
variable {c : Cfg} {S S1 : St} {a : Act} {w : World} {g : Gh} {hs : Nat → Value} {tab : Tab} {n : Nat} {o : Oper} {ops : Array Oper} {rest : List Oper} {N : Po}
end
def PanC (c : Cfg) (ps : List PanicEntry → Prop) (bad : Prop) : Prop := ∀ ch a w' g', a.defers = c.dfr → ps ch → bad → Base c w' g' → c.pan ch a w'
def CtP {β : Type} (f : Nat) (ins : List SC) (M : List Item) (pin : List Nat) (post : β → Prop) (out : β → SC) (M' : β → List Item) (ps : List PanicEntry → Prop) (bad : Prop) : Prop := ∀ (w : World) (g : Gh) (hs : Nat → Value) (args : List Value), Pers g w → okArgs g hs ins args → ItemsOk (fun _ => True) 0 M g hs w →
 Calls Try.prog f args.toArray w (fun en w' => (∃ v g' hs' r, en = .returned v ∧ post r ∧ (out r).ok g' hs' v ∧ (∀ i ∈ pin, hs' i = hs i) ∧ Base (cfgM 0 w g (mayM M hs)) w' g' ∧ ItemsOk (mayM M hs) w.heap.size (M' r) g' hs' w') ∨
  ∃ ch g', en = .panicked ch ∧ ps ch ∧ bad ∧ Base (cfgM 0 w g (mayM M hs)) w' g')
def CtX (f : Nat) (ins : List SC) (M : List Item) (ps : List PanicEntry → Prop) : Prop := ∀ (w : World) (g : Gh) (hs : Nat → Value) (args : List Value), Pers g w → okArgs g hs ins args → ItemsOk (fun _ => True) 0 M g hs w →
 Calls Try.prog f args.toArray w (fun en w' => ∃ ch g', en = .panicked ch ∧ ps ch ∧ Base (cfgM 0 w g (mayM M hs)) w' g')
theorem CtP.toE {β γ : Type} {f : Nat} {ins : List SC} {M : List Item} {pin : List Nat} {post : β → Prop} {out : β → SC} {M1 : β → List Item} {ps : List PanicEntry → Prop} {post' : γ → Prop} {out' : γ → SC} {M2 : γ → List Item} (h : CtP f ins M pin post out M1 ps False) (hp : ∀ r, post r → ∃ s, post' s ∧ out' s = out r ∧ M2 s = M1 r) : CtE f ins M pin post' out' M2 := fun w g hs args h1 h2 h3 =>
 (h w g hs args h1 h2 h3).mono fun e w' k => by
  rcases k with ⟨v, g', hs', r, e1, e2, e3, e4⟩ | ⟨_, _, _, _, k, _⟩
  ·obtain ⟨s, s1, s2, s3⟩ := hp r e2
   exact ⟨v, g', hs', s, e1, s1, by rw [s2]; exact e3, by rw [s3]; exact e4⟩
  ·exact k.elim
theorem CtP.toX {β : Type} {f : Nat} {ins : List SC} {M : List Item} {pin : List Nat} {out : β → SC} {M1 : β → List Item} {ps : List PanicEntry → Prop} {P : Prop} (h : CtP f ins M pin (fun _ => False) out M1 ps P) : CtX f ins M ps := fun w g hs args h1 h2 h3 =>
 (h w g hs args h1 h2 h3).mono fun e w' k => by
  rcases k with ⟨_, _, _, _, _, k, _⟩ | ⟨ch, g', e1, e2, _, e4⟩
  ·exact k.elim
  ·exact ⟨ch, g', e1, e2, e4⟩
theorem Base.cast {c c' : Cfg} {w : World} {g : Gh} (h : Base c w g) (h1 : c'.w0 = c.w0) (h2 : c'.g0 = c.g0) (h3 : c'.may = c.may) : Base c' w g := by
 refine ⟨h1 ▸ h.os, h1 ▸ h.tape, h1 ▸ h.output, h1 ▸ h.grows, fun b hb hm => ?_, h2 ▸ h.ghle, fun b o e => ?_, h.pers⟩
 ·rw [h1] at hb ⊢
  rw [h3] at hm
  exact h.frame b hb hm
 ·rw [h1, h2, h3]
  exact h.ghnew b o e
theorem CtP.body {β : Type} {f : Nat} {fn : Func} {code : Code} {n : Nat} {rs : Array ResultVar} {ins : List SC} {M : List Item} {pin : List Nat} {post : β → Prop} {out : β → SC} {M' : β → List Item} {ps : List PanicEntry → Prop} {bad : Prop} (hf : Try.prog.funcs[f]? = some fn) (hb : fn.body = some code) (hn : fn.ntmps = n) (hr : fn.results = rs)
  (hl : Nat.ble ins.length n = true) (hpin : pinned pin ins = true) (h : ∀ (c : Cfg) (B : Nat → Nat), c.n = n → PanC c ps bad → En c ⟨enumF 0 (ins.map (pinS pin B)), M⟩ (cwp code (PQ c (RetE c rs pin B post out M') [] (RetE c rs pin B post out M')))) : CtP f ins M pin post out M' ps bad := fun w g hs args hp ha hm => by
 have hl := Nat.le_of_ble_eq_true hl
 have hla := okArgs_length ha
 have hB : ∀ i ∈ pin, hs i = .pointer (some ⟨(blk (hs i)).getD 0, 0, none⟩) := fun i hi => by
  obtain ⟨x, hx, e⟩ := List.any_eq_true.1 (List.all_eq_true.1 hpin i hi)
  split at e
  ·rename_i j
   have e := Nat.eq_of_beq_eq_true e
   subst e
   obtain ⟨u, ⟨b, h1, _⟩, _⟩ := okArgs_get ha hx
   rw [h1]
   rfl
  ·cases e
 let c : Cfg := ⟨n, w, g, mayM M hs, [], fun ch a w' => a.defers = [] ∧ ps ch ∧ bad ∧ ∃ g', Base (cfgM 0 w g (mayM M hs)) w' g'⟩
 have hpc : PanC c ps bad := fun ch a w' g' h1 h2 h3 h4 => ⟨h1, h2, h3, g', h4.cast rfl rfl rfl⟩
 refine calls_of_wp hf hb (Code.wp_mono (fun e a w' q => ?_) (h c (fun i => (blk (hs i)).getD 0) rfl hpc { tmps := args.toArray ++ Array.replicate (fn.ntmps - args.toArray.size) undef, defers := [] } w ⟨g, hs, ?_⟩))
 ·have key : RetE c rs pin (fun i => (blk (hs i)).getD 0) post out M' a w' → a.defers = [] ∧ ∃ v, (results fn a.tmps).run Try.prog w' = .ok v w' ∧ ((∃ v' g' hs' r, Ending.returned v = .returned v' ∧ post r ∧ (out r).ok g' hs' v' ∧ (∀ i ∈ pin, hs' i = hs i) ∧ Base (cfgM 0 w g (mayM M hs)) w' g' ∧ ItemsOk (mayM M hs) w.heap.size (M' r) g' hs' w') ∨ ∃ ch g', Ending.returned v = .panicked ch ∧ ps ch ∧ bad ∧ Base (cfgM 0 w g (mayM M hs)) w' g') := fun ⟨h1, v, g', hs', r, h2, h3, h4, h5, h6, h7⟩ => by
   refine ⟨h1, v, ?_, .inl ⟨v, g', hs', r, rfl, h3, h4, fun i hi => (h5 i hi).trans (hB i hi).symm, h6.cast rfl rfl rfl, h7⟩⟩
   subst hr
   exact h2
  cases e with
  | panic ch =>
   obtain ⟨q1, q2, q3, g', q4⟩ := (q : a.defers = [] ∧ ps ch ∧ bad ∧ ∃ g', Base (cfgM 0 w g (mayM M hs)) w' g')
   exact ⟨q1, .inr ⟨ch, g', rfl, q2, q3, q4⟩⟩
  | normal => exact key q
  | ret => exact key q
  | exit _ => exact (q : False).elim
  | goto _ => exact (q : False).elim
  | outgrown => exact (q : False).elim
 ·refine ⟨?_, rfl, ⟨rfl, rfl, rfl, Nat.le_refl _, fun _ _ _ => rfl, Gh.le.refl g, fun b o e => .inl e, hp⟩, fun t x hx => ?_, hm.items, hm.sep, fun i it hi hn b hb => ?_⟩
  ·simp [c, hn]
   omega
  ·obtain ⟨u, h1, _, h3⟩ := enumF_ok (okArgs_pin hB ha) hx
   simp only [Nat.sub_zero] at h1
   have hlt := (List.getElem?_eq_some_iff.1 h1).1
   have : (args.toArray ++ Array.replicate (fn.ntmps - args.toArray.size) undef).getD t undef = u := by
    rw [Array.getD_eq_getD_getElem?, Array.getElem?_append_left (by simpa using hlt)]
    simp [h1]
   rw [this]
   exact h3
  ·obtain ⟨h1, h2⟩ := hm.mine i it hi hn b hb
   exact ⟨h1, fun hf => ⟨.inl ⟨i, it, hi, hf, hb⟩, (h2 hf).2⟩⟩
theorem splitO {α : Type} {p : Prop} (o : Option α) (h1 : o = none → p) (h2 : ∀ r, o = some r → p) : p := by
 cases h : o with
 | none => exact h1 h
 | some r => exact h2 r h
def deadR : Rd := ⟨fun _ _ => False, fun _ _ _ _ h => h⟩
section
variable {c : Cfg} {S S1 : St} {a : Act} {w : World} {g : Gh} {hs : Nat → Value} {tab : Tab} {n : Nat} {o : Oper} {ops : Array Oper} {rest : List Oper} {N : Po}
theorem Base.callM (h : Ok' c S a w g hs) {M : List Item} {rn : List Nat} (hM : M.map (fun it => some (it.mv (rnF rn S.M.length))) = rn.map (fun j => S.M[j]?)) {w' : World} {g' : Gh} (hb : Base (cfgM 0 w g (mayM M (fun i => hs (rnF rn S.M.length i)))) w' g') : Base c w' g' := by
 have hat : ∀ (i : Nat) (it : Item), M[i]? = some it → ∃ j, rn[i]? = some j ∧ rnF rn S.M.length i = j ∧ S.M[j]? = some (it.mv (rnF rn S.M.length)) := fun i it hi => by
  have := congrArg (·[i]?) hM
  simp only [List.getElem?_map, hi, Option.map_some] at this
  cases hr : rn[i]? with
  | none => rw [hr] at this; simp at this
  | some j =>
   rw [hr] at this
   simp at this
   have hlt := (List.getElem?_eq_some_iff.1 hr).1
   refine ⟨j, rfl, ?_, this.symm⟩
   unfold rnF
   rw [show Nat.blt i rn.length = true from by simpa [Nat.blt_eq] using hlt]
   simp [hr]
 have hmay : ∀ b, mayM M (fun i => hs (rnF rn S.M.length i)) b → ∃ j it, S.M[j]? = some it ∧ it.fz = false ∧ Blk (hs j) b := fun b ⟨i, it, h1, h2, h3⟩ => by
  obtain ⟨j, _, h4, h5⟩ := hat i it h1
  simp only [h4] at h3
  exact ⟨j, _, h5, by rw [Item.mv_fz]; exact h2, h3⟩
 refine ⟨hb.os.trans h.base.os, hb.tape.trans h.base.tape, hb.output.trans h.base.output, Nat.le_trans h.base.grows hb.grows, fun b hb1 hm => ?_, h.base.ghle.trans hb.ghle, fun b o e => ?_, hb.pers⟩
 ·refine (hb.frame b (Nat.lt_of_lt_of_le hb1 h.base.grows) fun hm2 => ?_).trans (h.base.frame b hb1 hm)
  obtain ⟨j, jt, h8, h9, h10⟩ := hmay b hm2
  rcases ((h.mine j jt h8 (fz_gone h9) b h10).2 h9).1 with h11 | h11
  ·exact hm h11
  ·omega
 ·rcases hb.ghnew b o e with h1 | h1 | h1
  ·exact h.base.ghnew b o h1
  ·obtain ⟨j, jt, h8, h9, h10⟩ := hmay b h1
   exact .inr ((h.mine j jt h8 (fz_gone h9) b h10).2 h9).1
  ·exact .inr (.inr (Nat.le_trans h.base.grows h1))
def LeftX (c : Cfg) (S : St) (M : List Item) (rn : List Nat) (ps : List PanicEntry → Prop) : Prop := ∀ a w g hs, Ok' c S a w g hs → ∀ ch w' g', ps ch → Base (cfgM 0 w g (mayM M (fun i => hs (rnF rn S.M.length i)))) w' g' → Base c w' g' → c.pan ch a w'
theorem leftX {M : List Item} {rn : List Nat} {ps : List PanicEntry → Prop} {P : Prop} (hpan : PanC c ps P) (hP : P) : LeftX c S M rn ps := fun a w g hs hk ch w' g' h1 _ h2 => hpan ch a w' g' hk.defers h1 hP h2
theorem mt_callX {f : Nat} {ins : List SC} {M : List Item} {ps : List PanicEntry → Prop} {x : SC} {K : List Nat} {p : Option (Nat × Item)} (ct : CtX f ins M ps) (en : ∀ args w, (callFunc f args).run Try.prog w = .ok (.enter f args) w) {caps : List Nat} (rn : List Nat) {fo : Operand} {args : Array Operand} {ats : Array TypeId}
  (ho : o.op = .call ⟨.value fo, args, ats⟩) (hf : evX S.F fo = some (.sv (.one (.fn f caps)))) (ha : ArgsAs c S args caps (ins.map (SC.ren (rnF rn S.M.length))))
  (hM : M.map (fun it => some (it.mv (rnF rn S.M.length))) = rn.map (fun j => S.M[j]?)) (hnd : rn.Nodup) (hpan : LeftX c S M rn ps) : MT c S o x K p := fun a w g hs hk N Z hN => by
 unfold Oper.wp
 have hfv : a.eval fo = .func (.func f) #[] (caps.map hs).toArray := (evX_ok hk hf).1
 have hrun : (execOp a.eval o).run Try.prog w = .ok (.enter f ((args.toList.map a.eval) ++ caps.map hs).toArray) w := by
  unfold execOp
  simp only [ho, resolve, hfv, Deferred.ofValue, Sem.run_bind, Sem.run_pure, Result.andThen_ok, invoke]
  rw [show (#[] ++ Array.map a.eval args ++ (List.map hs caps).toArray : Array Value) = (args.toList.map a.eval ++ caps.map hs).toArray by simp]
  exact en _ _
 rw [hrun]
 refine (ct w g (fun i => hs (rnF rn S.M.length i)) _ hk.base.pers (okArgs_ren (ha a w g hs hk)) (items_in hk hM hnd)).mono ?_
 rintro e' w' ⟨ch, g', rfl, h1, h2⟩
 exact hpan a w g hs hk ch w' g' h1 h2 (Base.callM hk hM h2)
theorem WL.callX {f : Nat} {ins : List SC} {M : List Item} {ps : List PanicEntry → Prop} (ct : CtX f ins M ps) (en : ∀ args w, (callFunc f args).run Try.prog w = .ok (.enter f args) w) {caps : List Nat} (rn : List Nat) {fo : Operand} {args : Array Operand} {ats : Array TypeId}
  (hw : wantE ops S.F o = some true) (ho : o.op = .call ⟨.value fo, args, ats⟩) (hf : evX S.F fo = some (.sv (.one (.fn f caps)))) (ha : ArgsAs c S args caps (ins.map (SC.ren (rnF rn S.M.length))))
  (hM : M.map (fun it => some (it.mv (rnF rn S.M.length))) = rn.map (fun j => S.M[j]?)) (hnd : rn.Nodup) (hpan : LeftX c S M rn ps) : WL c ops (o :: rest) S N := fun a w ⟨g, hs, hk⟩ => by
 unfold wpList
 rw [if_pos (wantE_ok hk hw)]
 exact .inl (mt_callX (x := .sv (.one (.rd deadR))) (K := []) (p := none) ct en rn ho hf ha hM hnd hpan a w g hs hk _ N fun v w' g' h' _ h2 _ => absurd h2.1 (fun h => h))
theorem mt_dead {x : SC} {K : List Nat} {p : Option (Nat × Item)} (t : Nat) (hl : look t S.F = some (.sv (.one (.rd deadR)))) : MT c S o x K p := fun a w g hs hk N Z hN => absurd (hk.slots t _ (look_mem hl)).1 (fun h => h)
theorem En.dead (t : Nat) (hl : look t S.F = some (.sv (.one (.rd deadR)))) : En c S N := fun a w ⟨g, hs, hk⟩ => absurd (hk.slots t _ (look_mem hl)).1 (fun h => h)
def psStop (ty : Nat) (ch : List PanicEntry) : Prop := ∃ code at_ : Int, code ≠ 0 ∧ ch = [{ v := .iface ty (.agg #[.int .i64 code, .int .i64 at_]), recovered := false }]
theorem WL.panicI {ty d : Nat} {fs : Array Field} {o1 o2 : Oper} {x : Operand} {code at_ : Int} {P : Prop} (hn : c.n = n) (hw1 : wantE ops S.F o1 = some true) (ho1 : o1.op = .makeInterface ty x) (hd : o1.dst = some d) (hdn : Nat.blt d n = true) (hu : Try.prog.underlying ty = some (.struct fs)) (hx : evX S.F x = some (.sv (.agg [I code, I at_])))
  (hw2 : wantE ops S.F o2 = some true) (hg2 : o2.guard = none) (ho2 : o2.op = .panic (.tmp d)) (hc : code ≠ 0) (hpan : PanC c (psStop ty) P) (hP : P) : WL c ops (o1 :: o2 :: rest) S N := fun a w ⟨g, hs, hk⟩ => by
 unfold wpList
 rw [if_pos (wantE_ok hk hw1)]
 refine .inl ?_
 unfold Oper.wp
 obtain ⟨cs, h1, h2⟩ := evX_ok hk hx
 have hcs : cs = [.int .i64 code, .int .i64 at_] := by
  match cs, h2 with
  | [c1, c2], h2 =>
   have e1 : c1 = .int .i64 code := h2.1.1
   have e2 : c2 = .int .i64 at_ := h2.2.2.1.1
   rw [e1, e2]
 subst hcs
 have hrun : (execOp a.eval o1).run Try.prog w = .ok (.value (.iface ty (.agg #[.int .i64 code, .int .i64 at_]))) w := by
  have : execOp a.eval o1 = (do pure (.value (← Instr.makeInterface ty (a.eval x))) : Sem Next) := by unfold execOp; rw [ho1]
  rw [this]
  refine run_val ?_
  simp only [Instr.makeInterface, Sem.run_bind, run_underlying hu, Result.andThen_ok, h1, Sem.run_pure]
 rw [hrun]
 show wpList Try.prog ops (OnlyP c N) (o2 :: rest) _ w
 unfold wpList
 have hwant : Region.wanted o2 (yielded ops (a.put o1.dst (.iface ty (.agg #[.int .i64 code, .int .i64 at_]))).tmps) = true := by unfold Region.wanted; rw [hg2]
 rw [if_pos hwant]
 refine .inl ?_
 unfold Oper.wp
 have hev : (a.put o1.dst (.iface ty (.agg #[.int .i64 code, .int .i64 at_]))).eval (.tmp d) = .iface ty (.agg #[.int .i64 code, .int .i64 at_]) := by
  rw [hd]
  have hsz : d < a.tmps.size := by rw [hk.size, hn]; exact Nat.le_of_ble_eq_true hdn
  simp [Act.put, Act.eval, hsz]
 have hrun2 : (execOp (a.put o1.dst (.iface ty (.agg #[.int .i64 code, .int .i64 at_]))).eval o2).run Try.prog w = .halt (.panic (.iface ty (.agg #[.int .i64 code, .int .i64 at_]))) w := by
  have : execOp (a.put o1.dst (.iface ty (.agg #[.int .i64 code, .int .i64 at_]))).eval o2 = (do pure (.value (← Instr.panic ((a.put o1.dst (.iface ty (.agg #[.int .i64 code, .int .i64 at_]))).eval (.tmp d)))) : Sem Next) := by unfold execOp; rw [ho2]
  rw [this, hev]
  rfl
 rw [hrun2]
 refine hpan _ _ w g ?_ ⟨code, at_, hc, rfl⟩ hP hk.base
 rw [hd]
 exact hk.defers
end
def byteAt (s : ByteArray) (i : Int) : Option Int := if 0 ≤ i then (s[i.toNat]?).map (fun b => ((b.toNat : Nat) : Int)) else none
section
variable {c : Cfg} {S S1 : St} {a : Act} {w : World} {g : Gh} {hs : Nat → Value} {tab : Tab} {n : Nat} {o : Oper} {ops : Array Oper} {rest : List Oper} {N : Po}
theorem val_indexS {x ix : Operand} {t : Nat} {s : ByteArray} {k : IntKind} {i b : Int} (ho : o.op = .index t x ix) (hu : Try.prog.underlying t = some .string) (hx : evX S.F x = some (.sv (.one (.v (.string s))))) (hi : evK S.F ix = some (.int k i)) (hb : byteAt s i = some b) : Val c S o (.sv (.one (.v (.int .u8 b)))) := fun a w g hs h => by
 have h1 : a.eval x = .string s := (evX_ok h hx).1
 unfold byteAt at hb
 split at hb
 ·rename_i h0
  cases hs : s[i.toNat]? with
  | none => rw [hs] at hb; cases hb
  | some y =>
   rw [hs] at hb
   simp at hb
   subst hb
   refine ⟨.int .u8 (y.toNat : Int), ?_, rfl, trivial⟩
   have e : execOp a.eval o = (do pure (.value (← Instr.index t (a.eval x) (a.eval ix))) : Sem Next) := by unfold execOp; rw [ho]
   rw [e]
   refine run_val ?_
   simp only [Instr.index, evK_ok h hi, asIntOf, h1, Sem.run_bind, Sem.run_pure, Result.andThen_ok, run_underlying hu, if_pos h0, hs]
 ·cases hb
theorem val_ext2 {f : Nat} {fo x y : Operand} {ats : Array TypeId} {u v r : Value} (hrun : ∀ w, (callFunc f #[u, v]).run Try.prog w = .ok (.value r) w) (hr : cellV r) (ho : o.op = .call ⟨.value fo, #[x, y], ats⟩) (hf : evX S.F fo = some (.sv (.one (.fn f [])))) (hx : evX S.F x = some (.sv (.one (.v u)))) (hy : evX S.F y = some (.sv (.one (.v v)))) : Val c S o (.sv (.one (.v r))) := fun a w g hs h => by
 have h1 : a.eval x = u := (evX_ok h hx).1
 have h2 : a.eval y = v := (evX_ok h hy).1
 have hfv : a.eval fo = .func (.func f) #[] #[] := (evX_ok h hf).1
 refine ⟨r, ?_, rfl, hr⟩
 unfold execOp
 simp only [ho, resolve, hfv, Deferred.ofValue, Sem.run_bind, Sem.run_pure, Result.andThen_ok, invoke]
 have e : (#[] ++ Array.map a.eval #[x, y] ++ #[] : Array Value) = #[u, v] := by simp [h1, h2]
 rw [e]
 exact hrun w
theorem val_lenS {x : Operand} {t : Nat} {s : ByteArray} (ho : o.op = .call ⟨.builtin .len, #[x], #[t]⟩) (hu : Try.prog.underlying t = some .string) (hx : evX S.F x = some (.sv (.one (.v (.string s))))) : Val c S o (.sv (.one (I (s.size : Int)))) := fun a w g hs h => by
 have h1 : a.eval x = .string s := (evX_ok h hx).1
 refine ⟨.int .i64 s.size, ?_, rfl, trivial⟩
 have e : execOp a.eval o = (do pure (.value (← Builtin.len_ #[t] o.type #[a.eval x])) : Sem Next) := by
  unfold execOp
  rw [ho]
  simp [resolve, invoke, builtin]
 rw [e, h1]
 refine run_val ?_
 simp [Builtin.len_, run_underlying hu, goInt]
end
inductive Tr (α : Type) where
 | node (a : α) (kids : List (Tr α))
def Tr.lab {α : Type} : Tr α → α
 | .node a _ => a
def Tr.kids {α : Type} : Tr α → List (Tr α)
 | .node _ l => l
inductive TrOk {α : Type} (lab : α → List Value) (g : Gh) : Tr α → Value → Prop
 | mk (a : α) (kids : List (Tr α)) (b off : Nat) (ao : Option Addr) (cap b' o' : Nat) (us : Nat → Value)
   (h1 : ∀ j c, (lab a)[j]? = some c → g.cell ⟨b, off + j, none⟩ = some c) (h2 : g.cell ⟨b, off + (lab a).length, none⟩ = some (.slice ao kids.length cap))
   (h3 : kids.length ≤ cap) (h4 : cap ≤ maxLen) (h5 : ao = none → cap = 0) (h6 : 0 < kids.length → ao = some ⟨b', o', none⟩)
   (h7 : ∀ q x, kids[q]? = some x → g.cell ⟨b', o' + q, none⟩ = some (us q)) (h8 : ∀ q x, kids[q]? = some x → TrOk lab g x (us q)) : TrOk lab g (.node a kids) (.pointer (some ⟨b, off, none⟩))
theorem TrOk.mono {α : Type} {lab : α → List Value} {g g' : Gh} (hg : Gh.le g g') {t : Tr α} {v : Value} (h : TrOk lab g t v) : TrOk lab g' t v := by
 induction h with
 | mk a kids b off ao cap b' o' us h1 h2 h3 h4 h5 h6 h7 h8 ih => exact .mk a kids b off ao cap b' o' us (fun j c hj => Gh.cell_up hg (h1 j c hj)) (Gh.cell_up hg h2) h3 h4 h5 h6 (fun q x hx => Gh.cell_up hg (h7 q x hx)) ih
theorem TrOk.ptr {α : Type} {lab : α → List Value} {g : Gh} {t : Tr α} {v : Value} (h : TrOk lab g t v) : ∃ b off, v = .pointer (some ⟨b, off, none⟩) := by
 cases h
 exact ⟨_, _, rfl⟩
def trR {α : Type} (lab : α → List Value) (t : Tr α) : Rd := ⟨fun g v => TrOk lab g t v, fun _ _ _ hg h => h.mono hg⟩
abbrev TT {α : Type} (lab : α → List Value) : Ty (Tr α) := ⟨1, fun t => .one (.rd (trR lab t))⟩
def nodeS {α : Type} (lab : α → List Value) (a : α) (kids : List (Tr α)) : List At := (lab a).map .v ++ [LS (TT lab) kids]
theorem oks_vals {g : Gh} {hs : Nat → Value} : ∀ {l : List Value}, (∀ c ∈ l, cellV c) → oks g hs (l.map .v) l
 | [], _ => trivial
 | c :: _, h => ⟨⟨rfl, h c List.mem_cons_self⟩, h c List.mem_cons_self, oks_vals fun x hx => h x (List.mem_cons_of_mem _ hx)⟩
theorem vals_oks {g : Gh} {hs : Nat → Value} : ∀ {l us : List Value}, oks g hs (l.map .v) us → us = l
 | [], [], _ => rfl
 | [], _ :: _, h => h.elim
 | _ :: _, [], h => h.elim
 | c :: l, u :: us, h => by
  have h1 : u = c := h.1.1
  rw [h1, vals_oks h.2.2]
theorem oks_split {g : Gh} {hs : Nat → Value} : ∀ {l l' : List At} {us : List Value}, oks g hs (l ++ l') us → ∃ u1 u2, us = u1 ++ u2 ∧ oks g hs l u1 ∧ oks g hs l' u2
 | [], l', us, h => ⟨[], us, rfl, trivial, h⟩
 | _ :: _, _, [], h => h.elim
 | _ :: _, _, u :: _, h => by
  obtain ⟨u1, u2, e, h1, h2⟩ := oks_split h.2.2
  exact ⟨u :: u1, u2, by rw [e]; rfl, ⟨h.1, h.2.1, h1⟩, h2⟩
theorem oks_join {g : Gh} {hs : Nat → Value} : ∀ {l l' : List At} {us us' : List Value}, oks g hs l us → oks g hs l' us' → oks g hs (l ++ l') (us ++ us')
 | [], _, [], _, _, h => h
 | [], _, _ :: _, _, h, _ => h.elim
 | _ :: _, _, [], _, h, _ => h.elim
 | _ :: _, _, _ :: _, _, h, h' => ⟨h.1, h.2.1, oks_join h.2.2 h'⟩
theorem tr_pe {α : Type} {lab : α → List Value} (hl : ∀ a, ∀ c ∈ lab a, cellV c) {g : Gh} {t : Tr α} {v : Value} (h : TrOk lab g t v) : ptrTo (svR (.agg (nodeS lab t.lab t.kids))) ((lab t.lab).length + 1) g v := by
 cases h with
 | mk a kids b off ao cap b' o' us h1 h2 h3 h4 h5 h6 h7 h8 =>
  have hLS : oks g hs0 [LS (TT lab) kids] [Value.slice ao kids.length cap] := by
   refine ⟨⟨⟨⟨ao, kids.length, cap, rfl, rfl, h3, h4, h5, fun q x hx => ?_⟩, ao, cap, rfl⟩, trivial⟩, trivial, trivial⟩
   have hq := (List.getElem?_eq_some_iff.1 hx).1
   obtain ⟨b2, o2, e⟩ := (h8 q x hx).ptr
   have hc : (us q).cells = #[us q] := by rw [e]; rfl
   refine ⟨b', o', us q, h6 (by omega), ⟨h8 q x hx, by rw [e]; trivial⟩, by rw [hc]; rfl, fun j c hj => ?_⟩
   rw [hc] at hj
   cases j with
   | zero =>
    simp at hj
    subst hj
    have := h7 q x hx
    simpa using this
   | succ j => simp at hj
  refine ⟨b, off, .agg (lab a ++ [Value.slice ao kids.length cap]).toArray, rfl, ⟨_, rfl, oks_join (oks_vals (hl a)) hLS⟩, by simp [Value.cells, Tr.lab], fun j c hj => ?_⟩
  have hj : (lab a ++ [Value.slice ao kids.length cap])[j]? = some c := by simpa [Value.cells] using hj
  rw [List.getElem?_append] at hj
  split at hj
  ·exact h1 j c hj
  ·rename_i hn
   have : j = (lab a).length := by
    have := (List.getElem?_eq_some_iff.1 hj).1
    simp at this
    omega
   subst this
   simp at hj
   subst hj
   exact h2
theorem pe_tr {α : Type} {lab : α → List Value} {g : Gh} {a : α} {kids : List (Tr α)} {v : Value} (h : ptrTo (svR (.agg (nodeS lab a kids))) ((lab a).length + 1) g v) : TrOk lab g (.node a kids) v := by
 obtain ⟨b, off, x, rfl, ⟨cs, rfl, h1⟩, _, h2⟩ := h
 obtain ⟨u1, u2, rfl, k1, k2⟩ := oks_split h1
 have := vals_oks k1
 subst this
 match u2, k2 with
 | [u], k2 =>
  obtain ⟨⟨⟨ao, n, cap, rfl, rfl, h3, h4, h5, h6⟩, _⟩, _⟩ := k2.1
  have hc : ∀ j c, (lab a ++ [Value.slice ao kids.length cap])[j]? = some c → g.cell ⟨b, off + j, none⟩ = some c := fun j c hj => h2 j c (by simpa [Value.cells] using hj)
  have key : ∀ q, ∃ u : Value, ∀ x, kids[q]? = some x → ∃ b o, ao = some ⟨b, o, none⟩ ∧ TrOk lab g x u ∧ g.cell ⟨b, o + q, none⟩ = some u := fun q => by
   cases hq : kids[q]? with
   | none => exact ⟨undef, fun x hx => by cases hx⟩
   | some x =>
    obtain ⟨b', o', u, e, k3, k4, k5⟩ := h6 q x hq
    refine ⟨u, fun y hy => ?_⟩
    cases hy
    have k3 : TrOk lab g x u := k3.1
    obtain ⟨b2, o2, e2⟩ := k3.ptr
    have := k5 0 u (by rw [e2]; rfl)
    refine ⟨b', o', e, k3, ?_⟩
    simpa using this
  have hao : 0 < kids.length → ∃ b o, ao = some ⟨b, o, none⟩ := fun hp => by
   obtain ⟨b', o', u, e, _⟩ := h6 0 kids[0] (by simp [hp])
   exact ⟨b', o', e⟩
  by_cases hp : 0 < kids.length
  ·obtain ⟨b', o', rfl⟩ := hao hp
   refine .mk a kids b off _ cap b' o' (fun q => (key q).choose) (fun j c hj => hc j c (by rw [List.getElem?_append_left (List.getElem?_eq_some_iff.1 hj).1]; exact hj)) (hc _ _ (by simp)) h3 h4 h5 (fun _ => rfl) (fun q x hx => ?_) (fun q x hx => ?_)
   ·obtain ⟨b2, o2, e, _, k⟩ := (key q).choose_spec x hx
    cases e
    exact k
   ·obtain ⟨b2, o2, e, k, _⟩ := (key q).choose_spec x hx
    exact k
  ·have hk : kids = [] := by
    cases kids with
    | nil => rfl
    | cons _ _ => simp at hp
   subst hk
   exact .mk a [] b off ao cap 0 0 (fun _ => undef) (fun j c hj => hc j c (by rw [List.getElem?_append_left (List.getElem?_eq_some_iff.1 hj).1]; exact hj)) (hc _ _ (by simp)) h3 h4 h5 (fun h => by simp at h) (fun q x hx => by simp at hx) (fun q x hx => by simp at hx)
section
variable {c : Cfg} {S S1 : St} {a : Act} {w : World} {g : Gh} {hs : Nat → Value} {tab : Tab} {n : Nat} {o : Oper} {ops : Array Oper} {rest : List Oper} {N : Po}
theorem tree_of {α : Type} {lab : α → List Value} {x : α} {kids : List (Tr α)} {i ty : Nat} {cells : List At} {k : Nat} (hm : S.M[i]? = some (.box cells ty true)) (hc : cells = nodeS lab x kids) (hk : (lab x).length + 1 = k) : ∀ a w g hs, Ok' c S a w g hs → ∀ u, SC.ok g hs (.sv (.one (.ptr i 0))) u → SC.ok g hs (.sv (.one (.rd (trR lab (.node x kids))))) u := fun a w g hs h u hu => by
 obtain ⟨⟨b, h1, rfl⟩, _⟩ := hu
 obtain ⟨b', cs, h2, h3, h4, h5⟩ := h.items i _ hm
 rw [h1] at h2
 simp at h2
 subst h2
 subst hc
 have hg := h5 rfl
 have hrefs : (nodeS lab x kids).flatMap At.refs = [] := by
  unfold nodeS
  rw [List.flatMap_append]
  have : ((lab x).map At.v).flatMap At.refs = [] := by
   induction lab x with
   | nil => rfl
   | cons y l ih => simp [At.refs, ih]
  rw [this]
  rfl
 refine ⟨pe_tr ⟨b, 0, .agg cs.toArray, rfl, ⟨cs, rfl, oks_hs (fun i hi => by rw [hrefs] at hi; cases hi) h3⟩, ?_, fun j c hj => ?_⟩, trivial⟩
 ·have := oks_length h3
  simp only [nodeS, List.length_append, List.length_map, List.length_cons, List.length_nil] at this
  simp [Value.cells, ← this]
 ·unfold Gh.cell
  rw [hg]
  simpa [Value.cells] using hj
theorem node_of {α : Type} {lab : α → List Value} (hl : ∀ a, ∀ c ∈ lab a, cellV c) {t : Tr α} {s : SV} {k : Nat} (hs : SV.agg (nodeS lab t.lab t.kids) = s) (hk : (lab t.lab).length + 1 = k) : ∀ a w g hs', Ok' c S a w g hs' → ∀ u, SC.ok g hs' (.sv (.one (.rd (trR lab t)))) u → SC.ok g hs' (.sv (.one (.pe (svR s) k))) u := fun a w g hs' _ u hu => by
 subst hs hk
 exact ⟨tr_pe hl hu.1, hu.2⟩
theorem val_node {α : Type} {lab : α → List Value} (hl : ∀ a, ∀ c ∈ lab a, cellV c) {t : Tr α} {s : SV} {k : Nat} {x : Operand} (ho : o.op = .nilCheck x) (hx : evX S.F x = some (.sv (.one (.rd (trR lab t))))) (hs : SV.agg (nodeS lab t.lab t.kids) = s) (hk : (lab t.lab).length + 1 = k) : Val c S o (.sv (.one (.pe (svR s) k))) := fun a w g hs' h => by
 have h1 := evX_ok h hx
 have h2 : TrOk lab g t (a.eval x) := h1.1
 obtain ⟨b, off, e⟩ := h2.ptr
 exact ⟨a.eval x, by simp [execOp, ho, e], node_of hl hs hk a w g hs' h _ h1⟩
def optR {α : Type} (lab : α → List Value) (o : Option (Tr α)) : Rd := ⟨fun g v => match o with
 | none => v = .pointer none
 | some t => TrOk lab g t v, fun g g' v hg h => by
  cases o with
  | none => exact h
  | some t => exact h.mono hg⟩
theorem some_of {α : Type} {lab : α → List Value} {o : Option (Tr α)} {t : Tr α} (h : o = some t) : ∀ a w g hs, Ok' c S a w g hs → ∀ u, SC.ok g hs (.sv (.one (.rd (optR lab o)))) u → SC.ok g hs (.sv (.one (.rd (trR lab t)))) u := fun a w g hs _ u hu => by
 subst h
 exact hu
end
section
variable {c : Cfg} {S S1 : St} {a : Act} {w : World} {g : Gh} {hs : Nat → Value} {tab : Tab} {n : Nat} {o : Oper} {ops : Array Oper} {rest L : List Oper} {N : Po}
theorem run_eqP {t e : Nat} (ht : Try.prog.underlying t = some (.pointer e)) (w : World) (p : Option Addr) : (Op.equal t (.pointer p) (.pointer none)).run Try.prog w = .ok p.isNone w := by
 have hu := run_underlying ht w
 show (Op.equalIn (9999 + 1) _ _ _).run _ _ = _
 rw [Op.equalIn]
 simp only [Sem.run_bind, hu, Result.andThen_ok]
 cases p <;> simp
theorem val_eqN {x y : Operand} {b : TypeId} {t e : Nat} {op : BinOp} {p : Option Addr} {r : Bool} (ho : o.op = .binOp op t x y b) (ht : Try.prog.underlying t = some (.pointer e)) (hx : ∀ a w g hs, Ok' c S a w g hs → ∃ q : Option Addr, a.eval x = .pointer q ∧ q.isNone = p.isNone) (hy : evX S.F y = some (.sv (.one (.v (.pointer none))))) (hop : (op = .eql ∧ r = p.isNone) ∨ (op = .neq ∧ r = !p.isNone)) : Val c S o (.sv (.one (.v (.bool r)))) := fun a w g hs h => by
 obtain ⟨q, h1, hq⟩ := hx a w g hs h
 have h2 : a.eval y = .pointer none := (evX_ok h hy).1
 refine ⟨.bool r, ?_, rfl, trivial⟩
 have e : execOp a.eval o = (do pure (.value (← (do eqGuard op t x y (a.eval x) (a.eval y); binOp op t (a.eval x) (a.eval y) : Sem Value))) : Sem Next) := by unfold execOp; rw [ho]
 rw [e]
 refine run_val ?_
 rw [h1, h2]
 have hu := run_underlying ht w
 have heq := run_eqP ht w q
 rcases hop with ⟨rfl, rfl⟩ | ⟨rfl, rfl⟩
 ·simp [eqGuard, binOp, heq, hq]
 ·simp [eqGuard, binOp, heq, hq]
theorem ptr_isSome {x : Operand} {i off : Nat} (hx : evX S.F x = some (.sv (.one (.ptr i off)))) : ∀ a w g hs, Ok' c S a w g hs → ∃ q : Option Addr, a.eval x = .pointer q ∧ q.isNone = (some (⟨0, 0, none⟩ : Addr)).isNone := fun a w g hs h => by
 obtain ⟨⟨b, _, e⟩, _⟩ := evX_ok h hx
 exact ⟨_, e, rfl⟩
theorem ptr_isNone {x : Operand} (hx : evX S.F x = some (.sv (.one (.v (.pointer none))))) : ∀ a w g hs, Ok' c S a w g hs → ∃ q : Option Addr, a.eval x = .pointer q ∧ q.isNone = (none : Option Addr).isNone := fun a w g hs h => ⟨none, (evX_ok h hx).1, rfl⟩
theorem val_neqSame {x y : Operand} {b : TypeId} {t e i off : Nat} {j : TypeInfo} (ho : o.op = .binOp .neq t x y b) (ht : Try.prog.underlying t = some (.pointer e)) (hi : Try.prog.info? e = some j) (hx : evX S.F x = some (.sv (.one (.ptr i off)))) (hy : evX S.F y = some (.sv (.one (.ptr i off)))) : Val c S o (.sv (.one (.v (.bool false)))) := fun a w g hs h => by
 obtain ⟨⟨b1, e1, h1⟩, _⟩ := evX_ok h hx
 obtain ⟨⟨b2, e2, h2⟩, _⟩ := evX_ok h hy
 rw [e1] at e2
 cases e2
 refine ⟨.bool false, ?_, rfl, trivial⟩
 have e : execOp a.eval o = (do pure (.value (← (do eqGuard .neq t x y (a.eval x) (a.eval y); binOp .neq t (a.eval x) (a.eval y) : Sem Value))) : Sem Next) := by unfold execOp; rw [ho]
 rw [e]
 refine run_val ?_
 rw [h1, h2]
 have hg : (eqGuard .neq t x y (.pointer (some ⟨b1, off, none⟩)) (.pointer (some ⟨b1, off, none⟩))).run Try.prog w = .ok () w := by simp [eqGuard]
 rw [Sem.run_bind, hg, Result.andThen_ok]
 exact Lib.run_neq_ptr_same _ _ ht hi
theorem box_shape {i ty : Nat} {cells : List At} {fz : Bool} (h : Ok' c S a w g hs) (hm : S.M[i]? = some (.box cells ty fz)) {b : Nat} (hb : hs i = .pointer (some ⟨b, 0, none⟩)) : w.shape? b = some (ty, cells.length) := by
 obtain ⟨b', cs, e1, e2, e3, _⟩ := h.items i _ hm
 rw [hb] at e1
 cases e1
 have hl : ∀ {l : List At} {us : List Value}, oks g hs l us → us.length = l.length := fun {l} => by
  induction l with
  | nil => intro us hu; cases us with | nil => rfl | cons _ _ => exact hu.elim
  | cons x l ih => intro us hu; cases us with | nil => exact hu.elim | cons u us => simp [ih hu.2.2]
 simp [World.shape?, e3, hl e2]
theorem val_toU {src t te i ty : Nat} {j : TypeInfo} {x : Operand} {cells : List At} {fz : Bool} (ho : o.op = .convert src t x) (h1 : Try.prog.underlying src = some (.pointer te)) (h2 : Try.prog.underlying t = some .unsafePointer) (h3 : Try.prog.info? te = some j) (h4 : j.size ≠ 0) (hx : evX S.F x = some (.sv (.one (.ptr i 0)))) (hm : S.M[i]? = some (.box cells ty fz)) (hc : 0 < cells.length) : Val c S o (.sv (.one (.ptr i 0))) := fun a w g hs h => by
 obtain ⟨⟨b, e1, e2⟩, hcv⟩ := evX_ok h hx
 refine ⟨.pointer (some ⟨b, 0, none⟩), ?_, ⟨b, e1, rfl⟩, trivial⟩
 have : (execOp a.eval o) = (do pure (.value (← convert src t (a.eval x))) : Sem Next) := by unfold execOp; rw [ho]
 rw [this]
 refine run_val ?_
 rw [e2]
 exact Lib.run_to_unsafe w ⟨b, 0, none⟩ h1 h2 h3 h4 (box_shape h hm e1) hc
theorem val_fromU {src t te i ty : Nat} {j : TypeInfo} {x : Operand} {cells : List At} {fz : Bool} (ho : o.op = .convert src t x) (h1 : Try.prog.underlying src = some .unsafePointer) (h2 : Try.prog.underlying t = some (.pointer te)) (h3 : Try.prog.info? te = some j) (hx : evX S.F x = some (.sv (.one (.ptr i 0)))) (hm : S.M[i]? = some (.box cells ty fz)) (hl : liesAt Try.prog Try.prog.depth ty (cells.length / Try.prog.cellsOf ty) 0 te 1 = true) : Val c S o (.sv (.one (.ptr i 0))) := fun a w g hs h => by
 obtain ⟨⟨b, e1, e2⟩, hcv⟩ := evX_ok h hx
 refine ⟨.pointer (some ⟨b, 0, none⟩), ?_, ⟨b, e1, rfl⟩, trivial⟩
 have : (execOp a.eval o) = (do pure (.value (← convert src t (a.eval x))) : Sem Next) := by unfold execOp; rw [ho]
 rw [this]
 refine run_val ?_
 rw [e2]
 exact Lib.run_from_unsafe w ⟨b, 0, none⟩ h1 h2 h3 (box_shape h hm e1) hl
theorem val_ext1 {f : Nat} {fo x : Operand} {ats : Array TypeId} {s : SC} (hrun : ∀ v w, (callFunc f #[v]).run Try.prog w = .ok (.value v) w) (ho : o.op = .call ⟨.value fo, #[x], ats⟩) (hf : evX S.F fo = some (.sv (.one (.fn f [])))) (hx : evX S.F x = some s) : Val c S o s := fun a w g hs h => by
 have h1 := evX_ok h hx
 have hfv : a.eval fo = .func (.func f) #[] #[] := (evX_ok h hf).1
 refine ⟨a.eval x, ?_, h1⟩
 unfold execOp
 simp only [ho, resolve, hfv, Deferred.ofValue, Sem.run_bind, Sem.run_pure, Result.andThen_ok, invoke]
 have e : (#[] ++ Array.map a.eval #[x] ++ #[] : Array Value) = #[a.eval x] := by simp
 rw [e]
 exact hrun _ w
theorem val_sliceData {α : Type} {T : Ty α} {l : List α} {i e t : Nat} {x : Operand} (ho : o.op = .call ⟨.builtin .unsafeSliceData, #[x], #[t]⟩) (hx : evX S.F x = some (.sv (.one (.own i)))) (hm : S.M[i]? = some (rowI e T l)) (hl : 0 < l.length) (hT : T.s = 1) : Val c S o (.sv (.one (.oe i 0 1))) := fun a w g hs h => by
 have h1 : a.eval x = hs i := (evX_ok h hx).1
 obtain ⟨cs, ⟨hl0, r1⟩, r2⟩ := h.items i _ hm
 rcases r1 with ⟨e1, e2⟩ | ⟨gb, of, cap, cur, e1, e4, e5, _⟩
 ·omega
 ·refine ⟨.pointer (some ⟨gb, of, none⟩), ?_, ⟨gb, of, l.length, cap, e1, by simp⟩, trivial⟩
  have e : execOp a.eval o = (do pure (.value (← Builtin.unsafeSliceData_ #[t] o.type #[a.eval x])) : Sem Next) := by
   unfold execOp
   rw [ho]
   simp [resolve, invoke, builtin]
  rw [e]
  refine run_val ?_
  rw [h1, e1]
  exact Lib.run_unsafeSliceData_row _ _ _ _ _ _ (by omega)
theorem liesAt_off {e : TypeId} (hc : Try.prog.cellsOf e = 1) (count off n : Nat) (hn : off + n ≤ count) : liesAt Try.prog Try.prog.depth e count off e n = true := by
 have hd : Try.prog.depth = (2 * (Try.prog.types.size + Made.depth) + 1) + 1 := rfl
 rw [hd]
 simp only [liesAt, Bool.or_eq_true]
 left
 rw [hd]
 simp [rowAt, hc, hn, sameLayout, Nat.mod_one]
theorem run_unsafeStr (w : World) (pt it ty e : TypeId) (hp : Try.prog.underlying pt = some (.pointer e)) (hc : Try.prog.cellsOf e = 1) (g of cells : Nat) (hsh : w.shape? g = some (e, cells)) (l : List UInt8) (h0 : l ≠ []) (hn : of + l.length ≤ cells) (h63 : l.length ≤ 9223372036854775807)
  (hcell : ∀ j x, l[j]? = some x → w.cell? ((⟨g, of, none⟩ : Addr).add j) = some (.int .u8 x.toNat)) :
  (Builtin.unsafeString_ #[pt, it] ty #[.pointer (some ⟨g, of, none⟩), .int .i64 l.length]).run Try.prog w = .ok (.string ⟨l.toArray⟩) (w.freeze ⟨g, of, none⟩ l.length) := by
 have hl : l.length ≠ 0 := by simpa using h0
 have hlb := Lib.run_loadBytes (P := Try.prog) (w := w) l ⟨g, of, none⟩ .empty hcell
 have hlies := liesAt_off hc (cells / Try.prog.cellsOf e) of l.length (by rw [hc]; simpa using hn)
 have h63' : ¬ (9223372036854775807 : Int) < (l.length : Int) := by omega
 have hmax : IntKind.i64.max = 9223372036854775807 := rfl
 have hneg : ¬ (l.length : Int) < 0 := by omega
 rw [show Builtin.unsafeString_ #[pt, it] ty #[.pointer (some ⟨g, of, none⟩), .int .i64 l.length] = Bind.bind (asInt (.int .i64 l.length)) _ from rfl]
 simp [asInt, asIntOf, hmax, h63', hneg, hl, variablesAt, hsh, elemOf, run_underlying hp, hlies, hlb]
theorem bytesOf_of (l : List UInt8) : bytesOf (l.map fun x => (x.toNat : Int)) = ⟨l.toArray⟩ := by
 have h : (bytesOf (l.map fun x => (x.toNat : Int))).data.toList = l := by
  unfold bytesOf
  rw [push_toList, List.map_map]
  refine (List.map_congr_left fun x _ => ?_).trans (List.map_id l)
  show UInt8.ofNat ((x.toNat : Int)).toNat = x
  simp
 have h2 : (bytesOf (l.map fun x => (x.toNat : Int))).data = l.toArray := by rw [← Array.toArray_toList (xs := (bytesOf (l.map fun x => (x.toNat : Int))).data), h]
 rw [← h2]
theorem freeze_heap (w : World) (p : Addr) (n : Nat) : (w.freeze p n).os = w.os ∧ (w.freeze p n).tape = w.tape ∧ (w.freeze p n).output = w.output ∧ (w.freeze p n).heap.size = w.heap.size ∧ ∀ b, b ≠ p.block → (w.freeze p n).heap[b]? = w.heap[b]? := by
 unfold World.freeze
 split
 ·exact ⟨rfl, rfl, rfl, rfl, fun _ _ => rfl⟩
 ·refine ⟨rfl, rfl, rfl, by simp, fun b hb => ?_⟩
  simp only [Array.getElem?_modify]
  rw [if_neg (fun e => hb e.symm)]
theorem mt_unsafeStr {l : List Int} {i e pt it : Nat} {x y : Operand} (ho : o.op = .call ⟨.builtin .unsafeString, #[x, y], #[pt, it]⟩) (hp : Try.prog.underlying pt = some (.pointer e)) (hc : Try.prog.cellsOf e = 1) (hx : evX S.F x = some (.sv (.one (.oe i 0 1)))) (hy : evK S.F y = some (.int .i64 (l.length : Int))) (hm : S.M[i]? = some (rowI e (intKT .u8) l)) (hl : 0 < l.length ∧ ∀ x ∈ l, 0 ≤ x ∧ x < 256) : MT c S o (.sv (.one (.v (.string (bytesOf l))))) [i] none := fun a w g hs h N Z hN => by
 obtain ⟨hl0, hb⟩ := hl
 obtain ⟨us, hus⟩ : ∃ us : List UInt8, l = us.map fun x => (x.toNat : Int) := by
  refine ⟨l.map fun x => UInt8.ofNat x.toNat, ?_⟩
  rw [List.map_map]
  refine (List.map_id l).symm.trans (List.map_congr_left fun x hx => ?_)
  have := hb x hx
  show x = ((UInt8.ofNat x.toNat).toNat : Int)
  rw [UInt8.toNat_ofNat_of_lt' (by show x.toNat < 256; omega)]
  omega
 obtain ⟨⟨b0, o0, n0, cap0, k1, k2⟩, _⟩ := evX_ok h hx
 have h2 : a.eval y = .int .i64 (l.length : Int) := evK_ok h hy
 obtain ⟨cs, ⟨hcl, r1⟩, r2⟩ := h.items i _ hm
 obtain rfl := r2.bytes
 rcases r1 with ⟨e1, e2⟩ | ⟨gb, of, cap, cur, e1, e4, e5, e6, e7, e8⟩
 ·omega
 rw [e1] at k1
 simp only [Value.slice.injEq, Option.some.injEq, Addr.mk.injEq] at k1
 obtain ⟨⟨hb0, ho0, _⟩, _, _⟩ := k1
 rw [← hb0, ← ho0] at k2
 have hT : (intKT .u8).s = 1 := rfl
 rw [hT] at e7 e8
 have hlen : us.length = l.length := by rw [hus, List.length_map]
 have hrun : (execOp a.eval o).run Try.prog w = .ok (.value (.string (bytesOf l))) (w.freeze ⟨gb, of, none⟩ us.length) := by
  have ee : execOp a.eval o = (do pure (.value (← Builtin.unsafeString_ #[pt, it] o.type #[a.eval x, a.eval y])) : Sem Next) := by
   unfold execOp
   rw [ho]
   simp [resolve, invoke, builtin]
  suffices hU : (Builtin.unsafeString_ #[pt, it] o.type #[a.eval x, a.eval y]).run Try.prog w = .ok (.string (bytesOf l)) (w.freeze ⟨gb, of, none⟩ us.length) by
   rw [ee, Sem.run_bind, hU, Result.andThen_ok]
   rfl
  rw [k2, h2, ← hlen, hus, bytesOf_of, Nat.zero_mul, Nat.add_zero]
  refine run_unsafeStr w pt it o.type e hp hc gb of cur.size (by simp [World.shape?, e4]) us (fun hz => by rw [hz, List.length_nil] at hlen; omega) (by omega) (by unfold maxLen at e6; omega) fun j x hj => ?_
  have hj2 := (List.getElem?_eq_some_iff.1 hj).1
  have hcell : (((cur.toList.drop of).take (l.length * 1)))[j]? = some (Value.int .u8 (x.toNat : Int)) := by
   rw [e8, hus]
   simp [hj]
  rw [List.getElem?_take, if_pos (by omega), List.getElem?_drop] at hcell
  have ha : ((⟨gb, of, none⟩ : Addr).add j) = ⟨gb, of + j, none⟩ := by
   unfold Addr.add
   split
   ·rename_i hz
    have hz : j = 0 := by simpa using hz
    subst hz
    rfl
   ·rfl
  rw [ha]
  unfold World.cell?
  simp only [e4]
  simpa using hcell
 unfold Oper.wp
 rw [hrun]
 obtain ⟨f1, f2, f3, f4, f5⟩ := freeze_heap w ⟨gb, of, none⟩ us.length
 have hblk : Blk (hs i) gb := by rw [e1]; exact rfl
 have hg := ((h.mine i _ hm (fun e => by cases e) gb hblk).2 rfl).2
 refine hN _ _ g undef ⟨f1, f2, f3, Nat.le_of_eq f4.symm, fun b _ hk => f5 b (fun e => ?_), Gh.le.refl g, fun _ _ e => .inl e, fun b o' hb' => ?_⟩ ⟨rfl, trivial⟩ trivial
 ·have e : b = gb := e
  exact hk i (by simp) (by rw [e]; exact hblk)
 ·rw [f5 b (fun e => ?_)]
  ·exact h.base.pers b o' hb'
  ·have e : b = gb := e
   rw [e, hg] at hb'
   cases hb'
theorem turnNil (i : Nat) : ∀ a w g hs, Ok' c S a w g hs → ∀ u, At.ok g hs (.v (.pointer none)) u → At.ok g hs (.opt i) u := fun a w g hs _ u h => ⟨.inl h.1, h.2⟩
theorem turnPtr (i : Nat) : ∀ a w g hs, Ok' c S a w g hs → ∀ u, At.ok g hs (.ptr i 0) u → At.ok g hs (.opt i) u := fun a w g hs _ u h => ⟨.inr h.1, h.2⟩
end
theorem itemsOk_head {may : Nat → Prop} {lo : Nat} {M : List Item} {g : Gh} {hs : Nat → Value} {w : World} {X Y : Item} (hf : X.fz = Y.fz) (hX : X ≠ .gone) (h : ItemsOk may lo (X :: M) g hs w) (hy : Y.ok g hs w (hs 0)) : ItemsOk may lo (Y :: M) g hs w := by
 have key : ∀ (i : Nat) (it : Item), (Y :: M)[i]? = some it → ∃ jt, (X :: M)[i]? = some jt ∧ jt.fz = it.fz ∧ (it ≠ .gone → jt ≠ .gone) ∧ (i ≠ 0 → jt = it) ∧ (i = 0 → it = Y) := fun i it hi => by
  cases i with
  | zero =>
   cases hi
   exact ⟨X, rfl, hf, fun _ => hX, fun e => absurd rfl e, fun _ => rfl⟩
  | succ i => exact ⟨it, hi, rfl, id, fun _ => rfl, fun e => by cases e⟩
 refine ⟨fun i it hi => ?_, fun i j it jt hij hi hj hfi hnj => ?_, fun i it hi hn b hb => ?_⟩
 ·obtain ⟨jt, h1, _, _, h4, h5⟩ := key i it hi
  by_cases e : i = 0
  ·rw [h5 e, e]
   exact hy
  ·rw [← h4 e]
   exact h.items i jt h1
 ·obtain ⟨it', h1, h2, _⟩ := key i it hi
  obtain ⟨jt', k1, _, k3, _⟩ := key j jt hj
  exact h.sep i j it' jt' hij h1 k1 (h2.trans hfi) (k3 hnj)
 ·obtain ⟨it', h1, h2, h3, _⟩ := key i it hi
  obtain ⟨m1, m2⟩ := h.mine i it' h1 (h3 hn) b hb
  exact ⟨m1, fun e => m2 (h2.trans e)⟩
theorem mayM_head {M : List Item} {hs : Nat → Value} {X Y : Item} (hf : X.fz = Y.fz) : mayM (X :: M) hs = mayM (Y :: M) hs := by
 have key : ∀ {X Y : Item}, X.fz = Y.fz → ∀ b, mayM (X :: M) hs b → mayM (Y :: M) hs b := fun {X Y} hf b ⟨i, it, h1, h2, h3⟩ => by
  cases i with
  | zero =>
   cases h1
   exact ⟨0, Y, rfl, hf.symm.trans h2, h3⟩
  | succ i => exact ⟨i + 1, it, h1, h2, h3⟩
 exact funext fun b => propext ⟨key hf b, key hf.symm b⟩
theorem ctE_opt {β : Type} {f : Nat} {ins : List SC} {M : List Item} {cells : List At} {t : Nat} {pin : List Nat} {post : β → Prop} {out : β → SC} {M' : β → List Item} (h1 : CtE f ins (.box (.v (.pointer none) :: cells) t false :: M) pin post out M') (h2 : CtE f ins (.box (.ptr 0 0 :: cells) t false :: M) pin post out M') : CtE f ins (.box (.opt 0 :: cells) t false :: M) pin post out M' := fun w g hs args hp ha hi => by
 obtain ⟨b, cs, e1, e2, e3, e4⟩ := hi.items 0 _ rfl
 cases cs with
 | nil => exact e2.elim
 | cons u us =>
  obtain ⟨⟨r1, c1⟩, c2, c3⟩ := e2
  rcases r1 with r1 | r1
  ·have := h1 w g hs args hp ha (itemsOk_head (X := .box (.opt 0 :: cells) t false) (Y := .box (.v (.pointer none) :: cells) t false) rfl (fun e => by cases e) hi ⟨b, u :: us, e1, ⟨⟨r1, c1⟩, c2, c3⟩, e3, e4⟩)
   rwa [mayM_head (X := .box (.v (.pointer none) :: cells) t false) (Y := .box (.opt 0 :: cells) t false) rfl] at this
  ·have := h2 w g hs args hp ha (itemsOk_head (X := .box (.opt 0 :: cells) t false) (Y := .box (.ptr 0 0 :: cells) t false) rfl (fun e => by cases e) hi ⟨b, u :: us, e1, ⟨⟨r1, c1⟩, c2, c3⟩, e3, e4⟩)
   rwa [mayM_head (X := .box (.ptr 0 0 :: cells) t false) (Y := .box (.opt 0 :: cells) t false) rfl] at this
def pinA (P : Nat → Option Value) (D : Nat → Option Nat) : At → At
 | .own i => match P i with
  | some x => .pown i x
  | none => .own i
 | .ptr i k => match D i with
  | some b => .pptr i k b
  | none => .ptr i k
 | a => a
def pinI (P : Nat → Option Value) (D : Nat → Option Nat) : Item → Item
 | .box cells ty fz => .box (cells.map (pinA P D)) ty fz
 | it => it
def pinG (pin : List Nat) (B : Nat → Nat) (i : Nat) : Option Nat := bif pin.any (Nat.beq i) then some (B i) else none
def pinK (L : List (Nat × Nat)) (i : Nat) : Option Nat := match L with
 | [] => none
 | (j, x) :: L => bif Nat.beq i j then some x else pinK L i
def pinF (pin : List Nat) (V : Nat → Value) (i : Nat) : Option Value := bif pin.any (Nat.beq i) then some (V i) else none
def pinL (L : List (Nat × Value)) (i : Nat) : Option Value := match L with
 | [] => none
 | (j, x) :: L => bif Nat.beq i j then some x else pinL L i
section
variable {P : Nat → Option Value} {D : Nat → Option Nat} {g : Gh} {hs : Nat → Value}
theorem pinA_some {i : Nat} {x : Value} (h : P i = some x) : pinA P D (.own i) = .pown i x := by simp only [pinA, h]
theorem pinA_none {i : Nat} (h : P i = none) : pinA P D (.own i) = .own i := by simp only [pinA, h]
theorem pinA_ptr {i k b : Nat} (h : D i = some b) : pinA P D (.ptr i k) = .pptr i k b := by simp only [pinA, h]
theorem pinA_noptr {i k : Nat} (h : D i = none) : pinA P D (.ptr i k) = .ptr i k := by simp only [pinA, h]
theorem pinA_ok (hP : ∀ i x, P i = some x → hs i = x) (hD : ∀ i b, D i = some b → hs i = .pointer (some ⟨b, 0, none⟩)) {a : At} {u : Value} (h : a.ok g hs u) : (pinA P D a).ok g hs u := by
 cases a with
 | own i =>
  cases e : P i with
  | some x => rw [pinA_some e]; exact ⟨⟨hP i x e, h.1⟩, h.2⟩
  | none => rw [pinA_none e]; exact h
 | ptr i k =>
  cases e : D i with
  | some b =>
   rw [pinA_ptr e]
   obtain ⟨⟨b', h1, h2⟩, h3⟩ := h
   have h4 := hD i b e
   rw [h1] at h4
   simp at h4
   subst h4
   exact ⟨⟨h1, h2⟩, h3⟩
  | none => rw [pinA_noptr e]; exact h
 | _ => exact h
theorem unpinA_ok {a : At} {u : Value} (h : (pinA P D a).ok g hs u) : a.ok g hs u := by
 cases a with
 | own i =>
  cases e : P i with
  | some x => rw [pinA_some e] at h; exact ⟨h.1.2, h.2⟩
  | none => rw [pinA_none e] at h; exact h
 | ptr i k =>
  cases e : D i with
  | some b => rw [pinA_ptr e] at h; exact ⟨⟨b, h.1.1, h.1.2⟩, h.2⟩
  | none => rw [pinA_noptr e] at h; exact h
 | _ => exact h
theorem pinA_oks (hP : ∀ i x, P i = some x → hs i = x) (hD : ∀ i b, D i = some b → hs i = .pointer (some ⟨b, 0, none⟩)) : ∀ {l : List At} {us : List Value}, oks g hs l us → oks g hs (l.map (pinA P D)) us
 | [], [], _ => trivial
 | [], _ :: _, h => h.elim
 | _ :: _, [], h => h.elim
 | _ :: _, _ :: _, h => ⟨pinA_ok hP hD h.1, h.2.1, pinA_oks hP hD h.2.2⟩
theorem unpinA_oks : ∀ {l : List At} {us : List Value}, oks g hs (l.map (pinA P D)) us → oks g hs l us
 | [], [], _ => trivial
 | [], _ :: _, h => h.elim
 | _ :: _, [], h => h.elim
 | _ :: _, _ :: _, h => ⟨unpinA_ok h.1, h.2.1, unpinA_oks h.2.2⟩
theorem pinI_ok (hP : ∀ i x, P i = some x → hs i = x) (hD : ∀ i b, D i = some b → hs i = .pointer (some ⟨b, 0, none⟩)) {it : Item} {w : World} {v : Value} (h : it.ok g hs w v) : (pinI P D it).ok g hs w v := by
 cases it with
 | box cells ty fz => obtain ⟨b, cs, h1, h2, h3⟩ := h; exact ⟨b, cs, h1, pinA_oks hP hD h2, h3⟩
 | _ => exact h
theorem unpinI_ok {it : Item} {w : World} {v : Value} (h : (pinI P D it).ok g hs w v) : it.ok g hs w v := by
 cases it with
 | box cells ty fz => obtain ⟨b, cs, h1, h2, h3⟩ := h; exact ⟨b, cs, h1, unpinA_oks h2, h3⟩
 | _ => exact h
theorem pinI_fz {it : Item} : (pinI P D it).fz = it.fz := by cases it <;> rfl
theorem pinI_gone {it : Item} : pinI P D it = .gone ↔ it = .gone := by cases it <;> simp [pinI]
theorem map_pin_get {M : List Item} {i : Nat} {jt : Item} (h : (M.map (pinI P D))[i]? = some jt) : ∃ it, M[i]? = some it ∧ pinI P D it = jt := by
 rw [List.getElem?_map] at h
 cases e : M[i]? with
 | none => rw [e] at h; cases h
 | some it => rw [e] at h; exact ⟨it, rfl, Option.some.inj h⟩
theorem ItemsOk.pin {may : Nat → Prop} {lo : Nat} {M : List Item} {w : World} (hP : ∀ i x, P i = some x → hs i = x) (hD : ∀ i b, D i = some b → hs i = .pointer (some ⟨b, 0, none⟩)) (h : ItemsOk may lo M g hs w) : ItemsOk may lo (M.map (pinI P D)) g hs w := by
 refine ⟨fun i jt hi => ?_, fun i j it jt hij hi hj hf hn => ?_, fun i it hi hn => ?_⟩
 ·obtain ⟨it, h1, rfl⟩ := map_pin_get hi
  exact pinI_ok hP hD (h.items i it h1)
 ·obtain ⟨it', h1, rfl⟩ := map_pin_get hi
  obtain ⟨jt', h2, rfl⟩ := map_pin_get hj
  exact h.sep i j it' jt' hij h1 h2 (by rw [← hf, pinI_fz]) (fun e => hn (pinI_gone.2 e))
 ·obtain ⟨it', h1, rfl⟩ := map_pin_get hi
  rw [pinI_fz]
  exact h.mine i it' h1 (fun e => hn (pinI_gone.2 e))
theorem ItemsOk.unpin {may : Nat → Prop} {lo : Nat} {M : List Item} {w : World} (h : ItemsOk may lo (M.map (pinI P D)) g hs w) : ItemsOk may lo M g hs w := by
 have key : ∀ {i : Nat} {it : Item}, M[i]? = some it → (M.map (pinI P D))[i]? = some (pinI P D it) := fun {i it} e => by rw [List.getElem?_map, e]; rfl
 refine ⟨fun i it hi => unpinI_ok (h.items i _ (key hi)), fun i j it jt hij hi hj hf hn => h.sep i j _ _ hij (key hi) (key hj) (by rw [pinI_fz]; exact hf) (fun e => hn (pinI_gone.1 e)), fun i it hi hn => ?_⟩
 have := h.mine i _ (key hi) (fun e => hn (pinI_gone.1 e))
 rwa [pinI_fz] at this
theorem mayM_pin {M : List Item} : mayM (M.map (pinI P D)) hs = mayM M hs := by
 funext b
 refine propext ⟨?_, ?_⟩
 ·rintro ⟨i, jt, h1, h2, h3⟩
  obtain ⟨it, h4, rfl⟩ := map_pin_get h1
  exact ⟨i, it, h4, by rw [← h2, pinI_fz], h3⟩
 ·rintro ⟨i, it, h1, h2, h3⟩
  exact ⟨i, pinI P D it, by rw [List.getElem?_map, h1]; rfl, by rw [pinI_fz]; exact h2, h3⟩
end
def cellIn (M : List Item) (p : At → Bool) : Bool := M.any fun it => match it with
 | .box cells _ _ => cells.any p
 | _ => false
def isOwn (i : Nat) : At → Bool
 | .own j => Nat.beq i j
 | _ => false
def isPtr (i : Nat) : At → Bool
 | .ptr j 0 => Nat.beq i j
 | _ => false
theorem pinL_mem {L : List (Nat × Value)} {i : Nat} {x : Value} (h : pinL L i = some x) : (i, x) ∈ L := by
 induction L with
 | nil => cases h
 | cons y L ih =>
  obtain ⟨j, z⟩ := y
  unfold pinL at h
  cases e : Nat.beq i j with
  | true =>
   rw [e] at h
   have := Nat.eq_of_beq_eq_true e
   subst this
   have h : some z = some x := h
   cases h
   exact List.mem_cons_self
  | false =>
   rw [e] at h
   exact List.mem_cons_of_mem _ (ih h)
theorem pinK_mem {L : List (Nat × Nat)} {i x : Nat} (h : pinK L i = some x) : (i, x) ∈ L := by
 induction L with
 | nil => cases h
 | cons y L ih =>
  obtain ⟨j, z⟩ := y
  unfold pinK at h
  cases e : Nat.beq i j with
  | true =>
   rw [e] at h
   have := Nat.eq_of_beq_eq_true e
   subst this
   have h : some z = some x := h
   cases h
   exact List.mem_cons_self
  | false =>
   rw [e] at h
   exact List.mem_cons_of_mem _ (ih h)
theorem oks_at {g : Gh} {hs : Nat → Value} : ∀ {l : List At} {us : List Value} {a : At}, oks g hs l us → a ∈ l → ∃ u, a.ok g hs u
 | [], _, _, _, h => by cases h
 | _ :: _, [], _, h, _ => h.elim
 | y :: l, u :: us, a, h, ha => by
  rcases List.mem_cons.1 ha with rfl | ha
  ·exact ⟨u, h.1⟩
  ·exact oks_at h.2.2 ha
theorem cellIn_at {M : List Item} {p : At → Bool} {f : At → At} {F : Item → Item} {may : Nat → Prop} {lo : Nat} {g : Gh} {hs : Nat → Value} {w : World} (hF : ∀ cells ty fz, F (.box cells ty fz) = .box (cells.map f) ty fz) (hm : ItemsOk may lo (M.map F) g hs w) (h : cellIn M p = true) : ∃ a u, p a = true ∧ (f a).ok g hs u := by
 obtain ⟨it, h1, h2⟩ := List.any_eq_true.1 h
 split at h2
 ·rename_i cells ty fz
  obtain ⟨a, h3, h4⟩ := List.any_eq_true.1 h2
  obtain ⟨q, hq⟩ := List.mem_iff_getElem?.1 h1
  obtain ⟨b, cs, _, h6, _⟩ := hm.items q (.box (cells.map f) ty fz) (by rw [List.getElem?_map, hq]; exact congrArg some (hF cells ty fz))
  obtain ⟨u, h7⟩ := oks_at h6 (List.mem_map_of_mem h3)
  exact ⟨a, u, h4, h7⟩
 ·cases h2
theorem CtE.kept {β : Type} {f : Nat} {ins : List SC} {M : List Item} {pin : List Nat} {post : β → Prop} {out : β → SC} {M' : β → List Item} (h : CtE f ins M pin post out M') (L : List (Nat × Value)) (B : List (Nat × Nat)) (hL : (L.all (fun x => cellIn M (isOwn x.1) && pin.any (Nat.beq x.1)) && B.all (fun x => cellIn M (isPtr x.1) && pin.any (Nat.beq x.1))) = true) : CtE f ins (M.map (pinI (pinL L) (pinK B))) pin post out (fun r => (M' r).map (pinI (pinL L) (pinK B))) := fun w g hs args hp ha hm => by
 obtain ⟨hL, hB⟩ := (Bool.and_eq_true _ _).mp hL
 have hP : ∀ i x, pinL L i = some x → hs i = x ∧ i ∈ pin := fun i x e => by
  obtain ⟨m1, m2⟩ := (Bool.and_eq_true _ _).mp (List.all_eq_true.1 hL _ (pinL_mem e))
  obtain ⟨a, u, h4, h7⟩ := cellIn_at (fun _ _ _ => rfl) hm m1
  cases a <;> first | cases h4; done | skip
  have h4 := Nat.eq_of_beq_eq_true h4
  simp only at h4
  subst h4
  rw [pinA_some e] at h7
  exact ⟨h7.1.1, any_beq.1 m2⟩
 have hD : ∀ i b, pinK B i = some b → hs i = .pointer (some ⟨b, 0, none⟩) ∧ i ∈ pin := fun i b e => by
  obtain ⟨m1, m2⟩ := (Bool.and_eq_true _ _).mp (List.all_eq_true.1 hB _ (pinK_mem e))
  obtain ⟨a, u, h4, h7⟩ := cellIn_at (fun _ _ _ => rfl) hm m1
  have h4 : isPtr i a = true := h4
  unfold isPtr at h4
  split at h4
  ·rename_i j
   have h4 := Nat.eq_of_beq_eq_true h4
   subst h4
   rw [pinA_ptr e] at h7
   exact ⟨h7.1.1, any_beq.1 m2⟩
  ·cases h4
 refine (h w g hs args hp ha hm.unpin).mono ?_
 rintro e w' ⟨v, g', hs', r, e1, e2, e3, e4, e5, e6⟩
 rw [mayM_pin]
 exact ⟨v, g', hs', r, e1, e2, e3, e4, e5, e6.pin (fun i x hx => (e4 i (hP i x hx).2).trans (hP i x hx).1) (fun i b hx => (e4 i (hD i b hx).2).trans (hD i b hx).1)⟩
def RetK {β : Type} (c : Cfg) (rs : Array ResultVar) (pin : List Nat) (B : Nat → Nat) (pinr : List Nat) (V : Nat → Value) (post : β → Prop) (out : β → SC) (M' : β → List Item) : Po := fun a w => a.defers = c.dfr ∧ ∃ v g hs r, (resR rs a.tmps).run Try.prog w = .ok v w ∧ post r ∧ (out r).ok g hs v ∧ (∀ i ∈ pin, hs i = .pointer (some ⟨B i, 0, none⟩)) ∧ (∀ i ∈ pinr, hs i = V i) ∧ Base c w g ∧ ItemsOk c.may c.w0.heap.size (M' r) g hs w
def isBoxAt (M : List Item) (i : Nat) : Bool := match M[i]? with
 | some (.box _ _ _) => true
 | _ => false
theorem CtE.bodyP {β : Type} {f : Nat} {fn : Func} {code : Code} {n : Nat} {rs : Array ResultVar} {ins : List SC} {M : List Item} (pin pinr : List Nat) {post : β → Prop} {out : β → SC} {M' : β → List Item} (hf : Try.prog.funcs[f]? = some fn) (hb : fn.body = some code) (hn : fn.ntmps = n) (hr : fn.results = rs)
  (hl : Nat.ble ins.length n = true) (hpin : pin.all (isBoxAt M) = true) (h : ∀ (c : Cfg) (B : Nat → Nat) (V : Nat → Value), c.n = n → En c ⟨enumF 0 (ins.map (pinS pin B)), M.map (pinI (pinF pinr V) (pinG pin B))⟩ (cwp code (PQ c (RetK c rs pin B pinr V post out M') [] (RetK c rs pin B pinr V post out M')))) : CtE f ins M (pin ++ pinr) post out M' := fun w g hs args hp ha hm => by
 have hl := Nat.le_of_ble_eq_true hl
 have hla := okArgs_length ha
 have hB : ∀ i ∈ pin, hs i = .pointer (some ⟨(blk (hs i)).getD 0, 0, none⟩) := fun i hi => by
  have e := List.all_eq_true.1 hpin i hi
  unfold isBoxAt at e
  split at e
  ·rename_i hbx
   obtain ⟨b, cs, h1, _⟩ := hm.items i _ hbx
   rw [h1]
   rfl
  ·cases e
 have hmP := hm.pin (P := pinF pinr hs) (D := pinG pin fun i => (blk (hs i)).getD 0) (fun i x e => by
  unfold pinF at e
  cases hc : pinr.any (Nat.beq i) with
  | true => rw [hc] at e; exact Option.some.inj e
  | false => rw [hc] at e; cases e) (fun i b e => by
  unfold pinG at e
  cases hc : pin.any (Nat.beq i) with
  | true =>
   rw [hc] at e
   rw [hB i (any_beq.1 hc), ← Option.some.inj e]
  | false => rw [hc] at e; cases e)
 refine calls_of_wp hf hb (Code.wp_mono (fun e a w' q => ?_) (h (cfgM n w g (mayM M hs)) (fun i => (blk (hs i)).getD 0) hs rfl { tmps := args.toArray ++ Array.replicate (fn.ntmps - args.toArray.size) undef, defers := [] } w ⟨g, hs, ?_⟩))
 ·have key : RetK (cfgM n w g (mayM M hs)) rs pin (fun i => (blk (hs i)).getD 0) pinr hs post out M' a w' → a.defers = [] ∧ ∃ v, (results fn a.tmps).run Try.prog w' = .ok v w' ∧ ∃ v' g' hs' r, Ending.returned v = .returned v' ∧ post r ∧ (out r).ok g' hs' v' ∧ (∀ i ∈ pin ++ pinr, hs' i = hs i) ∧ Base (cfgM 0 w g (mayM M hs)) w' g' ∧ ItemsOk (mayM M hs) w.heap.size (M' r) g' hs' w' := fun ⟨h1, v, g', hs', r, h2, h3, h4, h5, h5', h6, h7⟩ => by
   refine ⟨h1, v, ?_, v, g', hs', r, rfl, h3, h4, fun i hi => ?_, ⟨h6.os, h6.tape, h6.output, h6.grows, h6.frame, h6.ghle, h6.ghnew, h6.pers⟩, h7⟩
   ·subst hr
    exact h2
   ·rcases List.mem_append.1 hi with hi | hi
    ·exact (h5 i hi).trans (hB i hi).symm
    ·exact h5' i hi
  cases e <;> first | exact key q | exact (q : False).elim | exact (q.2 : False).elim
 ·refine ⟨?_, rfl, ⟨rfl, rfl, rfl, Nat.le_refl _, fun _ _ _ => rfl, Gh.le.refl g, fun b o e => .inl e, hp⟩, fun t x hx => ?_, hmP.items, hmP.sep, fun i it hi hn b hb => ?_⟩
  ·simp [hn]
   omega
  ·obtain ⟨u, h1, _, h3⟩ := enumF_ok (okArgs_pin hB ha) hx
   simp only [Nat.sub_zero] at h1
   have hlt := (List.getElem?_eq_some_iff.1 h1).1
   have : (args.toArray ++ Array.replicate (fn.ntmps - args.toArray.size) undef).getD t undef = u := by
    rw [Array.getD_eq_getD_getElem?, Array.getElem?_append_left (by simpa using hlt)]
    simp [h1]
   rw [this]
   exact h3
  ·obtain ⟨h1, h2⟩ := hmP.mine i it hi hn b hb
   obtain ⟨it', h3, rfl⟩ := map_pin_get hi
   exact ⟨h1, fun hf => ⟨.inl ⟨i, it', h3, by rw [← hf, pinI_fz], hb⟩, (h2 hf).2⟩⟩
def witOf (S : St) : Nat × Option Nat → Option At
 | (t, none) => match look t S.F with
  | some (.sv (.one a)) => some a
  | _ => none
 | (q, some j) => match S.M[q]? with
  | some (.box cells _ _) => cells[j]?
  | _ => none
theorem witOf_ok {c : Cfg} {S : St} {a : Act} {w : World} {g : Gh} {hs : Nat → Value} (h : Ok' c S a w g hs) {x : Nat × Option Nat} {y : At} (e : witOf S x = some y) : ∃ u, y.ok g hs u := by
 obtain ⟨q, j⟩ := x
 cases j with
 | none =>
  unfold witOf at e
  simp only at e
  split at e
  ·rename_i b hl
   cases e
   exact ⟨_, h.slots q _ (look_mem hl)⟩
  ·cases e
 | some j =>
  unfold witOf at e
  simp only at e
  split at e
  ·rename_i cells ty fz hq
   obtain ⟨b, cs, _, h6, _⟩ := h.items q _ hq
   exact oks_at h6 (List.mem_of_getElem? e)
  ·cases e
theorem wits {c : Cfg} {S : St} {a : Act} {w : World} {g : Gh} {hs : Nat → Value} (h : Ok' c S a w g hs) {ws : List (Nat × Option Nat)} {pin : List Nat} {f : Nat → At} (e : ws.map (witOf S) = pin.map fun i => some (f i)) {i : Nat} (hi : i ∈ pin) : ∃ u, (f i).ok g hs u := by
 obtain ⟨j, hj⟩ := List.mem_iff_getElem?.1 hi
 have := congrArg (·[j]?) e
 simp only [List.getElem?_map, hj, Option.map_some] at this
 cases ht : ws[j]? with
 | none => rw [ht] at this; simp at this
 | some t =>
  rw [ht] at this
  simp only [Option.map_some, Option.some.injEq] at this
  exact witOf_ok h this
section
variable {c : Cfg} {S : St} {tab : Tab}
theorem En.backP {β : Type} {post : β → Prop} {out : β → SC} {M' : β → List Item} {rs : Array ResultVar} {pin : List Nat} {B : Nat → Nat} {pinr : List Nat} {V : Nat → Value} (ts ws : List (Nat × Option Nat)) (ht : tab.ok) (r : β) (hp : post r) (e : evR tab S rs = some (out r)) (hM : (dropM ((M' r).map (pinI (pinF pinr V) (pinG pin B))) S.M).1 = (dropM ((M' r).map (pinI (pinF pinr V) (pinG pin B))) S.M).2)
  (hB : ts.map (witOf S) = pin.map fun i => some (.pptr i 0 (B i))) (hR : ws.map (witOf S) = pinr.map fun i => some (.pown i (V i))) : En c S (RetK c rs pin B pinr V post out M') := fun a w ⟨g, hs, h⟩ => by
 obtain ⟨v, h1, h2⟩ := evR_ok ht h e
 have hM := dropM_ok hM
 have hm : ∀ (i : Nat) (it : Item), ((M' r).map (pinI (pinF pinr V) (pinG pin B)))[i]? = some it → it ≠ .gone → S.M[i]? = some it := fun i it hi hn => (hM i it hi).resolve_left hn
 have hI : ItemsOk c.may c.w0.heap.size ((M' r).map (pinI (pinF pinr V) (pinG pin B))) g hs w := by
  refine ⟨fun i it hi => ?_, fun i j it jt hij hi hj hfi hnj => h.sep i j it jt hij (hm i it hi (fz_gone hfi)) (hm j jt hj hnj) hfi hnj, fun i it hi hni => h.mine i it (hm i it hi hni) hni⟩
  rcases hM i it hi with rfl | h1
  ·trivial
  ·exact h.items i it h1
 refine ⟨h.defers, v, g, hs, r, h1, hp, h2, fun i hi => ?_, fun i hi => ?_, h.base, hI.unpin⟩
 ·obtain ⟨u, hu⟩ := wits h hB hi
  exact hu.1.1
 ·obtain ⟨u, hu⟩ := wits h hR hi
  exact hu.1.1
end
theorem dlt {k n : Nat} (h : decide ((k : Int) < (n : Int)) = true) : k < n := by
 have := of_decide_eq_true h
 omega
theorem dge {k n : Nat} (h : decide ((k : Int) < (n : Int)) = false) : n ≤ k := by
 have := of_decide_eq_false h
 omega
theorem wsucc {k : Nat} (h : k < 9223372036854775807) : wr ((k : Int) + 1) = ((k + 1 : Nat) : Int) := by
 rw [wr_in (by omega) (by omega)]
 rfl
theorem mu_up {n k : Nat} (h : k < n) (hk : k < 9223372036854775807) : n - (wr ((k : Int) + 1)).toNat < n - (k : Int).toNat := by
 rw [wsucc hk, Int.toNat_natCast, Int.toNat_natCast]
 omega
theorem idx_at {α : Type} {l : List α} {k : Nat} (h : k < l.length) : idx l (k : Int) = some l[k] := by simp [idx, h]
theorem idx_of {α : Type} {l : List α} {i : Int} (z : α) (h0 : 0 ≤ i) (h1 : i < (l.length : Int)) : idx l i = some (l.getD i.toNat z) := by
 have h : i.toNat < l.length := by omega
 unfold idx
 rw [if_pos h0, List.getD_eq_getElem?_getD, List.getElem?_eq_getElem h]
 rfl
theorem capOk_of {n m b : Nat} (h : (n + m) * b ≤ 140737488355328) : capOk n m b := h
section
variable {c : Cfg} {S : St} {tab : Tab} {n : Nat} {o : Oper} {N : Po}
end
def RetL (fn : Func) (R : Ending → World → Prop) : Po := fun a w => Leaves Try.prog fn a.tmps R a.defers .returning w
theorem Ct.bodyD {β : Type} {f : Nat} {fn : Func} {code : Code} {n : Nat} {ins : List SC} {post : β → Prop} {out : β → SC} (hf : Try.prog.funcs[f]? = some fn) (hb : fn.body = some code) (hn : fn.ntmps = n) (hl : Nat.ble ins.length n = true)
  (h : ∀ (c : Cfg) (R : Ending → World → Prop), c.n = n → c.dfr = [] → (∀ v w' g' r, post r → (out r).ok g' hs0 v → Base c w' g' → R (.returned v) w') → (∀ ch a w', Leaves Try.prog fn a.tmps R a.defers (.panicking ch) w' → c.pan ch a w') → En c ⟨enumF 0 ins, []⟩ (cwp code (PQ c (RetL fn R) [] (RetL fn R)))) : Ct f ins [] post out := fun w g hs args hp ha hm => by
 have hl := Nat.le_of_ble_eq_true hl
 have hla := okArgs_length ha
 let R := RetP w g post out
 let c : Cfg := ⟨n, w, g, fun _ => False, [], fun ch a w' => Leaves Try.prog fn a.tmps R a.defers (.panicking ch) w'⟩
 have hR : ∀ v w' g' r, post r → (out r).ok g' hs0 v → Base c w' g' → R (.returned v) w' := fun v w' g' r h1 h2 h3 => ⟨v, g', r, rfl, h1, h2, h3.cast rfl rfl rfl⟩
 refine calls_of_wp_defers hf hb (Code.wp_mono (fun e a w' q => ?_) (h c R rfl rfl hR (fun _ _ _ h => h) { tmps := args.toArray ++ Array.replicate (fn.ntmps - args.toArray.size) undef, defers := [] } w ⟨g, hs, ?_⟩))
 ·cases e with
  | panic ch => exact q
  | normal => exact q
  | ret => exact q
  | exit _ => exact (q : False).elim
  | goto _ => exact (q : False).elim
  | outgrown => exact (q : False).elim
 ·refine ⟨?_, rfl, ⟨rfl, rfl, rfl, Nat.le_refl _, fun _ _ _ => rfl, Gh.le.refl g, fun b o e => .inl e, hp⟩, fun t x hx => ?_, fun i it hi => by simp at hi, fun i j it jt _ hi => by simp at hi, fun i it hi => by simp at hi⟩
  ·simp [c, hn]
   omega
  ·obtain ⟨u, h1, _, h3⟩ := enumF_ok ha hx
   simp only [Nat.sub_zero] at h1
   have hlt := (List.getElem?_eq_some_iff.1 h1).1
   have : (args.toArray ++ Array.replicate (fn.ntmps - args.toArray.size) undef).getD t undef = u := by
    rw [Array.getD_eq_getD_getElem?, Array.getElem?_append_left (by simpa using hlt)]
    simp [h1]
   rw [this]
   exact h3
def CtD (f : Nat) (M M' : List Item) (u u' : FrameMode) : Prop := ∀ (w : World) (g : Gh) (hs : Nat → Value), Pers g w → ItemsOk (fun _ => True) 0 M g hs w → (∃ b0 b1, hs 0 = .pointer (some ⟨b0, 0, none⟩) ∧ hs 1 = .pointer (some ⟨b1, 0, none⟩)) →
 CallsD Try.prog f #[hs 0, hs 1] u w (fun e u2 w' => u2 = u' ∧ ∃ v g' hs', e = .returned v ∧ (∀ i ∈ [0, 1], hs' i = hs i) ∧ Base (cfgM 0 w g (mayM M hs)) w' g' ∧ ItemsOk (mayM M hs) w.heap.size M' g' hs' w')
theorem CtD.body {f : Nat} {fn : Func} {id d n : Nat} {o : Oper} {y : Code} {M M' : List Item} {u u' : FrameMode} {pv : Value} (hf : Try.prog.funcs[f]? = some fn) (hb : fn.body = some (.seq (.region id #[o] false) y)) (hn : fn.ntmps = n) (hr : fn.results = #[]) (h2n : Nat.blt 2 n = true) (hdn : Nat.blt d n = true) (hd2 : Nat.blt 1 d = true)
  (hop : o.op = .call ⟨.builtin .recover, #[], #[]⟩) (hg : o.guard = none) (hod : o.dst = some d) (hrec : ∀ (c₀ : Frame) (cs : List Frame), c₀.mode = u → (match recoverD (c₀ :: cs) with
   | some (v, cs') => v = pv ∧ cs' = { c₀ with mode := u' } :: cs
   | none => .nilIface = pv ∧ u = u')) (hpv : cellV pv)
  (h : ∀ (c : Cfg) (B : Nat → Nat), c.n = n → En c ⟨[(0, .sv (.one (.pptr 0 0 (B 0)))), (1, .sv (.one (.pptr 1 0 (B 1)))), (d, .sv (.one (.v pv)))], M⟩ (cwp y (PQ c (RetE c #[] [0, 1] B (fun (_ : Unit) => True) (fun _ => .tup []) (fun _ => M')) [] (RetE c #[] [0, 1] B (fun (_ : Unit) => True) (fun _ => .tup []) (fun _ => M'))))) : CtD f M M' u u' := fun w g hs hp hm ⟨b0, b1, e0, e1⟩ => by
 have h2n := Nat.le_of_ble_eq_true h2n
 have hdn := Nat.le_of_ble_eq_true hdn
 have hd2 := Nat.le_of_ble_eq_true hd2
 refine callsD_of_wpS hf hb fun c₀ cs hu => ?_
 apply wpS_seq
 apply wpS_region
 have hl : List.range (#[o] : Array Oper).size = [0] := rfl
 rw [hl]
 let a0 : Act := { tmps := #[hs 0, hs 1] ++ Array.replicate (fn.ntmps - (#[hs 0, hs 1] : Array Value).size) undef, defers := [] }
 have hwant : Region.wanted o (yielded #[o] a0.tmps) = true := by unfold Region.wanted; rw [hg]
 have hrun : (execOp a0.eval o).run Try.prog w = .ok .recover w := by
  unfold execOp
  rw [hop]
  rfl
 have key : (y.wpS Try.prog (bodyPostS Try.prog fn c₀ cs fun e u2 w' => u2 = u' ∧ ∃ v g' hs', e = .returned v ∧ (∀ i ∈ [0, 1], hs' i = hs i) ∧ Base (cfgM 0 w g (mayM M hs)) w' g' ∧ ItemsOk (mayM M hs) w.heap.size M' g' hs' w') (a0.put (some d) pv) ({ c₀ with mode := u' } :: cs) w) := by
  refine wpS_of_wp ?_
  let B : Nat → Nat := fun i => if i = 0 then b0 else b1
  refine Code.wp_mono (fun e a w' q => ?_) (h (cfgM n w g (mayM M hs)) B rfl (a0.put (some d) pv) w ⟨g, hs, ?_⟩)
  ·have fin : RetE (cfgM n w g (mayM M hs)) #[] [0, 1] B (fun (_ : Unit) => True) (fun _ => .tup []) (fun _ => M') a w' → a.defers = [] ∧ ∃ u2, ({ c₀ with mode := u' } :: cs : List Frame) = { c₀ with mode := u2 } :: cs ∧ ∃ v, (results fn a.tmps).run Try.prog w' = .ok v w' ∧ (u2 = u' ∧ ∃ v' g' hs', Ending.returned v = .returned v' ∧ (∀ i ∈ [0, 1], hs' i = hs i) ∧ Base (cfgM 0 w g (mayM M hs)) w' g' ∧ ItemsOk (mayM M hs) w.heap.size M' g' hs' w') := fun ⟨h1, v, g', hs', _, h2, _, _, h5, h6, h7⟩ => by
    refine ⟨h1, u', rfl, v, ?_, rfl, v, g', hs', rfl, fun i hi => (h5 i hi).trans ?_, h6.cast rfl rfl rfl, h7⟩
    ·have := h2
     unfold results
     rw [hr]
     exact this
    ·simp at hi
     rcases hi with rfl | rfl
     ·exact e0.symm
     ·exact e1.symm
   cases e with
   | normal => exact fin q
   | ret => exact fin q
   | panic _ => exact (q : False).elim
   | exit _ => exact (q : False).elim
   | goto _ => exact (q : False).elim
   | outgrown => exact (q : False).elim
  ·have hsz : a0.tmps.size = n := by
    simp only [a0, Array.size_append, Array.size_replicate, hn, List.size_toArray, List.length_cons, List.length_nil]
    omega
   have hget : ∀ t v, t ≠ d → a0.tmps.getD t undef = v → (a0.put (some d) pv).tmps.getD t undef = v := fun t v ht hv => by
    simp only [Act.put]
    rw [Array.getD_eq_getD_getElem?, Array.getElem?_setIfInBounds_ne (Ne.symm ht), ← Array.getD_eq_getD_getElem?]
    exact hv
   refine ⟨by simp [Act.put, hsz], rfl, ⟨rfl, rfl, rfl, Nat.le_refl _, fun _ _ _ => rfl, Gh.le.refl g, fun b o e => .inl e, hp⟩, fun t x hx => ?_, hm.items, hm.sep, fun i it hi hn' b hb => ?_⟩
   ·simp only [List.mem_cons, List.not_mem_nil, or_false, Prod.mk.injEq] at hx
    rcases hx with ⟨rfl, rfl⟩ | ⟨rfl, rfl⟩ | ⟨rfl, rfl⟩
    ·rw [hget 0 (hs 0) (by omega) (by show (#[hs 0, hs 1] ++ Array.replicate _ undef : Array Value).getD 0 undef = hs 0; rw [Array.getD_eq_getD_getElem?, Array.getElem?_append_left (by simp)]; rfl)]
     exact ⟨⟨e0, e0⟩, by rw [e0]; trivial⟩
    ·rw [hget 1 (hs 1) (by omega) (by show (#[hs 0, hs 1] ++ Array.replicate _ undef : Array Value).getD 1 undef = hs 1; rw [Array.getD_eq_getD_getElem?, Array.getElem?_append_left (by simp)]; rfl)]
     exact ⟨⟨e1, e1⟩, by rw [e1]; trivial⟩
    ·have : (a0.put (some t) pv).tmps.getD t undef = pv := by
      have ht : t < a0.tmps.size := by omega
      simp [Act.put, ht]
     rw [this]
     exact ⟨rfl, hpv⟩
   ·obtain ⟨h1, h2⟩ := hm.mine i it hi hn' b hb
    exact ⟨h1, fun hf => ⟨.inl ⟨i, it, hi, hf, hb⟩, (h2 hf).2⟩⟩
 show wpOpsS Try.prog #[o] _ [0] a0 (c₀ :: cs) w
 have hr0 := hrec c₀ cs hu
 unfold wpOpsS
 have h0 : (#[o] : Array Oper)[0]? = some o := rfl
 rw [h0]
 simp only
 rw [if_pos hwant, hrun]
 simp only
 cases hrd : recoverD (c₀ :: cs) with
 | none =>
  rw [hrd] at hr0
  simp only at hr0 ⊢
  obtain ⟨k1, k2⟩ := hr0
  unfold wpOpsS
  show y.wpS Try.prog _ (a0.put o.dst .nilIface) (c₀ :: cs) w
  rw [hod, k1]
  have : c₀ = { c₀ with mode := u' } := by rw [← k2, ← hu]
  rw [this]
  exact key
 | some x =>
  obtain ⟨v, cs'⟩ := x
  rw [hrd] at hr0
  simp only at hr0 ⊢
  obtain ⟨rfl, rfl⟩ := hr0
  unfold wpOpsS
  show y.wpS Try.prog _ (a0.put o.dst v) _ w
  rw [hod]
  exact key
section
variable {c : Cfg} {S S1 : St} {a : Act} {w : World} {g : Gh} {hs : Nat → Value} {tab : Tab} {n : Nat} {o : Oper} {ops : Array Oper} {rest : List Oper} {N R : Po} {E : List (Nat × Po)}
theorem val_ifNil {x : Operand} {t : Nat} {b : TypeId} {y : Operand} {ty : Nat} {v : Value} (ho : o.op = .binOp .eql t x y b) (hx : evX S.F x = some (.sv (.one (.v (.iface ty v))))) (hy : evX S.F y = some (.sv (.one (.v .nilIface)))) (hrun : ∀ w, (do eqGuard .eql t x y (.iface ty v) .nilIface; binOp .eql t (.iface ty v) .nilIface : Sem Value).run Try.prog w = .ok (.bool false) w) : Val c S o (.sv (.one (B false))) := fun a w g hs h => by
 have h1 : a.eval x = .iface ty v := (evX_ok h hx).1
 have h2 : a.eval y = .nilIface := (evX_ok h hy).1
 refine ⟨_, ?_, rfl, trivial⟩
 have e : execOp a.eval o = (do pure (.value (← (do eqGuard .eql t x y (a.eval x) (a.eval y); binOp .eql t (a.eval x) (a.eval y) : Sem Value))) : Sem Next) := by unfold execOp; rw [ho]
 rw [e]
 refine run_val ?_
 rw [h1, h2]
 exact hrun w
theorem val_nilNil {x : Operand} {t : Nat} {b : TypeId} {y : Operand} (ho : o.op = .binOp .eql t x y b) (hx : evX S.F x = some (.sv (.one (.v .nilIface)))) (hy : evX S.F y = some (.sv (.one (.v .nilIface)))) (hrun : ∀ w, (do eqGuard .eql t x y .nilIface .nilIface; binOp .eql t .nilIface .nilIface : Sem Value).run Try.prog w = .ok (.bool true) w) : Val c S o (.sv (.one (B true))) := fun a w g hs h => by
 have h1 : a.eval x = .nilIface := (evX_ok h hx).1
 have h2 : a.eval y = .nilIface := (evX_ok h hy).1
 refine ⟨_, ?_, rfl, trivial⟩
 have e : execOp a.eval o = (do pure (.value (← (do eqGuard .eql t x y (a.eval x) (a.eval y); binOp .eql t (a.eval x) (a.eval y) : Sem Value))) : Sem Next) := by unfold execOp; rw [ho]
 rw [e]
 refine run_val ?_
 rw [h1, h2]
 exact hrun w
theorem val_assert {x : Operand} {t1 t2 : Nat} {ty : Nat} {cs : List Value} {l : List At} (ho : o.op = .typeAssert x t1 t2 true) (hx : evX S.F x = some (.sv (.one (.v (.iface ty (.agg cs.toArray)))))) (hl : l = cs.map .v) (hc : ∀ c ∈ cs, cellV c) (hrun : ∀ w, (Instr.typeAssert (.iface ty (.agg cs.toArray)) t1 t2 true).run Try.prog w = .ok (.tuple #[.agg cs.toArray, .bool true]) w) : Val c S o (.tup [.agg l, .one (B true)]) := fun a w g hs h => by
 have h1 : a.eval x = .iface ty (.agg cs.toArray) := (evX_ok h hx).1
 subst hl
 refine ⟨.tuple #[.agg cs.toArray, .bool true], ?_, [.agg cs.toArray, .bool true], rfl, ⟨cs, rfl, oks_vals hc⟩, ⟨rfl, trivial⟩, trivial⟩
 have e : execOp a.eval o = (do pure (.value (← Instr.typeAssert (a.eval x) t1 t2 true)) : Sem Next) := by unfold execOp; rw [ho]
 rw [e, h1]
 exact run_val (hrun w)
theorem WL.defer {F t0 t1 d i j : Nat} (hw : wantE ops S.F o = some true) (ho : o.op = .defer ⟨.value (.tmp d), #[], #[]⟩) (hd : o.dst = none) (hf : look d S.F = some (.sv (.one (.fn F [i, j])))) (h0 : look t0 S.F = some (.sv (.one (.ptr i 0)))) (h1 : look t1 S.F = some (.sv (.one (.ptr j 0)))) (hc : c.dfr = [])
  (h : ∀ (c' : Cfg) (B : Nat → Nat), c'.n = c.n → c'.w0 = c.w0 → c'.g0 = c.g0 → c'.may = c.may → c'.pan = c.pan → c'.dfr = [⟨.fn (.func F) #[.pointer (some ⟨B i, 0, none⟩), .pointer (some ⟨B j, 0, none⟩)], #[]⟩] → WL c' ops rest ⟨(t0, .sv (.one (.pptr i 0 (B i)))) :: (t1, .sv (.one (.pptr j 0 (B j)))) :: S.F, S.M⟩ N) : WL c ops (o :: rest) S N := fun a w ⟨g, hs, hk⟩ => by
 unfold wpList
 rw [if_pos (wantE_ok hk hw)]
 refine .inl ?_
 unfold Oper.wp
 have hfv : a.tmps.getD d undef = .func (.func F) #[] #[hs i, hs j] := (hk.slots d _ (look_mem hf)).1
 obtain ⟨B, eB0, eB1⟩ : ∃ B : Nat → Nat, hs i = .pointer (some ⟨B i, 0, none⟩) ∧ hs j = .pointer (some ⟨B j, 0, none⟩) := by
  obtain ⟨⟨b0, e0, _⟩, _⟩ := hk.slots t0 _ (look_mem h0)
  obtain ⟨⟨b1, e1, _⟩, _⟩ := hk.slots t1 _ (look_mem h1)
  refine ⟨fun k => if k = i then b0 else b1, by show hs i = .pointer (some ⟨if i = i then b0 else b1, 0, none⟩); rw [if_pos rfl]; exact e0, ?_⟩
  show hs j = .pointer (some ⟨if j = i then b0 else b1, 0, none⟩)
  by_cases e : j = i
  ·rw [if_pos e, e]; exact e0
  ·rw [if_neg e]; exact e1
 obtain ⟨⟨b0, e0, e0'⟩, _⟩ := hk.slots t0 _ (look_mem h0)
 obtain ⟨⟨b1, e1, e1'⟩, _⟩ := hk.slots t1 _ (look_mem h1)
 have k0 : b0 = B i := by rw [e0] at eB0; simpa using eB0
 have k1 : b1 = B j := by rw [e1] at eB1; simpa using eB1
 have hrun : (execOp a.eval o).run Try.prog w = .ok (.defer ⟨.fn (.func F) #[hs i, hs j], #[]⟩) w := by
  unfold execOp
  have hev : a.eval (.tmp d) = .func (.func F) #[] #[hs i, hs j] := hfv
  simp only [ho, resolve, hev, Deferred.ofValue, Sem.run_bind, Sem.run_pure, Result.andThen_ok]
  simp
 rw [hrun]
 show wpList Try.prog ops (OnlyP c N) rest _ w
 let c' : Cfg := { c with dfr := [⟨.fn (.func F) #[.pointer (some ⟨B i, 0, none⟩), .pointer (some ⟨B j, 0, none⟩)], #[]⟩] }
 have := h c' B rfl rfl rfl rfl rfl rfl ({ a with defers := ⟨.fn (.func F) #[hs i, hs j], #[]⟩ :: a.defers }.put o.dst undef) w ⟨g, hs, ?_⟩
 ·have e : OnlyP c' N = OnlyP c N := rfl
  rw [← e]
  exact this
 ·rw [hd]
  refine ⟨hk.size, ?_, hk.base.cast rfl rfl rfl, fun t x hx => ?_, hk.items, hk.sep, hk.mine⟩
  ·show (⟨.fn (.func F) #[hs i, hs j], #[]⟩ : Deferred) :: a.defers = _
   rw [hk.defers, hc, eB0, eB1]
  ·rcases List.mem_cons.1 hx with hx | hx
   ·cases hx
    exact ⟨⟨eB0, by rw [← k0]; exact e0'⟩, (hk.slots _ _ (look_mem h0)).2⟩
   ·rcases List.mem_cons.1 hx with hx | hx
    ·cases hx
     exact ⟨⟨eB1, by rw [← k1]; exact e1'⟩, (hk.slots _ _ (look_mem h1)).2⟩
    ·exact hk.slots t x hx
theorem En.cfg {c' : Cfg} {y : Code} (h : c'.pan = c.pan) (k : En c' S (cwp y (PQ c' N E R))) : En c' S (cwp y (PQ c N E R)) := by
 have e : PQ c N E R = PQ c' N E R := by
  funext ex a w
  cases ex <;> first | rfl | (show c.pan _ _ _ = c'.pan _ _ _; rw [h])
 rw [e]
 exact k
theorem Ok'.afterX (h : Ok' c S a w g hs) {M : List Item} {rn : List Nat} (hM : M.map (fun it => some (it.mv (rnF rn S.M.length))) = rn.map (fun j => S.M[j]?)) {w' : World} {g' : Gh} (hb : Base (cfgM 0 w g (mayM M (fun i => hs (rnF rn S.M.length i)))) w' g') : Ok' c ⟨S.F, goneM S.M rn⟩ a w' g' hs := by
 have hat : ∀ (i : Nat) (it : Item), M[i]? = some it → ∃ j, rn[i]? = some j ∧ rnF rn S.M.length i = j ∧ S.M[j]? = some (it.mv (rnF rn S.M.length)) := fun i it hi => by
  have := congrArg (·[i]?) hM
  simp only [List.getElem?_map, hi, Option.map_some] at this
  cases hr : rn[i]? with
  | none => rw [hr] at this; simp at this
  | some j =>
   rw [hr] at this
   simp at this
   have hlt := (List.getElem?_eq_some_iff.1 hr).1
   refine ⟨j, rfl, ?_, this.symm⟩
   unfold rnF
   rw [show Nat.blt i rn.length = true from by simpa [Nat.blt_eq] using hlt]
   simp [hr]
 have hmay : ∀ b, mayM M (fun i => hs (rnF rn S.M.length i)) b → ∃ j it, j ∈ rn ∧ S.M[j]? = some it ∧ it.fz = false ∧ Blk (hs j) b := fun b ⟨i, it, h1, h2, h3⟩ => by
  obtain ⟨j, h4, h5, h6⟩ := hat i it h1
  simp only [h5] at h3
  exact ⟨j, _, List.mem_of_getElem? h4, h6, by rw [Item.mv_fz]; exact h2, h3⟩
 have hoth : ∀ k jt b, k ∉ rn → S.M[k]? = some jt → jt ≠ .gone → Blk (hs k) b → ¬ mayM M (fun i => hs (rnF rn S.M.length i)) b := fun k jt b h1 h2 h3 h4 h5 => by
  obtain ⟨j, it, h6, h7, h8, h9⟩ := hmay b h5
  exact h.sep j k it jt (fun e => h1 (e ▸ h6)) h7 h2 h8 h3 b h9 h4
 refine ⟨h.size, h.defers, Base.callM h hM hb, fun t x hx => SC.mono hb.ghle (h.slots t x hx), fun k kt hk => ?_, fun k l kt lt hkl hk hl hf hn b hb1 => ?_, fun k kt hk hn b hb1 => ?_⟩
 ·by_cases hn : kt = .gone
  ·subst hn; trivial
  ·obtain ⟨h1, h2⟩ := goneM_get k kt hk hn
   exact Item.same hb.ghle (fun b hb1 => hb.frame b (h.mine k kt h2 hn b hb1).1 (hoth k kt b h1 h2 hn hb1)) (h.items k kt h2)
 ·obtain ⟨h1, h2⟩ := goneM_get k kt hk (fz_gone hf)
  obtain ⟨h3, h4⟩ := goneM_get l lt hl hn
  exact h.sep k l kt lt hkl h2 h4 hf hn b hb1
 ·obtain ⟨h1, h2⟩ := goneM_get k kt hk hn
  obtain ⟨m1, m2⟩ := h.mine k kt h2 hn b hb1
  refine ⟨Nat.lt_of_lt_of_le m1 hb.grows, fun hf => ⟨(m2 hf).1, ?_⟩⟩
  cases hg : g' b with
  | none => rfl
  | some o =>
   rcases hb.ghnew b o hg with h5 | h5 | h5
   ·have h6 := (m2 hf).2
    have h5 : g b = some o := h5
    rw [h6] at h5; cases h5
   ·exact absurd h5 (hoth k kt b h1 h2 hn hb1)
   ·have : w.heap.size ≤ b := h5
    omega
theorem leave_one {β : Type} {fn : Func} {R : Ending → World → Prop} {rs : Array ResultVar} {post : β → Prop} {out : β → SC} {f t0 t1 i j b0 b1 : Nat} {M M' : List Item} {u u' : FrameMode} {S2 : St} (ht : tab.ok) (hk : Ok' c S a w g hs) (hr : fn.results = rs) (hR : ∀ v w' g' r, post r → (out r).ok g' hs0 v → Base c w' g' → R (.returned v) w')
  (hdf : c.dfr = [⟨.fn (.func f) #[.pointer (some ⟨b0, 0, none⟩), .pointer (some ⟨b1, 0, none⟩)], #[]⟩]) (h0 : look t0 S.F = some (.sv (.one (.pptr i 0 b0)))) (h1 : look t1 S.F = some (.sv (.one (.pptr j 0 b1)))) (hu : u ≠ .run) (hs' : settle u' = .returning)
  (ct : CtD f M M' u u') (en : ∀ args w, (callFunc f args).run Try.prog w = .ok (.enter f args) w) (hM : M.map (fun it => some (it.mv (rnF [i, j] S.M.length))) = [i, j].map (fun j => S.M[j]?)) (hnd : [i, j].Nodup) (hal : aloneE S [i, j] [0, 1] = true) (hrf : refsB M' = true) (hlen : M.length ≤ M'.length) (hbk : backC [0, 1] M M' = true)
  (hS2 : S2 = ⟨S.F, putItems (rnF [i, j] S.M.length) S.M [i, j] M'⟩) (r : β) (hp : post r) (e : evR tab S2 rs = some (out r)) (hcl : (out r).refs = []) : Leaves Try.prog fn a.tmps R a.defers u w := by
 rw [hk.defers, hdf]
 have e0 : hs i = .pointer (some ⟨b0, 0, none⟩) := (hk.slots t0 _ (look_mem h0)).1.1
 have e1 : hs j = .pointer (some ⟨b1, 0, none⟩) := (hk.slots t1 _ (look_mem h1)).1.1
 refine leaves_cons (f := f) (args := #[.pointer (some ⟨b0, 0, none⟩), .pointer (some ⟨b1, 0, none⟩)]) hu (by
  simp only [invoke]
  rw [show (#[] ++ #[Value.pointer (some ⟨b0, 0, none⟩), Value.pointer (some ⟨b1, 0, none⟩)] : Array Value) = #[.pointer (some ⟨b0, 0, none⟩), .pointer (some ⟨b1, 0, none⟩)] by simp]
  exact en _ _) ?_
 have hr0 : rnF [i, j] S.M.length 0 = i := rfl
 have hr1 : rnF [i, j] S.M.length 1 = j := rfl
 have hcall := ct w g (fun k => hs (rnF [i, j] S.M.length k)) hk.base.pers (items_in hk hM hnd) ⟨b0, b1, by rw [hr0]; exact e0, by rw [hr1]; exact e1⟩
 simp only [hr0, hr1, e0, e1] at hcall
 refine hcall.mono ?_
 rintro e' u2 w' ⟨rfl, v, g', hs'', rfl, k1, k2, k3⟩
 show Leaves Try.prog fn a.tmps R [] (settle u2) w'
 rw [hs']
 obtain ⟨hsN, n1, n2⟩ := hk.backE hM hnd hal hrf hlen (backB_of hbk) (fun q hq => k1 q hq) (fun q hq => by simp at hq; rcases hq with rfl | rfl <;> simp) k2 k3
 rw [← hS2] at n1
 obtain ⟨v', r1, r2⟩ := evR_ok ht n1 e
 refine ⟨v', ?_, hR v' w' g' r hp (SC.ok_closed hcl r2) n1.base⟩
 subst hr
 exact r1
theorem En.backD {β : Type} {fn : Func} {R : Ending → World → Prop} {rs : Array ResultVar} {post : β → Prop} {out : β → SC} {f b0 b1 : Nat} {M M' : List Item} {S2 : St} (t0 t1 i j : Nat) (ht : tab.ok) (hr : fn.results = rs) (hR : ∀ v w' g' r, post r → (out r).ok g' hs0 v → Base c w' g' → R (.returned v) w')
  (hdf : c.dfr = [⟨.fn (.func f) #[.pointer (some ⟨b0, 0, none⟩), .pointer (some ⟨b1, 0, none⟩)], #[]⟩]) (h0 : look t0 S.F = some (.sv (.one (.pptr i 0 b0)))) (h1 : look t1 S.F = some (.sv (.one (.pptr j 0 b1))))
  (ct : CtD f M M' .returning .returning) (en : ∀ args w, (callFunc f args).run Try.prog w = .ok (.enter f args) w) (hM : M.map (fun it => some (it.mv (rnF [i, j] S.M.length))) = [i, j].map (fun j => S.M[j]?)) (hnd : [i, j].Nodup) (hal : aloneE S [i, j] [0, 1] = true) (hrf : refsB M' = true) (hlen : M.length ≤ M'.length) (hbk : backC [0, 1] M M' = true)
  (hS2 : S2 = ⟨S.F, putItems (rnF [i, j] S.M.length) S.M [i, j] M'⟩) (r : β) (hp : post r) (e : evR tab S2 rs = some (out r)) (hcl : (out r).refs = []) : En c S (RetL fn R) := fun a w ⟨g, hs, hk⟩ =>
 leave_one ht hk hr hR hdf h0 h1 (by simp) rfl ct en hM hnd hal hrf hlen hbk hS2 r hp e hcl
theorem En.backD0 {β : Type} {fn : Func} {R : Ending → World → Prop} {rs : Array ResultVar} {post : β → Prop} {out : β → SC} (ht : tab.ok) (hr : fn.results = rs) (hR : ∀ v w' g' r, post r → (out r).ok g' hs0 v → Base c w' g' → R (.returned v) w') (hdf : c.dfr = []) (r : β) (hp : post r) (e : evR tab S rs = some (out r)) (hcl : (out r).refs = []) : En c S (RetL fn R) := fun a w ⟨g, hs, hk⟩ => by
 show Leaves Try.prog fn a.tmps R a.defers .returning w
 rw [hk.defers, hdf]
 obtain ⟨v', r1, r2⟩ := evR_ok ht hk e
 refine ⟨v', ?_, hR v' w g r hp (SC.ok_closed hcl r2) hk.base⟩
 subst hr
 exact r1
theorem leftD {β : Type} {fn : Func} {R : Ending → World → Prop} {rs : Array ResultVar} {post : β → Prop} {out : β → SC} {f b0 b1 ty : Nat} {M M0 : List Item} {M' : Int → Int → List Item} {rn : List Nat} {S2 : Int → Int → St} (t0 t1 i j : Nat) (ht : tab.ok) (hr : fn.results = rs) (hR : ∀ v w' g' r, post r → (out r).ok g' hs0 v → Base c w' g' → R (.returned v) w') (hpan : ∀ ch a w', Leaves Try.prog fn a.tmps R a.defers (.panicking ch) w' → c.pan ch a w')
  (hdf : c.dfr = [⟨.fn (.func f) #[.pointer (some ⟨b0, 0, none⟩), .pointer (some ⟨b1, 0, none⟩)], #[]⟩]) (h0 : look t0 S.F = some (.sv (.one (.pptr i 0 b0)))) (h1 : look t1 S.F = some (.sv (.one (.pptr j 0 b1))))
  (ct : ∀ code at_, code ≠ 0 → CtD f M (M' code at_) (.panicking [{ v := .iface ty (.agg #[.int .i64 code, .int .i64 at_]), recovered := false }]) (.panicking [{ v := .iface ty (.agg #[.int .i64 code, .int .i64 at_]), recovered := true }])) (en : ∀ args w, (callFunc f args).run Try.prog w = .ok (.enter f args) w)
  (hMc : M0.map (fun it => some (it.mv (rnF rn S.M.length))) = rn.map (fun j => S.M[j]?)) (hM : M.map (fun it => some (it.mv (rnF [i, j] (goneM S.M rn).length))) = [i, j].map (fun j => (goneM S.M rn)[j]?)) (hnd : [i, j].Nodup) (hal : aloneE ⟨S.F, goneM S.M rn⟩ [i, j] [0, 1] = true) (hrf : ∀ code at_, refsB (M' code at_) = true) (hlen : ∀ code at_, M.length ≤ (M' code at_).length) (hbk : ∀ code at_, backC [0, 1] M (M' code at_) = true)
  (hS2 : ∀ code at_, S2 code at_ = ⟨S.F, putItems (rnF [i, j] (goneM S.M rn).length) (goneM S.M rn) [i, j] (M' code at_)⟩) (r : Int → Int → β) (hp : ∀ code at_, code ≠ 0 → post (r code at_)) (e : ∀ code at_, evR tab (S2 code at_) rs = some (out (r code at_))) (hcl : ∀ code at_, (out (r code at_)).refs = []) : LeftX c S M0 rn (psStop ty) := fun a w g hs hk ch w' g' ⟨code, at_, hc, hch⟩ hb _ => by
 subst hch
 refine hpan _ a w' ?_
 have hk2 := hk.afterX hMc hb
 exact leave_one (S := ⟨S.F, goneM S.M rn⟩) ht hk2 hr hR hdf h0 h1 (by simp) rfl (ct code at_ hc) en hM hnd hal (hrf code at_) (hlen code at_) (hbk code at_) (hS2 code at_) (r code at_) (hp code at_ hc) (e code at_) (hcl code at_)
theorem mt_rangeS (p : Nat) {t : Nat} {m : Operand} {s : ByteArray} (ho : o.op = .range t m) (ht : Try.prog.underlying t = some .string) (hm : evX S.F m = some (.sv (.one (.v (.string s))))) : MT c S o (.sv (.one (.own p))) [] (some (p, .siter s 0)) := fun a w g hs h N Z hN => by
 unfold Oper.wp
 have hu : (Go.underlying t).run Try.prog w = .ok .string w := run_underlying ht w
 have hrun : (execOp a.eval o).run Try.prog w = .ok (.value (.pointer (some ⟨w.heap.size, 0, none⟩))) (w.alloc (.stringIter s 0)) := by
  have : execOp a.eval o = (do pure (.value (← Instr.range t (a.eval m))) : Sem Next) := by unfold execOp; rw [ho]
  rw [this, show a.eval m = .string s from (evX_ok h hm).1]
  refine run_valW ?_
  simp only [Instr.range, Sem.run_bind, hu, Result.andThen_ok, Sem.run_pure, newObj]
  rfl
 rw [hrun]
 refine hN _ _ g (.pointer (some ⟨w.heap.size, 0, none⟩)) ⟨rfl, rfl, rfl, by simp, fun b hb _ => (World.grownBy_alloc w _ none).block b hb (by simp), Gh.le.refl g, fun b o e => .inl e, fun b o e => ?_⟩ ⟨?_, trivial⟩ ⟨⟨w.heap.size, rfl, heap_alloc_new w _⟩, fun b hb => ?_⟩
 ·exact ((World.grownBy_alloc w _ none).block b (h.base.pers.lt e) (by simp)).trans (h.base.pers b o e)
 ·show _ = (if p = p then _ else hs p)
  rw [if_pos rfl]
 ·cases hb
  refine ⟨by simp, fun _ => ?_, .inl (Nat.le_refl _)⟩
  cases hgb : g w.heap.size with
  | none => rfl
  | some o => have := h.base.pers.lt hgb; omega
def putBlock (w : World) (b : Nat) (ob : Obj) : World := { w with heap := w.heap.setIfInBounds b ob }
theorem heap_putBlock (w : World) (b : Nat) (ob : Obj) (h : b < w.heap.size) : (putBlock w b ob).heap[b]? = some ob := by
 unfold putBlock
 simp [h]
theorem WL.nextS {r pos : Nat} {x : Operand} {s : ByteArray} (hn : c.n = n) (hw : wantE ops S.F o = some true) (ho : o.op = .next x true) (hx : evX S.F x = some (.sv (.one (.own r)))) (hr : S.M[r]? = some (.siter s pos))
  (h1 : decide (pos < s.size) = false → ∃ S1, putE n o.dst (.tup [.one (B false)]) S = some S1 ∧ WL c ops rest S1 N)
  (h2 : decide (pos < s.size) = true → ∃ S1, putE n o.dst (.tup [.one (B true), .one (I ((pos : Nat) : Int)), .one (.v (.int .i32 (((Utf8.decode s pos).1 : Nat) : Int)))]) ⟨S.F, S.M.set r (.siter s (pos + (Utf8.decode s pos).2))⟩ = some S1 ∧ WL c ops rest S1 N) : WL c ops (o :: rest) S N := fun a w ⟨g, hs, hk⟩ => by
 unfold wpList
 rw [if_pos (wantE_ok hk hw)]
 refine .inl ?_
 unfold Oper.wp
 obtain ⟨rb, e1, e2⟩ := hk.items r _ hr
 have hv : a.eval x = .pointer (some ⟨rb, 0, none⟩) := ((evX_ok hk hx).1).trans e1
 have hop : execOp a.eval o = (do pure (.value (← Instr.next (a.eval x) true o.type)) : Sem Next) := by unfold execOp; rw [ho]
 by_cases hp : pos < s.size
 ·have hrun : (Instr.next (.pointer (some ⟨rb, 0, none⟩)) true o.type).run Try.prog w = .ok (.tuple #[.bool true, goInt pos, .int .i32 (((Utf8.decode s pos).1 : Nat) : Int)]) (putBlock w rb (.stringIter s (pos + (Utf8.decode s pos).2))) := by
   have hlt := (Array.getElem?_eq_some_iff.1 e2).1
   simp only [Instr.next, Sem.run_bind, getObj, Sem.run, e2, Result.andThen_ok, if_pos hp, setObj, Sem.run_pure]
   rfl
  rw [hop, hv, run_valW hrun]
  obtain ⟨S1, k1, k2⟩ := h2 (decide_eq_true hp)
  have hb : ∀ b, blk (hs r) = some b → b = rb := fun b e => by rw [e1] at e; simpa [blk] using e.symm
  have hlt := (Array.getElem?_eq_some_iff.1 e2).1
  have hgr : w.grownBy (putBlock w rb (.stringIter s (pos + (Utf8.decode s pos).2))) (blk (hs r)) := by
   rw [e1]
   exact ⟨rfl, rfl, rfl, by simp [putBlock], fun q hq hne => by
    unfold putBlock
    have : rb ≠ q := fun e => hne (by rw [← e]; rfl)
    simp [this]⟩
  have := hk.upd (it' := .siter s (pos + (Utf8.decode s pos).2)) hr rfl rfl hgr ⟨rb, e1, heap_putBlock w rb _ hlt⟩
  refine k2 _ _ ⟨g, hs, putE_ok this hn (x := .tup [.one (B true), .one (I ((pos : Nat) : Int)), .one (.v (.int .i32 (((Utf8.decode s pos).1 : Nat) : Int)))]) ⟨[.bool true, goInt pos, .int .i32 (((Utf8.decode s pos).1 : Nat) : Int)], rfl, ⟨rfl, trivial⟩, ⟨rfl, trivial⟩, ⟨rfl, trivial⟩, trivial⟩ k1⟩
 ·have hrun : (Instr.next (.pointer (some ⟨rb, 0, none⟩)) true o.type).run Try.prog w = .ok (.tuple #[.bool false]) w := by
   simp only [Instr.next, Sem.run_bind, getObj, Sem.run, e2, Result.andThen_ok, if_neg hp, Sem.run_pure]
  rw [hop, hv, run_val hrun]
  obtain ⟨S1, k1, k2⟩ := h1 (decide_eq_false hp)
  exact k2 _ _ ⟨g, hs, putE_ok hk hn (x := .tup [.one (B false)]) ⟨[.bool false], rfl, ⟨rfl, trivial⟩, trivial⟩ k1⟩
theorem dec_width (s : ByteArray) (pos : Nat) (h : pos < s.size) : 1 ≤ (Utf8.decode s pos).2 := by
 by_cases ha : (s[pos]'h).toNat < 128
 ·rw [decode_ascii s pos h ha]
  exact Nat.le_refl _
 ·exact (decode_high s pos h (by omega)).2
theorem optNil {α : Type} {lab : α → List Value} : ∀ a w g hs, Ok' c S a w g hs → ∀ u, At.ok g hs (.v (.pointer none)) u → At.ok g hs (.rd (optR lab (none : Option (Tr α)))) u := fun a w g hs _ u h => h
theorem optSome {α : Type} {lab : α → List Value} {t : Tr α} : ∀ a w g hs, Ok' c S a w g hs → ∀ u, At.ok g hs (.rd (trR lab t)) u → At.ok g hs (.rd (optR lab (some t))) u := fun a w g hs _ u h => h
theorem hR_cast {β : Type} {R : Ending → World → Prop} {post : β → Prop} {out : β → SC} {c' : Cfg} (h1 : c'.w0 = c.w0) (h2 : c'.g0 = c.g0) (h3 : c'.may = c.may) (hR : ∀ v w' g' r, post r → (out r).ok g' hs0 v → Base c w' g' → R (.returned v) w') : ∀ v w' g' r, post r → (out r).ok g' hs0 v → Base c' w' g' → R (.returned v) w' := fun v w' g' r k1 k2 k3 => hR v w' g' r k1 k2 (k3.cast h1.symm h2.symm h3.symm)
theorem hpan_cast {fn : Func} {R : Ending → World → Prop} {c' : Cfg} (h : c'.pan = c.pan) (hpan : ∀ ch a w', Leaves Try.prog fn a.tmps R a.defers (.panicking ch) w' → c.pan ch a w') : ∀ ch a w', Leaves Try.prog fn a.tmps R a.defers (.panicking ch) w' → c'.pan ch a w' := fun ch a w' k => by rw [h]; exact hpan ch a w' k
end
theorem gpart_cons {v : Value} {l : List Value} {k : Nat} : gpart (.tuple (v :: l).toArray) (k + 1) = l.getD k undef := rfl
section
variable {c : Cfg} {S S1 : St} {a : Act} {w : World} {g : Gh} {hs : Nat → Value} {tab : Tab} {n : Nat} {o : Oper} {ops : Array Oper} {rest L0 : List Oper} {N : Po}
theorem mt_appendG {α : Type} {T : Ty α} {L : List (List α)} {m i p ty : Nat} {x y : Operand} {t e : Nat} {ti te : TI} (ht : tab.ok) (ho : o.op = .call ⟨.builtin .append, #[x, y], #[t, t]⟩) (h1 : tab t = some ti) (h2 : ti.sl = some e) (h3 : tab e = some te) (h4 : te.size = 1)
  (hx : evX S.F x = some (.sv (.one (.gs i 0)))) (hm : S.M[i]? = some (gridI e ty T L)) (hsrc : SrcOk c S y nilT (List.replicate m ())) (hb : (L.length + m) * te.bytes ≤ 140737488355328) (hb2 : L.length + m ≤ 140737488355328) : MT c S o (.sv (.one (.gs p 0))) [i] (some (p, gridI e ty T (L ++ List.replicate m []))) := fun a w g hs h N Z hN => by
 have hu := slT_some ((ht t ti h1).sl.trans h2)
 have hv : a.eval x = gpart (hs i) 0 := (evX_ok h hx).1
 obtain ⟨us, ocs, u1, u2, u3, u3', u4, u4', _, u5⟩ := h.items i _ hm
 obtain ⟨cs', r3, r4⟩ := hsrc a w g hs h
 have := nil_cells r4
 subst this
 rw [List.length_replicate] at r3
 have hn1 : nilT.s = 1 := rfl
 rw [hn1, ← h4] at r3
 rw [List.length_map] at u2 u3
 rw [← h4] at u3
 obtain ⟨v', w', k1, k2, k3, k4⟩ := run_append_src (ty := o.type) (ti := ti) hu (ht e te h3) (by rw [h4]; decide) u3 r3 (by simp only [maxLen]; omega) hb
 unfold Oper.wp
 have hrun : (execOp a.eval o).run Try.prog w = .ok (.value v') w' := by
  have : execOp a.eval o = (do pure (.value (← Builtin.append_ #[t, t] o.type #[a.eval x, a.eval y])) : Sem Next) := by
   unfold execOp
   rw [ho]
   simp [resolve, invoke, builtin]
  rw [this, hv]
  exact run_valW k1
 rw [hrun]
 have hsl := ownsRow_slice u3
 have hsl' := ownsRow_slice k2
 have hlo : ocs.length = L.length := by have := u3.1; rw [h4] at this; omega
 have hBi : ∀ b, (gpart (hs i) 0).ownBlock = some b → Blk (hs i) b := fun b hb => Blk.part u1 (by omega) (ownBlock_blk' hb)
 have hbi : ∀ b, (gpart (hs i) 0).ownBlock = some b → g b = none := fun b hb => ((h.mine i _ hm (by simp) b (hBi b hb)).2 rfl).2
 have hgq : ∀ q, q < L.length → us[q + 1]? = some (gpart (hs i) (q + 1)) := fun q hq => by
  rw [u1]
  show us[q + 1]? = some (us.getD (q + 1) undef)
  have : q + 1 < us.length := by omega
  simp [this]
 -- the new value
 let ns : List Value := us.drop 1 ++ List.replicate m (.slice none 0 0)
 have hnl : ns.length = L.length + m := by simp [ns]; omega
 have hnq : ∀ q, q < L.length → ns.getD q undef = gpart (hs i) (q + 1) := fun q hq => by
  have h1 : (us.drop 1)[q]? = some (gpart (hs i) (q + 1)) := by rw [List.getElem?_drop, Nat.add_comm]; exact hgq q hq
  have h2 : q < (us.drop 1).length := by simp; omega
  show (us.drop 1 ++ List.replicate m _).getD q undef = _
  rw [List.getD_eq_getElem?_getD, List.getElem?_append_left h2, h1]
  rfl
 have hnr : ∀ q, L.length ≤ q → q < L.length + m → ns.getD q undef = .slice none 0 0 := fun q hq hq2 => by
  have h2 : (us.drop 1).length = L.length := by simp; omega
  show (us.drop 1 ++ List.replicate m _).getD q undef = _
  rw [List.getD_eq_getElem?_getD, List.getElem?_append_right (by omega), h2, List.getElem?_replicate, if_pos (by omega)]
  rfl
 have hblk' : ∀ b, blk v' = some b → (gpart (hs i) 0).ownBlock = some b ∨ b = w.heap.size := fun b hb => by
  have e : v'.ownBlock = some b := by rw [← blk_slice hsl']; exact hb
  rcases k4 with e2 | e2
  ·left; rw [← e2]; exact e
  ·rw [e] at e2; cases e2; exact .inr rfl
 have hne : ∀ q, q < L.length → (gpart (hs i) (q + 1)).ownBlock = none ∨ (gpart (hs i) (q + 1)).ownBlock ≠ (gpart (hs i) 0).ownBlock := fun q hq => by
  cases hb : (gpart (hs i) (q + 1)).ownBlock with
  | none => exact .inl rfl
  | some b => exact .inr (fun e => u5 (q + 1) 0 b (by omega) (by omega) (by omega) (ownBlock_blk' hb) (ownBlock_blk' e.symm))
 refine hN v' w' g (.tuple (v' :: ns).toArray) ⟨k3.os, k3.tape, k3.output, k3.size, fun b hb hk => k3.block b hb (fun e => hk i (by simp) (hBi b e.symm)), Gh.le.refl g, fun b o e => .inl e, fun b o e => ?_⟩ ⟨?_, ?_⟩ ⟨⟨v' :: ns, ocs ++ List.replicate m (.slice none 0 0), rfl, ?_, ?_, fun u hu => ?_, fun q r n' hq => ?_, fun q hq => ?_, (fun p k e => by cases e), fun q q' b hq hq' hqq hb1 hb2' => ?_⟩, fun b hb => ?_⟩
 ·refine (k3.block b (h.base.pers.lt e) (fun e2 => ?_)).trans (h.base.pers b o e)
  rw [hbi b e2.symm] at e
  cases e
 ·show v' = gpart (if p = p then _ else hs p) 0
  rw [if_pos rfl]
  rfl
 ·obtain ⟨ao, m, cap, rfl⟩ := hsl'
  trivial
 ·simp [hnl]
 ·rw [List.length_map, List.length_append, List.length_replicate, ← h4]
  exact k2
 ·rcases List.mem_append.1 hu with hu | hu
  ·exact u3' u hu
  ·exact ⟨none, 0, 0, List.eq_of_mem_replicate hu⟩
 ·rw [List.getElem?_map] at hq
  cases hL : (L ++ List.replicate m [])[q]? with
  | none => rw [hL] at hq; cases hq
  | some l =>
   rw [hL] at hq
   simp only [Option.map_some, Option.some.injEq, Prod.mk.injEq] at hq
   obtain ⟨rfl, rfl⟩ := hq
   have hql := (List.getElem?_eq_some_iff.1 hL).1
   rw [List.length_append, List.length_replicate] at hql
   rw [gpart_cons]
   by_cases hlt : q < L.length
   ·rw [List.getElem?_append_left hlt] at hL
    obtain ⟨k5, cs2, k6, k7⟩ := u4 q (rowR T l) l.length (by rw [List.getElem?_map, hL]; rfl)
    rw [hnq q hlt]
    exact ⟨by rw [List.getElem?_append_left (by omega)]; exact k5, cs2, k6.kept k3 (hne q hlt), k7⟩
   ·rw [List.getElem?_append_right (by omega), List.getElem?_replicate, if_pos (by omega)] at hL
    cases hL
    rw [hnr q (by omega) hql]
    exact ⟨by rw [List.getElem?_append_right (by omega), List.getElem?_replicate, if_pos (by omega)], [], World.ownsAt_nil _ _ _, rowRead.nil⟩
 ·rw [List.getElem?_map] at hq
  cases hL : (L ++ List.replicate m [])[q]? <;> (rw [hL] at hq; simp at hq)
 ·simp only [List.length_cons, hnl] at hq hq'
  have key : ∀ q, q < L.length + m → ∀ b, blk (ns.getD q undef) = some b → q < L.length ∧ blk (gpart (hs i) (q + 1)) = some b := fun q hq b hb => by
   by_cases hlt : q < L.length
   ·rw [hnq q hlt] at hb
    exact ⟨hlt, hb⟩
   ·rw [hnr q (by omega) hq] at hb
    cases hb
  have k0 : ∀ q b, q < L.length + m → blk (ns.getD q undef) = some b → blk v' ≠ some b := fun q b hq hb e => by
   obtain ⟨hlt, hb'⟩ := key q hq b hb
   rcases hblk' b e with e2 | e2
   ·exact u5 (q + 1) 0 b (by omega) (by omega) (by omega) hb' (ownBlock_blk' e2)
   ·have := (h.mine i _ hm (by simp) b (Blk.part u1 (by omega) hb')).1
    omega
  cases q with
  | zero =>
   cases q' with
   | zero => exact hqq rfl
   | succ q' =>
    rw [gpart_cons] at hb2'
    exact k0 q' b (by omega) hb2' hb1
  | succ q =>
   rw [gpart_cons] at hb1
   cases q' with
   | zero => exact k0 q b (by omega) hb1 hb2'
   | succ q' =>
    rw [gpart_cons] at hb2'
    obtain ⟨l1, m1⟩ := key q (by omega) b hb1
    obtain ⟨l2, m2⟩ := key q' (by omega) b hb2'
    exact u5 (q + 1) (q' + 1) b (by omega) (by omega) (by omega) m1 m2
 ·have fresh : b = w.heap.size → b < w'.heap.size → g b = none := fun e _ => by
   cases hgb : g b with
   | none => rfl
   | some o => have := h.base.pers.lt hgb; omega
  obtain ⟨u, hu, hub⟩ := hb
  rcases List.mem_cons.1 hu with rfl | hu
  ·rcases hblk' b hub with e2 | e2
   ·obtain ⟨m1, m2⟩ := h.mine i _ hm (by simp) b (hBi b e2)
    exact ⟨Nat.lt_of_lt_of_le m1 k3.size, fun _ => (m2 rfl).2, .inr ⟨i, by simp, hBi b e2⟩⟩
   ·have hlt := (k2.lt b (by rw [← blk_slice hsl']; exact hub)).2
    exact ⟨hlt, fun _ => fresh e2 hlt, .inl (by omega)⟩
  ·rcases List.mem_append.1 hu with hu | hu
   ·have hBu : Blk (hs i) b := by
     rw [u1]
     exact ⟨u, List.mem_of_mem_drop hu, hub⟩
    obtain ⟨m1, m2⟩ := h.mine i _ hm (by simp) b hBu
    exact ⟨Nat.lt_of_lt_of_le m1 k3.size, fun _ => (m2 rfl).2, .inr ⟨i, by simp, hBu⟩⟩
   ·rw [List.eq_of_mem_replicate hu] at hub
    cases hub
theorem nilBoxG_ok {α : Type} {i j p e ty tb : Nat} {T : Ty α} {cells : List At} (hm : S.M[i]? = some (.box cells tb false)) (hj : cells[j]? = some (.v (.slice none 0 0))) (hp : (newM S.M [] (some (p, gridI e ty T [])))[i]? = some (.box cells tb false)) (hr : S.refsAll (fun i => !(Nat.beq i p)) = true) (hk : Ok' c S a w g hs) :
  ∃ hs', Ok' c ⟨S.F, (newM S.M [] (some (p, gridI e ty T []))).set i (.box (cells.set j (.gs p 0)) tb false)⟩ a w g hs' := by
 have he := hk.eff (K := []) (p := some (p, gridI e ty T [])) (h' := .tuple #[.slice none 0 0]) (Eff.refl hk.base) ⟨⟨[.slice none 0 0], [], rfl, rfl, World.ownsAt_nil _ _ _, fun u hu => by simp at hu, fun q r n hq => by simp at hq, fun q hq => by simp at hq, (fun p k e => by cases e), fun q q' b hq hq' hqq hb1 _ => by
  have : q = 0 := by simpa using hq
  subst this
  cases hb1⟩, fun b hb => by
  obtain ⟨u, hu, e⟩ := hb
  simp at hu
  subst hu
  cases e⟩ hr rfl
 refine ⟨_, he.retell (it' := .box (cells.set j (.gs p 0)) tb false) hp rfl rfl ?_⟩
 obtain ⟨b, cs, h1, h2, h3⟩ := he.items i _ hp
 refine ⟨b, cs, h1, oks_turn (fun u hu => ?_) j hj h2, h3⟩
 have : u = .slice none 0 0 := hu.1
 subst this
 refine ⟨?_, trivial⟩
 show _ = gpart (if p = p then _ else hs p) 0
 rw [if_pos rfl]
 rfl
theorem WL.nilBoxG {α : Type} {T : Ty α} {cells : List At} {tb : Nat} (i j p e ty : Nat) (hm : S.M[i]? = some (.box cells tb false)) (hj : cells[j]? = some (.v (.slice none 0 0))) (hp : (newM S.M [] (some (p, gridI e ty T ([] : List (List α)))))[i]? = some (.box cells tb false)) (hr : S.refsAll (fun i => !(Nat.beq i p)) = true)
  (h : WL c ops L0 ⟨S.F, (newM S.M [] (some (p, gridI e ty T []))).set i (.box (cells.set j (.gs p 0)) tb false)⟩ N) : WL c ops L0 S N := fun a w ⟨g, _, hk⟩ => by
 obtain ⟨hs', hk'⟩ := nilBoxG_ok hm hj hp hr hk
 exact h a w ⟨g, hs', hk'⟩
def At.subR (x : At) (i : Nat) : At := match x with
 | .gs j 0 => match Nat.beq j i with
  | true => .own i
  | false => .gs j 0
 | x => x
def SV.subR (s : SV) (i : Nat) : SV := match s with
 | .one x => .one (x.subR i)
 | .agg l => .agg (l.map (·.subR i))
def SC.subR (x : SC) (i : Nat) : SC := match x with
 | .sv s => .sv (s.subR i)
 | .tup l => .tup (l.map (·.subR i))
def Item.subR (it : Item) (i : Nat) : Item := match it with
 | .box cells ty fz => .box (cells.map (·.subR i)) ty fz
 | it => it
def At.onlyG (i : Nat) : At → Bool
 | .gs k q => !(Nat.beq k i) || Nat.beq q 0
 | x => x.refs.all fun k => !(Nat.beq k i)
def SV.onlyG (i : Nat) : SV → Bool
 | .one x => x.onlyG i
 | .agg l => l.all (·.onlyG i)
def SC.onlyG (i : Nat) : SC → Bool
 | .sv s => s.onlyG i
 | .tup l => l.all (·.onlyG i)
def Item.onlyG (i : Nat) : Item → Bool
 | .box cells _ _ => cells.all (·.onlyG i)
 | .iter k _ => !(Nat.beq k i)
 | .grid _ _ _ _ (some (_, k)) => !(Nat.beq k i)
 | _ => true
theorem At.subR_ok {g' : Gh} {hs' : Nat → Value} {i : Nat} (hg : Gh.le g g') (hi : hs' i = gpart (hs i) 0) (hk : ∀ k, k ≠ i → hs' k = hs k) {x : At} {u : Value} (ho : x.onlyG i = true) (h : x.ok g hs u) : (x.subR i).ok g' hs' u := by
 have gen : ∀ x : At, (x.refs.all fun k => !(Nat.beq k i)) = true → x.ok g hs u → x.ok g' hs' u := fun x hx h => At.ok_hs (fun k hk' => hk k (beq_ne (List.all_eq_true.1 hx k hk'))) (At.mono hg h)
 cases x with
 | gs k q =>
  obtain ⟨h1, h2⟩ := h
  have h1 : u = gpart (hs k) q := h1
  simp only [At.onlyG, Bool.or_eq_true] at ho
  by_cases e : k = i
  ·subst e
   have hq : q = 0 := by
    rcases ho with ho | ho
    ·exact absurd rfl (beq_ne ho)
    ·exact Nat.eq_of_beq_eq_true ho
   subst hq
   have : At.subR (.gs k 0) k = .own k := by simp [At.subR]
   rw [this]
   exact ⟨h1.trans hi.symm, h2⟩
  ·have : At.subR (.gs k q) i = .gs k q := by
    cases q with
    | zero =>
     have hb : Nat.beq k i = false := by
      cases hb : Nat.beq k i with
      | false => rfl
      | true => exact absurd (Nat.eq_of_beq_eq_true hb) e
     simp [At.subR, hb]
    | succ q => rfl
   rw [this]
   refine ⟨?_, h2⟩
   show u = gpart (hs' k) q
   rw [hk k e]
   exact h1
 | _ => exact gen _ ho h
theorem oks_subR {g' : Gh} {hs' : Nat → Value} {i : Nat} (hg : Gh.le g g') (hi : hs' i = gpart (hs i) 0) (hk : ∀ k, k ≠ i → hs' k = hs k) : ∀ {l : List At} {us : List Value}, l.all (·.onlyG i) = true → oks g hs l us → oks g' hs' (l.map (·.subR i)) us
 | [], [], _, _ => trivial
 | [], _ :: _, _, h => h.elim
 | _ :: _, [], _, h => h.elim
 | _ :: _, _ :: _, ho, h => by
  rw [List.all_cons, Bool.and_eq_true] at ho
  exact ⟨At.subR_ok hg hi hk ho.1 h.1, h.2.1, oks_subR hg hi hk ho.2 h.2.2⟩
theorem SV.subR_ok {g' : Gh} {hs' : Nat → Value} {i : Nat} (hg : Gh.le g g') (hi : hs' i = gpart (hs i) 0) (hk : ∀ k, k ≠ i → hs' k = hs k) {x : SV} {u : Value} (ho : x.onlyG i = true) (h : x.ok g hs u) : (x.subR i).ok g' hs' u := by
 cases x with
 | one a => exact At.subR_ok hg hi hk ho h
 | agg l =>
  obtain ⟨cs, h1, h2⟩ := h
  exact ⟨cs, h1, oks_subR hg hi hk ho h2⟩
theorem svs_subR {g' : Gh} {hs' : Nat → Value} {i : Nat} (hg : Gh.le g g') (hi : hs' i = gpart (hs i) 0) (hk : ∀ k, k ≠ i → hs' k = hs k) : ∀ {l : List SV} {us : List Value}, l.all (·.onlyG i) = true → SV.oks g hs l us → SV.oks g' hs' (l.map (·.subR i)) us
 | [], [], _, _ => trivial
 | [], _ :: _, _, h => h.elim
 | _ :: _, [], _, h => h.elim
 | _ :: _, _ :: _, ho, h => by
  rw [List.all_cons, Bool.and_eq_true] at ho
  exact ⟨SV.subR_ok hg hi hk ho.1 h.1, svs_subR hg hi hk ho.2 h.2⟩
theorem SC.subR_ok {g' : Gh} {hs' : Nat → Value} {i : Nat} (hg : Gh.le g g') (hi : hs' i = gpart (hs i) 0) (hk : ∀ k, k ≠ i → hs' k = hs k) {x : SC} {u : Value} (ho : x.onlyG i = true) (h : x.ok g hs u) : (x.subR i).ok g' hs' u := by
 cases x with
 | sv s => exact SV.subR_ok hg hi hk ho h
 | tup l =>
  obtain ⟨us, h1, h2⟩ := h
  exact ⟨us, h1, svs_subR hg hi hk ho h2⟩
theorem Ok'.sealRows {α : Type} {T : Ty α} {L : List (List α)} {tyo ty i : Nat} (h : Ok' c S a w g hs) (hm : S.M[i]? = some (gridI tyo ty T L)) (hF : S.F.all (fun x => x.2.onlyG i) = true) (hM : S.M.all (·.onlyG i) = true) : ∃ g' hs', Ok' c ⟨S.F.map fun x => (x.1, x.2.subR i), (S.M.map (·.subR i)).set i (rowI tyo (lsT T) L)⟩ a w g' hs' := by
 classical
 have hit := h.items i _ hm
 have hmine := h.mine i _ hm (by simp)
 have hil := (List.getElem?_eq_some_iff.1 hm).1
 obtain ⟨us, ocs, u1, u2, u3, u3', u4, u4', _, u5⟩ := hit
 rw [List.length_map] at u2 u3
 let In : Nat → Prop := fun b => ∃ k, k + 1 < us.length ∧ blk (gpart (hs i) (k + 1)) = some b
 have hInB : ∀ b, In b → Blk (hs i) b := fun b ⟨k, h1, h2⟩ => Blk.part u1 h1 h2
 let g' : Gh := fun x => if In x then w.heap[x]? else g x
 have hle : Gh.le g g' := fun x o e => by
  show (if In x then _ else g x) = some o
  by_cases hx : In x
  ·have := ((hmine x (hInB x hx)).2 rfl).2
   rw [this] at e
   cases e
  ·rw [if_neg hx]; exact e
 let hs' : Nat → Value := fun k => if k = i then gpart (hs i) 0 else hs k
 have hsi : hs' i = gpart (hs i) 0 := if_pos rfl
 have hsk : ∀ k, k ≠ i → hs' k = hs k := fun k hk => if_neg hk
 have hsl := own_slice u3
 have hB0 : ∀ b, Blk (hs' i) b → blk (gpart (hs i) 0) = some b := fun b hb => by
  rw [hsi] at hb
  obtain ⟨ao, cap, e⟩ := hsl
  rw [e] at hb ⊢
  exact hb
 have hB0' : ∀ b, Blk (hs' i) b → Blk (hs i) b := fun b hb => Blk.part u1 (by omega) (hB0 b hb)
 have hset : ∀ (k : Nat) (kt : Item), ((S.M.map (·.subR i)).set i (rowI tyo (lsT T) L))[k]? = some kt → (k = i ∧ kt = rowI tyo (lsT T) L) ∨ ∃ jt, k ≠ i ∧ S.M[k]? = some jt ∧ kt = jt.subR i ∧ kt.fz = jt.fz ∧ (kt ≠ .gone → jt ≠ .gone) := fun k kt hk => by
  rw [List.getElem?_set] at hk
  by_cases e : i = k
  ·rw [if_pos e] at hk
   split at hk
   ·simp at hk; exact .inl ⟨e.symm, hk.symm⟩
   ·cases hk
  ·rw [if_neg e, List.getElem?_map] at hk
   cases hj : S.M[k]? with
   | none => rw [hj] at hk; cases hk
   | some jt =>
    rw [hj] at hk
    simp at hk
    refine .inr ⟨jt, Ne.symm e, rfl, hk.symm, by rw [← hk]; cases jt <;> rfl, fun hn e => hn ?_⟩
    subst e
    exact hk.symm
 refine ⟨g', hs', h.size, h.defers, ⟨h.base.os, h.base.tape, h.base.output, h.base.grows, h.base.frame, h.base.ghle.trans hle, fun x o e => ?_, fun x o e => ?_⟩, fun t x hx => ?_, fun k kt hk => ?_, fun k l kt lt hkl hk hl hf hn b hb => ?_, fun k kt hk hn b hb => ?_⟩
 ·by_cases hx : In x
  ·exact .inr ((hmine x (hInB x hx)).2 rfl).1
  ·rw [show g' x = g x from if_neg hx] at e
   exact h.base.ghnew x o e
 ·by_cases hx : In x
  ·rw [show g' x = w.heap[x]? from if_pos hx] at e
   exact e
  ·rw [show g' x = g x from if_neg hx] at e
   exact h.base.pers x o e
 ·obtain ⟨y, hy, e⟩ := List.mem_map.1 hx
  cases e
  exact SC.subR_ok hle hsi hsk (List.all_eq_true.1 hF y hy) (h.slots _ _ hy)
 ·rcases hset k kt hk with ⟨rfl, rfl⟩ | ⟨jt, h1, h2, rfl, _, _⟩
  ·rw [hsi]
   have hlo : ocs.length = L.length := by have := u3.1; omega
   refine ⟨ocs, u3, ⟨ocs, ?_, hlo, fun q u l hu hl => ?_⟩⟩
   ·have : ∀ l : List Value, (∀ u ∈ l, ∃ ao m cap, u = Value.slice ao m cap) → l = l.flatMap fun u => u.cells.toList := fun l => by
     induction l with
     | nil => intro _; rfl
     | cons u l ih =>
      intro hc
      obtain ⟨ao, m, cp, e⟩ := hc u List.mem_cons_self
      rw [List.flatMap_cons, ← ih fun x hx => hc x (List.mem_cons_of_mem _ hx), e]
      rfl
    exact this _ u3'
   ·obtain ⟨k5, cs, k6, k7⟩ := u4 q (rowR T l) l.length (by rw [List.getElem?_map, hl]; rfl)
    rw [hu] at k5
    have k5 : u = gpart (hs k) (q + 1) := Option.some.inj k5
    have hql := (List.getElem?_eq_some_iff.1 hl).1
    obtain ⟨ao, m, cp, e⟩ := u3' u (List.mem_of_getElem? hu)
    refine ⟨?_, by rw [e]; rfl⟩
    rw [k5]
    have := row_LS (g' := g') (hs := hs0) k6 k7 hle (fun b hb => if_pos ⟨q, by omega, ownBlock_blk' hb⟩)
    exact this
  ·by_cases hn : jt = .gone
   ·subst hn; trivial
   ·rw [hsk k h1]
    have hall := List.all_eq_true.1 hM jt (List.mem_of_getElem? h2)
    have h3 := h.items k jt h2
    cases jt with
    | box cells ty fz =>
     obtain ⟨b, cs, k1, k2, k3, k4⟩ := h3
     exact ⟨b, cs, k1, oks_subR hle hsi hsk hall k2, k3, fun e => hle _ _ (k4 e)⟩
    | iter j r =>
     obtain ⟨rb, m, clock, seen, k1, k2, k3⟩ := h3
     exact ⟨rb, m, clock, seen, k1, (hsk j (beq_ne hall)).trans k2, k3⟩
    | grid tyo' ty' s' rows' link' =>
     have h4 := Item.mono hle h3
     obtain ⟨vs, ocs', v1, v2, v3, v4, v5, v6, v7, v8⟩ := h4
     refine ⟨vs, ocs', v1, v2, v3, v4, v5, v6, fun p k hl => ?_, v8⟩
     subst hl
     rw [hsk k (beq_ne hall)]
     exact v7 p k rfl
    | _ => exact Item.mono hle h3
 ·rcases hset k kt hk with ⟨rfl, rfl⟩ | ⟨jt, h1, h2, rfl, h3, h4⟩
  ·rcases hset l lt hl with ⟨rfl, rfl⟩ | ⟨jt, l1, l2, rfl, l3, l4⟩
   ·exact absurd rfl hkl
   ·rw [hsk l l1]
    exact h.sep k l _ jt hkl hm l2 rfl (l4 hn) b (hB0' b hb)
  ·rw [hsk k h1] at hb
   rw [h3] at hf
   rcases hset l lt hl with ⟨rfl, rfl⟩ | ⟨jt', l1, l2, rfl, l3, l4⟩
   ·exact fun e => h.sep k l jt _ hkl h2 hm hf (by simp) b hb (hB0' b e)
   ·rw [hsk l l1]
    exact h.sep k l jt jt' hkl h2 l2 hf (l4 hn) b hb
 ·rcases hset k kt hk with ⟨rfl, rfl⟩ | ⟨jt, h1, h2, rfl, h3, h4⟩
  ·obtain ⟨m1, m2⟩ := h.mine k _ hm (by simp) b (hB0' b hb)
   refine ⟨m1, fun _ => ⟨(m2 rfl).1, ?_⟩⟩
   have hni : ¬ In b := fun ⟨q, q1, q2⟩ => u5 0 (q + 1) b (by omega) q1 (by omega) (hB0 b hb) q2
   rw [show g' b = g b from if_neg hni]
   exact (m2 rfl).2
  ·rw [hsk k h1] at hb
   obtain ⟨m1, m2⟩ := h.mine k jt h2 (h4 hn) b hb
   refine ⟨m1, fun hf => ?_⟩
   rw [h3] at hf
   refine ⟨(m2 hf).1, ?_⟩
   have hni : ¬ In b := fun hb2 => h.sep k i jt _ h1 h2 hm hf (by simp) b hb (hInB b hb2)
   rw [show g' b = g b from if_neg hni]
   exact (m2 hf).2
theorem WL.sealRows {α : Type} {T : Ty α} {L : List (List α)} {tyo ty : Nat} (i : Nat) (hm : S.M[i]? = some (gridI tyo ty T L)) (hF : S.F.all (fun x => x.2.onlyG i) = true) (hM : S.M.all (·.onlyG i) = true) (h : WL c ops L0 ⟨S.F.map fun x => (x.1, x.2.subR i), (S.M.map (·.subR i)).set i (rowI tyo (lsT T) L)⟩ N) : WL c ops L0 S N := fun a w ⟨g, hs, hk⟩ => by
 obtain ⟨g', hs', hk'⟩ := hk.sealRows hm hF hM
 exact h a w ⟨g', hs', hk'⟩
end
theorem letsOut_any {c : Cfg} {N Z : Po} (h : LetsOut (OnlyP c N)) : LetsOut (OnlyP c Z) := by
 obtain ⟨a, w, h⟩ := h
 exact h.elim
theorem wp_anyN {c : Cfg} {o : Oper} {a : Act} {w : World} {K N Z : Po} (hh : o.wp Try.prog a w K (OnlyP c N)) : o.wp Try.prog a w K (OnlyP c Z) := by
 unfold Oper.wp at *
 generalize (execOp a.eval o).run Try.prog w = r at *
 cases r with
 | ok n w' =>
  cases n <;> simp only [Oper.upon] at hh ⊢ <;>
   first
    | exact hh
    | exact Calls.mono hh (fun e w'' he => by cases e <;> first | exact he | exact letsOut_any he)
 | halt x w' => cases x <;> simp only [Oper.upon] at hh ⊢ <;> exact hh
section
variable {c : Cfg} {l : List Oper} {N : Po} {S : St} {fuel : Nat} {listed : Array Bool}
def RD (c : Cfg) (l : List Oper) (N : Po) (fuel : Nat) (listed : Array Bool) (S : St) : Prop := ∀ a w, Ok c S a w → wpAny Try.prog .any l.toArray (OnlyP c N) fuel listed a w
theorem RD.nil (hr : Region.ready .any l.toArray listed = []) (h : En c S N) : RD c l N 0 listed S := fun a w hk => ⟨hr, h a w hk⟩
def RDs (c : Cfg) (l : List Oper) (N : Po) (fuel : Nat) (listed : Array Bool) (S : St) : List Nat → Prop
 | [] => True
 | i :: r => (∃ (o : Oper) (S' : St) (L' : Array Bool), l[i]? = some o ∧ WL c l.toArray [o] S (fun a w => Ok c S' a w) ∧ listed.setIfInBounds i true = L' ∧ RD c l N fuel L' S') ∧ RDs c l N fuel listed S r
theorem RDs.get : ∀ {is : List Nat}, RDs c l N fuel listed S is → ∀ i ∈ is, ∃ (o : Oper) (S' : St), l[i]? = some o ∧ WL c l.toArray [o] S (fun a w => Ok c S' a w) ∧ RD c l N fuel (listed.setIfInBounds i true) S'
 | j :: r, h, i, hi => by
  rcases List.mem_cons.1 hi with e | hi
  ·subst e
   obtain ⟨o, S', L', h1, h2, h3, h4⟩ := h.1
   subst h3
   exact ⟨o, S', h1, h2, h4⟩
  ·exact RDs.get h.2 i hi
theorem RD.succ (is : List Nat) (hr : Region.ready .any l.toArray listed = is) (hne : is.isEmpty = false) (h : RDs c l N fuel listed S is) : RD c l N (fuel + 1) listed S := fun a w hk => by
 refine ⟨fun e => ?_, fun i hi => ?_⟩
 ·rw [hr] at e
  subst e
  cases hne
 ·rw [hr] at hi
  obtain ⟨o, S', ho, hw, hd⟩ := RDs.get h i hi
  have hw := hw a w hk
  have ho' : l.toArray[i]? = some o := by simpa using ho
  unfold wpOp
  rw [ho']
  simp only
  unfold wpList at hw
  split
  ·rename_i hwant
   rw [if_pos hwant] at hw
   rcases hw with hw | hw
   ·exact .inl (wp_anyN (Oper.wp_mono (fun a' w' h' => hd a' w' h') hw))
   ·exact .inr ⟨hw.1, letsOut_any hw.2⟩
  ·rename_i hwant
   rw [if_neg hwant] at hw
   exact hd _ _ hw
theorem RD.have {N : Po} {f : Nat} {L : Array Bool} (f' : Nat) (L' : Array Bool) (S' : St) (h1 : RD c l N f' L' S') (h2 : RD c l N f' L' S' → RD c l N f L S) : RD c l N f L S := h2 h1
theorem RD.start {f : Nat} {L : Array Bool} {S' : St} (h : RD c l N f L S') (hf : f = l.length) (hL : L = Array.replicate l.length false) (hs : ∀ a w, Ok c S a w → Ok c S' a w) : RD c l N l.length (Array.replicate l.length false) S := by
 subst hf
 subst hL
 exact fun a w hk => h a w (hs a w hk)
theorem WL.nilI {ops : Array Oper} : WL c ops [] S (fun a w => Ok c S a w) := fun _ _ hk => hk
theorem En.regionD {id : Nat} {E : List (Nat × Po)} {R : Po} (fin : St) (hm : Try.prog.follows .mixedOrders = true) (h : ∀ N : Po, En c fin N → RD c l N l.length (Array.replicate l.length false) S) (hN : En c fin N) : En c S (cwp (.region id l.toArray true) (PQ c N E R)) := fun a w ⟨g, hs', hok⟩ => by
 have hok1 : Ok' c S a w.drew g hs' := hok.grown (grown_drew w)
 refine Code.wp_mono (fun e a w q => ?_) (wp_region_any (Q := OnlyP c N) hm ?_)
 ·cases e <;> first | exact q | exact (q : False).elim
 ·have := h N hN a w.drew ⟨g, hs', hok1⟩
  simpa using this
end
section
variable {c : Cfg} {S : St}
theorem pe_of {i ty : Nat} {cells : List At} {k : Nat} (hm : S.M[i]? = some (.box cells ty true)) (hrefs : cells.flatMap At.refs = []) (hk : cells.length = k) : ∀ a w g hs, Ok' c S a w g hs → ∀ u, SC.ok g hs (.sv (.one (.ptr i 0))) u → SC.ok g hs (.sv (.one (.pe (svR (.agg cells)) k))) u := fun a w g hs h u hu => by
 obtain ⟨⟨b, h1, rfl⟩, _⟩ := hu
 obtain ⟨b', cs, h2, h3, h4, h5⟩ := h.items i _ hm
 rw [h1] at h2
 simp at h2
 subst h2
 have hg := h5 rfl
 refine ⟨⟨b, 0, .agg cs.toArray, rfl, ⟨cs, rfl, oks_hs (fun i hi => by rw [hrefs] at hi; cases hi) h3⟩, ?_, fun j c hj => ?_⟩, trivial⟩
 ·have := oks_length h3
  simp [Value.cells, ← this, hk]
 ·unfold Gh.cell
  rw [hg]
  simpa [Value.cells] using hj
end
end Go.Proofs.Ytobenjahlicnoaa
namespace Go.Proofs.Ytobenjahlicnoaa
open Go.RowKit Go.MapKept
section
variable {c : Cfg} {S S1 S' : St} {tab : Tab} {n : Nat} {o : Oper} {ops : Array Oper} {rest L : List Oper} {N R : Po} {E : List (Nat × Po)}
theorem WL.r (ht : tab.ok) (hn : c.n = n) (k : Nat) (S' : St) (h : WL c ops (L.drop k) S' N) (e : (evL tab n ops (L.take k) S).map (subE S') = some (subX S') := by kernel_rfl) : WL c ops L S N := WL.run ht hn k S' e h
theorem WL.rn (ht : tab.ok) (hn : c.n = n) (k : Nat) (S' : St) (h : ∀ a w, Ok c S' a w → N a w) (e : (evL tab n ops (L.take k) S).map (subE S') = some (subX S') := by kernel_rfl) (e2 : L.drop k = [] := by rfl) : WL c ops L S N := WL.run ht hn k S' e (by rw [e2]; exact h)
theorem WL.rI (ht : tab.ok) (hn : c.n = n) (e : (evL tab n ops (L.take 1) S).map (subE S') = some (subX S') := by kernel_rfl) (e2 : L.drop 1 = [] := by rfl) : WL c ops L S (fun a w => Ok c S' a w) := WL.run ht hn 1 S' e (by rw [e2]; exact WL.nilI)
theorem WL.v {x : SC} (hn : c.n = n) (hv : Val c S o x) (h : WL c ops rest S' N) (hw : wantE ops S.F o = some true := by rfl) (e : putE n o.dst x S = some S' := by rfl) : WL c ops (o :: rest) S N := WL.val hn hw hv e h
theorem WL.m0 {x : SC} (hn : c.n = n) (hm : MT c S o x [] none) (h : WL c ops rest S1 N) (hw : wantE ops S.F o = some true := by rfl) (hr : refsNe S none = true := by rfl) (hu : usable S [] = true := by rfl) (e : putE n o.dst x ⟨S.F, newM S.M [] none⟩ = some S1 := by rfl) : WL c ops (o :: rest) S N := WL.mt0 hn hw hm hr hu e h
theorem WL.sB (t : Nat) {b b' : Bool} (e : b = b') (h : WL c ops L ⟨(t, .sv (.one (.v (.bool b')))) :: S.F, S.M⟩ N) (hl : look t S.F = some (.sv (.one (.v (.bool b)))) := by kernel_rfl) : WL c ops L S N := WL.setB t e hl h
theorem En.sr {id : Nat} {l : List Oper} {y : Code} (h : WL c l.toArray l S (cwp y (PQ c N E R))) : En c S (cwp (.seq (.region id l.toArray false) y) (PQ c N E R)) := En.seq (En.region h)
theorem En.cd {b : Bool} {o : Operand} {x y : Code} {Q : Exit → Act → World → Prop} (ht : b = true → En c S (cwp x Q)) (hf : b = false → En c S (cwp y Q)) (hb : evK S.F o = some (.bool b) := by kernel_rfl) : En c S (cwp (.cond o x y) Q) := En.cond hb ht hf
theorem En.ch {b : Bool} {A B : Prop} {o : Operand} {x y : Code} {Q : Exit → Act → World → Prop} (h : IfP b A B) (ht : A → En c S (cwp x Q)) (hf : B → En c S (cwp y Q)) (hb : evK S.F o = some (.bool b) := by kernel_rfl) : En c S (cwp (.cond o x y) Q) := En.cond hb (fun e => ht (h.1 e)) (fun e => hf (h.2 e))
theorem En.rb {β : Type} {post : β → Prop} {out : β → SC} {rs : Array ResultVar} (ht : tab.ok) (r : β) (hp : post r) (e : evR tab S rs = some (out r) := by kernel_rfl) (hc : (out r).refs = [] := by rfl) : En c S (cwp .ret (PQ c N E (RetA c rs post out))) := En.ret (En.back ht r hp e hc)
theorem val_ld {s : SV} {sz t : Nat} {ti : TI} {x : Operand} (ht : tab.ok) (ho : o.op = .load t x) (h1 : tab t = some ti := by rfl) (h2 : ti.size = sz := by rfl) (h3 : svFits ti s = true := by rfl) (hx : evX S.F x = some (.sv (.one (.pe (svR s) sz))) := by rfl) (hc : s.refs = [] := by rfl) : Val c S o (.sv s) := val_load ht ho h1 h2 h3 hx hc
theorem val_ix {α : Type} {T : Ty α} {l : List α} {i : Int} {y : α} {t el : Nat} {ti te : TI} {x ix : Operand} {k : IntKind} {m : Nat} (ht : tab.ok) (ho : o.op = .indexAddr t x ix) (hy : idx l i = some y) (h1 : tab t = some ti := by rfl) (h2 : ti.sl = some el := by rfl) (h3 : tab el = some te := by rfl) (h4 : te.size = T.s := by rfl) (hx : evX S.F x = some (.sv (.one (.sl (slR T l) m))) := by rfl) (hi : evK S.F ix = some (.int k i) := by rfl) : Val c S o (.sv (.one (.pe (svR (T.sv y)) T.s))) := val_index ht ho h1 h2 h3 h4 hx hi hy
theorem val_fd {l : List At} {sz t f fo fs : Nat} {ag : Bool} {ti : TI} {x : Operand} {r : SV} (ht : tab.ok) (ho : o.op = .fieldAddr t x f) (h1 : tab t = some ti := by rfl) (h2 : ti.st = true := by rfl) (h3 : ti.offs[f]? = some (fo, fs + 1, ag) := by rfl) (h4 : partE l fo (fs + 1) ag = some r := by rfl) (hx : evX S.F x = some (.sv (.one (.pe (svR (.agg l)) sz))) := by rfl) (h6 : (svCells r).length = fs + 1 := by rfl) : Val c S o (.sv (.one (.pe (svR r) (fs + 1)))) := val_field ht ho h1 h2 h3 h4 hx h6
theorem mt_c {f : Nat} {ins : List SC} {M : List Item} {x : SC} (ct : Ct f ins M (fun (_ : Unit) => True) (fun _ => x)) (en : ∀ args w, (callFunc f args).run Try.prog w = .ok (.enter f args) w) {fo : Operand} {args : Array Operand} {ats : Array TypeId} (ho : o.op = .call ⟨.value fo, args, ats⟩) (hf : evX S.F fo = some (.sv (.one (.fn f []))) := by rfl) (ha : (match evXs S.F args.toList with | some l => some (l ++ ([] : List Nat).map fun i => .sv (.one (.ptr i 0))) | none => none) = some (ins.map (SC.ren fun i => ([] : List Nat).getD i 0)) := by kernel_rfl) (hM : fzE S.M (fun i => ([] : List Nat).getD i 0) 0 M = M.map (fun it => some (it.ren fun i => ([] : List Nat).getD i 0)) := by kernel_rfl) (hz : M.all fzB = true := by rfl) (hcl : x.refs = [] := by rfl) : MT c S o x [] none := mt_call ct en (caps := []) [] ho hf ha hM hz hcl rfl
theorem WL.cX {f : Nat} {ins : List SC} {M : List Item} {ps : List PanicEntry → Prop} (ct : CtX f ins M ps) (en : ∀ args w, (callFunc f args).run Try.prog w = .ok (.enter f args) w) (rn : List Nat) {fo : Operand} {args : Array Operand} {ats : Array TypeId} (ho : o.op = .call ⟨.value fo, args, ats⟩) (hpan : LeftX c S M rn ps) (hw : wantE ops S.F o = some true := by rfl) (hf : evX S.F fo = some (.sv (.one (.fn f []))) := by rfl) (ha : (match evXs S.F args.toList with | some l => some (l ++ ([] : List Nat).map fun i => .sv (.one (.ptr i 0))) | none => none) = some (ins.map (SC.ren (rnF rn S.M.length))) := by kernel_rfl) (hM : M.map (fun it => some (it.mv (rnF rn S.M.length))) = rn.map (fun j => S.M[j]?) := by kernel_rfl) (hnd : rn.Nodup := by decide) : WL c ops (o :: rest) S N := WL.callX ct en (caps := []) rn hw ho hf (argsAs ha rfl) hM hnd hpan
theorem WL.cE {f : Nat} {ins : List SC} {M : List Item} {pin : List Nat} {out : Unit → SC} {M' : Unit → List Item} (ct : CtE f ins M pin (fun (_ : Unit) => True) out M') (en : ∀ args w, (callFunc f args).run Try.prog w = .ok (.enter f args) w) (rn : List Nat) {fo : Operand} {args : Array Operand} {ats : Array TypeId} (hn : c.n = n) (ho : o.op = .call ⟨.value fo, args, ats⟩) (h : WL c ops rest S1 N) (hw : wantE ops S.F o = some true := by rfl) (hf : evX S.F fo = some (.sv (.one (.fn f []))) := by rfl) (ha : (match evXs S.F args.toList with | some l => some (l ++ ([] : List Nat).map fun i => .sv (.one (.ptr i 0))) | none => none) = some (ins.map (SC.ren (rnF rn S.M.length))) := by kernel_rfl) (hM : M.map (fun it => some (it.mv (rnF rn S.M.length))) = rn.map (fun j => S.M[j]?) := by kernel_rfl) (hnd : rn.Nodup := by decide) (hal : aloneE S rn pin = true := by rfl) (hpl : pin.all (fun i => Nat.blt i rn.length) = true := by rfl) (hx : (refsB (M' ()) && Nat.ble M.length (M' ()).length && backC pin M (M' ()) && (out ()).refs.all (fun i => Nat.blt i (M' ()).length)) = true := by rfl) (e : putE n o.dst ((out ()).ren (rnF rn S.M.length)) ⟨S.F, putItems (rnF rn S.M.length) S.M rn (M' ())⟩ = some S1 := by rfl) : WL c ops (o :: rest) S N := WL.callE ct en (caps := []) rn hn hw ho hf (argsAs ha rfl) hM hnd hal hpl (fun _ _ => ⟨hx, S1, e, h⟩)
end
theorem StepOk.ev {c : Cfg} {C : Cert} {ops : List Oper} {i : Nat} {o : Oper} {tab : Tab} (S : St) (ht : tab.ok) (hf : fitsE C ops i S = fitsX S := by kernel_rfl) (hw : wantE ops.toArray S.F o = some true := by rfl) (e : evV tab S o = some (C.x i) := by kernel_rfl) (hk : killE C i = [] := by rfl) (hb : bornE C i = [] := by rfl) (hu : updE C i = [] := by rfl) (huse : usable S [] = true := by rfl) : StepOk c C ops i o := .mt S [] none hf hw (mt_ev ht e) hk hb hu huse
theorem StepOk.vl {c : Cfg} {C : Cert} {ops : List Oper} {i : Nat} {o : Oper} (S : St) (hm : MT c S o (C.x i) [] none) (hf : fitsE C ops i S = fitsX S := by kernel_rfl) (hw : wantE ops.toArray S.F o = some true := by rfl) (hk : killE C i = [] := by rfl) (hb : bornE C i = [] := by rfl) (hu : updE C i = [] := by rfl) (huse : usable S [] = true := by rfl) : StepOk c C ops i o := .mt S [] none hf hw hm hk hb hu huse
end Go.Proofs.Ytobenjahlicnoaa
namespace Go.Proofs.Ytobenjahlicnoaa
open Go.RowKit Go.MapKept
set_option linter.unusedSimpArgs false
set_option linter.unusedVariables false
set_option maxRecDepth 100000
structure ApiDet where
 fLetters : Int
 fStart : Int
 fNext : (List (List Int))
 fMark : (List Int)
deriving DecidableEq, Inhabited
abbrev ApiDet.sv (x : ApiDet) : SV := .agg [I x.fLetters, I x.fStart, LS (lsT intT) x.fNext, LS intT x.fMark]
abbrev ApiDet.cl (x : ApiDet) : List At := [I x.fLetters, I x.fStart, LS (lsT intT) x.fNext, LS intT x.fMark]
abbrev ApiDet.ty : Ty ApiDet := ⟨4, ApiDet.sv⟩
structure ApiQuery where
 fGuessed : Bool
 fWord : (List Int)
 fYes : Bool
 fGuess : ApiDet
 fRight : Bool
deriving DecidableEq, Inhabited
abbrev ApiQuery.sv (x : ApiQuery) : SV := .agg [B x.fGuessed, LS intT x.fWord, B x.fYes, I x.fGuess.fLetters, I x.fGuess.fStart, LS (lsT intT) x.fGuess.fNext, LS intT x.fGuess.fMark, B x.fRight]
abbrev ApiQuery.ty : Ty ApiQuery := ⟨8, ApiQuery.sv⟩
structure ApiMake where
 fFrom : Int
 fTo : (List Int)
deriving DecidableEq, Inhabited
structure ApiGrammar where
 fLetters : Int
 fNames : Int
 fMakes : (List ApiMake)
deriving DecidableEq, Inhabited
structure ApiFault where
 fCode : Int
 fAt : Int
deriving DecidableEq, Inhabited
structure ApiHeaps where
 fPlaces : Int
 fTakes : (List (List Int))
 fGives : (List (List Int))
deriving DecidableEq, Inhabited
structure ApiPump where
 fBounded : Bool
 fFirst : (List Int)
 fAgain : (List Int)
deriving DecidableEq, Inhabited
structure ApiCover where
 fCan : Bool
 fSteps : (List Int)
 fBars : (List (List Int))
deriving DecidableEq, Inhabited
structure LearnTeacher where
 fD : ApiDet
 fLog : (List ApiQuery)
deriving DecidableEq, Inhabited
structure LogicStop where
 fFault : ApiFault
deriving DecidableEq, Inhabited
structure LogicMaker where
 fSets : (List Bool)
deriving DecidableEq, Inhabited
structure MonoidElement where
 fDoes : (List Int)
 fWord : (List Int)
deriving DecidableEq, Inhabited
structure EhrenTable where
 fU : (List Int)
 fV : (List Int)
 fA : (List Int)
 fB : (List Int)
deriving DecidableEq, Inhabited
structure SumsMade where
 fVars : (List Int)
 fD : ApiDet
deriving DecidableEq, Inhabited
structure CoverBar where
 fState : (List Int)
 fStep : Int
 fThen : Int
deriving DecidableEq, Inhabited
structure RegularPlaces where
 fLetters : (List Int)
 fNext : (List (List Int))
deriving DecidableEq, Inhabited
structure St170 where
 fE0 : Int
 fE1 : Int
 fE2 : Int
deriving DecidableEq, Inhabited
structure GramChoice where
 fMake : Int
 fEnds : (List Int)
deriving DecidableEq, Inhabited
structure LogicReader where
 fText : ByteArray
 fI : Int
 fNodes : Int
 fNest : Int
 fScope : (List Int)
deriving DecidableEq, Inhabited
structure SumsWrong where
 fFault : ApiFault
deriving DecidableEq, Inhabited
structure SumsReader where
 fText : ByteArray
 fI : Int
 fDeep : Int
 fCount : Int
 fWithin : Int
deriving DecidableEq, Inhabited
structure St199 where
 fE0 : Bool
 fE1 : Bool
 fE2 : Bool
deriving DecidableEq, Inhabited
structure RegularStop where
 fFault : ApiFault
deriving DecidableEq, Inhabited
structure RegularReader where
 fText : ByteArray
 fI : Int
 fDeep : Int
deriving DecidableEq, Inhabited
structure RegularEnds where
 fEmpty : Bool
 fFirst : (List Int)
 fLast : (List Int)
deriving DecidableEq, Inhabited
structure St223 where
 fE0 : Int
 fE1 : Int
deriving DecidableEq, Inhabited
structure DetCouple where
 fE0 : Int
 fE1 : Int
deriving DecidableEq, Inhabited
abbrev DetCouple.sv (x : DetCouple) : SV := .agg [I x.fE0, I x.fE1]
abbrev DetCouple.cl (x : DetCouple) : List At := [I x.fE0, I x.fE1]
abbrev DetCouple.ty : Ty DetCouple := ⟨2, DetCouple.sv⟩
structure DetSplit where
 fOwn : Int
 fNext : ByteArray
deriving DecidableEq, Inhabited
def tabs : List (Nat × TI) := [
 (3, ⟨false, false, 1, [.int .i64 0], [], some .i64, none, 8⟩),
 (4, ⟨false, false, 1, [.bool false], [], none, none, 1⟩),
 (5, ⟨false, false, 1, [.int .u8 0], [], some .u8, none, 1⟩),
 (9, ⟨false, false, 1, [.string ByteArray.empty], [], none, none, 16⟩),
 (21, ⟨false, false, 1, [.int .i32 0], [], some .i32, none, 4⟩),
 (22, ⟨false, false, 1, [.slice none 0 0], [], none, some 23, 24⟩),
 (23, ⟨false, false, 1, [.slice none 0 0], [], none, some 3, 24⟩),
 (25, ⟨true, true, 4, [.int .i64 0, .int .i64 0, .slice none 0 0, .slice none 0 0], [(0, 1, false), (1, 1, false), (2, 1, false), (3, 1, false)], none, none, 64⟩),
 (27, ⟨false, false, 1, [.slice none 0 0], [], none, some 32, 24⟩),
 (28, ⟨false, false, 1, [.int .i64 0], [], some .i64, none, 8⟩),
 (32, ⟨true, true, 8, [.bool false, .slice none 0 0, .bool false, .int .i64 0, .int .i64 0, .slice none 0 0, .slice none 0 0, .bool false], [(0, 1, false), (1, 1, false), (2, 1, false), (3, 4, true), (7, 1, false)], none, none, 112⟩),
 (35, ⟨false, false, 1, [.slice none 0 0], [], none, some 39, 24⟩),
 (37, ⟨true, true, 3, [.int .i64 0, .int .i64 0, .slice none 0 0], [(0, 1, false), (1, 1, false), (2, 1, false)], none, none, 40⟩),
 (39, ⟨true, true, 2, [.int .i64 0, .slice none 0 0], [(0, 1, false), (1, 1, false)], none, none, 32⟩),
 (52, ⟨true, true, 2, [.int .i64 0, .int .i64 0], [(0, 1, false), (1, 1, false)], none, none, 16⟩),
 (63, ⟨true, true, 3, [.int .i64 0, .slice none 0 0, .slice none 0 0], [(0, 1, false), (1, 1, false), (2, 1, false)], none, none, 56⟩),
 (65, ⟨true, true, 3, [.bool false, .slice none 0 0, .slice none 0 0], [(0, 1, false), (1, 1, false), (2, 1, false)], none, none, 56⟩),
 (69, ⟨true, true, 3, [.bool false, .slice none 0 0, .slice none 0 0], [(0, 1, false), (1, 1, false), (2, 1, false)], none, none, 56⟩),
 (76, ⟨false, false, 1, [.pointer none], [], none, none, 8⟩),
 (78, ⟨true, true, 5, [.int .i64 0, .int .i64 0, .slice none 0 0, .slice none 0 0, .slice none 0 0], [(0, 4, true), (4, 1, false)], none, none, 88⟩),
 (79, ⟨false, false, 1, [.map none], [], none, none, 8⟩),
 (81, ⟨true, true, 5, [.pointer none, .int .i64 0, .slice none 0 0, .slice none 0 0, .map none], [(0, 1, false), (1, 1, false), (2, 1, false), (3, 1, false), (4, 1, false)], none, none, 72⟩),
 (91, ⟨false, false, 1, [.slice none 0 0], [], none, some 4, 24⟩),
 (92, ⟨false, false, 1, [.nilFunc], [], none, none, 8⟩),
 (100, ⟨false, false, 1, [.slice none 0 0], [], none, some 101, 24⟩),
 (101, ⟨false, false, 1, [.slice none 0 0], [], none, some 79, 24⟩),
 (102, ⟨false, false, 1, [.nilFunc], [], none, none, 8⟩),
 (105, ⟨false, false, 1, [.nilFunc], [], none, none, 8⟩),
 (107, ⟨false, false, 1, [.pointer none], [], none, none, 8⟩),
 (111, ⟨true, true, 2, [.int .i64 0, .int .i64 0], [(0, 2, true)], none, none, 16⟩),
 (112, ⟨false, false, 1, [.pointer none], [], none, none, 8⟩),
 (114, ⟨true, true, 1, [.slice none 0 0], [(0, 1, false)], none, none, 24⟩),
 (116, ⟨false, false, 1, [.slice none 0 0], [], none, some 119, 24⟩),
 (119, ⟨true, true, 2, [.slice none 0 0, .slice none 0 0], [(0, 1, false), (1, 1, false)], none, none, 48⟩),
 (122, ⟨true, true, 4, [.slice none 0 0, .slice none 0 0, .slice none 0 0, .slice none 0 0], [(0, 1, false), (1, 1, false), (2, 1, false), (3, 1, false)], none, none, 96⟩),
 (124, ⟨false, false, 1, [.pointer none], [], none, none, 8⟩),
 (130, ⟨true, true, 5, [.slice none 0 0, .int .i64 0, .int .i64 0, .slice none 0 0, .slice none 0 0], [(0, 1, false), (1, 4, true)], none, none, 88⟩),
 (136, ⟨true, true, 9, [.int .i64 0, .slice none 0 0, .slice none 0 0, .map none, .slice none 0 0, .slice none 0 0, .bool false, .slice none 0 0, .slice none 0 0], [(0, 3, true), (3, 1, false), (4, 1, false), (5, 1, false), (6, 3, true)], none, none, 168⟩),
 (138, ⟨true, true, 3, [.slice none 0 0, .int .i64 0, .int .i64 0], [(0, 1, false), (1, 1, false), (2, 1, false)], none, none, 40⟩),
 (139, ⟨false, false, 1, [.slice none 0 0], [], none, some 138, 24⟩),
 (142, ⟨false, false, 1, [.pointer none], [], none, none, 8⟩),
 (147, ⟨false, false, 1, [.pointer none], [], none, none, 8⟩),
 (151, ⟨true, true, 2, [.slice none 0 0, .slice none 0 0], [(0, 1, false), (1, 1, false)], none, none, 48⟩),
 (154, ⟨false, false, 1, [.nilFunc], [], none, none, 8⟩),
 (165, ⟨false, false, 1, [.pointer none], [], none, none, 8⟩),
 (166, ⟨false, false, 1, [.map none], [], none, none, 8⟩),
 (167, ⟨false, false, 1, [.map none], [], none, none, 8⟩),
 (169, ⟨true, true, 9, [.int .i64 0, .int .i64 0, .slice none 0 0, .int .i64 0, .int .i64 0, .slice none 0 0, .slice none 0 0, .map none, .map none], [(0, 3, true), (3, 4, true), (7, 1, false), (8, 1, false)], none, none, 120⟩),
 (170, ⟨true, false, 3, [.int .i64 0, .int .i64 0, .int .i64 0], [(0, 1, false), (1, 1, false), (2, 1, false)], none, none, 24⟩),
 (171, ⟨false, false, 1, [.map none], [], none, none, 8⟩),
 (173, ⟨true, true, 6, [.int .i64 0, .int .i64 0, .slice none 0 0, .slice none 0 0, .map none, .map none], [(0, 3, true), (3, 1, false), (4, 1, false), (5, 1, false)], none, none, 80⟩),
 (177, ⟨true, true, 2, [.int .i64 0, .slice none 0 0], [(0, 1, false), (1, 1, false)], none, none, 32⟩),
 (178, ⟨false, false, 1, [.slice none 0 0], [], none, some 5, 24⟩),
 (181, ⟨true, true, 5, [.string ByteArray.empty, .int .i64 0, .int .i64 0, .int .i64 0, .slice none 0 0], [(0, 1, false), (1, 1, false), (2, 1, false), (3, 1, false), (4, 1, false)], none, none, 64⟩),
 (184, ⟨false, false, 1, [.slice none 0 0], [], none, some 107, 24⟩),
 (186, ⟨true, true, 6, [.int .i64 0, .int .i64 0, .int .i64 0, .int .i64 0, .bool false, .slice none 0 0], [(0, 1, false), (1, 1, false), (2, 1, false), (3, 1, false), (4, 1, false), (5, 1, false)], none, none, 64⟩),
 (188, ⟨false, false, 1, [.nilFunc], [], none, none, 8⟩),
 (190, ⟨false, false, 1, [.slice none 0 0], [], none, some 122, 24⟩),
 (193, ⟨true, true, 2, [.int .i64 0, .int .i64 0], [(0, 2, true)], none, none, 16⟩),
 (196, ⟨true, true, 5, [.string ByteArray.empty, .int .i64 0, .int .i64 0, .int .i64 0, .int .i64 0], [(0, 1, false), (1, 1, false), (2, 1, false), (3, 1, false), (4, 1, false)], none, none, 48⟩),
 (199, ⟨true, false, 3, [.bool false, .bool false, .bool false], [(0, 1, false), (1, 1, false), (2, 1, false)], none, none, 3⟩),
 (210, ⟨true, true, 2, [.int .i64 0, .int .i64 0], [(0, 2, true)], none, none, 16⟩),
 (213, ⟨true, true, 3, [.string ByteArray.empty, .int .i64 0, .int .i64 0], [(0, 1, false), (1, 1, false), (2, 1, false)], none, none, 32⟩),
 (217, ⟨true, true, 3, [.bool false, .slice none 0 0, .slice none 0 0], [(0, 1, false), (1, 1, false), (2, 1, false)], none, none, 56⟩),
 (219, ⟨false, false, 1, [.map none], [], none, none, 8⟩),
 (223, ⟨true, false, 2, [.int .i64 0, .int .i64 0], [(0, 1, false), (1, 1, false)], none, none, 16⟩),
 (224, ⟨true, false, 2, [.int .i64 0, .int .i64 0], [(0, 1, false), (1, 1, false)], none, none, 16⟩),
 (227, ⟨false, false, 1, [.pointer none], [], none, none, 8⟩),
 (229, ⟨true, true, 2, [.pointer none, .slice none 0 0], [(0, 1, false), (1, 1, false)], none, none, 32⟩),
 (241, ⟨false, false, 1, [.nilFunc], [], none, none, 8⟩),
 (243, ⟨false, false, 1, [.map none], [], none, none, 8⟩),
 (249, ⟨false, false, 1, [.int .u64 0], [], some .u64, none, 8⟩),
 (251, ⟨false, false, 1, [.slice none 0 0], [], none, some 124, 24⟩),
 (253, ⟨true, true, 10, [.int .u8 0, .int .i64 0, .bool false, .bool false, .bool false, .int .i64 0, .int .i64 0, .int .i64 0, .int .i64 0, .slice none 0 0], [(0, 1, false), (1, 1, false), (2, 3, true), (5, 3, true), (8, 1, false), (9, 1, false)], none, none, 80⟩),
 (259, ⟨false, false, 1, [.slice none 0 0], [], none, some 142, 24⟩),
 (261, ⟨true, true, 3, [.int .i64 0, .int .i64 0, .slice none 0 0], [(0, 1, false), (1, 1, false), (2, 1, false)], none, none, 40⟩),
 (265, ⟨false, false, 1, [.map none], [], none, none, 8⟩),
 (267, ⟨true, true, 2, [.int .i64 0, .string ByteArray.empty], [(0, 1, false), (1, 1, false)], none, none, 24⟩),
 (268, ⟨false, false, 1, [.slice none 0 0], [], none, some 25, 24⟩),
 (269, ⟨false, false, 1, [.map none], [], none, none, 8⟩),
 (270, ⟨false, false, 1, [.slice none 0 0], [], none, some 224, 24⟩),
 (271, ⟨false, false, 1, [.pointer none], [], none, none, 8⟩),
 (276, ⟨false, false, 1, [.slice none 0 0], [], none, some 9, 24⟩),
 (283, ⟨false, false, 1, [.nilFunc], [], none, none, 8⟩),
 (284, ⟨false, false, 1, [.slice none 0 0], [], none, some 22, 24⟩),
 (289, ⟨false, false, 1, [.slice none 0 0], [], none, some 170, 24⟩),
 (298, ⟨false, false, 1, [.int .u32 0], [], some .u32, none, 4⟩),
 (300, ⟨false, false, 1, [.int .u64 0], [], some .u64, none, 8⟩),
 (301, ⟨false, false, 1, [.map none], [], none, none, 8⟩),
 (302, ⟨false, false, 1, [.slice none 0 0], [], none, some 223, 24⟩),
 (304, ⟨false, false, 1, [.int .u64 0], [], some .u64, none, 8⟩)]
def tab : Tab := tabL tabs
theorem ti3 : TI.ok 3 ⟨false, false, 1, [.int .i64 0], [], some .i64, none, 8⟩ := ⟨by kernel_rfl, by kernel_rfl, by kernel_rfl, by kernel_rfl, by kernel_rfl, by kernel_rfl, by rfl, by rfl, by decide⟩
theorem ti4 : TI.ok 4 ⟨false, false, 1, [.bool false], [], none, none, 1⟩ := ⟨by kernel_rfl, by kernel_rfl, by kernel_rfl, by kernel_rfl, by kernel_rfl, by kernel_rfl, by rfl, by rfl, by decide⟩
theorem ti5 : TI.ok 5 ⟨false, false, 1, [.int .u8 0], [], some .u8, none, 1⟩ := ⟨by kernel_rfl, by kernel_rfl, by kernel_rfl, by kernel_rfl, by kernel_rfl, by kernel_rfl, by rfl, by rfl, by decide⟩
theorem ti9 : TI.ok 9 ⟨false, false, 1, [.string ByteArray.empty], [], none, none, 16⟩ := ⟨by kernel_rfl, by kernel_rfl, by kernel_rfl, by kernel_rfl, by kernel_rfl, by kernel_rfl, by rfl, by rfl, by decide⟩
theorem ti21 : TI.ok 21 ⟨false, false, 1, [.int .i32 0], [], some .i32, none, 4⟩ := ⟨by kernel_rfl, by kernel_rfl, by kernel_rfl, by kernel_rfl, by kernel_rfl, by kernel_rfl, by rfl, by rfl, by decide⟩
theorem ti22 : TI.ok 22 ⟨false, false, 1, [.slice none 0 0], [], none, some 23, 24⟩ := ⟨by kernel_rfl, by kernel_rfl, by kernel_rfl, by kernel_rfl, by kernel_rfl, by kernel_rfl, by rfl, by rfl, by decide⟩
theorem ti23 : TI.ok 23 ⟨false, false, 1, [.slice none 0 0], [], none, some 3, 24⟩ := ⟨by kernel_rfl, by kernel_rfl, by kernel_rfl, by kernel_rfl, by kernel_rfl, by kernel_rfl, by rfl, by rfl, by decide⟩
theorem ti25 : TI.ok 25 ⟨true, true, 4, [.int .i64 0, .int .i64 0, .slice none 0 0, .slice none 0 0], [(0, 1, false), (1, 1, false), (2, 1, false), (3, 1, false)], none, none, 64⟩ := ⟨by kernel_rfl, by kernel_rfl, by kernel_rfl, by kernel_rfl, by kernel_rfl, by kernel_rfl, by rfl, by rfl, by decide⟩
theorem ti27 : TI.ok 27 ⟨false, false, 1, [.slice none 0 0], [], none, some 32, 24⟩ := ⟨by kernel_rfl, by kernel_rfl, by kernel_rfl, by kernel_rfl, by kernel_rfl, by kernel_rfl, by rfl, by rfl, by decide⟩
theorem ti28 : TI.ok 28 ⟨false, false, 1, [.int .i64 0], [], some .i64, none, 8⟩ := ⟨by kernel_rfl, by kernel_rfl, by kernel_rfl, by kernel_rfl, by kernel_rfl, by kernel_rfl, by rfl, by rfl, by decide⟩
theorem ti32 : TI.ok 32 ⟨true, true, 8, [.bool false, .slice none 0 0, .bool false, .int .i64 0, .int .i64 0, .slice none 0 0, .slice none 0 0, .bool false], [(0, 1, false), (1, 1, false), (2, 1, false), (3, 4, true), (7, 1, false)], none, none, 112⟩ := ⟨by kernel_rfl, by kernel_rfl, by kernel_rfl, by kernel_rfl, by kernel_rfl, by kernel_rfl, by rfl, by rfl, by decide⟩
theorem ti35 : TI.ok 35 ⟨false, false, 1, [.slice none 0 0], [], none, some 39, 24⟩ := ⟨by kernel_rfl, by kernel_rfl, by kernel_rfl, by kernel_rfl, by kernel_rfl, by kernel_rfl, by rfl, by rfl, by decide⟩
theorem ti37 : TI.ok 37 ⟨true, true, 3, [.int .i64 0, .int .i64 0, .slice none 0 0], [(0, 1, false), (1, 1, false), (2, 1, false)], none, none, 40⟩ := ⟨by kernel_rfl, by kernel_rfl, by kernel_rfl, by kernel_rfl, by kernel_rfl, by kernel_rfl, by rfl, by rfl, by decide⟩
theorem ti39 : TI.ok 39 ⟨true, true, 2, [.int .i64 0, .slice none 0 0], [(0, 1, false), (1, 1, false)], none, none, 32⟩ := ⟨by kernel_rfl, by kernel_rfl, by kernel_rfl, by kernel_rfl, by kernel_rfl, by kernel_rfl, by rfl, by rfl, by decide⟩
theorem ti52 : TI.ok 52 ⟨true, true, 2, [.int .i64 0, .int .i64 0], [(0, 1, false), (1, 1, false)], none, none, 16⟩ := ⟨by kernel_rfl, by kernel_rfl, by kernel_rfl, by kernel_rfl, by kernel_rfl, by kernel_rfl, by rfl, by rfl, by decide⟩
theorem ti63 : TI.ok 63 ⟨true, true, 3, [.int .i64 0, .slice none 0 0, .slice none 0 0], [(0, 1, false), (1, 1, false), (2, 1, false)], none, none, 56⟩ := ⟨by kernel_rfl, by kernel_rfl, by kernel_rfl, by kernel_rfl, by kernel_rfl, by kernel_rfl, by rfl, by rfl, by decide⟩
theorem ti65 : TI.ok 65 ⟨true, true, 3, [.bool false, .slice none 0 0, .slice none 0 0], [(0, 1, false), (1, 1, false), (2, 1, false)], none, none, 56⟩ := ⟨by kernel_rfl, by kernel_rfl, by kernel_rfl, by kernel_rfl, by kernel_rfl, by kernel_rfl, by rfl, by rfl, by decide⟩
theorem ti69 : TI.ok 69 ⟨true, true, 3, [.bool false, .slice none 0 0, .slice none 0 0], [(0, 1, false), (1, 1, false), (2, 1, false)], none, none, 56⟩ := ⟨by kernel_rfl, by kernel_rfl, by kernel_rfl, by kernel_rfl, by kernel_rfl, by kernel_rfl, by rfl, by rfl, by decide⟩
theorem ti76 : TI.ok 76 ⟨false, false, 1, [.pointer none], [], none, none, 8⟩ := ⟨by kernel_rfl, by kernel_rfl, by kernel_rfl, by kernel_rfl, by kernel_rfl, by kernel_rfl, by rfl, by rfl, by decide⟩
theorem ti78 : TI.ok 78 ⟨true, true, 5, [.int .i64 0, .int .i64 0, .slice none 0 0, .slice none 0 0, .slice none 0 0], [(0, 4, true), (4, 1, false)], none, none, 88⟩ := ⟨by kernel_rfl, by kernel_rfl, by kernel_rfl, by kernel_rfl, by kernel_rfl, by kernel_rfl, by rfl, by rfl, by decide⟩
theorem ti79 : TI.ok 79 ⟨false, false, 1, [.map none], [], none, none, 8⟩ := ⟨by kernel_rfl, by kernel_rfl, by kernel_rfl, by kernel_rfl, by kernel_rfl, by kernel_rfl, by rfl, by rfl, by decide⟩
theorem ti81 : TI.ok 81 ⟨true, true, 5, [.pointer none, .int .i64 0, .slice none 0 0, .slice none 0 0, .map none], [(0, 1, false), (1, 1, false), (2, 1, false), (3, 1, false), (4, 1, false)], none, none, 72⟩ := ⟨by kernel_rfl, by kernel_rfl, by kernel_rfl, by kernel_rfl, by kernel_rfl, by kernel_rfl, by rfl, by rfl, by decide⟩
theorem ti91 : TI.ok 91 ⟨false, false, 1, [.slice none 0 0], [], none, some 4, 24⟩ := ⟨by kernel_rfl, by kernel_rfl, by kernel_rfl, by kernel_rfl, by kernel_rfl, by kernel_rfl, by rfl, by rfl, by decide⟩
theorem ti92 : TI.ok 92 ⟨false, false, 1, [.nilFunc], [], none, none, 8⟩ := ⟨by kernel_rfl, by kernel_rfl, by kernel_rfl, by kernel_rfl, by kernel_rfl, by kernel_rfl, by rfl, by rfl, by decide⟩
theorem ti100 : TI.ok 100 ⟨false, false, 1, [.slice none 0 0], [], none, some 101, 24⟩ := ⟨by kernel_rfl, by kernel_rfl, by kernel_rfl, by kernel_rfl, by kernel_rfl, by kernel_rfl, by rfl, by rfl, by decide⟩
theorem ti101 : TI.ok 101 ⟨false, false, 1, [.slice none 0 0], [], none, some 79, 24⟩ := ⟨by kernel_rfl, by kernel_rfl, by kernel_rfl, by kernel_rfl, by kernel_rfl, by kernel_rfl, by rfl, by rfl, by decide⟩
theorem ti102 : TI.ok 102 ⟨false, false, 1, [.nilFunc], [], none, none, 8⟩ := ⟨by kernel_rfl, by kernel_rfl, by kernel_rfl, by kernel_rfl, by kernel_rfl, by kernel_rfl, by rfl, by rfl, by decide⟩
theorem ti105 : TI.ok 105 ⟨false, false, 1, [.nilFunc], [], none, none, 8⟩ := ⟨by kernel_rfl, by kernel_rfl, by kernel_rfl, by kernel_rfl, by kernel_rfl, by kernel_rfl, by rfl, by rfl, by decide⟩
theorem ti107 : TI.ok 107 ⟨false, false, 1, [.pointer none], [], none, none, 8⟩ := ⟨by kernel_rfl, by kernel_rfl, by kernel_rfl, by kernel_rfl, by kernel_rfl, by kernel_rfl, by rfl, by rfl, by decide⟩
theorem ti111 : TI.ok 111 ⟨true, true, 2, [.int .i64 0, .int .i64 0], [(0, 2, true)], none, none, 16⟩ := ⟨by kernel_rfl, by kernel_rfl, by kernel_rfl, by kernel_rfl, by kernel_rfl, by kernel_rfl, by rfl, by rfl, by decide⟩
theorem ti112 : TI.ok 112 ⟨false, false, 1, [.pointer none], [], none, none, 8⟩ := ⟨by kernel_rfl, by kernel_rfl, by kernel_rfl, by kernel_rfl, by kernel_rfl, by kernel_rfl, by rfl, by rfl, by decide⟩
theorem ti114 : TI.ok 114 ⟨true, true, 1, [.slice none 0 0], [(0, 1, false)], none, none, 24⟩ := ⟨by kernel_rfl, by kernel_rfl, by kernel_rfl, by kernel_rfl, by kernel_rfl, by kernel_rfl, by rfl, by rfl, by decide⟩
theorem ti116 : TI.ok 116 ⟨false, false, 1, [.slice none 0 0], [], none, some 119, 24⟩ := ⟨by kernel_rfl, by kernel_rfl, by kernel_rfl, by kernel_rfl, by kernel_rfl, by kernel_rfl, by rfl, by rfl, by decide⟩
theorem ti119 : TI.ok 119 ⟨true, true, 2, [.slice none 0 0, .slice none 0 0], [(0, 1, false), (1, 1, false)], none, none, 48⟩ := ⟨by kernel_rfl, by kernel_rfl, by kernel_rfl, by kernel_rfl, by kernel_rfl, by kernel_rfl, by rfl, by rfl, by decide⟩
theorem ti122 : TI.ok 122 ⟨true, true, 4, [.slice none 0 0, .slice none 0 0, .slice none 0 0, .slice none 0 0], [(0, 1, false), (1, 1, false), (2, 1, false), (3, 1, false)], none, none, 96⟩ := ⟨by kernel_rfl, by kernel_rfl, by kernel_rfl, by kernel_rfl, by kernel_rfl, by kernel_rfl, by rfl, by rfl, by decide⟩
theorem ti124 : TI.ok 124 ⟨false, false, 1, [.pointer none], [], none, none, 8⟩ := ⟨by kernel_rfl, by kernel_rfl, by kernel_rfl, by kernel_rfl, by kernel_rfl, by kernel_rfl, by rfl, by rfl, by decide⟩
theorem ti130 : TI.ok 130 ⟨true, true, 5, [.slice none 0 0, .int .i64 0, .int .i64 0, .slice none 0 0, .slice none 0 0], [(0, 1, false), (1, 4, true)], none, none, 88⟩ := ⟨by kernel_rfl, by kernel_rfl, by kernel_rfl, by kernel_rfl, by kernel_rfl, by kernel_rfl, by rfl, by rfl, by decide⟩
theorem ti136 : TI.ok 136 ⟨true, true, 9, [.int .i64 0, .slice none 0 0, .slice none 0 0, .map none, .slice none 0 0, .slice none 0 0, .bool false, .slice none 0 0, .slice none 0 0], [(0, 3, true), (3, 1, false), (4, 1, false), (5, 1, false), (6, 3, true)], none, none, 168⟩ := ⟨by kernel_rfl, by kernel_rfl, by kernel_rfl, by kernel_rfl, by kernel_rfl, by kernel_rfl, by rfl, by rfl, by decide⟩
theorem ti138 : TI.ok 138 ⟨true, true, 3, [.slice none 0 0, .int .i64 0, .int .i64 0], [(0, 1, false), (1, 1, false), (2, 1, false)], none, none, 40⟩ := ⟨by kernel_rfl, by kernel_rfl, by kernel_rfl, by kernel_rfl, by kernel_rfl, by kernel_rfl, by rfl, by rfl, by decide⟩
theorem ti139 : TI.ok 139 ⟨false, false, 1, [.slice none 0 0], [], none, some 138, 24⟩ := ⟨by kernel_rfl, by kernel_rfl, by kernel_rfl, by kernel_rfl, by kernel_rfl, by kernel_rfl, by rfl, by rfl, by decide⟩
theorem ti142 : TI.ok 142 ⟨false, false, 1, [.pointer none], [], none, none, 8⟩ := ⟨by kernel_rfl, by kernel_rfl, by kernel_rfl, by kernel_rfl, by kernel_rfl, by kernel_rfl, by rfl, by rfl, by decide⟩
theorem ti147 : TI.ok 147 ⟨false, false, 1, [.pointer none], [], none, none, 8⟩ := ⟨by kernel_rfl, by kernel_rfl, by kernel_rfl, by kernel_rfl, by kernel_rfl, by kernel_rfl, by rfl, by rfl, by decide⟩
theorem ti151 : TI.ok 151 ⟨true, true, 2, [.slice none 0 0, .slice none 0 0], [(0, 1, false), (1, 1, false)], none, none, 48⟩ := ⟨by kernel_rfl, by kernel_rfl, by kernel_rfl, by kernel_rfl, by kernel_rfl, by kernel_rfl, by rfl, by rfl, by decide⟩
theorem ti154 : TI.ok 154 ⟨false, false, 1, [.nilFunc], [], none, none, 8⟩ := ⟨by kernel_rfl, by kernel_rfl, by kernel_rfl, by kernel_rfl, by kernel_rfl, by kernel_rfl, by rfl, by rfl, by decide⟩
theorem ti165 : TI.ok 165 ⟨false, false, 1, [.pointer none], [], none, none, 8⟩ := ⟨by kernel_rfl, by kernel_rfl, by kernel_rfl, by kernel_rfl, by kernel_rfl, by kernel_rfl, by rfl, by rfl, by decide⟩
theorem ti166 : TI.ok 166 ⟨false, false, 1, [.map none], [], none, none, 8⟩ := ⟨by kernel_rfl, by kernel_rfl, by kernel_rfl, by kernel_rfl, by kernel_rfl, by kernel_rfl, by rfl, by rfl, by decide⟩
theorem ti167 : TI.ok 167 ⟨false, false, 1, [.map none], [], none, none, 8⟩ := ⟨by kernel_rfl, by kernel_rfl, by kernel_rfl, by kernel_rfl, by kernel_rfl, by kernel_rfl, by rfl, by rfl, by decide⟩
theorem ti169 : TI.ok 169 ⟨true, true, 9, [.int .i64 0, .int .i64 0, .slice none 0 0, .int .i64 0, .int .i64 0, .slice none 0 0, .slice none 0 0, .map none, .map none], [(0, 3, true), (3, 4, true), (7, 1, false), (8, 1, false)], none, none, 120⟩ := ⟨by kernel_rfl, by kernel_rfl, by kernel_rfl, by kernel_rfl, by kernel_rfl, by kernel_rfl, by rfl, by rfl, by decide⟩
theorem ti170 : TI.ok 170 ⟨true, false, 3, [.int .i64 0, .int .i64 0, .int .i64 0], [(0, 1, false), (1, 1, false), (2, 1, false)], none, none, 24⟩ := ⟨by kernel_rfl, by kernel_rfl, by kernel_rfl, by kernel_rfl, by kernel_rfl, by kernel_rfl, by rfl, by rfl, by decide⟩
theorem ti171 : TI.ok 171 ⟨false, false, 1, [.map none], [], none, none, 8⟩ := ⟨by kernel_rfl, by kernel_rfl, by kernel_rfl, by kernel_rfl, by kernel_rfl, by kernel_rfl, by rfl, by rfl, by decide⟩
theorem ti173 : TI.ok 173 ⟨true, true, 6, [.int .i64 0, .int .i64 0, .slice none 0 0, .slice none 0 0, .map none, .map none], [(0, 3, true), (3, 1, false), (4, 1, false), (5, 1, false)], none, none, 80⟩ := ⟨by kernel_rfl, by kernel_rfl, by kernel_rfl, by kernel_rfl, by kernel_rfl, by kernel_rfl, by rfl, by rfl, by decide⟩
theorem ti177 : TI.ok 177 ⟨true, true, 2, [.int .i64 0, .slice none 0 0], [(0, 1, false), (1, 1, false)], none, none, 32⟩ := ⟨by kernel_rfl, by kernel_rfl, by kernel_rfl, by kernel_rfl, by kernel_rfl, by kernel_rfl, by rfl, by rfl, by decide⟩
theorem ti178 : TI.ok 178 ⟨false, false, 1, [.slice none 0 0], [], none, some 5, 24⟩ := ⟨by kernel_rfl, by kernel_rfl, by kernel_rfl, by kernel_rfl, by kernel_rfl, by kernel_rfl, by rfl, by rfl, by decide⟩
theorem ti181 : TI.ok 181 ⟨true, true, 5, [.string ByteArray.empty, .int .i64 0, .int .i64 0, .int .i64 0, .slice none 0 0], [(0, 1, false), (1, 1, false), (2, 1, false), (3, 1, false), (4, 1, false)], none, none, 64⟩ := ⟨by kernel_rfl, by kernel_rfl, by kernel_rfl, by kernel_rfl, by kernel_rfl, by kernel_rfl, by rfl, by rfl, by decide⟩
theorem ti184 : TI.ok 184 ⟨false, false, 1, [.slice none 0 0], [], none, some 107, 24⟩ := ⟨by kernel_rfl, by kernel_rfl, by kernel_rfl, by kernel_rfl, by kernel_rfl, by kernel_rfl, by rfl, by rfl, by decide⟩
theorem ti186 : TI.ok 186 ⟨true, true, 6, [.int .i64 0, .int .i64 0, .int .i64 0, .int .i64 0, .bool false, .slice none 0 0], [(0, 1, false), (1, 1, false), (2, 1, false), (3, 1, false), (4, 1, false), (5, 1, false)], none, none, 64⟩ := ⟨by kernel_rfl, by kernel_rfl, by kernel_rfl, by kernel_rfl, by kernel_rfl, by kernel_rfl, by rfl, by rfl, by decide⟩
theorem ti188 : TI.ok 188 ⟨false, false, 1, [.nilFunc], [], none, none, 8⟩ := ⟨by kernel_rfl, by kernel_rfl, by kernel_rfl, by kernel_rfl, by kernel_rfl, by kernel_rfl, by rfl, by rfl, by decide⟩
theorem ti190 : TI.ok 190 ⟨false, false, 1, [.slice none 0 0], [], none, some 122, 24⟩ := ⟨by kernel_rfl, by kernel_rfl, by kernel_rfl, by kernel_rfl, by kernel_rfl, by kernel_rfl, by rfl, by rfl, by decide⟩
theorem ti193 : TI.ok 193 ⟨true, true, 2, [.int .i64 0, .int .i64 0], [(0, 2, true)], none, none, 16⟩ := ⟨by kernel_rfl, by kernel_rfl, by kernel_rfl, by kernel_rfl, by kernel_rfl, by kernel_rfl, by rfl, by rfl, by decide⟩
theorem ti196 : TI.ok 196 ⟨true, true, 5, [.string ByteArray.empty, .int .i64 0, .int .i64 0, .int .i64 0, .int .i64 0], [(0, 1, false), (1, 1, false), (2, 1, false), (3, 1, false), (4, 1, false)], none, none, 48⟩ := ⟨by kernel_rfl, by kernel_rfl, by kernel_rfl, by kernel_rfl, by kernel_rfl, by kernel_rfl, by rfl, by rfl, by decide⟩
theorem ti199 : TI.ok 199 ⟨true, false, 3, [.bool false, .bool false, .bool false], [(0, 1, false), (1, 1, false), (2, 1, false)], none, none, 3⟩ := ⟨by kernel_rfl, by kernel_rfl, by kernel_rfl, by kernel_rfl, by kernel_rfl, by kernel_rfl, by rfl, by rfl, by decide⟩
theorem ti210 : TI.ok 210 ⟨true, true, 2, [.int .i64 0, .int .i64 0], [(0, 2, true)], none, none, 16⟩ := ⟨by kernel_rfl, by kernel_rfl, by kernel_rfl, by kernel_rfl, by kernel_rfl, by kernel_rfl, by rfl, by rfl, by decide⟩
theorem ti213 : TI.ok 213 ⟨true, true, 3, [.string ByteArray.empty, .int .i64 0, .int .i64 0], [(0, 1, false), (1, 1, false), (2, 1, false)], none, none, 32⟩ := ⟨by kernel_rfl, by kernel_rfl, by kernel_rfl, by kernel_rfl, by kernel_rfl, by kernel_rfl, by rfl, by rfl, by decide⟩
theorem ti217 : TI.ok 217 ⟨true, true, 3, [.bool false, .slice none 0 0, .slice none 0 0], [(0, 1, false), (1, 1, false), (2, 1, false)], none, none, 56⟩ := ⟨by kernel_rfl, by kernel_rfl, by kernel_rfl, by kernel_rfl, by kernel_rfl, by kernel_rfl, by rfl, by rfl, by decide⟩
theorem ti219 : TI.ok 219 ⟨false, false, 1, [.map none], [], none, none, 8⟩ := ⟨by kernel_rfl, by kernel_rfl, by kernel_rfl, by kernel_rfl, by kernel_rfl, by kernel_rfl, by rfl, by rfl, by decide⟩
theorem ti223 : TI.ok 223 ⟨true, false, 2, [.int .i64 0, .int .i64 0], [(0, 1, false), (1, 1, false)], none, none, 16⟩ := ⟨by kernel_rfl, by kernel_rfl, by kernel_rfl, by kernel_rfl, by kernel_rfl, by kernel_rfl, by rfl, by rfl, by decide⟩
theorem ti224 : TI.ok 224 ⟨true, false, 2, [.int .i64 0, .int .i64 0], [(0, 1, false), (1, 1, false)], none, none, 16⟩ := ⟨by kernel_rfl, by kernel_rfl, by kernel_rfl, by kernel_rfl, by kernel_rfl, by kernel_rfl, by rfl, by rfl, by decide⟩
theorem ti227 : TI.ok 227 ⟨false, false, 1, [.pointer none], [], none, none, 8⟩ := ⟨by kernel_rfl, by kernel_rfl, by kernel_rfl, by kernel_rfl, by kernel_rfl, by kernel_rfl, by rfl, by rfl, by decide⟩
theorem ti229 : TI.ok 229 ⟨true, true, 2, [.pointer none, .slice none 0 0], [(0, 1, false), (1, 1, false)], none, none, 32⟩ := ⟨by kernel_rfl, by kernel_rfl, by kernel_rfl, by kernel_rfl, by kernel_rfl, by kernel_rfl, by rfl, by rfl, by decide⟩
theorem ti241 : TI.ok 241 ⟨false, false, 1, [.nilFunc], [], none, none, 8⟩ := ⟨by kernel_rfl, by kernel_rfl, by kernel_rfl, by kernel_rfl, by kernel_rfl, by kernel_rfl, by rfl, by rfl, by decide⟩
theorem ti243 : TI.ok 243 ⟨false, false, 1, [.map none], [], none, none, 8⟩ := ⟨by kernel_rfl, by kernel_rfl, by kernel_rfl, by kernel_rfl, by kernel_rfl, by kernel_rfl, by rfl, by rfl, by decide⟩
theorem ti249 : TI.ok 249 ⟨false, false, 1, [.int .u64 0], [], some .u64, none, 8⟩ := ⟨by kernel_rfl, by kernel_rfl, by kernel_rfl, by kernel_rfl, by kernel_rfl, by kernel_rfl, by rfl, by rfl, by decide⟩
theorem ti251 : TI.ok 251 ⟨false, false, 1, [.slice none 0 0], [], none, some 124, 24⟩ := ⟨by kernel_rfl, by kernel_rfl, by kernel_rfl, by kernel_rfl, by kernel_rfl, by kernel_rfl, by rfl, by rfl, by decide⟩
theorem ti253 : TI.ok 253 ⟨true, true, 10, [.int .u8 0, .int .i64 0, .bool false, .bool false, .bool false, .int .i64 0, .int .i64 0, .int .i64 0, .int .i64 0, .slice none 0 0], [(0, 1, false), (1, 1, false), (2, 3, true), (5, 3, true), (8, 1, false), (9, 1, false)], none, none, 80⟩ := ⟨by kernel_rfl, by kernel_rfl, by kernel_rfl, by kernel_rfl, by kernel_rfl, by kernel_rfl, by rfl, by rfl, by decide⟩
theorem ti259 : TI.ok 259 ⟨false, false, 1, [.slice none 0 0], [], none, some 142, 24⟩ := ⟨by kernel_rfl, by kernel_rfl, by kernel_rfl, by kernel_rfl, by kernel_rfl, by kernel_rfl, by rfl, by rfl, by decide⟩
theorem ti261 : TI.ok 261 ⟨true, true, 3, [.int .i64 0, .int .i64 0, .slice none 0 0], [(0, 1, false), (1, 1, false), (2, 1, false)], none, none, 40⟩ := ⟨by kernel_rfl, by kernel_rfl, by kernel_rfl, by kernel_rfl, by kernel_rfl, by kernel_rfl, by rfl, by rfl, by decide⟩
theorem ti265 : TI.ok 265 ⟨false, false, 1, [.map none], [], none, none, 8⟩ := ⟨by kernel_rfl, by kernel_rfl, by kernel_rfl, by kernel_rfl, by kernel_rfl, by kernel_rfl, by rfl, by rfl, by decide⟩
theorem ti267 : TI.ok 267 ⟨true, true, 2, [.int .i64 0, .string ByteArray.empty], [(0, 1, false), (1, 1, false)], none, none, 24⟩ := ⟨by kernel_rfl, by kernel_rfl, by kernel_rfl, by kernel_rfl, by kernel_rfl, by kernel_rfl, by rfl, by rfl, by decide⟩
theorem ti268 : TI.ok 268 ⟨false, false, 1, [.slice none 0 0], [], none, some 25, 24⟩ := ⟨by kernel_rfl, by kernel_rfl, by kernel_rfl, by kernel_rfl, by kernel_rfl, by kernel_rfl, by rfl, by rfl, by decide⟩
theorem ti269 : TI.ok 269 ⟨false, false, 1, [.map none], [], none, none, 8⟩ := ⟨by kernel_rfl, by kernel_rfl, by kernel_rfl, by kernel_rfl, by kernel_rfl, by kernel_rfl, by rfl, by rfl, by decide⟩
theorem ti270 : TI.ok 270 ⟨false, false, 1, [.slice none 0 0], [], none, some 224, 24⟩ := ⟨by kernel_rfl, by kernel_rfl, by kernel_rfl, by kernel_rfl, by kernel_rfl, by kernel_rfl, by rfl, by rfl, by decide⟩
theorem ti271 : TI.ok 271 ⟨false, false, 1, [.pointer none], [], none, none, 8⟩ := ⟨by kernel_rfl, by kernel_rfl, by kernel_rfl, by kernel_rfl, by kernel_rfl, by kernel_rfl, by rfl, by rfl, by decide⟩
theorem ti276 : TI.ok 276 ⟨false, false, 1, [.slice none 0 0], [], none, some 9, 24⟩ := ⟨by kernel_rfl, by kernel_rfl, by kernel_rfl, by kernel_rfl, by kernel_rfl, by kernel_rfl, by rfl, by rfl, by decide⟩
theorem ti283 : TI.ok 283 ⟨false, false, 1, [.nilFunc], [], none, none, 8⟩ := ⟨by kernel_rfl, by kernel_rfl, by kernel_rfl, by kernel_rfl, by kernel_rfl, by kernel_rfl, by rfl, by rfl, by decide⟩
theorem ti284 : TI.ok 284 ⟨false, false, 1, [.slice none 0 0], [], none, some 22, 24⟩ := ⟨by kernel_rfl, by kernel_rfl, by kernel_rfl, by kernel_rfl, by kernel_rfl, by kernel_rfl, by rfl, by rfl, by decide⟩
theorem ti289 : TI.ok 289 ⟨false, false, 1, [.slice none 0 0], [], none, some 170, 24⟩ := ⟨by kernel_rfl, by kernel_rfl, by kernel_rfl, by kernel_rfl, by kernel_rfl, by kernel_rfl, by rfl, by rfl, by decide⟩
theorem ti298 : TI.ok 298 ⟨false, false, 1, [.int .u32 0], [], some .u32, none, 4⟩ := ⟨by kernel_rfl, by kernel_rfl, by kernel_rfl, by kernel_rfl, by kernel_rfl, by kernel_rfl, by rfl, by rfl, by decide⟩
theorem ti300 : TI.ok 300 ⟨false, false, 1, [.int .u64 0], [], some .u64, none, 8⟩ := ⟨by kernel_rfl, by kernel_rfl, by kernel_rfl, by kernel_rfl, by kernel_rfl, by kernel_rfl, by rfl, by rfl, by decide⟩
theorem ti301 : TI.ok 301 ⟨false, false, 1, [.map none], [], none, none, 8⟩ := ⟨by kernel_rfl, by kernel_rfl, by kernel_rfl, by kernel_rfl, by kernel_rfl, by kernel_rfl, by rfl, by rfl, by decide⟩
theorem ti302 : TI.ok 302 ⟨false, false, 1, [.slice none 0 0], [], none, some 223, 24⟩ := ⟨by kernel_rfl, by kernel_rfl, by kernel_rfl, by kernel_rfl, by kernel_rfl, by kernel_rfl, by rfl, by rfl, by decide⟩
theorem ti304 : TI.ok 304 ⟨false, false, 1, [.int .u64 0], [], some .u64, none, 8⟩ := ⟨by kernel_rfl, by kernel_rfl, by kernel_rfl, by kernel_rfl, by kernel_rfl, by kernel_rfl, by rfl, by rfl, by decide⟩
theorem tab_ok : tab.ok := tabL_ok fun x hx => by
 simp only [tabs, List.mem_cons, List.not_mem_nil, or_false] at hx
 rcases hx with rfl | rfl | rfl | rfl | rfl | rfl | rfl | rfl | rfl | rfl | rfl | rfl | rfl | rfl | rfl | rfl | rfl | rfl | rfl | rfl | rfl | rfl | rfl | rfl | rfl | rfl | rfl | rfl | rfl | rfl | rfl | rfl | rfl | rfl | rfl | rfl | rfl | rfl | rfl | rfl | rfl | rfl | rfl | rfl | rfl | rfl | rfl | rfl | rfl | rfl | rfl | rfl | rfl | rfl | rfl | rfl | rfl | rfl | rfl | rfl | rfl | rfl | rfl | rfl | rfl | rfl | rfl | rfl | rfl | rfl | rfl | rfl | rfl | rfl | rfl | rfl | rfl | rfl | rfl | rfl | rfl | rfl | rfl | rfl | rfl | rfl | rfl | rfl | rfl | rfl | rfl
 ·exact ti3
 ·exact ti4
 ·exact ti5
 ·exact ti9
 ·exact ti21
 ·exact ti22
 ·exact ti23
 ·exact ti25
 ·exact ti27
 ·exact ti28
 ·exact ti32
 ·exact ti35
 ·exact ti37
 ·exact ti39
 ·exact ti52
 ·exact ti63
 ·exact ti65
 ·exact ti69
 ·exact ti76
 ·exact ti78
 ·exact ti79
 ·exact ti81
 ·exact ti91
 ·exact ti92
 ·exact ti100
 ·exact ti101
 ·exact ti102
 ·exact ti105
 ·exact ti107
 ·exact ti111
 ·exact ti112
 ·exact ti114
 ·exact ti116
 ·exact ti119
 ·exact ti122
 ·exact ti124
 ·exact ti130
 ·exact ti136
 ·exact ti138
 ·exact ti139
 ·exact ti142
 ·exact ti147
 ·exact ti151
 ·exact ti154
 ·exact ti165
 ·exact ti166
 ·exact ti167
 ·exact ti169
 ·exact ti170
 ·exact ti171
 ·exact ti173
 ·exact ti177
 ·exact ti178
 ·exact ti181
 ·exact ti184
 ·exact ti186
 ·exact ti188
 ·exact ti190
 ·exact ti193
 ·exact ti196
 ·exact ti199
 ·exact ti210
 ·exact ti213
 ·exact ti217
 ·exact ti219
 ·exact ti223
 ·exact ti224
 ·exact ti227
 ·exact ti229
 ·exact ti241
 ·exact ti243
 ·exact ti249
 ·exact ti251
 ·exact ti253
 ·exact ti259
 ·exact ti261
 ·exact ti265
 ·exact ti267
 ·exact ti268
 ·exact ti269
 ·exact ti270
 ·exact ti271
 ·exact ti276
 ·exact ti283
 ·exact ti284
 ·exact ti289
 ·exact ti298
 ·exact ti300
 ·exact ti301
 ·exact ti302
 ·exact ti304
theorem keyS9 : KeyLaw 9 encS where
 check := fun b a w => by unfold encS; kernel_rfl
 bits := fun a => by unfold encS; simp [Instr.sameBits, beq_bytes]
 now := ⟨_, Try.underlying9, .inr fun a b => by simp [Instr.sameNow, encS, beq_bytes]⟩
 equal := fun a b w => by
  unfold encS
  have hu := run_underlying Try.underlying9 w
  show (Op.equalIn (9999 + 1) _ _ _).run _ _ = _
  rw [Op.equalIn]
  simp only [Sem.run_bind, hu, Result.andThen_ok, Sem.run_pure, beq_bytes]
def encI3 (k : Int) : Value := .int .i64 k
theorem keyI3 : KeyLaw 3 encI3 where
 check := fun b a w => by unfold encI3; kernel_rfl
 bits := fun a => by unfold encI3; simp [Instr.sameBits]
 now := ⟨_, Try.underlying3, .inr fun a b => by by_cases h : a = b <;> simp [Instr.sameNow, encI3, h]⟩
 equal := fun a b w => by
  unfold encI3
  have hu := run_underlying Try.underlying3 w
  show (Op.equalIn (9999 + 1) _ _ _).run _ _ = _
  rw [Op.equalIn]
  simp only [Sem.run_bind, hu, Result.andThen_ok, if_true, Sem.run_pure]
  congr 1
def DetSplit.enc (k : DetSplit) : Value := .agg #[.int .i64 k.fOwn, .string k.fNext]
theorem DetSplit.part0 (x0 : Int) (x1 : ByteArray) (w : World) : (Go.part 3 #[.int .i64 x0, .string x1] 0).run Try.prog w = .ok (.int .i64 x0) w := by kernel_rfl
theorem DetSplit.part1 (x0 : Int) (x1 : ByteArray) (w : World) : (Go.part 9 #[.int .i64 x0, .string x1] 1).run Try.prog w = .ok (.string x1) w := by kernel_rfl
theorem DetSplit.eq3 (x y : Int) (n : Nat) (w : World) : (Op.equalIn (n + 1) 3 (.int .i64 x) (.int .i64 y)).run Try.prog w = .ok (x == y) w := by
 have hu := run_underlying Try.underlying3 w
 simp only [Op.equalIn, Sem.run_bind, hu, Result.andThen_ok, if_true, Sem.run_pure]
theorem DetSplit.eq9 (x y : ByteArray) (n : Nat) (w : World) : (Op.equalIn (n + 1) 9 (.string x) (.string y)).run Try.prog w = .ok (decide (x = y)) w := by
 have hu := run_underlying Try.underlying9 w
 simp only [Op.equalIn, Sem.run_bind, hu, Result.andThen_ok, Sem.run_pure, beq_bytes]
theorem DetSplit.keyLaw : KeyLaw 267 DetSplit.enc where
 check := fun b a w => by unfold DetSplit.enc; kernel_rfl
 bits := fun a => by unfold DetSplit.enc; simp [Instr.sameBits, beq_bytes]
 now := ⟨_, Try.underlying267, .inl fun a b => rfl⟩
 equal := fun a b w => by
  unfold DetSplit.enc
  have hu := run_underlying Try.underlying267 w
  have hst : Try.prog.stoodInHeld 267 = false := by kernel_rfl
  show (Op.equalIn (9999 + 1) _ _ _).run _ _ = _
  rw [Op.equalIn]
  simp only [Sem.run_bind, hu, Result.andThen_ok]
  simp [Go.program, Sem.run, hst, DetSplit.part0, DetSplit.part1, DetSplit.eq3, DetSplit.eq9]
  rcases a with ⟨a0, a1⟩
  rcases b with ⟨b0, b1⟩
  by_cases h0 : a0 = b0 <;> by_cases h1 : a1 = b1 <;> simp [h0, h1]
def DetCouple.enc (k : DetCouple) : Value := .agg #[.int .i64 k.fE0, .int .i64 k.fE1]
theorem DetCouple.part0 (x0 : Int) (x1 : Int) (w : World) : (Go.part 3 #[.int .i64 x0, .int .i64 x1] 0).run Try.prog w = .ok (.int .i64 x0) w := by kernel_rfl
theorem DetCouple.part1 (x0 : Int) (x1 : Int) (w : World) : (Go.part 3 #[.int .i64 x0, .int .i64 x1] 1).run Try.prog w = .ok (.int .i64 x1) w := by kernel_rfl
theorem DetCouple.eq3 (x y : Int) (n : Nat) (w : World) : (Op.equalIn (n + 1) 3 (.int .i64 x) (.int .i64 y)).run Try.prog w = .ok (x == y) w := by
 have hu := run_underlying Try.underlying3 w
 simp only [Op.equalIn, Sem.run_bind, hu, Result.andThen_ok, if_true, Sem.run_pure]
theorem DetCouple.keyLaw : KeyLaw 224 DetCouple.enc where
 check := fun b a w => by unfold DetCouple.enc; kernel_rfl
 bits := fun a => by unfold DetCouple.enc; simp [Instr.sameBits, beq_bytes]
 now := ⟨_, Try.underlying224, .inl fun a b => rfl⟩
 equal := fun a b w => by
  unfold DetCouple.enc
  have hu := run_underlying Try.underlying224 w
  have hsz : ∀ w, (sizeOf 3).run Try.prog w = .ok 1 w := fun w => by kernel_rfl
  have hr : List.range' 0 2 = [0, 1] := rfl
  show (Op.equalIn (9999 + 1) _ _ _).run _ _ = _
  rw [Op.equalIn]
  simp only [Sem.run_bind, hu, Result.andThen_ok]
  simp [Go.program, Sem.run, hsz, hr, DetCouple.part0, DetCouple.part1, DetCouple.eq3]
  rcases a with ⟨a0, a1⟩
  rcases b with ⟨b0, b1⟩
  by_cases h0 : a0 = b0 <;> by_cases h1 : a1 = b1 <;> simp [h0, h1]
theorem noEsc_run : ∀ v w, (callFunc 210 #[v]).run Try.prog w = .ok (.value v) w := fun v w => by
 rw [run_callFunc_extern Try.func210 (by kernel_rfl) (by kernel_rfl) (by kernel_rfl) (e := Extern.AbiNoEscape.same) (by kernel_rfl), Lib.run_noEscape]
 rfl
def bCcU_vc (L : List Int) (Q : Unit → Prop) : Prop :=
 Q ()
theorem bCcU_walk (L : List Int) (Q : Unit → Prop) (h : bCcU_vc L Q) : CtE 182 [.sv (.one (.ptr 0 0))] [.box [.ptr 0 0, .own 1] 229 false, rowI 5 (intKT .u8) L] [0] Q (fun (r : Unit) => .tup []) (fun (r : Unit) => [.box [.ptr 0 0, .own 1] 229 false, rowI 5 (intKT .u8) L]) := by
 have ht := tab_ok
 refine CtE.body Try.func182 rfl rfl rfl (by kernel_rfl) (by kernel_rfl) (fun c Bk hn => ?_)
 unfold bCcU_vc at h
 show En c ⟨[sl 0 (.pptr 0 0 (Bk 0))], [.box [.ptr 0 0, .own 1] 229 false, rowI 5 (intKT .u8) L]⟩ _
 refine En.sr ?_
 refine WL.r ht hn 4 ⟨[sl 0 (.pptr 0 0 (Bk 0)), sl 5 (.ptr 0 0)], [.box [.ptr 0 0, .own 1] 229 false, rowI 5 (intKT .u8) L]⟩ ?_
 refine WL.v hn (val_eqN (p := some ⟨0, 0, none⟩) rfl Try.underlying227 (ptr_isSome (by rfl)) (by rfl) (.inl ⟨rfl, rfl⟩)) ?_
 refine WL.nil ?_
 refine En.cd (b := false) (fun hb => ?_) (fun hb => ?_)
 cases hb
 refine En.sr ?_
 refine WL.r ht hn 5 ⟨[sl 0 (.pptr 0 0 (Bk 0)), sl 17 (.ptr 0 0), sl 18 (.ptr 0 0)], [.box [.ptr 0 0, .own 1] 229 false, rowI 5 (intKT .u8) L]⟩ ?_
 refine WL.v hn (val_neqSame rfl Try.underlying227 rfl (by rfl) (by rfl)) ?_
 refine WL.nil ?_
 refine En.cd (b := false) (fun hb => ?_) (fun hb => ?_)
 cases hb
 refine En.skip ?_
 exact En.backE [0] ht () h (by kernel_rfl) (by rfl) rfl
theorem en182 : ∀ args w, (callFunc 182 args).run Try.prog w = .ok (.enter 182 args) w := enters_of Try.func182 (by kernel_rfl) rfl
def bCcF_vc (L : List Int) (Q : Unit → Prop) : Prop :=
 Q ()
theorem bCcF_walk (L : List Int) (Q : Unit → Prop) (h : bCcF_vc L Q) : CtE 182 [.sv (.one (.ptr 0 0))] [.box [.v (.pointer none), .own 1] 229 false, rowI 5 (intKT .u8) L] [0] Q (fun (r : Unit) => .tup []) (fun (r : Unit) => [.box [.ptr 0 0, .own 1] 229 false, rowI 5 (intKT .u8) L]) := by
 have ht := tab_ok
 refine CtE.body Try.func182 rfl rfl rfl (by kernel_rfl) (by kernel_rfl) (fun c Bk hn => ?_)
 unfold bCcF_vc at h
 show En c ⟨[sl 0 (.pptr 0 0 (Bk 0))], [.box [.v (.pointer none), .own 1] 229 false, rowI 5 (intKT .u8) L]⟩ _
 refine En.sr ?_
 refine WL.r ht hn 4 ⟨[sl 0 (.pptr 0 0 (Bk 0)), sl 5 (.v (.pointer none))], [.box [.v (.pointer none), .own 1] 229 false, rowI 5 (intKT .u8) L]⟩ ?_
 refine WL.v hn (val_eqN (p := none) rfl Try.underlying227 (ptr_isNone (by rfl)) (by rfl) (.inl ⟨rfl, rfl⟩)) ?_
 refine WL.nil ?_
 refine En.cd (b := true) (fun hb => ?_) (fun hb => ?_)
 refine En.region ?_
 refine WL.r ht hn 2 ⟨[sl 0 (.pptr 0 0 (Bk 0)), sl 7 (.ptr 0 0), sl 8 (.ptr 0 0)], [.box [.v (.pointer none), .own 1] 229 false, rowI 5 (intKT .u8) L]⟩ ?_
 refine WL.v hn (val_toU rfl Try.underlying227 Try.underlying286 rfl (by decide) (by rfl) (by rfl) (by decide)) ?_
 refine WL.v hn (val_ext1 noEsc_run rfl (by rfl) (by rfl)) ?_
 refine WL.v hn (val_fromU rfl Try.underlying286 Try.underlying227 rfl (by rfl) (by rfl) (by kernel_rfl)) ?_
 refine WL.rn ht hn 3 ⟨[sl 0 (.pptr 0 0 (Bk 0))], [.box [.ptr 0 0, .own 1] 229 false, rowI 5 (intKT .u8) L]⟩ ?_
 exact En.backE [0] ht () h (by kernel_rfl) (by rfl) rfl
 cases hb
theorem bCc_ct (L : List Int) : CtE 182 [.sv (.one (.ptr 0 0))] [.box [.opt 0, .own 1] 229 false, rowI 5 (intKT .u8) L] [0] (fun (_ : Unit) => True) (fun _ => .tup []) (fun _ => [.box [.ptr 0 0, .own 1] 229 false, rowI 5 (intKT .u8) L]) := ctE_opt (bCcF_walk L (fun _ => True) trivial) (bCcU_walk L (fun _ => True) trivial)
def bWb_vc (L : List Int) (ch : Int) (Q : (List Int) → Prop) : Prop :=
 ∀ r : Unit, ((fun _ => True)) r →
 (capOk L.length (([ch] : List Int) : List Int).length 1 ∧
 Q (L ++ ([ch] : List Int)))
noncomputable abbrev qc0 (y0 : Nat → Nat) := sl 0 (.pptr 0 0 (y0 0))
theorem bWb_walk (L : List Int) (ch : Int) (Q : (List Int) → Prop) (h : bWb_vc L ch Q) : CtE 134 [.sv (.one (.ptr 0 0)), .sv (.one (.v (.int .u8 ch)))] [.box [.opt 0, .own 1] 229 false, rowI 5 (intKT .u8) L] [0] Q (fun (r : List Int) => .sv (.one (.v (.nilIface)))) (fun (r : List Int) => [.box [.ptr 0 0, .own 1] 229 false, rowI 5 (intKT .u8) r]) := by
 have ht := tab_ok
 refine CtE.body Try.func134 rfl rfl rfl (by kernel_rfl) (by kernel_rfl) (fun c Bk hn => ?_)
 unfold bWb_vc at h
 show En c ⟨[qc0 Bk, sl 1 (.v (.int .u8 ch))], [.box [.opt 0, .own 1] 229 false, rowI 5 (intKT .u8) L]⟩ _
 refine En.sr ?_
 refine WL.rn ht hn 1 ⟨[qc0 Bk, sl 1 (.v (.int .u8 ch))], [.box [.opt 0, .own 1] 229 false, rowI 5 (intKT .u8) L]⟩ ?_
 refine En.sr ?_
 refine WL.r ht hn 1 ⟨[qc0 Bk, sl 1 (.v (.int .u8 ch)), sl 5 (.ptr 0 0)], [.box [.opt 0, .own 1] 229 false, rowI 5 (intKT .u8) L]⟩ ?_
 refine WL.callQ [qc0 Bk, sl 1 (.v (.int .u8 ch)), sl 5 (.ptr 0 0)] (bCc_ct L) en182 (caps := []) [0, 1] hn (by rfl) rfl (by rfl) (argsAs (by kernel_rfl) (by rfl)) (by kernel_rfl) (by decide) (by kernel_rfl) (by rfl) (by rfl) (fun r hr_2 => ⟨by rfl, _, by rfl, ?_⟩)
 replace h := h r hr_2
 refine WL.nil ?_
 refine En.sr ?_
 refine WL.r ht hn 6 ⟨[qc0 Bk, sl 7 (.ptr 0 0), sl 11 (.own 1), sl 12 (.v (.int .u8 ch))], [.box [.ptr 0 0, .own 1] 229 false, rowI 5 (intKT .u8) L]⟩ ?_
 refine WL.mt0 (K := []) (p := some (2, rowI 5 (intKT .u8) ([ch] : List Int))) hn (by rfl) (mt_lit (T := (intKT .u8)) ([ch] : List Int) (mt_bsl 2 (r := cellsOf (intKT .u8) ([ch] : List Int)) ht rfl (by rfl) (by rfl) (by rfl) (by kernel_rfl) (by rfl)) (fun _ h => by cases h) (fun _ => rfl) (fun _ => rfl) (by rfl) (Nat.le_of_ble_eq_true rfl)) (by rfl) (by rfl) (by rfl) ?_
 refine WL.seal (T := (intKT .u8)) (l := ([ch] : List Int)) (e := 5) 2 rfl ?_
 refine WL.r ht hn 0 ⟨[qc0 Bk, sl 7 (.ptr 0 0), sl 11 (.own 1), sl 12 (.v (.int .u8 ch)), sl 13 (LS (intKT .u8) ([ch] : List Int))], [.box [.ptr 0 0, .own 1] 229 false, rowI 5 (intKT .u8) L, .gone]⟩ ?_
 refine WL.junk 0 1 (by rfl) ?_
 obtain ⟨hp, h⟩ := h
 refine WL.mt (S2 := ⟨[qc0 Bk, sl 7 (.ptr 0 0), sl 12 (.v (.int .u8 ch)), sl 13 (LS (intKT .u8) ([ch] : List Int))], [.box [.ptr 0 0, .junk] 229 false, rowI 5 (intKT .u8) L, .gone]⟩) (K := [1]) (p := some (1, rowI 5 (intKT .u8) (L ++ ([ch] : List Int)))) hn (by rfl) (mt_append (T := (intKT .u8)) (l := L) (es := ([ch] : List Int)) ht rfl (by rfl) (by rfl) (by rfl) (by rfl) (by decide) (by rfl) (by rfl) (srcLS (T := (intKT .u8)) (es := ([ch] : List Int)) (fun _ h => by cases h) (by decide) (by rfl)) (by exact hp) (by exact hp.le (by decide))) (by kernel_rfl) (by rfl) (by rfl) (by rfl) ?_
 refine WL.rn ht hn 3 ⟨[qc0 Bk], [.box [.ptr 0 0, .own 1] 229 false, rowI 5 (intKT .u8) (L ++ ([ch] : List Int)), .gone]⟩ ?_
 refine En.sr ?_
 refine WL.rn ht hn 1 ⟨[qc0 Bk, sl 4 (.v (.nilIface))], [.box [.ptr 0 0, .own 1] 229 false, rowI 5 (intKT .u8) (L ++ ([ch] : List Int)), .gone]⟩ ?_
 refine En.ret ?_
 exact En.backE [0] ht (L ++ ([ch] : List Int)) h (by kernel_rfl) (by rfl) rfl
theorem en134 : ∀ args w, (callFunc 134 args).run Try.prog w = .ok (.enter 134 args) w := enters_of Try.func134 (by kernel_rfl) rfl
theorem bWb_ct (L : List Int) (ch : Int) (hp : L.length + 1 ≤ 100000000) : CtE 134 [.sv (.one (.ptr 0 0)), .sv (.one (.v (.int .u8 ch)))] [.box [.opt 0, .own 1] 229 false, rowI 5 (intKT .u8) L] [0] (fun L_ => L_ = L ++ [ch]) (fun (r : List Int) => .sv (.one (.v (.nilIface)))) (fun (r : List Int) => [.box [.ptr 0 0, .own 1] 229 false, rowI 5 (intKT .u8) r]) := by
 refine bWb_walk L ch _ ?_
 unfold bWb_vc
 exact fun _ _ => ⟨capOk_of (by simp only [List.length_cons, List.length_nil]; omega), rfl⟩
def bStr_vc (L : List Int) (Q : ByteArray → Prop) : Prop :=
 (0 < L.length) ∧
 (0 < L.length ∧ ∀ x_ ∈ L, 0 ≤ x_ ∧ x_ < 256) ∧
 Q (bytesOf L)
theorem bStr_walk (L : List Int) (Q : ByteArray → Prop) (h : bStr_vc L Q) : CtE 135 [.sv (.one (.ptr 0 0))] [.box [.opt 0, .own 1] 229 false, rowI 5 (intKT .u8) L] [0] Q (fun (r : ByteArray) => .sv (.one (.v (.string r)))) (fun (r : ByteArray) => [.gone, .gone]) := by
 have ht := tab_ok
 refine CtE.body Try.func135 rfl rfl rfl (by kernel_rfl) (by kernel_rfl) (fun c Bk hn => ?_)
 unfold bStr_vc at h
 show En c ⟨[sl 0 (.pptr 0 0 (Bk 0))], [.box [.opt 0, .own 1] 229 false, rowI 5 (intKT .u8) L]⟩ _
 refine En.sr ?_
 refine WL.rn ht hn 1 ⟨[sl 0 (.pptr 0 0 (Bk 0))], [.box [.opt 0, .own 1] 229 false, rowI 5 (intKT .u8) L]⟩ ?_
 refine En.seq ?_
 obtain ⟨hp_2, h⟩ := h
 obtain ⟨hp_3, h⟩ := h
 refine En.regionA ⟨[sl 0 (.pptr 0 0 (Bk 0))], [.sv (.one (.ptr 0 0)), .sv (.one (.ptr 0 0)), .sv (.one (.ptr 0 1)), .sv (.one (.own 1)), .sv (.one (.oe 1 (0) 1)), .sv (.one (.ptr 0 0)), .sv (.one (.ptr 0 0)), .sv (.one (.ptr 0 1)), .sv (.one (.own 1)), .sv (.one (I (L.length : Int))), .sv (.one (.v (.string (bytesOf L)))), .sv (.one (.v (.string (bytesOf L))))], [⟨.box [.opt 0, .own 1] 229 false, none, none, none⟩, ⟨rowI 5 (intKT .u8) L, none, some 10, none⟩]⟩ ⟨[sl 0 (.pptr 0 0 (Bk 0)), sl 2 (.v (.string (bytesOf L)))], [.box [.opt 0, .own 1] 229 false, .gone]⟩ (by kernel_rfl) hn (by kernel_rfl) (by rfl) (by kernel_rfl) ?_ (by kernel_rfl) ?_
 exact ⟨.ev ⟨[sl 0 (.pptr 0 0 (Bk 0))], []⟩ ht,
 .ev ⟨[sl 3 (.ptr 0 0)], []⟩ ht,
 .ev ⟨[sl 4 (.ptr 0 0)], []⟩ ht,
 .ev ⟨[sl 5 (.ptr 0 1)], [.box [.opt 0, .own 1] 229 false]⟩ ht,
 .vl ⟨[sl 6 (.own 1)], [.gone, rowI 5 (intKT .u8) L]⟩ (mt_val (val_sliceData (T := (intKT .u8)) (l := L) rfl (by rfl) (by rfl) hp_2 rfl)),
 .ev ⟨[sl 0 (.pptr 0 0 (Bk 0))], []⟩ ht,
 .ev ⟨[sl 8 (.ptr 0 0)], []⟩ ht,
 .ev ⟨[sl 9 (.ptr 0 0)], []⟩ ht,
 .ev ⟨[sl 10 (.ptr 0 1)], [.box [.opt 0, .own 1] 229 false]⟩ ht,
 .ev ⟨[sl 11 (.own 1)], [.gone, rowI 5 (intKT .u8) L]⟩ ht,
 .mt ⟨[sl 7 (.oe 1 (0) 1), sl 12 (I (L.length : Int))], [.gone, rowI 5 (intKT .u8) L]⟩ [1] none (by kernel_rfl) (by rfl) (mt_unsafeStr (l := L) rfl Try.underlying271 (by kernel_rfl) (by rfl) (by rfl) (by rfl) hp_3) rfl rfl rfl rfl,
 .ev ⟨[sl 13 (.v (.string (bytesOf L)))], []⟩ ht,
 trivial⟩
 refine En.ret ?_
 exact En.backE [0] ht (bytesOf L) h (by kernel_rfl) (by rfl) rfl
theorem en135 : ∀ args w, (callFunc 135 args).run Try.prog w = .ok (.enter 135 args) w := enters_of Try.func135 (by kernel_rfl) rfl
theorem bStr_ct (L : List Int) (hp : 0 < L.length ∧ ∀ x_ ∈ L, 0 ≤ x_ ∧ x_ < 256) : CtE 135 [.sv (.one (.ptr 0 0))] [.box [.opt 0, .own 1] 229 false, rowI 5 (intKT .u8) L] [0] (fun (_ : Unit) => True) (fun _ => .sv (.one (.v (.string (bytesOf L))))) (fun _ => [.gone, .gone]) :=
 (bStr_walk L (fun r => r = bytesOf L) ⟨hp.1, hp, rfl⟩).imp fun r hr => ⟨(), trivial, by subst hr; rfl, rfl⟩
end Go.Proofs.Ytobenjahlicnoaa
