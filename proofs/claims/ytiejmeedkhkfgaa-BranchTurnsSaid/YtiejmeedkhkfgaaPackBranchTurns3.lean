/- Lemmas towards the statement: mirrors of functions, and plain laws. No condition. -/
import Derived.Laws.CopyRow
import Derived.Laws.IdiomCopy
import Derived.Recover
import Derived.Laws.BytesString
import Derived.Laws.BitsLemmas
import Derived.Test.YtiejmeedkhkfgaaPackBranchTurns2


namespace Go.Proofs.Ytiejmeedkhkfgaa
open Go.RowKit Go.MapKept
set_option linter.unusedSimpArgs false
set_option linter.unusedVariables false
set_option maxRecDepth 100000
def At.subG (a : At) (i : Nat) (b : At) : At := match a with
 | .gs j 0 => match Nat.beq j i with
  | true => b
  | false => .gs j 0
 | a => a
def SV.subG (s : SV) (i : Nat) (b : At) : SV := match s with
 | .one a => .one (a.subG i b)
 | .agg l => .agg (l.map (·.subG i b))
def SC.subG (x : SC) (i : Nat) (b : At) : SC := match x with
 | .sv s => .sv (s.subG i b)
 | .tup l => .tup (l.map (·.subG i b))
def Item.subG (it : Item) (i : Nat) (b : At) : Item := match it with
 | .box cells ty fz => .box (cells.map (·.subG i b)) ty fz
 | it => it
section
variable {g : Gh} {hs : Nat → Value} {i : Nat} {b : At}
theorem At.subG_ok (hb : b.ok g hs (gpart (hs i) 0)) {a : At} {u : Value} (h : a.ok g hs u) : (a.subG i b).ok g hs u := by
 unfold At.subG
 split
 ·rename_i j
  cases hj : Nat.beq j i with
  | true =>
   have := Nat.eq_of_beq_eq_true hj
   subst this
   have : u = gpart (hs j) 0 := h.1
   subst this
   exact hb
  | false => exact h
 ·exact h
theorem oks_subG (hb : b.ok g hs (gpart (hs i) 0)) : ∀ {l : List At} {us : List Value}, oks g hs l us → oks g hs (l.map (·.subG i b)) us
 | [], [], _ => trivial
 | [], _ :: _, h => h.elim
 | _ :: _, [], h => h.elim
 | _ :: _, _ :: _, h => ⟨At.subG_ok hb h.1, h.2.1, oks_subG hb h.2.2⟩
theorem SV.subG_ok (hb : b.ok g hs (gpart (hs i) 0)) {a : SV} {u : Value} (h : a.ok g hs u) : (a.subG i b).ok g hs u := by
 cases a with
 | one a => exact At.subG_ok hb h
 | agg l =>
  obtain ⟨cs, h1, h2⟩ := h
  exact ⟨cs, h1, oks_subG hb h2⟩
theorem svs_subG (hb : b.ok g hs (gpart (hs i) 0)) : ∀ {l : List SV} {us : List Value}, SV.oks g hs l us → SV.oks g hs (l.map (·.subG i b)) us
 | [], [], _ => trivial
 | [], _ :: _, h => h.elim
 | _ :: _, [], h => h.elim
 | _ :: _, _ :: _, h => ⟨SV.subG_ok hb h.1, svs_subG hb h.2⟩
theorem SC.subG_ok (hb : b.ok g hs (gpart (hs i) 0)) {a : SC} {u : Value} (h : a.ok g hs u) : (a.subG i b).ok g hs u := by
 cases a with
 | sv s => exact SV.subG_ok hb h
 | tup l =>
  obtain ⟨cs, h1, h2⟩ := h
  exact ⟨cs, h1, svs_subG hb h2⟩
end
section
variable {c : Cfg} {S S1 : St} {a : Act} {w : World} {g : Gh} {hs : Nat → Value} {tab : Tab} {n : Nat} {o : Oper} {ops : Array Oper} {rest L : List Oper} {N : Po}
theorem grid_LS {α : Type} {T : Ty α} {L : List (List α)} {tyo ty : Nat} {v : Value} {g' : Gh} (h : (gridI tyo ty T L).ok g hs w v) (hle : Gh.le g g') (hb : ∀ b, Blk v b → g' b = w.heap[b]?) : (LS (lsT T) L).ok g' hs (gpart v 0) := by
 have hrow := fun p l hp => grid_row h (p := p) (l := l) hp
 obtain ⟨us, ocs, hv, h2, h3, hsl, h4, _, _, h5⟩ := h
 rw [List.length_map] at h2 h3
 have hg : ∀ k, k < us.length → ∀ b, (gpart v k).ownBlock = some b → g' b = w.heap[b]? := fun k hk b e => hb b (Blk.part hv hk (ownBlock_blk' e))
 have hlo : ocs.length = L.length := by have := h3.1; omega
 have hd : ∀ p u, ocs[p]? = some u → p < L.length ∧ u = gpart v (p + 1) := fun p u hp => by
  have hlt := (List.getElem?_eq_some_iff.1 hp).1
  have hlt' : p < L.length := by omega
  refine ⟨hlt', ?_⟩
  have := (h4 p (rowR T L[p]) L[p].length (by rw [List.getElem?_map, List.getElem?_eq_getElem hlt']; rfl)).1
  rw [hp] at this
  exact Option.some.inj this
 have hcell : ∀ u ∈ ocs, u.cells = #[u] := fun u hu => by
  obtain ⟨ao, m, cp, e⟩ := hsl u hu
  rw [e]
  rfl
 have h3' : w.ownsAt tyo (lsT T).s (gpart v 0) L.length ocs := h3
 refine row_LS h3' (g := g') ⟨ocs, ?_, hlo, fun k u l hu hl => ?_⟩ (fun _ _ e => e) (hg 0 (by omega))
 ·have : ∀ l : List Value, (∀ u ∈ l, u.cells = #[u]) → l = l.flatMap fun u => u.cells.toList := fun l => by
   induction l with
   | nil => intro _; rfl
   | cons u l ih =>
    intro hc
    rw [List.flatMap_cons, hc u List.mem_cons_self, ← ih fun x hx => hc x (List.mem_cons_of_mem _ hx)]
    rfl
  exact this _ hcell
 ·obtain ⟨h6, rfl⟩ := hd k u hu
  obtain ⟨cs, r1, r2⟩ := hrow k l hl
  refine ⟨row_LS r1 r2 hle (hg (k + 1) (by omega)), ?_⟩
  rw [hcell _ (List.mem_of_getElem? hu)]
  rfl
def sealG (S : St) (i : Nat) (b : At) : St := ⟨S.F.map fun e => (e.1, e.2.subG i b), (S.M.set i .gone).map (·.subG i b)⟩
theorem Ok'.sealG' {α : Type} {T : Ty α} {L : List (List α)} {tyo ty i : Nat} (h : Ok' c S a w g hs) (hm : S.M[i]? = some (gridI tyo ty T L)) : ∃ g', Gh.le g g' ∧ (∀ b, Blk (hs i) b → g' b = w.heap[b]?) ∧ Ok' c (sealG S i (LS (lsT T) L)) a w g' hs := by
 classical
 have hit := h.items i _ hm
 have hmine := h.mine i _ hm (by simp)
 let g' : Gh := fun x => if Blk (hs i) x then w.heap[x]? else g x
 have hle : Gh.le g g' := fun x o e => by
  show (if Blk (hs i) x then _ else g x) = some o
  by_cases hx : Blk (hs i) x
  ·have := (hmine x hx).2 rfl
   rw [this.2] at e
   cases e
  ·rw [if_neg hx]; exact e
 have hb : (LS (lsT T) L).ok g' hs (gpart (hs i) 0) := grid_LS hit hle (fun b hb => if_pos hb)
 have hset : ∀ (j : Nat) (jt : Item), ((S.M.set i .gone).map (·.subG i (LS (lsT T) L)))[j]? = some jt → jt ≠ .gone → ∃ kt, j ≠ i ∧ S.M[j]? = some kt ∧ jt = kt.subG i (LS (lsT T) L) ∧ kt ≠ .gone ∧ jt.fz = kt.fz := fun j jt hj hn => by
  rw [List.getElem?_map, List.getElem?_set] at hj
  by_cases e : i = j
  ·rw [if_pos e] at hj
   split at hj
   ·simp [Item.subG] at hj
    exact absurd hj.symm hn
   ·cases hj
  ·rw [if_neg e] at hj
   cases hk : S.M[j]? with
   | none => rw [hk] at hj; cases hj
   | some kt =>
    rw [hk] at hj
    simp at hj
    refine ⟨kt, Ne.symm e, rfl, hj.symm, fun e => ?_, ?_⟩
    ·subst e; exact hn hj.symm
    ·rw [← hj]; cases kt <;> rfl
 refine ⟨g', hle, fun b hb => if_pos hb, h.size, h.defers, ⟨h.base.os, h.base.tape, h.base.output, h.base.grows, h.base.frame, h.base.ghle.trans hle, fun x o e => ?_, fun x o e => ?_⟩, fun t x hx => ?_, fun j jt hj => ?_, fun j k jt kt hjk hj hk hfj hnk x hx => ?_, fun j jt hj hnj x hx => ?_⟩
 ·by_cases hx : Blk (hs i) x
  ·exact .inr ((hmine x hx).2 rfl).1
  ·rw [show g' x = g x from if_neg hx] at e
   exact h.base.ghnew x o e
 ·by_cases hx : Blk (hs i) x
  ·rw [show g' x = w.heap[x]? from if_pos hx] at e
   exact e
  ·rw [show g' x = g x from if_neg hx] at e
   exact h.base.pers x o e
 ·obtain ⟨y, hy, e⟩ := List.mem_map.1 hx
  cases e
  exact SC.subG_ok hb (SC.mono hle (h.slots _ _ hy))
 ·by_cases hn : jt = .gone
  ·subst hn; trivial
  ·obtain ⟨kt, h1, h2, rfl, h3, _⟩ := hset j jt hj hn
   have h4 := Item.mono hle (h.items j kt h2)
   cases kt with
   | box cells ty fz =>
    obtain ⟨b, us, k1, k2, k3, k4⟩ := h4
    exact ⟨b, us, k1, oks_subG hb k2, k3, k4⟩
   | _ => exact h4
 ·obtain ⟨jt', h1, h2, rfl, h3, h4⟩ := hset j jt hj (fz_gone hfj)
  obtain ⟨kt', k1, k2, rfl, k3, k4⟩ := hset k kt hk hnk
  exact h.sep j k jt' kt' hjk h2 k2 (by rw [← h4]; exact hfj) k3 x hx
 ·obtain ⟨jt', h1, h2, rfl, h3, h4⟩ := hset j jt hj hnj
  obtain ⟨m1, m2⟩ := h.mine j jt' h2 h3 x hx
  refine ⟨m1, fun hf => ?_⟩
  rw [h4] at hf
  refine ⟨(m2 hf).1, ?_⟩
  have hx' : ¬ Blk (hs i) x := fun e => h.sep j i jt' _ h1 h2 hm hf (by simp) x hx e
  rw [show g' x = g x from if_neg hx']
  exact (m2 hf).2
theorem Ok'.sealG {α : Type} {T : Ty α} {L : List (List α)} {tyo ty i : Nat} (h : Ok' c S a w g hs) (hm : S.M[i]? = some (gridI tyo ty T L)) : ∃ g', Ok' c (Proofs.Ytiejmeedkhkfgaa.sealG S i (LS (lsT T) L)) a w g' hs := by
 obtain ⟨g', _, _, h'⟩ := h.sealG' hm
 exact ⟨g', h'⟩
theorem WL.sealG {α : Type} {T : Ty α} {L' : List (List α)} {tyo ty : Nat} (i : Nat) (hm : S.M[i]? = some (gridI tyo ty T L')) (h : WL c ops L (sealG S i (LS (lsT T) L')) N) : WL c ops L S N := fun a w ⟨g, hs, hk⟩ => by
 obtain ⟨g', hk'⟩ := hk.sealG hm
 exact h a w ⟨g', hs, hk'⟩
theorem En.sealG {α : Type} {T : Ty α} {L' : List (List α)} {tyo ty : Nat} (i : Nat) (hm : S.M[i]? = some (gridI tyo ty T L')) (h : En c (Proofs.Ytiejmeedkhkfgaa.sealG S i (LS (lsT T) L')) N) : En c S N := fun a w ⟨g, hs, hk⟩ => by
 obtain ⟨g', hk'⟩ := hk.sealG hm
 exact h a w ⟨g', hs, hk'⟩
theorem own_slice {e : TypeId} {s m : Nat} {v : Value} {cs : List Value} (h : w.ownsAt e s v m cs) : ∃ ao cap, v = .slice ao m cap := by
 obtain ⟨_, h⟩ := h
 rcases h with ⟨rfl, rfl⟩ | ⟨gb, of, cap, cur, rfl, _⟩
 ·exact ⟨none, 0, rfl⟩
 ·exact ⟨_, cap, rfl⟩
theorem run_lenOwn {t el : Nat} {ti : TI} {x : Operand} {e : TypeId} {s m : Nat} {cs : List Value} (ht : tab.ok) (ho : o.op = .call ⟨.builtin .len, #[x], #[t]⟩) (h1 : tab t = some ti) (h2 : ti.sl = some el) (h : w.ownsAt e s (a.eval x) m cs) : (execOp a.eval o).run Try.prog w = .ok (.value (.int .i64 m)) w := by
 have hu := slT_some ((ht t ti h1).sl.trans h2)
 obtain ⟨ao, cap, e1⟩ := own_slice h
 have : execOp a.eval o = (do pure (.value (← Builtin.len_ #[t] o.type #[a.eval x])) : Sem Next) := by
  unfold execOp
  rw [ho]
  simp [resolve, invoke, builtin]
 rw [this, e1]
 exact run_val (len_slice hu w)
theorem val_lenG0 {α : Type} {T : Ty α} {L : List (List α)} {i tyo ty t el : Nat} {ti : TI} {x : Operand} (ht : tab.ok) (ho : o.op = .call ⟨.builtin .len, #[x], #[t]⟩) (h1 : tab t = some ti) (h2 : ti.sl = some el) (hx : evX S.F x = some (.sv (.one (.gs i 0)))) (hm : S.M[i]? = some (gridI tyo ty T L)) : Val c S o (.sv (.one (I (L.length : Int)))) := fun a w g hs h => by
 obtain ⟨us, r1, _⟩ := grid_out (h.items i _ hm)
 have hv : a.eval x = gpart (hs i) 0 := (evX_ok h hx).1
 rw [← hv] at r1
 exact ⟨_, run_lenOwn ht ho h1 h2 r1, rfl, trivial⟩
theorem val_lenG {α : Type} {T : Ty α} {L : List (List α)} {l : List α} {i p tyo ty t el : Nat} {ti : TI} {x : Operand} (ht : tab.ok) (ho : o.op = .call ⟨.builtin .len, #[x], #[t]⟩) (h1 : tab t = some ti) (h2 : ti.sl = some el) (hx : evX S.F x = some (.sv (.one (.gs i (p + 1))))) (hm : S.M[i]? = some (gridI tyo ty T L)) (hp : L[p]? = some l) : Val c S o (.sv (.one (I (l.length : Int)))) := fun a w g hs h => by
 obtain ⟨cs, r1, _⟩ := grid_row (h.items i _ hm) hp
 have hv : a.eval x = gpart (hs i) (p + 1) := (evX_ok h hx).1
 rw [← hv] at r1
 exact ⟨_, run_lenOwn ht ho h1 h2 r1, rfl, trivial⟩
def nilT : Ty Unit := ⟨1, fun _ => .one (.v (.slice none 0 0))⟩
theorem nil_cells {k : Nat} {cs : List Value} (h : rowRead nilT (List.replicate k ()) g cs) : cs = List.replicate k (.slice none 0 0) := by
 obtain ⟨us, rfl, h2, h3⟩ := h
 have hu : ∀ u ∈ us, u = .slice none 0 0 := fun u hu => by
  obtain ⟨q, hq⟩ := List.mem_iff_getElem?.1 hu
  have hlt := (List.getElem?_eq_some_iff.1 hq).1
  rw [h2, List.length_replicate] at hlt
  exact (h3 q u () hq (by simp [hlt])).1.1
 have e : us = List.replicate k (.slice none 0 0) := List.eq_replicate_iff.2 ⟨by rw [h2, List.length_replicate], hu⟩
 subst e
 clear hu h2 h3
 induction k with
 | zero => rfl
 | succ k ih =>
  rw [List.replicate_succ, List.flatMap_cons, ih]
  rfl
theorem mt_makeG {α : Type} (T : Ty α) (ty : Nat) {zv : Value} (p : Nat) {t e : Nat} {ti te : TI} {x y : Operand} {k1 k2 : IntKind} {l cp : Int} (ht : tab.ok) (ho : o.op = .makeSlice t x y) (h1 : tab t = some ti) (h2 : ti.sl = some e) (h3 : tab e = some te) (h4 : te.size = 1)
  (hx : evK S.F x = some (.int k1 l)) (hy : evK S.F y = some (.int k2 cp)) (hl0 : 0 ≤ l) (hlc : l ≤ cp) (hb : cp * te.bytes ≤ 140737488355328) (hb2 : cp ≤ 140737488355328) (hzc : zv.cells.toList = te.zero) (hz : zv = .slice none 0 0) :
  MT c S o (.sv (.one (.gs p 0))) [] (some (p, gridI e ty T (List.replicate l.toNat []))) := fun a w g hs h N Z hN =>
 mt_make (T := nilT) () p ht ho h1 h2 h3 h4 (by decide) hx hy hl0 hlc hb hb2 hzc (fun _ => by subst hz; exact ⟨rfl, trivial⟩) a w g hs h N Z fun v w' g' h' m1 m2 m3 => by
  obtain ⟨⟨cs, k1, k2⟩, k3⟩ := m3
  have hcs := nil_cells k2
  subst hcs
  rw [List.length_replicate] at k1
  have hv : v = h' := by
   have := m2.1
   have e : newH hs (some (p, rowI e nilT (List.replicate l.toNat ()))) h' p = h' := by simp [newH]
   exact this.trans e
  refine hN v w' g' (.tuple (h' :: List.replicate l.toNat (.slice none 0 0)).toArray) m1 ⟨?_, m2.2⟩ ⟨⟨_, List.replicate l.toNat (.slice none 0 0), rfl, ?_, ?_, fun u hu => ⟨none, 0, 0, List.eq_of_mem_replicate hu⟩, fun q r n hq => ?_, fun q hq => ?_, (fun p k e => by cases e), fun q q' b hq hq' hne hb1 hb2 => ?_⟩, fun b hb1 => ?_⟩
  ·show v = gpart (if p = p then _ else hs p) 0
   rw [if_pos rfl, hv]
   rfl
  ·simp
  ·rw [List.length_map, List.length_replicate]
   exact k1
  ·rw [List.getElem?_map, List.getElem?_replicate] at hq
   split at hq
   ·rename_i hlt
    simp only [Option.map_some, Option.some.injEq, Prod.mk.injEq] at hq
    obtain ⟨rfl, rfl⟩ := hq
    have : gpart (.tuple (h' :: List.replicate l.toNat (.slice none 0 0)).toArray) (q + 1) = .slice none 0 0 := by
     show (h' :: List.replicate l.toNat (.slice none 0 0)).getD (q + 1) undef = _
     simp [hlt]
    rw [this]
    refine ⟨by simp [hlt], [], ?_, rowRead.nil⟩
    exact World.ownsAt_nil _ _ _
   ·cases hq
  ·rw [List.getElem?_map, List.getElem?_replicate] at hq
   split at hq <;> simp at hq
  ·have hnil : ∀ q, q < l.toNat + 1 → q ≠ 0 → blk (gpart (.tuple (h' :: List.replicate l.toNat (.slice none 0 0)).toArray) q) = none := fun q hq h0 => by
    obtain ⟨k, rfl⟩ : ∃ k, q = k + 1 := ⟨q - 1, by omega⟩
    show blk ((h' :: List.replicate l.toNat (.slice none 0 0)).getD (k + 1) undef) = none
    have : k < l.toNat := by omega
    simp [this, blk]
   simp only [List.length_cons, List.length_replicate] at hq hq'
   by_cases e1 : q = 0
   ·rw [hnil q' hq' (by omega)] at hb2
    cases hb2
   ·rw [hnil q hq e1] at hb1
    cases hb1
  ·obtain ⟨u, hu, hub⟩ := hb1
   rcases List.mem_cons.1 hu with rfl | hu
   ·exact k3 b (Blk.of hub)
   ·rw [List.eq_of_mem_replicate hu] at hub
    cases hub
end
end Go.Proofs.Ytiejmeedkhkfgaa


namespace Go.Proofs.Ytiejmeedkhkfgaa
open Go.RowKit Go.MapKept
set_option linter.unusedSimpArgs false
set_option linter.unusedVariables false
set_option maxRecDepth 100000
def At.keepG (i j : Nat) : At → Bool
 | .gs k q => !(Nat.beq k j) && (!(Nat.beq k i) || Nat.beq q 0)
 | .ge k q _ _ => !(Nat.beq k j) && (!(Nat.beq k i) || Nat.beq q 0)
 | a => a.refs.all fun k => !(Nat.beq k j) && !(Nat.beq k i)
def SV.keepG (i j : Nat) : SV → Bool
 | .one a => a.keepG i j
 | .agg l => l.all (·.keepG i j)
def SC.keepG (i j : Nat) : SC → Bool
 | .sv s => s.keepG i j
 | .tup l => l.all (·.keepG i j)
def Item.keepG (i j : Nat) : Item → Bool
 | .box cells _ _ => cells.all (·.keepG i j)
 | .iter k _ => !(Nat.beq k j) && !(Nat.beq k i)
 | .grid _ _ _ _ (some (_, k)) => !(Nat.beq k j) && !(Nat.beq k i)
 | _ => true
def dropG (i j : Nat) (F : List (Nat × SC)) : List (Nat × SC) := F.filter fun e => e.2.keepG i j
theorem beq_ne {a b : Nat} (h : (!(Nat.beq a b)) = true) : a ≠ b := fun e => by subst e; simp at h
section
variable {g : Gh} {hs hs' : Nat → Value} {i j : Nat}
theorem At.keepG_ok (h0 : gpart (hs' i) 0 = gpart (hs i) 0) (h1 : ∀ k, k ≠ i → k ≠ j → hs' k = hs k) {a : At} {u : Value} (hk : a.keepG i j = true) (h : a.ok g hs u) : a.ok g hs' u := by
 have gen : ∀ a : At, (a.refs.all fun k => !(Nat.beq k j) && !(Nat.beq k i)) = true → a.ok g hs u → a.ok g hs' u := fun a hk h => At.ok_hs (fun k hk' => by
  have := List.all_eq_true.1 hk k hk'
  rw [Bool.and_eq_true] at this
  exact h1 k (beq_ne this.2) (beq_ne this.1)) h
 have gp : ∀ k q, (!(Nat.beq k j) && (!(Nat.beq k i) || Nat.beq q 0)) = true → gpart (hs' k) q = gpart (hs k) q := fun k q hk => by
  rw [Bool.and_eq_true, Bool.or_eq_true] at hk
  by_cases e : k = i
  ·subst e
   rcases hk.2 with h2 | h2
   ·exact absurd rfl (beq_ne h2)
   ·have := Nat.eq_of_beq_eq_true h2
    subst this
    exact h0
  ·rw [h1 k e (beq_ne hk.1)]
 cases a with
 | gs k q =>
  obtain ⟨h2, h3⟩ := h
  refine ⟨?_, h3⟩
  show u = gpart (hs' k) q
  rw [gp k q hk]
  exact h2
 | ge k q m s =>
  obtain ⟨⟨b, o, n, cap, h2, h3⟩, h4⟩ := h
  exact ⟨⟨b, o, n, cap, by rw [gp k q hk]; exact h2, h3⟩, h4⟩
 | _ => exact gen _ hk h
theorem oks_keepG (h0 : gpart (hs' i) 0 = gpart (hs i) 0) (h1 : ∀ k, k ≠ i → k ≠ j → hs' k = hs k) : ∀ {l : List At} {us : List Value}, l.all (·.keepG i j) = true → oks g hs l us → oks g hs' l us
 | [], [], _, _ => trivial
 | [], _ :: _, _, h => h.elim
 | _ :: _, [], _, h => h.elim
 | _ :: _, _ :: _, hk, h => by
  rw [List.all_cons, Bool.and_eq_true] at hk
  exact ⟨At.keepG_ok h0 h1 hk.1 h.1, h.2.1, oks_keepG h0 h1 hk.2 h.2.2⟩
theorem SV.keepG_ok (h0 : gpart (hs' i) 0 = gpart (hs i) 0) (h1 : ∀ k, k ≠ i → k ≠ j → hs' k = hs k) {a : SV} {u : Value} (hk : a.keepG i j = true) (h : a.ok g hs u) : a.ok g hs' u := by
 cases a with
 | one a => exact At.keepG_ok h0 h1 hk h
 | agg l =>
  obtain ⟨cs, h2, h3⟩ := h
  exact ⟨cs, h2, oks_keepG h0 h1 hk h3⟩
theorem svs_keepG (h0 : gpart (hs' i) 0 = gpart (hs i) 0) (h1 : ∀ k, k ≠ i → k ≠ j → hs' k = hs k) : ∀ {l : List SV} {us : List Value}, l.all (·.keepG i j) = true → SV.oks g hs l us → SV.oks g hs' l us
 | [], [], _, _ => trivial
 | [], _ :: _, _, h => h.elim
 | _ :: _, [], _, h => h.elim
 | _ :: _, _ :: _, hk, h => by
  rw [List.all_cons, Bool.and_eq_true] at hk
  exact ⟨SV.keepG_ok h0 h1 hk.1 h.1, svs_keepG h0 h1 hk.2 h.2⟩
theorem SC.keepG_ok (h0 : gpart (hs' i) 0 = gpart (hs i) 0) (h1 : ∀ k, k ≠ i → k ≠ j → hs' k = hs k) {a : SC} {u : Value} (hk : a.keepG i j = true) (h : a.ok g hs u) : a.ok g hs' u := by
 cases a with
 | sv s => exact SV.keepG_ok h0 h1 hk h
 | tup l =>
  obtain ⟨us, h2, h3⟩ := h
  exact ⟨us, h2, svs_keepG h0 h1 hk h3⟩
theorem Item.keepG_ok (h0 : gpart (hs' i) 0 = gpart (hs i) 0) (h1 : ∀ k, k ≠ i → k ≠ j → hs' k = hs k) {w : World} {x : Value} {it : Item} (hk : it.keepG i j = true) (h : it.ok g hs w x) : it.ok g hs' w x := by
 cases it with
 | box cells ty fz =>
  obtain ⟨b, cs, h2, h3, h4⟩ := h
  exact ⟨b, cs, h2, oks_keepG h0 h1 hk h3, h4⟩
 | iter k r =>
  obtain ⟨rb, m, clock, seen, h2, h3, h4⟩ := h
  rw [Item.keepG, Bool.and_eq_true] at hk
  exact ⟨rb, m, clock, seen, h2, (h1 k (beq_ne hk.2) (beq_ne hk.1)).trans h3, h4⟩
 | grid tyo ty s rows link =>
  obtain ⟨us, ocs, u1, u2, u3, u4, u5, u6, u7, u8⟩ := h
  refine ⟨us, ocs, u1, u2, u3, u4, u5, u6, fun p k hl => ?_, u8⟩
  subst hl
  rw [Item.keepG, Bool.and_eq_true] at hk
  rw [h1 k (beq_ne hk.2) (beq_ne hk.1)]
  exact u7 p k rfl
 | _ => exact h
end
def rawT : Ty Value := ⟨1, fun v => .one (.v v)⟩
theorem rawT_solid : rawT.solid := fun a e => by cases e
theorem raw_cells {g : Gh} {l cs : List Value} (h : rowRead rawT l g cs) : cs = l := by
 obtain ⟨us, rfl, h2, h3⟩ := h
 induction us generalizing l with
 | nil => cases l with
  | nil => rfl
  | cons _ _ => simp at h2
 | cons u us ih =>
  cases l with
  | nil => simp at h2
  | cons v l =>
   obtain ⟨⟨h4, h5⟩, _⟩ := h3 0 u v rfl rfl
   have h4 : u = v := h4
   subst h4
   rw [List.flatMap_cons, cellV.cells h5, ih (by simpa using h2) fun q x y hx hy => h3 (q + 1) x y (by simpa using hx) (by simpa using hy)]
   rfl
theorem raw_read {g : Gh} {l : List Value} (h : ∀ u ∈ l, ∃ ao m cap, u = .slice ao m cap) : rowRead rawT l g l := by
 have hc : ∀ u ∈ l, cellV u := fun u hu => by obtain ⟨_, _, _, rfl⟩ := h u hu; trivial
 clear h
 refine ⟨l, ?_, rfl, fun q u v hu hv => ?_⟩
 ·induction l with
  | nil => rfl
  | cons u l ih =>
   rw [List.flatMap_cons, cellV.cells (hc u List.mem_cons_self), ← ih fun x hx => hc x (List.mem_cons_of_mem _ hx)]
   rfl
 ·rw [hu] at hv
  cases hv
  have h1 := hc u (List.mem_of_getElem? hu)
  exact ⟨⟨rfl, h1⟩, by rw [cellV.cells h1]; rfl⟩
theorem gpart_set_same {us : List Value} {k : Nat} {v : Value} (h : k < us.length) : gpart (.tuple (us.set k v).toArray) k = v := by
 show (us.set k v).getD k undef = v
 simp [h]
theorem gpart_set_ne {us : List Value} {k q : Nat} {v : Value} (h : q ≠ k) : gpart (.tuple (us.set k v).toArray) q = gpart (.tuple us.toArray) q := by
 show (us.set k v).getD q undef = us.getD q undef
 simp [List.getD_eq_getElem?_getD, List.getElem?_set, Ne.symm h]
theorem Blk_set {us : List Value} {k b : Nat} {v : Value} (h : Blk (.tuple (us.set k v).toArray) b) : Blk (.tuple us.toArray) b ∨ blk v = some b := by
 obtain ⟨u, hu, e⟩ := h
 rcases List.mem_or_eq_of_mem_set hu with h1 | h1
 ·exact .inl ⟨u, h1, e⟩
 ·exact .inr (h1 ▸ e)
section
variable {c : Cfg} {S S1 : St} {a : Act} {w : World} {g : Gh} {hs : Nat → Value} {tab : Tab} {n : Nat} {o : Oper} {ops : Array Oper} {rest : List Oper} {N : Po}
theorem Ok'.putG (h : Ok' c S a w g hs) {i j p tyo ty s m : Nat} {rows : List (Option (Rl (List Value) × Nat))} {link : Option (Nat × Nat)} {r : Rl (List Value)} (hm : S.M[i]? = some (.grid tyo ty s rows link)) (hj : S.M[j]? = some (.row ty s r m)) (hp : p < rows.length)
  {b of nn cap : Nat} (e1 : gpart (hs i) 0 = .slice (some ⟨b, of, none⟩) nn cap) {t : Nat} {ti : TI} (htk : TI.ok t ti) (hts : ti.size = 1) (hkM : S.M.all (·.keepG i j) = true) :
  ∃ w' hs', (Instr.storeAt t (.pointer (some ⟨b, of + p * 1, none⟩)) (hs j)).run Try.prog w = .ok () w' ∧ Ok' c ⟨dropG i j S.F, (S.M.set i (.grid tyo ty s (rows.set p (some (r, m))) none)).set j .gone⟩ a w' g hs' := by
 have hij : i ≠ j := fun e => by subst e; rw [hm] at hj; cases hj
 have hit := h.items i _ hm
 obtain ⟨csj, hcj, hrj⟩ := h.items j _ hj
 obtain ⟨us, ocs, u1, u2, u3, u3', u4, u4', uk, u5⟩ := hit
 have hlo : ocs.length = rows.length := by have := u3.1; omega
 have hslj := own_slice hcj
 have hcvj : cellV (hs j) := by obtain ⟨_, _, e⟩ := hslj; rw [e]; trivial
 have hcj1 := cellV.cells hcvj
 rw [← hlo] at u3
 obtain ⟨w', k1, k2, cs', k3, k4⟩ := run_storeOwn (T := rawT) (l := ocs) (y := hs j) (k := p) (g := g) (t := t) (nn := nn) (cap := cap) (pv := .pointer (some ⟨b, of + p * 1, none⟩)) htk (by rw [hts]; rfl) rawT_solid u3 (raw_read u3') e1 rfl (by omega) ⟨rfl, hcvj⟩ rfl
 have := raw_cells k4
 subst this
 have hbi : Blk (hs i) b := Blk.part u1 (k := 0) (by omega) (by rw [e1]; rfl)
 have hl0 : p + 1 < us.length := by omega
 let hs' : Nat → Value := fun k => if k = i then .tuple (us.set (p + 1) (hs j)).toArray else hs k
 have hsi : hs' i = .tuple (us.set (p + 1) (hs j)).toArray := if_pos rfl
 have hsk : ∀ k, k ≠ i → hs' k = hs k := fun k hk => if_neg hk
 have hg0 : gpart (hs' i) 0 = gpart (hs i) 0 := by rw [hsi, gpart_set_ne (by omega), u1]
 have hgp : gpart (hs' i) (p + 1) = hs j := by rw [hsi, gpart_set_same hl0]
 have hgq : ∀ q, q ≠ p + 1 → gpart (hs' i) q = gpart (hs i) q := fun q hq => by rw [hsi, gpart_set_ne hq, u1]
 have hbj : ∀ b', blk (hs j) = some b' → ¬ Blk (hs i) b' := fun b' e => h.sep j i _ _ (Ne.symm hij) hj hm rfl (by simp) b' (Blk.of e)
 have hbs : ∀ b', Blk (hs' i) b' → Blk (hs i) b' ∨ blk (hs j) = some b' := fun b' hb => by
  rw [hsi] at hb
  rw [u1]
  exact Blk_set hb
 have hne : ∀ q, q < us.length → q ≠ 0 → (gpart (hs i) q).ownBlock = none ∨ (gpart (hs i) q).ownBlock ≠ some b := fun q hq hq0 => by
  cases hb : (gpart (hs i) q).ownBlock with
  | none => exact .inl rfl
  | some b' => exact .inr (fun e => by cases e; exact u5 0 q b (by omega) hq (fun e => hq0 e.symm) (by rw [e1]; rfl) (ownBlock_blk' hb))
 have hset : ∀ (k : Nat) (kt : Item), (((S.M.set i (.grid tyo ty s (rows.set p (some (r, m))) none)).set j .gone))[k]? = some kt → kt ≠ .gone → (k = i ∧ kt = .grid tyo ty s (rows.set p (some (r, m))) none) ∨ (k ≠ i ∧ k ≠ j ∧ S.M[k]? = some kt) := fun k kt hk hn => by
  rw [List.getElem?_set] at hk
  by_cases ej : j = k
  ·rw [if_pos ej] at hk
   split at hk
   ·simp at hk; exact absurd hk.symm hn
   ·cases hk
  ·rw [if_neg ej, List.getElem?_set] at hk
   by_cases ei : i = k
   ·rw [if_pos ei] at hk
    split at hk
    ·simp at hk; exact .inl ⟨ei.symm, hk.symm⟩
    ·cases hk
   ·rw [if_neg ei] at hk
    exact .inr ⟨Ne.symm ei, Ne.symm ej, hk⟩
 refine ⟨w', hs', k1, h.size, h.defers, h.base.kept k2 (fun b' e => by cases e; exact (h.mine i _ hm (by simp) b hbi).2 rfl), fun t x hx => ?_, fun k kt hk => ?_, fun k l kt lt hkl hk hl hf hn b' hb => ?_, fun k kt hk hn b' hb => ?_⟩
 ·obtain ⟨hx1, hx2⟩ := List.mem_filter.1 hx
  exact SC.keepG_ok hg0 (fun k hk _ => hsk k hk) hx2 (h.slots t x hx1)
 ·by_cases hn : kt = .gone
  ·subst hn; trivial
  ·rcases hset k kt hk hn with ⟨rfl, rfl⟩ | ⟨h1, h2, h3⟩
   ·refine ⟨us.set (p + 1) (hs j), ocs.set p (hs j), hsi, by simp [u2], ?_, fun u hu => ?_, fun q r' n' hq => ?_, fun q hq => ?_, (fun p k e => by cases e), fun q q' b' hq hq' hqq hb1 hb2 => ?_⟩
    ·rw [hg0, List.length_set, ← hlo]
     exact k3
    ·rcases List.mem_or_eq_of_mem_set hu with hu | hu
     ·exact u3' u hu
     ·obtain ⟨ao, cp, e⟩ := hslj
      exact ⟨ao, m, cp, hu.trans e⟩
    ·rw [List.getElem?_set] at hq
     by_cases e : p = q
     ·subst e
      rw [if_pos rfl, if_pos hp] at hq
      simp only [Option.some.injEq, Prod.mk.injEq] at hq
      obtain ⟨rfl, rfl⟩ := hq
      rw [hgp]
      refine ⟨by rw [List.getElem?_set_self (by omega)], csj, hcj.kept k2 ?_, hrj⟩
      cases hb : (hs j).ownBlock with
      | none => exact .inl rfl
      | some b' => exact .inr (fun e => by cases e; exact hbj b (ownBlock_blk' hb) hbi)
     ·rw [if_neg e] at hq
      have hql := (List.getElem?_eq_some_iff.1 hq).1
      obtain ⟨k5, cs2, k6, k7⟩ := u4 q r' n' hq
      rw [hgq (q + 1) (by omega)]
      exact ⟨by rw [List.getElem?_set_ne e]; exact k5, cs2, k6.kept k2 (hne (q + 1) (by omega) (by omega)), k7⟩
    ·rw [List.getElem?_set] at hq
     by_cases e : p = q
     ·rw [if_pos e] at hq
      split at hq <;> simp at hq
     ·rw [if_neg e] at hq
      rw [hgq (q + 1) (by omega)]
      exact u4' q hq
    ·rw [List.length_set] at hq hq'
     by_cases e : q = p + 1
     ·subst e
      rw [hgp] at hb1
      rw [hgq q' (Ne.symm hqq)] at hb2
      exact hbj b' hb1 (Blk.part u1 hq' hb2)
     ·rw [hgq q e] at hb1
      by_cases e' : q' = p + 1
      ·subst e'
       rw [hgp] at hb2
       exact hbj b' hb2 (Blk.part u1 hq hb1)
      ·rw [hgq q' e'] at hb2
       exact u5 q q' b' hq hq' hqq hb1 hb2
   ·rw [hsk k h1]
    refine Item.keepG_ok hg0 (fun k hk _ => hsk k hk) (List.all_eq_true.1 hkM kt (List.mem_of_getElem? h3)) ?_
    exact Item.kept k2 (h := h.items k kt h3) fun b' hb => ⟨(h.mine k kt h3 hn b' hb).1, fun e => by cases e; exact h.sep i k _ kt (Ne.symm h1) hm h3 rfl hn b hbi hb⟩
 ·rcases hset k kt hk (fz_gone hf) with ⟨rfl, rfl⟩ | ⟨h1, h2, h3⟩
  ·rcases hset l lt hl hn with ⟨rfl, rfl⟩ | ⟨l1, l2, l3⟩
   ·exact absurd rfl hkl
   ·rw [hsk l l1]
    rcases hbs b' hb with h4 | h4
    ·exact h.sep k l _ lt hkl hm l3 rfl hn b' h4
    ·exact h.sep j l _ lt (Ne.symm l2) hj l3 rfl hn b' (Blk.of h4)
  ·rw [hsk k h1] at hb
   rcases hset l lt hl hn with ⟨rfl, rfl⟩ | ⟨l1, l2, l3⟩
   ·intro hb2
    rcases hbs b' hb2 with h4 | h4
    ·exact h.sep k l kt _ hkl h3 hm hf (by simp) b' hb h4
    ·exact h.sep k j kt _ h2 h3 hj hf (by simp) b' hb (Blk.of h4)
   ·rw [hsk l l1]
    exact h.sep k l kt lt hkl h3 l3 hf hn b' hb
 ·rcases hset k kt hk hn with ⟨rfl, rfl⟩ | ⟨h1, h2, h3⟩
  ·rcases hbs b' hb with h4 | h4
   ·obtain ⟨m1, m2⟩ := h.mine k _ hm (by simp) b' h4
    exact ⟨Nat.lt_of_lt_of_le m1 k2.size, fun _ => m2 rfl⟩
   ·obtain ⟨m1, m2⟩ := h.mine j _ hj (by simp) b' (Blk.of h4)
    exact ⟨Nat.lt_of_lt_of_le m1 k2.size, fun _ => m2 rfl⟩
  ·rw [hsk k h1] at hb
   obtain ⟨m1, m2⟩ := h.mine k kt h3 hn b' hb
   exact ⟨Nat.lt_of_lt_of_le m1 k2.size, m2⟩
abbrev gridH {α : Type} (tyo ty : Nat) (T : Ty α) (L : List (List α)) (p : Nat) (link : Option (Nat × Nat)) : Item := .grid tyo ty T.s ((L.map fun l => some (rowR T l, l.length)).set p none) link
theorem WL.putG0 {i j p tyo ty s m t : Nat} {rows : List (Option (Rl (List Value) × Nat))} {link : Option (Nat × Nat)} {r : Rl (List Value)} {ti : TI} {x v : Operand} {S1 : St} (ht : tab.ok) (hn : c.n = n) (hw : wantE ops S.F o = some true) (ho : o.op = .store t x v) (h1 : tab t = some ti) (h2 : ti.size = 1)
  (hx : evX S.F x = some (.sv (.one (.ge i 0 p 1)))) (hv : evX S.F v = some (.sv (.one (.own j)))) (hm : S.M[i]? = some (.grid tyo ty s rows link)) (hj : S.M[j]? = some (.row ty s r m)) (hp : p < rows.length) (hkM : S.M.all (·.keepG i j) = true)
  (e : putE n o.dst (.tup []) ⟨dropG i j S.F, (S.M.set i (.grid tyo ty s (rows.set p (some (r, m))) none)).set j .gone⟩ = some S1) (h : WL c ops rest S1 N) : WL c ops (o :: rest) S N := fun a w ⟨g, hs, hh⟩ => by
 unfold wpList
 rw [if_pos (wantE_ok hh hw)]
 refine .inl ?_
 unfold Oper.wp
 obtain ⟨⟨b, of, nn, cap, e1, e2⟩, _⟩ := evX_ok hh hx
 have hvj : a.eval v = hs j := (evX_ok hh hv).1
 obtain ⟨w', hs', k1, k2⟩ := hh.putG hm hj hp e1 (ht t ti h1) h2 hkM
 have hrun : (execOp a.eval o).run Try.prog w = .ok .skip w' := by
  have : execOp a.eval o = (do Instr.storeAt t (a.eval x) (a.eval v); pure .skip : Sem Next) := by unfold execOp; rw [ho]
  rw [this, e2, hvj]
  simp only [Sem.run_bind, k1, Result.andThen_ok, Sem.run_pure]
 rw [hrun]
 exact h _ _ ⟨g, hs', putE_ok k2 hn undef_ok e⟩
theorem gridI_set {α : Type} {T : Ty α} {L : List (List α)} {l : List α} {p : Nat} : (L.map fun l => some (rowR T l, l.length)).set p (some (rowR T l, l.length)) = ((L.set p l).map fun l => some (rowR T l, l.length)) := by
 rw [List.map_set]
theorem WL.putG {α : Type} {T : Ty α} {L : List (List α)} {l : List α} {i j p tyo ty t : Nat} {ti : TI} {x v : Operand} {S1 : St} (ht : tab.ok) (hn : c.n = n) (hw : wantE ops S.F o = some true) (ho : o.op = .store t x v) (h1 : tab t = some ti) (h2 : ti.size = 1)
  (hx : evX S.F x = some (.sv (.one (.ge i 0 p 1)))) (hv : evX S.F v = some (.sv (.one (.own j)))) (hm : S.M[i]? = some (gridI tyo ty T L)) (hj : S.M[j]? = some (rowI ty T l)) (hp : p < L.length) (hkM : S.M.all (·.keepG i j) = true)
  (e : putE n o.dst (.tup []) ⟨dropG i j S.F, (S.M.set i (gridI tyo ty T (L.set p l))).set j .gone⟩ = some S1) (h : WL c ops rest S1 N) : WL c ops (o :: rest) S N :=
 WL.putG0 ht hn hw ho h1 h2 hx hv hm hj (by rw [List.length_map]; exact hp) hkM (by rw [gridI_set]; exact e) h
theorem WL.putGH {α : Type} {T : Ty α} {L : List (List α)} {l : List α} {link : Option (Nat × Nat)} {i j p tyo ty t : Nat} {ti : TI} {x v : Operand} {S1 : St} (ht : tab.ok) (hn : c.n = n) (hw : wantE ops S.F o = some true) (ho : o.op = .store t x v) (h1 : tab t = some ti) (h2 : ti.size = 1)
  (hx : evX S.F x = some (.sv (.one (.ge i 0 p 1)))) (hv : evX S.F v = some (.sv (.one (.own j)))) (hm : S.M[i]? = some (gridH tyo ty T L p link)) (hj : S.M[j]? = some (rowI ty T l)) (hp : p < L.length) (hkM : S.M.all (·.keepG i j) = true)
  (e : putE n o.dst (.tup []) ⟨dropG i j S.F, (S.M.set i (gridI tyo ty T (L.set p l))).set j .gone⟩ = some S1) (h : WL c ops rest S1 N) : WL c ops (o :: rest) S N :=
 WL.putG0 ht hn hw ho h1 h2 hx hv hm hj (by rw [List.length_set, List.length_map]; exact hp) hkM (by rw [List.set_set, gridI_set]; exact e) h
theorem Ok'.takeG {i p tyo ty s m : Nat} {rows : List (Option (Rl (List Value) × Nat))} {link : Option (Nat × Nat)} {r : Rl (List Value)} (h : Ok' c S a w g hs) (hm : S.M[i]? = some (.grid tyo ty s rows link)) (hp : rows[p]? = some (some (r, m))) (hkM : S.M.all (·.keepG i S.M.length) = true) :
  ∃ hs', hs' S.M.length = gpart (hs i) (p + 1) ∧ Ok' c ⟨dropG i S.M.length S.F, S.M.set i (.grid tyo ty s (rows.set p none) (some (p, S.M.length))) ++ [.row ty s r m]⟩ a w g hs' := by
 have hil : i < S.M.length := (List.getElem?_eq_some_iff.1 hm).1
 have hpl : p < rows.length := (List.getElem?_eq_some_iff.1 hp).1
 have hit := h.items i _ hm
 obtain ⟨us, ocs, u1, u2, u3, u3', u4, u4', uk, u5⟩ := hit
 obtain ⟨q1, csj, q2, q3⟩ := u4 p r m hp
 have hslj := own_slice q2
 have hl0 : p + 1 < us.length := by omega
 let hs' : Nat → Value := fun k => if k = i then .tuple (us.set (p + 1) (.slice none 0 0)).toArray else if k = S.M.length then gpart (hs i) (p + 1) else hs k
 have hsi : hs' i = .tuple (us.set (p + 1) (.slice none 0 0)).toArray := if_pos rfl
 have hsj : hs' S.M.length = gpart (hs i) (p + 1) := by
  show (if S.M.length = i then _ else if S.M.length = S.M.length then _ else _) = _
  rw [if_neg (by omega), if_pos rfl]
 have hsk : ∀ k, k ≠ i → k ≠ S.M.length → hs' k = hs k := fun k h1 h2 => by
  show (if k = i then _ else if k = S.M.length then _ else hs k) = _
  rw [if_neg h1, if_neg h2]
 have hg0 : gpart (hs' i) 0 = gpart (hs i) 0 := by rw [hsi, gpart_set_ne (by omega), u1]
 have hgp : gpart (hs' i) (p + 1) = .slice none 0 0 := by rw [hsi, gpart_set_same hl0]
 have hgq : ∀ q, q ≠ p + 1 → gpart (hs' i) q = gpart (hs i) q := fun q hq => by rw [hsi, gpart_set_ne hq, u1]
 have hbs : ∀ b', Blk (hs' i) b' → Blk (hs i) b' ∧ blk (gpart (hs i) (p + 1)) ≠ some b' := fun b' hb => by
  rw [hsi] at hb
  obtain ⟨u, hu, e⟩ := hb
  obtain ⟨q, hq⟩ := List.mem_iff_getElem?.1 hu
  have hql := (List.getElem?_eq_some_iff.1 hq).1
  rw [List.length_set] at hql
  by_cases eq : q = p + 1
  ·subst eq
   rw [List.getElem?_set_self hl0] at hq
   simp at hq
   rw [← hq] at e
   cases e
  ·rw [List.getElem?_set_ne (Ne.symm eq)] at hq
   have hgu : gpart (hs i) q = u := by
    rw [u1]
    show us.getD q undef = u
    rw [List.getD_eq_getElem?_getD, hq]
    rfl
   exact ⟨Blk.part u1 hql (by rw [hgu]; exact e), fun e2 => u5 q (p + 1) b' hql hl0 eq (by rw [hgu]; exact e) e2⟩
 have hbj : ∀ b', Blk (hs' S.M.length) b' → blk (gpart (hs i) (p + 1)) = some b' := fun b' hb => by
  rw [hsj] at hb
  obtain ⟨ao, cp, e⟩ := hslj
  rw [e] at hb ⊢
  exact hb
 have hbj2 : ∀ b', blk (gpart (hs i) (p + 1)) = some b' → Blk (hs i) b' := fun b' e => Blk.part u1 hl0 e
 have hset : ∀ (k : Nat) (kt : Item), (S.M.set i (.grid tyo ty s (rows.set p none) (some (p, S.M.length))) ++ [.row ty s r m])[k]? = some kt → (k = i ∧ kt = .grid tyo ty s (rows.set p none) (some (p, S.M.length))) ∨ (k = S.M.length ∧ kt = .row ty s r m) ∨ (k ≠ i ∧ k ≠ S.M.length ∧ S.M[k]? = some kt) := fun k kt hk => by
  rw [List.getElem?_append, List.length_set] at hk
  split at hk
  ·rename_i hlt
   rw [List.getElem?_set] at hk
   by_cases ei : i = k
   ·rw [if_pos ei, if_pos hil] at hk
    simp at hk
    exact .inl ⟨ei.symm, hk.symm⟩
   ·rw [if_neg ei] at hk
    exact .inr (.inr ⟨Ne.symm ei, by omega, hk⟩)
  ·by_cases e2 : k = S.M.length
   ·subst e2
    simp at hk
    exact .inr (.inl ⟨rfl, hk.symm⟩)
   ·rw [List.getElem?_eq_none (by simp; omega)] at hk
    cases hk
 refine ⟨hs', hsj, h.size, h.defers, h.base, fun t x hx => ?_, fun k kt hk => ?_, fun k l kt lt hkl hk hl hf hn b' hb => ?_, fun k kt hk hn b' hb => ?_⟩
 ·obtain ⟨hx1, hx2⟩ := List.mem_filter.1 hx
  exact SC.keepG_ok hg0 hsk hx2 (h.slots t x hx1)
 ·rcases hset k kt hk with ⟨rfl, rfl⟩ | ⟨rfl, rfl⟩ | ⟨h1, h2, h3⟩
  ·refine ⟨us.set (p + 1) (.slice none 0 0), ocs, hsi, by simp [u2], by rw [hg0, List.length_set]; exact u3, u3', fun q r' n' hq => ?_, fun q hq => ?_, (fun p' k e => by cases e; rw [hsj]; exact q1), fun q q' b' hq hq' hqq hb1 hb2 => ?_⟩
   ·rw [List.getElem?_set] at hq
    by_cases e : p = q
    ·rw [if_pos e] at hq
     split at hq <;> simp at hq
    ·rw [if_neg e] at hq
     rw [hgq (q + 1) (by omega)]
     exact u4 q r' n' hq
   ·rw [List.getElem?_set] at hq
    by_cases e : p = q
    ·subst e
     exact hgp
    ·rw [if_neg e] at hq
     rw [hgq (q + 1) (by omega)]
     exact u4' q hq
   ·rw [List.length_set] at hq hq'
    by_cases e : q = p + 1
    ·subst e
     rw [hgp] at hb1
     cases hb1
    ·rw [hgq q e] at hb1
     by_cases e' : q' = p + 1
     ·subst e'
      rw [hgp] at hb2
      cases hb2
     ·rw [hgq q' e'] at hb2
      exact u5 q q' b' hq hq' hqq hb1 hb2
  ·rw [hsj]
   exact ⟨csj, q2, q3⟩
  ·by_cases hn : kt = .gone
   ·subst hn; trivial
   ·rw [hsk k h1 h2]
    exact Item.keepG_ok hg0 hsk (List.all_eq_true.1 hkM kt (List.mem_of_getElem? h3)) (h.items k kt h3)
 ·rcases hset k kt hk with ⟨rfl, rfl⟩ | ⟨rfl, rfl⟩ | ⟨h1, h2, h3⟩
  ·obtain ⟨hb1, hb2⟩ := hbs b' hb
   rcases hset l lt hl with ⟨rfl, rfl⟩ | ⟨rfl, rfl⟩ | ⟨l1, l2, l3⟩
   ·exact absurd rfl hkl
   ·exact fun e => hb2 (hbj b' e)
   ·rw [hsk l l1 l2]
    exact h.sep k l _ lt hkl hm l3 rfl hn b' hb1
  ·have hb1 := hbj b' hb
   rcases hset l lt hl with ⟨rfl, rfl⟩ | ⟨rfl, rfl⟩ | ⟨l1, l2, l3⟩
   ·exact fun e => (hbs b' e).2 hb1
   ·exact absurd rfl hkl
   ·rw [hsk l l1 l2]
    exact h.sep i l _ lt (Ne.symm l1) hm l3 rfl hn b' (hbj2 b' hb1)
  ·rw [hsk k h1 h2] at hb
   rcases hset l lt hl with ⟨rfl, rfl⟩ | ⟨rfl, rfl⟩ | ⟨l1, l2, l3⟩
   ·exact fun e => h.sep k l kt _ hkl h3 hm hf (by simp) b' hb (hbs b' e).1
   ·exact fun e => h.sep k i kt _ h1 h3 hm hf (by simp) b' hb (hbj2 b' (hbj b' e))
   ·rw [hsk l l1 l2]
    exact h.sep k l kt lt hkl h3 l3 hf hn b' hb
 ·rcases hset k kt hk with ⟨rfl, rfl⟩ | ⟨rfl, rfl⟩ | ⟨h1, h2, h3⟩
  ·exact h.mine k _ hm (by simp) b' (hbs b' hb).1
  ·exact h.mine i _ hm (by simp) b' (hbj2 b' (hbj b' hb))
  ·rw [hsk k h1 h2] at hb
   exact h.mine k kt h3 hn b' hb
theorem WL.takeG {α : Type} {T : Ty α} {L : List (List α)} {l : List α} {L0 : List Oper} {i p tyo ty j : Nat} (t0 : Nat) (hm : S.M[i]? = some (gridI tyo ty T L)) (hp : L[p]? = some l) (hl : look t0 S.F = some (.sv (.one (.gs i (p + 1))))) (hj : S.M.length = j) (hkM : S.M.all (·.keepG i j) = true)
  (h : WL c ops L0 ⟨(t0, .sv (.one (.own j))) :: dropG i j S.F, (S.M.set i (gridH tyo ty T L p (some (p, j))) ++ [rowI ty T l]).set i (gridH tyo ty T L p none)⟩ N) : WL c ops L0 S N := fun a w ⟨g, hs, hk⟩ => by
 subst hj
 obtain ⟨hs', hsj, hk'⟩ := hk.takeG (p := p) (r := rowR T l) (m := l.length) hm (by rw [List.getElem?_map, hp]; rfl) hkM
 have hil := (List.getElem?_eq_some_iff.1 hm).1
 have hi' : (S.M.set i (gridH tyo ty T L p (some (p, S.M.length))) ++ [rowI ty T l])[i]? = some (gridH tyo ty T L p (some (p, S.M.length))) := by
  rw [List.getElem?_append_left (by rw [List.length_set]; exact hil), List.getElem?_set_self hil]
 have h1 := hk'.items i _ hi'
 have h2 := hk'.retell (it' := gridH tyo ty T L p none) hi' rfl rfl (by
  obtain ⟨us, ocs, u1, u2, u3, u4, u5, u6, u7, u8⟩ := h1
  exact ⟨us, ocs, u1, u2, u3, u4, u5, u6, (fun p k e => by cases e), u8⟩)
 refine h a w ⟨g, hs', h2.size, h2.defers, h2.base, fun t x hx => ?_, h2.items, h2.sep, h2.mine⟩
 rcases List.mem_cons.1 hx with hx | hx
 ·cases hx
  have h5 := hk.slots t0 _ (look_mem hl)
  refine ⟨?_, h5.2⟩
  show _ = hs' S.M.length
  rw [hsj]
  exact h5.1
 ·exact h2.slots t x hx
theorem En.takeGL {α : Type} {T : Ty α} {L : List (List α)} {l : List α} {i p tyo ty j : Nat} (hm : S.M[i]? = some (gridI tyo ty T L)) (hp : L[p]? = some l) (hj : S.M.length = j) (hkM : S.M.all (·.keepG i j) = true)
  (h : En c ⟨dropG i j S.F, S.M.set i (gridH tyo ty T L p (some (p, j))) ++ [rowI ty T l]⟩ N) : En c S N := fun a w ⟨g, hs, hk⟩ => by
 subst hj
 obtain ⟨hs', _, hk'⟩ := hk.takeG (p := p) (r := rowR T l) (m := l.length) hm (by rw [List.getElem?_map, hp]; rfl) hkM
 exact h a w ⟨g, hs', hk'⟩
theorem val_indexGH {α : Type} {T : Ty α} {L : List (List α)} {i tyo ty q : Nat} {link : Option (Nat × Nat)} {k : Int} {t el : Nat} {ti te : TI} {x ix : Operand} {ik : IntKind} (ht : tab.ok) (ho : o.op = .indexAddr t x ix) (h1 : tab t = some ti) (h2 : ti.sl = some el) (h3 : tab el = some te) (h4 : te.size = 1)
  (hx : evX S.F x = some (.sv (.one (.gs i 0)))) (hm : S.M[i]? = some (gridH tyo ty T L q link)) (hi : evK S.F ix = some (.int ik k)) (hk : 0 ≤ k ∧ k < (L.length : Int)) : Val c S o (.sv (.one (.ge i 0 k.toNat 1))) := fun a w g hs h => by
 have hv : a.eval x = gpart (hs i) 0 := (evX_ok h hx).1
 obtain ⟨us, ocs, _, _, r1, _⟩ := h.items i _ hm
 rw [List.length_set, List.length_map] at r1
 rw [← hv] at r1
 obtain ⟨b, of, cap, e1, e2⟩ := run_indexOwn (iv := a.eval ix) ht h1 h2 h3 h4 (by decide) r1 (evK_ok h hi) hk
 refine ⟨.pointer (some ⟨b, of + k.toNat * 1, none⟩), ?_, ⟨b, of, L.length, cap, by rw [← hv]; exact e1, rfl⟩, trivial⟩
 have : (execOp a.eval o) = (do pure (.value (← Instr.indexAt t (a.eval x) (a.eval ix))) : Sem Next) := by unfold execOp; rw [ho]
 rw [this]
 exact run_val e2
theorem val_loadGH {α : Type} {T : Ty α} {L : List (List α)} {i p j tyo ty t : Nat} {ti : TI} {x : Operand} (ht : tab.ok) (ho : o.op = .load t x) (h1 : tab t = some ti) (h3 : ti.agg = false)
  (hx : evX S.F x = some (.sv (.one (.ge i 0 p 1)))) (hm : S.M[i]? = some (gridH tyo ty T L p (some (p, j)))) : Val c S o (.sv (.one (.own j))) := fun a w g hs h => by
 obtain ⟨⟨b, of, nn, cap, e1, e2⟩, _⟩ := evX_ok h hx
 obtain ⟨us, ocs, _, _, r1, r2, _, _, r3, _⟩ := h.items i _ hm
 have hc0 := r3 p j rfl
 have htk := ht t ti h1
 obtain ⟨ao, m, cp, hsl⟩ := r2 _ (List.mem_of_getElem? hc0)
 have hcv : cellV (hs j) := by rw [hsl]; trivial
 have hlo : ocs.length = ((L.map fun l => some (rowR T l, l.length)).set p none).length := by have := r1.1; omega
 have hnn : nn = ((L.map fun l => some (rowR T l, l.length)).set p none).length := by
  obtain ⟨_, r⟩ := r1
  rcases r with ⟨e3, _⟩ | ⟨gb, of', cap', cur, e3, _⟩
  ·rw [e1] at e3; cases e3
  ·rw [e1] at e3; simp only [Value.slice.injEq] at e3; exact e3.2.1
 subst hnn
 have hc := own_cell (q := 0) r1 e1 (k := p) (j := 0) (u := hs j) (by rw [Nat.mul_one, Nat.add_zero]; exact hc0)
 rw [svs_add, Nat.add_zero, Nat.mul_one] at hc
 have : (execOp a.eval o) = (do pure (.value (← Instr.loadAt t (a.eval x))) : Sem Next) := by unfold execOp; rw [ho]
 rw [this]
 refine ⟨hs j, run_val ?_, rfl, hcv⟩
 simp only [Instr.loadAt, e2, Instr.sureAddr, loadVar, Sem.run_bind, Sem.run_pure, Result.andThen_ok, htk.run_isAgg]
 rw [h3]
 simp [load, Sem.run, hc]
theorem Ok'.lendR {α : Type} {T : Ty α} {L : List (List α)} {l : List α} {tyo ty i p t : Nat} (h : Ok' c S a w g hs) (hm : S.M[i]? = some (gridI tyo ty T L)) (hq : L[p]? = some l) (hl : look t S.F = some (.sv (.one (.gs i (p + 1))))) : ∃ g', Ok' c ⟨(t, .sv (.one (LS T l))) :: (Proofs.Ytiejmeedkhkfgaa.sealG S i (LS (lsT T) L)).F, (Proofs.Ytiejmeedkhkfgaa.sealG S i (LS (lsT T) L)).M⟩ a w g' hs := by
 classical
 have hit := h.items i _ hm
 obtain ⟨cs, r1, r2⟩ := grid_row hit hq
 have hsl := h.slots t _ (look_mem hl)
 have hpl := (List.getElem?_eq_some_iff.1 hq).1
 obtain ⟨g', hle, hb, h2⟩ := h.sealG' hm
 refine ⟨g', h2.size, h2.defers, h2.base, fun t' x hx => ?_, h2.items, h2.sep, h2.mine⟩
 rcases List.mem_cons.1 hx with hx | hx
 ·cases hx
  have h5 : a.tmps.getD t undef = gpart (hs i) (p + 1) := hsl.1
  show (LS T l).ok g' hs _
  rw [h5]
  obtain ⟨us, ocs, hv, hul, _⟩ := hit
  rw [List.length_map] at hul
  exact row_LS r1 r2 hle (fun b e => hb b (Blk.part hv (by omega) (ownBlock_blk' e)))
 ·exact h2.slots t' x hx
theorem mt_lendR {α : Type} {T : Ty α} {L : List (List α)} {l : List α} {tyo ty p : Nat} {x : SC} (i t : Nat) (hm : S.M[i]? = some (gridI tyo ty T L)) (hq : L[p]? = some l) (hl : look t S.F = some (.sv (.one (.gs i (p + 1))))) (hp : plainB x = true) (h : MT c ⟨(t, .sv (.one (LS T l))) :: (sealG S i (LS (lsT T) L)).F, (sealG S i (LS (lsT T) L)).M⟩ o x [] none) : MT c S o x [] none := fun a w g hs hk N Z hN => by
 obtain ⟨g2, hk2⟩ := hk.lendR hm hq hl
 exact h a w g2 hs hk2 N Z fun v w' g' h' h1 h2 _ => hN v w' g h' (h1.back hk.base.pers) (plainB_ok hp h2) trivial
end
end Go.Proofs.Ytiejmeedkhkfgaa


namespace Go.Proofs.Ytiejmeedkhkfgaa
open Go.RowKit Go.MapKept
set_option linter.unusedSimpArgs false
set_option linter.unusedVariables false
set_option maxRecDepth 100000
section
variable {c : Cfg} {S S1 : St} {a : Act} {w : World} {g : Gh} {hs : Nat → Value} {tab : Tab} {n : Nat} {o : Oper} {ops : Array Oper} {rest : List Oper} {N : Po}
theorem WL.me {x : SC} {i : Nat} {it it' : Item} (hn : c.n = n) (hw : wantE ops S.F o = some true) (hm : ME c S o x [(i, it')]) (hi : S.M[i]? = some it) (hf : it.fz = false) (hf' : it'.fz = false) (e : putE n o.dst x ⟨S.F, S.M.set i it'⟩ = some S1) (h : WL c ops rest S1 N) : WL c ops (o :: rest) S N := fun a w ⟨g, hs, hk⟩ => by
 unfold wpList
 rw [if_pos (wantE_ok hk hw)]
 refine .inl (hm a w g hs hk _ N fun v w' g' h1 h2 h3 h4 => ?_)
 have := hk.updS (us := [(i, it')]) (fun p hp => by simp at hp; subst hp; exact ⟨it, hi, hf⟩) (fun p hp => by simp at hp; subst hp; exact hf') h1 h2 h4
 exact h _ _ ⟨g', hs, putE_ok this hn h3 e⟩
end
end Go.Proofs.Ytiejmeedkhkfgaa


namespace Go.Proofs.Ytiejmeedkhkfgaa
open Go.RowKit Go.MapKept
set_option linter.unusedSimpArgs false
set_option linter.unusedVariables false
set_option maxRecDepth 100000
def PanC (c : Cfg) (ps : List PanicEntry → Prop) (bad : Prop) : Prop := ∀ ch a w' g', a.defers = c.dfr → ps ch → bad → Base c w' g' → c.pan ch a w'
def CtP {β : Type} (f : Nat) (ins : List SC) (M : List Item) (pin : List Nat) (post : β → Prop) (out : β → SC) (M' : β → List Item) (ps : List PanicEntry → Prop) (bad : Prop) : Prop := ∀ (w : World) (g : Gh) (hs : Nat → Value) (args : List Value), Pers g w → okArgs g hs ins args → ItemsOk (fun _ => True) 0 M g hs w →
 Calls Try.prog f args.toArray w (fun en w' => (∃ v g' hs' r, en = .returned v ∧ post r ∧ (out r).ok g' hs' v ∧ (∀ i ∈ pin, hs' i = hs i) ∧ Base (cfgM 0 w g (mayM M hs)) w' g' ∧ ItemsOk (mayM M hs) w.heap.size (M' r) g' hs' w') ∨
  ∃ ch g', en = .panicked ch ∧ ps ch ∧ bad ∧ Base (cfgM 0 w g (mayM M hs)) w' g')
def CtX (f : Nat) (ins : List SC) (M : List Item) (ps : List PanicEntry → Prop) : Prop := ∀ (w : World) (g : Gh) (hs : Nat → Value) (args : List Value), Pers g w → okArgs g hs ins args → ItemsOk (fun _ => True) 0 M g hs w →
 Calls Try.prog f args.toArray w (fun en w' => ∃ ch g', en = .panicked ch ∧ ps ch ∧ Base (cfgM 0 w g (mayM M hs)) w' g')
theorem CtP.toE {β γ : Type} {f : Nat} {ins : List SC} {M : List Item} {pin : List Nat} {post : β → Prop} {out : β → SC} {M1 : β → List Item} {ps : List PanicEntry → Prop} {post' : γ → Prop} {out' : γ → SC} {M2 : γ → List Item} (h : CtP f ins M pin post out M1 ps False) (hp : ∀ r, post r → ∃ s, post' s ∧ out' s = out r ∧ M2 s = M1 r) : CtE f ins M pin post' out' M2 := fun w g hs args h1 h2 h3 =>
 (h w g hs args h1 h2 h3).mono fun e w' k => by
  rcases k with ⟨v, g', hs', r, e1, e2, e3, e4⟩ | ⟨_, _, _, _, k, _⟩
  ·obtain ⟨s, s1, s2, s3⟩ := hp r e2
   exact ⟨v, g', hs', s, e1, s1, by rw [s2]; exact e3, by rw [s3]; exact e4⟩
  ·exact k.elim
theorem CtP.toX {β : Type} {f : Nat} {ins : List SC} {M : List Item} {pin : List Nat} {out : β → SC} {M1 : β → List Item} {ps : List PanicEntry → Prop} {P : Prop} (h : CtP f ins M pin (fun _ => False) out M1 ps P) : CtX f ins M ps := fun w g hs args h1 h2 h3 =>
 (h w g hs args h1 h2 h3).mono fun e w' k => by
  rcases k with ⟨_, _, _, _, _, k, _⟩ | ⟨ch, g', e1, e2, _, e4⟩
  ·exact k.elim
  ·exact ⟨ch, g', e1, e2, e4⟩
theorem Base.cast {c c' : Cfg} {w : World} {g : Gh} (h : Base c w g) (h1 : c'.w0 = c.w0) (h2 : c'.g0 = c.g0) (h3 : c'.may = c.may) : Base c' w g := by
 refine ⟨h1 ▸ h.os, h1 ▸ h.tape, h1 ▸ h.output, h1 ▸ h.grows, fun b hb hm => ?_, h2 ▸ h.ghle, fun b o e => ?_, h.pers⟩
 ·rw [h1] at hb ⊢
  rw [h3] at hm
  exact h.frame b hb hm
 ·rw [h1, h2, h3]
  exact h.ghnew b o e
theorem CtP.body {β : Type} {f : Nat} {fn : Func} {code : Code} {n : Nat} {rs : Array ResultVar} {ins : List SC} {M : List Item} {pin : List Nat} {post : β → Prop} {out : β → SC} {M' : β → List Item} {ps : List PanicEntry → Prop} {bad : Prop} (hf : Try.prog.funcs[f]? = some fn) (hb : fn.body = some code) (hn : fn.ntmps = n) (hr : fn.results = rs)
  (hl : Nat.ble ins.length n = true) (hpin : pinned pin ins = true) (h : ∀ (c : Cfg) (B : Nat → Nat), c.n = n → PanC c ps bad → En c ⟨enumF 0 (ins.map (pinS pin B)), M⟩ (cwp code (PQ c (RetE c rs pin B post out M') [] (RetE c rs pin B post out M')))) : CtP f ins M pin post out M' ps bad := fun w g hs args hp ha hm => by
 have hl := Nat.le_of_ble_eq_true hl
 have hla := okArgs_length ha
 have hB : ∀ i ∈ pin, hs i = .pointer (some ⟨(blk (hs i)).getD 0, 0, none⟩) := fun i hi => by
  obtain ⟨x, hx, e⟩ := List.any_eq_true.1 (List.all_eq_true.1 hpin i hi)
  split at e
  ·rename_i j
   have e := Nat.eq_of_beq_eq_true e
   subst e
   obtain ⟨u, ⟨b, h1, _⟩, _⟩ := okArgs_get ha hx
   rw [h1]
   rfl
  ·cases e
 let c : Cfg := ⟨n, w, g, mayM M hs, [], fun ch a w' => a.defers = [] ∧ ps ch ∧ bad ∧ ∃ g', Base (cfgM 0 w g (mayM M hs)) w' g'⟩
 have hpc : PanC c ps bad := fun ch a w' g' h1 h2 h3 h4 => ⟨h1, h2, h3, g', h4.cast rfl rfl rfl⟩
 refine calls_of_wp hf hb (Code.wp_mono (fun e a w' q => ?_) (h c (fun i => (blk (hs i)).getD 0) rfl hpc { tmps := args.toArray ++ Array.replicate (fn.ntmps - args.toArray.size) undef, defers := [] } w ⟨g, hs, ?_⟩))
 ·have key : RetE c rs pin (fun i => (blk (hs i)).getD 0) post out M' a w' → a.defers = [] ∧ ∃ v, (results fn a.tmps).run Try.prog w' = .ok v w' ∧ ((∃ v' g' hs' r, Ending.returned v = .returned v' ∧ post r ∧ (out r).ok g' hs' v' ∧ (∀ i ∈ pin, hs' i = hs i) ∧ Base (cfgM 0 w g (mayM M hs)) w' g' ∧ ItemsOk (mayM M hs) w.heap.size (M' r) g' hs' w') ∨ ∃ ch g', Ending.returned v = .panicked ch ∧ ps ch ∧ bad ∧ Base (cfgM 0 w g (mayM M hs)) w' g') := fun ⟨h1, v, g', hs', r, h2, h3, h4, h5, h6, h7⟩ => by
   refine ⟨h1, v, ?_, .inl ⟨v, g', hs', r, rfl, h3, h4, fun i hi => (h5 i hi).trans (hB i hi).symm, h6.cast rfl rfl rfl, h7⟩⟩
   subst hr
   exact h2
  cases e with
  | panic ch =>
   obtain ⟨q1, q2, q3, g', q4⟩ := (q : a.defers = [] ∧ ps ch ∧ bad ∧ ∃ g', Base (cfgM 0 w g (mayM M hs)) w' g')
   exact ⟨q1, .inr ⟨ch, g', rfl, q2, q3, q4⟩⟩
  | normal => exact key q
  | ret => exact key q
  | exit _ => exact (q : False).elim
  | goto _ => exact (q : False).elim
  | outgrown => exact (q : False).elim
 ·refine ⟨?_, rfl, ⟨rfl, rfl, rfl, Nat.le_refl _, fun _ _ _ => rfl, Gh.le.refl g, fun b o e => .inl e, hp⟩, fun t x hx => ?_, hm.items, hm.sep, fun i it hi hn b hb => ?_⟩
  ·simp [c, hn]
   omega
  ·obtain ⟨u, h1, _, h3⟩ := enumF_ok (okArgs_pin hB ha) hx
   simp only [Nat.sub_zero] at h1
   have hlt := (List.getElem?_eq_some_iff.1 h1).1
   have : (args.toArray ++ Array.replicate (fn.ntmps - args.toArray.size) undef).getD t undef = u := by
    rw [Array.getD_eq_getD_getElem?, Array.getElem?_append_left (by simpa using hlt)]
    simp [h1]
   rw [this]
   exact h3
  ·obtain ⟨h1, h2⟩ := hm.mine i it hi hn b hb
   exact ⟨h1, fun hf => ⟨.inl ⟨i, it, hi, hf, hb⟩, (h2 hf).2⟩⟩
theorem splitO {α : Type} {p : Prop} (o : Option α) (h1 : o = none → p) (h2 : ∀ r, o = some r → p) : p := by
 cases h : o with
 | none => exact h1 h
 | some r => exact h2 r h
def deadR : Rd := ⟨fun _ _ => False, fun _ _ _ _ h => h⟩
section
variable {c : Cfg} {S S1 : St} {a : Act} {w : World} {g : Gh} {hs : Nat → Value} {tab : Tab} {n : Nat} {o : Oper} {ops : Array Oper} {rest : List Oper} {N : Po}
theorem Base.callM (h : Ok' c S a w g hs) {M : List Item} {rn : List Nat} (hM : M.map (fun it => some (it.mv (rnF rn S.M.length))) = rn.map (fun j => S.M[j]?)) {w' : World} {g' : Gh} (hb : Base (cfgM 0 w g (mayM M (fun i => hs (rnF rn S.M.length i)))) w' g') : Base c w' g' := by
 have hat : ∀ (i : Nat) (it : Item), M[i]? = some it → ∃ j, rn[i]? = some j ∧ rnF rn S.M.length i = j ∧ S.M[j]? = some (it.mv (rnF rn S.M.length)) := fun i it hi => by
  have := congrArg (·[i]?) hM
  simp only [List.getElem?_map, hi, Option.map_some] at this
  cases hr : rn[i]? with
  | none => rw [hr] at this; simp at this
  | some j =>
   rw [hr] at this
   simp at this
   have hlt := (List.getElem?_eq_some_iff.1 hr).1
   refine ⟨j, rfl, ?_, this.symm⟩
   unfold rnF
   rw [show Nat.blt i rn.length = true from by simpa [Nat.blt_eq] using hlt]
   simp [hr]
 have hmay : ∀ b, mayM M (fun i => hs (rnF rn S.M.length i)) b → ∃ j it, S.M[j]? = some it ∧ it.fz = false ∧ Blk (hs j) b := fun b ⟨i, it, h1, h2, h3⟩ => by
  obtain ⟨j, _, h4, h5⟩ := hat i it h1
  simp only [h4] at h3
  exact ⟨j, _, h5, by rw [Item.mv_fz]; exact h2, h3⟩
 refine ⟨hb.os.trans h.base.os, hb.tape.trans h.base.tape, hb.output.trans h.base.output, Nat.le_trans h.base.grows hb.grows, fun b hb1 hm => ?_, h.base.ghle.trans hb.ghle, fun b o e => ?_, hb.pers⟩
 ·refine (hb.frame b (Nat.lt_of_lt_of_le hb1 h.base.grows) fun hm2 => ?_).trans (h.base.frame b hb1 hm)
  obtain ⟨j, jt, h8, h9, h10⟩ := hmay b hm2
  rcases ((h.mine j jt h8 (fz_gone h9) b h10).2 h9).1 with h11 | h11
  ·exact hm h11
  ·omega
 ·rcases hb.ghnew b o e with h1 | h1 | h1
  ·exact h.base.ghnew b o h1
  ·obtain ⟨j, jt, h8, h9, h10⟩ := hmay b h1
   exact .inr ((h.mine j jt h8 (fz_gone h9) b h10).2 h9).1
  ·exact .inr (.inr (Nat.le_trans h.base.grows h1))
def LeftX (c : Cfg) (S : St) (M : List Item) (rn : List Nat) (ps : List PanicEntry → Prop) : Prop := ∀ a w g hs, Ok' c S a w g hs → ∀ ch w' g', ps ch → Base (cfgM 0 w g (mayM M (fun i => hs (rnF rn S.M.length i)))) w' g' → Base c w' g' → c.pan ch a w'
theorem leftX {M : List Item} {rn : List Nat} {ps : List PanicEntry → Prop} {P : Prop} (hpan : PanC c ps P) (hP : P) : LeftX c S M rn ps := fun a w g hs hk ch w' g' h1 _ h2 => hpan ch a w' g' hk.defers h1 hP h2
theorem mt_callX {f : Nat} {ins : List SC} {M : List Item} {ps : List PanicEntry → Prop} {x : SC} {K : List Nat} {p : Option (Nat × Item)} (ct : CtX f ins M ps) (en : ∀ args w, (callFunc f args).run Try.prog w = .ok (.enter f args) w) {caps : List Nat} (rn : List Nat) {fo : Operand} {args : Array Operand} {ats : Array TypeId}
  (ho : o.op = .call ⟨.value fo, args, ats⟩) (hf : evX S.F fo = some (.sv (.one (.fn f caps)))) (ha : ArgsAs c S args caps (ins.map (SC.ren (rnF rn S.M.length))))
  (hM : M.map (fun it => some (it.mv (rnF rn S.M.length))) = rn.map (fun j => S.M[j]?)) (hnd : rn.Nodup) (hpan : LeftX c S M rn ps) : MT c S o x K p := fun a w g hs hk N Z hN => by
 unfold Oper.wp
 have hfv : a.eval fo = .func (.func f) #[] (caps.map hs).toArray := (evX_ok hk hf).1
 have hrun : (execOp a.eval o).run Try.prog w = .ok (.enter f ((args.toList.map a.eval) ++ caps.map hs).toArray) w := by
  unfold execOp
  simp only [ho, resolve, hfv, Deferred.ofValue, Sem.run_bind, Sem.run_pure, Result.andThen_ok, invoke]
  rw [show (#[] ++ Array.map a.eval args ++ (List.map hs caps).toArray : Array Value) = (args.toList.map a.eval ++ caps.map hs).toArray by simp]
  exact en _ _
 rw [hrun]
 refine (ct w g (fun i => hs (rnF rn S.M.length i)) _ hk.base.pers (okArgs_ren (ha a w g hs hk)) (items_in hk hM hnd)).mono ?_
 rintro e' w' ⟨ch, g', rfl, h1, h2⟩
 exact hpan a w g hs hk ch w' g' h1 h2 (Base.callM hk hM h2)
theorem WL.callX {f : Nat} {ins : List SC} {M : List Item} {ps : List PanicEntry → Prop} (ct : CtX f ins M ps) (en : ∀ args w, (callFunc f args).run Try.prog w = .ok (.enter f args) w) {caps : List Nat} (rn : List Nat) {fo : Operand} {args : Array Operand} {ats : Array TypeId}
  (hw : wantE ops S.F o = some true) (ho : o.op = .call ⟨.value fo, args, ats⟩) (hf : evX S.F fo = some (.sv (.one (.fn f caps)))) (ha : ArgsAs c S args caps (ins.map (SC.ren (rnF rn S.M.length))))
  (hM : M.map (fun it => some (it.mv (rnF rn S.M.length))) = rn.map (fun j => S.M[j]?)) (hnd : rn.Nodup) (hpan : LeftX c S M rn ps) : WL c ops (o :: rest) S N := fun a w ⟨g, hs, hk⟩ => by
 unfold wpList
 rw [if_pos (wantE_ok hk hw)]
 exact .inl (mt_callX (x := .sv (.one (.rd deadR))) (K := []) (p := none) ct en rn ho hf ha hM hnd hpan a w g hs hk _ N fun v w' g' h' _ h2 _ => absurd h2.1 (fun h => h))
def psStop (ty : Nat) (ch : List PanicEntry) : Prop := ∃ code at_ : Int, code ≠ 0 ∧ ch = [{ v := .iface ty (.agg #[.int .i64 code, .int .i64 at_]), recovered := false }]
theorem WL.panicI {ty d : Nat} {fs : Array Field} {o1 o2 : Oper} {x : Operand} {code at_ : Int} {P : Prop} (hn : c.n = n) (hw1 : wantE ops S.F o1 = some true) (ho1 : o1.op = .makeInterface ty x) (hd : o1.dst = some d) (hdn : Nat.blt d n = true) (hu : Try.prog.underlying ty = some (.struct fs)) (hx : evX S.F x = some (.sv (.agg [I code, I at_])))
  (hw2 : wantE ops S.F o2 = some true) (hg2 : o2.guard = none) (ho2 : o2.op = .panic (.tmp d)) (hc : code ≠ 0) (hpan : PanC c (psStop ty) P) (hP : P) : WL c ops (o1 :: o2 :: rest) S N := fun a w ⟨g, hs, hk⟩ => by
 unfold wpList
 rw [if_pos (wantE_ok hk hw1)]
 refine .inl ?_
 unfold Oper.wp
 obtain ⟨cs, h1, h2⟩ := evX_ok hk hx
 have hcs : cs = [.int .i64 code, .int .i64 at_] := by
  match cs, h2 with
  | [c1, c2], h2 =>
   have e1 : c1 = .int .i64 code := h2.1.1
   have e2 : c2 = .int .i64 at_ := h2.2.2.1.1
   rw [e1, e2]
 subst hcs
 have hrun : (execOp a.eval o1).run Try.prog w = .ok (.value (.iface ty (.agg #[.int .i64 code, .int .i64 at_]))) w := by
  have : execOp a.eval o1 = (do pure (.value (← Instr.makeInterface ty (a.eval x))) : Sem Next) := by unfold execOp; rw [ho1]
  rw [this]
  refine run_val ?_
  simp only [Instr.makeInterface, Sem.run_bind, run_underlying hu, Result.andThen_ok, h1, Sem.run_pure]
 rw [hrun]
 show wpList Try.prog ops (OnlyP c N) (o2 :: rest) _ w
 unfold wpList
 have hwant : Region.wanted o2 (yielded ops (a.put o1.dst (.iface ty (.agg #[.int .i64 code, .int .i64 at_]))).tmps) = true := by unfold Region.wanted; rw [hg2]
 rw [if_pos hwant]
 refine .inl ?_
 unfold Oper.wp
 have hev : (a.put o1.dst (.iface ty (.agg #[.int .i64 code, .int .i64 at_]))).eval (.tmp d) = .iface ty (.agg #[.int .i64 code, .int .i64 at_]) := by
  rw [hd]
  have hsz : d < a.tmps.size := by rw [hk.size, hn]; exact Nat.le_of_ble_eq_true hdn
  simp [Act.put, Act.eval, hsz]
 have hrun2 : (execOp (a.put o1.dst (.iface ty (.agg #[.int .i64 code, .int .i64 at_]))).eval o2).run Try.prog w = .halt (.panic (.iface ty (.agg #[.int .i64 code, .int .i64 at_]))) w := by
  have : execOp (a.put o1.dst (.iface ty (.agg #[.int .i64 code, .int .i64 at_]))).eval o2 = (do pure (.value (← Instr.panic ((a.put o1.dst (.iface ty (.agg #[.int .i64 code, .int .i64 at_]))).eval (.tmp d)))) : Sem Next) := by unfold execOp; rw [ho2]
  rw [this, hev]
  rfl
 rw [hrun2]
 refine hpan _ _ w g ?_ ⟨code, at_, hc, rfl⟩ hP hk.base
 rw [hd]
 exact hk.defers
end
end Go.Proofs.Ytiejmeedkhkfgaa


namespace Go.Proofs.Ytiejmeedkhkfgaa
open Go.RowKit Go.MapKept
set_option linter.unusedSimpArgs false
set_option linter.unusedVariables false
set_option maxRecDepth 100000
def byteAt (s : ByteArray) (i : Int) : Option Int := if 0 ≤ i then (s[i.toNat]?).map (fun b => ((b.toNat : Nat) : Int)) else none
section
variable {c : Cfg} {S S1 : St} {a : Act} {w : World} {g : Gh} {hs : Nat → Value} {tab : Tab} {n : Nat} {o : Oper} {ops : Array Oper} {rest : List Oper} {N : Po}
theorem val_indexS {x ix : Operand} {t : Nat} {s : ByteArray} {k : IntKind} {i b : Int} (ho : o.op = .index t x ix) (hu : Try.prog.underlying t = some .string) (hx : evX S.F x = some (.sv (.one (.v (.string s))))) (hi : evK S.F ix = some (.int k i)) (hb : byteAt s i = some b) : Val c S o (.sv (.one (.v (.int .u8 b)))) := fun a w g hs h => by
 have h1 : a.eval x = .string s := (evX_ok h hx).1
 unfold byteAt at hb
 split at hb
 ·rename_i h0
  cases hs : s[i.toNat]? with
  | none => rw [hs] at hb; cases hb
  | some y =>
   rw [hs] at hb
   simp at hb
   subst hb
   refine ⟨.int .u8 (y.toNat : Int), ?_, rfl, trivial⟩
   have e : execOp a.eval o = (do pure (.value (← Instr.index t (a.eval x) (a.eval ix))) : Sem Next) := by unfold execOp; rw [ho]
   rw [e]
   refine run_val ?_
   simp only [Instr.index, evK_ok h hi, asIntOf, h1, Sem.run_bind, Sem.run_pure, Result.andThen_ok, run_underlying hu, if_pos h0, hs]
 ·cases hb
theorem val_lenS {x : Operand} {t : Nat} {s : ByteArray} (ho : o.op = .call ⟨.builtin .len, #[x], #[t]⟩) (hu : Try.prog.underlying t = some .string) (hx : evX S.F x = some (.sv (.one (.v (.string s))))) : Val c S o (.sv (.one (I (s.size : Int)))) := fun a w g hs h => by
 have h1 : a.eval x = .string s := (evX_ok h hx).1
 refine ⟨.int .i64 s.size, ?_, rfl, trivial⟩
 have e : execOp a.eval o = (do pure (.value (← Builtin.len_ #[t] o.type #[a.eval x])) : Sem Next) := by
  unfold execOp
  rw [ho]
  simp [resolve, invoke, builtin]
 rw [e, h1]
 refine run_val ?_
 simp [Builtin.len_, run_underlying hu, goInt]
theorem val_addS {x y : Operand} {t : Nat} {b : TypeId} {u v : ByteArray} (ho : o.op = .binOp .add t x y b) (hx : evX S.F x = some (.sv (.one (.v (.string u))))) (hy : evX S.F y = some (.sv (.one (.v (.string v))))) (hs : u.size + v.size ≤ 1048576) : Val c S o (.sv (.one (.v (.string (u ++ v))))) := fun a w g hs' h => by
 have h1 : a.eval x = .string u := (evX_ok h hx).1
 have h2 : a.eval y = .string v := (evX_ok h hy).1
 refine ⟨.string (u ++ v), ?_, rfl, trivial⟩
 have e : execOp a.eval o = (do pure (.value (← (do eqGuard .add t x y (a.eval x) (a.eval y); binOp .add t (a.eval x) (a.eval y) : Sem Value))) : Sem Next) := by unfold execOp; rw [ho]
 rw [e]
 refine run_val ?_
 rw [h1, h2]
 have hg : (eqGuard .add t x y (.string u) (.string v)).run Try.prog w = .ok () w := by simp [eqGuard]
 rw [Sem.run_bind, hg, Result.andThen_ok]
 have hm : ¬ (((u.size + v.size : Nat) : Int) > IntKind.i64.max) := by
  have : IntKind.i64.max = 9223372036854775807 := rfl
  omega
 simp only [binOp, Op.stringOp]
 rw [if_neg hm]
 rfl
end
inductive Tr (α : Type) where
 | node (a : α) (kids : List (Tr α))
def Tr.lab {α : Type} : Tr α → α
 | .node a _ => a
def Tr.kids {α : Type} : Tr α → List (Tr α)
 | .node _ l => l
inductive TrOk {α : Type} (lab : α → List Value) (g : Gh) : Tr α → Value → Prop
 | mk (a : α) (kids : List (Tr α)) (b off : Nat) (ao : Option Addr) (cap b' o' : Nat) (us : Nat → Value)
   (h1 : ∀ j c, (lab a)[j]? = some c → g.cell ⟨b, off + j, none⟩ = some c) (h2 : g.cell ⟨b, off + (lab a).length, none⟩ = some (.slice ao kids.length cap))
   (h3 : kids.length ≤ cap) (h4 : cap ≤ maxLen) (h5 : ao = none → cap = 0) (h6 : 0 < kids.length → ao = some ⟨b', o', none⟩)
   (h7 : ∀ q x, kids[q]? = some x → g.cell ⟨b', o' + q, none⟩ = some (us q)) (h8 : ∀ q x, kids[q]? = some x → TrOk lab g x (us q)) : TrOk lab g (.node a kids) (.pointer (some ⟨b, off, none⟩))
theorem TrOk.mono {α : Type} {lab : α → List Value} {g g' : Gh} (hg : Gh.le g g') {t : Tr α} {v : Value} (h : TrOk lab g t v) : TrOk lab g' t v := by
 induction h with
 | mk a kids b off ao cap b' o' us h1 h2 h3 h4 h5 h6 h7 h8 ih => exact .mk a kids b off ao cap b' o' us (fun j c hj => Gh.cell_up hg (h1 j c hj)) (Gh.cell_up hg h2) h3 h4 h5 h6 (fun q x hx => Gh.cell_up hg (h7 q x hx)) ih
theorem TrOk.ptr {α : Type} {lab : α → List Value} {g : Gh} {t : Tr α} {v : Value} (h : TrOk lab g t v) : ∃ b off, v = .pointer (some ⟨b, off, none⟩) := by
 cases h
 exact ⟨_, _, rfl⟩
def trR {α : Type} (lab : α → List Value) (t : Tr α) : Rd := ⟨fun g v => TrOk lab g t v, fun _ _ _ hg h => h.mono hg⟩
abbrev TT {α : Type} (lab : α → List Value) : Ty (Tr α) := ⟨1, fun t => .one (.rd (trR lab t))⟩
def nodeS {α : Type} (lab : α → List Value) (a : α) (kids : List (Tr α)) : List At := (lab a).map .v ++ [LS (TT lab) kids]
theorem oks_vals {g : Gh} {hs : Nat → Value} : ∀ {l : List Value}, (∀ c ∈ l, cellV c) → oks g hs (l.map .v) l
 | [], _ => trivial
 | c :: _, h => ⟨⟨rfl, h c List.mem_cons_self⟩, h c List.mem_cons_self, oks_vals fun x hx => h x (List.mem_cons_of_mem _ hx)⟩
theorem vals_oks {g : Gh} {hs : Nat → Value} : ∀ {l us : List Value}, oks g hs (l.map .v) us → us = l
 | [], [], _ => rfl
 | [], _ :: _, h => h.elim
 | _ :: _, [], h => h.elim
 | c :: l, u :: us, h => by
  have h1 : u = c := h.1.1
  rw [h1, vals_oks h.2.2]
theorem oks_split {g : Gh} {hs : Nat → Value} : ∀ {l l' : List At} {us : List Value}, oks g hs (l ++ l') us → ∃ u1 u2, us = u1 ++ u2 ∧ oks g hs l u1 ∧ oks g hs l' u2
 | [], l', us, h => ⟨[], us, rfl, trivial, h⟩
 | _ :: _, _, [], h => h.elim
 | _ :: _, _, u :: _, h => by
  obtain ⟨u1, u2, e, h1, h2⟩ := oks_split h.2.2
  exact ⟨u :: u1, u2, by rw [e]; rfl, ⟨h.1, h.2.1, h1⟩, h2⟩
theorem oks_join {g : Gh} {hs : Nat → Value} : ∀ {l l' : List At} {us us' : List Value}, oks g hs l us → oks g hs l' us' → oks g hs (l ++ l') (us ++ us')
 | [], _, [], _, _, h => h
 | [], _, _ :: _, _, h, _ => h.elim
 | _ :: _, _, [], _, h, _ => h.elim
 | _ :: _, _, _ :: _, _, h, h' => ⟨h.1, h.2.1, oks_join h.2.2 h'⟩
theorem tr_pe {α : Type} {lab : α → List Value} (hl : ∀ a, ∀ c ∈ lab a, cellV c) {g : Gh} {t : Tr α} {v : Value} (h : TrOk lab g t v) : ptrTo (svR (.agg (nodeS lab t.lab t.kids))) ((lab t.lab).length + 1) g v := by
 cases h with
 | mk a kids b off ao cap b' o' us h1 h2 h3 h4 h5 h6 h7 h8 =>
  have hLS : oks g hs0 [LS (TT lab) kids] [Value.slice ao kids.length cap] := by
   refine ⟨⟨⟨⟨ao, kids.length, cap, rfl, rfl, h3, h4, h5, fun q x hx => ?_⟩, ao, cap, rfl⟩, trivial⟩, trivial, trivial⟩
   have hq := (List.getElem?_eq_some_iff.1 hx).1
   obtain ⟨b2, o2, e⟩ := (h8 q x hx).ptr
   have hc : (us q).cells = #[us q] := by rw [e]; rfl
   refine ⟨b', o', us q, h6 (by omega), ⟨h8 q x hx, by rw [e]; trivial⟩, by rw [hc]; rfl, fun j c hj => ?_⟩
   rw [hc] at hj
   cases j with
   | zero =>
    simp at hj
    subst hj
    have := h7 q x hx
    simpa using this
   | succ j => simp at hj
  refine ⟨b, off, .agg (lab a ++ [Value.slice ao kids.length cap]).toArray, rfl, ⟨_, rfl, oks_join (oks_vals (hl a)) hLS⟩, by simp [Value.cells, Tr.lab], fun j c hj => ?_⟩
  have hj : (lab a ++ [Value.slice ao kids.length cap])[j]? = some c := by simpa [Value.cells] using hj
  rw [List.getElem?_append] at hj
  split at hj
  ·exact h1 j c hj
  ·rename_i hn
   have : j = (lab a).length := by
    have := (List.getElem?_eq_some_iff.1 hj).1
    simp at this
    omega
   subst this
   simp at hj
   subst hj
   exact h2
theorem pe_tr {α : Type} {lab : α → List Value} {g : Gh} {a : α} {kids : List (Tr α)} {v : Value} (h : ptrTo (svR (.agg (nodeS lab a kids))) ((lab a).length + 1) g v) : TrOk lab g (.node a kids) v := by
 obtain ⟨b, off, x, rfl, ⟨cs, rfl, h1⟩, _, h2⟩ := h
 obtain ⟨u1, u2, rfl, k1, k2⟩ := oks_split h1
 have := vals_oks k1
 subst this
 match u2, k2 with
 | [u], k2 =>
  obtain ⟨⟨⟨ao, n, cap, rfl, rfl, h3, h4, h5, h6⟩, _⟩, _⟩ := k2.1
  have hc : ∀ j c, (lab a ++ [Value.slice ao kids.length cap])[j]? = some c → g.cell ⟨b, off + j, none⟩ = some c := fun j c hj => h2 j c (by simpa [Value.cells] using hj)
  have key : ∀ q, ∃ u : Value, ∀ x, kids[q]? = some x → ∃ b o, ao = some ⟨b, o, none⟩ ∧ TrOk lab g x u ∧ g.cell ⟨b, o + q, none⟩ = some u := fun q => by
   cases hq : kids[q]? with
   | none => exact ⟨undef, fun x hx => by cases hx⟩
   | some x =>
    obtain ⟨b', o', u, e, k3, k4, k5⟩ := h6 q x hq
    refine ⟨u, fun y hy => ?_⟩
    cases hy
    have k3 : TrOk lab g x u := k3.1
    obtain ⟨b2, o2, e2⟩ := k3.ptr
    have := k5 0 u (by rw [e2]; rfl)
    refine ⟨b', o', e, k3, ?_⟩
    simpa using this
  have hao : 0 < kids.length → ∃ b o, ao = some ⟨b, o, none⟩ := fun hp => by
   obtain ⟨b', o', u, e, _⟩ := h6 0 kids[0] (by simp [hp])
   exact ⟨b', o', e⟩
  by_cases hp : 0 < kids.length
  ·obtain ⟨b', o', rfl⟩ := hao hp
   refine .mk a kids b off _ cap b' o' (fun q => (key q).choose) (fun j c hj => hc j c (by rw [List.getElem?_append_left (List.getElem?_eq_some_iff.1 hj).1]; exact hj)) (hc _ _ (by simp)) h3 h4 h5 (fun _ => rfl) (fun q x hx => ?_) (fun q x hx => ?_)
   ·obtain ⟨b2, o2, e, _, k⟩ := (key q).choose_spec x hx
    cases e
    exact k
   ·obtain ⟨b2, o2, e, k, _⟩ := (key q).choose_spec x hx
    exact k
  ·have hk : kids = [] := by
    cases kids with
    | nil => rfl
    | cons _ _ => simp at hp
   subst hk
   exact .mk a [] b off ao cap 0 0 (fun _ => undef) (fun j c hj => hc j c (by rw [List.getElem?_append_left (List.getElem?_eq_some_iff.1 hj).1]; exact hj)) (hc _ _ (by simp)) h3 h4 h5 (fun h => by simp at h) (fun q x hx => by simp at hx) (fun q x hx => by simp at hx)
section
variable {c : Cfg} {S S1 : St} {a : Act} {w : World} {g : Gh} {hs : Nat → Value} {tab : Tab} {n : Nat} {o : Oper} {ops : Array Oper} {rest : List Oper} {N : Po}
theorem tree_of {α : Type} {lab : α → List Value} {x : α} {kids : List (Tr α)} {i ty : Nat} {cells : List At} {k : Nat} (hm : S.M[i]? = some (.box cells ty true)) (hc : cells = nodeS lab x kids) (hk : (lab x).length + 1 = k) : ∀ a w g hs, Ok' c S a w g hs → ∀ u, SC.ok g hs (.sv (.one (.ptr i 0))) u → SC.ok g hs (.sv (.one (.rd (trR lab (.node x kids))))) u := fun a w g hs h u hu => by
 obtain ⟨⟨b, h1, rfl⟩, _⟩ := hu
 obtain ⟨b', cs, h2, h3, h4, h5⟩ := h.items i _ hm
 rw [h1] at h2
 simp at h2
 subst h2
 subst hc
 have hg := h5 rfl
 have hrefs : (nodeS lab x kids).flatMap At.refs = [] := by
  unfold nodeS
  rw [List.flatMap_append]
  have : ((lab x).map At.v).flatMap At.refs = [] := by
   induction lab x with
   | nil => rfl
   | cons y l ih => simp [At.refs, ih]
  rw [this]
  rfl
 refine ⟨pe_tr ⟨b, 0, .agg cs.toArray, rfl, ⟨cs, rfl, oks_hs (fun i hi => by rw [hrefs] at hi; cases hi) h3⟩, ?_, fun j c hj => ?_⟩, trivial⟩
 ·have := oks_length h3
  simp only [nodeS, List.length_append, List.length_map, List.length_cons, List.length_nil] at this
  simp [Value.cells, ← this]
 ·unfold Gh.cell
  rw [hg]
  simpa [Value.cells] using hj
theorem node_of {α : Type} {lab : α → List Value} (hl : ∀ a, ∀ c ∈ lab a, cellV c) {t : Tr α} {s : SV} {k : Nat} (hs : SV.agg (nodeS lab t.lab t.kids) = s) (hk : (lab t.lab).length + 1 = k) : ∀ a w g hs', Ok' c S a w g hs' → ∀ u, SC.ok g hs' (.sv (.one (.rd (trR lab t)))) u → SC.ok g hs' (.sv (.one (.pe (svR s) k))) u := fun a w g hs' _ u hu => by
 subst hs hk
 exact ⟨tr_pe hl hu.1, hu.2⟩
theorem val_node {α : Type} {lab : α → List Value} (hl : ∀ a, ∀ c ∈ lab a, cellV c) {t : Tr α} {s : SV} {k : Nat} {x : Operand} (ho : o.op = .nilCheck x) (hx : evX S.F x = some (.sv (.one (.rd (trR lab t))))) (hs : SV.agg (nodeS lab t.lab t.kids) = s) (hk : (lab t.lab).length + 1 = k) : Val c S o (.sv (.one (.pe (svR s) k))) := fun a w g hs' h => by
 have h1 := evX_ok h hx
 have h2 : TrOk lab g t (a.eval x) := h1.1
 obtain ⟨b, off, e⟩ := h2.ptr
 exact ⟨a.eval x, by simp [execOp, ho, e], node_of hl hs hk a w g hs' h _ h1⟩
def optR {α : Type} (lab : α → List Value) (o : Option (Tr α)) : Rd := ⟨fun g v => match o with
 | none => v = .pointer none
 | some t => TrOk lab g t v, fun g g' v hg h => by
  cases o with
  | none => exact h
  | some t => exact h.mono hg⟩
theorem some_of {α : Type} {lab : α → List Value} {o : Option (Tr α)} {t : Tr α} (h : o = some t) : ∀ a w g hs, Ok' c S a w g hs → ∀ u, SC.ok g hs (.sv (.one (.rd (optR lab o)))) u → SC.ok g hs (.sv (.one (.rd (trR lab t)))) u := fun a w g hs _ u hu => by
 subst h
 exact hu
end
end Go.Proofs.Ytiejmeedkhkfgaa


namespace Go.Proofs.Ytiejmeedkhkfgaa
open Go.RowKit Go.MapKept
set_option linter.unusedSimpArgs false
set_option linter.unusedVariables false
set_option maxRecDepth 100000
def RetL (fn : Func) (R : Ending → World → Prop) : Po := fun a w => Leaves Try.prog fn a.tmps R a.defers .returning w
theorem Ct.bodyD {β : Type} {f : Nat} {fn : Func} {code : Code} {n : Nat} {ins : List SC} {post : β → Prop} {out : β → SC} (hf : Try.prog.funcs[f]? = some fn) (hb : fn.body = some code) (hn : fn.ntmps = n) (hl : Nat.ble ins.length n = true)
  (h : ∀ (c : Cfg) (R : Ending → World → Prop), c.n = n → c.dfr = [] → (∀ v w' g' r, post r → (out r).ok g' hs0 v → Base c w' g' → R (.returned v) w') → (∀ ch a w', Leaves Try.prog fn a.tmps R a.defers (.panicking ch) w' → c.pan ch a w') → En c ⟨enumF 0 ins, []⟩ (cwp code (PQ c (RetL fn R) [] (RetL fn R)))) : Ct f ins [] post out := fun w g hs args hp ha hm => by
 have hl := Nat.le_of_ble_eq_true hl
 have hla := okArgs_length ha
 let R := RetP w g post out
 let c : Cfg := ⟨n, w, g, fun _ => False, [], fun ch a w' => Leaves Try.prog fn a.tmps R a.defers (.panicking ch) w'⟩
 have hR : ∀ v w' g' r, post r → (out r).ok g' hs0 v → Base c w' g' → R (.returned v) w' := fun v w' g' r h1 h2 h3 => ⟨v, g', r, rfl, h1, h2, h3.cast rfl rfl rfl⟩
 refine calls_of_wp_defers hf hb (Code.wp_mono (fun e a w' q => ?_) (h c R rfl rfl hR (fun _ _ _ h => h) { tmps := args.toArray ++ Array.replicate (fn.ntmps - args.toArray.size) undef, defers := [] } w ⟨g, hs, ?_⟩))
 ·cases e with
  | panic ch => exact q
  | normal => exact q
  | ret => exact q
  | exit _ => exact (q : False).elim
  | goto _ => exact (q : False).elim
  | outgrown => exact (q : False).elim
 ·refine ⟨?_, rfl, ⟨rfl, rfl, rfl, Nat.le_refl _, fun _ _ _ => rfl, Gh.le.refl g, fun b o e => .inl e, hp⟩, fun t x hx => ?_, fun i it hi => by simp at hi, fun i j it jt _ hi => by simp at hi, fun i it hi => by simp at hi⟩
  ·simp [c, hn]
   omega
  ·obtain ⟨u, h1, _, h3⟩ := enumF_ok ha hx
   simp only [Nat.sub_zero] at h1
   have hlt := (List.getElem?_eq_some_iff.1 h1).1
   have : (args.toArray ++ Array.replicate (fn.ntmps - args.toArray.size) undef).getD t undef = u := by
    rw [Array.getD_eq_getD_getElem?, Array.getElem?_append_left (by simpa using hlt)]
    simp [h1]
   rw [this]
   exact h3
def CtD (f : Nat) (M M' : List Item) (u u' : FrameMode) : Prop := ∀ (w : World) (g : Gh) (hs : Nat → Value), Pers g w → ItemsOk (fun _ => True) 0 M g hs w → (∃ b0 b1, hs 0 = .pointer (some ⟨b0, 0, none⟩) ∧ hs 1 = .pointer (some ⟨b1, 0, none⟩)) →
 CallsD Try.prog f #[hs 0, hs 1] u w (fun e u2 w' => u2 = u' ∧ ∃ v g' hs', e = .returned v ∧ (∀ i ∈ [0, 1], hs' i = hs i) ∧ Base (cfgM 0 w g (mayM M hs)) w' g' ∧ ItemsOk (mayM M hs) w.heap.size M' g' hs' w')
theorem CtD.body {f : Nat} {fn : Func} {id d n : Nat} {o : Oper} {y : Code} {M M' : List Item} {u u' : FrameMode} {pv : Value} (hf : Try.prog.funcs[f]? = some fn) (hb : fn.body = some (.seq (.region id #[o] false) y)) (hn : fn.ntmps = n) (hr : fn.results = #[]) (h2n : Nat.blt 2 n = true) (hdn : Nat.blt d n = true) (hd2 : Nat.blt 1 d = true)
  (hop : o.op = .call ⟨.builtin .recover, #[], #[]⟩) (hg : o.guard = none) (hod : o.dst = some d) (hrec : ∀ (c₀ : Frame) (cs : List Frame), c₀.mode = u → (match recoverD (c₀ :: cs) with
   | some (v, cs') => v = pv ∧ cs' = { c₀ with mode := u' } :: cs
   | none => .nilIface = pv ∧ u = u')) (hpv : cellV pv)
  (h : ∀ (c : Cfg) (B : Nat → Nat), c.n = n → En c ⟨[(0, .sv (.one (.pptr 0 0 (B 0)))), (1, .sv (.one (.pptr 1 0 (B 1)))), (d, .sv (.one (.v pv)))], M⟩ (cwp y (PQ c (RetE c #[] [0, 1] B (fun (_ : Unit) => True) (fun _ => .tup []) (fun _ => M')) [] (RetE c #[] [0, 1] B (fun (_ : Unit) => True) (fun _ => .tup []) (fun _ => M'))))) : CtD f M M' u u' := fun w g hs hp hm ⟨b0, b1, e0, e1⟩ => by
 have h2n := Nat.le_of_ble_eq_true h2n
 have hdn := Nat.le_of_ble_eq_true hdn
 have hd2 := Nat.le_of_ble_eq_true hd2
 refine callsD_of_wpS hf hb fun c₀ cs hu => ?_
 apply wpS_seq
 apply wpS_region
 have hl : List.range (#[o] : Array Oper).size = [0] := rfl
 rw [hl]
 let a0 : Act := { tmps := #[hs 0, hs 1] ++ Array.replicate (fn.ntmps - (#[hs 0, hs 1] : Array Value).size) undef, defers := [] }
 have hwant : Region.wanted o (yielded #[o] a0.tmps) = true := by unfold Region.wanted; rw [hg]
 have hrun : (execOp a0.eval o).run Try.prog w = .ok .recover w := by
  unfold execOp
  rw [hop]
  rfl
 have key : (y.wpS Try.prog (bodyPostS Try.prog fn c₀ cs fun e u2 w' => u2 = u' ∧ ∃ v g' hs', e = .returned v ∧ (∀ i ∈ [0, 1], hs' i = hs i) ∧ Base (cfgM 0 w g (mayM M hs)) w' g' ∧ ItemsOk (mayM M hs) w.heap.size M' g' hs' w') (a0.put (some d) pv) ({ c₀ with mode := u' } :: cs) w) := by
  refine wpS_of_wp ?_
  let B : Nat → Nat := fun i => if i = 0 then b0 else b1
  refine Code.wp_mono (fun e a w' q => ?_) (h (cfgM n w g (mayM M hs)) B rfl (a0.put (some d) pv) w ⟨g, hs, ?_⟩)
  ·have fin : RetE (cfgM n w g (mayM M hs)) #[] [0, 1] B (fun (_ : Unit) => True) (fun _ => .tup []) (fun _ => M') a w' → a.defers = [] ∧ ∃ u2, ({ c₀ with mode := u' } :: cs : List Frame) = { c₀ with mode := u2 } :: cs ∧ ∃ v, (results fn a.tmps).run Try.prog w' = .ok v w' ∧ (u2 = u' ∧ ∃ v' g' hs', Ending.returned v = .returned v' ∧ (∀ i ∈ [0, 1], hs' i = hs i) ∧ Base (cfgM 0 w g (mayM M hs)) w' g' ∧ ItemsOk (mayM M hs) w.heap.size M' g' hs' w') := fun ⟨h1, v, g', hs', _, h2, _, _, h5, h6, h7⟩ => by
    refine ⟨h1, u', rfl, v, ?_, rfl, v, g', hs', rfl, fun i hi => (h5 i hi).trans ?_, h6.cast rfl rfl rfl, h7⟩
    ·have := h2
     unfold results
     rw [hr]
     exact this
    ·simp at hi
     rcases hi with rfl | rfl
     ·exact e0.symm
     ·exact e1.symm
   cases e with
   | normal => exact fin q
   | ret => exact fin q
   | panic _ => exact (q : False).elim
   | exit _ => exact (q : False).elim
   | goto _ => exact (q : False).elim
   | outgrown => exact (q : False).elim
  ·have hsz : a0.tmps.size = n := by
    simp only [a0, Array.size_append, Array.size_replicate, hn, List.size_toArray, List.length_cons, List.length_nil]
    omega
   have hget : ∀ t v, t ≠ d → a0.tmps.getD t undef = v → (a0.put (some d) pv).tmps.getD t undef = v := fun t v ht hv => by
    simp only [Act.put]
    rw [Array.getD_eq_getD_getElem?, Array.getElem?_setIfInBounds_ne (Ne.symm ht), ← Array.getD_eq_getD_getElem?]
    exact hv
   refine ⟨by simp [Act.put, hsz], rfl, ⟨rfl, rfl, rfl, Nat.le_refl _, fun _ _ _ => rfl, Gh.le.refl g, fun b o e => .inl e, hp⟩, fun t x hx => ?_, hm.items, hm.sep, fun i it hi hn' b hb => ?_⟩
   ·simp only [List.mem_cons, List.not_mem_nil, or_false, Prod.mk.injEq] at hx
    rcases hx with ⟨rfl, rfl⟩ | ⟨rfl, rfl⟩ | ⟨rfl, rfl⟩
    ·rw [hget 0 (hs 0) (by omega) (by show (#[hs 0, hs 1] ++ Array.replicate _ undef : Array Value).getD 0 undef = hs 0; rw [Array.getD_eq_getD_getElem?, Array.getElem?_append_left (by simp)]; rfl)]
     exact ⟨⟨e0, e0⟩, by rw [e0]; trivial⟩
    ·rw [hget 1 (hs 1) (by omega) (by show (#[hs 0, hs 1] ++ Array.replicate _ undef : Array Value).getD 1 undef = hs 1; rw [Array.getD_eq_getD_getElem?, Array.getElem?_append_left (by simp)]; rfl)]
     exact ⟨⟨e1, e1⟩, by rw [e1]; trivial⟩
    ·have : (a0.put (some t) pv).tmps.getD t undef = pv := by
      have ht : t < a0.tmps.size := by omega
      simp [Act.put, ht]
     rw [this]
     exact ⟨rfl, hpv⟩
   ·obtain ⟨h1, h2⟩ := hm.mine i it hi hn' b hb
    exact ⟨h1, fun hf => ⟨.inl ⟨i, it, hi, hf, hb⟩, (h2 hf).2⟩⟩
 show wpOpsS Try.prog #[o] _ [0] a0 (c₀ :: cs) w
 have hr0 := hrec c₀ cs hu
 unfold wpOpsS
 have h0 : (#[o] : Array Oper)[0]? = some o := rfl
 rw [h0]
 simp only
 rw [if_pos hwant, hrun]
 simp only
 cases hrd : recoverD (c₀ :: cs) with
 | none =>
  rw [hrd] at hr0
  simp only at hr0 ⊢
  obtain ⟨k1, k2⟩ := hr0
  unfold wpOpsS
  show y.wpS Try.prog _ (a0.put o.dst .nilIface) (c₀ :: cs) w
  rw [hod, k1]
  have : c₀ = { c₀ with mode := u' } := by rw [← k2, ← hu]
  rw [this]
  exact key
 | some x =>
  obtain ⟨v, cs'⟩ := x
  rw [hrd] at hr0
  simp only at hr0 ⊢
  obtain ⟨rfl, rfl⟩ := hr0
  unfold wpOpsS
  show y.wpS Try.prog _ (a0.put o.dst v) _ w
  rw [hod]
  exact key
section
variable {c : Cfg} {S S1 : St} {a : Act} {w : World} {g : Gh} {hs : Nat → Value} {tab : Tab} {n : Nat} {o : Oper} {ops : Array Oper} {rest : List Oper} {N R : Po} {E : List (Nat × Po)}
theorem val_ifNil {x : Operand} {t : Nat} {b : TypeId} {y : Operand} {ty : Nat} {v : Value} (ho : o.op = .binOp .eql t x y b) (hx : evX S.F x = some (.sv (.one (.v (.iface ty v))))) (hy : evX S.F y = some (.sv (.one (.v .nilIface)))) (hrun : ∀ w, (do eqGuard .eql t x y (.iface ty v) .nilIface; binOp .eql t (.iface ty v) .nilIface : Sem Value).run Try.prog w = .ok (.bool false) w) : Val c S o (.sv (.one (B false))) := fun a w g hs h => by
 have h1 : a.eval x = .iface ty v := (evX_ok h hx).1
 have h2 : a.eval y = .nilIface := (evX_ok h hy).1
 refine ⟨_, ?_, rfl, trivial⟩
 have e : execOp a.eval o = (do pure (.value (← (do eqGuard .eql t x y (a.eval x) (a.eval y); binOp .eql t (a.eval x) (a.eval y) : Sem Value))) : Sem Next) := by unfold execOp; rw [ho]
 rw [e]
 refine run_val ?_
 rw [h1, h2]
 exact hrun w
theorem val_nilNil {x : Operand} {t : Nat} {b : TypeId} {y : Operand} (ho : o.op = .binOp .eql t x y b) (hx : evX S.F x = some (.sv (.one (.v .nilIface)))) (hy : evX S.F y = some (.sv (.one (.v .nilIface)))) (hrun : ∀ w, (do eqGuard .eql t x y .nilIface .nilIface; binOp .eql t .nilIface .nilIface : Sem Value).run Try.prog w = .ok (.bool true) w) : Val c S o (.sv (.one (B true))) := fun a w g hs h => by
 have h1 : a.eval x = .nilIface := (evX_ok h hx).1
 have h2 : a.eval y = .nilIface := (evX_ok h hy).1
 refine ⟨_, ?_, rfl, trivial⟩
 have e : execOp a.eval o = (do pure (.value (← (do eqGuard .eql t x y (a.eval x) (a.eval y); binOp .eql t (a.eval x) (a.eval y) : Sem Value))) : Sem Next) := by unfold execOp; rw [ho]
 rw [e]
 refine run_val ?_
 rw [h1, h2]
 exact hrun w
theorem val_assert {x : Operand} {t1 t2 : Nat} {ty : Nat} {cs : List Value} {l : List At} (ho : o.op = .typeAssert x t1 t2 true) (hx : evX S.F x = some (.sv (.one (.v (.iface ty (.agg cs.toArray)))))) (hl : l = cs.map .v) (hc : ∀ c ∈ cs, cellV c) (hrun : ∀ w, (Instr.typeAssert (.iface ty (.agg cs.toArray)) t1 t2 true).run Try.prog w = .ok (.tuple #[.agg cs.toArray, .bool true]) w) : Val c S o (.tup [.agg l, .one (B true)]) := fun a w g hs h => by
 have h1 : a.eval x = .iface ty (.agg cs.toArray) := (evX_ok h hx).1
 subst hl
 refine ⟨.tuple #[.agg cs.toArray, .bool true], ?_, [.agg cs.toArray, .bool true], rfl, ⟨cs, rfl, oks_vals hc⟩, ⟨rfl, trivial⟩, trivial⟩
 have e : execOp a.eval o = (do pure (.value (← Instr.typeAssert (a.eval x) t1 t2 true)) : Sem Next) := by unfold execOp; rw [ho]
 rw [e, h1]
 exact run_val (hrun w)
theorem WL.defer {F t0 t1 d i j : Nat} (hw : wantE ops S.F o = some true) (ho : o.op = .defer ⟨.value (.tmp d), #[], #[]⟩) (hd : o.dst = none) (hf : look d S.F = some (.sv (.one (.fn F [i, j])))) (h0 : look t0 S.F = some (.sv (.one (.ptr i 0)))) (h1 : look t1 S.F = some (.sv (.one (.ptr j 0)))) (hc : c.dfr = [])
  (h : ∀ (c' : Cfg) (B : Nat → Nat), c'.n = c.n → c'.w0 = c.w0 → c'.g0 = c.g0 → c'.may = c.may → c'.pan = c.pan → c'.dfr = [⟨.fn (.func F) #[.pointer (some ⟨B i, 0, none⟩), .pointer (some ⟨B j, 0, none⟩)], #[]⟩] → WL c' ops rest ⟨(t0, .sv (.one (.pptr i 0 (B i)))) :: (t1, .sv (.one (.pptr j 0 (B j)))) :: S.F, S.M⟩ N) : WL c ops (o :: rest) S N := fun a w ⟨g, hs, hk⟩ => by
 unfold wpList
 rw [if_pos (wantE_ok hk hw)]
 refine .inl ?_
 unfold Oper.wp
 have hfv : a.tmps.getD d undef = .func (.func F) #[] #[hs i, hs j] := (hk.slots d _ (look_mem hf)).1
 obtain ⟨B, eB0, eB1⟩ : ∃ B : Nat → Nat, hs i = .pointer (some ⟨B i, 0, none⟩) ∧ hs j = .pointer (some ⟨B j, 0, none⟩) := by
  obtain ⟨⟨b0, e0, _⟩, _⟩ := hk.slots t0 _ (look_mem h0)
  obtain ⟨⟨b1, e1, _⟩, _⟩ := hk.slots t1 _ (look_mem h1)
  refine ⟨fun k => if k = i then b0 else b1, by show hs i = .pointer (some ⟨if i = i then b0 else b1, 0, none⟩); rw [if_pos rfl]; exact e0, ?_⟩
  show hs j = .pointer (some ⟨if j = i then b0 else b1, 0, none⟩)
  by_cases e : j = i
  ·rw [if_pos e, e]; exact e0
  ·rw [if_neg e]; exact e1
 obtain ⟨⟨b0, e0, e0'⟩, _⟩ := hk.slots t0 _ (look_mem h0)
 obtain ⟨⟨b1, e1, e1'⟩, _⟩ := hk.slots t1 _ (look_mem h1)
 have k0 : b0 = B i := by rw [e0] at eB0; simpa using eB0
 have k1 : b1 = B j := by rw [e1] at eB1; simpa using eB1
 have hrun : (execOp a.eval o).run Try.prog w = .ok (.defer ⟨.fn (.func F) #[hs i, hs j], #[]⟩) w := by
  unfold execOp
  have hev : a.eval (.tmp d) = .func (.func F) #[] #[hs i, hs j] := hfv
  simp only [ho, resolve, hev, Deferred.ofValue, Sem.run_bind, Sem.run_pure, Result.andThen_ok]
  simp
 rw [hrun]
 show wpList Try.prog ops (OnlyP c N) rest _ w
 let c' : Cfg := { c with dfr := [⟨.fn (.func F) #[.pointer (some ⟨B i, 0, none⟩), .pointer (some ⟨B j, 0, none⟩)], #[]⟩] }
 have := h c' B rfl rfl rfl rfl rfl rfl ({ a with defers := ⟨.fn (.func F) #[hs i, hs j], #[]⟩ :: a.defers }.put o.dst undef) w ⟨g, hs, ?_⟩
 ·have e : OnlyP c' N = OnlyP c N := rfl
  rw [← e]
  exact this
 ·rw [hd]
  refine ⟨hk.size, ?_, hk.base.cast rfl rfl rfl, fun t x hx => ?_, hk.items, hk.sep, hk.mine⟩
  ·show (⟨.fn (.func F) #[hs i, hs j], #[]⟩ : Deferred) :: a.defers = _
   rw [hk.defers, hc, eB0, eB1]
  ·rcases List.mem_cons.1 hx with hx | hx
   ·cases hx
    exact ⟨⟨eB0, by rw [← k0]; exact e0'⟩, (hk.slots _ _ (look_mem h0)).2⟩
   ·rcases List.mem_cons.1 hx with hx | hx
    ·cases hx
     exact ⟨⟨eB1, by rw [← k1]; exact e1'⟩, (hk.slots _ _ (look_mem h1)).2⟩
    ·exact hk.slots t x hx
theorem En.cfg {c' : Cfg} {y : Code} (h : c'.pan = c.pan) (k : En c' S (cwp y (PQ c' N E R))) : En c' S (cwp y (PQ c N E R)) := by
 have e : PQ c N E R = PQ c' N E R := by
  funext ex a w
  cases ex <;> first | rfl | (show c.pan _ _ _ = c'.pan _ _ _; rw [h])
 rw [e]
 exact k
theorem Ok'.afterX (h : Ok' c S a w g hs) {M : List Item} {rn : List Nat} (hM : M.map (fun it => some (it.mv (rnF rn S.M.length))) = rn.map (fun j => S.M[j]?)) {w' : World} {g' : Gh} (hb : Base (cfgM 0 w g (mayM M (fun i => hs (rnF rn S.M.length i)))) w' g') : Ok' c ⟨S.F, goneM S.M rn⟩ a w' g' hs := by
 have hat : ∀ (i : Nat) (it : Item), M[i]? = some it → ∃ j, rn[i]? = some j ∧ rnF rn S.M.length i = j ∧ S.M[j]? = some (it.mv (rnF rn S.M.length)) := fun i it hi => by
  have := congrArg (·[i]?) hM
  simp only [List.getElem?_map, hi, Option.map_some] at this
  cases hr : rn[i]? with
  | none => rw [hr] at this; simp at this
  | some j =>
   rw [hr] at this
   simp at this
   have hlt := (List.getElem?_eq_some_iff.1 hr).1
   refine ⟨j, rfl, ?_, this.symm⟩
   unfold rnF
   rw [show Nat.blt i rn.length = true from by simpa [Nat.blt_eq] using hlt]
   simp [hr]
 have hmay : ∀ b, mayM M (fun i => hs (rnF rn S.M.length i)) b → ∃ j it, j ∈ rn ∧ S.M[j]? = some it ∧ it.fz = false ∧ Blk (hs j) b := fun b ⟨i, it, h1, h2, h3⟩ => by
  obtain ⟨j, h4, h5, h6⟩ := hat i it h1
  simp only [h5] at h3
  exact ⟨j, _, List.mem_of_getElem? h4, h6, by rw [Item.mv_fz]; exact h2, h3⟩
 have hoth : ∀ k jt b, k ∉ rn → S.M[k]? = some jt → jt ≠ .gone → Blk (hs k) b → ¬ mayM M (fun i => hs (rnF rn S.M.length i)) b := fun k jt b h1 h2 h3 h4 h5 => by
  obtain ⟨j, it, h6, h7, h8, h9⟩ := hmay b h5
  exact h.sep j k it jt (fun e => h1 (e ▸ h6)) h7 h2 h8 h3 b h9 h4
 refine ⟨h.size, h.defers, Base.callM h hM hb, fun t x hx => SC.mono hb.ghle (h.slots t x hx), fun k kt hk => ?_, fun k l kt lt hkl hk hl hf hn b hb1 => ?_, fun k kt hk hn b hb1 => ?_⟩
 ·by_cases hn : kt = .gone
  ·subst hn; trivial
  ·obtain ⟨h1, h2⟩ := goneM_get k kt hk hn
   exact Item.same hb.ghle (fun b hb1 => hb.frame b (h.mine k kt h2 hn b hb1).1 (hoth k kt b h1 h2 hn hb1)) (h.items k kt h2)
 ·obtain ⟨h1, h2⟩ := goneM_get k kt hk (fz_gone hf)
  obtain ⟨h3, h4⟩ := goneM_get l lt hl hn
  exact h.sep k l kt lt hkl h2 h4 hf hn b hb1
 ·obtain ⟨h1, h2⟩ := goneM_get k kt hk hn
  obtain ⟨m1, m2⟩ := h.mine k kt h2 hn b hb1
  refine ⟨Nat.lt_of_lt_of_le m1 hb.grows, fun hf => ⟨(m2 hf).1, ?_⟩⟩
  cases hg : g' b with
  | none => rfl
  | some o =>
   rcases hb.ghnew b o hg with h5 | h5 | h5
   ·have h6 := (m2 hf).2
    have h5 : g b = some o := h5
    rw [h6] at h5; cases h5
   ·exact absurd h5 (hoth k kt b h1 h2 hn hb1)
   ·have : w.heap.size ≤ b := h5
    omega
theorem leave_one {β : Type} {fn : Func} {R : Ending → World → Prop} {rs : Array ResultVar} {post : β → Prop} {out : β → SC} {f t0 t1 i j b0 b1 : Nat} {M M' : List Item} {u u' : FrameMode} {S2 : St} (ht : tab.ok) (hk : Ok' c S a w g hs) (hr : fn.results = rs) (hR : ∀ v w' g' r, post r → (out r).ok g' hs0 v → Base c w' g' → R (.returned v) w')
  (hdf : c.dfr = [⟨.fn (.func f) #[.pointer (some ⟨b0, 0, none⟩), .pointer (some ⟨b1, 0, none⟩)], #[]⟩]) (h0 : look t0 S.F = some (.sv (.one (.pptr i 0 b0)))) (h1 : look t1 S.F = some (.sv (.one (.pptr j 0 b1)))) (hu : u ≠ .run) (hs' : settle u' = .returning)
  (ct : CtD f M M' u u') (en : ∀ args w, (callFunc f args).run Try.prog w = .ok (.enter f args) w) (hM : M.map (fun it => some (it.mv (rnF [i, j] S.M.length))) = [i, j].map (fun j => S.M[j]?)) (hnd : [i, j].Nodup) (hal : aloneE S [i, j] [0, 1] = true) (hrf : refsB M' = true) (hlen : M.length ≤ M'.length) (hbk : backC [0, 1] M M' = true)
  (hS2 : S2 = ⟨S.F, putItems (rnF [i, j] S.M.length) S.M [i, j] M'⟩) (r : β) (hp : post r) (e : evR tab S2 rs = some (out r)) (hcl : (out r).refs = []) : Leaves Try.prog fn a.tmps R a.defers u w := by
 rw [hk.defers, hdf]
 have e0 : hs i = .pointer (some ⟨b0, 0, none⟩) := (hk.slots t0 _ (look_mem h0)).1.1
 have e1 : hs j = .pointer (some ⟨b1, 0, none⟩) := (hk.slots t1 _ (look_mem h1)).1.1
 refine leaves_cons (f := f) (args := #[.pointer (some ⟨b0, 0, none⟩), .pointer (some ⟨b1, 0, none⟩)]) hu (by
  simp only [invoke]
  rw [show (#[] ++ #[Value.pointer (some ⟨b0, 0, none⟩), Value.pointer (some ⟨b1, 0, none⟩)] : Array Value) = #[.pointer (some ⟨b0, 0, none⟩), .pointer (some ⟨b1, 0, none⟩)] by simp]
  exact en _ _) ?_
 have hr0 : rnF [i, j] S.M.length 0 = i := rfl
 have hr1 : rnF [i, j] S.M.length 1 = j := rfl
 have hcall := ct w g (fun k => hs (rnF [i, j] S.M.length k)) hk.base.pers (items_in hk hM hnd) ⟨b0, b1, by rw [hr0]; exact e0, by rw [hr1]; exact e1⟩
 simp only [hr0, hr1, e0, e1] at hcall
 refine hcall.mono ?_
 rintro e' u2 w' ⟨rfl, v, g', hs'', rfl, k1, k2, k3⟩
 show Leaves Try.prog fn a.tmps R [] (settle u2) w'
 rw [hs']
 obtain ⟨hsN, n1, n2⟩ := hk.backE hM hnd hal hrf hlen (backB_of hbk) (fun q hq => k1 q hq) (fun q hq => by simp at hq; rcases hq with rfl | rfl <;> simp) k2 k3
 rw [← hS2] at n1
 obtain ⟨v', r1, r2⟩ := evR_ok ht n1 e
 refine ⟨v', ?_, hR v' w' g' r hp (SC.ok_closed hcl r2) n1.base⟩
 subst hr
 exact r1
theorem En.backD {β : Type} {fn : Func} {R : Ending → World → Prop} {rs : Array ResultVar} {post : β → Prop} {out : β → SC} {f b0 b1 : Nat} {M M' : List Item} {S2 : St} (t0 t1 i j : Nat) (ht : tab.ok) (hr : fn.results = rs) (hR : ∀ v w' g' r, post r → (out r).ok g' hs0 v → Base c w' g' → R (.returned v) w')
  (hdf : c.dfr = [⟨.fn (.func f) #[.pointer (some ⟨b0, 0, none⟩), .pointer (some ⟨b1, 0, none⟩)], #[]⟩]) (h0 : look t0 S.F = some (.sv (.one (.pptr i 0 b0)))) (h1 : look t1 S.F = some (.sv (.one (.pptr j 0 b1))))
  (ct : CtD f M M' .returning .returning) (en : ∀ args w, (callFunc f args).run Try.prog w = .ok (.enter f args) w) (hM : M.map (fun it => some (it.mv (rnF [i, j] S.M.length))) = [i, j].map (fun j => S.M[j]?)) (hnd : [i, j].Nodup) (hal : aloneE S [i, j] [0, 1] = true) (hrf : refsB M' = true) (hlen : M.length ≤ M'.length) (hbk : backC [0, 1] M M' = true)
  (hS2 : S2 = ⟨S.F, putItems (rnF [i, j] S.M.length) S.M [i, j] M'⟩) (r : β) (hp : post r) (e : evR tab S2 rs = some (out r)) (hcl : (out r).refs = []) : En c S (RetL fn R) := fun a w ⟨g, hs, hk⟩ =>
 leave_one ht hk hr hR hdf h0 h1 (by simp) rfl ct en hM hnd hal hrf hlen hbk hS2 r hp e hcl
theorem En.backD0 {β : Type} {fn : Func} {R : Ending → World → Prop} {rs : Array ResultVar} {post : β → Prop} {out : β → SC} (ht : tab.ok) (hr : fn.results = rs) (hR : ∀ v w' g' r, post r → (out r).ok g' hs0 v → Base c w' g' → R (.returned v) w') (hdf : c.dfr = []) (r : β) (hp : post r) (e : evR tab S rs = some (out r)) (hcl : (out r).refs = []) : En c S (RetL fn R) := fun a w ⟨g, hs, hk⟩ => by
 show Leaves Try.prog fn a.tmps R a.defers .returning w
 rw [hk.defers, hdf]
 obtain ⟨v', r1, r2⟩ := evR_ok ht hk e
 refine ⟨v', ?_, hR v' w g r hp (SC.ok_closed hcl r2) hk.base⟩
 subst hr
 exact r1
theorem leftD {β : Type} {fn : Func} {R : Ending → World → Prop} {rs : Array ResultVar} {post : β → Prop} {out : β → SC} {f b0 b1 ty : Nat} {M M0 : List Item} {M' : Int → Int → List Item} {rn : List Nat} {S2 : Int → Int → St} (t0 t1 i j : Nat) (ht : tab.ok) (hr : fn.results = rs) (hR : ∀ v w' g' r, post r → (out r).ok g' hs0 v → Base c w' g' → R (.returned v) w') (hpan : ∀ ch a w', Leaves Try.prog fn a.tmps R a.defers (.panicking ch) w' → c.pan ch a w')
  (hdf : c.dfr = [⟨.fn (.func f) #[.pointer (some ⟨b0, 0, none⟩), .pointer (some ⟨b1, 0, none⟩)], #[]⟩]) (h0 : look t0 S.F = some (.sv (.one (.pptr i 0 b0)))) (h1 : look t1 S.F = some (.sv (.one (.pptr j 0 b1))))
  (ct : ∀ code at_, code ≠ 0 → CtD f M (M' code at_) (.panicking [{ v := .iface ty (.agg #[.int .i64 code, .int .i64 at_]), recovered := false }]) (.panicking [{ v := .iface ty (.agg #[.int .i64 code, .int .i64 at_]), recovered := true }])) (en : ∀ args w, (callFunc f args).run Try.prog w = .ok (.enter f args) w)
  (hMc : M0.map (fun it => some (it.mv (rnF rn S.M.length))) = rn.map (fun j => S.M[j]?)) (hM : M.map (fun it => some (it.mv (rnF [i, j] (goneM S.M rn).length))) = [i, j].map (fun j => (goneM S.M rn)[j]?)) (hnd : [i, j].Nodup) (hal : aloneE ⟨S.F, goneM S.M rn⟩ [i, j] [0, 1] = true) (hrf : ∀ code at_, refsB (M' code at_) = true) (hlen : ∀ code at_, M.length ≤ (M' code at_).length) (hbk : ∀ code at_, backC [0, 1] M (M' code at_) = true)
  (hS2 : ∀ code at_, S2 code at_ = ⟨S.F, putItems (rnF [i, j] (goneM S.M rn).length) (goneM S.M rn) [i, j] (M' code at_)⟩) (r : Int → Int → β) (hp : ∀ code at_, code ≠ 0 → post (r code at_)) (e : ∀ code at_, evR tab (S2 code at_) rs = some (out (r code at_))) (hcl : ∀ code at_, (out (r code at_)).refs = []) : LeftX c S M0 rn (psStop ty) := fun a w g hs hk ch w' g' ⟨code, at_, hc, hch⟩ hb _ => by
 subst hch
 refine hpan _ a w' ?_
 have hk2 := hk.afterX hMc hb
 exact leave_one (S := ⟨S.F, goneM S.M rn⟩) ht hk2 hr hR hdf h0 h1 (by simp) rfl (ct code at_ hc) en hM hnd hal (hrf code at_) (hlen code at_) (hbk code at_) (hS2 code at_) (r code at_) (hp code at_ hc) (e code at_) (hcl code at_)
theorem optNil {α : Type} {lab : α → List Value} : ∀ a w g hs, Ok' c S a w g hs → ∀ u, At.ok g hs (.v (.pointer none)) u → At.ok g hs (.rd (optR lab (none : Option (Tr α)))) u := fun a w g hs _ u h => h
theorem optSome {α : Type} {lab : α → List Value} {t : Tr α} : ∀ a w g hs, Ok' c S a w g hs → ∀ u, At.ok g hs (.rd (trR lab t)) u → At.ok g hs (.rd (optR lab (some t))) u := fun a w g hs _ u h => h
theorem hR_cast {β : Type} {R : Ending → World → Prop} {post : β → Prop} {out : β → SC} {c' : Cfg} (h1 : c'.w0 = c.w0) (h2 : c'.g0 = c.g0) (h3 : c'.may = c.may) (hR : ∀ v w' g' r, post r → (out r).ok g' hs0 v → Base c w' g' → R (.returned v) w') : ∀ v w' g' r, post r → (out r).ok g' hs0 v → Base c' w' g' → R (.returned v) w' := fun v w' g' r k1 k2 k3 => hR v w' g' r k1 k2 (k3.cast h1.symm h2.symm h3.symm)
theorem hpan_cast {fn : Func} {R : Ending → World → Prop} {c' : Cfg} (h : c'.pan = c.pan) (hpan : ∀ ch a w', Leaves Try.prog fn a.tmps R a.defers (.panicking ch) w' → c.pan ch a w') : ∀ ch a w', Leaves Try.prog fn a.tmps R a.defers (.panicking ch) w' → c'.pan ch a w' := fun ch a w' k => by rw [h]; exact hpan ch a w' k
end
end Go.Proofs.Ytiejmeedkhkfgaa


namespace Go.Proofs.Ytiejmeedkhkfgaa
open Go.RowKit Go.MapKept
set_option linter.unusedSimpArgs false
set_option linter.unusedVariables false
set_option maxRecDepth 100000
theorem dlt {k n : Nat} (h : decide ((k : Int) < (n : Int)) = true) : k < n := by
 have := of_decide_eq_true h
 omega
theorem dge {k n : Nat} (h : decide ((k : Int) < (n : Int)) = false) : n ≤ k := by
 have := of_decide_eq_false h
 omega
theorem wsucc {k : Nat} (h : k < 9223372036854775807) : wr ((k : Int) + 1) = ((k + 1 : Nat) : Int) := by
 rw [wr_in (by omega) (by omega)]
 rfl
theorem mu_up {n k : Nat} (h : k < n) (hk : k < 9223372036854775807) : n - (wr ((k : Int) + 1)).toNat < n - (k : Int).toNat := by
 rw [wsucc hk, Int.toNat_natCast, Int.toNat_natCast]
 omega
theorem idx_at {α : Type} {l : List α} {k : Nat} (h : k < l.length) : idx l (k : Int) = some l[k] := by simp [idx, h]
theorem idx_of {α : Type} {l : List α} {i : Int} (z : α) (h0 : 0 ≤ i) (h1 : i < (l.length : Int)) : idx l i = some (l.getD i.toNat z) := by
 have h : i.toNat < l.length := by omega
 unfold idx
 rw [if_pos h0, List.getD_eq_getElem?_getD, List.getElem?_eq_getElem h]
 rfl
theorem capOk_of {n m b : Nat} (h : (n + m) * b ≤ 140737488355328) : capOk n m b := h
end Go.Proofs.Ytiejmeedkhkfgaa


namespace Go.Proofs.Ytiejmeedkhkfgaa
open Go.RowKit Go.MapKept
set_option linter.unusedSimpArgs false
set_option linter.unusedVariables false
set_option maxRecDepth 100000
structure ApiArrow where
 fFrom : Int
 fLetter : Int
 fTo : Int
deriving DecidableEq, Inhabited
abbrev ApiArrow.sv (x : ApiArrow) : SV := .agg [I x.fFrom, I x.fLetter, I x.fTo]
abbrev ApiArrow.cl (x : ApiArrow) : List At := [I x.fFrom, I x.fLetter, I x.fTo]
abbrev ApiArrow.ty : Ty ApiArrow := ⟨3, ApiArrow.sv⟩
structure ApiGraph where
 fLetters : Int
 fPlaces : Int
 fArrows : (List ApiArrow)
deriving DecidableEq, Inhabited
abbrev ApiGraph.sv (x : ApiGraph) : SV := .agg [I x.fLetters, I x.fPlaces, LS ApiArrow.ty x.fArrows]
abbrev ApiGraph.cl (x : ApiGraph) : List At := [I x.fLetters, I x.fPlaces, LS ApiArrow.ty x.fArrows]
abbrev ApiGraph.ty : Ty ApiGraph := ⟨3, ApiGraph.sv⟩
structure ApiFault where
 fCode : Int
 fAt : Int
deriving DecidableEq, Inhabited
abbrev ApiFault.sv (x : ApiFault) : SV := .agg [I x.fCode, I x.fAt]
abbrev ApiFault.cl (x : ApiFault) : List At := [I x.fCode, I x.fAt]
abbrev ApiFault.ty : Ty ApiFault := ⟨2, ApiFault.sv⟩
structure ApiPush where
 fFrom : Int
 fTop : Int
 fTo : Int
 fPut : (List Int)
deriving DecidableEq, Inhabited
abbrev ApiPush.sv (x : ApiPush) : SV := .agg [I x.fFrom, I x.fTop, I x.fTo, LS intT x.fPut]
abbrev ApiPush.ty : Ty ApiPush := ⟨4, ApiPush.sv⟩
structure ApiConfig where
 fControl : Int
 fStack : (List Int)
deriving DecidableEq, Inhabited
abbrev ApiConfig.sv (x : ApiConfig) : SV := .agg [I x.fControl, LS intT x.fStack]
abbrev ApiConfig.ty : Ty ApiConfig := ⟨2, ApiConfig.sv⟩
structure ApiDet where
 fLetters : Int
 fStart : Int
 fNext : (List (List Int))
 fMark : (List Int)
deriving DecidableEq, Inhabited
abbrev ApiDet.sv (x : ApiDet) : SV := .agg [I x.fLetters, I x.fStart, LS (lsT intT) x.fNext, LS intT x.fMark]
abbrev ApiDet.ty : Ty ApiDet := ⟨4, ApiDet.sv⟩
structure ApiQuery where
 fGuessed : Bool
 fWord : (List Int)
 fYes : Bool
 fGuess : ApiDet
 fRight : Bool
deriving DecidableEq, Inhabited
abbrev ApiQuery.sv (x : ApiQuery) : SV := .agg [B x.fGuessed, LS intT x.fWord, B x.fYes, I x.fGuess.fLetters, I x.fGuess.fStart, LS (lsT intT) x.fGuess.fNext, LS intT x.fGuess.fMark, B x.fRight]
abbrev ApiQuery.ty : Ty ApiQuery := ⟨8, ApiQuery.sv⟩
structure StackEdge where
 fFrom : Int
 fSign : Int
 fTo : Int
deriving DecidableEq, Inhabited
abbrev StackEdge.sv (x : StackEdge) : SV := .agg [I x.fFrom, I x.fSign, I x.fTo]
abbrev StackEdge.ty : Ty StackEdge := ⟨3, StackEdge.sv⟩
structure StackWay where
 fTo : Int
 fCost : Int
 fOver : (List StackEdge)
deriving DecidableEq, Inhabited
abbrev StackWay.sv (x : StackWay) : SV := .agg [I x.fTo, I x.fCost, LS StackEdge.ty x.fOver]
abbrev StackWay.ty : Ty StackWay := ⟨3, StackWay.sv⟩
structure LearnTeacher where
 fD : ApiDet
 fLog : (List ApiQuery)
deriving DecidableEq, Inhabited
abbrev LearnTeacher.sv (x : LearnTeacher) : SV := .agg [I x.fD.fLetters, I x.fD.fStart, LS (lsT intT) x.fD.fNext, LS intT x.fD.fMark, LS ApiQuery.ty x.fLog]
abbrev LearnTeacher.ty : Ty LearnTeacher := ⟨5, LearnTeacher.sv⟩
structure BranchWrong where
 fFault : ApiFault
deriving DecidableEq, Inhabited
abbrev BranchWrong.sv (x : BranchWrong) : SV := .agg [I x.fFault.fCode, I x.fFault.fAt]
abbrev BranchWrong.ty : Ty BranchWrong := ⟨2, BranchWrong.sv⟩
structure BranchReader where
 fText : ByteArray
 fI : Int
 fDeep : Int
 fCount : Int
deriving DecidableEq, Inhabited
abbrev BranchReader.sv (x : BranchReader) : SV := .agg [.v (.string x.fText), I x.fI, I x.fDeep, I x.fCount]
abbrev BranchReader.ty : Ty BranchReader := ⟨4, BranchReader.sv⟩
structure BranchWalker where
 fGraph : ApiGraph
 fNext : (List (List Int))
deriving DecidableEq, Inhabited
abbrev BranchWalker.sv (x : BranchWalker) : SV := .agg [I x.fGraph.fLetters, I x.fGraph.fPlaces, LS ApiArrow.ty x.fGraph.fArrows, LS (lsT intT) x.fNext]
abbrev BranchWalker.ty : Ty BranchWalker := ⟨4, BranchWalker.sv⟩
structure StackKnown where
 fRule : Int
 fCost : Int
 fOver : (List StackEdge)
deriving DecidableEq, Inhabited
abbrev StackKnown.sv (x : StackKnown) : SV := .agg [I x.fRule, I x.fCost, LS StackEdge.ty x.fOver]
abbrev StackKnown.ty : Ty StackKnown := ⟨3, StackKnown.sv⟩
structure FixWrong where
 fFault : ApiFault
deriving DecidableEq, Inhabited
abbrev FixWrong.sv (x : FixWrong) : SV := .agg [I x.fFault.fCode, I x.fFault.fAt]
abbrev FixWrong.ty : Ty FixWrong := ⟨2, FixWrong.sv⟩
structure FixName where
 fSign : Int
 fTurned : Bool
deriving DecidableEq, Inhabited
abbrev FixName.sv (x : FixName) : SV := .agg [.v (.int .u8 x.fSign), B x.fTurned]
abbrev FixName.ty : Ty FixName := ⟨2, FixName.sv⟩
structure FixReader where
 fText : ByteArray
 fI : Int
 fDeep : Int
 fCount : Int
 fAround : (List FixName)
deriving DecidableEq, Inhabited
abbrev FixReader.sv (x : FixReader) : SV := .agg [.v (.string x.fText), I x.fI, I x.fDeep, I x.fCount, LS FixName.ty x.fAround]
abbrev FixReader.ty : Ty FixReader := ⟨5, FixReader.sv⟩
structure RegularPlaces where
 fLetters : (List Int)
 fNext : (List (List Int))
deriving DecidableEq, Inhabited
abbrev RegularPlaces.sv (x : RegularPlaces) : SV := .agg [LS intT x.fLetters, LS (lsT intT) x.fNext]
abbrev RegularPlaces.ty : Ty RegularPlaces := ⟨2, RegularPlaces.sv⟩
structure RegularStop where
 fFault : ApiFault
deriving DecidableEq, Inhabited
abbrev RegularStop.sv (x : RegularStop) : SV := .agg [I x.fFault.fCode, I x.fFault.fAt]
abbrev RegularStop.ty : Ty RegularStop := ⟨2, RegularStop.sv⟩
structure RegularReader where
 fText : ByteArray
 fI : Int
 fDeep : Int
deriving DecidableEq, Inhabited
abbrev RegularReader.sv (x : RegularReader) : SV := .agg [.v (.string x.fText), I x.fI, I x.fDeep]
abbrev RegularReader.ty : Ty RegularReader := ⟨3, RegularReader.sv⟩
structure RegularEnds where
 fEmpty : Bool
 fFirst : (List Int)
 fLast : (List Int)
deriving DecidableEq, Inhabited
abbrev RegularEnds.sv (x : RegularEnds) : SV := .agg [B x.fEmpty, LS intT x.fFirst, LS intT x.fLast]
abbrev RegularEnds.ty : Ty RegularEnds := ⟨3, RegularEnds.sv⟩
structure DetCouple where
 fE0 : Int
 fE1 : Int
deriving DecidableEq, Inhabited
abbrev DetCouple.sv (x : DetCouple) : SV := .agg [I x.fE0, I x.fE1]
abbrev DetCouple.ty : Ty DetCouple := ⟨2, DetCouple.sv⟩
structure DetSplit where
 fOwn : Int
 fNext : ByteArray
deriving DecidableEq, Inhabited
abbrev DetSplit.sv (x : DetSplit) : SV := .agg [I x.fOwn, .v (.string x.fNext)]
abbrev DetSplit.ty : Ty DetSplit := ⟨2, DetSplit.sv⟩
def tabs : List (Nat × TI) := [
 (3, ⟨false, false, 1, [.int .i64 0], [], some .i64, none, 8⟩),
 (4, ⟨false, false, 1, [.bool false], [], none, none, 1⟩),
 (5, ⟨false, false, 1, [.int .u8 0], [], some .u8, none, 1⟩),
 (9, ⟨false, false, 1, [.string ByteArray.empty], [], none, none, 16⟩),
 (21, ⟨false, false, 1, [.int .i32 0], [], some .i32, none, 4⟩),
 (22, ⟨false, false, 1, [.slice none 0 0], [], none, some 26, 24⟩),
 (24, ⟨true, true, 3, [.int .i64 0, .int .i64 0, .slice none 0 0], [(0, 1, false), (1, 1, false), (2, 1, false)], none, none, 40⟩),
 (26, ⟨true, true, 3, [.int .i64 0, .int .i64 0, .int .i64 0], [(0, 1, false), (1, 1, false), (2, 1, false)], none, none, 24⟩),
 (27, ⟨false, false, 1, [.slice none 0 0], [], none, some 4, 24⟩),
 (28, ⟨false, false, 1, [.int .i64 0], [], some .i64, none, 8⟩),
 (32, ⟨true, true, 2, [.int .i64 0, .int .i64 0], [(0, 1, false), (1, 1, false)], none, none, 16⟩),
 (34, ⟨false, false, 1, [.slice none 0 0], [], none, some 9, 24⟩),
 (36, ⟨false, false, 1, [.slice none 0 0], [], none, some 41, 24⟩),
 (37, ⟨false, false, 1, [.slice none 0 0], [], none, some 3, 24⟩),
 (39, ⟨true, true, 2, [.int .i64 0, .slice none 0 0], [(0, 1, false), (1, 1, false)], none, none, 32⟩),
 (41, ⟨true, true, 4, [.int .i64 0, .int .i64 0, .int .i64 0, .slice none 0 0], [(0, 1, false), (1, 1, false), (2, 1, false), (3, 1, false)], none, none, 48⟩),
 (51, ⟨false, false, 1, [.slice none 0 0], [], none, some 37, 24⟩),
 (53, ⟨true, true, 4, [.int .i64 0, .int .i64 0, .slice none 0 0, .slice none 0 0], [(0, 1, false), (1, 1, false), (2, 1, false), (3, 1, false)], none, none, 64⟩),
 (55, ⟨false, false, 1, [.slice none 0 0], [], none, some 59, 24⟩),
 (59, ⟨true, true, 8, [.bool false, .slice none 0 0, .bool false, .int .i64 0, .int .i64 0, .slice none 0 0, .slice none 0 0, .bool false], [(0, 1, false), (1, 1, false), (2, 1, false), (3, 4, true), (7, 1, false)], none, none, 112⟩),
 (63, ⟨false, false, 1, [.pointer none], [], none, none, 8⟩),
 (66, ⟨false, false, 1, [.pointer none], [], none, none, 8⟩),
 (72, ⟨false, false, 1, [.slice none 0 0], [], none, some 76, 24⟩),
 (74, ⟨false, false, 1, [.slice none 0 0], [], none, some 79, 24⟩),
 (76, ⟨true, true, 3, [.int .i64 0, .int .i64 0, .slice none 0 0], [(0, 1, false), (1, 1, false), (2, 1, false)], none, none, 40⟩),
 (79, ⟨true, true, 3, [.int .i64 0, .int .i64 0, .int .i64 0], [(0, 1, false), (1, 1, false), (2, 1, false)], none, none, 24⟩),
 (83, ⟨false, false, 1, [.pointer none], [], none, none, 8⟩),
 (92, ⟨false, false, 1, [.pointer none], [], none, none, 8⟩),
 (94, ⟨true, true, 5, [.int .i64 0, .int .i64 0, .slice none 0 0, .slice none 0 0, .slice none 0 0], [(0, 4, true), (4, 1, false)], none, none, 88⟩),
 (95, ⟨false, false, 1, [.map none], [], none, none, 8⟩),
 (97, ⟨true, true, 5, [.pointer none, .int .i64 0, .slice none 0 0, .slice none 0 0, .map none], [(0, 1, false), (1, 1, false), (2, 1, false), (3, 1, false), (4, 1, false)], none, none, 72⟩),
 (103, ⟨false, false, 1, [.nilFunc], [], none, none, 8⟩),
 (108, ⟨true, true, 2, [.int .i64 0, .int .i64 0], [(0, 2, true)], none, none, 16⟩),
 (111, ⟨true, true, 4, [.string ByteArray.empty, .int .i64 0, .int .i64 0, .int .i64 0], [(0, 1, false), (1, 1, false), (2, 1, false), (3, 1, false)], none, none, 40⟩),
 (115, ⟨true, true, 4, [.int .i64 0, .int .i64 0, .slice none 0 0, .slice none 0 0], [(0, 3, true), (3, 1, false)], none, none, 64⟩),
 (117, ⟨false, false, 1, [.slice none 0 0], [], none, some 63, 24⟩),
 (119, ⟨true, true, 4, [.int .u8 0, .bool false, .int .i64 0, .slice none 0 0], [(0, 1, false), (1, 1, false), (2, 1, false), (3, 1, false)], none, none, 40⟩),
 (124, ⟨false, false, 1, [.slice none 0 0], [], none, some 39, 24⟩),
 (125, ⟨false, false, 1, [.map none], [], none, none, 8⟩),
 (127, ⟨true, true, 3, [.int .i64 0, .slice none 0 0, .map none], [(0, 2, true), (2, 1, false)], none, none, 40⟩),
 (129, ⟨true, true, 3, [.int .i64 0, .int .i64 0, .slice none 0 0], [(0, 1, false), (1, 1, false), (2, 1, false)], none, none, 40⟩),
 (131, ⟨false, false, 1, [.map none], [], none, none, 8⟩),
 (136, ⟨false, false, 1, [.nilFunc], [], none, none, 8⟩),
 (140, ⟨true, true, 2, [.int .i64 0, .int .i64 0], [(0, 2, true)], none, none, 16⟩),
 (141, ⟨false, false, 1, [.pointer none], [], none, none, 8⟩),
 (142, ⟨false, false, 1, [.slice none 0 0], [], none, some 236, 24⟩),
 (144, ⟨true, true, 5, [.string ByteArray.empty, .int .i64 0, .int .i64 0, .int .i64 0, .slice none 0 0], [(0, 1, false), (1, 1, false), (2, 1, false), (3, 1, false), (4, 1, false)], none, none, 64⟩),
 (146, ⟨false, false, 1, [.slice none 0 0], [], none, some 27, 24⟩),
 (147, ⟨false, false, 1, [.slice none 0 0], [], none, some 83, 24⟩),
 (149, ⟨true, true, 3, [.int .u8 0, .int .i64 0, .slice none 0 0], [(0, 1, false), (1, 1, false), (2, 1, false)], none, none, 40⟩),
 (153, ⟨false, false, 1, [.pointer none], [], none, none, 8⟩),
 (158, ⟨false, false, 1, [.pointer none], [], none, none, 8⟩),
 (162, ⟨true, true, 2, [.slice none 0 0, .slice none 0 0], [(0, 1, false), (1, 1, false)], none, none, 48⟩),
 (180, ⟨false, false, 1, [.int .u64 0], [], some .u64, none, 8⟩),
 (184, ⟨true, true, 2, [.int .i64 0, .int .i64 0], [(0, 2, true)], none, none, 16⟩),
 (187, ⟨true, true, 3, [.string ByteArray.empty, .int .i64 0, .int .i64 0], [(0, 1, false), (1, 1, false), (2, 1, false)], none, none, 32⟩),
 (191, ⟨true, true, 3, [.bool false, .slice none 0 0, .slice none 0 0], [(0, 1, false), (1, 1, false), (2, 1, false)], none, none, 56⟩),
 (193, ⟨false, false, 1, [.map none], [], none, none, 8⟩),
 (198, ⟨true, false, 2, [.int .i64 0, .int .i64 0], [(0, 1, false), (1, 1, false)], none, none, 16⟩),
 (201, ⟨false, false, 1, [.pointer none], [], none, none, 8⟩),
 (202, ⟨false, false, 1, [.slice none 0 0], [], none, some 5, 24⟩),
 (204, ⟨true, true, 2, [.pointer none, .slice none 0 0], [(0, 1, false), (1, 1, false)], none, none, 32⟩),
 (210, ⟨false, false, 1, [.int .u32 0], [], some .u32, none, 4⟩),
 (213, ⟨false, false, 1, [.int .u64 0], [], some .u64, none, 8⟩),
 (216, ⟨false, false, 1, [.slice none 0 0], [], none, some 153, 24⟩),
 (218, ⟨true, true, 3, [.int .i64 0, .int .i64 0, .slice none 0 0], [(0, 1, false), (1, 1, false), (2, 1, false)], none, none, 40⟩),
 (222, ⟨false, false, 1, [.map none], [], none, none, 8⟩),
 (224, ⟨true, true, 2, [.int .i64 0, .string ByteArray.empty], [(0, 1, false), (1, 1, false)], none, none, 24⟩),
 (225, ⟨false, false, 1, [.slice none 0 0], [], none, some 53, 24⟩),
 (226, ⟨false, false, 1, [.map none], [], none, none, 8⟩),
 (227, ⟨false, false, 1, [.slice none 0 0], [], none, some 198, 24⟩),
 (228, ⟨false, false, 1, [.pointer none], [], none, none, 8⟩),
 (236, ⟨true, true, 2, [.int .u8 0, .bool false], [(0, 1, false), (1, 1, false)], none, none, 2⟩)]
def tab : Tab := tabL tabs
theorem ti3 : TI.ok 3 ⟨false, false, 1, [.int .i64 0], [], some .i64, none, 8⟩ := ⟨by kernel_rfl, by kernel_rfl, by kernel_rfl, by kernel_rfl, by kernel_rfl, by kernel_rfl, by rfl, by rfl, by decide⟩
theorem ti4 : TI.ok 4 ⟨false, false, 1, [.bool false], [], none, none, 1⟩ := ⟨by kernel_rfl, by kernel_rfl, by kernel_rfl, by kernel_rfl, by kernel_rfl, by kernel_rfl, by rfl, by rfl, by decide⟩
theorem ti5 : TI.ok 5 ⟨false, false, 1, [.int .u8 0], [], some .u8, none, 1⟩ := ⟨by kernel_rfl, by kernel_rfl, by kernel_rfl, by kernel_rfl, by kernel_rfl, by kernel_rfl, by rfl, by rfl, by decide⟩
theorem ti9 : TI.ok 9 ⟨false, false, 1, [.string ByteArray.empty], [], none, none, 16⟩ := ⟨by kernel_rfl, by kernel_rfl, by kernel_rfl, by kernel_rfl, by kernel_rfl, by kernel_rfl, by rfl, by rfl, by decide⟩
theorem ti21 : TI.ok 21 ⟨false, false, 1, [.int .i32 0], [], some .i32, none, 4⟩ := ⟨by kernel_rfl, by kernel_rfl, by kernel_rfl, by kernel_rfl, by kernel_rfl, by kernel_rfl, by rfl, by rfl, by decide⟩
theorem ti22 : TI.ok 22 ⟨false, false, 1, [.slice none 0 0], [], none, some 26, 24⟩ := ⟨by kernel_rfl, by kernel_rfl, by kernel_rfl, by kernel_rfl, by kernel_rfl, by kernel_rfl, by rfl, by rfl, by decide⟩
theorem ti24 : TI.ok 24 ⟨true, true, 3, [.int .i64 0, .int .i64 0, .slice none 0 0], [(0, 1, false), (1, 1, false), (2, 1, false)], none, none, 40⟩ := ⟨by kernel_rfl, by kernel_rfl, by kernel_rfl, by kernel_rfl, by kernel_rfl, by kernel_rfl, by rfl, by rfl, by decide⟩
theorem ti26 : TI.ok 26 ⟨true, true, 3, [.int .i64 0, .int .i64 0, .int .i64 0], [(0, 1, false), (1, 1, false), (2, 1, false)], none, none, 24⟩ := ⟨by kernel_rfl, by kernel_rfl, by kernel_rfl, by kernel_rfl, by kernel_rfl, by kernel_rfl, by rfl, by rfl, by decide⟩
theorem ti27 : TI.ok 27 ⟨false, false, 1, [.slice none 0 0], [], none, some 4, 24⟩ := ⟨by kernel_rfl, by kernel_rfl, by kernel_rfl, by kernel_rfl, by kernel_rfl, by kernel_rfl, by rfl, by rfl, by decide⟩
theorem ti28 : TI.ok 28 ⟨false, false, 1, [.int .i64 0], [], some .i64, none, 8⟩ := ⟨by kernel_rfl, by kernel_rfl, by kernel_rfl, by kernel_rfl, by kernel_rfl, by kernel_rfl, by rfl, by rfl, by decide⟩
theorem ti32 : TI.ok 32 ⟨true, true, 2, [.int .i64 0, .int .i64 0], [(0, 1, false), (1, 1, false)], none, none, 16⟩ := ⟨by kernel_rfl, by kernel_rfl, by kernel_rfl, by kernel_rfl, by kernel_rfl, by kernel_rfl, by rfl, by rfl, by decide⟩
theorem ti34 : TI.ok 34 ⟨false, false, 1, [.slice none 0 0], [], none, some 9, 24⟩ := ⟨by kernel_rfl, by kernel_rfl, by kernel_rfl, by kernel_rfl, by kernel_rfl, by kernel_rfl, by rfl, by rfl, by decide⟩
theorem ti36 : TI.ok 36 ⟨false, false, 1, [.slice none 0 0], [], none, some 41, 24⟩ := ⟨by kernel_rfl, by kernel_rfl, by kernel_rfl, by kernel_rfl, by kernel_rfl, by kernel_rfl, by rfl, by rfl, by decide⟩
theorem ti37 : TI.ok 37 ⟨false, false, 1, [.slice none 0 0], [], none, some 3, 24⟩ := ⟨by kernel_rfl, by kernel_rfl, by kernel_rfl, by kernel_rfl, by kernel_rfl, by kernel_rfl, by rfl, by rfl, by decide⟩
theorem ti39 : TI.ok 39 ⟨true, true, 2, [.int .i64 0, .slice none 0 0], [(0, 1, false), (1, 1, false)], none, none, 32⟩ := ⟨by kernel_rfl, by kernel_rfl, by kernel_rfl, by kernel_rfl, by kernel_rfl, by kernel_rfl, by rfl, by rfl, by decide⟩
theorem ti41 : TI.ok 41 ⟨true, true, 4, [.int .i64 0, .int .i64 0, .int .i64 0, .slice none 0 0], [(0, 1, false), (1, 1, false), (2, 1, false), (3, 1, false)], none, none, 48⟩ := ⟨by kernel_rfl, by kernel_rfl, by kernel_rfl, by kernel_rfl, by kernel_rfl, by kernel_rfl, by rfl, by rfl, by decide⟩
theorem ti51 : TI.ok 51 ⟨false, false, 1, [.slice none 0 0], [], none, some 37, 24⟩ := ⟨by kernel_rfl, by kernel_rfl, by kernel_rfl, by kernel_rfl, by kernel_rfl, by kernel_rfl, by rfl, by rfl, by decide⟩
theorem ti53 : TI.ok 53 ⟨true, true, 4, [.int .i64 0, .int .i64 0, .slice none 0 0, .slice none 0 0], [(0, 1, false), (1, 1, false), (2, 1, false), (3, 1, false)], none, none, 64⟩ := ⟨by kernel_rfl, by kernel_rfl, by kernel_rfl, by kernel_rfl, by kernel_rfl, by kernel_rfl, by rfl, by rfl, by decide⟩
theorem ti55 : TI.ok 55 ⟨false, false, 1, [.slice none 0 0], [], none, some 59, 24⟩ := ⟨by kernel_rfl, by kernel_rfl, by kernel_rfl, by kernel_rfl, by kernel_rfl, by kernel_rfl, by rfl, by rfl, by decide⟩
theorem ti59 : TI.ok 59 ⟨true, true, 8, [.bool false, .slice none 0 0, .bool false, .int .i64 0, .int .i64 0, .slice none 0 0, .slice none 0 0, .bool false], [(0, 1, false), (1, 1, false), (2, 1, false), (3, 4, true), (7, 1, false)], none, none, 112⟩ := ⟨by kernel_rfl, by kernel_rfl, by kernel_rfl, by kernel_rfl, by kernel_rfl, by kernel_rfl, by rfl, by rfl, by decide⟩
theorem ti63 : TI.ok 63 ⟨false, false, 1, [.pointer none], [], none, none, 8⟩ := ⟨by kernel_rfl, by kernel_rfl, by kernel_rfl, by kernel_rfl, by kernel_rfl, by kernel_rfl, by rfl, by rfl, by decide⟩
theorem ti66 : TI.ok 66 ⟨false, false, 1, [.pointer none], [], none, none, 8⟩ := ⟨by kernel_rfl, by kernel_rfl, by kernel_rfl, by kernel_rfl, by kernel_rfl, by kernel_rfl, by rfl, by rfl, by decide⟩
theorem ti72 : TI.ok 72 ⟨false, false, 1, [.slice none 0 0], [], none, some 76, 24⟩ := ⟨by kernel_rfl, by kernel_rfl, by kernel_rfl, by kernel_rfl, by kernel_rfl, by kernel_rfl, by rfl, by rfl, by decide⟩
theorem ti74 : TI.ok 74 ⟨false, false, 1, [.slice none 0 0], [], none, some 79, 24⟩ := ⟨by kernel_rfl, by kernel_rfl, by kernel_rfl, by kernel_rfl, by kernel_rfl, by kernel_rfl, by rfl, by rfl, by decide⟩
theorem ti76 : TI.ok 76 ⟨true, true, 3, [.int .i64 0, .int .i64 0, .slice none 0 0], [(0, 1, false), (1, 1, false), (2, 1, false)], none, none, 40⟩ := ⟨by kernel_rfl, by kernel_rfl, by kernel_rfl, by kernel_rfl, by kernel_rfl, by kernel_rfl, by rfl, by rfl, by decide⟩
theorem ti79 : TI.ok 79 ⟨true, true, 3, [.int .i64 0, .int .i64 0, .int .i64 0], [(0, 1, false), (1, 1, false), (2, 1, false)], none, none, 24⟩ := ⟨by kernel_rfl, by kernel_rfl, by kernel_rfl, by kernel_rfl, by kernel_rfl, by kernel_rfl, by rfl, by rfl, by decide⟩
theorem ti83 : TI.ok 83 ⟨false, false, 1, [.pointer none], [], none, none, 8⟩ := ⟨by kernel_rfl, by kernel_rfl, by kernel_rfl, by kernel_rfl, by kernel_rfl, by kernel_rfl, by rfl, by rfl, by decide⟩
theorem ti92 : TI.ok 92 ⟨false, false, 1, [.pointer none], [], none, none, 8⟩ := ⟨by kernel_rfl, by kernel_rfl, by kernel_rfl, by kernel_rfl, by kernel_rfl, by kernel_rfl, by rfl, by rfl, by decide⟩
theorem ti94 : TI.ok 94 ⟨true, true, 5, [.int .i64 0, .int .i64 0, .slice none 0 0, .slice none 0 0, .slice none 0 0], [(0, 4, true), (4, 1, false)], none, none, 88⟩ := ⟨by kernel_rfl, by kernel_rfl, by kernel_rfl, by kernel_rfl, by kernel_rfl, by kernel_rfl, by rfl, by rfl, by decide⟩
theorem ti95 : TI.ok 95 ⟨false, false, 1, [.map none], [], none, none, 8⟩ := ⟨by kernel_rfl, by kernel_rfl, by kernel_rfl, by kernel_rfl, by kernel_rfl, by kernel_rfl, by rfl, by rfl, by decide⟩
theorem ti97 : TI.ok 97 ⟨true, true, 5, [.pointer none, .int .i64 0, .slice none 0 0, .slice none 0 0, .map none], [(0, 1, false), (1, 1, false), (2, 1, false), (3, 1, false), (4, 1, false)], none, none, 72⟩ := ⟨by kernel_rfl, by kernel_rfl, by kernel_rfl, by kernel_rfl, by kernel_rfl, by kernel_rfl, by rfl, by rfl, by decide⟩
theorem ti103 : TI.ok 103 ⟨false, false, 1, [.nilFunc], [], none, none, 8⟩ := ⟨by kernel_rfl, by kernel_rfl, by kernel_rfl, by kernel_rfl, by kernel_rfl, by kernel_rfl, by rfl, by rfl, by decide⟩
theorem ti108 : TI.ok 108 ⟨true, true, 2, [.int .i64 0, .int .i64 0], [(0, 2, true)], none, none, 16⟩ := ⟨by kernel_rfl, by kernel_rfl, by kernel_rfl, by kernel_rfl, by kernel_rfl, by kernel_rfl, by rfl, by rfl, by decide⟩
theorem ti111 : TI.ok 111 ⟨true, true, 4, [.string ByteArray.empty, .int .i64 0, .int .i64 0, .int .i64 0], [(0, 1, false), (1, 1, false), (2, 1, false), (3, 1, false)], none, none, 40⟩ := ⟨by kernel_rfl, by kernel_rfl, by kernel_rfl, by kernel_rfl, by kernel_rfl, by kernel_rfl, by rfl, by rfl, by decide⟩
theorem ti115 : TI.ok 115 ⟨true, true, 4, [.int .i64 0, .int .i64 0, .slice none 0 0, .slice none 0 0], [(0, 3, true), (3, 1, false)], none, none, 64⟩ := ⟨by kernel_rfl, by kernel_rfl, by kernel_rfl, by kernel_rfl, by kernel_rfl, by kernel_rfl, by rfl, by rfl, by decide⟩
theorem ti117 : TI.ok 117 ⟨false, false, 1, [.slice none 0 0], [], none, some 63, 24⟩ := ⟨by kernel_rfl, by kernel_rfl, by kernel_rfl, by kernel_rfl, by kernel_rfl, by kernel_rfl, by rfl, by rfl, by decide⟩
theorem ti119 : TI.ok 119 ⟨true, true, 4, [.int .u8 0, .bool false, .int .i64 0, .slice none 0 0], [(0, 1, false), (1, 1, false), (2, 1, false), (3, 1, false)], none, none, 40⟩ := ⟨by kernel_rfl, by kernel_rfl, by kernel_rfl, by kernel_rfl, by kernel_rfl, by kernel_rfl, by rfl, by rfl, by decide⟩
theorem ti124 : TI.ok 124 ⟨false, false, 1, [.slice none 0 0], [], none, some 39, 24⟩ := ⟨by kernel_rfl, by kernel_rfl, by kernel_rfl, by kernel_rfl, by kernel_rfl, by kernel_rfl, by rfl, by rfl, by decide⟩
theorem ti125 : TI.ok 125 ⟨false, false, 1, [.map none], [], none, none, 8⟩ := ⟨by kernel_rfl, by kernel_rfl, by kernel_rfl, by kernel_rfl, by kernel_rfl, by kernel_rfl, by rfl, by rfl, by decide⟩
theorem ti127 : TI.ok 127 ⟨true, true, 3, [.int .i64 0, .slice none 0 0, .map none], [(0, 2, true), (2, 1, false)], none, none, 40⟩ := ⟨by kernel_rfl, by kernel_rfl, by kernel_rfl, by kernel_rfl, by kernel_rfl, by kernel_rfl, by rfl, by rfl, by decide⟩
theorem ti129 : TI.ok 129 ⟨true, true, 3, [.int .i64 0, .int .i64 0, .slice none 0 0], [(0, 1, false), (1, 1, false), (2, 1, false)], none, none, 40⟩ := ⟨by kernel_rfl, by kernel_rfl, by kernel_rfl, by kernel_rfl, by kernel_rfl, by kernel_rfl, by rfl, by rfl, by decide⟩
theorem ti131 : TI.ok 131 ⟨false, false, 1, [.map none], [], none, none, 8⟩ := ⟨by kernel_rfl, by kernel_rfl, by kernel_rfl, by kernel_rfl, by kernel_rfl, by kernel_rfl, by rfl, by rfl, by decide⟩
theorem ti136 : TI.ok 136 ⟨false, false, 1, [.nilFunc], [], none, none, 8⟩ := ⟨by kernel_rfl, by kernel_rfl, by kernel_rfl, by kernel_rfl, by kernel_rfl, by kernel_rfl, by rfl, by rfl, by decide⟩
theorem ti140 : TI.ok 140 ⟨true, true, 2, [.int .i64 0, .int .i64 0], [(0, 2, true)], none, none, 16⟩ := ⟨by kernel_rfl, by kernel_rfl, by kernel_rfl, by kernel_rfl, by kernel_rfl, by kernel_rfl, by rfl, by rfl, by decide⟩
theorem ti141 : TI.ok 141 ⟨false, false, 1, [.pointer none], [], none, none, 8⟩ := ⟨by kernel_rfl, by kernel_rfl, by kernel_rfl, by kernel_rfl, by kernel_rfl, by kernel_rfl, by rfl, by rfl, by decide⟩
theorem ti142 : TI.ok 142 ⟨false, false, 1, [.slice none 0 0], [], none, some 236, 24⟩ := ⟨by kernel_rfl, by kernel_rfl, by kernel_rfl, by kernel_rfl, by kernel_rfl, by kernel_rfl, by rfl, by rfl, by decide⟩
theorem ti144 : TI.ok 144 ⟨true, true, 5, [.string ByteArray.empty, .int .i64 0, .int .i64 0, .int .i64 0, .slice none 0 0], [(0, 1, false), (1, 1, false), (2, 1, false), (3, 1, false), (4, 1, false)], none, none, 64⟩ := ⟨by kernel_rfl, by kernel_rfl, by kernel_rfl, by kernel_rfl, by kernel_rfl, by kernel_rfl, by rfl, by rfl, by decide⟩
theorem ti146 : TI.ok 146 ⟨false, false, 1, [.slice none 0 0], [], none, some 27, 24⟩ := ⟨by kernel_rfl, by kernel_rfl, by kernel_rfl, by kernel_rfl, by kernel_rfl, by kernel_rfl, by rfl, by rfl, by decide⟩
theorem ti147 : TI.ok 147 ⟨false, false, 1, [.slice none 0 0], [], none, some 83, 24⟩ := ⟨by kernel_rfl, by kernel_rfl, by kernel_rfl, by kernel_rfl, by kernel_rfl, by kernel_rfl, by rfl, by rfl, by decide⟩
theorem ti149 : TI.ok 149 ⟨true, true, 3, [.int .u8 0, .int .i64 0, .slice none 0 0], [(0, 1, false), (1, 1, false), (2, 1, false)], none, none, 40⟩ := ⟨by kernel_rfl, by kernel_rfl, by kernel_rfl, by kernel_rfl, by kernel_rfl, by kernel_rfl, by rfl, by rfl, by decide⟩
theorem ti153 : TI.ok 153 ⟨false, false, 1, [.pointer none], [], none, none, 8⟩ := ⟨by kernel_rfl, by kernel_rfl, by kernel_rfl, by kernel_rfl, by kernel_rfl, by kernel_rfl, by rfl, by rfl, by decide⟩
theorem ti158 : TI.ok 158 ⟨false, false, 1, [.pointer none], [], none, none, 8⟩ := ⟨by kernel_rfl, by kernel_rfl, by kernel_rfl, by kernel_rfl, by kernel_rfl, by kernel_rfl, by rfl, by rfl, by decide⟩
theorem ti162 : TI.ok 162 ⟨true, true, 2, [.slice none 0 0, .slice none 0 0], [(0, 1, false), (1, 1, false)], none, none, 48⟩ := ⟨by kernel_rfl, by kernel_rfl, by kernel_rfl, by kernel_rfl, by kernel_rfl, by kernel_rfl, by rfl, by rfl, by decide⟩
theorem ti180 : TI.ok 180 ⟨false, false, 1, [.int .u64 0], [], some .u64, none, 8⟩ := ⟨by kernel_rfl, by kernel_rfl, by kernel_rfl, by kernel_rfl, by kernel_rfl, by kernel_rfl, by rfl, by rfl, by decide⟩
theorem ti184 : TI.ok 184 ⟨true, true, 2, [.int .i64 0, .int .i64 0], [(0, 2, true)], none, none, 16⟩ := ⟨by kernel_rfl, by kernel_rfl, by kernel_rfl, by kernel_rfl, by kernel_rfl, by kernel_rfl, by rfl, by rfl, by decide⟩
theorem ti187 : TI.ok 187 ⟨true, true, 3, [.string ByteArray.empty, .int .i64 0, .int .i64 0], [(0, 1, false), (1, 1, false), (2, 1, false)], none, none, 32⟩ := ⟨by kernel_rfl, by kernel_rfl, by kernel_rfl, by kernel_rfl, by kernel_rfl, by kernel_rfl, by rfl, by rfl, by decide⟩
theorem ti191 : TI.ok 191 ⟨true, true, 3, [.bool false, .slice none 0 0, .slice none 0 0], [(0, 1, false), (1, 1, false), (2, 1, false)], none, none, 56⟩ := ⟨by kernel_rfl, by kernel_rfl, by kernel_rfl, by kernel_rfl, by kernel_rfl, by kernel_rfl, by rfl, by rfl, by decide⟩
theorem ti193 : TI.ok 193 ⟨false, false, 1, [.map none], [], none, none, 8⟩ := ⟨by kernel_rfl, by kernel_rfl, by kernel_rfl, by kernel_rfl, by kernel_rfl, by kernel_rfl, by rfl, by rfl, by decide⟩
theorem ti198 : TI.ok 198 ⟨true, false, 2, [.int .i64 0, .int .i64 0], [(0, 1, false), (1, 1, false)], none, none, 16⟩ := ⟨by kernel_rfl, by kernel_rfl, by kernel_rfl, by kernel_rfl, by kernel_rfl, by kernel_rfl, by rfl, by rfl, by decide⟩
theorem ti201 : TI.ok 201 ⟨false, false, 1, [.pointer none], [], none, none, 8⟩ := ⟨by kernel_rfl, by kernel_rfl, by kernel_rfl, by kernel_rfl, by kernel_rfl, by kernel_rfl, by rfl, by rfl, by decide⟩
theorem ti202 : TI.ok 202 ⟨false, false, 1, [.slice none 0 0], [], none, some 5, 24⟩ := ⟨by kernel_rfl, by kernel_rfl, by kernel_rfl, by kernel_rfl, by kernel_rfl, by kernel_rfl, by rfl, by rfl, by decide⟩
theorem ti204 : TI.ok 204 ⟨true, true, 2, [.pointer none, .slice none 0 0], [(0, 1, false), (1, 1, false)], none, none, 32⟩ := ⟨by kernel_rfl, by kernel_rfl, by kernel_rfl, by kernel_rfl, by kernel_rfl, by kernel_rfl, by rfl, by rfl, by decide⟩
theorem ti210 : TI.ok 210 ⟨false, false, 1, [.int .u32 0], [], some .u32, none, 4⟩ := ⟨by kernel_rfl, by kernel_rfl, by kernel_rfl, by kernel_rfl, by kernel_rfl, by kernel_rfl, by rfl, by rfl, by decide⟩
theorem ti213 : TI.ok 213 ⟨false, false, 1, [.int .u64 0], [], some .u64, none, 8⟩ := ⟨by kernel_rfl, by kernel_rfl, by kernel_rfl, by kernel_rfl, by kernel_rfl, by kernel_rfl, by rfl, by rfl, by decide⟩
theorem ti216 : TI.ok 216 ⟨false, false, 1, [.slice none 0 0], [], none, some 153, 24⟩ := ⟨by kernel_rfl, by kernel_rfl, by kernel_rfl, by kernel_rfl, by kernel_rfl, by kernel_rfl, by rfl, by rfl, by decide⟩
theorem ti218 : TI.ok 218 ⟨true, true, 3, [.int .i64 0, .int .i64 0, .slice none 0 0], [(0, 1, false), (1, 1, false), (2, 1, false)], none, none, 40⟩ := ⟨by kernel_rfl, by kernel_rfl, by kernel_rfl, by kernel_rfl, by kernel_rfl, by kernel_rfl, by rfl, by rfl, by decide⟩
theorem ti222 : TI.ok 222 ⟨false, false, 1, [.map none], [], none, none, 8⟩ := ⟨by kernel_rfl, by kernel_rfl, by kernel_rfl, by kernel_rfl, by kernel_rfl, by kernel_rfl, by rfl, by rfl, by decide⟩
theorem ti224 : TI.ok 224 ⟨true, true, 2, [.int .i64 0, .string ByteArray.empty], [(0, 1, false), (1, 1, false)], none, none, 24⟩ := ⟨by kernel_rfl, by kernel_rfl, by kernel_rfl, by kernel_rfl, by kernel_rfl, by kernel_rfl, by rfl, by rfl, by decide⟩
theorem ti225 : TI.ok 225 ⟨false, false, 1, [.slice none 0 0], [], none, some 53, 24⟩ := ⟨by kernel_rfl, by kernel_rfl, by kernel_rfl, by kernel_rfl, by kernel_rfl, by kernel_rfl, by rfl, by rfl, by decide⟩
theorem ti226 : TI.ok 226 ⟨false, false, 1, [.map none], [], none, none, 8⟩ := ⟨by kernel_rfl, by kernel_rfl, by kernel_rfl, by kernel_rfl, by kernel_rfl, by kernel_rfl, by rfl, by rfl, by decide⟩
theorem ti227 : TI.ok 227 ⟨false, false, 1, [.slice none 0 0], [], none, some 198, 24⟩ := ⟨by kernel_rfl, by kernel_rfl, by kernel_rfl, by kernel_rfl, by kernel_rfl, by kernel_rfl, by rfl, by rfl, by decide⟩
theorem ti228 : TI.ok 228 ⟨false, false, 1, [.pointer none], [], none, none, 8⟩ := ⟨by kernel_rfl, by kernel_rfl, by kernel_rfl, by kernel_rfl, by kernel_rfl, by kernel_rfl, by rfl, by rfl, by decide⟩
theorem ti236 : TI.ok 236 ⟨true, true, 2, [.int .u8 0, .bool false], [(0, 1, false), (1, 1, false)], none, none, 2⟩ := ⟨by kernel_rfl, by kernel_rfl, by kernel_rfl, by kernel_rfl, by kernel_rfl, by kernel_rfl, by rfl, by rfl, by decide⟩
theorem tab_ok : tab.ok := tabL_ok fun x hx => by
 simp only [tabs, List.mem_cons, List.not_mem_nil, or_false] at hx
 rcases hx with rfl | rfl | rfl | rfl | rfl | rfl | rfl | rfl | rfl | rfl | rfl | rfl | rfl | rfl | rfl | rfl | rfl | rfl | rfl | rfl | rfl | rfl | rfl | rfl | rfl | rfl | rfl | rfl | rfl | rfl | rfl | rfl | rfl | rfl | rfl | rfl | rfl | rfl | rfl | rfl | rfl | rfl | rfl | rfl | rfl | rfl | rfl | rfl | rfl | rfl | rfl | rfl | rfl | rfl | rfl | rfl | rfl | rfl | rfl | rfl | rfl | rfl | rfl | rfl | rfl | rfl | rfl | rfl | rfl | rfl | rfl | rfl | rfl
 ·exact ti3
 ·exact ti4
 ·exact ti5
 ·exact ti9
 ·exact ti21
 ·exact ti22
 ·exact ti24
 ·exact ti26
 ·exact ti27
 ·exact ti28
 ·exact ti32
 ·exact ti34
 ·exact ti36
 ·exact ti37
 ·exact ti39
 ·exact ti41
 ·exact ti51
 ·exact ti53
 ·exact ti55
 ·exact ti59
 ·exact ti63
 ·exact ti66
 ·exact ti72
 ·exact ti74
 ·exact ti76
 ·exact ti79
 ·exact ti83
 ·exact ti92
 ·exact ti94
 ·exact ti95
 ·exact ti97
 ·exact ti103
 ·exact ti108
 ·exact ti111
 ·exact ti115
 ·exact ti117
 ·exact ti119
 ·exact ti124
 ·exact ti125
 ·exact ti127
 ·exact ti129
 ·exact ti131
 ·exact ti136
 ·exact ti140
 ·exact ti141
 ·exact ti142
 ·exact ti144
 ·exact ti146
 ·exact ti147
 ·exact ti149
 ·exact ti153
 ·exact ti158
 ·exact ti162
 ·exact ti180
 ·exact ti184
 ·exact ti187
 ·exact ti191
 ·exact ti193
 ·exact ti198
 ·exact ti201
 ·exact ti202
 ·exact ti204
 ·exact ti210
 ·exact ti213
 ·exact ti216
 ·exact ti218
 ·exact ti222
 ·exact ti224
 ·exact ti225
 ·exact ti226
 ·exact ti227
 ·exact ti228
 ·exact ti236
def StackEdge.enc (k : StackEdge) : Value := .agg #[.int .i64 k.fFrom, .int .i64 k.fSign, .int .i64 k.fTo]
def DetSplit.enc (k : DetSplit) : Value := .agg #[.int .i64 k.fOwn, .string k.fNext]
def DetCouple.enc (k : DetCouple) : Value := .agg #[.int .i64 k.fE0, .int .i64 k.fE1]
end Go.Proofs.Ytiejmeedkhkfgaa

