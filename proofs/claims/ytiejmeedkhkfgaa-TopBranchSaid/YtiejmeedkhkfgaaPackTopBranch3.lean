/- Lemmas towards the statement: mirrors of functions, and plain laws. No condition. -/
import Derived.Laws.CopyRow
import Derived.Laws.IdiomCopy
import Derived.Recover
import Derived.Laws.BytesString
import Derived.RangeFuncIn
import Derived.RangeFuncLeaves
import Derived.RangeFuncRecord
import Derived.TacticsIn
import Derived.Laws.BitsLemmas
import Derived.ArgAppend
import Derived.Test.YtiejmeedkhkfgaaPackTopBranch2
namespace Go.Proofs.Ytiejmeedkhkfgaa
open Go.RowKit Go.MapKept
set_option linter.unusedSimpArgs false
set_option linter.unusedVariables false
set_option maxRecDepth 100000
def At.keepG (i j : Nat) : At → Bool
 | .gs k q => !(Nat.beq k j) && (!(Nat.beq k i) || Nat.beq q 0)
 | .ge k q _ _ => !(Nat.beq k j) && (!(Nat.beq k i) || Nat.beq q 0)
 | a => a.refs.all fun k => !(Nat.beq k j) && !(Nat.beq k i)
def SV.keepG (i j : Nat) : SV → Bool
 | .one a => a.keepG i j
 | .agg l => l.all (·.keepG i j)
def SC.keepG (i j : Nat) : SC → Bool
 | .sv s => s.keepG i j
 | .tup l => l.all (·.keepG i j)
def Item.keepG (i j : Nat) : Item → Bool
 | .box cells _ _ => cells.all (·.keepG i j)
 | .iter k _ => !(Nat.beq k j) && !(Nat.beq k i)
 | .grid _ _ _ _ (some (_, k)) => !(Nat.beq k j) && !(Nat.beq k i)
 | _ => true
def dropG (i j : Nat) (F : List (Nat × SC)) : List (Nat × SC) := F.filter fun e => e.2.keepG i j
theorem beq_ne {a b : Nat} (h : (!(Nat.beq a b)) = true) : a ≠ b := fun e => by subst e; simp at h
section
variable {g : Gh} {hs hs' : Nat → Value} {i j : Nat}
theorem At.keepG_ok (h0 : gpart (hs' i) 0 = gpart (hs i) 0) (h1 : ∀ k, k ≠ i → k ≠ j → hs' k = hs k) {a : At} {u : Value} (hk : a.keepG i j = true) (h : a.ok g hs u) : a.ok g hs' u := by
 have gen : ∀ a : At, (a.refs.all fun k => !(Nat.beq k j) && !(Nat.beq k i)) = true → a.ok g hs u → a.ok g hs' u := fun a hk h => At.ok_hs (fun k hk' => by
  have := List.all_eq_true.1 hk k hk'
  rw [Bool.and_eq_true] at this
  exact h1 k (beq_ne this.2) (beq_ne this.1)) h
 have gp : ∀ k q, (!(Nat.beq k j) && (!(Nat.beq k i) || Nat.beq q 0)) = true → gpart (hs' k) q = gpart (hs k) q := fun k q hk => by
  rw [Bool.and_eq_true, Bool.or_eq_true] at hk
  by_cases e : k = i
  ·subst e
   rcases hk.2 with h2 | h2
   ·exact absurd rfl (beq_ne h2)
   ·have := Nat.eq_of_beq_eq_true h2
    subst this
    exact h0
  ·rw [h1 k e (beq_ne hk.1)]
 cases a with
 | gs k q =>
  obtain ⟨h2, h3⟩ := h
  refine ⟨?_, h3⟩
  show u = gpart (hs' k) q
  rw [gp k q hk]
  exact h2
 | ge k q m s =>
  obtain ⟨⟨b, o, n, cap, h2, h3⟩, h4⟩ := h
  exact ⟨⟨b, o, n, cap, by rw [gp k q hk]; exact h2, h3⟩, h4⟩
 | _ => exact gen _ hk h
theorem oks_keepG (h0 : gpart (hs' i) 0 = gpart (hs i) 0) (h1 : ∀ k, k ≠ i → k ≠ j → hs' k = hs k) : ∀ {l : List At} {us : List Value}, l.all (·.keepG i j) = true → oks g hs l us → oks g hs' l us
 | [], [], _, _ => trivial
 | [], _ :: _, _, h => h.elim
 | _ :: _, [], _, h => h.elim
 | _ :: _, _ :: _, hk, h => by
  rw [List.all_cons, Bool.and_eq_true] at hk
  exact ⟨At.keepG_ok h0 h1 hk.1 h.1, h.2.1, oks_keepG h0 h1 hk.2 h.2.2⟩
theorem SV.keepG_ok (h0 : gpart (hs' i) 0 = gpart (hs i) 0) (h1 : ∀ k, k ≠ i → k ≠ j → hs' k = hs k) {a : SV} {u : Value} (hk : a.keepG i j = true) (h : a.ok g hs u) : a.ok g hs' u := by
 cases a with
 | one a => exact At.keepG_ok h0 h1 hk h
 | agg l =>
  obtain ⟨cs, h2, h3⟩ := h
  exact ⟨cs, h2, oks_keepG h0 h1 hk h3⟩
theorem svs_keepG (h0 : gpart (hs' i) 0 = gpart (hs i) 0) (h1 : ∀ k, k ≠ i → k ≠ j → hs' k = hs k) : ∀ {l : List SV} {us : List Value}, l.all (·.keepG i j) = true → SV.oks g hs l us → SV.oks g hs' l us
 | [], [], _, _ => trivial
 | [], _ :: _, _, h => h.elim
 | _ :: _, [], _, h => h.elim
 | _ :: _, _ :: _, hk, h => by
  rw [List.all_cons, Bool.and_eq_true] at hk
  exact ⟨SV.keepG_ok h0 h1 hk.1 h.1, svs_keepG h0 h1 hk.2 h.2⟩
theorem SC.keepG_ok (h0 : gpart (hs' i) 0 = gpart (hs i) 0) (h1 : ∀ k, k ≠ i → k ≠ j → hs' k = hs k) {a : SC} {u : Value} (hk : a.keepG i j = true) (h : a.ok g hs u) : a.ok g hs' u := by
 cases a with
 | sv s => exact SV.keepG_ok h0 h1 hk h
 | tup l =>
  obtain ⟨us, h2, h3⟩ := h
  exact ⟨us, h2, svs_keepG h0 h1 hk h3⟩
theorem Item.keepG_ok (h0 : gpart (hs' i) 0 = gpart (hs i) 0) (h1 : ∀ k, k ≠ i → k ≠ j → hs' k = hs k) {w : World} {x : Value} {it : Item} (hk : it.keepG i j = true) (h : it.ok g hs w x) : it.ok g hs' w x := by
 cases it with
 | box cells ty fz =>
  obtain ⟨b, cs, h2, h3, h4⟩ := h
  exact ⟨b, cs, h2, oks_keepG h0 h1 hk h3, h4⟩
 | iter k r =>
  obtain ⟨rb, m, clock, seen, h2, h3, h4⟩ := h
  rw [Item.keepG, Bool.and_eq_true] at hk
  exact ⟨rb, m, clock, seen, h2, (h1 k (beq_ne hk.2) (beq_ne hk.1)).trans h3, h4⟩
 | grid tyo ty s rows link =>
  obtain ⟨us, ocs, u1, u2, u3, u4, u5, u6, u7, u8⟩ := h
  refine ⟨us, ocs, u1, u2, u3, u4, u5, u6, fun p k hl => ?_, u8⟩
  subst hl
  rw [Item.keepG, Bool.and_eq_true] at hk
  rw [h1 k (beq_ne hk.2) (beq_ne hk.1)]
  exact u7 p k rfl
 | _ => exact h
end
def rawT : Ty Value := ⟨1, fun v => .one (.v v)⟩
theorem rawT_solid : rawT.solid := fun a e => by cases e
theorem raw_cells {g : Gh} {l cs : List Value} (h : rowRead rawT l g cs) : cs = l := by
 obtain ⟨us, rfl, h2, h3⟩ := h
 induction us generalizing l with
 | nil => cases l with
  | nil => rfl
  | cons _ _ => simp at h2
 | cons u us ih =>
  cases l with
  | nil => simp at h2
  | cons v l =>
   obtain ⟨⟨h4, h5⟩, _⟩ := h3 0 u v rfl rfl
   have h4 : u = v := h4
   subst h4
   rw [List.flatMap_cons, cellV.cells h5, ih (by simpa using h2) fun q x y hx hy => h3 (q + 1) x y (by simpa using hx) (by simpa using hy)]
   rfl
theorem raw_read {g : Gh} {l : List Value} (h : ∀ u ∈ l, ∃ ao m cap, u = .slice ao m cap) : rowRead rawT l g l := by
 have hc : ∀ u ∈ l, cellV u := fun u hu => by obtain ⟨_, _, _, rfl⟩ := h u hu; trivial
 clear h
 refine ⟨l, ?_, rfl, fun q u v hu hv => ?_⟩
 ·induction l with
  | nil => rfl
  | cons u l ih =>
   rw [List.flatMap_cons, cellV.cells (hc u List.mem_cons_self), ← ih fun x hx => hc x (List.mem_cons_of_mem _ hx)]
   rfl
 ·rw [hu] at hv
  cases hv
  have h1 := hc u (List.mem_of_getElem? hu)
  exact ⟨⟨rfl, h1⟩, by rw [cellV.cells h1]; rfl⟩
theorem gpart_set_same {us : List Value} {k : Nat} {v : Value} (h : k < us.length) : gpart (.tuple (us.set k v).toArray) k = v := by
 show (us.set k v).getD k undef = v
 simp [h]
theorem gpart_set_ne {us : List Value} {k q : Nat} {v : Value} (h : q ≠ k) : gpart (.tuple (us.set k v).toArray) q = gpart (.tuple us.toArray) q := by
 show (us.set k v).getD q undef = us.getD q undef
 simp [List.getD_eq_getElem?_getD, List.getElem?_set, Ne.symm h]
theorem Blk_set {us : List Value} {k b : Nat} {v : Value} (h : Blk (.tuple (us.set k v).toArray) b) : Blk (.tuple us.toArray) b ∨ blk v = some b := by
 obtain ⟨u, hu, e⟩ := h
 rcases List.mem_or_eq_of_mem_set hu with h1 | h1
 ·exact .inl ⟨u, h1, e⟩
 ·exact .inr (h1 ▸ e)
section
variable {c : Cfg} {S S1 : St} {a : Act} {w : World} {g : Gh} {hs : Nat → Value} {tab : Tab} {n : Nat} {o : Oper} {ops : Array Oper} {rest : List Oper} {N : Po}
theorem Ok'.putG (h : Ok' c S a w g hs) {i j p tyo ty s m : Nat} {rows : List (Option (Rl (List Value) × Nat))} {link : Option (Nat × Nat)} {r : Rl (List Value)} (hm : S.M[i]? = some (.grid tyo ty s rows link)) (hj : S.M[j]? = some (.row ty s r m)) (hp : p < rows.length)
  {b of nn cap : Nat} (e1 : gpart (hs i) 0 = .slice (some ⟨b, of, none⟩) nn cap) {t : Nat} {ti : TI} (htk : TI.ok t ti) (hts : ti.size = 1) (hkM : S.M.all (·.keepG i j) = true) :
  ∃ w' hs', (Instr.storeAt t (.pointer (some ⟨b, of + p * 1, none⟩)) (hs j)).run Try.prog w = .ok () w' ∧ Ok' c ⟨dropG i j S.F, (S.M.set i (.grid tyo ty s (rows.set p (some (r, m))) none)).set j .gone⟩ a w' g hs' := by
 have hij : i ≠ j := fun e => by subst e; rw [hm] at hj; cases hj
 have hit := h.items i _ hm
 obtain ⟨csj, hcj, hrj⟩ := h.items j _ hj
 obtain ⟨us, ocs, u1, u2, u3, u3', u4, u4', uk, u5⟩ := hit
 have hlo : ocs.length = rows.length := by have := u3.1; omega
 have hslj := own_slice hcj
 have hcvj : cellV (hs j) := by obtain ⟨_, _, e⟩ := hslj; rw [e]; trivial
 have hcj1 := cellV.cells hcvj
 rw [← hlo] at u3
 obtain ⟨w', k1, k2, cs', k3, k4⟩ := run_storeOwn (T := rawT) (l := ocs) (y := hs j) (k := p) (g := g) (t := t) (nn := nn) (cap := cap) (pv := .pointer (some ⟨b, of + p * 1, none⟩)) htk (by rw [hts]; rfl) rawT_solid u3 (raw_read u3') e1 rfl (by omega) ⟨rfl, hcvj⟩ rfl
 have := raw_cells k4
 subst this
 have hbi : Blk (hs i) b := Blk.part u1 (k := 0) (by omega) (by rw [e1]; rfl)
 have hl0 : p + 1 < us.length := by omega
 let hs' : Nat → Value := fun k => if k = i then .tuple (us.set (p + 1) (hs j)).toArray else hs k
 have hsi : hs' i = .tuple (us.set (p + 1) (hs j)).toArray := if_pos rfl
 have hsk : ∀ k, k ≠ i → hs' k = hs k := fun k hk => if_neg hk
 have hg0 : gpart (hs' i) 0 = gpart (hs i) 0 := by rw [hsi, gpart_set_ne (by omega), u1]
 have hgp : gpart (hs' i) (p + 1) = hs j := by rw [hsi, gpart_set_same hl0]
 have hgq : ∀ q, q ≠ p + 1 → gpart (hs' i) q = gpart (hs i) q := fun q hq => by rw [hsi, gpart_set_ne hq, u1]
 have hbj : ∀ b', blk (hs j) = some b' → ¬ Blk (hs i) b' := fun b' e => h.sep j i _ _ (Ne.symm hij) hj hm rfl (by simp) b' (Blk.of e)
 have hbs : ∀ b', Blk (hs' i) b' → Blk (hs i) b' ∨ blk (hs j) = some b' := fun b' hb => by
  rw [hsi] at hb
  rw [u1]
  exact Blk_set hb
 have hne : ∀ q, q < us.length → q ≠ 0 → (gpart (hs i) q).ownBlock = none ∨ (gpart (hs i) q).ownBlock ≠ some b := fun q hq hq0 => by
  cases hb : (gpart (hs i) q).ownBlock with
  | none => exact .inl rfl
  | some b' => exact .inr (fun e => by cases e; exact u5 0 q b (by omega) hq (fun e => hq0 e.symm) (by rw [e1]; rfl) (ownBlock_blk' hb))
 have hset : ∀ (k : Nat) (kt : Item), (((S.M.set i (.grid tyo ty s (rows.set p (some (r, m))) none)).set j .gone))[k]? = some kt → kt ≠ .gone → (k = i ∧ kt = .grid tyo ty s (rows.set p (some (r, m))) none) ∨ (k ≠ i ∧ k ≠ j ∧ S.M[k]? = some kt) := fun k kt hk hn => by
  rw [List.getElem?_set] at hk
  by_cases ej : j = k
  ·rw [if_pos ej] at hk
   split at hk
   ·simp at hk; exact absurd hk.symm hn
   ·cases hk
  ·rw [if_neg ej, List.getElem?_set] at hk
   by_cases ei : i = k
   ·rw [if_pos ei] at hk
    split at hk
    ·simp at hk; exact .inl ⟨ei.symm, hk.symm⟩
    ·cases hk
   ·rw [if_neg ei] at hk
    exact .inr ⟨Ne.symm ei, Ne.symm ej, hk⟩
 refine ⟨w', hs', k1, h.size, h.defers, h.base.kept k2 (fun b' e => by cases e; exact (h.mine i _ hm (by simp) b hbi).2 rfl), fun t x hx => ?_, fun k kt hk => ?_, fun k l kt lt hkl hk hl hf hn b' hb => ?_, fun k kt hk hn b' hb => ?_⟩
 ·obtain ⟨hx1, hx2⟩ := List.mem_filter.1 hx
  exact SC.keepG_ok hg0 (fun k hk _ => hsk k hk) hx2 (h.slots t x hx1)
 ·by_cases hn : kt = .gone
  ·subst hn; trivial
  ·rcases hset k kt hk hn with ⟨rfl, rfl⟩ | ⟨h1, h2, h3⟩
   ·refine ⟨us.set (p + 1) (hs j), ocs.set p (hs j), hsi, by simp [u2], ?_, fun u hu => ?_, fun q r' n' hq => ?_, fun q hq => ?_, (fun p k e => by cases e), fun q q' b' hq hq' hqq hb1 hb2 => ?_⟩
    ·rw [hg0, List.length_set, ← hlo]
     exact k3
    ·rcases List.mem_or_eq_of_mem_set hu with hu | hu
     ·exact u3' u hu
     ·obtain ⟨ao, cp, e⟩ := hslj
      exact ⟨ao, m, cp, hu.trans e⟩
    ·rw [List.getElem?_set] at hq
     by_cases e : p = q
     ·subst e
      rw [if_pos rfl, if_pos hp] at hq
      simp only [Option.some.injEq, Prod.mk.injEq] at hq
      obtain ⟨rfl, rfl⟩ := hq
      rw [hgp]
      refine ⟨by rw [List.getElem?_set_self (by omega)], csj, hcj.kept k2 ?_, hrj⟩
      cases hb : (hs j).ownBlock with
      | none => exact .inl rfl
      | some b' => exact .inr (fun e => by cases e; exact hbj b (ownBlock_blk' hb) hbi)
     ·rw [if_neg e] at hq
      have hql := (List.getElem?_eq_some_iff.1 hq).1
      obtain ⟨k5, cs2, k6, k7⟩ := u4 q r' n' hq
      rw [hgq (q + 1) (by omega)]
      exact ⟨by rw [List.getElem?_set_ne e]; exact k5, cs2, k6.kept k2 (hne (q + 1) (by omega) (by omega)), k7⟩
    ·rw [List.getElem?_set] at hq
     by_cases e : p = q
     ·rw [if_pos e] at hq
      split at hq <;> simp at hq
     ·rw [if_neg e] at hq
      rw [hgq (q + 1) (by omega)]
      exact u4' q hq
    ·rw [List.length_set] at hq hq'
     by_cases e : q = p + 1
     ·subst e
      rw [hgp] at hb1
      rw [hgq q' (Ne.symm hqq)] at hb2
      exact hbj b' hb1 (Blk.part u1 hq' hb2)
     ·rw [hgq q e] at hb1
      by_cases e' : q' = p + 1
      ·subst e'
       rw [hgp] at hb2
       exact hbj b' hb2 (Blk.part u1 hq hb1)
      ·rw [hgq q' e'] at hb2
       exact u5 q q' b' hq hq' hqq hb1 hb2
   ·rw [hsk k h1]
    refine Item.keepG_ok hg0 (fun k hk _ => hsk k hk) (List.all_eq_true.1 hkM kt (List.mem_of_getElem? h3)) ?_
    exact Item.kept k2 (h := h.items k kt h3) fun b' hb => ⟨(h.mine k kt h3 hn b' hb).1, fun e => by cases e; exact h.sep i k _ kt (Ne.symm h1) hm h3 rfl hn b hbi hb⟩
 ·rcases hset k kt hk (fz_gone hf) with ⟨rfl, rfl⟩ | ⟨h1, h2, h3⟩
  ·rcases hset l lt hl hn with ⟨rfl, rfl⟩ | ⟨l1, l2, l3⟩
   ·exact absurd rfl hkl
   ·rw [hsk l l1]
    rcases hbs b' hb with h4 | h4
    ·exact h.sep k l _ lt hkl hm l3 rfl hn b' h4
    ·exact h.sep j l _ lt (Ne.symm l2) hj l3 rfl hn b' (Blk.of h4)
  ·rw [hsk k h1] at hb
   rcases hset l lt hl hn with ⟨rfl, rfl⟩ | ⟨l1, l2, l3⟩
   ·intro hb2
    rcases hbs b' hb2 with h4 | h4
    ·exact h.sep k l kt _ hkl h3 hm hf (by simp) b' hb h4
    ·exact h.sep k j kt _ h2 h3 hj hf (by simp) b' hb (Blk.of h4)
   ·rw [hsk l l1]
    exact h.sep k l kt lt hkl h3 l3 hf hn b' hb
 ·rcases hset k kt hk hn with ⟨rfl, rfl⟩ | ⟨h1, h2, h3⟩
  ·rcases hbs b' hb with h4 | h4
   ·obtain ⟨m1, m2⟩ := h.mine k _ hm (by simp) b' h4
    exact ⟨Nat.lt_of_lt_of_le m1 k2.size, fun _ => m2 rfl⟩
   ·obtain ⟨m1, m2⟩ := h.mine j _ hj (by simp) b' (Blk.of h4)
    exact ⟨Nat.lt_of_lt_of_le m1 k2.size, fun _ => m2 rfl⟩
  ·rw [hsk k h1] at hb
   obtain ⟨m1, m2⟩ := h.mine k kt h3 hn b' hb
   exact ⟨Nat.lt_of_lt_of_le m1 k2.size, m2⟩
abbrev gridH {α : Type} (tyo ty : Nat) (T : Ty α) (L : List (List α)) (p : Nat) (link : Option (Nat × Nat)) : Item := .grid tyo ty T.s ((L.map fun l => some (rowR T l, l.length)).set p none) link
theorem WL.putG0 {i j p tyo ty s m t : Nat} {rows : List (Option (Rl (List Value) × Nat))} {link : Option (Nat × Nat)} {r : Rl (List Value)} {ti : TI} {x v : Operand} {S1 : St} (ht : tab.ok) (hn : c.n = n) (hw : wantE ops S.F o = some true) (ho : o.op = .store t x v) (h1 : tab t = some ti) (h2 : ti.size = 1)
  (hx : evX S.F x = some (.sv (.one (.ge i 0 p 1)))) (hv : evX S.F v = some (.sv (.one (.own j)))) (hm : S.M[i]? = some (.grid tyo ty s rows link)) (hj : S.M[j]? = some (.row ty s r m)) (hp : p < rows.length) (hkM : S.M.all (·.keepG i j) = true)
  (e : putE n o.dst (.tup []) ⟨dropG i j S.F, (S.M.set i (.grid tyo ty s (rows.set p (some (r, m))) none)).set j .gone⟩ = some S1) (h : WL c ops rest S1 N) : WL c ops (o :: rest) S N := fun a w ⟨g, hs, hh⟩ => by
 unfold wpList
 rw [if_pos (wantE_ok hh hw)]
 refine .inl ?_
 unfold Oper.wp
 obtain ⟨⟨b, of, nn, cap, e1, e2⟩, _⟩ := evX_ok hh hx
 have hvj : a.eval v = hs j := (evX_ok hh hv).1
 obtain ⟨w', hs', k1, k2⟩ := hh.putG hm hj hp e1 (ht t ti h1) h2 hkM
 have hrun : (execOp a.eval o).run Try.prog w = .ok .skip w' := by
  have : execOp a.eval o = (do Instr.storeAt t (a.eval x) (a.eval v); pure .skip : Sem Next) := by unfold execOp; rw [ho]
  rw [this, e2, hvj]
  simp only [Sem.run_bind, k1, Result.andThen_ok, Sem.run_pure]
 rw [hrun]
 exact h _ _ ⟨g, hs', putE_ok k2 hn undef_ok e⟩
theorem gridI_set {α : Type} {T : Ty α} {L : List (List α)} {l : List α} {p : Nat} : (L.map fun l => some (rowR T l, l.length)).set p (some (rowR T l, l.length)) = ((L.set p l).map fun l => some (rowR T l, l.length)) := by
 rw [List.map_set]
theorem WL.putG {α : Type} {T : Ty α} {L : List (List α)} {l : List α} {i j p tyo ty t : Nat} {ti : TI} {x v : Operand} {S1 : St} (ht : tab.ok) (hn : c.n = n) (hw : wantE ops S.F o = some true) (ho : o.op = .store t x v) (h1 : tab t = some ti) (h2 : ti.size = 1)
  (hx : evX S.F x = some (.sv (.one (.ge i 0 p 1)))) (hv : evX S.F v = some (.sv (.one (.own j)))) (hm : S.M[i]? = some (gridI tyo ty T L)) (hj : S.M[j]? = some (rowI ty T l)) (hp : p < L.length) (hkM : S.M.all (·.keepG i j) = true)
  (e : putE n o.dst (.tup []) ⟨dropG i j S.F, (S.M.set i (gridI tyo ty T (L.set p l))).set j .gone⟩ = some S1) (h : WL c ops rest S1 N) : WL c ops (o :: rest) S N :=
 WL.putG0 ht hn hw ho h1 h2 hx hv hm hj (by rw [List.length_map]; exact hp) hkM (by rw [gridI_set]; exact e) h
theorem WL.putGH {α : Type} {T : Ty α} {L : List (List α)} {l : List α} {link : Option (Nat × Nat)} {i j p tyo ty t : Nat} {ti : TI} {x v : Operand} {S1 : St} (ht : tab.ok) (hn : c.n = n) (hw : wantE ops S.F o = some true) (ho : o.op = .store t x v) (h1 : tab t = some ti) (h2 : ti.size = 1)
  (hx : evX S.F x = some (.sv (.one (.ge i 0 p 1)))) (hv : evX S.F v = some (.sv (.one (.own j)))) (hm : S.M[i]? = some (gridH tyo ty T L p link)) (hj : S.M[j]? = some (rowI ty T l)) (hp : p < L.length) (hkM : S.M.all (·.keepG i j) = true)
  (e : putE n o.dst (.tup []) ⟨dropG i j S.F, (S.M.set i (gridI tyo ty T (L.set p l))).set j .gone⟩ = some S1) (h : WL c ops rest S1 N) : WL c ops (o :: rest) S N :=
 WL.putG0 ht hn hw ho h1 h2 hx hv hm hj (by rw [List.length_set, List.length_map]; exact hp) hkM (by rw [List.set_set, gridI_set]; exact e) h
theorem Ok'.takeG {i p tyo ty s m : Nat} {rows : List (Option (Rl (List Value) × Nat))} {link : Option (Nat × Nat)} {r : Rl (List Value)} (h : Ok' c S a w g hs) (hm : S.M[i]? = some (.grid tyo ty s rows link)) (hp : rows[p]? = some (some (r, m))) (hkM : S.M.all (·.keepG i S.M.length) = true) :
  ∃ hs', hs' S.M.length = gpart (hs i) (p + 1) ∧ Ok' c ⟨dropG i S.M.length S.F, S.M.set i (.grid tyo ty s (rows.set p none) (some (p, S.M.length))) ++ [.row ty s r m]⟩ a w g hs' := by
 have hil : i < S.M.length := (List.getElem?_eq_some_iff.1 hm).1
 have hpl : p < rows.length := (List.getElem?_eq_some_iff.1 hp).1
 have hit := h.items i _ hm
 obtain ⟨us, ocs, u1, u2, u3, u3', u4, u4', uk, u5⟩ := hit
 obtain ⟨q1, csj, q2, q3⟩ := u4 p r m hp
 have hslj := own_slice q2
 have hl0 : p + 1 < us.length := by omega
 let hs' : Nat → Value := fun k => if k = i then .tuple (us.set (p + 1) (.slice none 0 0)).toArray else if k = S.M.length then gpart (hs i) (p + 1) else hs k
 have hsi : hs' i = .tuple (us.set (p + 1) (.slice none 0 0)).toArray := if_pos rfl
 have hsj : hs' S.M.length = gpart (hs i) (p + 1) := by
  show (if S.M.length = i then _ else if S.M.length = S.M.length then _ else _) = _
  rw [if_neg (by omega), if_pos rfl]
 have hsk : ∀ k, k ≠ i → k ≠ S.M.length → hs' k = hs k := fun k h1 h2 => by
  show (if k = i then _ else if k = S.M.length then _ else hs k) = _
  rw [if_neg h1, if_neg h2]
 have hg0 : gpart (hs' i) 0 = gpart (hs i) 0 := by rw [hsi, gpart_set_ne (by omega), u1]
 have hgp : gpart (hs' i) (p + 1) = .slice none 0 0 := by rw [hsi, gpart_set_same hl0]
 have hgq : ∀ q, q ≠ p + 1 → gpart (hs' i) q = gpart (hs i) q := fun q hq => by rw [hsi, gpart_set_ne hq, u1]
 have hbs : ∀ b', Blk (hs' i) b' → Blk (hs i) b' ∧ blk (gpart (hs i) (p + 1)) ≠ some b' := fun b' hb => by
  rw [hsi] at hb
  obtain ⟨u, hu, e⟩ := hb
  obtain ⟨q, hq⟩ := List.mem_iff_getElem?.1 hu
  have hql := (List.getElem?_eq_some_iff.1 hq).1
  rw [List.length_set] at hql
  by_cases eq : q = p + 1
  ·subst eq
   rw [List.getElem?_set_self hl0] at hq
   simp at hq
   rw [← hq] at e
   cases e
  ·rw [List.getElem?_set_ne (Ne.symm eq)] at hq
   have hgu : gpart (hs i) q = u := by
    rw [u1]
    show us.getD q undef = u
    rw [List.getD_eq_getElem?_getD, hq]
    rfl
   exact ⟨Blk.part u1 hql (by rw [hgu]; exact e), fun e2 => u5 q (p + 1) b' hql hl0 eq (by rw [hgu]; exact e) e2⟩
 have hbj : ∀ b', Blk (hs' S.M.length) b' → blk (gpart (hs i) (p + 1)) = some b' := fun b' hb => by
  rw [hsj] at hb
  obtain ⟨ao, cp, e⟩ := hslj
  rw [e] at hb ⊢
  exact hb
 have hbj2 : ∀ b', blk (gpart (hs i) (p + 1)) = some b' → Blk (hs i) b' := fun b' e => Blk.part u1 hl0 e
 have hset : ∀ (k : Nat) (kt : Item), (S.M.set i (.grid tyo ty s (rows.set p none) (some (p, S.M.length))) ++ [.row ty s r m])[k]? = some kt → (k = i ∧ kt = .grid tyo ty s (rows.set p none) (some (p, S.M.length))) ∨ (k = S.M.length ∧ kt = .row ty s r m) ∨ (k ≠ i ∧ k ≠ S.M.length ∧ S.M[k]? = some kt) := fun k kt hk => by
  rw [List.getElem?_append, List.length_set] at hk
  split at hk
  ·rename_i hlt
   rw [List.getElem?_set] at hk
   by_cases ei : i = k
   ·rw [if_pos ei, if_pos hil] at hk
    simp at hk
    exact .inl ⟨ei.symm, hk.symm⟩
   ·rw [if_neg ei] at hk
    exact .inr (.inr ⟨Ne.symm ei, by omega, hk⟩)
  ·by_cases e2 : k = S.M.length
   ·subst e2
    simp at hk
    exact .inr (.inl ⟨rfl, hk.symm⟩)
   ·rw [List.getElem?_eq_none (by simp; omega)] at hk
    cases hk
 refine ⟨hs', hsj, h.size, h.defers, h.base, fun t x hx => ?_, fun k kt hk => ?_, fun k l kt lt hkl hk hl hf hn b' hb => ?_, fun k kt hk hn b' hb => ?_⟩
 ·obtain ⟨hx1, hx2⟩ := List.mem_filter.1 hx
  exact SC.keepG_ok hg0 hsk hx2 (h.slots t x hx1)
 ·rcases hset k kt hk with ⟨rfl, rfl⟩ | ⟨rfl, rfl⟩ | ⟨h1, h2, h3⟩
  ·refine ⟨us.set (p + 1) (.slice none 0 0), ocs, hsi, by simp [u2], by rw [hg0, List.length_set]; exact u3, u3', fun q r' n' hq => ?_, fun q hq => ?_, (fun p' k e => by cases e; rw [hsj]; exact q1), fun q q' b' hq hq' hqq hb1 hb2 => ?_⟩
   ·rw [List.getElem?_set] at hq
    by_cases e : p = q
    ·rw [if_pos e] at hq
     split at hq <;> simp at hq
    ·rw [if_neg e] at hq
     rw [hgq (q + 1) (by omega)]
     exact u4 q r' n' hq
   ·rw [List.getElem?_set] at hq
    by_cases e : p = q
    ·subst e
     exact hgp
    ·rw [if_neg e] at hq
     rw [hgq (q + 1) (by omega)]
     exact u4' q hq
   ·rw [List.length_set] at hq hq'
    by_cases e : q = p + 1
    ·subst e
     rw [hgp] at hb1
     cases hb1
    ·rw [hgq q e] at hb1
     by_cases e' : q' = p + 1
     ·subst e'
      rw [hgp] at hb2
      cases hb2
     ·rw [hgq q' e'] at hb2
      exact u5 q q' b' hq hq' hqq hb1 hb2
  ·rw [hsj]
   exact ⟨csj, q2, q3⟩
  ·by_cases hn : kt = .gone
   ·subst hn; trivial
   ·rw [hsk k h1 h2]
    exact Item.keepG_ok hg0 hsk (List.all_eq_true.1 hkM kt (List.mem_of_getElem? h3)) (h.items k kt h3)
 ·rcases hset k kt hk with ⟨rfl, rfl⟩ | ⟨rfl, rfl⟩ | ⟨h1, h2, h3⟩
  ·obtain ⟨hb1, hb2⟩ := hbs b' hb
   rcases hset l lt hl with ⟨rfl, rfl⟩ | ⟨rfl, rfl⟩ | ⟨l1, l2, l3⟩
   ·exact absurd rfl hkl
   ·exact fun e => hb2 (hbj b' e)
   ·rw [hsk l l1 l2]
    exact h.sep k l _ lt hkl hm l3 rfl hn b' hb1
  ·have hb1 := hbj b' hb
   rcases hset l lt hl with ⟨rfl, rfl⟩ | ⟨rfl, rfl⟩ | ⟨l1, l2, l3⟩
   ·exact fun e => (hbs b' e).2 hb1
   ·exact absurd rfl hkl
   ·rw [hsk l l1 l2]
    exact h.sep i l _ lt (Ne.symm l1) hm l3 rfl hn b' (hbj2 b' hb1)
  ·rw [hsk k h1 h2] at hb
   rcases hset l lt hl with ⟨rfl, rfl⟩ | ⟨rfl, rfl⟩ | ⟨l1, l2, l3⟩
   ·exact fun e => h.sep k l kt _ hkl h3 hm hf (by simp) b' hb (hbs b' e).1
   ·exact fun e => h.sep k i kt _ h1 h3 hm hf (by simp) b' hb (hbj2 b' (hbj b' e))
   ·rw [hsk l l1 l2]
    exact h.sep k l kt lt hkl h3 l3 hf hn b' hb
 ·rcases hset k kt hk with ⟨rfl, rfl⟩ | ⟨rfl, rfl⟩ | ⟨h1, h2, h3⟩
  ·exact h.mine k _ hm (by simp) b' (hbs b' hb).1
  ·exact h.mine i _ hm (by simp) b' (hbj2 b' (hbj b' hb))
  ·rw [hsk k h1 h2] at hb
   exact h.mine k kt h3 hn b' hb
theorem En.takeGL {α : Type} {T : Ty α} {L : List (List α)} {l : List α} {i p tyo ty j : Nat} (hm : S.M[i]? = some (gridI tyo ty T L)) (hp : L[p]? = some l) (hj : S.M.length = j) (hkM : S.M.all (·.keepG i j) = true)
  (h : En c ⟨dropG i j S.F, S.M.set i (gridH tyo ty T L p (some (p, j))) ++ [rowI ty T l]⟩ N) : En c S N := fun a w ⟨g, hs, hk⟩ => by
 subst hj
 obtain ⟨hs', _, hk'⟩ := hk.takeG (p := p) (r := rowR T l) (m := l.length) hm (by rw [List.getElem?_map, hp]; rfl) hkM
 exact h a w ⟨g, hs', hk'⟩
theorem val_indexGH {α : Type} {T : Ty α} {L : List (List α)} {i tyo ty q : Nat} {link : Option (Nat × Nat)} {k : Int} {t el : Nat} {ti te : TI} {x ix : Operand} {ik : IntKind} (ht : tab.ok) (ho : o.op = .indexAddr t x ix) (h1 : tab t = some ti) (h2 : ti.sl = some el) (h3 : tab el = some te) (h4 : te.size = 1)
  (hx : evX S.F x = some (.sv (.one (.gs i 0)))) (hm : S.M[i]? = some (gridH tyo ty T L q link)) (hi : evK S.F ix = some (.int ik k)) (hk : 0 ≤ k ∧ k < (L.length : Int)) : Val c S o (.sv (.one (.ge i 0 k.toNat 1))) := fun a w g hs h => by
 have hv : a.eval x = gpart (hs i) 0 := (evX_ok h hx).1
 obtain ⟨us, ocs, _, _, r1, _⟩ := h.items i _ hm
 rw [List.length_set, List.length_map] at r1
 rw [← hv] at r1
 obtain ⟨b, of, cap, e1, e2⟩ := run_indexOwn (iv := a.eval ix) ht h1 h2 h3 h4 (by decide) r1 (evK_ok h hi) hk
 refine ⟨.pointer (some ⟨b, of + k.toNat * 1, none⟩), ?_, ⟨b, of, L.length, cap, by rw [← hv]; exact e1, rfl⟩, trivial⟩
 have : (execOp a.eval o) = (do pure (.value (← Instr.indexAt t (a.eval x) (a.eval ix))) : Sem Next) := by unfold execOp; rw [ho]
 rw [this]
 exact run_val e2
theorem val_loadGH {α : Type} {T : Ty α} {L : List (List α)} {i p j tyo ty t : Nat} {ti : TI} {x : Operand} (ht : tab.ok) (ho : o.op = .load t x) (h1 : tab t = some ti) (h3 : ti.agg = false)
  (hx : evX S.F x = some (.sv (.one (.ge i 0 p 1)))) (hm : S.M[i]? = some (gridH tyo ty T L p (some (p, j)))) : Val c S o (.sv (.one (.own j))) := fun a w g hs h => by
 obtain ⟨⟨b, of, nn, cap, e1, e2⟩, _⟩ := evX_ok h hx
 obtain ⟨us, ocs, _, _, r1, r2, _, _, r3, _⟩ := h.items i _ hm
 have hc0 := r3 p j rfl
 have htk := ht t ti h1
 obtain ⟨ao, m, cp, hsl⟩ := r2 _ (List.mem_of_getElem? hc0)
 have hcv : cellV (hs j) := by rw [hsl]; trivial
 have hlo : ocs.length = ((L.map fun l => some (rowR T l, l.length)).set p none).length := by have := r1.1; omega
 have hnn : nn = ((L.map fun l => some (rowR T l, l.length)).set p none).length := by
  obtain ⟨_, r⟩ := r1
  rcases r with ⟨e3, _⟩ | ⟨gb, of', cap', cur, e3, _⟩
  ·rw [e1] at e3; cases e3
  ·rw [e1] at e3; simp only [Value.slice.injEq] at e3; exact e3.2.1
 subst hnn
 have hc := own_cell (q := 0) r1 e1 (k := p) (j := 0) (u := hs j) (by rw [Nat.mul_one, Nat.add_zero]; exact hc0)
 rw [svs_add, Nat.add_zero, Nat.mul_one] at hc
 have : (execOp a.eval o) = (do pure (.value (← Instr.loadAt t (a.eval x))) : Sem Next) := by unfold execOp; rw [ho]
 rw [this]
 refine ⟨hs j, run_val ?_, rfl, hcv⟩
 simp only [Instr.loadAt, e2, Instr.sureAddr, loadVar, Sem.run_bind, Sem.run_pure, Result.andThen_ok, htk.run_isAgg]
 rw [h3]
 simp [load, Sem.run, hc]
theorem Ok'.lendR {α : Type} {T : Ty α} {L : List (List α)} {l : List α} {tyo ty i p t : Nat} (h : Ok' c S a w g hs) (hm : S.M[i]? = some (gridI tyo ty T L)) (hq : L[p]? = some l) (hl : look t S.F = some (.sv (.one (.gs i (p + 1))))) : ∃ g', Ok' c ⟨(t, .sv (.one (LS T l))) :: (Proofs.Ytiejmeedkhkfgaa.sealG S i (LS (lsT T) L)).F, (Proofs.Ytiejmeedkhkfgaa.sealG S i (LS (lsT T) L)).M⟩ a w g' hs := by
 classical
 have hit := h.items i _ hm
 obtain ⟨cs, r1, r2⟩ := grid_row hit hq
 have hsl := h.slots t _ (look_mem hl)
 have hpl := (List.getElem?_eq_some_iff.1 hq).1
 obtain ⟨g', hle, hb, h2⟩ := h.sealG' hm
 refine ⟨g', h2.size, h2.defers, h2.base, fun t' x hx => ?_, h2.items, h2.sep, h2.mine⟩
 rcases List.mem_cons.1 hx with hx | hx
 ·cases hx
  have h5 : a.tmps.getD t undef = gpart (hs i) (p + 1) := hsl.1
  show (LS T l).ok g' hs _
  rw [h5]
  obtain ⟨us, ocs, hv, hul, _⟩ := hit
  rw [List.length_map] at hul
  exact row_LS r1 r2 hle (fun b e => hb b (Blk.part hv (by omega) (ownBlock_blk' e)))
 ·exact h2.slots t' x hx
theorem mt_lendR {α : Type} {T : Ty α} {L : List (List α)} {l : List α} {tyo ty p : Nat} {x : SC} (i t : Nat) (hm : S.M[i]? = some (gridI tyo ty T L)) (hq : L[p]? = some l) (hl : look t S.F = some (.sv (.one (.gs i (p + 1))))) (hp : plainB x = true) (h : MT c ⟨(t, .sv (.one (LS T l))) :: (sealG S i (LS (lsT T) L)).F, (sealG S i (LS (lsT T) L)).M⟩ o x [] none) : MT c S o x [] none := fun a w g hs hk N Z hN => by
 obtain ⟨g2, hk2⟩ := hk.lendR hm hq hl
 exact h a w g2 hs hk2 N Z fun v w' g' h' h1 h2 _ => hN v w' g h' (h1.back hk.base.pers) (plainB_ok hp h2) trivial
end
section
variable {c : Cfg} {S S1 : St} {a : Act} {w : World} {g : Gh} {hs : Nat → Value} {tab : Tab} {n : Nat} {o : Oper} {ops : Array Oper} {rest : List Oper} {N : Po}
theorem run_bounds {lo hi : Option Operand} {lv hv : Int} {m cap : Nat} (h : Ok' c S a w g hs) (hlo : (lo = none ∧ lv = 0) ∨ ∃ q, lo = some q ∧ evK S.F q = some (.int .i64 lv)) (hhi : (hi = none ∧ hv = m) ∨ ∃ q, hi = some q ∧ evK S.F q = some (.int .i64 hv)) (h5 : 0 ≤ lv ∧ lv ≤ hv ∧ hv ≤ m) (hc : m ≤ cap) : (Instr.sliceBounds true m cap (lo.map a.eval) (hi.map a.eval) none).run Try.prog w = .ok (lv.toNat, hv.toNat, cap) w := by
 unfold Instr.sliceBounds
 rcases hlo with ⟨rfl, rfl⟩ | ⟨q', rfl, hlo⟩ <;> rcases hhi with ⟨rfl, rfl⟩ | ⟨q, rfl, hhi⟩
 ·simp
 ·simp only [Option.map_none, Option.map_some, Sem.run_bind, Sem.run_pure, Result.andThen_ok, Instr.sliceBound, evK_ok h hhi, asIntOf]
  rw [if_pos (by omega)]
  simp
 ·simp only [Option.map_none, Option.map_some, Sem.run_bind, Sem.run_pure, Result.andThen_ok, Instr.sliceBound, evK_ok h hlo, asIntOf]
  rw [if_pos (by omega)]
  simp
 ·simp only [Option.map_some, Sem.run_bind, Sem.run_pure, Result.andThen_ok, Instr.sliceBound, evK_ok h hhi, evK_ok h hlo, asIntOf]
  rw [if_pos (by omega)]
  simp only [Sem.run_bind, Sem.run_pure, Result.andThen_ok]
  rw [if_pos (by omega)]
  simp
theorem val_view {α : Type} {T : Ty α} {l : List α} {i t el : Nat} {ti te : TI} {x : Operand} {lo hi : Option Operand} {lv hv : Int} (ht : tab.ok) (ho : o.op = .slice t x lo hi none) (h1 : tab t = some ti) (h2 : ti.sl = some el) (h3 : tab el = some te) (h4 : te.size = T.s)
  (hx : evX S.F x = some (.sv (.one (.own i)))) (hm : S.M[i]? = some (rowI el T l)) (hlo : (match lo with | some q => evK S.F q = some (.int .i64 lv) | none => lv = 0)) (hhi : (match hi with | some q => evK S.F q = some (.int .i64 hv) | none => hv = l.length)) (h5 : 0 ≤ lv ∧ lv ≤ hv ∧ hv ≤ l.length) :
  Val c S o (.sv (.one (.vw i lv.toNat (hv.toNat - lv.toNat) T.s))) := fun a w g hs h => by
 obtain ⟨h6, h7, h8⟩ := h5
 have hu := slT_some ((ht t ti h1).sl.trans h2)
 have hv0 : a.eval x = hs i := (evX_ok h hx).1
 obtain ⟨cs, ⟨hl0, r1⟩, r2⟩ := h.items i _ hm
 obtain ⟨ao, cap, e1, hcap, hao⟩ : ∃ ao cap, hs i = .slice ao l.length cap ∧ l.length ≤ cap ∧ ((ao = none ∧ cap = 0) ∨ ∃ gb of, ao = some ⟨gb, of, none⟩) := by
  rcases r1 with ⟨e3, e4⟩ | ⟨gb, of, cap, cur, e3, e4, e5, _⟩
  ·exact ⟨none, 0, by rw [e3, e4], by rw [e4]; exact Nat.le_refl _, .inl ⟨rfl, rfl⟩⟩
  ·exact ⟨_, cap, e3, e5, .inr ⟨gb, of, rfl⟩⟩
 have hb := run_bounds (lo := lo) (hi := hi) h (by cases lo <;> simp only at hlo <;> first | exact .inl ⟨rfl, hlo⟩ | exact .inr ⟨_, rfl, hlo⟩) (by cases hi <;> simp only at hhi <;> first | exact .inl ⟨rfl, hhi⟩ | exact .inr ⟨_, rfl, hhi⟩) ⟨h6, h7, h8⟩ hcap
 have this : execOp a.eval o = (do pure (.value (← Instr.sliceAt t (a.eval x) (lo.map a.eval) (hi.map a.eval) none)) : Sem Next) := by unfold execOp; rw [ho]; rfl
 have hrun : (Instr.sliceAt t (a.eval x) (lo.map a.eval) (hi.map a.eval) none).run Try.prog w = .ok (.slice (if cap = lv.toNat then ao else ao.map (·.add (lv.toNat * T.s))) (hv.toNat - lv.toNat) (cap - lv.toNat)) w := by
  simp only [Instr.sliceAt, Instr.slice, Sem.run_bind, run_underlying hu, Result.andThen_ok, hv0, e1, hb, (ht el te h3).run_size, Sem.run_pure, h4]
 rw [this]
 refine ⟨_, run_val hrun, ⟨_, _, rfl, fun e => ?_, fun h0 => ?_⟩, trivial⟩
 ·rcases hao with ⟨e1, e2⟩ | ⟨gb, of, rfl⟩
  ·omega
  ·split at e <;> simp at e
 ·rcases hao with ⟨_, e⟩ | ⟨gb, of, rfl⟩
  ·omega
  ·refine ⟨gb, of, _, _, e1, ?_⟩
   rw [if_neg (by omega)]
   simp [svs_add]
def DstOk (c : Cfg) (S : St) (x : Operand) (i lo m : Nat) : Prop := ∀ a w g hs, Ok' c S a w g hs → ∃ ao cap, a.eval x = .slice ao m cap ∧ (0 < m → ∃ b o n cp, hs i = .slice (some ⟨b, o, none⟩) n cp ∧ ao = some ⟨b, o + lo, none⟩)
theorem dstVw {x : Operand} {i lo m : Nat} (hx : evX S.F x = some (.sv (.one (.vw i lo m 1)))) : DstOk c S x i lo m := fun a w g hs h => by
 obtain ⟨ao, cap, h1, _, h2⟩ := (evX_ok h hx).1
 refine ⟨ao, cap, h1, fun h0 => ?_⟩
 obtain ⟨b, o, n, cp, h3, h4⟩ := h2 h0
 exact ⟨b, o, n, cp, h3, by rw [h4, Nat.mul_one]⟩
theorem dstOwn {α : Type} {T : Ty α} {l : List α} {x : Operand} {i e : Nat} (hx : evX S.F x = some (.sv (.one (.own i)))) (hm : S.M[i]? = some (rowI e T l)) : DstOk c S x i 0 l.length := fun a w g hs h => by
 have hv0 : a.eval x = hs i := (evX_ok h hx).1
 obtain ⟨cs, ⟨hl0, r1⟩, r2⟩ := h.items i _ hm
 rcases r1 with ⟨e3, e4⟩ | ⟨gb, of, cap, cur, e3, e4, e5, _⟩
 ·exact ⟨none, 0, by rw [hv0, e3, e4], fun h0 => by omega⟩
 ·exact ⟨_, cap, hv0.trans e3, fun h0 => ⟨gb, of, _, _, e3, rfl⟩⟩
theorem srcVw {α : Type} {T : Ty α} {l : List α} {y : Operand} {i lo m e : Nat} (hs1 : T.s = 1) (hT : T.solid) (hy : evX S.F y = some (.sv (.one (.vw i lo m 1)))) (hm : S.M[i]? = some (rowI e T l)) (hlm : lo + m ≤ l.length) : SrcOk c S y T ((l.drop lo).take m) := fun a w g hs h => by
 obtain ⟨ao, cap, h1, hao, h2⟩ := (evX_ok h hy).1
 obtain ⟨cs, ⟨hl0, r1⟩, r2⟩ := h.items i _ hm
 have hln : ((l.drop lo).take m).length = m := by simp; omega
 rw [hs1, Nat.mul_one] at hl0
 have hr : rowRead T ((l.drop lo).take m) g ((cs.drop lo).take m) := by
  have := (r2.drop lo).take m
  rwa [hs1, Nat.mul_one, Nat.mul_one] at this
 by_cases h0 : 0 < m
 ·obtain ⟨b, of, nn, cp, h3, rfl⟩ := h2 h0
  refine ⟨(cs.drop lo).take m, ⟨_, cap, by rw [h1, hln], (fun e => by cases e), by rw [hln, hs1]; simp; omega, fun j u hj => ⟨b, of + lo * 1, rfl, ?_⟩, fun u hu => (hr.cells hT u hu).one⟩, hr⟩
  rw [List.getElem?_take] at hj
  split at hj
  ·rw [List.getElem?_drop] at hj
   rcases r1 with ⟨e3, _⟩ | ⟨gb, of', cap', cur, e3, e4, _, _, _, e5⟩
   ·rw [h3] at e3; cases e3
   ·rw [h3] at e3
    simp at e3
    obtain ⟨⟨rfl, rfl⟩, rfl, rfl⟩ := e3
    unfold World.cell?
    rw [e4]
    rw [← e5, List.getElem?_take] at hj
    split at hj
    ·rw [List.getElem?_drop] at hj
     simpa [Nat.add_assoc] using hj
    ·cases hj
  ·cases hj
 ·have hm0 : m = 0 := by omega
  subst hm0
  exact ⟨[], ⟨ao, cap, by rw [h1]; simp, fun e => ⟨hao e, by simp⟩, by simp, fun j u hj => by simp at hj, fun u hu => by simp at hu⟩, by simpa using rowRead.nil⟩
theorem copy_cells {α : Type} (C R X : List α) {of m lo k : Nat} (hR : (C.drop of).take m = R) (hm : of + m ≤ C.length) (hX : X.length = k) (hk : lo + k ≤ m) : ((C.take (of + lo) ++ X ++ C.drop (of + lo + k)).drop of).take m = R.take lo ++ X ++ R.drop (lo + k) := by
 subst hR
 have h1 : (C.take (of + lo)).drop of = ((C.drop of).take m).take lo := by
  rw [List.take_take, Nat.min_eq_left (by omega), List.drop_take, Nat.add_sub_cancel_left]
 rw [List.append_assoc, List.drop_append_of_le_length (by rw [List.length_take]; omega), h1]
 have h2 : (((C.drop of).take m).take lo).length = lo := by simp; omega
 have h3 : ∀ A D : List α, A.length = lo → (A ++ (X ++ D)).take m = A ++ (X ++ D.take (m - (lo + k))) := fun A D hA => by
  rw [List.take_append, List.take_of_length_le (by omega), List.take_append, List.take_of_length_le (l := X) (by omega)]
  congr 3
  omega
 rw [h3 _ _ h2, List.append_assoc]
 congr 2
 rw [List.drop_take, List.drop_drop, Nat.add_assoc]
theorem me_copy {α : Type} {T : Ty α} {L es : List α} {i lo m t ts e : Nat} {ti te : TI} {x y : Operand} (hs1 : T.s = 1) (hT : T.solid) (ht : tab.ok) (ho : o.op = .call ⟨.builtin .copy, #[x, y], #[t, ts]⟩) (h1 : tab t = some ti) (h2 : ti.sl = some e) (h3 : tab e = some te) (h4 : te.size = 1)
  (hm : S.M[i]? = some (rowI e T L)) (hd : DstOk c S x i lo m) (hsrc : SrcOk c S y T es) (hlm : lo + m ≤ L.length) : ME c S o (.sv (.one (I ((min es.length m : Nat) : Int)))) [(i, rowI e T (L.take lo ++ es.take (min es.length m) ++ L.drop (lo + min es.length m)))] := fun a w g hs h N Z hN => by
 have hu := slT_some ((ht t ti h1).sl.trans h2)
 obtain ⟨cs, ⟨hl0, r1⟩, r2⟩ := h.items i _ hm
 rw [hs1, Nat.mul_one] at hl0
 obtain ⟨dp, dcap, d1, d2⟩ := hd a w g hs h
 obtain ⟨news, ⟨ao, sc, s1, s2, s3, s4, s5⟩, s6⟩ := hsrc a w g hs h
 rw [hs1, Nat.mul_one] at s3
 have hmine := h.mine i _ hm (by simp)
 have hisz : (Try.prog.info? e).map (·.size) = some 1 := by
  obtain ⟨x', z, i1, _, i3, _⟩ := (ht e te h3).parts
  rw [i1, Option.map_some, i3, h4]
 generalize hk : min es.length m = k at *
 have hcopy : execOp a.eval o = (do pure (.value (← Builtin.copy_ #[t, ts] o.type #[a.eval x, a.eval y])) : Sem Next) := by
  unfold execOp
  rw [ho]
  simp [resolve, invoke, builtin]
 have hnew : (L.take lo ++ es.take k ++ L.drop (lo + k)).length = L.length := by simp; omega
 have hread : rowRead T (L.take lo ++ es.take k ++ L.drop (lo + k)) g (cs.take lo ++ news.take k ++ cs.drop (lo + k)) := by
  have a1 := r2.take lo
  have a2 := s6.take k
  have a3 := r2.drop (lo + k)
  rw [hs1, Nat.mul_one] at a1 a2 a3
  exact (a1.append a2).append a3
 unfold Oper.wp
 by_cases h0 : 0 < k
 ·obtain ⟨b, of, nn, cp, e1, rfl⟩ := d2 (by omega)
  rcases r1 with ⟨e3, _⟩ | ⟨gb, of', cap', cur, e3, e4, e5, e6, e7, e8⟩
  ·rw [e1] at e3; cases e3
  ·rw [e1] at e3
   simp at e3
   obtain ⟨⟨rfl, rfl⟩, rfl, rfl⟩ := e3
   rw [hs1, Nat.mul_one] at e7
   rw [hs1, Nat.mul_one] at e8
   cases ao with
   | none => have := (s2 rfl).2; omega
   | some ad =>
    have hlk : (news.take k).length = k := by simp; omega
    have had : ∀ j v, (news.take k)[j]? = some v → w.cell? (ad.add j) = some v := fun j v hj => by
     rw [List.getElem?_take] at hj
     split at hj
     ·obtain ⟨b', o', k1, k2⟩ := s4 j v hj
      cases k1
      rw [svs_add]
      exact k2
     ·cases hj
    have hrun := run_copy_row (P := Try.prog) w t ts o.type e b (of + lo) m dcap ad es.length sc cur e (news.take k) hu hisz e4 (by rw [hlk, ← hk]) had (by rw [hlk]; omega) (fun v hv => s5 v (List.mem_of_mem_take hv))
    rw [hcopy, d1, s1, run_valW hrun, hlk]
    have hgr : w.grownBy (w.setRow b (cur.toList.take (of + lo) ++ news.take k ++ cur.toList.drop (of + lo + k)).toArray) (some b) := ⟨rfl, rfl, rfl, by simp, fun q hq hne => setRow_other w b q _ (fun e => hne (by rw [e]))⟩
    have hbi : Blk (hs i) b := by rw [e1]; rfl
    refine hN _ _ g ⟨hgr.os, hgr.tape, hgr.output, hgr.size, fun b' hb hk => hgr.block b' hb (fun e => by cases e; exact hk i (by simp) hbi), Gh.le.refl g, fun b o e => .inl e, ?_⟩ (fun q hq b' hb => ?_) ⟨rfl, trivial⟩ (fun p hp => ?_)
    ·exact (h.base.kept hgr (fun b' e => by cases e; exact (hmine b hbi).2 rfl)).pers
    ·simp at hq
     subst hq
     exact ((hmine b' hb).2 rfl).2
    ·rw [List.mem_singleton] at hp
     subst hp
     refine ⟨_, ⟨hread.length, .inr ⟨b, of, cp, _, ?_, setRow_heap w b _ _ _ _ e4, by rw [hnew]; exact e5, e6, ?_, ?_⟩⟩, hread⟩
     ·rw [e1, hnew]
     ·rw [hs1, Nat.mul_one]
      simp only [List.size_toArray, List.length_append, hlk, List.length_take, List.length_drop, Array.length_toList]
      omega
     ·rw [hs1, Nat.mul_one, hnew]
      exact copy_cells _ _ _ e8 (by have h9 := Array.length_toList (xs := cur); omega) hlk (by omega)
 ·have hk0 : k = 0 := by omega
  subst hk0
  have hrun := run_copy_none (P := Try.prog) w t ts o.type e dp ao m dcap es.length sc hu hisz hk
  rw [hcopy, d1, s1, run_valW hrun]
  refine hN _ _ g ⟨rfl, rfl, rfl, Nat.le_refl _, fun _ _ _ => rfl, Gh.le.refl g, fun b o e => .inl e, h.base.pers⟩ (fun q hq b' hb => ?_) ⟨rfl, trivial⟩ (fun p hp => ?_)
  ·simp at hq
   subst hq
   exact ((hmine b' hb).2 rfl).2
  ·rw [List.mem_singleton] at hp
   subst hp
   have e0 : L.take lo ++ es.take 0 ++ L.drop (lo + 0) = L := by simp
   rw [e0]
   exact h.items i _ hm
theorem view_le {lv hv : Int} {m : Nat} (h : partOk lv hv m) : lv.toNat + (hv.toNat - lv.toNat) ≤ m := by
 obtain ⟨h1, h2, h3⟩ := h
 omega
theorem WL.me {x : SC} {i : Nat} {it it' : Item} (hn : c.n = n) (hw : wantE ops S.F o = some true) (hm : ME c S o x [(i, it')]) (hi : S.M[i]? = some it) (hf : it.fz = false) (hf' : it'.fz = false) (e : putE n o.dst x ⟨S.F, S.M.set i it'⟩ = some S1) (h : WL c ops rest S1 N) : WL c ops (o :: rest) S N := fun a w ⟨g, hs, hk⟩ => by
 unfold wpList
 rw [if_pos (wantE_ok hk hw)]
 refine .inl (hm a w g hs hk _ N fun v w' g' h1 h2 h3 h4 => ?_)
 have := hk.updS (us := [(i, it')]) (fun p hp => by simp at hp; subst hp; exact ⟨it, hi, hf⟩) (fun p hp => by simp at hp; subst hp; exact hf') h1 h2 h4
 exact h _ _ ⟨g', hs, putE_ok this hn h3 e⟩
end
def PanC (c : Cfg) (ps : List PanicEntry → Prop) (bad : Prop) : Prop := ∀ ch a w' g', a.defers = c.dfr → ps ch → bad → Base c w' g' → c.pan ch a w'
def CtP {β : Type} (f : Nat) (ins : List SC) (M : List Item) (pin : List Nat) (post : β → Prop) (out : β → SC) (M' : β → List Item) (ps : List PanicEntry → Prop) (bad : Prop) : Prop := ∀ (w : World) (g : Gh) (hs : Nat → Value) (args : List Value), Pers g w → okArgs g hs ins args → ItemsOk (fun _ => True) 0 M g hs w →
 Calls Try.prog f args.toArray w (fun en w' => (∃ v g' hs' r, en = .returned v ∧ post r ∧ (out r).ok g' hs' v ∧ (∀ i ∈ pin, hs' i = hs i) ∧ Base (cfgM 0 w g (mayM M hs)) w' g' ∧ ItemsOk (mayM M hs) w.heap.size (M' r) g' hs' w') ∨
  ∃ ch g', en = .panicked ch ∧ ps ch ∧ bad ∧ Base (cfgM 0 w g (mayM M hs)) w' g')
def CtX (f : Nat) (ins : List SC) (M : List Item) (ps : List PanicEntry → Prop) : Prop := ∀ (w : World) (g : Gh) (hs : Nat → Value) (args : List Value), Pers g w → okArgs g hs ins args → ItemsOk (fun _ => True) 0 M g hs w →
 Calls Try.prog f args.toArray w (fun en w' => ∃ ch g', en = .panicked ch ∧ ps ch ∧ Base (cfgM 0 w g (mayM M hs)) w' g')
theorem CtP.toE {β γ : Type} {f : Nat} {ins : List SC} {M : List Item} {pin : List Nat} {post : β → Prop} {out : β → SC} {M1 : β → List Item} {ps : List PanicEntry → Prop} {post' : γ → Prop} {out' : γ → SC} {M2 : γ → List Item} (h : CtP f ins M pin post out M1 ps False) (hp : ∀ r, post r → ∃ s, post' s ∧ out' s = out r ∧ M2 s = M1 r) : CtE f ins M pin post' out' M2 := fun w g hs args h1 h2 h3 =>
 (h w g hs args h1 h2 h3).mono fun e w' k => by
  rcases k with ⟨v, g', hs', r, e1, e2, e3, e4⟩ | ⟨_, _, _, _, k, _⟩
  ·obtain ⟨s, s1, s2, s3⟩ := hp r e2
   exact ⟨v, g', hs', s, e1, s1, by rw [s2]; exact e3, by rw [s3]; exact e4⟩
  ·exact k.elim
theorem CtP.toX {β : Type} {f : Nat} {ins : List SC} {M : List Item} {pin : List Nat} {out : β → SC} {M1 : β → List Item} {ps : List PanicEntry → Prop} {P : Prop} (h : CtP f ins M pin (fun _ => False) out M1 ps P) : CtX f ins M ps := fun w g hs args h1 h2 h3 =>
 (h w g hs args h1 h2 h3).mono fun e w' k => by
  rcases k with ⟨_, _, _, _, _, k, _⟩ | ⟨ch, g', e1, e2, _, e4⟩
  ·exact k.elim
  ·exact ⟨ch, g', e1, e2, e4⟩
theorem Base.cast {c c' : Cfg} {w : World} {g : Gh} (h : Base c w g) (h1 : c'.w0 = c.w0) (h2 : c'.g0 = c.g0) (h3 : c'.may = c.may) : Base c' w g := by
 refine ⟨h1 ▸ h.os, h1 ▸ h.tape, h1 ▸ h.output, h1 ▸ h.grows, fun b hb hm => ?_, h2 ▸ h.ghle, fun b o e => ?_, h.pers⟩
 ·rw [h1] at hb ⊢
  rw [h3] at hm
  exact h.frame b hb hm
 ·rw [h1, h2, h3]
  exact h.ghnew b o e
theorem CtP.body {β : Type} {f : Nat} {fn : Func} {code : Code} {n : Nat} {rs : Array ResultVar} {ins : List SC} {M : List Item} {pin : List Nat} {post : β → Prop} {out : β → SC} {M' : β → List Item} {ps : List PanicEntry → Prop} {bad : Prop} (hf : Try.prog.funcs[f]? = some fn) (hb : fn.body = some code) (hn : fn.ntmps = n) (hr : fn.results = rs)
  (hl : Nat.ble ins.length n = true) (hpin : pinned pin ins = true) (h : ∀ (c : Cfg) (B : Nat → Nat), c.n = n → PanC c ps bad → En c ⟨enumF 0 (ins.map (pinS pin B)), M⟩ (cwp code (PQ c (RetE c rs pin B post out M') [] (RetE c rs pin B post out M')))) : CtP f ins M pin post out M' ps bad := fun w g hs args hp ha hm => by
 have hl := Nat.le_of_ble_eq_true hl
 have hla := okArgs_length ha
 have hB : ∀ i ∈ pin, hs i = .pointer (some ⟨(blk (hs i)).getD 0, 0, none⟩) := fun i hi => by
  obtain ⟨x, hx, e⟩ := List.any_eq_true.1 (List.all_eq_true.1 hpin i hi)
  split at e
  ·rename_i j
   have e := Nat.eq_of_beq_eq_true e
   subst e
   obtain ⟨u, ⟨b, h1, _⟩, _⟩ := okArgs_get ha hx
   rw [h1]
   rfl
  ·cases e
 let c : Cfg := ⟨n, w, g, mayM M hs, [], fun ch a w' => a.defers = [] ∧ ps ch ∧ bad ∧ ∃ g', Base (cfgM 0 w g (mayM M hs)) w' g'⟩
 have hpc : PanC c ps bad := fun ch a w' g' h1 h2 h3 h4 => ⟨h1, h2, h3, g', h4.cast rfl rfl rfl⟩
 refine calls_of_wp hf hb (Code.wp_mono (fun e a w' q => ?_) (h c (fun i => (blk (hs i)).getD 0) rfl hpc { tmps := args.toArray ++ Array.replicate (fn.ntmps - args.toArray.size) undef, defers := [] } w ⟨g, hs, ?_⟩))
 ·have key : RetE c rs pin (fun i => (blk (hs i)).getD 0) post out M' a w' → a.defers = [] ∧ ∃ v, (results fn a.tmps).run Try.prog w' = .ok v w' ∧ ((∃ v' g' hs' r, Ending.returned v = .returned v' ∧ post r ∧ (out r).ok g' hs' v' ∧ (∀ i ∈ pin, hs' i = hs i) ∧ Base (cfgM 0 w g (mayM M hs)) w' g' ∧ ItemsOk (mayM M hs) w.heap.size (M' r) g' hs' w') ∨ ∃ ch g', Ending.returned v = .panicked ch ∧ ps ch ∧ bad ∧ Base (cfgM 0 w g (mayM M hs)) w' g') := fun ⟨h1, v, g', hs', r, h2, h3, h4, h5, h6, h7⟩ => by
   refine ⟨h1, v, ?_, .inl ⟨v, g', hs', r, rfl, h3, h4, fun i hi => (h5 i hi).trans (hB i hi).symm, h6.cast rfl rfl rfl, h7⟩⟩
   subst hr
   exact h2
  cases e with
  | panic ch =>
   obtain ⟨q1, q2, q3, g', q4⟩ := (q : a.defers = [] ∧ ps ch ∧ bad ∧ ∃ g', Base (cfgM 0 w g (mayM M hs)) w' g')
   exact ⟨q1, .inr ⟨ch, g', rfl, q2, q3, q4⟩⟩
  | normal => exact key q
  | ret => exact key q
  | exit _ => exact (q : False).elim
  | goto _ => exact (q : False).elim
  | outgrown => exact (q : False).elim
 ·refine ⟨?_, rfl, ⟨rfl, rfl, rfl, Nat.le_refl _, fun _ _ _ => rfl, Gh.le.refl g, fun b o e => .inl e, hp⟩, fun t x hx => ?_, hm.items, hm.sep, fun i it hi hn b hb => ?_⟩
  ·simp [c, hn]
   omega
  ·obtain ⟨u, h1, _, h3⟩ := enumF_ok (okArgs_pin hB ha) hx
   simp only [Nat.sub_zero] at h1
   have hlt := (List.getElem?_eq_some_iff.1 h1).1
   have : (args.toArray ++ Array.replicate (fn.ntmps - args.toArray.size) undef).getD t undef = u := by
    rw [Array.getD_eq_getD_getElem?, Array.getElem?_append_left (by simpa using hlt)]
    simp [h1]
   rw [this]
   exact h3
  ·obtain ⟨h1, h2⟩ := hm.mine i it hi hn b hb
   exact ⟨h1, fun hf => ⟨.inl ⟨i, it, hi, hf, hb⟩, (h2 hf).2⟩⟩
theorem splitO {α : Type} {p : Prop} (o : Option α) (h1 : o = none → p) (h2 : ∀ r, o = some r → p) : p := by
 cases h : o with
 | none => exact h1 h
 | some r => exact h2 r h
def deadR : Rd := ⟨fun _ _ => False, fun _ _ _ _ h => h⟩
section
variable {c : Cfg} {S S1 : St} {a : Act} {w : World} {g : Gh} {hs : Nat → Value} {tab : Tab} {n : Nat} {o : Oper} {ops : Array Oper} {rest : List Oper} {N : Po}
theorem Base.callM (h : Ok' c S a w g hs) {M : List Item} {rn : List Nat} (hM : M.map (fun it => some (it.mv (rnF rn S.M.length))) = rn.map (fun j => S.M[j]?)) {w' : World} {g' : Gh} (hb : Base (cfgM 0 w g (mayM M (fun i => hs (rnF rn S.M.length i)))) w' g') : Base c w' g' := by
 have hat : ∀ (i : Nat) (it : Item), M[i]? = some it → ∃ j, rn[i]? = some j ∧ rnF rn S.M.length i = j ∧ S.M[j]? = some (it.mv (rnF rn S.M.length)) := fun i it hi => by
  have := congrArg (·[i]?) hM
  simp only [List.getElem?_map, hi, Option.map_some] at this
  cases hr : rn[i]? with
  | none => rw [hr] at this; simp at this
  | some j =>
   rw [hr] at this
   simp at this
   have hlt := (List.getElem?_eq_some_iff.1 hr).1
   refine ⟨j, rfl, ?_, this.symm⟩
   unfold rnF
   rw [show Nat.blt i rn.length = true from by simpa [Nat.blt_eq] using hlt]
   simp [hr]
 have hmay : ∀ b, mayM M (fun i => hs (rnF rn S.M.length i)) b → ∃ j it, S.M[j]? = some it ∧ it.fz = false ∧ Blk (hs j) b := fun b ⟨i, it, h1, h2, h3⟩ => by
  obtain ⟨j, _, h4, h5⟩ := hat i it h1
  simp only [h4] at h3
  exact ⟨j, _, h5, by rw [Item.mv_fz]; exact h2, h3⟩
 refine ⟨hb.os.trans h.base.os, hb.tape.trans h.base.tape, hb.output.trans h.base.output, Nat.le_trans h.base.grows hb.grows, fun b hb1 hm => ?_, h.base.ghle.trans hb.ghle, fun b o e => ?_, hb.pers⟩
 ·refine (hb.frame b (Nat.lt_of_lt_of_le hb1 h.base.grows) fun hm2 => ?_).trans (h.base.frame b hb1 hm)
  obtain ⟨j, jt, h8, h9, h10⟩ := hmay b hm2
  rcases ((h.mine j jt h8 (fz_gone h9) b h10).2 h9).1 with h11 | h11
  ·exact hm h11
  ·omega
 ·rcases hb.ghnew b o e with h1 | h1 | h1
  ·exact h.base.ghnew b o h1
  ·obtain ⟨j, jt, h8, h9, h10⟩ := hmay b h1
   exact .inr ((h.mine j jt h8 (fz_gone h9) b h10).2 h9).1
  ·exact .inr (.inr (Nat.le_trans h.base.grows h1))
def LeftX (c : Cfg) (S : St) (M : List Item) (rn : List Nat) (ps : List PanicEntry → Prop) : Prop := ∀ a w g hs, Ok' c S a w g hs → ∀ ch w' g', ps ch → Base (cfgM 0 w g (mayM M (fun i => hs (rnF rn S.M.length i)))) w' g' → Base c w' g' → c.pan ch a w'
theorem leftX {M : List Item} {rn : List Nat} {ps : List PanicEntry → Prop} {P : Prop} (hpan : PanC c ps P) (hP : P) : LeftX c S M rn ps := fun a w g hs hk ch w' g' h1 _ h2 => hpan ch a w' g' hk.defers h1 hP h2
theorem mt_callX {f : Nat} {ins : List SC} {M : List Item} {ps : List PanicEntry → Prop} {x : SC} {K : List Nat} {p : Option (Nat × Item)} (ct : CtX f ins M ps) (en : ∀ args w, (callFunc f args).run Try.prog w = .ok (.enter f args) w) {caps : List Nat} (rn : List Nat) {fo : Operand} {args : Array Operand} {ats : Array TypeId}
  (ho : o.op = .call ⟨.value fo, args, ats⟩) (hf : evX S.F fo = some (.sv (.one (.fn f caps)))) (ha : ArgsAs c S args caps (ins.map (SC.ren (rnF rn S.M.length))))
  (hM : M.map (fun it => some (it.mv (rnF rn S.M.length))) = rn.map (fun j => S.M[j]?)) (hnd : rn.Nodup) (hpan : LeftX c S M rn ps) : MT c S o x K p := fun a w g hs hk N Z hN => by
 unfold Oper.wp
 have hfv : a.eval fo = .func (.func f) #[] (caps.map hs).toArray := (evX_ok hk hf).1
 have hrun : (execOp a.eval o).run Try.prog w = .ok (.enter f ((args.toList.map a.eval) ++ caps.map hs).toArray) w := by
  unfold execOp
  simp only [ho, resolve, hfv, Deferred.ofValue, Sem.run_bind, Sem.run_pure, Result.andThen_ok, invoke]
  rw [show (#[] ++ Array.map a.eval args ++ (List.map hs caps).toArray : Array Value) = (args.toList.map a.eval ++ caps.map hs).toArray by simp]
  exact en _ _
 rw [hrun]
 refine (ct w g (fun i => hs (rnF rn S.M.length i)) _ hk.base.pers (okArgs_ren (ha a w g hs hk)) (items_in hk hM hnd)).mono ?_
 rintro e' w' ⟨ch, g', rfl, h1, h2⟩
 exact hpan a w g hs hk ch w' g' h1 h2 (Base.callM hk hM h2)
theorem WL.callX {f : Nat} {ins : List SC} {M : List Item} {ps : List PanicEntry → Prop} (ct : CtX f ins M ps) (en : ∀ args w, (callFunc f args).run Try.prog w = .ok (.enter f args) w) {caps : List Nat} (rn : List Nat) {fo : Operand} {args : Array Operand} {ats : Array TypeId}
  (hw : wantE ops S.F o = some true) (ho : o.op = .call ⟨.value fo, args, ats⟩) (hf : evX S.F fo = some (.sv (.one (.fn f caps)))) (ha : ArgsAs c S args caps (ins.map (SC.ren (rnF rn S.M.length))))
  (hM : M.map (fun it => some (it.mv (rnF rn S.M.length))) = rn.map (fun j => S.M[j]?)) (hnd : rn.Nodup) (hpan : LeftX c S M rn ps) : WL c ops (o :: rest) S N := fun a w ⟨g, hs, hk⟩ => by
 unfold wpList
 rw [if_pos (wantE_ok hk hw)]
 exact .inl (mt_callX (x := .sv (.one (.rd deadR))) (K := []) (p := none) ct en rn ho hf ha hM hnd hpan a w g hs hk _ N fun v w' g' h' _ h2 _ => absurd h2.1 (fun h => h))
def psStop (ty : Nat) (ch : List PanicEntry) : Prop := ∃ code at_ : Int, code ≠ 0 ∧ ch = [{ v := .iface ty (.agg #[.int .i64 code, .int .i64 at_]), recovered := false }]
theorem WL.panicI {ty d : Nat} {fs : Array Field} {o1 o2 : Oper} {x : Operand} {code at_ : Int} {P : Prop} (hn : c.n = n) (hw1 : wantE ops S.F o1 = some true) (ho1 : o1.op = .makeInterface ty x) (hd : o1.dst = some d) (hdn : Nat.blt d n = true) (hu : Try.prog.underlying ty = some (.struct fs)) (hx : evX S.F x = some (.sv (.agg [I code, I at_])))
  (hw2 : wantE ops S.F o2 = some true) (hg2 : o2.guard = none) (ho2 : o2.op = .panic (.tmp d)) (hc : code ≠ 0) (hpan : PanC c (psStop ty) P) (hP : P) : WL c ops (o1 :: o2 :: rest) S N := fun a w ⟨g, hs, hk⟩ => by
 unfold wpList
 rw [if_pos (wantE_ok hk hw1)]
 refine .inl ?_
 unfold Oper.wp
 obtain ⟨cs, h1, h2⟩ := evX_ok hk hx
 have hcs : cs = [.int .i64 code, .int .i64 at_] := by
  match cs, h2 with
  | [c1, c2], h2 =>
   have e1 : c1 = .int .i64 code := h2.1.1
   have e2 : c2 = .int .i64 at_ := h2.2.2.1.1
   rw [e1, e2]
 subst hcs
 have hrun : (execOp a.eval o1).run Try.prog w = .ok (.value (.iface ty (.agg #[.int .i64 code, .int .i64 at_]))) w := by
  have : execOp a.eval o1 = (do pure (.value (← Instr.makeInterface ty (a.eval x))) : Sem Next) := by unfold execOp; rw [ho1]
  rw [this]
  refine run_val ?_
  simp only [Instr.makeInterface, Sem.run_bind, run_underlying hu, Result.andThen_ok, h1, Sem.run_pure]
 rw [hrun]
 show wpList Try.prog ops (OnlyP c N) (o2 :: rest) _ w
 unfold wpList
 have hwant : Region.wanted o2 (yielded ops (a.put o1.dst (.iface ty (.agg #[.int .i64 code, .int .i64 at_]))).tmps) = true := by unfold Region.wanted; rw [hg2]
 rw [if_pos hwant]
 refine .inl ?_
 unfold Oper.wp
 have hev : (a.put o1.dst (.iface ty (.agg #[.int .i64 code, .int .i64 at_]))).eval (.tmp d) = .iface ty (.agg #[.int .i64 code, .int .i64 at_]) := by
  rw [hd]
  have hsz : d < a.tmps.size := by rw [hk.size, hn]; exact Nat.le_of_ble_eq_true hdn
  simp [Act.put, Act.eval, hsz]
 have hrun2 : (execOp (a.put o1.dst (.iface ty (.agg #[.int .i64 code, .int .i64 at_]))).eval o2).run Try.prog w = .halt (.panic (.iface ty (.agg #[.int .i64 code, .int .i64 at_]))) w := by
  have : execOp (a.put o1.dst (.iface ty (.agg #[.int .i64 code, .int .i64 at_]))).eval o2 = (do pure (.value (← Instr.panic ((a.put o1.dst (.iface ty (.agg #[.int .i64 code, .int .i64 at_]))).eval (.tmp d)))) : Sem Next) := by unfold execOp; rw [ho2]
  rw [this, hev]
  rfl
 rw [hrun2]
 refine hpan _ _ w g ?_ ⟨code, at_, hc, rfl⟩ hP hk.base
 rw [hd]
 exact hk.defers
end
def byteAt (s : ByteArray) (i : Int) : Option Int := if 0 ≤ i then (s[i.toNat]?).map (fun b => ((b.toNat : Nat) : Int)) else none
section
variable {c : Cfg} {S S1 : St} {a : Act} {w : World} {g : Gh} {hs : Nat → Value} {tab : Tab} {n : Nat} {o : Oper} {ops : Array Oper} {rest : List Oper} {N : Po}
theorem val_indexS {x ix : Operand} {t : Nat} {s : ByteArray} {k : IntKind} {i b : Int} (ho : o.op = .index t x ix) (hu : Try.prog.underlying t = some .string) (hx : evX S.F x = some (.sv (.one (.v (.string s))))) (hi : evK S.F ix = some (.int k i)) (hb : byteAt s i = some b) : Val c S o (.sv (.one (.v (.int .u8 b)))) := fun a w g hs h => by
 have h1 : a.eval x = .string s := (evX_ok h hx).1
 unfold byteAt at hb
 split at hb
 ·rename_i h0
  cases hs : s[i.toNat]? with
  | none => rw [hs] at hb; cases hb
  | some y =>
   rw [hs] at hb
   simp at hb
   subst hb
   refine ⟨.int .u8 (y.toNat : Int), ?_, rfl, trivial⟩
   have e : execOp a.eval o = (do pure (.value (← Instr.index t (a.eval x) (a.eval ix))) : Sem Next) := by unfold execOp; rw [ho]
   rw [e]
   refine run_val ?_
   simp only [Instr.index, evK_ok h hi, asIntOf, h1, Sem.run_bind, Sem.run_pure, Result.andThen_ok, run_underlying hu, if_pos h0, hs]
 ·cases hb
theorem val_lenS {x : Operand} {t : Nat} {s : ByteArray} (ho : o.op = .call ⟨.builtin .len, #[x], #[t]⟩) (hu : Try.prog.underlying t = some .string) (hx : evX S.F x = some (.sv (.one (.v (.string s))))) : Val c S o (.sv (.one (I (s.size : Int)))) := fun a w g hs h => by
 have h1 : a.eval x = .string s := (evX_ok h hx).1
 refine ⟨.int .i64 s.size, ?_, rfl, trivial⟩
 have e : execOp a.eval o = (do pure (.value (← Builtin.len_ #[t] o.type #[a.eval x])) : Sem Next) := by
  unfold execOp
  rw [ho]
  simp [resolve, invoke, builtin]
 rw [e, h1]
 refine run_val ?_
 simp [Builtin.len_, run_underlying hu, goInt]
end
inductive Tr (α : Type) where
 | node (a : α) (kids : List (Tr α))
def Tr.lab {α : Type} : Tr α → α
 | .node a _ => a
def Tr.kids {α : Type} : Tr α → List (Tr α)
 | .node _ l => l
inductive TrOk {α : Type} (lab : α → List Value) (g : Gh) : Tr α → Value → Prop
 | mk (a : α) (kids : List (Tr α)) (b off : Nat) (ao : Option Addr) (cap b' o' : Nat) (us : Nat → Value)
   (h1 : ∀ j c, (lab a)[j]? = some c → g.cell ⟨b, off + j, none⟩ = some c) (h2 : g.cell ⟨b, off + (lab a).length, none⟩ = some (.slice ao kids.length cap))
   (h3 : kids.length ≤ cap) (h4 : cap ≤ maxLen) (h5 : ao = none → cap = 0) (h6 : 0 < kids.length → ao = some ⟨b', o', none⟩)
   (h7 : ∀ q x, kids[q]? = some x → g.cell ⟨b', o' + q, none⟩ = some (us q)) (h8 : ∀ q x, kids[q]? = some x → TrOk lab g x (us q)) : TrOk lab g (.node a kids) (.pointer (some ⟨b, off, none⟩))
theorem TrOk.mono {α : Type} {lab : α → List Value} {g g' : Gh} (hg : Gh.le g g') {t : Tr α} {v : Value} (h : TrOk lab g t v) : TrOk lab g' t v := by
 induction h with
 | mk a kids b off ao cap b' o' us h1 h2 h3 h4 h5 h6 h7 h8 ih => exact .mk a kids b off ao cap b' o' us (fun j c hj => Gh.cell_up hg (h1 j c hj)) (Gh.cell_up hg h2) h3 h4 h5 h6 (fun q x hx => Gh.cell_up hg (h7 q x hx)) ih
theorem TrOk.ptr {α : Type} {lab : α → List Value} {g : Gh} {t : Tr α} {v : Value} (h : TrOk lab g t v) : ∃ b off, v = .pointer (some ⟨b, off, none⟩) := by
 cases h
 exact ⟨_, _, rfl⟩
def trR {α : Type} (lab : α → List Value) (t : Tr α) : Rd := ⟨fun g v => TrOk lab g t v, fun _ _ _ hg h => h.mono hg⟩
abbrev TT {α : Type} (lab : α → List Value) : Ty (Tr α) := ⟨1, fun t => .one (.rd (trR lab t))⟩
def nodeS {α : Type} (lab : α → List Value) (a : α) (kids : List (Tr α)) : List At := (lab a).map .v ++ [LS (TT lab) kids]
theorem oks_vals {g : Gh} {hs : Nat → Value} : ∀ {l : List Value}, (∀ c ∈ l, cellV c) → oks g hs (l.map .v) l
 | [], _ => trivial
 | c :: _, h => ⟨⟨rfl, h c List.mem_cons_self⟩, h c List.mem_cons_self, oks_vals fun x hx => h x (List.mem_cons_of_mem _ hx)⟩
theorem vals_oks {g : Gh} {hs : Nat → Value} : ∀ {l us : List Value}, oks g hs (l.map .v) us → us = l
 | [], [], _ => rfl
 | [], _ :: _, h => h.elim
 | _ :: _, [], h => h.elim
 | c :: l, u :: us, h => by
  have h1 : u = c := h.1.1
  rw [h1, vals_oks h.2.2]
theorem oks_split {g : Gh} {hs : Nat → Value} : ∀ {l l' : List At} {us : List Value}, oks g hs (l ++ l') us → ∃ u1 u2, us = u1 ++ u2 ∧ oks g hs l u1 ∧ oks g hs l' u2
 | [], l', us, h => ⟨[], us, rfl, trivial, h⟩
 | _ :: _, _, [], h => h.elim
 | _ :: _, _, u :: _, h => by
  obtain ⟨u1, u2, e, h1, h2⟩ := oks_split h.2.2
  exact ⟨u :: u1, u2, by rw [e]; rfl, ⟨h.1, h.2.1, h1⟩, h2⟩
theorem oks_join {g : Gh} {hs : Nat → Value} : ∀ {l l' : List At} {us us' : List Value}, oks g hs l us → oks g hs l' us' → oks g hs (l ++ l') (us ++ us')
 | [], _, [], _, _, h => h
 | [], _, _ :: _, _, h, _ => h.elim
 | _ :: _, _, [], _, h, _ => h.elim
 | _ :: _, _, _ :: _, _, h, h' => ⟨h.1, h.2.1, oks_join h.2.2 h'⟩
theorem tr_pe {α : Type} {lab : α → List Value} (hl : ∀ a, ∀ c ∈ lab a, cellV c) {g : Gh} {t : Tr α} {v : Value} (h : TrOk lab g t v) : ptrTo (svR (.agg (nodeS lab t.lab t.kids))) ((lab t.lab).length + 1) g v := by
 cases h with
 | mk a kids b off ao cap b' o' us h1 h2 h3 h4 h5 h6 h7 h8 =>
  have hLS : oks g hs0 [LS (TT lab) kids] [Value.slice ao kids.length cap] := by
   refine ⟨⟨⟨⟨ao, kids.length, cap, rfl, rfl, h3, h4, h5, fun q x hx => ?_⟩, ao, cap, rfl⟩, trivial⟩, trivial, trivial⟩
   have hq := (List.getElem?_eq_some_iff.1 hx).1
   obtain ⟨b2, o2, e⟩ := (h8 q x hx).ptr
   have hc : (us q).cells = #[us q] := by rw [e]; rfl
   refine ⟨b', o', us q, h6 (by omega), ⟨h8 q x hx, by rw [e]; trivial⟩, by rw [hc]; rfl, fun j c hj => ?_⟩
   rw [hc] at hj
   cases j with
   | zero =>
    simp at hj
    subst hj
    have := h7 q x hx
    simpa using this
   | succ j => simp at hj
  refine ⟨b, off, .agg (lab a ++ [Value.slice ao kids.length cap]).toArray, rfl, ⟨_, rfl, oks_join (oks_vals (hl a)) hLS⟩, by simp [Value.cells, Tr.lab], fun j c hj => ?_⟩
  have hj : (lab a ++ [Value.slice ao kids.length cap])[j]? = some c := by simpa [Value.cells] using hj
  rw [List.getElem?_append] at hj
  split at hj
  ·exact h1 j c hj
  ·rename_i hn
   have : j = (lab a).length := by
    have := (List.getElem?_eq_some_iff.1 hj).1
    simp at this
    omega
   subst this
   simp at hj
   subst hj
   exact h2
theorem pe_tr {α : Type} {lab : α → List Value} {g : Gh} {a : α} {kids : List (Tr α)} {v : Value} (h : ptrTo (svR (.agg (nodeS lab a kids))) ((lab a).length + 1) g v) : TrOk lab g (.node a kids) v := by
 obtain ⟨b, off, x, rfl, ⟨cs, rfl, h1⟩, _, h2⟩ := h
 obtain ⟨u1, u2, rfl, k1, k2⟩ := oks_split h1
 have := vals_oks k1
 subst this
 match u2, k2 with
 | [u], k2 =>
  obtain ⟨⟨⟨ao, n, cap, rfl, rfl, h3, h4, h5, h6⟩, _⟩, _⟩ := k2.1
  have hc : ∀ j c, (lab a ++ [Value.slice ao kids.length cap])[j]? = some c → g.cell ⟨b, off + j, none⟩ = some c := fun j c hj => h2 j c (by simpa [Value.cells] using hj)
  have key : ∀ q, ∃ u : Value, ∀ x, kids[q]? = some x → ∃ b o, ao = some ⟨b, o, none⟩ ∧ TrOk lab g x u ∧ g.cell ⟨b, o + q, none⟩ = some u := fun q => by
   cases hq : kids[q]? with
   | none => exact ⟨undef, fun x hx => by cases hx⟩
   | some x =>
    obtain ⟨b', o', u, e, k3, k4, k5⟩ := h6 q x hq
    refine ⟨u, fun y hy => ?_⟩
    cases hy
    have k3 : TrOk lab g x u := k3.1
    obtain ⟨b2, o2, e2⟩ := k3.ptr
    have := k5 0 u (by rw [e2]; rfl)
    refine ⟨b', o', e, k3, ?_⟩
    simpa using this
  have hao : 0 < kids.length → ∃ b o, ao = some ⟨b, o, none⟩ := fun hp => by
   obtain ⟨b', o', u, e, _⟩ := h6 0 kids[0] (by simp [hp])
   exact ⟨b', o', e⟩
  by_cases hp : 0 < kids.length
  ·obtain ⟨b', o', rfl⟩ := hao hp
   refine .mk a kids b off _ cap b' o' (fun q => (key q).choose) (fun j c hj => hc j c (by rw [List.getElem?_append_left (List.getElem?_eq_some_iff.1 hj).1]; exact hj)) (hc _ _ (by simp)) h3 h4 h5 (fun _ => rfl) (fun q x hx => ?_) (fun q x hx => ?_)
   ·obtain ⟨b2, o2, e, _, k⟩ := (key q).choose_spec x hx
    cases e
    exact k
   ·obtain ⟨b2, o2, e, k, _⟩ := (key q).choose_spec x hx
    exact k
  ·have hk : kids = [] := by
    cases kids with
    | nil => rfl
    | cons _ _ => simp at hp
   subst hk
   exact .mk a [] b off ao cap 0 0 (fun _ => undef) (fun j c hj => hc j c (by rw [List.getElem?_append_left (List.getElem?_eq_some_iff.1 hj).1]; exact hj)) (hc _ _ (by simp)) h3 h4 h5 (fun h => by simp at h) (fun q x hx => by simp at hx) (fun q x hx => by simp at hx)
section
variable {c : Cfg} {S S1 : St} {a : Act} {w : World} {g : Gh} {hs : Nat → Value} {tab : Tab} {n : Nat} {o : Oper} {ops : Array Oper} {rest : List Oper} {N : Po}
theorem tree_of {α : Type} {lab : α → List Value} {x : α} {kids : List (Tr α)} {i ty : Nat} {cells : List At} {k : Nat} (hm : S.M[i]? = some (.box cells ty true)) (hc : cells = nodeS lab x kids) (hk : (lab x).length + 1 = k) : ∀ a w g hs, Ok' c S a w g hs → ∀ u, SC.ok g hs (.sv (.one (.ptr i 0))) u → SC.ok g hs (.sv (.one (.rd (trR lab (.node x kids))))) u := fun a w g hs h u hu => by
 obtain ⟨⟨b, h1, rfl⟩, _⟩ := hu
 obtain ⟨b', cs, h2, h3, h4, h5⟩ := h.items i _ hm
 rw [h1] at h2
 simp at h2
 subst h2
 subst hc
 have hg := h5 rfl
 have hrefs : (nodeS lab x kids).flatMap At.refs = [] := by
  unfold nodeS
  rw [List.flatMap_append]
  have : ((lab x).map At.v).flatMap At.refs = [] := by
   induction lab x with
   | nil => rfl
   | cons y l ih => simp [At.refs, ih]
  rw [this]
  rfl
 refine ⟨pe_tr ⟨b, 0, .agg cs.toArray, rfl, ⟨cs, rfl, oks_hs (fun i hi => by rw [hrefs] at hi; cases hi) h3⟩, ?_, fun j c hj => ?_⟩, trivial⟩
 ·have := oks_length h3
  simp only [nodeS, List.length_append, List.length_map, List.length_cons, List.length_nil] at this
  simp [Value.cells, ← this]
 ·unfold Gh.cell
  rw [hg]
  simpa [Value.cells] using hj
theorem node_of {α : Type} {lab : α → List Value} (hl : ∀ a, ∀ c ∈ lab a, cellV c) {t : Tr α} {s : SV} {k : Nat} (hs : SV.agg (nodeS lab t.lab t.kids) = s) (hk : (lab t.lab).length + 1 = k) : ∀ a w g hs', Ok' c S a w g hs' → ∀ u, SC.ok g hs' (.sv (.one (.rd (trR lab t)))) u → SC.ok g hs' (.sv (.one (.pe (svR s) k))) u := fun a w g hs' _ u hu => by
 subst hs hk
 exact ⟨tr_pe hl hu.1, hu.2⟩
theorem val_node {α : Type} {lab : α → List Value} (hl : ∀ a, ∀ c ∈ lab a, cellV c) {t : Tr α} {s : SV} {k : Nat} {x : Operand} (ho : o.op = .nilCheck x) (hx : evX S.F x = some (.sv (.one (.rd (trR lab t))))) (hs : SV.agg (nodeS lab t.lab t.kids) = s) (hk : (lab t.lab).length + 1 = k) : Val c S o (.sv (.one (.pe (svR s) k))) := fun a w g hs' h => by
 have h1 := evX_ok h hx
 have h2 : TrOk lab g t (a.eval x) := h1.1
 obtain ⟨b, off, e⟩ := h2.ptr
 exact ⟨a.eval x, by simp [execOp, ho, e], node_of hl hs hk a w g hs' h _ h1⟩
def optR {α : Type} (lab : α → List Value) (o : Option (Tr α)) : Rd := ⟨fun g v => match o with
 | none => v = .pointer none
 | some t => TrOk lab g t v, fun g g' v hg h => by
  cases o with
  | none => exact h
  | some t => exact h.mono hg⟩
theorem some_of {α : Type} {lab : α → List Value} {o : Option (Tr α)} {t : Tr α} (h : o = some t) : ∀ a w g hs, Ok' c S a w g hs → ∀ u, SC.ok g hs (.sv (.one (.rd (optR lab o)))) u → SC.ok g hs (.sv (.one (.rd (trR lab t)))) u := fun a w g hs _ u hu => by
 subst h
 exact hu
end
def RetL (fn : Func) (R : Ending → World → Prop) : Po := fun a w => Leaves Try.prog fn a.tmps R a.defers .returning w
theorem Ct.bodyD {β : Type} {f : Nat} {fn : Func} {code : Code} {n : Nat} {ins : List SC} {post : β → Prop} {out : β → SC} (hf : Try.prog.funcs[f]? = some fn) (hb : fn.body = some code) (hn : fn.ntmps = n) (hl : Nat.ble ins.length n = true)
  (h : ∀ (c : Cfg) (R : Ending → World → Prop), c.n = n → c.dfr = [] → (∀ v w' g' r, post r → (out r).ok g' hs0 v → Base c w' g' → R (.returned v) w') → (∀ ch a w', Leaves Try.prog fn a.tmps R a.defers (.panicking ch) w' → c.pan ch a w') → En c ⟨enumF 0 ins, []⟩ (cwp code (PQ c (RetL fn R) [] (RetL fn R)))) : Ct f ins [] post out := fun w g hs args hp ha hm => by
 have hl := Nat.le_of_ble_eq_true hl
 have hla := okArgs_length ha
 let R := RetP w g post out
 let c : Cfg := ⟨n, w, g, fun _ => False, [], fun ch a w' => Leaves Try.prog fn a.tmps R a.defers (.panicking ch) w'⟩
 have hR : ∀ v w' g' r, post r → (out r).ok g' hs0 v → Base c w' g' → R (.returned v) w' := fun v w' g' r h1 h2 h3 => ⟨v, g', r, rfl, h1, h2, h3.cast rfl rfl rfl⟩
 refine calls_of_wp_defers hf hb (Code.wp_mono (fun e a w' q => ?_) (h c R rfl rfl hR (fun _ _ _ h => h) { tmps := args.toArray ++ Array.replicate (fn.ntmps - args.toArray.size) undef, defers := [] } w ⟨g, hs, ?_⟩))
 ·cases e with
  | panic ch => exact q
  | normal => exact q
  | ret => exact q
  | exit _ => exact (q : False).elim
  | goto _ => exact (q : False).elim
  | outgrown => exact (q : False).elim
 ·refine ⟨?_, rfl, ⟨rfl, rfl, rfl, Nat.le_refl _, fun _ _ _ => rfl, Gh.le.refl g, fun b o e => .inl e, hp⟩, fun t x hx => ?_, fun i it hi => by simp at hi, fun i j it jt _ hi => by simp at hi, fun i it hi => by simp at hi⟩
  ·simp [c, hn]
   omega
  ·obtain ⟨u, h1, _, h3⟩ := enumF_ok ha hx
   simp only [Nat.sub_zero] at h1
   have hlt := (List.getElem?_eq_some_iff.1 h1).1
   have : (args.toArray ++ Array.replicate (fn.ntmps - args.toArray.size) undef).getD t undef = u := by
    rw [Array.getD_eq_getD_getElem?, Array.getElem?_append_left (by simpa using hlt)]
    simp [h1]
   rw [this]
   exact h3
def CtD (f : Nat) (M M' : List Item) (u u' : FrameMode) : Prop := ∀ (w : World) (g : Gh) (hs : Nat → Value), Pers g w → ItemsOk (fun _ => True) 0 M g hs w → (∃ b0 b1, hs 0 = .pointer (some ⟨b0, 0, none⟩) ∧ hs 1 = .pointer (some ⟨b1, 0, none⟩)) →
 CallsD Try.prog f #[hs 0, hs 1] u w (fun e u2 w' => u2 = u' ∧ ∃ v g' hs', e = .returned v ∧ (∀ i ∈ [0, 1], hs' i = hs i) ∧ Base (cfgM 0 w g (mayM M hs)) w' g' ∧ ItemsOk (mayM M hs) w.heap.size M' g' hs' w')
theorem CtD.body {f : Nat} {fn : Func} {id d n : Nat} {o : Oper} {y : Code} {M M' : List Item} {u u' : FrameMode} {pv : Value} (hf : Try.prog.funcs[f]? = some fn) (hb : fn.body = some (.seq (.region id #[o] false) y)) (hn : fn.ntmps = n) (hr : fn.results = #[]) (h2n : Nat.blt 2 n = true) (hdn : Nat.blt d n = true) (hd2 : Nat.blt 1 d = true)
  (hop : o.op = .call ⟨.builtin .recover, #[], #[]⟩) (hg : o.guard = none) (hod : o.dst = some d) (hrec : ∀ (c₀ : Frame) (cs : List Frame), c₀.mode = u → (match recoverD (c₀ :: cs) with
   | some (v, cs') => v = pv ∧ cs' = { c₀ with mode := u' } :: cs
   | none => .nilIface = pv ∧ u = u')) (hpv : cellV pv)
  (h : ∀ (c : Cfg) (B : Nat → Nat), c.n = n → En c ⟨[(0, .sv (.one (.pptr 0 0 (B 0)))), (1, .sv (.one (.pptr 1 0 (B 1)))), (d, .sv (.one (.v pv)))], M⟩ (cwp y (PQ c (RetE c #[] [0, 1] B (fun (_ : Unit) => True) (fun _ => .tup []) (fun _ => M')) [] (RetE c #[] [0, 1] B (fun (_ : Unit) => True) (fun _ => .tup []) (fun _ => M'))))) : CtD f M M' u u' := fun w g hs hp hm ⟨b0, b1, e0, e1⟩ => by
 have h2n := Nat.le_of_ble_eq_true h2n
 have hdn := Nat.le_of_ble_eq_true hdn
 have hd2 := Nat.le_of_ble_eq_true hd2
 refine callsD_of_wpS hf hb fun c₀ cs hu => ?_
 apply wpS_seq
 apply wpS_region
 have hl : List.range (#[o] : Array Oper).size = [0] := rfl
 rw [hl]
 let a0 : Act := { tmps := #[hs 0, hs 1] ++ Array.replicate (fn.ntmps - (#[hs 0, hs 1] : Array Value).size) undef, defers := [] }
 have hwant : Region.wanted o (yielded #[o] a0.tmps) = true := by unfold Region.wanted; rw [hg]
 have hrun : (execOp a0.eval o).run Try.prog w = .ok .recover w := by
  unfold execOp
  rw [hop]
  rfl
 have key : (y.wpS Try.prog (bodyPostS Try.prog fn c₀ cs fun e u2 w' => u2 = u' ∧ ∃ v g' hs', e = .returned v ∧ (∀ i ∈ [0, 1], hs' i = hs i) ∧ Base (cfgM 0 w g (mayM M hs)) w' g' ∧ ItemsOk (mayM M hs) w.heap.size M' g' hs' w') (a0.put (some d) pv) ({ c₀ with mode := u' } :: cs) w) := by
  refine wpS_of_wp ?_
  let B : Nat → Nat := fun i => if i = 0 then b0 else b1
  refine Code.wp_mono (fun e a w' q => ?_) (h (cfgM n w g (mayM M hs)) B rfl (a0.put (some d) pv) w ⟨g, hs, ?_⟩)
  ·have fin : RetE (cfgM n w g (mayM M hs)) #[] [0, 1] B (fun (_ : Unit) => True) (fun _ => .tup []) (fun _ => M') a w' → a.defers = [] ∧ ∃ u2, ({ c₀ with mode := u' } :: cs : List Frame) = { c₀ with mode := u2 } :: cs ∧ ∃ v, (results fn a.tmps).run Try.prog w' = .ok v w' ∧ (u2 = u' ∧ ∃ v' g' hs', Ending.returned v = .returned v' ∧ (∀ i ∈ [0, 1], hs' i = hs i) ∧ Base (cfgM 0 w g (mayM M hs)) w' g' ∧ ItemsOk (mayM M hs) w.heap.size M' g' hs' w') := fun ⟨h1, v, g', hs', _, h2, _, _, h5, h6, h7⟩ => by
    refine ⟨h1, u', rfl, v, ?_, rfl, v, g', hs', rfl, fun i hi => (h5 i hi).trans ?_, h6.cast rfl rfl rfl, h7⟩
    ·have := h2
     unfold results
     rw [hr]
     exact this
    ·simp at hi
     rcases hi with rfl | rfl
     ·exact e0.symm
     ·exact e1.symm
   cases e with
   | normal => exact fin q
   | ret => exact fin q
   | panic _ => exact (q : False).elim
   | exit _ => exact (q : False).elim
   | goto _ => exact (q : False).elim
   | outgrown => exact (q : False).elim
  ·have hsz : a0.tmps.size = n := by
    simp only [a0, Array.size_append, Array.size_replicate, hn, List.size_toArray, List.length_cons, List.length_nil]
    omega
   have hget : ∀ t v, t ≠ d → a0.tmps.getD t undef = v → (a0.put (some d) pv).tmps.getD t undef = v := fun t v ht hv => by
    simp only [Act.put]
    rw [Array.getD_eq_getD_getElem?, Array.getElem?_setIfInBounds_ne (Ne.symm ht), ← Array.getD_eq_getD_getElem?]
    exact hv
   refine ⟨by simp [Act.put, hsz], rfl, ⟨rfl, rfl, rfl, Nat.le_refl _, fun _ _ _ => rfl, Gh.le.refl g, fun b o e => .inl e, hp⟩, fun t x hx => ?_, hm.items, hm.sep, fun i it hi hn' b hb => ?_⟩
   ·simp only [List.mem_cons, List.not_mem_nil, or_false, Prod.mk.injEq] at hx
    rcases hx with ⟨rfl, rfl⟩ | ⟨rfl, rfl⟩ | ⟨rfl, rfl⟩
    ·rw [hget 0 (hs 0) (by omega) (by show (#[hs 0, hs 1] ++ Array.replicate _ undef : Array Value).getD 0 undef = hs 0; rw [Array.getD_eq_getD_getElem?, Array.getElem?_append_left (by simp)]; rfl)]
     exact ⟨⟨e0, e0⟩, by rw [e0]; trivial⟩
    ·rw [hget 1 (hs 1) (by omega) (by show (#[hs 0, hs 1] ++ Array.replicate _ undef : Array Value).getD 1 undef = hs 1; rw [Array.getD_eq_getD_getElem?, Array.getElem?_append_left (by simp)]; rfl)]
     exact ⟨⟨e1, e1⟩, by rw [e1]; trivial⟩
    ·have : (a0.put (some t) pv).tmps.getD t undef = pv := by
      have ht : t < a0.tmps.size := by omega
      simp [Act.put, ht]
     rw [this]
     exact ⟨rfl, hpv⟩
   ·obtain ⟨h1, h2⟩ := hm.mine i it hi hn' b hb
    exact ⟨h1, fun hf => ⟨.inl ⟨i, it, hi, hf, hb⟩, (h2 hf).2⟩⟩
 show wpOpsS Try.prog #[o] _ [0] a0 (c₀ :: cs) w
 have hr0 := hrec c₀ cs hu
 unfold wpOpsS
 have h0 : (#[o] : Array Oper)[0]? = some o := rfl
 rw [h0]
 simp only
 rw [if_pos hwant, hrun]
 simp only
 cases hrd : recoverD (c₀ :: cs) with
 | none =>
  rw [hrd] at hr0
  simp only at hr0 ⊢
  obtain ⟨k1, k2⟩ := hr0
  unfold wpOpsS
  show y.wpS Try.prog _ (a0.put o.dst .nilIface) (c₀ :: cs) w
  rw [hod, k1]
  have : c₀ = { c₀ with mode := u' } := by rw [← k2, ← hu]
  rw [this]
  exact key
 | some x =>
  obtain ⟨v, cs'⟩ := x
  rw [hrd] at hr0
  simp only at hr0 ⊢
  obtain ⟨rfl, rfl⟩ := hr0
  unfold wpOpsS
  show y.wpS Try.prog _ (a0.put o.dst v) _ w
  rw [hod]
  exact key
section
variable {c : Cfg} {S S1 : St} {a : Act} {w : World} {g : Gh} {hs : Nat → Value} {tab : Tab} {n : Nat} {o : Oper} {ops : Array Oper} {rest : List Oper} {N R : Po} {E : List (Nat × Po)}
theorem val_ifNil {x : Operand} {t : Nat} {b : TypeId} {y : Operand} {ty : Nat} {v : Value} (ho : o.op = .binOp .eql t x y b) (hx : evX S.F x = some (.sv (.one (.v (.iface ty v))))) (hy : evX S.F y = some (.sv (.one (.v .nilIface)))) (hrun : ∀ w, (do eqGuard .eql t x y (.iface ty v) .nilIface; binOp .eql t (.iface ty v) .nilIface : Sem Value).run Try.prog w = .ok (.bool false) w) : Val c S o (.sv (.one (B false))) := fun a w g hs h => by
 have h1 : a.eval x = .iface ty v := (evX_ok h hx).1
 have h2 : a.eval y = .nilIface := (evX_ok h hy).1
 refine ⟨_, ?_, rfl, trivial⟩
 have e : execOp a.eval o = (do pure (.value (← (do eqGuard .eql t x y (a.eval x) (a.eval y); binOp .eql t (a.eval x) (a.eval y) : Sem Value))) : Sem Next) := by unfold execOp; rw [ho]
 rw [e]
 refine run_val ?_
 rw [h1, h2]
 exact hrun w
theorem val_nilNil {x : Operand} {t : Nat} {b : TypeId} {y : Operand} (ho : o.op = .binOp .eql t x y b) (hx : evX S.F x = some (.sv (.one (.v .nilIface)))) (hy : evX S.F y = some (.sv (.one (.v .nilIface)))) (hrun : ∀ w, (do eqGuard .eql t x y .nilIface .nilIface; binOp .eql t .nilIface .nilIface : Sem Value).run Try.prog w = .ok (.bool true) w) : Val c S o (.sv (.one (B true))) := fun a w g hs h => by
 have h1 : a.eval x = .nilIface := (evX_ok h hx).1
 have h2 : a.eval y = .nilIface := (evX_ok h hy).1
 refine ⟨_, ?_, rfl, trivial⟩
 have e : execOp a.eval o = (do pure (.value (← (do eqGuard .eql t x y (a.eval x) (a.eval y); binOp .eql t (a.eval x) (a.eval y) : Sem Value))) : Sem Next) := by unfold execOp; rw [ho]
 rw [e]
 refine run_val ?_
 rw [h1, h2]
 exact hrun w
theorem val_assert {x : Operand} {t1 t2 : Nat} {ty : Nat} {cs : List Value} {l : List At} (ho : o.op = .typeAssert x t1 t2 true) (hx : evX S.F x = some (.sv (.one (.v (.iface ty (.agg cs.toArray)))))) (hl : l = cs.map .v) (hc : ∀ c ∈ cs, cellV c) (hrun : ∀ w, (Instr.typeAssert (.iface ty (.agg cs.toArray)) t1 t2 true).run Try.prog w = .ok (.tuple #[.agg cs.toArray, .bool true]) w) : Val c S o (.tup [.agg l, .one (B true)]) := fun a w g hs h => by
 have h1 : a.eval x = .iface ty (.agg cs.toArray) := (evX_ok h hx).1
 subst hl
 refine ⟨.tuple #[.agg cs.toArray, .bool true], ?_, [.agg cs.toArray, .bool true], rfl, ⟨cs, rfl, oks_vals hc⟩, ⟨rfl, trivial⟩, trivial⟩
 have e : execOp a.eval o = (do pure (.value (← Instr.typeAssert (a.eval x) t1 t2 true)) : Sem Next) := by unfold execOp; rw [ho]
 rw [e, h1]
 exact run_val (hrun w)
theorem WL.defer {F t0 t1 d i j : Nat} (hw : wantE ops S.F o = some true) (ho : o.op = .defer ⟨.value (.tmp d), #[], #[]⟩) (hd : o.dst = none) (hf : look d S.F = some (.sv (.one (.fn F [i, j])))) (h0 : look t0 S.F = some (.sv (.one (.ptr i 0)))) (h1 : look t1 S.F = some (.sv (.one (.ptr j 0)))) (hc : c.dfr = [])
  (h : ∀ (c' : Cfg) (B : Nat → Nat), c'.n = c.n → c'.w0 = c.w0 → c'.g0 = c.g0 → c'.may = c.may → c'.pan = c.pan → c'.dfr = [⟨.fn (.func F) #[.pointer (some ⟨B i, 0, none⟩), .pointer (some ⟨B j, 0, none⟩)], #[]⟩] → WL c' ops rest ⟨(t0, .sv (.one (.pptr i 0 (B i)))) :: (t1, .sv (.one (.pptr j 0 (B j)))) :: S.F, S.M⟩ N) : WL c ops (o :: rest) S N := fun a w ⟨g, hs, hk⟩ => by
 unfold wpList
 rw [if_pos (wantE_ok hk hw)]
 refine .inl ?_
 unfold Oper.wp
 have hfv : a.tmps.getD d undef = .func (.func F) #[] #[hs i, hs j] := (hk.slots d _ (look_mem hf)).1
 obtain ⟨B, eB0, eB1⟩ : ∃ B : Nat → Nat, hs i = .pointer (some ⟨B i, 0, none⟩) ∧ hs j = .pointer (some ⟨B j, 0, none⟩) := by
  obtain ⟨⟨b0, e0, _⟩, _⟩ := hk.slots t0 _ (look_mem h0)
  obtain ⟨⟨b1, e1, _⟩, _⟩ := hk.slots t1 _ (look_mem h1)
  refine ⟨fun k => if k = i then b0 else b1, by show hs i = .pointer (some ⟨if i = i then b0 else b1, 0, none⟩); rw [if_pos rfl]; exact e0, ?_⟩
  show hs j = .pointer (some ⟨if j = i then b0 else b1, 0, none⟩)
  by_cases e : j = i
  ·rw [if_pos e, e]; exact e0
  ·rw [if_neg e]; exact e1
 obtain ⟨⟨b0, e0, e0'⟩, _⟩ := hk.slots t0 _ (look_mem h0)
 obtain ⟨⟨b1, e1, e1'⟩, _⟩ := hk.slots t1 _ (look_mem h1)
 have k0 : b0 = B i := by rw [e0] at eB0; simpa using eB0
 have k1 : b1 = B j := by rw [e1] at eB1; simpa using eB1
 have hrun : (execOp a.eval o).run Try.prog w = .ok (.defer ⟨.fn (.func F) #[hs i, hs j], #[]⟩) w := by
  unfold execOp
  have hev : a.eval (.tmp d) = .func (.func F) #[] #[hs i, hs j] := hfv
  simp only [ho, resolve, hev, Deferred.ofValue, Sem.run_bind, Sem.run_pure, Result.andThen_ok]
  simp
 rw [hrun]
 show wpList Try.prog ops (OnlyP c N) rest _ w
 let c' : Cfg := { c with dfr := [⟨.fn (.func F) #[.pointer (some ⟨B i, 0, none⟩), .pointer (some ⟨B j, 0, none⟩)], #[]⟩] }
 have := h c' B rfl rfl rfl rfl rfl rfl ({ a with defers := ⟨.fn (.func F) #[hs i, hs j], #[]⟩ :: a.defers }.put o.dst undef) w ⟨g, hs, ?_⟩
 ·have e : OnlyP c' N = OnlyP c N := rfl
  rw [← e]
  exact this
 ·rw [hd]
  refine ⟨hk.size, ?_, hk.base.cast rfl rfl rfl, fun t x hx => ?_, hk.items, hk.sep, hk.mine⟩
  ·show (⟨.fn (.func F) #[hs i, hs j], #[]⟩ : Deferred) :: a.defers = _
   rw [hk.defers, hc, eB0, eB1]
  ·rcases List.mem_cons.1 hx with hx | hx
   ·cases hx
    exact ⟨⟨eB0, by rw [← k0]; exact e0'⟩, (hk.slots _ _ (look_mem h0)).2⟩
   ·rcases List.mem_cons.1 hx with hx | hx
    ·cases hx
     exact ⟨⟨eB1, by rw [← k1]; exact e1'⟩, (hk.slots _ _ (look_mem h1)).2⟩
    ·exact hk.slots t x hx
theorem En.cfg {c' : Cfg} {y : Code} (h : c'.pan = c.pan) (k : En c' S (cwp y (PQ c' N E R))) : En c' S (cwp y (PQ c N E R)) := by
 have e : PQ c N E R = PQ c' N E R := by
  funext ex a w
  cases ex <;> first | rfl | (show c.pan _ _ _ = c'.pan _ _ _; rw [h])
 rw [e]
 exact k
theorem Ok'.afterX (h : Ok' c S a w g hs) {M : List Item} {rn : List Nat} (hM : M.map (fun it => some (it.mv (rnF rn S.M.length))) = rn.map (fun j => S.M[j]?)) {w' : World} {g' : Gh} (hb : Base (cfgM 0 w g (mayM M (fun i => hs (rnF rn S.M.length i)))) w' g') : Ok' c ⟨S.F, goneM S.M rn⟩ a w' g' hs := by
 have hat : ∀ (i : Nat) (it : Item), M[i]? = some it → ∃ j, rn[i]? = some j ∧ rnF rn S.M.length i = j ∧ S.M[j]? = some (it.mv (rnF rn S.M.length)) := fun i it hi => by
  have := congrArg (·[i]?) hM
  simp only [List.getElem?_map, hi, Option.map_some] at this
  cases hr : rn[i]? with
  | none => rw [hr] at this; simp at this
  | some j =>
   rw [hr] at this
   simp at this
   have hlt := (List.getElem?_eq_some_iff.1 hr).1
   refine ⟨j, rfl, ?_, this.symm⟩
   unfold rnF
   rw [show Nat.blt i rn.length = true from by simpa [Nat.blt_eq] using hlt]
   simp [hr]
 have hmay : ∀ b, mayM M (fun i => hs (rnF rn S.M.length i)) b → ∃ j it, j ∈ rn ∧ S.M[j]? = some it ∧ it.fz = false ∧ Blk (hs j) b := fun b ⟨i, it, h1, h2, h3⟩ => by
  obtain ⟨j, h4, h5, h6⟩ := hat i it h1
  simp only [h5] at h3
  exact ⟨j, _, List.mem_of_getElem? h4, h6, by rw [Item.mv_fz]; exact h2, h3⟩
 have hoth : ∀ k jt b, k ∉ rn → S.M[k]? = some jt → jt ≠ .gone → Blk (hs k) b → ¬ mayM M (fun i => hs (rnF rn S.M.length i)) b := fun k jt b h1 h2 h3 h4 h5 => by
  obtain ⟨j, it, h6, h7, h8, h9⟩ := hmay b h5
  exact h.sep j k it jt (fun e => h1 (e ▸ h6)) h7 h2 h8 h3 b h9 h4
 refine ⟨h.size, h.defers, Base.callM h hM hb, fun t x hx => SC.mono hb.ghle (h.slots t x hx), fun k kt hk => ?_, fun k l kt lt hkl hk hl hf hn b hb1 => ?_, fun k kt hk hn b hb1 => ?_⟩
 ·by_cases hn : kt = .gone
  ·subst hn; trivial
  ·obtain ⟨h1, h2⟩ := goneM_get k kt hk hn
   exact Item.same hb.ghle (fun b hb1 => hb.frame b (h.mine k kt h2 hn b hb1).1 (hoth k kt b h1 h2 hn hb1)) (h.items k kt h2)
 ·obtain ⟨h1, h2⟩ := goneM_get k kt hk (fz_gone hf)
  obtain ⟨h3, h4⟩ := goneM_get l lt hl hn
  exact h.sep k l kt lt hkl h2 h4 hf hn b hb1
 ·obtain ⟨h1, h2⟩ := goneM_get k kt hk hn
  obtain ⟨m1, m2⟩ := h.mine k kt h2 hn b hb1
  refine ⟨Nat.lt_of_lt_of_le m1 hb.grows, fun hf => ⟨(m2 hf).1, ?_⟩⟩
  cases hg : g' b with
  | none => rfl
  | some o =>
   rcases hb.ghnew b o hg with h5 | h5 | h5
   ·have h6 := (m2 hf).2
    have h5 : g b = some o := h5
    rw [h6] at h5; cases h5
   ·exact absurd h5 (hoth k kt b h1 h2 hn hb1)
   ·have : w.heap.size ≤ b := h5
    omega
theorem leave_one {β : Type} {fn : Func} {R : Ending → World → Prop} {rs : Array ResultVar} {post : β → Prop} {out : β → SC} {f t0 t1 i j b0 b1 : Nat} {M M' : List Item} {u u' : FrameMode} {S2 : St} (ht : tab.ok) (hk : Ok' c S a w g hs) (hr : fn.results = rs) (hR : ∀ v w' g' r, post r → (out r).ok g' hs0 v → Base c w' g' → R (.returned v) w')
  (hdf : c.dfr = [⟨.fn (.func f) #[.pointer (some ⟨b0, 0, none⟩), .pointer (some ⟨b1, 0, none⟩)], #[]⟩]) (h0 : look t0 S.F = some (.sv (.one (.pptr i 0 b0)))) (h1 : look t1 S.F = some (.sv (.one (.pptr j 0 b1)))) (hu : u ≠ .run) (hs' : settle u' = .returning)
  (ct : CtD f M M' u u') (en : ∀ args w, (callFunc f args).run Try.prog w = .ok (.enter f args) w) (hM : M.map (fun it => some (it.mv (rnF [i, j] S.M.length))) = [i, j].map (fun j => S.M[j]?)) (hnd : [i, j].Nodup) (hal : aloneE S [i, j] [0, 1] = true) (hrf : refsB M' = true) (hlen : M.length ≤ M'.length) (hbk : backC [0, 1] M M' = true)
  (hS2 : S2 = ⟨S.F, putItems (rnF [i, j] S.M.length) S.M [i, j] M'⟩) (r : β) (hp : post r) (e : evR tab S2 rs = some (out r)) (hcl : (out r).refs = []) : Leaves Try.prog fn a.tmps R a.defers u w := by
 rw [hk.defers, hdf]
 have e0 : hs i = .pointer (some ⟨b0, 0, none⟩) := (hk.slots t0 _ (look_mem h0)).1.1
 have e1 : hs j = .pointer (some ⟨b1, 0, none⟩) := (hk.slots t1 _ (look_mem h1)).1.1
 refine leaves_cons (f := f) (args := #[.pointer (some ⟨b0, 0, none⟩), .pointer (some ⟨b1, 0, none⟩)]) hu (by
  simp only [invoke]
  rw [show (#[] ++ #[Value.pointer (some ⟨b0, 0, none⟩), Value.pointer (some ⟨b1, 0, none⟩)] : Array Value) = #[.pointer (some ⟨b0, 0, none⟩), .pointer (some ⟨b1, 0, none⟩)] by simp]
  exact en _ _) ?_
 have hr0 : rnF [i, j] S.M.length 0 = i := rfl
 have hr1 : rnF [i, j] S.M.length 1 = j := rfl
 have hcall := ct w g (fun k => hs (rnF [i, j] S.M.length k)) hk.base.pers (items_in hk hM hnd) ⟨b0, b1, by rw [hr0]; exact e0, by rw [hr1]; exact e1⟩
 simp only [hr0, hr1, e0, e1] at hcall
 refine hcall.mono ?_
 rintro e' u2 w' ⟨rfl, v, g', hs'', rfl, k1, k2, k3⟩
 show Leaves Try.prog fn a.tmps R [] (settle u2) w'
 rw [hs']
 obtain ⟨hsN, n1, n2⟩ := hk.backE hM hnd hal hrf hlen (backB_of hbk) (fun q hq => k1 q hq) (fun q hq => by simp at hq; rcases hq with rfl | rfl <;> simp) k2 k3
 rw [← hS2] at n1
 obtain ⟨v', r1, r2⟩ := evR_ok ht n1 e
 refine ⟨v', ?_, hR v' w' g' r hp (SC.ok_closed hcl r2) n1.base⟩
 subst hr
 exact r1
theorem En.backD {β : Type} {fn : Func} {R : Ending → World → Prop} {rs : Array ResultVar} {post : β → Prop} {out : β → SC} {f b0 b1 : Nat} {M M' : List Item} {S2 : St} (t0 t1 i j : Nat) (ht : tab.ok) (hr : fn.results = rs) (hR : ∀ v w' g' r, post r → (out r).ok g' hs0 v → Base c w' g' → R (.returned v) w')
  (hdf : c.dfr = [⟨.fn (.func f) #[.pointer (some ⟨b0, 0, none⟩), .pointer (some ⟨b1, 0, none⟩)], #[]⟩]) (h0 : look t0 S.F = some (.sv (.one (.pptr i 0 b0)))) (h1 : look t1 S.F = some (.sv (.one (.pptr j 0 b1))))
  (ct : CtD f M M' .returning .returning) (en : ∀ args w, (callFunc f args).run Try.prog w = .ok (.enter f args) w) (hM : M.map (fun it => some (it.mv (rnF [i, j] S.M.length))) = [i, j].map (fun j => S.M[j]?)) (hnd : [i, j].Nodup) (hal : aloneE S [i, j] [0, 1] = true) (hrf : refsB M' = true) (hlen : M.length ≤ M'.length) (hbk : backC [0, 1] M M' = true)
  (hS2 : S2 = ⟨S.F, putItems (rnF [i, j] S.M.length) S.M [i, j] M'⟩) (r : β) (hp : post r) (e : evR tab S2 rs = some (out r)) (hcl : (out r).refs = []) : En c S (RetL fn R) := fun a w ⟨g, hs, hk⟩ =>
 leave_one ht hk hr hR hdf h0 h1 (by simp) rfl ct en hM hnd hal hrf hlen hbk hS2 r hp e hcl
theorem En.backD0 {β : Type} {fn : Func} {R : Ending → World → Prop} {rs : Array ResultVar} {post : β → Prop} {out : β → SC} (ht : tab.ok) (hr : fn.results = rs) (hR : ∀ v w' g' r, post r → (out r).ok g' hs0 v → Base c w' g' → R (.returned v) w') (hdf : c.dfr = []) (r : β) (hp : post r) (e : evR tab S rs = some (out r)) (hcl : (out r).refs = []) : En c S (RetL fn R) := fun a w ⟨g, hs, hk⟩ => by
 show Leaves Try.prog fn a.tmps R a.defers .returning w
 rw [hk.defers, hdf]
 obtain ⟨v', r1, r2⟩ := evR_ok ht hk e
 refine ⟨v', ?_, hR v' w g r hp (SC.ok_closed hcl r2) hk.base⟩
 subst hr
 exact r1
theorem leftD {β : Type} {fn : Func} {R : Ending → World → Prop} {rs : Array ResultVar} {post : β → Prop} {out : β → SC} {f b0 b1 ty : Nat} {M M0 : List Item} {M' : Int → Int → List Item} {rn : List Nat} {S2 : Int → Int → St} (t0 t1 i j : Nat) (ht : tab.ok) (hr : fn.results = rs) (hR : ∀ v w' g' r, post r → (out r).ok g' hs0 v → Base c w' g' → R (.returned v) w') (hpan : ∀ ch a w', Leaves Try.prog fn a.tmps R a.defers (.panicking ch) w' → c.pan ch a w')
  (hdf : c.dfr = [⟨.fn (.func f) #[.pointer (some ⟨b0, 0, none⟩), .pointer (some ⟨b1, 0, none⟩)], #[]⟩]) (h0 : look t0 S.F = some (.sv (.one (.pptr i 0 b0)))) (h1 : look t1 S.F = some (.sv (.one (.pptr j 0 b1))))
  (ct : ∀ code at_, code ≠ 0 → CtD f M (M' code at_) (.panicking [{ v := .iface ty (.agg #[.int .i64 code, .int .i64 at_]), recovered := false }]) (.panicking [{ v := .iface ty (.agg #[.int .i64 code, .int .i64 at_]), recovered := true }])) (en : ∀ args w, (callFunc f args).run Try.prog w = .ok (.enter f args) w)
  (hMc : M0.map (fun it => some (it.mv (rnF rn S.M.length))) = rn.map (fun j => S.M[j]?)) (hM : M.map (fun it => some (it.mv (rnF [i, j] (goneM S.M rn).length))) = [i, j].map (fun j => (goneM S.M rn)[j]?)) (hnd : [i, j].Nodup) (hal : aloneE ⟨S.F, goneM S.M rn⟩ [i, j] [0, 1] = true) (hrf : ∀ code at_, refsB (M' code at_) = true) (hlen : ∀ code at_, M.length ≤ (M' code at_).length) (hbk : ∀ code at_, backC [0, 1] M (M' code at_) = true)
  (hS2 : ∀ code at_, S2 code at_ = ⟨S.F, putItems (rnF [i, j] (goneM S.M rn).length) (goneM S.M rn) [i, j] (M' code at_)⟩) (r : Int → Int → β) (hp : ∀ code at_, code ≠ 0 → post (r code at_)) (e : ∀ code at_, evR tab (S2 code at_) rs = some (out (r code at_))) (hcl : ∀ code at_, (out (r code at_)).refs = []) : LeftX c S M0 rn (psStop ty) := fun a w g hs hk ch w' g' ⟨code, at_, hc, hch⟩ hb _ => by
 subst hch
 refine hpan _ a w' ?_
 have hk2 := hk.afterX hMc hb
 exact leave_one (S := ⟨S.F, goneM S.M rn⟩) ht hk2 hr hR hdf h0 h1 (by simp) rfl (ct code at_ hc) en hM hnd hal (hrf code at_) (hlen code at_) (hbk code at_) (hS2 code at_) (r code at_) (hp code at_ hc) (e code at_) (hcl code at_)
theorem optNil {α : Type} {lab : α → List Value} : ∀ a w g hs, Ok' c S a w g hs → ∀ u, At.ok g hs (.v (.pointer none)) u → At.ok g hs (.rd (optR lab (none : Option (Tr α)))) u := fun a w g hs _ u h => h
theorem optSome {α : Type} {lab : α → List Value} {t : Tr α} : ∀ a w g hs, Ok' c S a w g hs → ∀ u, At.ok g hs (.rd (trR lab t)) u → At.ok g hs (.rd (optR lab (some t))) u := fun a w g hs _ u h => h
theorem hR_cast {β : Type} {R : Ending → World → Prop} {post : β → Prop} {out : β → SC} {c' : Cfg} (h1 : c'.w0 = c.w0) (h2 : c'.g0 = c.g0) (h3 : c'.may = c.may) (hR : ∀ v w' g' r, post r → (out r).ok g' hs0 v → Base c w' g' → R (.returned v) w') : ∀ v w' g' r, post r → (out r).ok g' hs0 v → Base c' w' g' → R (.returned v) w' := fun v w' g' r k1 k2 k3 => hR v w' g' r k1 k2 (k3.cast h1.symm h2.symm h3.symm)
theorem hpan_cast {fn : Func} {R : Ending → World → Prop} {c' : Cfg} (h : c'.pan = c.pan) (hpan : ∀ ch a w', Leaves Try.prog fn a.tmps R a.defers (.panicking ch) w' → c.pan ch a w') : ∀ ch a w', Leaves Try.prog fn a.tmps R a.defers (.panicking ch) w' → c'.pan ch a w' := fun ch a w' k => by rw [h]; exact hpan ch a w' k
end
abbrev FO (ro : Option Nat) : Fence := { Fence.wide with round := ro }
abbrev cwpF (ro : Option Nat) (code : Code) (Q : Exit → Act → World → Prop) : Po := fun a w => Code.wpIn (FO ro) 0 Try.prog code Q a w
theorem callsFO {ro : Option Nat} {f : Nat} {args : Array Value} {w : World} {R : Ending → World → Prop} (h : Calls Try.prog f args w R) : CallsIn (FO ro) 0 Try.prog f args w R := (callsIn_wide (n := 0)).2 h
theorem rowsFO {ro : Option Nat} {row : String} {args : Array Value} {w : World} {R : Value → World → Prop} (h : Rows Try.prog row args w R) : RowsIn (FO ro) 0 Try.prog row args w R := fun c cs _ =>
 let ⟨v, w', r, s⟩ := h c cs
 ⟨v, w', r, stepsIn_wide.2 s⟩
def noDefer (o : Oper) : Bool := match o.op with
 | .defer _ => false
 | _ => true
theorem noDefer_ok {o : Oper} (h : noDefer o = true) (c : Call) : o.op ≠ .defer c := fun e => by
 unfold noDefer at h
 rw [e] at h
 cases h
theorem listIn_app {c : Cfg} {N : Po} {ro : Option Nat} {ops : Array Oper} {Q : Exit → Act → World → Prop} {rest : List Oper} (hN : ∀ a w, N a w → wpListIn (FO ro) 0 Try.prog ops Q rest a w) (hP : ∀ ch a w, c.pan ch a w → Q (.panic ch) a w) : ∀ {l : List Oper} {a : Act} {w : World}, l.all noDefer = true → wpList Try.prog ops (OnlyP c N) l a w → wpListIn (FO ro) 0 Try.prog ops Q (l ++ rest) a w
 | [], _, _, _, h => hN _ _ h
 | o :: l, a, w, hd, h => by
  have hQ : ¬ LetsOut (OnlyP c N) := fun ⟨_, _, h⟩ => h
  unfold wpList at h
  rw [List.cons_append]
  unfold wpListIn
  rw [List.all_cons, Bool.and_eq_true] at hd
  have ih : ∀ {a w}, wpList Try.prog ops (OnlyP c N) l a w → wpListIn (FO ro) 0 Try.prog ops Q (l ++ rest) a w := listIn_app hN hP hd.2
  by_cases hw : Region.wanted o (yielded ops a.tmps) = true
  ·rw [if_pos hw] at h ⊢
   rcases h with h | ⟨_, h⟩
   ·refine ⟨fun _ _ => trivial, ?_⟩
    rw [Oper.semAt_eq _ _ _ (noDefer_ok hd.1)]
    unfold Oper.wp at h
    generalize (execOp a.eval o).run Try.prog w = r at h ⊢
    cases r with
    | ok nx w' =>
     cases nx with
     | value v => exact ih h
     | skip => exact ih h
     | defer d => exact ih h
     | enter f args =>
      refine ⟨fun h => (by cases h), callsFO (Calls.mono h fun e w'' k => ?_)⟩
      cases e with
      | returned v => exact ih k
      | panicked ch => exact hP _ _ _ k
      | outgrown => exact absurd k hQ
     | row row args => exact ⟨fun h => (by cases h), rowsFO (Rows.mono h fun v w'' k => ih k)⟩
     | _ => exact (h : False).elim
    | halt x w' => cases x <;> first | exact hP _ _ _ h | exact (h : False).elim
   ·exact absurd h hQ
  ·rw [if_neg hw] at h ⊢
   exact ⟨fun _ _ => trivial, ih h⟩
theorem listIn {c : Cfg} {N : Po} {ro : Option Nat} {ops : Array Oper} {l : List Oper} {a : Act} {w : World} (hd : l.all noDefer = true) (h : wpList Try.prog ops (OnlyP c N) l a w) : wpListIn (FO ro) 0 Try.prog ops (OnlyP c N) l a w := by
 have := listIn_app (ro := ro) (Q := OnlyP c N) (rest := []) (fun a w h => h) (fun ch a w h => h) hd h
 rwa [List.append_nil] at this
section
variable {c : Cfg} {S S' : St} {N R : Po} {E : List (Nat × Po)} {ro : Option Nat}
theorem EnF.seq {x y : Code} (h : En c S (cwpF ro x (PQ c (cwpF ro y (PQ c N E R)) E R))) : En c S (cwpF ro (.seq x y) (PQ c N E R)) := fun a w hk => by
 refine wpIn_seq (wpIn_mono (h a w hk) (fun e a w q => ?_))
 cases e <;> exact q
theorem EnF.skip (h : En c S N) : En c S (cwpF ro .skip (PQ c N E R)) := fun a w hk => wpIn_skip (h a w hk)
theorem EnF.ret (h : En c S R) : En c S (cwpF ro .ret (PQ c N E R)) := fun a w hk => wpIn_ret (h a w hk)
theorem EnF.exit {i : Nat} {p : Po} (e : lookE E i = p) (h : En c S p) : En c S (cwpF ro (.exit i) (PQ c N E R)) := fun a w hk => wpIn_exit (by show lookE E i a w; rw [e]; exact h a w hk)
theorem EnF.block {i : Nat} {x : Code} (h : En c S (cwpF ro x (PQ c N ((i, N) :: E) R))) : En c S (cwpF ro (.block i x) (PQ c N E R)) := fun a w hk => by
 refine wpIn_block (wpIn_mono (h a w hk) (fun e a w q => ?_))
 cases e <;> try exact q
 rename_i j
 have q' : lookE ((i, N) :: E) j a w := q
 show if j = i then N a w else lookE E j a w
 have e : lookE ((i, N) :: E) j = match Nat.beq i j with
  | true => N
  | false => lookE E j := rfl
 rw [e] at q'
 cases hb : Nat.beq i j with
 | true =>
  rw [hb] at q'
  rw [if_pos (Nat.eq_of_beq_eq_true hb).symm]
  exact q'
 | false =>
  rw [hb] at q'
  rw [if_neg (fun h => by subst h; simp at hb)]
  exact q'
theorem EnF.cond {b : Bool} {o : Operand} {x y : Code} {Q : Exit → Act → World → Prop} (hb : evK S.F o = some (.bool b)) (ht : b = true → En c S (cwpF ro x Q)) (hf : b = false → En c S (cwpF ro y Q)) : En c S (cwpF ro (.cond o x y) Q) := fun a w hk => by
 obtain ⟨g, hs, h⟩ := hk
 refine wpIn_cond_split (t := b) (evK_ok h hb) (fun e => ht e a w ⟨g, hs, h⟩) (fun e => hf e a w ⟨g, hs, h⟩)
theorem EnF.region {id : Nat} {l : List Oper} (hd : l.all noDefer = true) (h : WL c l.toArray l S N) : En c S (cwpF ro (.region id l.toArray false) (PQ c N E R)) := fun a w hk => by
 refine wpIn_mono (wpIn_region_lit (listIn hd (h a w hk))) (fun e a w q => ?_)
 cases e <;> first | exact q | exact (q : False).elim
end
structure Ext (w w' : World) : Prop where
 os : w'.os = w.os
 tape : w'.tape = w.tape
 output : w'.output = w.output
 size : w.heap.size ≤ w'.heap.size
 block : ∀ b, b < w.heap.size → w'.heap[b]? = w.heap[b]?
abbrev cfgR (n : Nat) (w : World) : Cfg := ⟨n, w, w.gh, fun _ => False, [], fun _ _ _ => False⟩
theorem ext_of {n : Nat} {w w' : World} {g : Gh} (h : Base (cfgR n w) w' g) : Ext w w' := ⟨h.os, h.tape, h.output, h.grows, fun b hb => h.frame b hb (fun h => h)⟩
theorem wpIn_regionOk {ro : Option Nat} {c : Cfg} {S S1 : St} {id : Nat} {l : List Oper} {Q : Exit → Act → World → Prop} {a : Act} {w : World} (hd : l.all noDefer = true) (hk : Ok c S a w) (hl : ∀ N, En c S1 N → WL c l.toArray l S N) (hp : ∀ ch a w, c.pan ch a w → Q (.panic ch) a w) (hq : ∀ a w, Ok c S1 a w → Q .normal a w) : (Code.region id l.toArray false).wpIn (FO ro) 0 Try.prog Q a w := by
 refine wpIn_region_lit ?_
 have := listIn_app (c := c) (N := fun a w => Ok c S1 a w) (ro := ro) (ops := l.toArray) (Q := Q) (rest := []) (fun a w h => hq a w h) hp hd (hl _ (fun a w h => h) a w hk)
 rwa [List.append_nil] at this
theorem wpIn_regionAt (k : Nat) {ro : Option Nat} {c : Cfg} {S S1 : St} {id : Nat} {l : List Oper} {Q : Exit → Act → World → Prop} {a : Act} {w : World} (hd : (l.take k).all noDefer = true) (hk : Ok c S a w) (hl : ∀ N, En c S1 N → WL c l.toArray (l.take k) S N) (hp : ∀ ch a w, c.pan ch a w → Q (.panic ch) a w) (hq : ∀ a w, Ok c S1 a w → wpListIn (FO ro) 0 Try.prog l.toArray Q (l.drop k) a w) : (Code.region id l.toArray false).wpIn (FO ro) 0 Try.prog Q a w := by
 refine wpIn_region_lit ?_
 have := listIn_app (c := c) (N := fun a w => Ok c S1 a w) (ro := ro) (ops := l.toArray) (Q := Q) (rest := l.drop k) hq hp hd (hl _ (fun a w h => h) a w hk)
 rwa [List.take_append_drop] at this
theorem listIn_step {ro : Option Nat} {ops : Array Oper} {Q : Exit → Act → World → Prop} {rest : List Oper} {o : Oper} {a : Act} {w : World} (hw : Region.wanted o (yielded ops a.tmps) = true) (hd : noDefer o = true) (h : o.uponIn (FO ro) 0 Try.prog a (wpListIn (FO ro) 0 Try.prog ops Q rest) Q ((execOp a.eval o).run Try.prog w)) : wpListIn (FO ro) 0 Try.prog ops Q (o :: rest) a w := by
 unfold wpListIn
 rw [if_pos hw]
 refine ⟨fun _ _ => trivial, ?_⟩
 rw [Oper.semAt_eq _ _ _ (noDefer_ok hd)]
 exact h
theorem listIn_ok {ro : Option Nat} {c : Cfg} {S S1 : St} {ops : Array Oper} {l : List Oper} {Q : Exit → Act → World → Prop} {a : Act} {w : World} (hd : l.all noDefer = true) (hk : Ok c S a w) (hl : ∀ N, En c S1 N → WL c ops l S N) (hp : ∀ ch a w, c.pan ch a w → Q (.panic ch) a w) (hq : ∀ a w, Ok c S1 a w → Q .normal a w) : wpListIn (FO ro) 0 Try.prog ops Q l a w := by
 have := listIn_app (c := c) (N := fun a w => Ok c S1 a w) (ro := ro) (ops := ops) (Q := Q) (rest := []) (fun a w h => hq a w h) hp hd (hl _ (fun a w h => h) a w hk)
 rwa [List.append_nil] at this
theorem put_other {a : Act} {d t : Nat} {v : Value} (h : t ≠ d) : (a.put (some d) v).tmps.getD t undef = a.tmps.getD t undef := by
 simp only [Act.put]
 rw [Array.getD_eq_getD_getElem?, Array.getElem?_setIfInBounds_ne (Ne.symm h), ← Array.getD_eq_getD_getElem?]
theorem put_same {a : Act} {d : Nat} {v : Value} (h : d < a.tmps.size) : (a.put (some d) v).tmps.getD d undef = v := by simp [Act.put, h]
theorem put_size {a : Act} {d : Nat} {v : Value} : (a.put (some d) v).tmps.size = a.tmps.size := by simp [Act.put]
theorem ok_slots {n : Nat} {w : World} {a : Act} {F : List (Nat × SC)} (hz : a.tmps.size = n) (hd : a.defers = []) (hF : ∀ t x, (t, x) ∈ F → x.ok w.gh hs0 (a.tmps.getD t undef)) : Ok (cfgR n w) ⟨F, []⟩ a w :=
 ⟨w.gh, hs0, hz, hd, ⟨rfl, rfl, rfl, Nat.le_refl _, fun _ _ _ => rfl, Gh.le.refl _, fun b o e => .inl e, gh_pers w⟩, hF, fun i it hi => by simp at hi, fun i j it jt _ hi => by simp at hi, fun i it hi => by simp at hi⟩
theorem run_yieldOp {o : Oper} {a : Act} {w : World} {fo x y : Operand} {ats : Array TypeId} {L : Nat} {rec : Loop} {u v : Value} (ho : o.op = .call ⟨.value fo, #[x, y], ats⟩) (hf : a.eval fo = .func (.yield L) #[] #[]) (hx : a.eval x = u) (hy : a.eval y = v) (hL : w.heap[L]? = some (.loop rec)) (hps : rec.params.size = 2) :
  (execOp a.eval o).run Try.prog w = .ok (.round L rec.fn ((rec.params.zip #[u, v]).foldl (fun t (p, v) => t.setIfInBounds p v) rec.tmps) rec.assign rec.body) w := by
 unfold execOp
 simp only [ho, resolve, hf, Deferred.ofValue, Sem.run_bind, Sem.run_pure, Result.andThen_ok, invoke]
 have := run_yield (P := Try.prog) (args := #[u, v]) hL hps.symm
 simpa [hx, hy] using this
theorem roundIn_panic {l f : Nat} {fn : Func} {tmps : Array Value} {assign body : Code} {w : World} {R : Ending → World → Prop} (hf : Try.prog.funcs[f]? = some fn)
  (h : assign.wpIn (FO (some l)) 0 Try.prog (Exit.then (fun a₁ w₁ => ∃ w₂, (Instr.beginRound l).run Try.prog w₁ = .ok () w₂ ∧ body.wpIn (FO (some l)) 0 Try.prog (fun e a w => ∃ ch, e = .panic ch ∧ a.defers = [] ∧ R (.panicked ch) w) a₁ w₂) (fun _ _ _ => False)) { tmps := tmps, defers := [] } w) : RoundIn Fence.wide 0 Try.prog l f tmps assign body w R := by
 refine ⟨trivial, fun c cs _ => ?_⟩
 let b : Frame := { (default : Frame) with fn := f, kind := .normal, roundOf := some l }
 have hb0 : Frame.round l f tmps assign body .normal = b.atR { tmps := tmps, defers := [] } [.code assign, .beginRound, .code body] := by simp [Frame.round, Frame.atR, b]
 obtain ⟨e, a₁, w₁, hq, harr⟩ := h b [.beginRound, .code body] (c :: cs) rfl trivial (room_wide _)
 rw [← hb0] at harr
 cases e with
 | normal =>
  obtain ⟨w₂, hbr, hbody⟩ := hq
  have s1 : StepsIn (Machine.fenced Try.prog Fence.wide) Try.prog (lone (b.atR a₁ [.beginRound, .code body]) (c :: cs) w₁) (lone (b.atR a₁ [.code body]) (c :: cs) w₂) := .one (fenced_wide _ _) (stepR_beginRound rfl hbr)
  obtain ⟨e₂, a₂, w₃, ⟨ch, rfl, hd, hR⟩, todo, hs⟩ := hbody b [] (c :: cs) rfl trivial (room_wide _)
  exact ⟨.panicked ch, w₃, hR, (StepsIn.trans harr s1).trans (StepsIn.trans hs (.one (fenced_wide _ _) (step_leave_panicked ⟨rfl, hd, fn, hf⟩)))⟩
 | exit id => exact hq.elim
 | goto t => exact hq.elim
 | ret => exact hq.elim
 | panic ch => exact hq.elim
 | outgrown => exact hq.elim
section
variable {c : Cfg} {S : St} {a : Act} {w : World} {g : Gh} {hs : Nat → Value}
theorem Ok'.turn (h : Ok' c S a w g hs) {L : Nat} {o : Obj} (hm : c.may L ∨ c.w0.heap.size ≤ L) (hg : g L = none) (hL : ∀ (i : Nat) (it : Item), S.M[i]? = some it → it ≠ .gone → ¬ Blk (hs i) L) : Ok' c S a (w.putObj L o) g hs := by
 have hb : ∀ b, b ≠ L → (w.putObj L o).heap[b]? = w.heap[b]? := fun b hb => World.putObj_heap_other hb
 have hz : (w.putObj L o).heap.size = w.heap.size := by simp [World.putObj]
 refine ⟨h.size, h.defers, ⟨h.base.os, h.base.tape, h.base.output, by rw [hz]; exact h.base.grows, fun b h1 h2 => ?_, h.base.ghle, h.base.ghnew, fun b o' e => ?_⟩, h.slots, fun i it hi => ?_, h.sep, fun i it hi hn b h1 => ?_⟩
 ·refine (hb b fun e => ?_).trans (h.base.frame b h1 h2)
  subst e
  rcases hm with hm | hm
  ·exact h2 hm
  ·omega
 ·refine (hb b fun e2 => ?_).trans (h.base.pers b o' e)
  subst e2
  rw [hg] at e
  cases e
 ·by_cases hn : it = .gone
  ·subst hn
   trivial
  ·exact Item.same (Gh.le.refl g) (fun b h1 => hb b fun e => hL i it hi hn (e ▸ h1)) (h.items i it hi)
 ·rw [hz]
  exact h.mine i it hi hn b h1
theorem Ok'.apart (h : Ok' c S a w g hs) {L : Nat} {o : Obj} (ho : w.heap[L]? = some o) (hg : g L = none) (hk : ∀ (cs : Array Value) t z, o ≠ .cells cs t z) (hM : ∀ it ∈ S.M, match it with | .box _ _ _ => True | .row _ _ _ _ => True | .gone => True | _ => False) : ∀ (i : Nat) (it : Item), S.M[i]? = some it → it ≠ .gone → ¬ Blk (hs i) L := fun i it hi hn hb => by
 have hm := hM it (List.mem_iff_getElem?.2 ⟨i, hi⟩)
 have hit := h.items i it hi
 cases it with
 | box cells ty fz =>
  obtain ⟨b, cs, h1, h2, h3, _⟩ := hit
  rw [h1] at hb
  cases hb
  rw [ho] at h3
  cases h3
  exact hk _ _ _ rfl
 | row ty s r n =>
  obtain ⟨cs, ⟨_, h1⟩, _⟩ := hit
  rcases h1 with ⟨h1, _⟩ | ⟨b, of, cap, cur, h1, h2, _⟩
  ·rw [h1] at hb
   cases hb
  ·rw [h1] at hb
   cases hb
   rw [ho] at h2
   cases h2
   exact hk _ _ _ rfl
 | gone => exact hn rfl
 | map _ => exact hm
 | iter _ _ => exact hm
 | siter _ _ => exact hm
 | grid _ _ _ _ _ => exact hm
end
def bkR (f ty : Nat) (v : Value) : Rd := ⟨fun g u => ∃ b, u = .func (.func f) #[] #[.pointer (some ⟨b, 0, none⟩)] ∧ g b = some (.cells #[v] ty (0, 0)), fun g g' u hg ⟨b, h1, h2⟩ => ⟨b, h1, hg _ _ h2⟩⟩
theorem bk_of {c : Cfg} {S : St} {f i ty : Nat} {v : Value} (hv : cellV v) (hm : S.M[i]? = some (.box [.v v] ty true)) : ∀ a w g hs, Ok' c S a w g hs → ∀ u, SC.ok g hs (.sv (.one (.fn f [i]))) u → SC.ok g hs (.sv (.one (.rd (bkR f ty v)))) u := fun a w g hs h u ⟨hu, _⟩ => by
 obtain ⟨b, cs, h1, h2, h3, h4⟩ := h.items i _ hm
 have hu : u = .func (.func f) #[] ([i].map hs).toArray := hu
 match cs, h2, h3, h4 with
 | [x], ⟨⟨hx, _⟩, _, _⟩, h3, h4 =>
  have hx : x = v := hx
  subst hx
  exact ⟨⟨b, by rw [hu]; simp [h1], h4 rfl⟩, by rw [hu]; trivial⟩
theorem dlt {k n : Nat} (h : decide ((k : Int) < (n : Int)) = true) : k < n := by
 have := of_decide_eq_true h
 omega
theorem dge {k n : Nat} (h : decide ((k : Int) < (n : Int)) = false) : n ≤ k := by
 have := of_decide_eq_false h
 omega
theorem wsucc {k : Nat} (h : k < 9223372036854775807) : wr ((k : Int) + 1) = ((k + 1 : Nat) : Int) := by
 rw [wr_in (by omega) (by omega)]
 rfl
theorem mu_up {n k : Nat} (h : k < n) (hk : k < 9223372036854775807) : n - (wr ((k : Int) + 1)).toNat < n - (k : Int).toNat := by
 rw [wsucc hk, Int.toNat_natCast, Int.toNat_natCast]
 omega
theorem idx_at {α : Type} {l : List α} {k : Nat} (h : k < l.length) : idx l (k : Int) = some l[k] := by simp [idx, h]
theorem idx_of {α : Type} {l : List α} {i : Int} (z : α) (h0 : 0 ≤ i) (h1 : i < (l.length : Int)) : idx l i = some (l.getD i.toNat z) := by
 have h : i.toNat < l.length := by omega
 unfold idx
 rw [if_pos h0, List.getD_eq_getElem?_getD, List.getElem?_eq_getElem h]
 rfl
theorem capOk_of {n m b : Nat} (h : (n + m) * b ≤ 140737488355328) : capOk n m b := h
def wpB (fid : Nat) (c : Code) (Q : Exit → Act → World → Prop) (a : Act) (w : World) : Prop := ∀ (b : Frame) (k : List Go.Item) (cs : List Frame), b.fn = fid → b.roundOf = none → ∃ e a' w', Q e a' w' ∧ Arrives Try.prog (lone (b.at a (.code c :: k)) cs w) b k cs e a' w'
section
variable {fid : Nat} {Q : Exit → Act → World → Prop} {a : Act} {w : World}
theorem wpB_of {c : Code} (h : c.wp Try.prog Q a w) : wpB fid c Q a w := fun b k cs _ _ => h b k cs
theorem wpB_seq {x y : Code} (h : wpB fid x (Exit.then (wpB fid y Q) Q) a w) : wpB fid (.seq x y) Q a w := fun b k cs h1 h2 => by
 obtain ⟨e, a₁, w₁, hq, harr⟩ := h b (.code y :: k) cs h1 h2
 have pass : ∀ e, Arrives Try.prog (lone (b.at a (.code x :: .code y :: k)) cs w) b (.code y :: k) cs e a₁ w₁ → e ≠ .normal → Arrives Try.prog (lone (b.at a (.code (.seq x y) :: k)) cs w) b k cs e a₁ w₁ := fun e harr he => by
  cases e <;> first | exact absurd rfl he | exact .of_steps (.one step_seq) (.pass (x := .code y) rfl (fun _ _ => .inl (by simp)) harr)
 cases e with
 | normal =>
  obtain ⟨e₂, a₂, w₂, hq₂, harr₂⟩ := hq b k cs h1 h2
  exact ⟨e₂, a₂, w₂, hq₂, .of_steps (.head step_seq harr) harr₂⟩
 | exit id => exact ⟨_, a₁, w₁, hq, pass _ harr (by simp)⟩
 | goto l => exact ⟨_, a₁, w₁, hq, pass _ harr (by simp)⟩
 | ret => exact ⟨_, a₁, w₁, hq, pass _ harr (by simp)⟩
 | panic ch => exact ⟨_, a₁, w₁, hq, pass _ harr (by simp)⟩
 | outgrown => exact ⟨_, a₁, w₁, hq, pass _ harr (by simp)⟩
theorem wpB_block {id : Nat} {c : Code} (h : wpB fid c (Exit.inBlock id Q) a w) : wpB fid (.block id c) Q a w := fun b k cs h1 h2 => by
 obtain ⟨e, a₁, w₁, hq, harr⟩ := h b (.inBlock id :: k) cs h1 h2
 cases e with
 | normal => exact ⟨.normal, a₁, w₁, hq, .head step_block (Steps.trans harr (.one step_inBlock))⟩
 | exit id' =>
  by_cases hid : id' = id
  ·have hq : Q .normal a₁ w₁ := by simpa [Exit.inBlock, hid] using hq
   exact ⟨.normal, a₁, w₁, hq, .head step_block (harr k (by simp [exitTo, hid]))⟩
  ·have hq : Q (.exit id') a₁ w₁ := by simpa [Exit.inBlock, hid] using hq
   have hne : (id == id') = false := by
    rw [beq_eq_false_iff_ne]
    exact fun h => hid h.symm
   exact ⟨.exit id', a₁, w₁, hq, fun k' hk => .head step_block (harr k' (by simp [exitTo, hne, hk]))⟩
 | goto l => exact ⟨_, a₁, w₁, hq, fun k' hk => .head step_block (harr k' (by simp [gotoIn, hk]))⟩
 | ret => exact ⟨_, a₁, w₁, hq, .of_steps (.one step_block) harr⟩
 | panic ch => exact ⟨_, a₁, w₁, hq, .of_steps (.one step_block) harr⟩
 | outgrown => exact ⟨_, a₁, w₁, hq, .of_steps (b := b) (k := k) (cs := cs) (e := .outgrown) (.one step_block) harr⟩
def behindP (l : Nat) (Q : Exit → Act → World → Prop) (a' : Act) : Ending → World → Prop
 | .returned _, w => ∃ jump w', (Instr.endLoop l).run Try.prog w = .ok jump w' ∧ (match jump with | none => Q .normal a' w' | some c => c.wp Try.prog Q a' w')
 | .panicked ch, w => Q (.panic ch) a' w
 | .outgrown, _ => False
theorem wpB_rangeFunc {g : Operand} {ps : Array Tmp} {assign body : Code} {l : Nat} {mark : List Deferred} {w₁ w₁' w₂ : World} {d : Deferred} {f : FuncId} {args : Array Value}
  (he : (Instr.enterLoop fid a.tmps ps assign body none).run Try.prog w = .ok (l, mark) w₁) (hres : (resolve a.eval (rangeCall g l) 0).run Try.prog w₁ = .ok d w₁') (hinv : (invoke d.target d.args).run Try.prog w₁' = .ok (.enter f args) w₂)
  (h : Calls Try.prog f args w₂ (behindP l Q { a with defers := mark ++ a.defers })) : wpB fid (.rangeFunc g ps assign body) Q a w := fun b k cs h1 h2 => by
 have hat : ∀ a' todo, b.atR a' todo = b.at a' todo := fun a' todo => Frame.atR_of_none h2 a' todo
 have henter := stepR_rangeFunc (P := Try.prog) (b := b) (a := a) (k := k) (cs := cs) (w := w) (by rw [h1, h2]; exact he) hres hinv
 rw [hat, hat] at henter
 obtain ⟨e, w₃, fr, hR, hs, _, hl⟩ := h (b.at { a with defers := mark ++ a.defers } (.inRangeFunc l :: k) :: cs)
 cases e with
 | outgrown => exact (hR : False).elim
 | panicked ch =>
  refine ⟨.panic ch, _, w₃, hR, .inRangeFunc l :: k, .head henter (Steps.trans hs (.one ?_))⟩
  rw [← Frame.raise_at]
  exact step_leave_panicked hl
 | returned v =>
  obtain ⟨jump, w₄, hend, hj⟩ := hR
  have s1 : Steps Try.prog (lone (b.at a (.code (.rangeFunc g ps assign body) :: k)) cs w) (lone (b.at { a with defers := mark ++ a.defers } ((jump.map Item.code).toList ++ k)) cs w₄) := by
   refine .head henter (Steps.trans hs (.head (step_leave_returned hl) (.one ?_)))
   rw [← hat, ← hat, finish_atR_inRangeFunc l v]
   exact stepR_endRangeFunc hend
  cases jump with
  | none => exact ⟨.normal, _, w₄, hj, s1⟩
  | some c =>
   obtain ⟨e', a'', w₅, hq, harr⟩ := hj b k cs
   exact ⟨e', a'', w₅, hq, .of_steps s1 harr⟩
end
theorem calls_of_wpB {f : FuncId} {fn : Func} {c : Code} {args : Array Value} {w : World} {R : Ending → World → Prop} (hf : Try.prog.funcs[f]? = some fn) (hb : fn.body = some c)
  (h : wpB f c (bodyPostM Fence.wide 0 Try.prog fn R) { tmps := args ++ Array.replicate (fn.ntmps - args.size) undef, defers := [] } w) : Calls Try.prog f args w R := fun cs => by
 let b : Frame := { (default : Frame) with fn := f, kind := .normal }
 have henter : Frame.enter Try.prog f args .normal = b.at { tmps := args ++ Array.replicate (fn.ntmps - args.size) undef, defers := [] } [.code c] := by
  simp [Frame.enter, Frame.at, hf, hb, b]
 obtain ⟨e, a', w', hq, harr⟩ := h b [] cs rfl rfl
 rw [← henter] at harr
 have fin : ∀ (fr : Frame) (u : FrameMode), fr.mode = u → fr.tmps = a'.tmps → fr.fn = f → fr.kind = .normal → fr.defers = a'.defers → LeavesInM Fence.wide 0 Try.prog fn a'.tmps R a'.defers u w' → Steps Try.prog (lone (Frame.enter Try.prog f args .normal) cs w) (lone fr cs w') → ∃ e w'' fr', R e w'' ∧ Comes Try.prog (lone (Frame.enter Try.prog f args .normal) cs w) (lone fr' cs w'') e ∧ fr'.fn = f ∧ fr'.leaving Try.prog w'' e := fun fr u h1 h2 h3 h4 h5 h6 h7 => by
  obtain ⟨e', w'', fr', hR, hs, hfn, hl⟩ := leaves_stepsInM (P := Try.prog) a'.defers u w' fr cs h1 h5 h2 (by rw [h3]; exact hf) h4 trivial (room_wide _) h6
  exact ⟨e', w'', fr', hR, Comes.of_steps h7 (comesIn_wide.1 hs), hfn.trans h3, hl⟩
 cases e with
 | normal => exact fin { b.at a' [] with mode := .returning } .returning rfl rfl rfl rfl rfl hq (Steps.trans harr (.one step_end))
 | ret =>
  obtain ⟨todo, hs⟩ := harr
  exact fin { b.at a' todo with mode := .returning } .returning rfl rfl rfl rfl rfl hq hs
 | panic ch =>
  obtain ⟨todo, hs⟩ := harr
  exact fin { b.at a' todo with mode := .panicking ch } (.panicking ch) rfl rfl rfl rfl rfl hq hs
 | exit id => exact (hq : False).elim
 | goto l => exact (hq : False).elim
 | outgrown => exact ⟨.outgrown, w', b, hq, harr.resolve_left (by simp [b]), rfl, trivial⟩
section
variable {c : Cfg} {F F' F2 : List (Nat × SC)} {M M2 : List Item} {S : St} {a a' a2 : Act} {w w' : World} {g g' : Gh} {hs hs' : Nat → Value} {n' : Nat} {d' : List Deferred} {pan' : List PanicEntry → Act → World → Prop}
theorem Ok'.into (h : Ok' c ⟨F, M⟩ a w g hs) (hz : a'.tmps.size = n') (hd : a'.defers = d') (hF : ∀ t x, (t, x) ∈ F' → x.ok g hs (a'.tmps.getD t undef)) : Ok' ⟨n', w, g, mayM M hs, d', pan'⟩ ⟨F', M⟩ a' w g hs :=
 ⟨hz, hd, ⟨rfl, rfl, rfl, Nat.le_refl _, fun _ _ _ => rfl, Gh.le.refl g, fun b o e => .inl e, h.base.pers⟩, hF, h.items, h.sep, fun i it hi hn b hb => ⟨(h.mine i it hi hn b hb).1, fun hf => ⟨.inl ⟨i, it, hi, hf, hb⟩, ((h.mine i it hi hn b hb).2 hf).2⟩⟩⟩
theorem Ok'.outer (h : Ok' c ⟨F, M⟩ a w g hs) {b : Nat} (hb : mayM M hs b) : c.may b ∨ c.w0.heap.size ≤ b := by
 obtain ⟨i, it, hi, hf, h1⟩ := hb
 exact ((h.mine i it hi (fz_gone hf) b h1).2 hf).1
theorem Ok'.baseBehind (h : Ok' c ⟨F, M⟩ a w g hs) (h2 : Base ⟨n', w, g, mayM M hs, d', pan'⟩ w' g') : Base c w' g' := by
 refine ⟨h2.os.trans h.base.os, h2.tape.trans h.base.tape, h2.output.trans h.base.output, Nat.le_trans h.base.grows h2.grows, fun b hb hm => ?_, h.base.ghle.trans h2.ghle, fun b o e => ?_, h2.pers⟩
 ·refine (h2.frame b (Nat.lt_of_lt_of_le hb h.base.grows) fun hm2 => ?_).trans (h.base.frame b hb hm)
  rcases h.outer hm2 with h1 | h1
  ·exact hm h1
  ·omega
 ·rcases h2.ghnew b o e with h1 | h1 | h1
  ·exact h.base.ghnew b o h1
  ·exact .inr (h.outer h1)
  ·exact .inr (.inr (Nat.le_trans h.base.grows h1))
theorem Ok'.behind (h : Ok' c ⟨F, M⟩ a w g hs) (h2 : Ok' ⟨n', w, g, mayM M hs, d', pan'⟩ ⟨F2, M2⟩ a2 w' g' hs') (hF : ∀ t x, (t, x) ∈ F → x.ok g' hs' (a.tmps.getD t undef)) : Ok' c ⟨F, M2⟩ a w' g' hs' := by
 refine ⟨h.size, h.defers, h.baseBehind h2.base, hF, h2.items, h2.sep, fun i it hi hn b hb => ?_⟩
 ·obtain ⟨h1, h3⟩ := h2.mine i it hi hn b hb
  refine ⟨h1, fun hf => ⟨?_, (h3 hf).2⟩⟩
  rcases (h3 hf).1 with h4 | h4
  ·exact h.outer h4
  ·exact .inr (Nat.le_trans h.base.grows h4)
theorem Ok'.grow (h : Ok' c S a w g hs) (e : Ext w w') : Ok' c S a w' g hs := h.called (n := 0) ⟨e.os, e.tape, e.output, e.size, fun b hb _ => e.block b hb, Gh.le.refl g, fun b o e => .inl e, fun b o eo => (e.block b (h.base.pers.lt eo)).trans (h.base.pers b o eo)⟩
def kindsB (M : List Item) : Bool := M.all fun it => match it with | .box _ _ _ => true | .row _ _ _ _ => true | .gone => true | _ => false
theorem kinds_ok (h : kindsB M = true) : ∀ it ∈ M, match it with | .box _ _ _ => True | .row _ _ _ _ => True | .gone => True | _ => False := fun it hi => by
 have := List.all_eq_true.1 h it hi
 cases it <;> first | trivial | cases this
structure Side (w : World) (g : Gh) (L : Nat) (o : Obj) : Prop where
 at_ : w.heap[L]? = some o
 free : g L = none
theorem Side.lt {L : Nat} {o : Obj} (s : Side w g L o) : L < w.heap.size := (Array.getElem?_eq_some_iff.1 s.at_).1
theorem Side.apart {L : Nat} {o : Obj} (s : Side w g L o) (ho : ∀ (cs : Array Value) t z, o ≠ .cells cs t z) (h : Ok' c S a w g hs) (hM : kindsB S.M = true) : ∀ (i : Nat) (it : Item), S.M[i]? = some it → it ≠ .gone → ¬ Blk (hs i) L := h.apart s.at_ s.free ho (kinds_ok hM)
theorem Side.behind {L : Nat} {o : Obj} (s : Side w g L o) (ho : ∀ (cs : Array Value) t z, o ≠ .cells cs t z) (h : Ok' c ⟨F, M⟩ a w g hs) (hM : kindsB M = true) (h2 : Base ⟨n', w, g, mayM M hs, d', pan'⟩ w' g') : Side w' g' L o := by
 have hn : ¬ mayM M hs L := fun ⟨i, it, hi, hf, hb⟩ => s.apart ho h hM i it hi (fz_gone hf) hb
 refine ⟨(h2.frame L s.lt hn).trans s.at_, ?_⟩
 cases e : g' L with
 | none => rfl
 | some o' =>
  rcases h2.ghnew L o' e with h1 | h1 | h1
  ·have h1 : g L = some o' := h1
   rw [s.free] at h1
   cases h1
  ·exact absurd h1 hn
  ·have := s.lt
   have h1 : w.heap.size ≤ L := h1
   omega
theorem Side.grow {L : Nat} {o : Obj} (s : Side w g L o) (e : Ext w w') : Side w' g L o := ⟨(e.block L s.lt).trans s.at_, s.free⟩
theorem Side.other {L K : Nat} {o o' : Obj} (s : Side w g L o) (h : L ≠ K) : Side (w.putObj K o') g L o := ⟨(World.putObj_heap_other h).trans s.at_, s.free⟩
theorem Side.put {L : Nat} {o o' : Obj} (s : Side w g L o) : Side (w.putObj L o') g L o' := ⟨World.putObj_heap_same s.lt, s.free⟩
theorem Side.turn {L : Nat} {o o' : Obj} (s : Side w g L o) (ho : ∀ (cs : Array Value) t z, o ≠ .cells cs t z) (h : Ok' c S a w g hs) (hM : kindsB S.M = true) (hL : c.w0.heap.size ≤ L) : Ok' c S a (w.putObj L o') g hs := h.turn (.inr hL) s.free (s.apart ho h hM)
def pinX : SC → Bool
 | .sv (.one (.pptr _ _ _)) => true
 | .sv (.one (.pown _ _)) => true
 | .sv (.one (.rd _)) => true
 | _ => false
theorem pin_ok {x : SC} {u u' : Value} (hx : pinX x = true) (h1 : x.ok g hs u) (hg : Gh.le g g') (h2 : x.ok g' hs' u') : x.ok g' hs' u := by
 unfold pinX at hx
 split at hx
 ·exact ⟨⟨h2.1.1, h1.1.2⟩, h1.2⟩
 ·rename_i i v
  obtain ⟨⟨e1, e2⟩, h3⟩ := h1
  exact ⟨⟨h2.1.1, e2.trans (e1.trans h2.1.1.symm)⟩, h3⟩
 ·rename_i r
  exact ⟨r.mono _ _ _ hg h1.1, h1.2⟩
 ·cases hx
theorem pins_ok (hp : F.all (fun e => pinX e.2) = true) (hsub : ∀ e ∈ F, e ∈ F2) (h1 : ∀ t x, (t, x) ∈ F → SC.ok g hs x (a.tmps.getD t undef)) (hg : Gh.le g g') (h2 : ∀ t x, (t, x) ∈ F2 → SC.ok g' hs' x (a'.tmps.getD t undef)) : ∀ t x, (t, x) ∈ F → SC.ok g' hs' x (a.tmps.getD t undef) := fun t x hx => pin_ok (List.all_eq_true.1 hp _ hx) (h1 t x hx) hg (h2 t x (hsub _ hx))
theorem lit2_ok {x y : Value} {u : Value} (h : SC.ok g hs (.sv (.agg [.v x, .v y])) u) : SC.ok g' hs' (.sv (.agg [.v x, .v y])) u := by
 obtain ⟨cs, e, h⟩ := h
 match cs, h with
 | [c1, c2], h => exact ⟨[c1, c2], e, h⟩
theorem WL.pinOwn {ops : Array Oper} {L : List Oper} {N : Po} (t i : Nat) (hl : look t S.F = some (.sv (.one (.own i)))) (h : ∀ v, cellV v → WL c ops L ⟨(t, .sv (.one (.pown i v))) :: S.F, S.M⟩ N) : WL c ops L S N := fun a w ⟨g, hs, hk⟩ => by
 obtain ⟨h1, h2⟩ := hk.slots t _ (look_mem hl)
 have h1 : a.tmps.getD t undef = hs i := h1
 have h2 : cellV (a.tmps.getD t undef) := h2
 refine h (hs i) (h1 ▸ h2) a w ⟨g, hs, hk.size, hk.defers, hk.base, fun t' y hy => ?_, hk.items, hk.sep, hk.mine⟩
 rcases List.mem_cons.1 hy with hy | hy
 ·cases hy
  exact ⟨⟨rfl, h1⟩, h2⟩
 ·exact hk.slots t' y hy
theorem WL.pinPtr {ops : Array Oper} {L : List Oper} {N : Po} (t i : Nat) (hl : look t S.F = some (.sv (.one (.ptr i 0)))) (h : ∀ b, WL c ops L ⟨(t, .sv (.one (.pptr i 0 b))) :: S.F, S.M⟩ N) : WL c ops L S N := fun a w ⟨g, hs, hk⟩ => by
 obtain ⟨⟨b, h1, h2⟩, h3⟩ := hk.slots t _ (look_mem hl)
 refine h b a w ⟨g, hs, hk.size, hk.defers, hk.base, fun t' y hy => ?_, hk.items, hk.sep, hk.mine⟩
 rcases List.mem_cons.1 hy with hy | hy
 ·cases hy
  exact ⟨⟨h1, h2⟩, h3⟩
 ·exact hk.slots t' y hy
theorem wpB_regionN {fid : Nat} {N : Po} {id : Nat} {l : List Oper} {Q : Exit → Act → World → Prop} (hk : Ok c S a w) (hl : WL c l.toArray l S N) (hp : ∀ ch a w, c.pan ch a w → Q (.panic ch) a w) (hq : ∀ a w, N a w → Q .normal a w) : wpB fid (.region id l.toArray false) Q a w :=
 wpB_of (Code.wp_mono (fun e a w q => by cases e <;> first | exact hq _ _ q | exact hp _ _ _ q | exact (q : False).elim) (wp_region_lit (hl a w hk)))
end
section
variable {c : Cfg} {S S1 : St} {a : Act} {w : World} {g : Gh} {hs : Nat → Value} {tab : Tab} {n : Nat} {o : Oper} {ops : Array Oper} {rest L0 : List Oper} {N : Po}
end
theorem letsOut_any {c : Cfg} {N Z : Po} (h : LetsOut (OnlyP c N)) : LetsOut (OnlyP c Z) := by
 obtain ⟨a, w, h⟩ := h
 exact h.elim
theorem wp_anyN {c : Cfg} {o : Oper} {a : Act} {w : World} {K N Z : Po} (hh : o.wp Try.prog a w K (OnlyP c N)) : o.wp Try.prog a w K (OnlyP c Z) := by
 unfold Oper.wp at *
 generalize (execOp a.eval o).run Try.prog w = r at *
 cases r with
 | ok n w' =>
  cases n <;> simp only [Oper.upon] at hh ⊢ <;>
   first
    | exact hh
    | exact Calls.mono hh (fun e w'' he => by cases e <;> first | exact he | exact letsOut_any he)
 | halt x w' => cases x <;> simp only [Oper.upon] at hh ⊢ <;> exact hh
section
variable {c : Cfg} {l : List Oper} {N : Po} {S : St} {fuel : Nat} {listed : Array Bool}
def RD (c : Cfg) (l : List Oper) (N : Po) (fuel : Nat) (listed : Array Bool) (S : St) : Prop := ∀ a w, Ok c S a w → wpAny Try.prog .any l.toArray (OnlyP c N) fuel listed a w
theorem RD.nil (hr : Region.ready .any l.toArray listed = []) (h : En c S N) : RD c l N 0 listed S := fun a w hk => ⟨hr, h a w hk⟩
def RDs (c : Cfg) (l : List Oper) (N : Po) (fuel : Nat) (listed : Array Bool) (S : St) : List Nat → Prop
 | [] => True
 | i :: r => (∃ (o : Oper) (S' : St) (L' : Array Bool), l[i]? = some o ∧ WL c l.toArray [o] S (fun a w => Ok c S' a w) ∧ listed.setIfInBounds i true = L' ∧ RD c l N fuel L' S') ∧ RDs c l N fuel listed S r
theorem RDs.get : ∀ {is : List Nat}, RDs c l N fuel listed S is → ∀ i ∈ is, ∃ (o : Oper) (S' : St), l[i]? = some o ∧ WL c l.toArray [o] S (fun a w => Ok c S' a w) ∧ RD c l N fuel (listed.setIfInBounds i true) S'
 | j :: r, h, i, hi => by
  rcases List.mem_cons.1 hi with e | hi
  ·subst e
   obtain ⟨o, S', L', h1, h2, h3, h4⟩ := h.1
   subst h3
   exact ⟨o, S', h1, h2, h4⟩
  ·exact RDs.get h.2 i hi
theorem RD.succ (is : List Nat) (hr : Region.ready .any l.toArray listed = is) (hne : is.isEmpty = false) (h : RDs c l N fuel listed S is) : RD c l N (fuel + 1) listed S := fun a w hk => by
 refine ⟨fun e => ?_, fun i hi => ?_⟩
 ·rw [hr] at e
  subst e
  cases hne
 ·rw [hr] at hi
  obtain ⟨o, S', ho, hw, hd⟩ := RDs.get h i hi
  have hw := hw a w hk
  have ho' : l.toArray[i]? = some o := by simpa using ho
  unfold wpOp
  rw [ho']
  simp only
  unfold wpList at hw
  split
  ·rename_i hwant
   rw [if_pos hwant] at hw
   rcases hw with hw | hw
   ·exact .inl (wp_anyN (Oper.wp_mono (fun a' w' h' => hd a' w' h') hw))
   ·exact .inr ⟨hw.1, letsOut_any hw.2⟩
  ·rename_i hwant
   rw [if_neg hwant] at hw
   exact hd _ _ hw
theorem RD.have {N : Po} {f : Nat} {L : Array Bool} (f' : Nat) (L' : Array Bool) (S' : St) (h1 : RD c l N f' L' S') (h2 : RD c l N f' L' S' → RD c l N f L S) : RD c l N f L S := h2 h1
theorem RD.start {f : Nat} {L : Array Bool} {S' : St} (h : RD c l N f L S') (hf : f = l.length) (hL : L = Array.replicate l.length false) (hs : ∀ a w, Ok c S a w → Ok c S' a w) : RD c l N l.length (Array.replicate l.length false) S := by
 subst hf
 subst hL
 exact fun a w hk => h a w (hs a w hk)
theorem WL.nilI {ops : Array Oper} : WL c ops [] S (fun a w => Ok c S a w) := fun _ _ hk => hk
theorem En.regionD {id : Nat} {E : List (Nat × Po)} {R : Po} (fin : St) (hm : Try.prog.follows .mixedOrders = true) (h : ∀ N : Po, En c fin N → RD c l N l.length (Array.replicate l.length false) S) (hN : En c fin N) : En c S (cwp (.region id l.toArray true) (PQ c N E R)) := fun a w ⟨g, hs', hok⟩ => by
 have hok1 : Ok' c S a w.drew g hs' := hok.grown (grown_drew w)
 refine Code.wp_mono (fun e a w q => ?_) (wp_region_any (Q := OnlyP c N) hm ?_)
 ·cases e <;> first | exact q | exact (q : False).elim
 ·have := h N hN a w.drew ⟨g, hs', hok1⟩
  simpa using this
end
section
variable {c : Cfg} {S : St}
theorem pe_of {i ty : Nat} {cells : List At} {k : Nat} (hm : S.M[i]? = some (.box cells ty true)) (hrefs : cells.flatMap At.refs = []) (hk : cells.length = k) : ∀ a w g hs, Ok' c S a w g hs → ∀ u, SC.ok g hs (.sv (.one (.ptr i 0))) u → SC.ok g hs (.sv (.one (.pe (svR (.agg cells)) k))) u := fun a w g hs h u hu => by
 obtain ⟨⟨b, h1, rfl⟩, _⟩ := hu
 obtain ⟨b', cs, h2, h3, h4, h5⟩ := h.items i _ hm
 rw [h1] at h2
 simp at h2
 subst h2
 have hg := h5 rfl
 refine ⟨⟨b, 0, .agg cs.toArray, rfl, ⟨cs, rfl, oks_hs (fun i hi => by rw [hrefs] at hi; cases hi) h3⟩, ?_, fun j c hj => ?_⟩, trivial⟩
 ·have := oks_length h3
  simp [Value.cells, ← this, hk]
 ·unfold Gh.cell
  rw [hg]
  simpa [Value.cells] using hj
end
def slcR {α : Type} (T : Ty α) (l : List α) : Rd := ⟨fun g v => slRead T l g v ∧ ∃ ao, v = .slice ao l.length l.length, fun g g' v hg ⟨h1, h2⟩ => ⟨(slR T l).mono g g' v hg h1, h2⟩⟩
theorem run_append_lim {w : World} {t ty e : Nat} {ti te : TI} (hu : Try.prog.underlying t = some (.slice e)) (hte : TI.ok e te) (hs : 0 < te.size) {v : Value} {n : Nat} {xs : List Value} (hx : SrcRow w te.size v n xs) (hcap : ∃ ao, v = .slice ao n n)
  {vx : Value} {m : Nat} {news : List Value} (hm : 0 < m) (hsrc : SrcRow w te.size vx m news) (h63 : n + m ≤ maxLen) (hbytes : (n + m) * te.bytes ≤ 140737488355328) :
  ∃ v' w', (Builtin.append_ #[t, t] ty #[v, vx]).run Try.prog w = .ok v' w' ∧ w'.ownsAt e te.size v' (n + m) (xs ++ news) ∧ w.grownBy w' none ∧ ∀ b, v'.ownBlock = some b → w.heap.size ≤ b := by
 obtain ⟨ao, cp, rfl, hnil, hlx, hcx, h1x⟩ := hx
 obtain ⟨_, hc⟩ := hcap
 cases hc
 cases ao with
 | none =>
  obtain ⟨rfl, _⟩ := hnil rfl
  obtain rfl : xs = [] := List.eq_nil_of_length_eq_zero (by simpa using hlx)
  obtain ⟨v', w', r1, r2, r3, r4⟩ := run_append_src (w := w) (ty := ty) (ti := ti) hu hte hs (World.ownsAt_nil w e te.size) hsrc h63 hbytes
  refine ⟨v', w', r1, r2, by simpa [Value.ownBlock] using r3, fun b hb => ?_⟩
  rcases r4 with r4 | r4
  ·rw [r4] at hb
   cases hb
  ·rw [r4] at hb
   cases hb
   exact Nat.le_refl _
 | some a0 =>
  obtain ⟨x, z, h1, h2, h3, h4, h5⟩ := hte.parts
  have hzs : z.cells.size = te.size := by rw [← Array.length_toList, h5, hte.zs]
  obtain ⟨ao, c, rfl, hnil2, hl, hcells, hone⟩ := hsrc
  cases ao with
  | none =>
   obtain ⟨_, rfl⟩ := hnil2 rfl
   cases hm
  | some ad =>
   have fix : ∀ {a0 : Addr} {l : List Value}, (∀ j u, l[j]? = some u → ∃ b o, some a0 = some ⟨b, o, none⟩ ∧ w.cell? ⟨b, o + j, none⟩ = some u) → ∀ j u, l[j]? = some u → w.cell? (a0.add j) = some u := fun h j u hj => by
    obtain ⟨b, o, e1, e2⟩ := h j u hj
    cases e1
    rw [svs_add]
    exact e2
   obtain ⟨v', w', r1, r2, r3⟩ := run_append_arg_grows (P := Try.prog) w t ty e x z te.size te.bytes hu h1 h2 h3 h4 hzs hs a0 n n xs hlx (fix hcx) ad m c news hl (fix hcells) (by omega) h63 hbytes
   refine ⟨v', w', r1, r2.at, r3, fun b hb => ?_⟩
   rcases r2.2 with ⟨rfl, _⟩ | ⟨gb, cap, cur, rfl, hg, _⟩
   ·cases hb
   ·cases hb
    exact hg
section
variable {c : Cfg} {S S1 : St} {a : Act} {w : World} {g : Gh} {hs : Nat → Value} {tab : Tab} {n : Nat} {o : Oper} {ops : Array Oper} {rest L : List Oper} {N : Po}
theorem val_sliceC {α : Type} {T : Ty α} {l : List α} {t el m : Nat} {ti te : TI} {x q r : Operand} (ht : tab.ok) (ho : o.op = .slice t x none (some q) (some r)) (h1 : tab t = some ti) (h2 : ti.sl = some el) (h3 : tab el = some te) (h4 : te.size = T.s)
  (hx : evX S.F x = some (.sv (.one (.sl (slR T l) m)))) (hq : evK S.F q = some (.int .i64 l.length)) (hr : evK S.F r = some (.int .i64 l.length)) : Val c S o (.sv (.one (.sl (slcR T l) l.length))) := fun a w g hs h => by
 have hu := slT_some ((ht t ti h1).sl.trans h2)
 obtain ⟨⟨hrd, ao, cap, e1⟩, _⟩ := evX_ok h hx
 have hr' : slRead T l g (a.eval x) := hrd
 rw [e1] at hr'
 have hr2 := hr'
 obtain ⟨ao', n'', cap', k1, k2, k3, k4, k5, k6⟩ := hr2
 cases k1
 subst k2
 have htk := hr'.take (lo := 0) (hi := l.length) (by omega) (by omega)
 have hb : (Instr.sliceBounds true l.length cap none (some (a.eval q)) (some (a.eval r))).run Try.prog w = .ok (0, l.length, l.length) w := by
  unfold Instr.sliceBounds
  simp only [Sem.run_bind, Sem.run_pure, Result.andThen_ok, Instr.sliceBound, evK_ok h hq, evK_ok h hr, asIntOf]
  rw [if_pos (by omega)]
  simp
 have hrun : ∃ ao2, (execOp a.eval o).run Try.prog w = .ok (.value (.slice ao2 l.length l.length)) w ∧ (∀ b of, ao = some ⟨b, of, none⟩ → ao2 = some ⟨b, of, none⟩) ∧ (ao = none → ao2 = none) := by
  have : execOp a.eval o = (do pure (.value (← Instr.sliceAt t (a.eval x) none (some (a.eval q)) (some (a.eval r)))) : Sem Next) := by unfold execOp; rw [ho]; rfl
  rw [this]
  cases ao with
  | none =>
   refine ⟨none, run_val ?_, fun _ _ e => (by cases e), fun _ => rfl⟩
   simp only [Instr.sliceAt, Instr.slice, Sem.run_bind, run_underlying hu, Result.andThen_ok, e1, hb, (ht el te h3).run_size, Sem.run_pure]
   simp
  | some b0 =>
   refine ⟨if l.length = 0 then some b0 else (some b0).map (·.add (0 * te.size)), run_val ?_, fun b of e => ?_, fun e => (by cases e)⟩
   ·simp only [Instr.sliceAt, Instr.slice, Sem.run_bind, run_underlying hu, Result.andThen_ok, e1, hb, (ht el te h3).run_size, Sem.run_pure, Nat.sub_zero]
   ·cases e
    split
    ·rfl
    ·simp [Addr.add]
 obtain ⟨ao2, hrun, hs1, hs2⟩ := hrun
 refine ⟨_, hrun, ⟨⟨⟨ao2, l.length, l.length, rfl, rfl, Nat.le_refl _, by omega, fun e => ?_, fun q y hy => ?_⟩, ao2, rfl⟩, ao2, l.length, rfl⟩, trivial⟩
 ·cases ao with
  | none => have := k5 rfl; omega
  | some b0 =>
   by_cases hl : l = []
   ·rw [hl]; rfl
   ·obtain ⟨b, of, u, j1, _⟩ := k6 0 (l[0]'(by have := List.length_pos_iff.2 hl; omega)) (by simp)
    have := (hs1 b of j1).symm.trans e
    cases this
 ·obtain ⟨b, of, u, j1, j2⟩ := k6 q y hy
  exact ⟨b, of, u, hs1 b of j1, j2⟩
theorem mt_appendC {α : Type} {T : Ty α} {l es : List α} {p m : Nat} {x y : Operand} {t e : Nat} {ti te : TI} (ht : tab.ok) (ho : o.op = .call ⟨.builtin .append, #[x, y], #[t, t]⟩) (h1 : tab t = some ti) (h2 : ti.sl = some e) (h3 : tab e = some te) (h4 : te.size = T.s) (h5 : 0 < T.s) (hT : T.solid)
  (hx : evX S.F x = some (.sv (.one (.sl (slcR T l) m)))) (hsrc : SrcOk c S y T es) (he : 0 < es.length) (hb : (l.length + es.length) * te.bytes ≤ 140737488355328) (hb2 : l.length + es.length ≤ 140737488355328) : MT c S o (.sv (.one (.own p))) [] (some (p, rowI e T (l ++ es))) := fun a w g hs h N Z hN => by
 have hu := slT_some ((ht t ti h1).sl.trans h2)
 obtain ⟨⟨⟨hrd, hcap⟩, _⟩, _⟩ := evX_ok h hx
 obtain ⟨cs, r1, r2⟩ := src_LS hT h5 h.base.pers hrd
 obtain ⟨cs', r3, r4⟩ := hsrc a w g hs h
 rw [← h4] at r1 r3 h5
 obtain ⟨v', w', k1, k2, k3, k4⟩ := run_append_lim (w := w) (ty := o.type) (ti := ti) hu (ht e te h3) h5 r1 hcap he r3 (by simp only [maxLen]; omega) hb
 unfold Oper.wp
 have hrun : (execOp a.eval o).run Try.prog w = .ok (.value v') w' := by
  have : execOp a.eval o = (do pure (.value (← Builtin.append_ #[t, t] o.type #[a.eval x, a.eval y])) : Sem Next) := by
   unfold execOp
   rw [ho]
   simp [resolve, invoke, builtin]
  rw [this]
  exact run_valW k1
 rw [hrun]
 have hsl' := ownsRow_slice k2
 have k3' : ∀ b, b < w.heap.size → w'.heap[b]? = w.heap[b]? := fun b hb => k3.block b hb (by simp)
 refine hN v' w' g v' ⟨k3.os, k3.tape, k3.output, k3.size, fun b hb _ => k3' b hb, Gh.le.refl g, fun b o e => .inl e, fun b o e => (k3' b (h.base.pers.lt e)).trans (h.base.pers b o e)⟩ ⟨?_, ?_⟩ ⟨⟨cs ++ cs', ?_, r2.append r4⟩, fun b hb => ?_⟩
 ·show v' = (if p = p then v' else hs p)
  rw [if_pos rfl]
 ·obtain ⟨ao, m, cap, rfl⟩ := hsl'
  trivial
 ·rw [List.length_append, ← h4]
  exact k2
 ·rw [Blk_slice hsl'] at hb
  have hge := k4 b hb
  have := k2.lt b hb
  refine ⟨this.2, fun _ => ?_, .inl hge⟩
  cases hgb : g b with
  | none => rfl
  | some o => have := h.base.pers.lt hgb; omega
end
section
variable {c : Cfg} {S : St} {o : Oper}
theorem mt_lendFI {p : Nat} {it : Item} (l : List Nat) {M' : List Item} (hm : fzSets S.M l = some M') (hp : plainI it) (h : MT c ⟨S.F, M'⟩ o (.sv (.one (.own p))) [] (some (p, it))) : MT c S o (.sv (.one (.own p))) [] (some (p, it)) := fun a w g hs hk N Z hN => by
 obtain ⟨g2, hk2⟩ := freezes (F := S.F) hm hk
 refine h a w g2 hs hk2 N Z fun v w' g' h' h1 h2 h3 => hN v w' g h' (h1.back hk.base.pers) ⟨h2.1, h2.2⟩ ⟨hp _ _ _ _ _ _ h3.1, fun b hb => ?_⟩
 obtain ⟨m1, m2, m3⟩ := h3.2 b hb
 refine ⟨m1, fun _ => ?_, m3⟩
 rcases m3 with m3 | ⟨k, hk, _⟩
 ·cases hg : g b with
  | none => rfl
  | some o => have := hk.base.pers.lt hg; omega
 ·simp at hk
end
end Go.Proofs.Ytiejmeedkhkfgaa
namespace Go.Proofs.Ytiejmeedkhkfgaa
open Go.RowKit Go.MapKept
section
variable {c : Cfg} {S S1 S' : St} {tab : Tab} {n : Nat} {o : Oper} {ops : Array Oper} {rest L : List Oper} {N R : Po} {E : List (Nat × Po)}
theorem WL.r (ht : tab.ok) (hn : c.n = n) (k : Nat) (S' : St) (h : WL c ops (L.drop k) S' N) (e : (evL tab n ops (L.take k) S).map (subE S') = some (subX S') := by kernel_rfl) : WL c ops L S N := WL.run ht hn k S' e h
theorem WL.rn (ht : tab.ok) (hn : c.n = n) (k : Nat) (S' : St) (h : ∀ a w, Ok c S' a w → N a w) (e : (evL tab n ops (L.take k) S).map (subE S') = some (subX S') := by kernel_rfl) (e2 : L.drop k = [] := by rfl) : WL c ops L S N := WL.run ht hn k S' e (by rw [e2]; exact h)
theorem WL.rI (ht : tab.ok) (hn : c.n = n) (e : (evL tab n ops (L.take 1) S).map (subE S') = some (subX S') := by kernel_rfl) (e2 : L.drop 1 = [] := by rfl) : WL c ops L S (fun a w => Ok c S' a w) := WL.run ht hn 1 S' e (by rw [e2]; exact WL.nilI)
theorem WL.v {x : SC} (hn : c.n = n) (hv : Val c S o x) (h : WL c ops rest S' N) (hw : wantE ops S.F o = some true := by rfl) (e : putE n o.dst x S = some S' := by rfl) : WL c ops (o :: rest) S N := WL.val hn hw hv e h
theorem WL.m0 {x : SC} (hn : c.n = n) (hm : MT c S o x [] none) (h : WL c ops rest S1 N) (hw : wantE ops S.F o = some true := by rfl) (hr : refsNe S none = true := by rfl) (hu : usable S [] = true := by rfl) (e : putE n o.dst x ⟨S.F, newM S.M [] none⟩ = some S1 := by rfl) : WL c ops (o :: rest) S N := WL.mt0 hn hw hm hr hu e h
theorem WL.sB (t : Nat) {b b' : Bool} (e : b = b') (h : WL c ops L ⟨(t, .sv (.one (.v (.bool b')))) :: S.F, S.M⟩ N) (hl : look t S.F = some (.sv (.one (.v (.bool b)))) := by kernel_rfl) : WL c ops L S N := WL.setB t e hl h
theorem En.sr {id : Nat} {l : List Oper} {y : Code} (h : WL c l.toArray l S (cwp y (PQ c N E R))) : En c S (cwp (.seq (.region id l.toArray false) y) (PQ c N E R)) := En.seq (En.region h)
theorem En.cd {b : Bool} {o : Operand} {x y : Code} {Q : Exit → Act → World → Prop} (ht : b = true → En c S (cwp x Q)) (hf : b = false → En c S (cwp y Q)) (hb : evK S.F o = some (.bool b) := by kernel_rfl) : En c S (cwp (.cond o x y) Q) := En.cond hb ht hf
theorem En.rb {β : Type} {post : β → Prop} {out : β → SC} {rs : Array ResultVar} (ht : tab.ok) (r : β) (hp : post r) (e : evR tab S rs = some (out r) := by kernel_rfl) (hc : (out r).refs = [] := by rfl) : En c S (cwp .ret (PQ c N E (RetA c rs post out))) := En.ret (En.back ht r hp e hc)
theorem val_ld {s : SV} {sz t : Nat} {ti : TI} {x : Operand} (ht : tab.ok) (ho : o.op = .load t x) (h1 : tab t = some ti := by rfl) (h2 : ti.size = sz := by rfl) (h3 : svFits ti s = true := by rfl) (hx : evX S.F x = some (.sv (.one (.pe (svR s) sz))) := by rfl) (hc : s.refs = [] := by rfl) : Val c S o (.sv s) := val_load ht ho h1 h2 h3 hx hc
theorem val_ix {α : Type} {T : Ty α} {l : List α} {i : Int} {y : α} {t el : Nat} {ti te : TI} {x ix : Operand} {k : IntKind} {m : Nat} (ht : tab.ok) (ho : o.op = .indexAddr t x ix) (hy : idx l i = some y) (h1 : tab t = some ti := by rfl) (h2 : ti.sl = some el := by rfl) (h3 : tab el = some te := by rfl) (h4 : te.size = T.s := by rfl) (hx : evX S.F x = some (.sv (.one (.sl (slR T l) m))) := by rfl) (hi : evK S.F ix = some (.int k i) := by rfl) : Val c S o (.sv (.one (.pe (svR (T.sv y)) T.s))) := val_index ht ho h1 h2 h3 h4 hx hi hy
theorem val_fd {l : List At} {sz t f fo fs : Nat} {ag : Bool} {ti : TI} {x : Operand} {r : SV} (ht : tab.ok) (ho : o.op = .fieldAddr t x f) (h1 : tab t = some ti := by rfl) (h2 : ti.st = true := by rfl) (h3 : ti.offs[f]? = some (fo, fs + 1, ag) := by rfl) (h4 : partE l fo (fs + 1) ag = some r := by rfl) (hx : evX S.F x = some (.sv (.one (.pe (svR (.agg l)) sz))) := by rfl) (h6 : (svCells r).length = fs + 1 := by rfl) : Val c S o (.sv (.one (.pe (svR r) (fs + 1)))) := val_field ht ho h1 h2 h3 h4 hx h6
theorem mt_c {f : Nat} {ins : List SC} {M : List Item} {x : SC} (ct : Ct f ins M (fun (_ : Unit) => True) (fun _ => x)) (en : ∀ args w, (callFunc f args).run Try.prog w = .ok (.enter f args) w) {fo : Operand} {args : Array Operand} {ats : Array TypeId} (ho : o.op = .call ⟨.value fo, args, ats⟩) (hf : evX S.F fo = some (.sv (.one (.fn f []))) := by rfl) (ha : (match evXs S.F args.toList with | some l => some (l ++ ([] : List Nat).map fun i => .sv (.one (.ptr i 0))) | none => none) = some (ins.map (SC.ren fun i => ([] : List Nat).getD i 0)) := by kernel_rfl) (hM : fzE S.M (fun i => ([] : List Nat).getD i 0) 0 M = M.map (fun it => some (it.ren fun i => ([] : List Nat).getD i 0)) := by kernel_rfl) (hz : M.all fzB = true := by rfl) (hcl : x.refs = [] := by rfl) : MT c S o x [] none := mt_call ct en (caps := []) [] ho hf ha hM hz hcl rfl
theorem WL.cX {f : Nat} {ins : List SC} {M : List Item} {ps : List PanicEntry → Prop} (ct : CtX f ins M ps) (en : ∀ args w, (callFunc f args).run Try.prog w = .ok (.enter f args) w) (rn : List Nat) {fo : Operand} {args : Array Operand} {ats : Array TypeId} (ho : o.op = .call ⟨.value fo, args, ats⟩) (hpan : LeftX c S M rn ps) (hw : wantE ops S.F o = some true := by rfl) (hf : evX S.F fo = some (.sv (.one (.fn f []))) := by rfl) (ha : (match evXs S.F args.toList with | some l => some (l ++ ([] : List Nat).map fun i => .sv (.one (.ptr i 0))) | none => none) = some (ins.map (SC.ren (rnF rn S.M.length))) := by kernel_rfl) (hM : M.map (fun it => some (it.mv (rnF rn S.M.length))) = rn.map (fun j => S.M[j]?) := by kernel_rfl) (hnd : rn.Nodup := by decide) : WL c ops (o :: rest) S N := WL.callX ct en (caps := []) rn hw ho hf (argsAs ha rfl) hM hnd hpan
theorem WL.cE {f : Nat} {ins : List SC} {M : List Item} {pin : List Nat} {out : Unit → SC} {M' : Unit → List Item} (ct : CtE f ins M pin (fun (_ : Unit) => True) out M') (en : ∀ args w, (callFunc f args).run Try.prog w = .ok (.enter f args) w) (rn : List Nat) {fo : Operand} {args : Array Operand} {ats : Array TypeId} (hn : c.n = n) (ho : o.op = .call ⟨.value fo, args, ats⟩) (h : WL c ops rest S1 N) (hw : wantE ops S.F o = some true := by rfl) (hf : evX S.F fo = some (.sv (.one (.fn f []))) := by rfl) (ha : (match evXs S.F args.toList with | some l => some (l ++ ([] : List Nat).map fun i => .sv (.one (.ptr i 0))) | none => none) = some (ins.map (SC.ren (rnF rn S.M.length))) := by kernel_rfl) (hM : M.map (fun it => some (it.mv (rnF rn S.M.length))) = rn.map (fun j => S.M[j]?) := by kernel_rfl) (hnd : rn.Nodup := by decide) (hal : aloneE S rn pin = true := by rfl) (hpl : pin.all (fun i => Nat.blt i rn.length) = true := by rfl) (hx : (refsB (M' ()) && Nat.ble M.length (M' ()).length && backC pin M (M' ()) && (out ()).refs.all (fun i => Nat.blt i (M' ()).length)) = true := by rfl) (e : putE n o.dst ((out ()).ren (rnF rn S.M.length)) ⟨S.F, putItems (rnF rn S.M.length) S.M rn (M' ())⟩ = some S1 := by rfl) : WL c ops (o :: rest) S N := WL.callE ct en (caps := []) rn hn hw ho hf (argsAs ha rfl) hM hnd hal hpl (fun _ _ => ⟨hx, S1, e, h⟩)
end
theorem StepOk.ev {c : Cfg} {C : Cert} {ops : List Oper} {i : Nat} {o : Oper} {tab : Tab} (S : St) (ht : tab.ok) (hf : fitsE C ops i S = fitsX S := by kernel_rfl) (hw : wantE ops.toArray S.F o = some true := by rfl) (e : evV tab S o = some (C.x i) := by kernel_rfl) (hk : killE C i = [] := by rfl) (hb : bornE C i = [] := by rfl) (hu : updE C i = [] := by rfl) (huse : usable S [] = true := by rfl) : StepOk c C ops i o := .mt S [] none hf hw (mt_ev ht e) hk hb hu huse
theorem StepOk.vl {c : Cfg} {C : Cert} {ops : List Oper} {i : Nat} {o : Oper} (S : St) (hm : MT c S o (C.x i) [] none) (hf : fitsE C ops i S = fitsX S := by kernel_rfl) (hw : wantE ops.toArray S.F o = some true := by rfl) (hk : killE C i = [] := by rfl) (hb : bornE C i = [] := by rfl) (hu : updE C i = [] := by rfl) (huse : usable S [] = true := by rfl) : StepOk c C ops i o := .mt S [] none hf hw hm hk hb hu huse
end Go.Proofs.Ytiejmeedkhkfgaa
namespace Go.Proofs.Ytiejmeedkhkfgaa
open Go.RowKit Go.MapKept
set_option linter.unusedSimpArgs false
set_option linter.unusedVariables false
set_option maxRecDepth 100000
structure ApiArrow where
 fFrom : Int
 fLetter : Int
 fTo : Int
deriving DecidableEq, Inhabited
abbrev ApiArrow.sv (x : ApiArrow) : SV := .agg [I x.fFrom, I x.fLetter, I x.fTo]
abbrev ApiArrow.cl (x : ApiArrow) : List At := [I x.fFrom, I x.fLetter, I x.fTo]
abbrev ApiArrow.ty : Ty ApiArrow := ⟨3, ApiArrow.sv⟩
structure ApiGraph where
 fLetters : Int
 fPlaces : Int
 fArrows : (List ApiArrow)
deriving DecidableEq, Inhabited
abbrev ApiGraph.sv (x : ApiGraph) : SV := .agg [I x.fLetters, I x.fPlaces, LS ApiArrow.ty x.fArrows]
abbrev ApiGraph.cl (x : ApiGraph) : List At := [I x.fLetters, I x.fPlaces, LS ApiArrow.ty x.fArrows]
abbrev ApiGraph.ty : Ty ApiGraph := ⟨3, ApiGraph.sv⟩
structure ApiFault where
 fCode : Int
 fAt : Int
deriving DecidableEq, Inhabited
structure ApiPush where
 fFrom : Int
 fTop : Int
 fTo : Int
 fPut : (List Int)
deriving DecidableEq, Inhabited
structure ApiConfig where
 fControl : Int
 fStack : (List Int)
deriving DecidableEq, Inhabited
structure ApiDet where
 fLetters : Int
 fStart : Int
 fNext : (List (List Int))
 fMark : (List Int)
deriving DecidableEq, Inhabited
structure ApiQuery where
 fGuessed : Bool
 fWord : (List Int)
 fYes : Bool
 fGuess : ApiDet
 fRight : Bool
deriving DecidableEq, Inhabited
structure StackEdge where
 fFrom : Int
 fSign : Int
 fTo : Int
deriving DecidableEq, Inhabited
structure StackWay where
 fTo : Int
 fCost : Int
 fOver : (List StackEdge)
deriving DecidableEq, Inhabited
structure LearnTeacher where
 fD : ApiDet
 fLog : (List ApiQuery)
deriving DecidableEq, Inhabited
structure BranchWrong where
 fFault : ApiFault
deriving DecidableEq, Inhabited
structure BranchReader where
 fText : ByteArray
 fI : Int
 fDeep : Int
 fCount : Int
deriving DecidableEq, Inhabited
structure BranchWalker where
 fGraph : ApiGraph
 fNext : (List (List Int))
deriving DecidableEq, Inhabited
structure StackKnown where
 fRule : Int
 fCost : Int
 fOver : (List StackEdge)
deriving DecidableEq, Inhabited
structure FixWrong where
 fFault : ApiFault
deriving DecidableEq, Inhabited
structure FixName where
 fSign : Int
 fTurned : Bool
deriving DecidableEq, Inhabited
abbrev FixName.sv (x : FixName) : SV := .agg [.v (.int .u8 x.fSign), B x.fTurned]
abbrev FixName.ty : Ty FixName := ⟨2, FixName.sv⟩
structure FixReader where
 fText : ByteArray
 fI : Int
 fDeep : Int
 fCount : Int
 fAround : (List FixName)
deriving DecidableEq, Inhabited
structure RegularPlaces where
 fLetters : (List Int)
 fNext : (List (List Int))
deriving DecidableEq, Inhabited
structure RegularStop where
 fFault : ApiFault
deriving DecidableEq, Inhabited
structure RegularReader where
 fText : ByteArray
 fI : Int
 fDeep : Int
deriving DecidableEq, Inhabited
structure RegularEnds where
 fEmpty : Bool
 fFirst : (List Int)
 fLast : (List Int)
deriving DecidableEq, Inhabited
structure DetCouple where
 fE0 : Int
 fE1 : Int
deriving DecidableEq, Inhabited
structure DetSplit where
 fOwn : Int
 fNext : ByteArray
deriving DecidableEq, Inhabited
def tabs : List (Nat × TI) := [
 (3, ⟨false, false, 1, [.int .i64 0], [], some .i64, none, 8⟩),
 (4, ⟨false, false, 1, [.bool false], [], none, none, 1⟩),
 (5, ⟨false, false, 1, [.int .u8 0], [], some .u8, none, 1⟩),
 (9, ⟨false, false, 1, [.string ByteArray.empty], [], none, none, 16⟩),
 (21, ⟨false, false, 1, [.int .i32 0], [], some .i32, none, 4⟩),
 (22, ⟨false, false, 1, [.slice none 0 0], [], none, some 26, 24⟩),
 (24, ⟨true, true, 3, [.int .i64 0, .int .i64 0, .slice none 0 0], [(0, 1, false), (1, 1, false), (2, 1, false)], none, none, 40⟩),
 (26, ⟨true, true, 3, [.int .i64 0, .int .i64 0, .int .i64 0], [(0, 1, false), (1, 1, false), (2, 1, false)], none, none, 24⟩),
 (27, ⟨false, false, 1, [.slice none 0 0], [], none, some 4, 24⟩),
 (28, ⟨false, false, 1, [.int .i64 0], [], some .i64, none, 8⟩),
 (32, ⟨true, true, 2, [.int .i64 0, .int .i64 0], [(0, 1, false), (1, 1, false)], none, none, 16⟩),
 (34, ⟨false, false, 1, [.slice none 0 0], [], none, some 9, 24⟩),
 (36, ⟨false, false, 1, [.slice none 0 0], [], none, some 41, 24⟩),
 (37, ⟨false, false, 1, [.slice none 0 0], [], none, some 3, 24⟩),
 (39, ⟨true, true, 2, [.int .i64 0, .slice none 0 0], [(0, 1, false), (1, 1, false)], none, none, 32⟩),
 (41, ⟨true, true, 4, [.int .i64 0, .int .i64 0, .int .i64 0, .slice none 0 0], [(0, 1, false), (1, 1, false), (2, 1, false), (3, 1, false)], none, none, 48⟩),
 (51, ⟨false, false, 1, [.slice none 0 0], [], none, some 37, 24⟩),
 (53, ⟨true, true, 4, [.int .i64 0, .int .i64 0, .slice none 0 0, .slice none 0 0], [(0, 1, false), (1, 1, false), (2, 1, false), (3, 1, false)], none, none, 64⟩),
 (55, ⟨false, false, 1, [.slice none 0 0], [], none, some 59, 24⟩),
 (59, ⟨true, true, 8, [.bool false, .slice none 0 0, .bool false, .int .i64 0, .int .i64 0, .slice none 0 0, .slice none 0 0, .bool false], [(0, 1, false), (1, 1, false), (2, 1, false), (3, 4, true), (7, 1, false)], none, none, 112⟩),
 (63, ⟨false, false, 1, [.pointer none], [], none, none, 8⟩),
 (66, ⟨false, false, 1, [.pointer none], [], none, none, 8⟩),
 (72, ⟨false, false, 1, [.slice none 0 0], [], none, some 76, 24⟩),
 (74, ⟨false, false, 1, [.slice none 0 0], [], none, some 79, 24⟩),
 (76, ⟨true, true, 3, [.int .i64 0, .int .i64 0, .slice none 0 0], [(0, 1, false), (1, 1, false), (2, 1, false)], none, none, 40⟩),
 (79, ⟨true, true, 3, [.int .i64 0, .int .i64 0, .int .i64 0], [(0, 1, false), (1, 1, false), (2, 1, false)], none, none, 24⟩),
 (83, ⟨false, false, 1, [.pointer none], [], none, none, 8⟩),
 (92, ⟨false, false, 1, [.pointer none], [], none, none, 8⟩),
 (94, ⟨true, true, 5, [.int .i64 0, .int .i64 0, .slice none 0 0, .slice none 0 0, .slice none 0 0], [(0, 4, true), (4, 1, false)], none, none, 88⟩),
 (95, ⟨false, false, 1, [.map none], [], none, none, 8⟩),
 (97, ⟨true, true, 5, [.pointer none, .int .i64 0, .slice none 0 0, .slice none 0 0, .map none], [(0, 1, false), (1, 1, false), (2, 1, false), (3, 1, false), (4, 1, false)], none, none, 72⟩),
 (103, ⟨false, false, 1, [.nilFunc], [], none, none, 8⟩),
 (108, ⟨true, true, 2, [.int .i64 0, .int .i64 0], [(0, 2, true)], none, none, 16⟩),
 (111, ⟨true, true, 4, [.string ByteArray.empty, .int .i64 0, .int .i64 0, .int .i64 0], [(0, 1, false), (1, 1, false), (2, 1, false), (3, 1, false)], none, none, 40⟩),
 (115, ⟨true, true, 4, [.int .i64 0, .int .i64 0, .slice none 0 0, .slice none 0 0], [(0, 3, true), (3, 1, false)], none, none, 64⟩),
 (117, ⟨false, false, 1, [.slice none 0 0], [], none, some 63, 24⟩),
 (119, ⟨true, true, 4, [.int .u8 0, .bool false, .int .i64 0, .slice none 0 0], [(0, 1, false), (1, 1, false), (2, 1, false), (3, 1, false)], none, none, 40⟩),
 (124, ⟨false, false, 1, [.slice none 0 0], [], none, some 39, 24⟩),
 (125, ⟨false, false, 1, [.map none], [], none, none, 8⟩),
 (127, ⟨true, true, 3, [.int .i64 0, .slice none 0 0, .map none], [(0, 2, true), (2, 1, false)], none, none, 40⟩),
 (129, ⟨true, true, 3, [.int .i64 0, .int .i64 0, .slice none 0 0], [(0, 1, false), (1, 1, false), (2, 1, false)], none, none, 40⟩),
 (131, ⟨false, false, 1, [.map none], [], none, none, 8⟩),
 (136, ⟨false, false, 1, [.nilFunc], [], none, none, 8⟩),
 (140, ⟨true, true, 2, [.int .i64 0, .int .i64 0], [(0, 2, true)], none, none, 16⟩),
 (141, ⟨false, false, 1, [.pointer none], [], none, none, 8⟩),
 (142, ⟨false, false, 1, [.slice none 0 0], [], none, some 236, 24⟩),
 (144, ⟨true, true, 5, [.string ByteArray.empty, .int .i64 0, .int .i64 0, .int .i64 0, .slice none 0 0], [(0, 1, false), (1, 1, false), (2, 1, false), (3, 1, false), (4, 1, false)], none, none, 64⟩),
 (146, ⟨false, false, 1, [.slice none 0 0], [], none, some 27, 24⟩),
 (147, ⟨false, false, 1, [.slice none 0 0], [], none, some 83, 24⟩),
 (149, ⟨true, true, 3, [.int .u8 0, .int .i64 0, .slice none 0 0], [(0, 1, false), (1, 1, false), (2, 1, false)], none, none, 40⟩),
 (153, ⟨false, false, 1, [.pointer none], [], none, none, 8⟩),
 (158, ⟨false, false, 1, [.pointer none], [], none, none, 8⟩),
 (162, ⟨true, true, 2, [.slice none 0 0, .slice none 0 0], [(0, 1, false), (1, 1, false)], none, none, 48⟩),
 (180, ⟨false, false, 1, [.int .u64 0], [], some .u64, none, 8⟩),
 (184, ⟨true, true, 2, [.int .i64 0, .int .i64 0], [(0, 2, true)], none, none, 16⟩),
 (187, ⟨true, true, 3, [.string ByteArray.empty, .int .i64 0, .int .i64 0], [(0, 1, false), (1, 1, false), (2, 1, false)], none, none, 32⟩),
 (191, ⟨true, true, 3, [.bool false, .slice none 0 0, .slice none 0 0], [(0, 1, false), (1, 1, false), (2, 1, false)], none, none, 56⟩),
 (193, ⟨false, false, 1, [.map none], [], none, none, 8⟩),
 (198, ⟨true, false, 2, [.int .i64 0, .int .i64 0], [(0, 1, false), (1, 1, false)], none, none, 16⟩),
 (201, ⟨false, false, 1, [.pointer none], [], none, none, 8⟩),
 (202, ⟨false, false, 1, [.slice none 0 0], [], none, some 5, 24⟩),
 (204, ⟨true, true, 2, [.pointer none, .slice none 0 0], [(0, 1, false), (1, 1, false)], none, none, 32⟩),
 (210, ⟨false, false, 1, [.int .u32 0], [], some .u32, none, 4⟩),
 (213, ⟨false, false, 1, [.int .u64 0], [], some .u64, none, 8⟩),
 (216, ⟨false, false, 1, [.slice none 0 0], [], none, some 153, 24⟩),
 (218, ⟨true, true, 3, [.int .i64 0, .int .i64 0, .slice none 0 0], [(0, 1, false), (1, 1, false), (2, 1, false)], none, none, 40⟩),
 (222, ⟨false, false, 1, [.map none], [], none, none, 8⟩),
 (224, ⟨true, true, 2, [.int .i64 0, .string ByteArray.empty], [(0, 1, false), (1, 1, false)], none, none, 24⟩),
 (225, ⟨false, false, 1, [.slice none 0 0], [], none, some 53, 24⟩),
 (226, ⟨false, false, 1, [.map none], [], none, none, 8⟩),
 (227, ⟨false, false, 1, [.slice none 0 0], [], none, some 198, 24⟩),
 (228, ⟨false, false, 1, [.pointer none], [], none, none, 8⟩),
 (236, ⟨true, true, 2, [.int .u8 0, .bool false], [(0, 1, false), (1, 1, false)], none, none, 2⟩)]
def tab : Tab := tabL tabs
theorem ti3 : TI.ok 3 ⟨false, false, 1, [.int .i64 0], [], some .i64, none, 8⟩ := ⟨by kernel_rfl, by kernel_rfl, by kernel_rfl, by kernel_rfl, by kernel_rfl, by kernel_rfl, by rfl, by rfl, by decide⟩
theorem ti4 : TI.ok 4 ⟨false, false, 1, [.bool false], [], none, none, 1⟩ := ⟨by kernel_rfl, by kernel_rfl, by kernel_rfl, by kernel_rfl, by kernel_rfl, by kernel_rfl, by rfl, by rfl, by decide⟩
theorem ti5 : TI.ok 5 ⟨false, false, 1, [.int .u8 0], [], some .u8, none, 1⟩ := ⟨by kernel_rfl, by kernel_rfl, by kernel_rfl, by kernel_rfl, by kernel_rfl, by kernel_rfl, by rfl, by rfl, by decide⟩
theorem ti9 : TI.ok 9 ⟨false, false, 1, [.string ByteArray.empty], [], none, none, 16⟩ := ⟨by kernel_rfl, by kernel_rfl, by kernel_rfl, by kernel_rfl, by kernel_rfl, by kernel_rfl, by rfl, by rfl, by decide⟩
theorem ti21 : TI.ok 21 ⟨false, false, 1, [.int .i32 0], [], some .i32, none, 4⟩ := ⟨by kernel_rfl, by kernel_rfl, by kernel_rfl, by kernel_rfl, by kernel_rfl, by kernel_rfl, by rfl, by rfl, by decide⟩
theorem ti22 : TI.ok 22 ⟨false, false, 1, [.slice none 0 0], [], none, some 26, 24⟩ := ⟨by kernel_rfl, by kernel_rfl, by kernel_rfl, by kernel_rfl, by kernel_rfl, by kernel_rfl, by rfl, by rfl, by decide⟩
theorem ti24 : TI.ok 24 ⟨true, true, 3, [.int .i64 0, .int .i64 0, .slice none 0 0], [(0, 1, false), (1, 1, false), (2, 1, false)], none, none, 40⟩ := ⟨by kernel_rfl, by kernel_rfl, by kernel_rfl, by kernel_rfl, by kernel_rfl, by kernel_rfl, by rfl, by rfl, by decide⟩
theorem ti26 : TI.ok 26 ⟨true, true, 3, [.int .i64 0, .int .i64 0, .int .i64 0], [(0, 1, false), (1, 1, false), (2, 1, false)], none, none, 24⟩ := ⟨by kernel_rfl, by kernel_rfl, by kernel_rfl, by kernel_rfl, by kernel_rfl, by kernel_rfl, by rfl, by rfl, by decide⟩
theorem ti27 : TI.ok 27 ⟨false, false, 1, [.slice none 0 0], [], none, some 4, 24⟩ := ⟨by kernel_rfl, by kernel_rfl, by kernel_rfl, by kernel_rfl, by kernel_rfl, by kernel_rfl, by rfl, by rfl, by decide⟩
theorem ti28 : TI.ok 28 ⟨false, false, 1, [.int .i64 0], [], some .i64, none, 8⟩ := ⟨by kernel_rfl, by kernel_rfl, by kernel_rfl, by kernel_rfl, by kernel_rfl, by kernel_rfl, by rfl, by rfl, by decide⟩
theorem ti32 : TI.ok 32 ⟨true, true, 2, [.int .i64 0, .int .i64 0], [(0, 1, false), (1, 1, false)], none, none, 16⟩ := ⟨by kernel_rfl, by kernel_rfl, by kernel_rfl, by kernel_rfl, by kernel_rfl, by kernel_rfl, by rfl, by rfl, by decide⟩
theorem ti34 : TI.ok 34 ⟨false, false, 1, [.slice none 0 0], [], none, some 9, 24⟩ := ⟨by kernel_rfl, by kernel_rfl, by kernel_rfl, by kernel_rfl, by kernel_rfl, by kernel_rfl, by rfl, by rfl, by decide⟩
theorem ti36 : TI.ok 36 ⟨false, false, 1, [.slice none 0 0], [], none, some 41, 24⟩ := ⟨by kernel_rfl, by kernel_rfl, by kernel_rfl, by kernel_rfl, by kernel_rfl, by kernel_rfl, by rfl, by rfl, by decide⟩
theorem ti37 : TI.ok 37 ⟨false, false, 1, [.slice none 0 0], [], none, some 3, 24⟩ := ⟨by kernel_rfl, by kernel_rfl, by kernel_rfl, by kernel_rfl, by kernel_rfl, by kernel_rfl, by rfl, by rfl, by decide⟩
theorem ti39 : TI.ok 39 ⟨true, true, 2, [.int .i64 0, .slice none 0 0], [(0, 1, false), (1, 1, false)], none, none, 32⟩ := ⟨by kernel_rfl, by kernel_rfl, by kernel_rfl, by kernel_rfl, by kernel_rfl, by kernel_rfl, by rfl, by rfl, by decide⟩
theorem ti41 : TI.ok 41 ⟨true, true, 4, [.int .i64 0, .int .i64 0, .int .i64 0, .slice none 0 0], [(0, 1, false), (1, 1, false), (2, 1, false), (3, 1, false)], none, none, 48⟩ := ⟨by kernel_rfl, by kernel_rfl, by kernel_rfl, by kernel_rfl, by kernel_rfl, by kernel_rfl, by rfl, by rfl, by decide⟩
theorem ti51 : TI.ok 51 ⟨false, false, 1, [.slice none 0 0], [], none, some 37, 24⟩ := ⟨by kernel_rfl, by kernel_rfl, by kernel_rfl, by kernel_rfl, by kernel_rfl, by kernel_rfl, by rfl, by rfl, by decide⟩
theorem ti53 : TI.ok 53 ⟨true, true, 4, [.int .i64 0, .int .i64 0, .slice none 0 0, .slice none 0 0], [(0, 1, false), (1, 1, false), (2, 1, false), (3, 1, false)], none, none, 64⟩ := ⟨by kernel_rfl, by kernel_rfl, by kernel_rfl, by kernel_rfl, by kernel_rfl, by kernel_rfl, by rfl, by rfl, by decide⟩
theorem ti55 : TI.ok 55 ⟨false, false, 1, [.slice none 0 0], [], none, some 59, 24⟩ := ⟨by kernel_rfl, by kernel_rfl, by kernel_rfl, by kernel_rfl, by kernel_rfl, by kernel_rfl, by rfl, by rfl, by decide⟩
theorem ti59 : TI.ok 59 ⟨true, true, 8, [.bool false, .slice none 0 0, .bool false, .int .i64 0, .int .i64 0, .slice none 0 0, .slice none 0 0, .bool false], [(0, 1, false), (1, 1, false), (2, 1, false), (3, 4, true), (7, 1, false)], none, none, 112⟩ := ⟨by kernel_rfl, by kernel_rfl, by kernel_rfl, by kernel_rfl, by kernel_rfl, by kernel_rfl, by rfl, by rfl, by decide⟩
theorem ti63 : TI.ok 63 ⟨false, false, 1, [.pointer none], [], none, none, 8⟩ := ⟨by kernel_rfl, by kernel_rfl, by kernel_rfl, by kernel_rfl, by kernel_rfl, by kernel_rfl, by rfl, by rfl, by decide⟩
theorem ti66 : TI.ok 66 ⟨false, false, 1, [.pointer none], [], none, none, 8⟩ := ⟨by kernel_rfl, by kernel_rfl, by kernel_rfl, by kernel_rfl, by kernel_rfl, by kernel_rfl, by rfl, by rfl, by decide⟩
theorem ti72 : TI.ok 72 ⟨false, false, 1, [.slice none 0 0], [], none, some 76, 24⟩ := ⟨by kernel_rfl, by kernel_rfl, by kernel_rfl, by kernel_rfl, by kernel_rfl, by kernel_rfl, by rfl, by rfl, by decide⟩
theorem ti74 : TI.ok 74 ⟨false, false, 1, [.slice none 0 0], [], none, some 79, 24⟩ := ⟨by kernel_rfl, by kernel_rfl, by kernel_rfl, by kernel_rfl, by kernel_rfl, by kernel_rfl, by rfl, by rfl, by decide⟩
theorem ti76 : TI.ok 76 ⟨true, true, 3, [.int .i64 0, .int .i64 0, .slice none 0 0], [(0, 1, false), (1, 1, false), (2, 1, false)], none, none, 40⟩ := ⟨by kernel_rfl, by kernel_rfl, by kernel_rfl, by kernel_rfl, by kernel_rfl, by kernel_rfl, by rfl, by rfl, by decide⟩
theorem ti79 : TI.ok 79 ⟨true, true, 3, [.int .i64 0, .int .i64 0, .int .i64 0], [(0, 1, false), (1, 1, false), (2, 1, false)], none, none, 24⟩ := ⟨by kernel_rfl, by kernel_rfl, by kernel_rfl, by kernel_rfl, by kernel_rfl, by kernel_rfl, by rfl, by rfl, by decide⟩
theorem ti83 : TI.ok 83 ⟨false, false, 1, [.pointer none], [], none, none, 8⟩ := ⟨by kernel_rfl, by kernel_rfl, by kernel_rfl, by kernel_rfl, by kernel_rfl, by kernel_rfl, by rfl, by rfl, by decide⟩
theorem ti92 : TI.ok 92 ⟨false, false, 1, [.pointer none], [], none, none, 8⟩ := ⟨by kernel_rfl, by kernel_rfl, by kernel_rfl, by kernel_rfl, by kernel_rfl, by kernel_rfl, by rfl, by rfl, by decide⟩
theorem ti94 : TI.ok 94 ⟨true, true, 5, [.int .i64 0, .int .i64 0, .slice none 0 0, .slice none 0 0, .slice none 0 0], [(0, 4, true), (4, 1, false)], none, none, 88⟩ := ⟨by kernel_rfl, by kernel_rfl, by kernel_rfl, by kernel_rfl, by kernel_rfl, by kernel_rfl, by rfl, by rfl, by decide⟩
theorem ti95 : TI.ok 95 ⟨false, false, 1, [.map none], [], none, none, 8⟩ := ⟨by kernel_rfl, by kernel_rfl, by kernel_rfl, by kernel_rfl, by kernel_rfl, by kernel_rfl, by rfl, by rfl, by decide⟩
theorem ti97 : TI.ok 97 ⟨true, true, 5, [.pointer none, .int .i64 0, .slice none 0 0, .slice none 0 0, .map none], [(0, 1, false), (1, 1, false), (2, 1, false), (3, 1, false), (4, 1, false)], none, none, 72⟩ := ⟨by kernel_rfl, by kernel_rfl, by kernel_rfl, by kernel_rfl, by kernel_rfl, by kernel_rfl, by rfl, by rfl, by decide⟩
theorem ti103 : TI.ok 103 ⟨false, false, 1, [.nilFunc], [], none, none, 8⟩ := ⟨by kernel_rfl, by kernel_rfl, by kernel_rfl, by kernel_rfl, by kernel_rfl, by kernel_rfl, by rfl, by rfl, by decide⟩
theorem ti108 : TI.ok 108 ⟨true, true, 2, [.int .i64 0, .int .i64 0], [(0, 2, true)], none, none, 16⟩ := ⟨by kernel_rfl, by kernel_rfl, by kernel_rfl, by kernel_rfl, by kernel_rfl, by kernel_rfl, by rfl, by rfl, by decide⟩
theorem ti111 : TI.ok 111 ⟨true, true, 4, [.string ByteArray.empty, .int .i64 0, .int .i64 0, .int .i64 0], [(0, 1, false), (1, 1, false), (2, 1, false), (3, 1, false)], none, none, 40⟩ := ⟨by kernel_rfl, by kernel_rfl, by kernel_rfl, by kernel_rfl, by kernel_rfl, by kernel_rfl, by rfl, by rfl, by decide⟩
theorem ti115 : TI.ok 115 ⟨true, true, 4, [.int .i64 0, .int .i64 0, .slice none 0 0, .slice none 0 0], [(0, 3, true), (3, 1, false)], none, none, 64⟩ := ⟨by kernel_rfl, by kernel_rfl, by kernel_rfl, by kernel_rfl, by kernel_rfl, by kernel_rfl, by rfl, by rfl, by decide⟩
theorem ti117 : TI.ok 117 ⟨false, false, 1, [.slice none 0 0], [], none, some 63, 24⟩ := ⟨by kernel_rfl, by kernel_rfl, by kernel_rfl, by kernel_rfl, by kernel_rfl, by kernel_rfl, by rfl, by rfl, by decide⟩
theorem ti119 : TI.ok 119 ⟨true, true, 4, [.int .u8 0, .bool false, .int .i64 0, .slice none 0 0], [(0, 1, false), (1, 1, false), (2, 1, false), (3, 1, false)], none, none, 40⟩ := ⟨by kernel_rfl, by kernel_rfl, by kernel_rfl, by kernel_rfl, by kernel_rfl, by kernel_rfl, by rfl, by rfl, by decide⟩
theorem ti124 : TI.ok 124 ⟨false, false, 1, [.slice none 0 0], [], none, some 39, 24⟩ := ⟨by kernel_rfl, by kernel_rfl, by kernel_rfl, by kernel_rfl, by kernel_rfl, by kernel_rfl, by rfl, by rfl, by decide⟩
theorem ti125 : TI.ok 125 ⟨false, false, 1, [.map none], [], none, none, 8⟩ := ⟨by kernel_rfl, by kernel_rfl, by kernel_rfl, by kernel_rfl, by kernel_rfl, by kernel_rfl, by rfl, by rfl, by decide⟩
theorem ti127 : TI.ok 127 ⟨true, true, 3, [.int .i64 0, .slice none 0 0, .map none], [(0, 2, true), (2, 1, false)], none, none, 40⟩ := ⟨by kernel_rfl, by kernel_rfl, by kernel_rfl, by kernel_rfl, by kernel_rfl, by kernel_rfl, by rfl, by rfl, by decide⟩
theorem ti129 : TI.ok 129 ⟨true, true, 3, [.int .i64 0, .int .i64 0, .slice none 0 0], [(0, 1, false), (1, 1, false), (2, 1, false)], none, none, 40⟩ := ⟨by kernel_rfl, by kernel_rfl, by kernel_rfl, by kernel_rfl, by kernel_rfl, by kernel_rfl, by rfl, by rfl, by decide⟩
theorem ti131 : TI.ok 131 ⟨false, false, 1, [.map none], [], none, none, 8⟩ := ⟨by kernel_rfl, by kernel_rfl, by kernel_rfl, by kernel_rfl, by kernel_rfl, by kernel_rfl, by rfl, by rfl, by decide⟩
theorem ti136 : TI.ok 136 ⟨false, false, 1, [.nilFunc], [], none, none, 8⟩ := ⟨by kernel_rfl, by kernel_rfl, by kernel_rfl, by kernel_rfl, by kernel_rfl, by kernel_rfl, by rfl, by rfl, by decide⟩
theorem ti140 : TI.ok 140 ⟨true, true, 2, [.int .i64 0, .int .i64 0], [(0, 2, true)], none, none, 16⟩ := ⟨by kernel_rfl, by kernel_rfl, by kernel_rfl, by kernel_rfl, by kernel_rfl, by kernel_rfl, by rfl, by rfl, by decide⟩
theorem ti141 : TI.ok 141 ⟨false, false, 1, [.pointer none], [], none, none, 8⟩ := ⟨by kernel_rfl, by kernel_rfl, by kernel_rfl, by kernel_rfl, by kernel_rfl, by kernel_rfl, by rfl, by rfl, by decide⟩
theorem ti142 : TI.ok 142 ⟨false, false, 1, [.slice none 0 0], [], none, some 236, 24⟩ := ⟨by kernel_rfl, by kernel_rfl, by kernel_rfl, by kernel_rfl, by kernel_rfl, by kernel_rfl, by rfl, by rfl, by decide⟩
theorem ti144 : TI.ok 144 ⟨true, true, 5, [.string ByteArray.empty, .int .i64 0, .int .i64 0, .int .i64 0, .slice none 0 0], [(0, 1, false), (1, 1, false), (2, 1, false), (3, 1, false), (4, 1, false)], none, none, 64⟩ := ⟨by kernel_rfl, by kernel_rfl, by kernel_rfl, by kernel_rfl, by kernel_rfl, by kernel_rfl, by rfl, by rfl, by decide⟩
theorem ti146 : TI.ok 146 ⟨false, false, 1, [.slice none 0 0], [], none, some 27, 24⟩ := ⟨by kernel_rfl, by kernel_rfl, by kernel_rfl, by kernel_rfl, by kernel_rfl, by kernel_rfl, by rfl, by rfl, by decide⟩
theorem ti147 : TI.ok 147 ⟨false, false, 1, [.slice none 0 0], [], none, some 83, 24⟩ := ⟨by kernel_rfl, by kernel_rfl, by kernel_rfl, by kernel_rfl, by kernel_rfl, by kernel_rfl, by rfl, by rfl, by decide⟩
theorem ti149 : TI.ok 149 ⟨true, true, 3, [.int .u8 0, .int .i64 0, .slice none 0 0], [(0, 1, false), (1, 1, false), (2, 1, false)], none, none, 40⟩ := ⟨by kernel_rfl, by kernel_rfl, by kernel_rfl, by kernel_rfl, by kernel_rfl, by kernel_rfl, by rfl, by rfl, by decide⟩
theorem ti153 : TI.ok 153 ⟨false, false, 1, [.pointer none], [], none, none, 8⟩ := ⟨by kernel_rfl, by kernel_rfl, by kernel_rfl, by kernel_rfl, by kernel_rfl, by kernel_rfl, by rfl, by rfl, by decide⟩
theorem ti158 : TI.ok 158 ⟨false, false, 1, [.pointer none], [], none, none, 8⟩ := ⟨by kernel_rfl, by kernel_rfl, by kernel_rfl, by kernel_rfl, by kernel_rfl, by kernel_rfl, by rfl, by rfl, by decide⟩
theorem ti162 : TI.ok 162 ⟨true, true, 2, [.slice none 0 0, .slice none 0 0], [(0, 1, false), (1, 1, false)], none, none, 48⟩ := ⟨by kernel_rfl, by kernel_rfl, by kernel_rfl, by kernel_rfl, by kernel_rfl, by kernel_rfl, by rfl, by rfl, by decide⟩
theorem ti180 : TI.ok 180 ⟨false, false, 1, [.int .u64 0], [], some .u64, none, 8⟩ := ⟨by kernel_rfl, by kernel_rfl, by kernel_rfl, by kernel_rfl, by kernel_rfl, by kernel_rfl, by rfl, by rfl, by decide⟩
theorem ti184 : TI.ok 184 ⟨true, true, 2, [.int .i64 0, .int .i64 0], [(0, 2, true)], none, none, 16⟩ := ⟨by kernel_rfl, by kernel_rfl, by kernel_rfl, by kernel_rfl, by kernel_rfl, by kernel_rfl, by rfl, by rfl, by decide⟩
theorem ti187 : TI.ok 187 ⟨true, true, 3, [.string ByteArray.empty, .int .i64 0, .int .i64 0], [(0, 1, false), (1, 1, false), (2, 1, false)], none, none, 32⟩ := ⟨by kernel_rfl, by kernel_rfl, by kernel_rfl, by kernel_rfl, by kernel_rfl, by kernel_rfl, by rfl, by rfl, by decide⟩
theorem ti191 : TI.ok 191 ⟨true, true, 3, [.bool false, .slice none 0 0, .slice none 0 0], [(0, 1, false), (1, 1, false), (2, 1, false)], none, none, 56⟩ := ⟨by kernel_rfl, by kernel_rfl, by kernel_rfl, by kernel_rfl, by kernel_rfl, by kernel_rfl, by rfl, by rfl, by decide⟩
theorem ti193 : TI.ok 193 ⟨false, false, 1, [.map none], [], none, none, 8⟩ := ⟨by kernel_rfl, by kernel_rfl, by kernel_rfl, by kernel_rfl, by kernel_rfl, by kernel_rfl, by rfl, by rfl, by decide⟩
theorem ti198 : TI.ok 198 ⟨true, false, 2, [.int .i64 0, .int .i64 0], [(0, 1, false), (1, 1, false)], none, none, 16⟩ := ⟨by kernel_rfl, by kernel_rfl, by kernel_rfl, by kernel_rfl, by kernel_rfl, by kernel_rfl, by rfl, by rfl, by decide⟩
theorem ti201 : TI.ok 201 ⟨false, false, 1, [.pointer none], [], none, none, 8⟩ := ⟨by kernel_rfl, by kernel_rfl, by kernel_rfl, by kernel_rfl, by kernel_rfl, by kernel_rfl, by rfl, by rfl, by decide⟩
theorem ti202 : TI.ok 202 ⟨false, false, 1, [.slice none 0 0], [], none, some 5, 24⟩ := ⟨by kernel_rfl, by kernel_rfl, by kernel_rfl, by kernel_rfl, by kernel_rfl, by kernel_rfl, by rfl, by rfl, by decide⟩
theorem ti204 : TI.ok 204 ⟨true, true, 2, [.pointer none, .slice none 0 0], [(0, 1, false), (1, 1, false)], none, none, 32⟩ := ⟨by kernel_rfl, by kernel_rfl, by kernel_rfl, by kernel_rfl, by kernel_rfl, by kernel_rfl, by rfl, by rfl, by decide⟩
theorem ti210 : TI.ok 210 ⟨false, false, 1, [.int .u32 0], [], some .u32, none, 4⟩ := ⟨by kernel_rfl, by kernel_rfl, by kernel_rfl, by kernel_rfl, by kernel_rfl, by kernel_rfl, by rfl, by rfl, by decide⟩
theorem ti213 : TI.ok 213 ⟨false, false, 1, [.int .u64 0], [], some .u64, none, 8⟩ := ⟨by kernel_rfl, by kernel_rfl, by kernel_rfl, by kernel_rfl, by kernel_rfl, by kernel_rfl, by rfl, by rfl, by decide⟩
theorem ti216 : TI.ok 216 ⟨false, false, 1, [.slice none 0 0], [], none, some 153, 24⟩ := ⟨by kernel_rfl, by kernel_rfl, by kernel_rfl, by kernel_rfl, by kernel_rfl, by kernel_rfl, by rfl, by rfl, by decide⟩
theorem ti218 : TI.ok 218 ⟨true, true, 3, [.int .i64 0, .int .i64 0, .slice none 0 0], [(0, 1, false), (1, 1, false), (2, 1, false)], none, none, 40⟩ := ⟨by kernel_rfl, by kernel_rfl, by kernel_rfl, by kernel_rfl, by kernel_rfl, by kernel_rfl, by rfl, by rfl, by decide⟩
theorem ti222 : TI.ok 222 ⟨false, false, 1, [.map none], [], none, none, 8⟩ := ⟨by kernel_rfl, by kernel_rfl, by kernel_rfl, by kernel_rfl, by kernel_rfl, by kernel_rfl, by rfl, by rfl, by decide⟩
theorem ti224 : TI.ok 224 ⟨true, true, 2, [.int .i64 0, .string ByteArray.empty], [(0, 1, false), (1, 1, false)], none, none, 24⟩ := ⟨by kernel_rfl, by kernel_rfl, by kernel_rfl, by kernel_rfl, by kernel_rfl, by kernel_rfl, by rfl, by rfl, by decide⟩
theorem ti225 : TI.ok 225 ⟨false, false, 1, [.slice none 0 0], [], none, some 53, 24⟩ := ⟨by kernel_rfl, by kernel_rfl, by kernel_rfl, by kernel_rfl, by kernel_rfl, by kernel_rfl, by rfl, by rfl, by decide⟩
theorem ti226 : TI.ok 226 ⟨false, false, 1, [.map none], [], none, none, 8⟩ := ⟨by kernel_rfl, by kernel_rfl, by kernel_rfl, by kernel_rfl, by kernel_rfl, by kernel_rfl, by rfl, by rfl, by decide⟩
theorem ti227 : TI.ok 227 ⟨false, false, 1, [.slice none 0 0], [], none, some 198, 24⟩ := ⟨by kernel_rfl, by kernel_rfl, by kernel_rfl, by kernel_rfl, by kernel_rfl, by kernel_rfl, by rfl, by rfl, by decide⟩
theorem ti228 : TI.ok 228 ⟨false, false, 1, [.pointer none], [], none, none, 8⟩ := ⟨by kernel_rfl, by kernel_rfl, by kernel_rfl, by kernel_rfl, by kernel_rfl, by kernel_rfl, by rfl, by rfl, by decide⟩
theorem ti236 : TI.ok 236 ⟨true, true, 2, [.int .u8 0, .bool false], [(0, 1, false), (1, 1, false)], none, none, 2⟩ := ⟨by kernel_rfl, by kernel_rfl, by kernel_rfl, by kernel_rfl, by kernel_rfl, by kernel_rfl, by rfl, by rfl, by decide⟩
theorem tab_ok : tab.ok := tabL_ok fun x hx => by
 simp only [tabs, List.mem_cons, List.not_mem_nil, or_false] at hx
 rcases hx with rfl | rfl | rfl | rfl | rfl | rfl | rfl | rfl | rfl | rfl | rfl | rfl | rfl | rfl | rfl | rfl | rfl | rfl | rfl | rfl | rfl | rfl | rfl | rfl | rfl | rfl | rfl | rfl | rfl | rfl | rfl | rfl | rfl | rfl | rfl | rfl | rfl | rfl | rfl | rfl | rfl | rfl | rfl | rfl | rfl | rfl | rfl | rfl | rfl | rfl | rfl | rfl | rfl | rfl | rfl | rfl | rfl | rfl | rfl | rfl | rfl | rfl | rfl | rfl | rfl | rfl | rfl | rfl | rfl | rfl | rfl | rfl | rfl
 ·exact ti3
 ·exact ti4
 ·exact ti5
 ·exact ti9
 ·exact ti21
 ·exact ti22
 ·exact ti24
 ·exact ti26
 ·exact ti27
 ·exact ti28
 ·exact ti32
 ·exact ti34
 ·exact ti36
 ·exact ti37
 ·exact ti39
 ·exact ti41
 ·exact ti51
 ·exact ti53
 ·exact ti55
 ·exact ti59
 ·exact ti63
 ·exact ti66
 ·exact ti72
 ·exact ti74
 ·exact ti76
 ·exact ti79
 ·exact ti83
 ·exact ti92
 ·exact ti94
 ·exact ti95
 ·exact ti97
 ·exact ti103
 ·exact ti108
 ·exact ti111
 ·exact ti115
 ·exact ti117
 ·exact ti119
 ·exact ti124
 ·exact ti125
 ·exact ti127
 ·exact ti129
 ·exact ti131
 ·exact ti136
 ·exact ti140
 ·exact ti141
 ·exact ti142
 ·exact ti144
 ·exact ti146
 ·exact ti147
 ·exact ti149
 ·exact ti153
 ·exact ti158
 ·exact ti162
 ·exact ti180
 ·exact ti184
 ·exact ti187
 ·exact ti191
 ·exact ti193
 ·exact ti198
 ·exact ti201
 ·exact ti202
 ·exact ti204
 ·exact ti210
 ·exact ti213
 ·exact ti216
 ·exact ti218
 ·exact ti222
 ·exact ti224
 ·exact ti225
 ·exact ti226
 ·exact ti227
 ·exact ti228
 ·exact ti236
end Go.Proofs.Ytiejmeedkhkfgaa
namespace Go.Proofs.Ytiejmeedkhkfgaa
open Go.RowKit Go.MapKept
set_option linter.unusedSimpArgs false
set_option linter.unusedVariables false
set_option maxRecDepth 100000
set_option linter.unusedSectionVars false
section
variable {K : Type} [DecidableEq K]
variable {go : K → Nat → K} {mark : K → Int} {L : Nat} {k0 : K} {P : K → Prop}
section
variable {K' : Type} [DecidableEq K'] {go' : K' → Nat → K'} {mark' : K' → Int} {φ : K → K'}
end
end
abbrev Lang := List Nat → Int
noncomputable instance langDec : DecidableEq Lang := fun _ _ => Classical.propDecidable _
def rs (L : Nat) (r : Lang) : Lang := fun w => if ∀ a ∈ w, a < L then r w else 0
section
variable {K : Type} [DecidableEq K] {go : K → Nat → K} {mark : K → Int} {L : Nat} {k0 : K} {P : K → Prop}
end
def stepD (d : ApiDet) (q : Nat) (a : Nat) : Nat := ((d.fNext.getD q []).getD a 0).toNat
def langD (d : ApiDet) (q : Nat) : Lang := fun w => d.fMark.getD (w.foldl (stepD d) q) 0
section
variable {K : Type} [DecidableEq K] {go : K → Nat → K} {mark : K → Int} {L : Nat} {k0 : K} {P : K → Prop}
end
structure Wf (d : ApiDet) : Prop where
 letters : 0 ≤ d.fLetters
 rows : ∀ r ∈ d.fNext, r.length = d.fLetters.toNat
 next : ∀ r ∈ d.fNext, ∀ x ∈ r, 0 ≤ x ∧ x < (d.fNext.length : Int)
 start : 0 ≤ d.fStart ∧ d.fStart < (d.fNext.length : Int)
 mark : d.fMark.length = d.fNext.length
section
variable {K : Type} [DecidableEq K] {go : K → Nat → K} {mark : K → Int} {L : Nat} {k0 : K} {P : K → Prop}
end
section
variable {K : Type} [DecidableEq K] {go : K → Nat → K} {mark : K → Int} {L : Nat} {k0 : K} {P : K → Prop}
end
def two8 (c : Int) : List Int := [c % 256, c / 256 % 256]
def rowCls (cls : List Int) (r : List Int) : List Int := r.map fun t => cls.getD t.toNat 0
def keyOf (cls : List Int) (q : Nat) (r : List Int) : DetSplit := ⟨cls.getD q 0, bytesOf ((rowCls cls r).flatMap two8)⟩
structure RoundOf (N : List (List Int)) (cls next : List Int) (m : Nat) : Prop where
 len : next.length = N.length
 range : ∀ x ∈ next, 0 ≤ x ∧ x < (m : Int)
 onto : ∀ j : Nat, j < m → (j : Int) ∈ next
 same : ∀ (p q : Nat) (r s : List Int) (x y : Int), N[p]? = some r → N[q]? = some s → next[p]? = some x → next[q]? = some y → (x = y ↔ keyOf cls p r = keyOf cls q s)
structure ClsPre (d : ApiDet) : Prop where
 size : d.fNext.length ≤ 65536
 next : ∀ r ∈ d.fNext, ∀ x ∈ r, 0 ≤ x ∧ x < (d.fNext.length : Int)
 wide : ∀ r ∈ d.fNext, r.length ≤ 1000
 marks : d.fMark.length = d.fNext.length
 small : ∀ x ∈ d.fMark, 0 ≤ x ∧ x < 65536
structure Half (N : List (List Int)) (cls : List Int) (q : Nat) (m2 : List (DetSplit × Int)) (next : List Int) : Prop where
 len : next.length = N.length
 get : ∀ (p : Nat) (r : List Int), p < q → N[p]? = some r → ∃ x : Int, next[p]? = some x ∧ mget (keyOf cls p r) m2 = some x
 range : ∀ (k : DetSplit) (x : Int), mget k m2 = some x → 0 ≤ x ∧ x < (m2.length : Int)
 inj : ∀ (k l : DetSplit) (x : Int), mget k m2 = some x → mget l m2 = some x → k = l
 onto : ∀ j : Nat, j < m2.length → ∃ p : Nat, p < q ∧ next[p]? = some (j : Int)
 size : m2.length ≤ q
structure ClsInv (d : ApiDet) (L : Nat) (x4 : Int) (cls : List Int) : Prop where
 len : cls.length = d.fNext.length
 range : ∀ x ∈ cls, 0 ≤ x ∧ x < 65536
 sound : ∀ p q, p < d.fNext.length → q < d.fNext.length → rs L (langD d p) = rs L (langD d q) → cls.getD p 0 = cls.getD q 0
 marks : ∀ p q, p < d.fNext.length → q < d.fNext.length → cls.getD p 0 = cls.getD q 0 → d.fMark.getD p 0 = d.fMark.getD q 0
 count : x4 = 0 ∨ ∃ m : Nat, x4 = m ∧ m ≤ d.fNext.length ∧ (∀ x ∈ cls, 0 ≤ x ∧ x < (m : Int)) ∧ ∀ j : Nat, j < m → (j : Int) ∈ cls
section
variable {d : ApiDet} (hd : ClsPre d) {L : Nat} (hL : ∀ r ∈ d.fNext, r.length = L)
include hd
end
end Go.Proofs.Ytiejmeedkhkfgaa
namespace Go.Proofs.Ytiejmeedkhkfgaa
open Go.RowKit Go.MapKept
set_option linter.unusedSimpArgs false
set_option linter.unusedVariables false
set_option maxRecDepth 100000
theorem ob {α β : Type} {x : Option α} {f : α → Option β} {a : α} (h : x = some a) : x.bind f = f a := by rw [h]; rfl
theorem ob_none {α β : Type} {x : Option α} {f : α → Option β} (h : x = none) : x.bind f = none := by rw [h]; rfl
def cloneBool_vc (l : (List Bool)) (Q : (List Bool) → Prop) : Prop :=
 l.length ≤ 9223372036854775807 →
 (∀ isnil : Bool, (isnil = true → l = []) →
 (IfP (isnil != false) (Q []) (capOk ([] : (List Bool)).length (l : (List Bool)).length 1 ∧
 Q (([] : (List Bool)) ++ l))))
theorem cloneBool_walk (l : (List Bool)) (Q : (List Bool) → Prop) (h : cloneBool_vc l Q) : CtJ 33 [.sv (.one (LS boolT l))] [] Q (fun (r : (List Bool)) => rowI 4 boolT r) := by
 have ht := tab_ok
 refine CtJ.body Try.func33 rfl rfl rfl rfl (fun c hn hmay => ?_)
 unfold cloneBool_vc at h
 refine En.lenL 0 (by rfl) (fun hl => ?_)
 replace h := h hl
 clear hl
 refine En.sr ?_
 refine WL.rn ht hn 1 ⟨[sl 0 (LS boolT l)], []⟩ ?_
 refine En.seq ?_
 refine En.sr ?_
 refine WL.r ht hn 1 ⟨[sl 0 (LS boolT l), sl 3 (LS boolT l)], []⟩ ?_
 refine WL.eqNil (T := boolT) (l := l) .eql false (by simp) ht hn (by rfl) rfl (by rfl) (by rfl) (by rfl) rfl (by rfl) (fun isnil hisnil => ?_)
 replace h := h isnil hisnil
 clear hisnil
 refine WL.nil ?_
 refine En.cd (b := (isnil != false)) (fun hb => ?_) (fun hb => ?_)
 replace h := h.1 hb
 refine En.sr ?_
 refine WL.rn ht hn 1 ⟨[sl 2 (.v (.slice none 0 0))], []⟩ ?_
 refine En.ret ?_
 exact En.backN (by rfl) h
 replace h := h.2 hb
 refine En.skip ?_
 refine En.sr ?_
 refine WL.mt0 (K := []) (p := some (0, rowI 4 boolT ([] : (List Bool)))) hn (by rfl) (mt_empty boolT 0 ht rfl (by rfl) (by rfl) (by rfl)) (by rfl) (by rfl) (by rfl) ?_
 refine WL.r ht hn 1 ⟨[sl 5 (.own 0), sl 6 (LS boolT l)], [rowI 4 boolT ([] : (List Bool))]⟩ ?_
 obtain ⟨hp, h⟩ := h
 refine WL.mt (S2 := ⟨[sl 6 (LS boolT l)], [rowI 4 boolT ([] : (List Bool))]⟩) (K := [0]) (p := some (0, rowI 4 boolT (([] : (List Bool)) ++ l))) hn (by rfl) (mt_append (T := boolT) (l := ([] : (List Bool))) (es := l) ht rfl (by rfl) (by rfl) (by rfl) (by rfl) (by decide) (by rfl) (by rfl) (srcLS (T := boolT) (es := l) (fun _ h => by cases h) (by decide) (by rfl)) (by exact hp) (by exact hp.le (by decide))) (by kernel_rfl) (by rfl) (by rfl) (by rfl) ?_
 refine WL.rn ht hn 1 ⟨[sl 2 (.own 0)], [rowI 4 boolT (([] : (List Bool)) ++ l)]⟩ ?_
 refine En.ret ?_
 exact En.backJ (itf := fun l => rowI 4 boolT l) hmay (by rfl) (by rfl) rfl rfl h
theorem en33 : ∀ args w, (callFunc 33 args).run Try.prog w = .ok (.enter 33 args) w := enters_of Try.func33 (by kernel_rfl) rfl
theorem cloneBool_ct (l : List Bool) (hp : l.length * 1 ≤ 140737488355328) : CtI 33 [.sv (.one (LS boolT l))] [] (rowI 4 boolT l) := by
 refine (cloneBool_walk l (fun r => r = l) ?_).fun
 unfold cloneBool_vc
 refine fun _ isnil h => ⟨fun hb => (h (by simpa using hb)).symm, fun _ => ⟨?_, by simp⟩⟩
 unfold capOk
 simpa using hp
def eqBools_vc (a : (List Bool)) (b : (List Bool)) (Q : Bool → Prop) : Prop :=
 a.length ≤ 9223372036854775807 →
 b.length ≤ 9223372036854775807 →
 (IfP ((a.length : Int) != (b.length : Int)) (Q false) (∃ (Inv : Int → Prop) (mu : Int → Nat), Inv 0 ∧
 ∀ (x13 : Int) , Inv x13 → (IfP (decide (x13 < (a.length : Int))) (∃ e, idx a x13 = some e ∧
 ∃ e_2, idx b x13 = some e_2 ∧
 IfP (e != e_2) (Q false) ((Inv (wr (x13 + 1)) ∧ mu (wr (x13 + 1)) < mu x13))) (Q true))))
theorem eqBools_walk (a : (List Bool)) (b : (List Bool)) (Q : Bool → Prop) (h : eqBools_vc a b Q) : Ct 78 [.sv (.one (LS boolT a)), .sv (.one (LS boolT b))] [] Q (fun (r : Bool) => .sv (.one (B r))) := by
 have ht := tab_ok
 refine Ct.body Try.func78 rfl rfl rfl rfl (fun c hn => ?_)
 unfold eqBools_vc at h
 refine En.lenL 0 (by rfl) (fun hl => ?_)
 replace h := h hl
 clear hl
 refine En.lenL 1 (by rfl) (fun hl => ?_)
 replace h := h hl
 clear hl
 refine En.sr ?_
 refine WL.rn ht hn 1 ⟨[sl 0 (LS boolT a), sl 1 (LS boolT b)], []⟩ ?_
 refine En.seq ?_
 refine En.sr ?_
 refine WL.rn ht hn 5 ⟨[sl 0 (LS boolT a), sl 1 (LS boolT b), sl 10 (B ((a.length : Int) != (b.length : Int)))], []⟩ ?_
 refine En.cd (b := ((a.length : Int) != (b.length : Int))) (fun hb => ?_) (fun hb => ?_)
 replace h := h.1 hb
 refine En.sr ?_
 refine WL.rn ht hn 1 ⟨[sl 4 (B false)], []⟩ ?_
 exact En.rb ht false h
 replace h := h.2 hb
 refine En.skip ?_
 refine En.seq ?_
 refine En.sr ?_
 refine WL.rn ht hn 3 ⟨[sl 0 (LS boolT a), sl 1 (LS boolT b), sl 12 (I (a.length : Int)), sl 13 (I 0)], []⟩ ?_
 refine En.block ?_
 obtain ⟨Inv, mu, h0, hI⟩ := h
 refine En.loop (σ := Int) (fun zz => Inv zz) (fun zz => mu zz) (fun zz => ⟨[sl 0 (LS boolT a), sl 1 (LS boolT b), sl 12 (I (a.length : Int)), sl 13 (I zz)], []⟩) 0 h0 (sub_ok (by kernel_rfl)) ?_
 intro x13 h
 replace h := hI _ h
 show En c ⟨[sl 0 (LS boolT a), sl 1 (LS boolT b), sl 12 (I (a.length : Int)), sl 13 (I x13)], []⟩ _
 refine En.sr ?_
 refine WL.rn ht hn 1 ⟨[sl 0 (LS boolT a), sl 1 (LS boolT b), sl 12 (I (a.length : Int)), sl 13 (I x13), sl 14 (B (decide (x13 < (a.length : Int))))], []⟩ ?_
 refine En.seq ?_
 refine En.cd (b := (decide (x13 < (a.length : Int)))) (fun hb => ?_) (fun hb => ?_)
 replace h := h.1 hb
 refine En.skip ?_
 refine En.seq ?_
 refine En.block ?_
 refine En.sr ?_
 refine WL.rn ht hn 2 ⟨[sl 0 (LS boolT a), sl 1 (LS boolT b), sl 5 (I x13), sl 12 (I (a.length : Int)), sl 13 (I x13)], []⟩ ?_
 refine En.seq ?_
 obtain ⟨e, he, h⟩ := h
 obtain ⟨e_2, he_2, h⟩ := h
 refine En.regionA ⟨[sl 0 (LS boolT a), sl 1 (LS boolT b), sl 5 (I x13), sl 12 (I (a.length : Int)), sl 13 (I x13)], [.sv (.one (LS boolT a)), .sv (.one (I x13)), .sv (.one (.pe (svR (.one (B e))) 1)), .sv (.one (B e)), .sv (.one (LS boolT b)), .sv (.one (I x13)), .sv (.one (.pe (svR (.one (B e_2))) 1)), .sv (.one (B e_2)), .sv (.one (B (e != e_2)))], []⟩ ⟨[sl 0 (LS boolT a), sl 1 (LS boolT b), sl 12 (I (a.length : Int)), sl 13 (I x13), sl 24 (B (e != e_2))], []⟩ (by kernel_rfl) hn (by kernel_rfl) (by rfl) (by kernel_rfl) ?_ (by kernel_rfl) ?_
 exact ⟨.ev ⟨[sl 0 (LS boolT a)], []⟩ ht,
 .ev ⟨[sl 5 (I x13)], []⟩ ht,
 .vl ⟨[sl 16 (LS boolT a), sl 17 (I x13)], []⟩ (mt_val (val_ix (T := boolT) (l := a) (i := x13) ht rfl he)),
 .vl ⟨[sl 18 (.pe (svR (.one (B e))) 1)], []⟩ (mt_val (val_ld (s := .one (B e)) ht rfl)),
 .ev ⟨[sl 1 (LS boolT b)], []⟩ ht,
 .ev ⟨[sl 5 (I x13)], []⟩ ht,
 .vl ⟨[sl 20 (LS boolT b), sl 21 (I x13)], []⟩ (mt_val (val_ix (T := boolT) (l := b) (i := x13) ht rfl he_2)),
 .vl ⟨[sl 22 (.pe (svR (.one (B e_2))) 1)], []⟩ (mt_val (val_ld (s := .one (B e_2)) ht rfl)),
 .vl ⟨[sl 19 (B e), sl 23 (B e_2)], []⟩ (mt_val (val_eqB (u := e) (v := e_2) rfl Try.underlying4 (by rfl) (by rfl) (.inr ⟨rfl, rfl⟩))),
 trivial⟩
 refine En.cd (b := (e != e_2)) (fun hb => ?_) (fun hb => ?_)
 replace h := h.1 hb
 refine En.sr ?_
 refine WL.rn ht hn 1 ⟨[sl 4 (B false)], []⟩ ?_
 exact En.rb ht false h
 replace h := h.2 hb
 refine En.skip ?_
 refine En.region ?_
 refine WL.rn ht hn 2 ⟨[sl 0 (LS boolT a), sl 1 (LS boolT b), sl 12 (I (a.length : Int)), sl 13 (I (wr (x13 + 1)))], []⟩ ?_
 exact En.at (I := fun zz => Inv zz ∧ mu zz < mu x13) (T := fun zz => ⟨[sl 0 (LS boolT a), sl 1 (LS boolT b), sl 12 (I (a.length : Int)), sl 13 (I zz)], []⟩) (wr (x13 + 1)) h (by kernel_rfl)
 replace h := h.2 hb
 refine En.exit rfl ?_
 refine En.sr ?_
 refine WL.rn ht hn 1 ⟨[sl 4 (B true)], []⟩ ?_
 exact En.rb ht true h
theorem en78 : ∀ args w, (callFunc 78 args).run Try.prog w = .ok (.enter 78 args) w := enters_of Try.func78 (by kernel_rfl) rfl
theorem eqBools_ct (a : (List Bool)) (b : (List Bool))  : Ct 78 [.sv (.one (LS boolT a)), .sv (.one (LS boolT b))] [] (fun (_ : Unit) => True) (fun _ => .sv (.one (B (decide (a = b))))) := by
 refine (eqBools_walk a b (fun res_ => res_ = (decide (a = b))) ?_).fun
 intro ha hb
 refine ⟨fun h => ?_, fun h => ?_⟩
 ·show false = decide (a = b)
  rw [eq_comm, decide_eq_false_iff_not]
  rintro rfl
  simp at h
 have hl : a.length = b.length := by have := h; simp only [bne_eq_false_iff_eq] at this; omega
 refine ⟨fun i => ∃ k : Nat, i = k ∧ k ≤ a.length ∧ a.take k = b.take k, fun i => a.length - i.toNat, ⟨0, rfl, Nat.zero_le _, by simp⟩, ?_⟩
 rintro i ⟨k, rfl, hk, ht⟩
 refine ⟨fun hb1 => ?_, fun hb1 => ?_⟩
 ·have hlt := dlt hb1
  have hlt2 : k < b.length := by omega
  refine ⟨_, idx_at hlt, _, idx_at hlt2, fun hne => ?_, fun he => ⟨⟨k + 1, wsucc (by omega), hlt, ?_⟩, mu_up hlt (by omega)⟩⟩
  ·show false = decide (a = b)
   rw [eq_comm, decide_eq_false_iff_not]
   rintro rfl
   simp at hne
  ·have he : a[k] = b[k] := by simpa using he
   rw [List.take_add_one, List.take_add_one, ht, List.getElem?_eq_getElem hlt, List.getElem?_eq_getElem hlt2, he]
 ·have hge := dge hb1
  rw [List.take_of_length_le hge, List.take_of_length_le (by omega)] at ht
  show true = decide (a = b)
  rw [ht]
  simp
structure FLab where
 fSign : Int
 fN : Int
deriving DecidableEq, Inhabited
def fLab (a : FLab) : List Value := [.int .u8 a.fSign, .int .i64 a.fN]
theorem fLabH : ∀ a, ∀ c ∈ fLab a, cellV c := fun a c h => by
 simp only [fLab, List.mem_cons, List.not_mem_nil, or_false] at h
 rcases h with rfl | rfl <;> trivial
def fch (text : ByteArray) (i : Int) : Int := (byteAt text i).getD 0
theorem fAt_ok {text : ByteArray} {i : Int} (h0 : 0 ≤ i) (h1 : i < text.size) : byteAt text i = some (fch text i) := by
 unfold fch byteAt
 rw [if_pos h0]
 have : i.toNat < text.size := by omega
 simp [this]
theorem fch_end {text : ByteArray} {i : Int} (h1 : text.size ≤ i) : fch text i = 0 := by
 unfold fch byteAt
 split
 ·have : ¬ i.toNat < text.size := by omega
  simp [this]
 ·rfl
theorem fch_lt {text : ByteArray} {p : Int} (h : fch text p ≠ 0) : p < text.size := by
 by_cases hh : p < text.size
 ·exact hh
 ·exact absurd (fch_end (by omega)) h
structure FS where
 pos : Int
 deep : Int
 cnt : Int
abbrev FTr := Tr FLab
abbrev Nms := List FixName
def fn (sign : Int) (n : Int) (kids : List FTr) : FTr := .node ⟨sign, n⟩ kids
def flipA (ar : Nms) : Nms := ar.map fun x => ⟨x.fSign, !x.fTurned⟩
def seekF (ar : Nms) (c : Int) : Nat → Option Nat
 | 0 => none
 | j + 1 => match ar[j]? with
  | none => none
  | some v => if v.fSign = c then (if v.fTurned = true then none else some j) else seekF ar c j
def fcnt (s : FS) : Option FS := if s.cnt + 1 > 30 then none else some ⟨s.pos, s.deep, s.cnt + 1⟩
def fstep (s : FS) : FS := ⟨s.pos + 1, s.deep, s.cnt⟩
def fcst (s : FS) : Option FS := (fcnt s).bind fun s => some (fstep s)
def fwant (c : Int) (text : ByteArray) (s : FS) : Option FS := if fch text s.pos = c then some (fstep s) else none
abbrev FRec := Nms → FS → Option (FTr × FS)
def arrF (rec0 : FRec) (text : ByteArray) (ar : Nms) (c : Int) (s : FS) : Option (FTr × FS) := (fcst s).bind fun s1 =>
 if 97 ≤ fch text s1.pos ∧ fch text s1.pos ≤ 100 then (fwant (if c = 60 then 62 else 93) text (fstep s1)).bind fun s2 => (rec0 ar s2).bind fun r => some (fn c (fch text s1.pos - 97) [r.1], r.2) else none
def lpF (rec0 : FRec) (text : ByteArray) (ar : Nms) (c : Int) (s : FS) : Option (FTr × FS) := if ar.length = 3 then none else (fcst s).bind fun s1 =>
 if 88 ≤ fch text s1.pos ∧ fch text s1.pos ≤ 90 then (fwant 46 text (fstep s1)).bind fun s2 => (rec0 (ar ++ [⟨fch text s1.pos, false⟩]) s2).bind fun r => some (fn c ar.length [r.1], r.2) else none
def namF (ar : Nms) (c : Int) (s : FS) : Option (FTr × FS) := (seekF ar c ar.length).bind fun j => (fcst s).bind fun s1 => some (fn 88 j [], s1)
def parF (rec0 rec3 : FRec) (text : ByteArray) (ar : Nms) (s : FS) : Option (FTr × FS) :=
 if fch text s.pos = 48 ∨ fch text s.pos = 49 then (fcst s).bind fun s1 => some (fn (fch text s.pos) 0 [], s1)
 else if fch text s.pos = 33 then (fcst s).bind fun s1 => (rec0 (flipA ar) s1).bind fun r => some (fn 33 0 [r.1], r.2)
 else if fch text s.pos = 60 ∨ fch text s.pos = 91 then arrF rec0 text ar (fch text s.pos) s
 else if fch text s.pos = 109 ∨ fch text s.pos = 110 then lpF rec0 text ar (fch text s.pos) s
 else if 88 ≤ fch text s.pos ∧ fch text s.pos ≤ 90 then namF ar (fch text s.pos) s
 else if fch text s.pos = 40 then if s.deep = 40 then none else (rec3 ar ⟨s.pos + 1, s.deep + 1, s.cnt⟩).bind fun r => (fwant 41 text r.2).bind fun s2 => some (r.1, ⟨s2.pos, s2.deep - 1, s2.cnt⟩)
 else none
def lopFL (ch : Int) (rec : FS → Option (FTr × FS)) (text : ByteArray) : Nat → FTr → FS → Option (FTr × FS)
 | 0, _, _ => none
 | m + 1, t, s => if fch text s.pos = ch then (fcst s).bind fun s1 => (rec s1).bind fun r => lopFL ch rec text m (fn ch 0 [t, r.1]) r.2 else some (t, s)
def lopF (ch : Int) (rec : FS → Option (FTr × FS)) (text : ByteArray) (s : FS) : Option (FTr × FS) := (rec s).bind fun r => lopFL ch rec text (text.size + 1) r.1 r.2
def pF (text : ByteArray) : Nat → Nat → FRec
 | 0, _, _, _ => none
 | k + 1, 0, ar, s => parF (pF text k 0) (pF text k 2) text ar s
 | k + 1, 1, ar, s => lopF 38 (pF text k 0 ar) text s
 | k + 1, _, ar, s => lopF 124 (pF text k 1 ar) text s
def gF (text : ByteArray) (s : FS) : Prop := (0 ≤ s.pos ∧ s.pos ≤ text.size) ∧ (0 ≤ s.cnt ∧ s.cnt ≤ 30) ∧ (0 ≤ s.deep ∧ s.deep ≤ 40)
def fOk (k kd : Nat) (text : ByteArray) (ar : Nms) (s : FS) : Prop := text.size ≤ 4000 ∧ 4 * (text.size - s.pos) + kd < k ∧ gF text s ∧ ar.length ≤ 3
def WfF : Nat → List Bool → FTr → Prop
 | 0, _, _ => False
 | k + 1, fl, .node a kids => ((a.fSign = 48 ∨ a.fSign = 49) ∧ kids = []) ∨ (a.fSign = 88 ∧ kids = [] ∧ ∃ j : Nat, a.fN = j ∧ fl[j]? = some false) ∨ (a.fSign = 33 ∧ ∃ x, kids = [x] ∧ WfF k (fl.map not) x)
  ∨ ((a.fSign = 60 ∨ a.fSign = 91) ∧ (0 ≤ a.fN ∧ a.fN ≤ 3) ∧ ∃ x, kids = [x] ∧ WfF k fl x) ∨ ((a.fSign = 109 ∨ a.fSign = 110) ∧ a.fN = fl.length ∧ fl.length < 3 ∧ ∃ x, kids = [x] ∧ WfF k (fl ++ [false]) x)
  ∨ ((a.fSign = 38 ∨ a.fSign = 124) ∧ ∃ x y, kids = [x, y] ∧ WfF k fl x ∧ WfF k fl y)
theorem WfF.mono : ∀ {k k' : Nat} {fl : List Bool} {t : FTr}, WfF k fl t → k ≤ k' → WfF k' fl t
 | 0, _, _, _, h, _ => h.elim
 | k + 1, 0, _, _, _, h => absurd h (by omega)
 | k + 1, k' + 1, fl, .node a kids, h, hk => by
  rcases h with h | h | ⟨h, x, e, hx⟩ | ⟨h, b, x, e, hx⟩ | ⟨h, b, b2, x, e, hx⟩ | ⟨h, x, y, e, hx, hy⟩
  ·exact .inl h
  ·exact .inr (.inl h)
  ·exact .inr (.inr (.inl ⟨h, x, e, hx.mono (by omega)⟩))
  ·exact .inr (.inr (.inr (.inl ⟨h, b, x, e, hx.mono (by omega)⟩)))
  ·exact .inr (.inr (.inr (.inr (.inl ⟨h, b, b2, x, e, hx.mono (by omega)⟩))))
  ·exact .inr (.inr (.inr (.inr (.inr ⟨h, x, y, e, hx.mono (by omega), hy.mono (by omega)⟩))))
def fls (ar : Nms) : List Bool := ar.map (·.fTurned)
theorem fls_flip (ar : Nms) : fls (flipA ar) = (fls ar).map not := by
 unfold fls flipA
 rw [List.map_map, List.map_map]
 rfl
theorem fls_len (ar : Nms) : (fls ar).length = ar.length := List.length_map ..
theorem fls_add (ar : Nms) (x : FixName) : fls (ar ++ [x]) = fls ar ++ [x.fTurned] := List.map_append
theorem flip_len (ar : Nms) : (flipA ar).length = ar.length := List.length_map ..
theorem flip_flip (ar : Nms) : flipA (flipA ar) = ar := by
 unfold flipA
 rw [List.map_map]
 refine (List.map_congr_left fun x _ => ?_).trans (List.map_id ar)
 cases x
 simp
theorem seekF_some {ar : Nms} {c : Int} {k : Nat} : ∀ {j : Nat}, seekF ar c j = some k → (fls ar)[k]? = some false ∧ k < ar.length
 | 0, h => by cases h
 | j + 1, h => by
  rw [seekF] at h
  split at h
  ·cases h
  ·rename_i v hv
   split at h
   ·split at h
    ·cases h
    ·rename_i ht
     cases h
     have hl : k < ar.length := by
      by_cases hh : k < ar.length
      ·exact hh
      ·rw [List.getElem?_eq_none (by omega)] at hv
       cases hv
     refine ⟨?_, hl⟩
     unfold fls
     rw [List.getElem?_map, hv]
     simp only [Bool.not_eq_true] at ht
     simp [ht]
   ·exact seekF_some h
abbrev FQ := Nms → Int → Option (FTr × Int)
def arrQ (rec0 : FQ) (text : ByteArray) (ar : Nms) (c : Int) (p : Int) : Option (FTr × Int) :=
 if (97 ≤ fch text (p + 1) ∧ fch text (p + 1) ≤ 100) ∧ fch text (p + 1 + 1) = (if c = 60 then 62 else 93) then (rec0 ar (p + 1 + 1 + 1)).bind fun r => some (fn c (fch text (p + 1) - 97) [r.1], r.2) else none
def lpQ (rec0 : FQ) (text : ByteArray) (ar : Nms) (c : Int) (p : Int) : Option (FTr × Int) :=
 if (88 ≤ fch text (p + 1) ∧ fch text (p + 1) ≤ 90) ∧ fch text (p + 1 + 1) = 46 then (rec0 (ar ++ [⟨fch text (p + 1), false⟩]) (p + 1 + 1 + 1)).bind fun r => some (fn c ar.length [r.1], r.2) else none
def parQF (rec0 rec3 : FQ) (text : ByteArray) (ar : Nms) (p : Int) : Option (FTr × Int) :=
 if fch text p = 48 ∨ fch text p = 49 then some (fn (fch text p) 0 [], p + 1)
 else if fch text p = 33 then (rec0 (flipA ar) (p + 1)).bind fun r => some (fn 33 0 [r.1], r.2)
 else if fch text p = 60 ∨ fch text p = 91 then arrQ rec0 text ar (fch text p) p
 else if fch text p = 109 ∨ fch text p = 110 then lpQ rec0 text ar (fch text p) p
 else if 88 ≤ fch text p ∧ fch text p ≤ 90 then (seekF ar (fch text p) ar.length).bind fun j => some (fn 88 j [], p + 1)
 else if fch text p = 40 then (rec3 ar (p + 1)).bind fun r => if fch text r.2 = 41 then some (r.1, r.2 + 1) else none
 else none
def lopQFL (ch : Int) (rec : Int → Option (FTr × Int)) (text : ByteArray) : Nat → FTr → Int → Option (FTr × Int)
 | 0, _, _ => none
 | m + 1, t, p => if fch text p = ch then (rec (p + 1)).bind fun r => lopQFL ch rec text m (fn ch 0 [t, r.1]) r.2 else some (t, p)
def lopQF (ch : Int) (rec : Int → Option (FTr × Int)) (text : ByteArray) (p : Int) : Option (FTr × Int) := (rec p).bind fun r => lopQFL ch rec text (text.size + 1) r.1 r.2
def qF (text : ByteArray) : Nat → Nat → FQ
 | 0, _, _, _ => none
 | k + 1, 0, ar, p => parQF (qF text k 0) (qF text k 2) text ar p
 | k + 1, 1, ar, p => lopQF 38 (qF text k 0 ar) text p
 | k + 1, _, ar, p => lopQF 124 (qF text k 1 ar) text p
theorem fcnt_some {s s1 : FS} (h : fcnt s = some s1) : s1 = ⟨s.pos, s.deep, s.cnt + 1⟩ ∧ s.cnt + 1 ≤ 30 := by
 unfold fcnt at h
 split at h
 ·cases h
 ·cases h
  exact ⟨rfl, by omega⟩
theorem fcst_some {s s1 : FS} (h : fcst s = some s1) : s1 = ⟨s.pos + 1, s.deep, s.cnt + 1⟩ ∧ s.cnt + 1 ≤ 30 := by
 obtain ⟨x, hx, e⟩ := Option.bind_eq_some_iff.1 h
 cases e
 obtain ⟨rfl, h2⟩ := fcnt_some hx
 exact ⟨rfl, h2⟩
theorem fwant_some {c : Int} {text : ByteArray} {s s1 : FS} (h : fwant c text s = some s1) : s1 = ⟨s.pos + 1, s.deep, s.cnt⟩ ∧ fch text s.pos = c := by
 unfold fwant at h
 split at h
 ·cases h
  exact ⟨rfl, by assumption⟩
 ·cases h
structure GdF (text : ByteArray) (ar : Nms) (T : Int → Option (FTr × Int)) (s : FS) (r : FTr × FS) : Prop where
 pos : s.pos < r.2.pos
 ok : gF text r.2
 deep : r.2.deep = s.deep
 cnt : s.cnt ≤ r.2.cnt
 shp : WfF (r.2.cnt - s.cnt).toNat (fls ar) r.1
 tree : T s.pos = some (r.1, r.2.pos)
def GoodF (text : ByteArray) (f : FRec) (T : FQ) : Prop := ∀ ar s r, text.size ≤ 4000 → gF text s → ar.length ≤ 3 → f ar s = some r → GdF text ar (T ar) s r
section
variable {text : ByteArray} {R0 R3 : FRec} {T0 T3 : FQ} {ar : Nms} {s : FS} {r : FTr × FS}
theorem arrF_good (h0 : GoodF text R0 T0) {c : Int} (hc : c = 60 ∨ c = 91) (hz : text.size ≤ 4000) (hg : gF text s) (ha : ar.length ≤ 3) (hlt : s.pos < text.size) (e : arrF R0 text ar c s = some r) : GdF text ar (arrQ T0 text ar c) s r := by
 obtain ⟨s1, z1, e⟩ := Option.bind_eq_some_iff.1 e
 obtain ⟨rfl, hn⟩ := fcst_some z1
 obtain ⟨⟨p0, p1⟩, ⟨n0, n1⟩, d0, d1⟩ := hg
 simp only at e
 by_cases c1 : 97 ≤ fch text (s.pos + 1) ∧ fch text (s.pos + 1) ≤ 100
 ·rw [if_pos c1] at e
  obtain ⟨s2, z2, e⟩ := Option.bind_eq_some_iff.1 e
  obtain ⟨rfl, hw⟩ := fwant_some z2
  have hw : fch text (s.pos + 1 + 1) = (if c = 60 then 62 else 93) := hw
  have hl := fch_lt (text := text) (p := s.pos + 1 + 1) (by rw [hw]; split <;> decide)
  obtain ⟨x, z3, e⟩ := Option.bind_eq_some_iff.1 e
  cases e
  obtain ⟨g1, g2, g3, g4, g5, g6⟩ := h0 ar _ x hz (show gF text ⟨s.pos + 1 + 1 + 1, s.deep, s.cnt + 1⟩ from ⟨⟨by show 0 ≤ s.pos + 1 + 1 + 1; omega, by show s.pos + 1 + 1 + 1 ≤ text.size; omega⟩, ⟨by show 0 ≤ s.cnt + 1; omega, hn⟩, d0, d1⟩) ha z3
  have g1 : s.pos + 1 + 1 + 1 < x.2.pos := g1
  have g4 : s.cnt + 1 ≤ x.2.cnt := g4
  have g5 : WfF (x.2.cnt - (s.cnt + 1)).toNat (fls ar) x.1 := g5
  refine ⟨by show s.pos < x.2.pos; omega, g2, g3, by show s.cnt ≤ x.2.cnt; omega, ?_, ?_⟩
  ·show WfF (x.2.cnt - s.cnt).toNat (fls ar) (fn c (fch text (s.pos + 1) - 97) [x.1])
   rw [show (x.2.cnt - s.cnt).toNat = (x.2.cnt - (s.cnt + 1)).toNat + 1 by omega]
   exact .inr (.inr (.inr (.inl ⟨hc, ⟨by show 0 ≤ fch text (s.pos + 1) - 97; omega, by show fch text (s.pos + 1) - 97 ≤ 3; omega⟩, x.1, rfl, g5⟩)))
  ·unfold arrQ
   rw [if_pos ⟨c1, hw⟩]
   exact ob g6
 ·rw [if_neg c1] at e
  cases e
theorem lpF_good (h0 : GoodF text R0 T0) {c : Int} (hc : c = 109 ∨ c = 110) (hz : text.size ≤ 4000) (hg : gF text s) (ha : ar.length ≤ 3) (hlt : s.pos < text.size) (e : lpF R0 text ar c s = some r) : GdF text ar (lpQ T0 text ar c) s r := by
 unfold lpF at e
 by_cases c0 : ar.length = 3
 ·rw [if_pos c0] at e
  cases e
 rw [if_neg c0] at e
 obtain ⟨s1, z1, e⟩ := Option.bind_eq_some_iff.1 e
 obtain ⟨rfl, hn⟩ := fcst_some z1
 obtain ⟨⟨p0, p1⟩, ⟨n0, n1⟩, d0, d1⟩ := hg
 simp only at e
 by_cases c1 : 88 ≤ fch text (s.pos + 1) ∧ fch text (s.pos + 1) ≤ 90
 ·rw [if_pos c1] at e
  obtain ⟨s2, z2, e⟩ := Option.bind_eq_some_iff.1 e
  obtain ⟨rfl, hw⟩ := fwant_some z2
  have hw : fch text (s.pos + 1 + 1) = 46 := hw
  have hl := fch_lt (text := text) (p := s.pos + 1 + 1) (by omega)
  obtain ⟨x, z3, e⟩ := Option.bind_eq_some_iff.1 e
  cases e
  obtain ⟨g1, g2, g3, g4, g5, g6⟩ := h0 _ _ x hz (show gF text ⟨s.pos + 1 + 1 + 1, s.deep, s.cnt + 1⟩ from ⟨⟨by show 0 ≤ s.pos + 1 + 1 + 1; omega, by show s.pos + 1 + 1 + 1 ≤ text.size; omega⟩, ⟨by show 0 ≤ s.cnt + 1; omega, hn⟩, d0, d1⟩) (by rw [List.length_append]; show ar.length + 1 ≤ 3; omega) z3
  have g1 : s.pos + 1 + 1 + 1 < x.2.pos := g1
  have g4 : s.cnt + 1 ≤ x.2.cnt := g4
  rw [fls_add] at g5
  have g5 : WfF (x.2.cnt - (s.cnt + 1)).toNat (fls ar ++ [false]) x.1 := g5
  refine ⟨by show s.pos < x.2.pos; omega, g2, g3, by show s.cnt ≤ x.2.cnt; omega, ?_, ?_⟩
  ·show WfF (x.2.cnt - s.cnt).toNat (fls ar) (fn c ar.length [x.1])
   rw [show (x.2.cnt - s.cnt).toNat = (x.2.cnt - (s.cnt + 1)).toNat + 1 by omega]
   exact .inr (.inr (.inr (.inr (.inl ⟨hc, by rw [fls_len], by rw [fls_len]; omega, x.1, rfl, g5⟩))))
  ·unfold lpQ
   rw [if_pos ⟨c1, hw⟩]
   exact ob g6
 ·rw [if_neg c1] at e
  cases e
theorem parF_good (h0 : GoodF text R0 T0) (h3 : GoodF text R3 T3) : GoodF text (parF R0 R3 text) (parQF T0 T3 text) := fun ar s r hz hg ha e => by
 have hg' := hg
 obtain ⟨⟨p0, p1⟩, ⟨n0, n1⟩, d0, d1⟩ := hg
 unfold parF at e
 by_cases c1 : fch text s.pos = 48 ∨ fch text s.pos = 49
 ·rw [if_pos c1] at e
  have hl := fch_lt (text := text) (p := s.pos) (by omega)
  obtain ⟨s1, z1, e⟩ := Option.bind_eq_some_iff.1 e
  obtain ⟨rfl, hc⟩ := fcst_some z1
  cases e
  refine ⟨by show s.pos < s.pos + 1; omega, ⟨⟨by show 0 ≤ s.pos + 1; omega, by show s.pos + 1 ≤ text.size; omega⟩, ⟨by show 0 ≤ s.cnt + 1; omega, hc⟩, d0, d1⟩, rfl, by show s.cnt ≤ s.cnt + 1; omega, ?_, ?_⟩
  ·show WfF (s.cnt + 1 - s.cnt).toNat _ _
   rw [show (s.cnt + 1 - s.cnt).toNat = 0 + 1 by omega]
   exact .inl ⟨c1, rfl⟩
  ·unfold parQF
   rw [if_pos c1]
 rw [if_neg c1] at e
 by_cases c2 : fch text s.pos = 33
 ·rw [if_pos c2] at e
  have hl := fch_lt (text := text) (p := s.pos) (by omega)
  obtain ⟨s1, z1, e⟩ := Option.bind_eq_some_iff.1 e
  obtain ⟨rfl, hc⟩ := fcst_some z1
  obtain ⟨x, z2, e⟩ := Option.bind_eq_some_iff.1 e
  cases e
  obtain ⟨g1, g2, g3, g4, g5, g6⟩ := h0 _ _ x hz (show gF text ⟨s.pos + 1, s.deep, s.cnt + 1⟩ from ⟨⟨by show 0 ≤ s.pos + 1; omega, by show s.pos + 1 ≤ text.size; omega⟩, ⟨by show 0 ≤ s.cnt + 1; omega, hc⟩, d0, d1⟩) (by rw [flip_len]; exact ha) z2
  have g1 : s.pos + 1 < x.2.pos := g1
  have g4 : s.cnt + 1 ≤ x.2.cnt := g4
  rw [fls_flip] at g5
  have g5 : WfF (x.2.cnt - (s.cnt + 1)).toNat ((fls ar).map not) x.1 := g5
  refine ⟨by show s.pos < x.2.pos; omega, g2, g3, by show s.cnt ≤ x.2.cnt; omega, ?_, ?_⟩
  ·show WfF (x.2.cnt - s.cnt).toNat (fls ar) (fn 33 0 [x.1])
   rw [show (x.2.cnt - s.cnt).toNat = (x.2.cnt - (s.cnt + 1)).toNat + 1 by omega]
   exact .inr (.inr (.inl ⟨rfl, x.1, rfl, g5⟩))
  ·unfold parQF
   rw [if_neg c1, if_pos c2]
   exact ob g6
 rw [if_neg c2] at e
 by_cases c3 : fch text s.pos = 60 ∨ fch text s.pos = 91
 ·rw [if_pos c3] at e
  have hl := fch_lt (text := text) (p := s.pos) (by omega)
  obtain ⟨g1, g2, g3, g4, g5, g6⟩ := arrF_good h0 c3 hz hg' ha hl e
  refine ⟨g1, g2, g3, g4, g5, ?_⟩
  unfold parQF
  rw [if_neg c1, if_neg c2, if_pos c3]
  exact g6
 rw [if_neg c3] at e
 by_cases c4 : fch text s.pos = 109 ∨ fch text s.pos = 110
 ·rw [if_pos c4] at e
  have hl := fch_lt (text := text) (p := s.pos) (by omega)
  obtain ⟨g1, g2, g3, g4, g5, g6⟩ := lpF_good h0 c4 hz hg' ha hl e
  refine ⟨g1, g2, g3, g4, g5, ?_⟩
  unfold parQF
  rw [if_neg c1, if_neg c2, if_neg c3, if_pos c4]
  exact g6
 rw [if_neg c4] at e
 by_cases c5 : 88 ≤ fch text s.pos ∧ fch text s.pos ≤ 90
 ·rw [if_pos c5] at e
  have hl := fch_lt (text := text) (p := s.pos) (by omega)
  obtain ⟨j, zj, e⟩ := Option.bind_eq_some_iff.1 e
  obtain ⟨s1, z1, e⟩ := Option.bind_eq_some_iff.1 e
  obtain ⟨rfl, hc⟩ := fcst_some z1
  cases e
  obtain ⟨hj, _⟩ := seekF_some zj
  refine ⟨by show s.pos < s.pos + 1; omega, ⟨⟨by show 0 ≤ s.pos + 1; omega, by show s.pos + 1 ≤ text.size; omega⟩, ⟨by show 0 ≤ s.cnt + 1; omega, hc⟩, d0, d1⟩, rfl, by show s.cnt ≤ s.cnt + 1; omega, ?_, ?_⟩
  ·show WfF (s.cnt + 1 - s.cnt).toNat _ _
   rw [show (s.cnt + 1 - s.cnt).toNat = 0 + 1 by omega]
   exact .inr (.inl ⟨rfl, rfl, j, rfl, hj⟩)
  ·unfold parQF
   rw [if_neg c1, if_neg c2, if_neg c3, if_neg c4, if_pos c5]
   exact ob zj
 rw [if_neg c5] at e
 by_cases c6 : fch text s.pos = 40
 ·rw [if_pos c6] at e
  have hl := fch_lt (text := text) (p := s.pos) (by omega)
  by_cases c7 : s.deep = 40
  ·rw [if_pos c7] at e
   cases e
  rw [if_neg c7] at e
  obtain ⟨a, z3, e⟩ := Option.bind_eq_some_iff.1 e
  obtain ⟨g1, ⟨⟨q0, q1⟩, ⟨m0, m1⟩, f0, f1⟩, g3, g4, g5, g6⟩ := h3 ar _ a hz (show gF text ⟨s.pos + 1, s.deep + 1, s.cnt⟩ from ⟨⟨by show 0 ≤ s.pos + 1; omega, by show s.pos + 1 ≤ text.size; omega⟩, ⟨n0, n1⟩, by show 0 ≤ s.deep + 1; omega, by show s.deep + 1 ≤ 40; omega⟩) ha z3
  have g1 : s.pos + 1 < a.2.pos := g1
  have g3 : a.2.deep = s.deep + 1 := g3
  obtain ⟨s4, z6, e⟩ := Option.bind_eq_some_iff.1 e
  obtain ⟨rfl, hs⟩ := fwant_some z6
  have hl3 := fch_lt (text := text) (p := a.2.pos) (by omega)
  cases e
  refine ⟨by show s.pos < a.2.pos + 1; omega, ⟨⟨by show 0 ≤ a.2.pos + 1; omega, by show a.2.pos + 1 ≤ text.size; omega⟩, ⟨m0, m1⟩, by show 0 ≤ a.2.deep - 1; omega, by show a.2.deep - 1 ≤ 40; omega⟩, by show a.2.deep - 1 = s.deep; omega, g4, g5, ?_⟩
  unfold parQF
  rw [if_neg c1, if_neg c2, if_neg c3, if_neg c4, if_neg c5, if_pos c6]
  refine (ob g6).trans ?_
  show (if fch text a.2.pos = 41 then _ else none) = _
  rw [if_pos hs]
 ·rw [if_neg c6] at e
  cases e
theorem lopFL_good {ch : Int} (hch : ch = 38 ∨ ch = 124) (h0 : GoodF text R0 T0) (ha : ar.length ≤ 3) {s : FS} (hz : text.size ≤ 4000) (hg : gF text s) : ∀ (m m' : Nat) (t : FTr) (s1 : FS) (r : FTr × FS), text.size - s1.pos < m' → gF text s1 → s1.deep = s.deep → s.cnt ≤ s1.cnt → WfF (s1.cnt - s.cnt).toNat (fls ar) t → lopFL ch (R0 ar) text m t s1 = some r → s1.pos ≤ r.2.pos ∧ gF text r.2 ∧ r.2.deep = s.deep ∧ s.cnt ≤ r.2.cnt ∧ WfF (r.2.cnt - s.cnt).toNat (fls ar) r.1 ∧ lopQFL ch (T0 ar) text m' t s1.pos = some (r.1, r.2.pos)
 | 0, _, _, _, _, _, _, _, _, _, e => by simp [lopFL] at e
 | m + 1, 0, _, s1, _, hm, h1, _, _, _, _ => by
  have := h1.1.2
  omega
 | m + 1, m' + 1, t, s1, r, hm, h1, hd, hn, ht, e => by
  rw [lopFL] at e
  rw [lopQFL]
  by_cases hc : fch text s1.pos = ch
  ·rw [if_pos hc] at e
   rw [if_pos hc]
   have hl := fch_lt (text := text) (p := s1.pos) (by omega)
   obtain ⟨s2, z1, e⟩ := Option.bind_eq_some_iff.1 e
   obtain ⟨rfl, hc2⟩ := fcst_some z1
   obtain ⟨x, z2, e⟩ := Option.bind_eq_some_iff.1 e
   obtain ⟨⟨p0, p1⟩, ⟨n0, n1⟩, d0, d1⟩ := h1
   obtain ⟨g1, g2, g3, g4, g5, g6⟩ := h0 ar _ x hz (show gF text ⟨s1.pos + 1, s1.deep, s1.cnt + 1⟩ from ⟨⟨by show 0 ≤ s1.pos + 1; omega, by show s1.pos + 1 ≤ text.size; omega⟩, ⟨by show 0 ≤ s1.cnt + 1; omega, hc2⟩, d0, d1⟩) ha z2
   have g1 : s1.pos + 1 < x.2.pos := g1
   have g3 : x.2.deep = s1.deep := g3
   have g4 : s1.cnt + 1 ≤ x.2.cnt := g4
   have g5 : WfF (x.2.cnt - (s1.cnt + 1)).toNat (fls ar) x.1 := g5
   obtain ⟨k1, k2, k3, k4, k5, k6⟩ := lopFL_good hch h0 ha hz hg m m' _ x.2 r (by omega) g2 (by omega) (by omega) (by
    rw [show (x.2.cnt - s.cnt).toNat = (x.2.cnt - s.cnt - 1).toNat + 1 by omega]
    exact .inr (.inr (.inr (.inr (.inr ⟨hch, t, x.1, rfl, ht.mono (by omega), g5.mono (by omega)⟩))))) e
   exact ⟨by omega, k2, k3, k4, k5, (ob g6).trans k6⟩
  ·rw [if_neg hc] at e
   rw [if_neg hc]
   cases e
   exact ⟨Int.le_refl _, h1, hd, hn, ht, rfl⟩
theorem lopF_good {ch : Int} (hch : ch = 38 ∨ ch = 124) (h0 : GoodF text R0 T0) : GoodF text (fun ar s => lopF ch (R0 ar) text s) (fun ar p => lopQF ch (T0 ar) text p) := fun ar s r hz hg ha e => by
 obtain ⟨x, z0, e⟩ := Option.bind_eq_some_iff.1 e
 obtain ⟨g1, g2, g3, g4, g5, g6⟩ := h0 ar s x hz hg ha z0
 have := hg.1.1
 obtain ⟨k1, k2, k3, k4, k5, k6⟩ := lopFL_good hch h0 ha hz hg (text.size + 1) (text.size + 1) x.1 x.2 r (by omega) g2 g3 g4 g5 e
 exact ⟨by omega, k2, k3, k4, k5, (ob g6).trans k6⟩
theorem pF_good : ∀ k kd, GoodF text (pF text k kd) (qF text k kd)
 | 0, _ => fun ar s r _ _ _ e => by simp [pF] at e
 | k + 1, 0 => parF_good (pF_good k 0) (pF_good k 2)
 | k + 1, 1 => lopF_good (.inl rfl) (pF_good k 0)
 | k + 1, 2 => lopF_good (.inr rfl) (pF_good k 1)
 | k + 1, n + 3 => lopF_good (.inr rfl) (pF_good k 1)
end
def fNow_vc (text : ByteArray) (pos : Int) (deep : Int) (cnt : Int) (ar : (List FixName)) (Q : Int × Int × Int × Int × (List FixName) → Prop) : Prop :=
 IfP (decide (pos < (text.size : Int))) (∃ b, byteAt text pos = some b ∧
 Q (b, pos, deep, cnt, ar)) (Q (0, pos, deep, cnt, ar))
noncomputable abbrev qfNow0 (text : ByteArray) (pos : Int) (deep : Int) (cnt : Int) (ar : (List FixName)) := ([.box [.v (.string text), I pos, I deep, I cnt, .own 1] 144 false, rowI 236 FixName.ty ar] : List Item)
theorem fNow_walk (text : ByteArray) (pos : Int) (deep : Int) (cnt : Int) (ar : (List FixName)) (Q : Int × Int × Int × Int × (List FixName) → Prop) (h : fNow_vc text pos deep cnt ar Q) : CtE 110 [.sv (.one (.ptr 0 0))] [.box [.v (.string text), I pos, I deep, I cnt, .own 1] 144 false, rowI 236 FixName.ty ar] [0] Q (fun (r : Int × Int × Int × Int × (List FixName)) => .sv (.one (.v (.int .u8 r.1)))) (fun (r : Int × Int × Int × Int × (List FixName)) => [.box [.v (.string text), I r.2.1, I r.2.2.1, I r.2.2.2.1, .own 1] 144 false, rowI 236 FixName.ty r.2.2.2.2]) := by
 have ht := tab_ok
 refine CtE.body Try.func110 rfl rfl rfl (by kernel_rfl) (by kernel_rfl) (fun c Bk hn => ?_)
 unfold fNow_vc at h
 show En c ⟨[sl 0 (.pptr 0 0 (Bk 0))], (qfNow0 text pos deep cnt ar)⟩ _
 refine En.sr ?_
 refine WL.rn ht hn 1 ⟨[sl 0 (.pptr 0 0 (Bk 0))], (qfNow0 text pos deep cnt ar)⟩ ?_
 refine En.seq ?_
 refine En.seq ?_
 refine En.regionS (by kernel_rfl) (by kernel_rfl) ?_
 refine SL.run ht hn 8 ⟨[sl 0 (.pptr 0 0 (Bk 0)), sl 3 (.ptr 0 0), sl 4 (.ptr 0 0), sl 5 (.ptr 0 1), sl 6 (I pos), sl 7 (.ptr 0 0), sl 8 (.ptr 0 0), sl 9 (.ptr 0 0), sl 10 (.v (.string text))], (qfNow0 text pos deep cnt ar)⟩ (by kernel_rfl) ?_
 refine SL.val hn (by rfl) (val_lenS (s := text) rfl Try.underlying9 (by rfl)) (by rfl) ?_
 refine SL.run ht hn 1 ⟨[sl 0 (.pptr 0 0 (Bk 0)), sl 3 (.ptr 0 0), sl 4 (.ptr 0 0), sl 5 (.ptr 0 1), sl 6 (I pos), sl 7 (.ptr 0 0), sl 8 (.ptr 0 0), sl 9 (.ptr 0 0), sl 10 (.v (.string text)), sl 11 (I (text.size : Int)), sl 12 (B (decide (pos < (text.size : Int))))], (qfNow0 text pos deep cnt ar)⟩ (by kernel_rfl) ?_
 refine SL.nil ⟨by kernel_rfl, ?_⟩
 refine En.cd (b := (decide (pos < (text.size : Int)))) (fun hb => ?_) (fun hb => ?_)
 replace h := h.1 hb
 refine En.seq ?_
 obtain ⟨b, hb_2, h⟩ := h
 refine En.regionA ⟨[sl 0 (.pptr 0 0 (Bk 0))], [.sv (.one (.ptr 0 0)), .sv (.one (.ptr 0 0)), .sv (.one (.ptr 0 0)), .sv (.one (.v (.string text))), .sv (.one (.ptr 0 0)), .sv (.one (.ptr 0 0)), .sv (.one (.ptr 0 1)), .sv (.one (I pos)), .sv (.one (.v (.int .u8 b))), .sv (.one (.v (.int .u8 b)))], [⟨.box [.v (.string text), I pos, I deep, I cnt, .own 1] 144 false, none, none, none⟩, ⟨rowI 236 FixName.ty ar, none, none, none⟩]⟩ ⟨[sl 0 (.pptr 0 0 (Bk 0)), sl 2 (.v (.int .u8 b))], (qfNow0 text pos deep cnt ar)⟩ (by kernel_rfl) hn (by kernel_rfl) (by rfl) (by kernel_rfl) ?_ (by kernel_rfl) ?_
 exact ⟨.ev ⟨[sl 0 (.pptr 0 0 (Bk 0))], []⟩ ht,
 .ev ⟨[sl 13 (.ptr 0 0)], []⟩ ht,
 .ev ⟨[sl 14 (.ptr 0 0)], []⟩ ht,
 .ev ⟨[sl 15 (.ptr 0 0)], [.box [.v (.string text), I pos, I deep, I cnt, .own 1] 144 false]⟩ ht,
 .ev ⟨[sl 0 (.pptr 0 0 (Bk 0))], []⟩ ht,
 .ev ⟨[sl 17 (.ptr 0 0)], []⟩ ht,
 .ev ⟨[sl 18 (.ptr 0 0)], []⟩ ht,
 .ev ⟨[sl 19 (.ptr 0 1)], [.box [.v (.string text), I pos, I deep, I cnt, .own 1] 144 false]⟩ ht,
 .vl ⟨[sl 16 (.v (.string text)), sl 20 (I pos)], []⟩ (mt_val (val_indexS (s := text) (i := pos) rfl Try.underlying9 (by rfl) (by rfl) hb_2)),
 .ev ⟨[sl 21 (.v (.int .u8 b))], []⟩ ht,
 trivial⟩
 refine En.ret ?_
 exact En.backE [0] ht (b, pos, deep, cnt, ar) h (by kernel_rfl) (by rfl) rfl
 replace h := h.2 hb
 refine En.skip ?_
 refine En.sr ?_
 refine WL.rn ht hn 1 ⟨[sl 0 (.pptr 0 0 (Bk 0)), sl 2 (.v (.int .u8 0))], (qfNow0 text pos deep cnt ar)⟩ ?_
 refine En.ret ?_
 exact En.backE [0] ht (0, pos, deep, cnt, ar) h (by kernel_rfl) (by rfl) rfl
theorem en110 : ∀ args w, (callFunc 110 args).run Try.prog w = .ok (.enter 110 args) w := enters_of Try.func110 (by kernel_rfl) rfl
theorem fNow_ct (text : ByteArray) (pos : Int) (deep : Int) (cnt : Int) (ar : (List FixName)) (hp : 0 ≤ pos)  : CtE 110 [.sv (.one (.ptr 0 0))] [.box [.v (.string text), I pos, I deep, I cnt, .own 1] 144 false, rowI 236 FixName.ty ar] [0] (fun (_ : Unit) => True) (fun _ => .sv (.one (.v (.int .u8 (fch text pos))))) (fun _ => [.box [.v (.string text), I (pos), I (deep), I (cnt), .own 1] 144 false, rowI 236 FixName.ty (ar)]) := by
 refine (fNow_walk text pos deep cnt ar (fun res_ => res_ = (fch text pos, pos, deep, cnt, ar)) ?_).imp (fun r hr => ⟨(), trivial, by subst hr; rfl, by subst hr; rfl⟩)
 unfold fNow_vc
 refine ⟨fun h => ⟨_, fAt_ok hp (of_decide_eq_true h), rfl⟩, fun h => ?_⟩
 rw [fch_end (by have := of_decide_eq_false h; omega)]
def fTurn_vc (text : ByteArray) (pos : Int) (deep : Int) (cnt : Int) (ar : (List FixName)) (Q : Int × Int × Int × (List FixName) → Prop) : Prop :=
 ∃ (Inv : Int → (List FixName) → Prop) (mu : Int → (List FixName) → Nat), Inv 0 ar ∧
 ∀ (x8 : Int) (l1 : (List FixName)) , Inv x8 l1 → (IfP (decide (x8 < (ar.length : Int))) (∃ e, idx l1 x8 = some e ∧
 ∃ e_2, idx l1 x8 = some e_2 ∧
 (Inv (wr (x8 + 1)) (l1.set (x8).toNat (FixName.mk e_2.fSign (!e.fTurned))) ∧ mu (wr (x8 + 1)) (l1.set (x8).toNat (FixName.mk e_2.fSign (!e.fTurned))) < mu x8 l1)) (Q (pos, deep, cnt, l1)))
noncomputable abbrev qfTurn0 (text : ByteArray) (pos : Int) (deep : Int) (cnt : Int) := (.box [.v (.string text), I pos, I deep, I cnt, .own 1] 144 false : Item)
noncomputable abbrev qfTurn1 (y0 : Nat → Nat) := sl 0 (.pptr 0 0 (y0 0))
theorem fTurn_walk (text : ByteArray) (pos : Int) (deep : Int) (cnt : Int) (ar : (List FixName)) (Q : Int × Int × Int × (List FixName) → Prop) (h : fTurn_vc text pos deep cnt ar Q) : CtE 149 [.sv (.one (.ptr 0 0))] [.box [.v (.string text), I pos, I deep, I cnt, .own 1] 144 false, rowI 236 FixName.ty ar] [0] Q (fun (r : Int × Int × Int × (List FixName)) => .tup []) (fun (r : Int × Int × Int × (List FixName)) => [.box [.v (.string text), I r.1, I r.2.1, I r.2.2.1, .own 1] 144 false, rowI 236 FixName.ty r.2.2.2]) := by
 have ht := tab_ok
 refine CtE.body Try.func149 rfl rfl rfl (by kernel_rfl) (by kernel_rfl) (fun c Bk hn => ?_)
 unfold fTurn_vc at h
 show En c ⟨[(qfTurn1 Bk)], [(qfTurn0 text pos deep cnt), rowI 236 FixName.ty ar]⟩ _
 refine En.sr ?_
 refine WL.rn ht hn 6 ⟨[(qfTurn1 Bk), sl 7 (I (ar.length : Int)), sl 8 (I 0)], [(qfTurn0 text pos deep cnt), rowI 236 FixName.ty ar]⟩ ?_
 refine En.block ?_
 obtain ⟨Inv, mu, h0, hI⟩ := h
 refine En.loop (σ := Int × (List FixName)) (fun zz => Inv zz.1 zz.2) (fun zz => mu zz.1 zz.2) (fun zz => ⟨[(qfTurn1 Bk), sl 7 (I (ar.length : Int)), sl 8 (I zz.1)], [(qfTurn0 text pos deep cnt), rowI 236 FixName.ty zz.2]⟩) (0, ar) h0 (sub_ok (by kernel_rfl)) ?_
 rintro ⟨x8, l1⟩ h
 replace h := hI _ _ h
 show En c ⟨[(qfTurn1 Bk), sl 7 (I (ar.length : Int)), sl 8 (I x8)], [(qfTurn0 text pos deep cnt), rowI 236 FixName.ty l1]⟩ _
 refine En.sr ?_
 refine WL.rn ht hn 1 ⟨[(qfTurn1 Bk), sl 7 (I (ar.length : Int)), sl 8 (I x8), sl 9 (B (decide (x8 < (ar.length : Int))))], [(qfTurn0 text pos deep cnt), rowI 236 FixName.ty l1]⟩ ?_
 refine En.seq ?_
 refine En.cd (b := (decide (x8 < (ar.length : Int)))) (fun hb => ?_) (fun hb => ?_)
 replace h := h.1 hb
 refine En.skip ?_
 refine En.seq ?_
 refine En.block ?_
 refine En.sr ?_
 refine WL.rn ht hn 2 ⟨[(qfTurn1 Bk), sl 2 (I x8), sl 7 (I (ar.length : Int)), sl 8 (I x8)], [(qfTurn0 text pos deep cnt), rowI 236 FixName.ty l1]⟩ ?_
 obtain ⟨e, he, h⟩ := h
 obtain ⟨e_2, he_2, h⟩ := h
 refine En.regionA ⟨[(qfTurn1 Bk), sl 2 (I x8), sl 7 (I (ar.length : Int)), sl 8 (I x8)], [.sv (.one (.ptr 0 0)), .sv (.one (.ptr 0 0)), .sv (.one (.ptr 0 4)), .sv (.one (.own 1)), .sv (.one (I x8)), .sv (.one (.ptr 0 0)), .sv (.one (.ptr 0 0)), .sv (.one (.ptr 0 4)), .sv (.one (.own 1)), .sv (.one (I x8)), .sv (.one (.oe 1 ((x8).toNat) 2)), .sv (.one (.oe 1 ((x8).toNat * 2 + 1) 1)), .sv (.one (B e.fTurned)), .sv (.one (B (!e.fTurned))), .sv (.one (.oe 1 ((x8).toNat) 2)), .sv (.one (.oe 1 ((x8).toNat * 2 + 1) 1)), .tup []], [⟨(qfTurn0 text pos deep cnt), none, none, none⟩, ⟨rowI 236 FixName.ty l1, none, none, some (16, rowI 236 FixName.ty (l1.set (x8).toNat (FixName.mk e_2.fSign (!e.fTurned))))⟩]⟩ ⟨[(qfTurn1 Bk), sl 7 (I (ar.length : Int)), sl 8 (I x8)], [(qfTurn0 text pos deep cnt), rowI 236 FixName.ty (l1.set (x8).toNat (FixName.mk e_2.fSign (!e.fTurned)))]⟩ (by kernel_rfl) hn (by kernel_rfl) (by rfl) (by kernel_rfl) ?_ (by kernel_rfl) ?_
 exact ⟨.ev ⟨[(qfTurn1 Bk)], []⟩ ht,
 .ev ⟨[sl 11 (.ptr 0 0)], []⟩ ht,
 .ev ⟨[sl 12 (.ptr 0 0)], []⟩ ht,
 .ev ⟨[sl 13 (.ptr 0 4)], [(qfTurn0 text pos deep cnt)]⟩ ht,
 .ev ⟨[sl 2 (I x8)], []⟩ ht,
 .ev ⟨[(qfTurn1 Bk)], []⟩ ht,
 .ev ⟨[sl 16 (.ptr 0 0)], []⟩ ht,
 .ev ⟨[sl 17 (.ptr 0 0)], []⟩ ht,
 .ev ⟨[sl 18 (.ptr 0 4)], [(qfTurn0 text pos deep cnt)]⟩ ht,
 .ev ⟨[sl 2 (I x8)], []⟩ ht,
 .vl ⟨[sl 19 (.own 1), sl 20 (I x8)], [.gone, rowI 236 FixName.ty l1]⟩ (mt_val (val_indexO (T := FixName.ty) (l := l1) (k := x8) ht rfl (by rfl) (by rfl) (by rfl) (by rfl) (by decide) (by rfl) (by rfl) (by rfl) he)),
 .vl ⟨[sl 21 (.oe 1 ((x8).toNat) 2)], [.gone, rowI 236 FixName.ty l1]⟩ (mt_val (val_fieldO (k := (x8).toNat) ht rfl (by rfl) (by rfl) (by rfl) (by rfl))),
 .vl ⟨[sl 22 (.oe 1 ((x8).toNat * 2 + 1) 1)], [.gone, rowI 236 FixName.ty l1]⟩ (mt_val (val_loadOF (T := FixName.ty) (l := l1) (k := (x8).toNat) (fo := 1) (y := e) (z := B e.fTurned) ht rfl (by rfl) (by rfl) rfl (by rfl) (by rfl) (by rfl) (by rfl) (idx_some he).2.2)),
 .ev ⟨[sl 23 (B e.fTurned)], []⟩ ht,
 .vl ⟨[sl 14 (.own 1), sl 15 (I x8)], [.gone, rowI 236 FixName.ty l1]⟩ (mt_val (val_indexO (T := FixName.ty) (l := l1) (k := x8) ht rfl (by rfl) (by rfl) (by rfl) (by rfl) (by decide) (by rfl) (by rfl) (by rfl) he_2)),
 .vl ⟨[sl 25 (.oe 1 ((x8).toNat) 2)], [.gone, rowI 236 FixName.ty l1]⟩ (mt_val (val_fieldO (k := (x8).toNat) ht rfl (by rfl) (by rfl) (by rfl) (by rfl))),
 .mu ⟨[sl 24 (B (!e.fTurned)), sl 26 (.oe 1 ((x8).toNat * 2 + 1) 1)], [.gone, rowI 236 FixName.ty l1]⟩ 1 _ _ rfl rfl (by kernel_rfl) (by rfl) (mu_storeOF (T := FixName.ty) (l := l1) (k := (x8).toNat) (fo := 1) (y := e_2) (y' := (FixName.mk e_2.fSign (!e.fTurned))) (z := B (!e.fTurned)) ht rfl (by rfl) (by rfl) (fun _ h => by cases h) rfl rfl (Nat.le_of_ble_eq_true rfl) rfl (by rfl) (fun h => by cases h) (by rfl) (by rfl) (idx_some he_2).2.2 (by rfl)) rfl rfl rfl rfl rfl rfl rfl,
 trivial⟩
 refine En.region ?_
 refine WL.rn ht hn 2 ⟨[(qfTurn1 Bk), sl 7 (I (ar.length : Int)), sl 8 (I (wr (x8 + 1)))], [(qfTurn0 text pos deep cnt), rowI 236 FixName.ty (l1.set (x8).toNat (FixName.mk e_2.fSign (!e.fTurned)))]⟩ ?_
 exact En.at (I := fun zz => Inv zz.1 zz.2 ∧ mu zz.1 zz.2 < mu x8 l1) (T := fun zz => ⟨[(qfTurn1 Bk), sl 7 (I (ar.length : Int)), sl 8 (I zz.1)], [(qfTurn0 text pos deep cnt), rowI 236 FixName.ty zz.2]⟩) ((wr (x8 + 1)), (l1.set (x8).toNat (FixName.mk e_2.fSign (!e.fTurned)))) h (by kernel_rfl)
 replace h := h.2 hb
 refine En.exit rfl ?_
 exact En.backE [0] ht (pos, deep, cnt, l1) h (by kernel_rfl) (by rfl) rfl
theorem en149 : ∀ args w, (callFunc 149 args).run Try.prog w = .ok (.enter 149 args) w := enters_of Try.func149 (by kernel_rfl) rfl
theorem flip_at {ar : Nms} {k : Nat} {x : FixName} (h : ar[k]? = some x) : (flipA (ar.take k) ++ ar.drop k).set k ⟨x.fSign, !x.fTurned⟩ = flipA (ar.take (k + 1)) ++ ar.drop (k + 1) := by
 have hk := (List.getElem?_eq_some_iff.1 h).1
 have hl : (flipA (ar.take k)).length = k := by rw [flip_len, List.length_take]; omega
 have h1 : ar.drop k = x :: ar.drop (k + 1) := by rw [List.drop_eq_getElem_cons hk, (List.getElem?_eq_some_iff.1 h).2]
 have h2 : ar.take (k + 1) = ar.take k ++ [x] := by rw [List.take_add_one, h]; rfl
 rw [h1, h2]
 have e : flipA (ar.take k ++ [x]) = flipA (ar.take k) ++ [⟨x.fSign, !x.fTurned⟩] := by unfold flipA; rw [List.map_append]; rfl
 rw [e, List.set_append_right _ _ (by omega), hl, Nat.sub_self]
 simp
theorem fTurn_ct (text : ByteArray) (pos : Int) (deep : Int) (cnt : Int) (ar : (List FixName)) (hp : ar.length ≤ 1000)  : CtE 149 [.sv (.one (.ptr 0 0))] [.box [.v (.string text), I pos, I deep, I cnt, .own 1] 144 false, rowI 236 FixName.ty ar] [0] (fun (_ : Unit) => True) (fun _ => .tup []) (fun _ => [.box [.v (.string text), I (pos), I (deep), I (cnt), .own 1] 144 false, rowI 236 FixName.ty (flipA ar)]) := by
 refine (fTurn_walk text pos deep cnt ar (fun res_ => res_ = (pos, deep, cnt, flipA ar)) ?_).imp (fun r hr => ⟨(), trivial, by subst hr; rfl, by subst hr; rfl⟩)
 unfold fTurn_vc
 refine ⟨fun i l => ∃ k : Nat, i = k ∧ k ≤ ar.length ∧ l = flipA (ar.take k) ++ ar.drop k, fun i _ => (ar.length - i).toNat, ⟨0, rfl, Nat.zero_le _, rfl⟩, ?_⟩
 rintro _ _ ⟨k, rfl, hk, rfl⟩
 refine ⟨fun hb => ?_, fun hb => ?_⟩
 ·have hlt : k < ar.length := by have := of_decide_eq_true hb; omega
  have hx : ar[k]? = some ar[k] := List.getElem?_eq_getElem hlt
  have hl : (flipA (ar.take k)).length = k := by rw [flip_len, List.length_take]; omega
  have hi : idx (flipA (ar.take k) ++ ar.drop k) (k : Int) = some ar[k] := by
   unfold idx
   rw [if_pos (Int.natCast_nonneg _), Int.toNat_natCast, List.getElem?_append_right (by omega), hl, Nat.sub_self, List.getElem?_drop, Nat.add_zero, hx]
  refine ⟨_, hi, _, hi, ?_⟩
  rw [wr_in (by omega) (by omega), Int.toNat_natCast]
  refine ⟨⟨k + 1, by omega, by omega, flip_at hx⟩, ?_⟩
  show (ar.length - ((k : Int) + 1)).toNat < (ar.length - (k : Int)).toNat
  omega
 ·have hke : k = ar.length := by have := of_decide_eq_false hb; omega
  subst hke
  rw [List.take_length, List.drop_length, List.append_nil]
theorem en75 : ∀ args w, (callFunc 75 args).run Try.prog w = .ok (.enter 75 args) w := enters_of Try.func75 (by kernel_rfl) rfl
theorem fFail_ct (text : ByteArray) (pos deep cnt : Int) (ar : List FixName) (code : Int) (hp : code ≠ 0) : CtX 75 [.sv (.one (.ptr 0 0)), .sv (.one (I code))] [.box [.v (.string text), I pos, I deep, I cnt, .own 1] 144 false, rowI 236 FixName.ty ar] (psStop 140) := by
 have ht := tab_ok
 refine CtP.toX (β := Unit) (pin := [0]) (out := fun _ => .tup []) (M1 := fun _ => []) (P := True) ?_
 refine CtP.body Try.func75 rfl rfl rfl (by kernel_rfl) (by kernel_rfl) (fun c Bk hn hpan => ?_)
 show En c ⟨[(0, .sv (.one (.pptr 0 0 (Bk 0)))), (1, .sv (.one (I code)))], [.box [.v (.string text), I pos, I deep, I cnt, .own 1] 144 false, rowI 236 FixName.ty ar]⟩ _
 refine En.region ?_
 refine WL.run ht hn 7 ⟨[(10, .sv (.agg [I code, I pos]))], [.box [.v (.string text), I pos, I deep, I cnt, .own 1] 144 false, rowI 236 FixName.ty ar]⟩ (by kernel_rfl) ?_
 exact WL.panicI (code := code) (at_ := pos) hn (by rfl) rfl rfl (by rfl) Try.underlying140 (by rfl) (by rfl) rfl rfl hp hpan trivial
theorem fOk_of {k kd : Nat} {text : ByteArray} {ar : Nms} {s : FS} (hz : text.size ≤ 4000) (hg : gF text s) (ha : ar.length ≤ 3) (hk : 4 * ((text.size : Int) - s.pos) + (kd : Int) < (k : Int)) : fOk k kd text ar s := ⟨hz, hk, hg, ha⟩
theorem fcnt_g {text : ByteArray} {s s1 : FS} (hg : gF text s) (h : fcnt s = some s1) : gF text s1 ∧ s1.pos = s.pos ∧ s1.deep = s.deep := by
 obtain ⟨rfl, hc⟩ := fcnt_some h
 obtain ⟨⟨p0, p1⟩, ⟨n0, n1⟩, d0, d1⟩ := hg
 exact ⟨⟨⟨p0, p1⟩, ⟨by show 0 ≤ s.cnt + 1; omega, hc⟩, d0, d1⟩, rfl, rfl⟩
theorem fstep_g {text : ByteArray} {s : FS} (hg : gF text s) (hl : s.pos < text.size) : gF text (fstep s) := by
 obtain ⟨⟨p0, p1⟩, ⟨n0, n1⟩, d0, d1⟩ := hg
 exact ⟨⟨by show 0 ≤ s.pos + 1; omega, by show s.pos + 1 ≤ text.size; omega⟩, ⟨n0, n1⟩, d0, d1⟩
theorem fwant_g {c : Int} (hc : c ≠ 0) {text : ByteArray} {s s1 : FS} (hg : gF text s) (h : fwant c text s = some s1) : gF text s1 ∧ s1.pos = s.pos + 1 := by
 obtain ⟨rfl, hw⟩ := fwant_some h
 have hl := fch_lt (text := text) (p := s.pos) (by omega)
 exact ⟨fstep_g hg hl, rfl⟩
theorem let_inF {c : Int} (h0 : 97 ≤ c) (h1 : c ≤ 100) : wr (IntKind.wrap .u8 (c - 97)) = c - 97 := by
 have : IntKind.wrap .u8 (c - 97) = c - 97 := by
  show (c - 97) % 256 = c - 97
  exact Int.emod_eq_of_lt (by omega) (by omega)
 rw [this, wr_in (by omega) (by omega)]
def fWnt_vc (text : ByteArray) (pos : Int) (deep : Int) (cnt : Int) (ar : (List FixName)) (ch : Int) (Q : Int × Int × Int × (List FixName) → Prop) (P : Prop) : Prop :=
 (0 ≤ pos) ∧
 IfP ((fch text pos) != ch) (((4 : Int) ≠ 0) ∧
 P) (Q ((wr ((pos) + 1)), (deep), (cnt), (ar)))
theorem fWnt_walk (text : ByteArray) (pos : Int) (deep : Int) (cnt : Int) (ar : (List FixName)) (ch : Int) (Q : Int × Int × Int × (List FixName) → Prop) (P : Prop) (h : fWnt_vc text pos deep cnt ar ch Q P) : CtP 153 [.sv (.one (.ptr 0 0)), .sv (.one (.v (.int .u8 ch)))] [.box [.v (.string text), I pos, I deep, I cnt, .own 1] 144 false, rowI 236 FixName.ty ar] [0] Q (fun (r : Int × Int × Int × (List FixName)) => .tup []) (fun (r : Int × Int × Int × (List FixName)) => [.box [.v (.string text), I r.1, I r.2.1, I r.2.2.1, .own 1] 144 false, rowI 236 FixName.ty r.2.2.2]) (psStop 140) P := by
 have ht := tab_ok
 refine CtP.body Try.func153 rfl rfl rfl (by kernel_rfl) (by kernel_rfl) (fun c Bk hn hpan => ?_)
 unfold fWnt_vc at h
 show En c ⟨[sl 0 (.pptr 0 0 (Bk 0)), sl 1 (.v (.int .u8 ch))], [.box [.v (.string text), I pos, I deep, I cnt, .own 1] 144 false, rowI 236 FixName.ty ar]⟩ _
 refine En.seq ?_
 refine En.sr ?_
 refine WL.r ht hn 1 ⟨[sl 0 (.pptr 0 0 (Bk 0)), sl 1 (.v (.int .u8 ch)), sl 4 (.ptr 0 0)], [.box [.v (.string text), I pos, I deep, I cnt, .own 1] 144 false, rowI 236 FixName.ty ar]⟩ ?_
 obtain ⟨hp, h⟩ := h
 refine WL.cE (fNow_ct text pos deep cnt ar hp) en110 [0, 1] hn rfl ?_
 refine WL.rn ht hn 2 ⟨[sl 0 (.pptr 0 0 (Bk 0)), sl 7 (B ((fch text pos) != ch))], [.box [.v (.string text), I pos, I deep, I cnt, .own 1] 144 false, rowI 236 FixName.ty ar]⟩ ?_
 refine En.cd (b := ((fch text pos) != ch)) (fun hb => ?_) (fun hb => ?_)
 replace h := h.1 hb
 refine En.region ?_
 refine WL.r ht hn 1 ⟨[sl 0 (.pptr 0 0 (Bk 0)), sl 8 (.ptr 0 0)], [.box [.v (.string text), I pos, I deep, I cnt, .own 1] 144 false, rowI 236 FixName.ty ar]⟩ ?_
 obtain ⟨hp, h⟩ := h
 exact WL.cX (fFail_ct text pos deep cnt ar 4 hp) en75 [0, 1] rfl (leftX hpan h)
 replace h := h.2 hb
 refine En.skip ?_
 refine En.region ?_
 refine WL.rn ht hn 8 ⟨[sl 0 (.pptr 0 0 (Bk 0))], [.box [.v (.string text), I (wr (pos + 1)), I deep, I cnt, .own 1] 144 false, rowI 236 FixName.ty ar]⟩ ?_
 exact En.backE [0] ht ((wr (pos + 1)), deep, cnt, ar) h (by kernel_rfl) (by rfl) rfl
theorem en153 : ∀ args w, (callFunc 153 args).run Try.prog w = .ok (.enter 153 args) w := enters_of Try.func153 (by kernel_rfl) rfl
theorem fWnt_all (text : ByteArray) (ar : Nms) (s : FS) (c : Int) (hp : gF text s ∧ text.size ≤ 4000 ∧ c ≠ 0) (Q : Int × Int × Int × List FixName → Prop) (P : Prop) (h1 : fwant c text s = none → P) (h2 : ∀ r, fwant c text s = some r → Q (r.pos, r.deep, r.cnt, ar)) : fWnt_vc text s.pos s.deep s.cnt ar c Q P := by
 obtain ⟨hg, hz, hc⟩ := hp
 unfold fWnt_vc
 refine ⟨hg.1.1, fun h => ⟨by decide, h1 (if_neg (bne_iff_ne.1 h))⟩, fun h => ?_⟩
 rw [bne_eq_false_iff_eq] at h
 have hl := fch_lt (text := text) (p := s.pos) (by omega)
 have := hg.1.1
 rw [wr_in (n := s.pos + 1) (by omega) (by omega)]
 exact h2 ⟨s.pos + 1, s.deep, s.cnt⟩ (if_pos h)
theorem fWnt_ok (text : ByteArray) (pos deep cnt : Int) (ar : List FixName) (c : Int) (hp : gF text ⟨pos, deep, cnt⟩ ∧ text.size ≤ 4000 ∧ c ≠ 0) (r : FS) (hx : fwant c text ⟨pos, deep, cnt⟩ = some r) : CtE 153 [.sv (.one (.ptr 0 0)), .sv (.one (.v (.int .u8 c)))] [.box [.v (.string text), I pos, I deep, I cnt, .own 1] 144 false, rowI 236 FixName.ty ar] [0] (fun (_ : Unit) => True) (fun _ => .tup []) (fun _ => [.box [.v (.string text), I r.pos, I r.deep, I r.cnt, .own 1] 144 false, rowI 236 FixName.ty ar]) :=
 (fWnt_walk text pos deep cnt ar c (fun x => x = (r.pos, r.deep, r.cnt, ar)) False (fWnt_all text ar ⟨pos, deep, cnt⟩ c hp _ _ (fun e => by rw [hx] at e; cases e) (fun y e => by rw [hx] at e; cases e; rfl))).toE fun x hx => ⟨(), trivial, by subst hx; rfl, by subst hx; rfl⟩
theorem fWnt_bad (text : ByteArray) (pos deep cnt : Int) (ar : List FixName) (c : Int) (hp : gF text ⟨pos, deep, cnt⟩ ∧ text.size ≤ 4000 ∧ c ≠ 0) (hx : fwant c text ⟨pos, deep, cnt⟩ = none) : CtX 153 [.sv (.one (.ptr 0 0)), .sv (.one (.v (.int .u8 c)))] [.box [.v (.string text), I pos, I deep, I cnt, .own 1] 144 false, rowI 236 FixName.ty ar] (psStop 140) :=
 (fWnt_walk text pos deep cnt ar c (fun _ => False) True (fWnt_all text ar ⟨pos, deep, cnt⟩ c hp _ _ (fun _ => trivial) (fun y e => by rw [hx] at e; cases e))).toX
def fCnt_vc (text : ByteArray) (pos : Int) (deep : Int) (cnt : Int) (ar : (List FixName)) (Q : Int × Int × Int × (List FixName) → Prop) (P : Prop) : Prop :=
 IfP (decide ((wr (cnt + 1)) > 30)) (((7 : Int) ≠ 0) ∧
 P) (Q (pos, deep, (wr (cnt + 1)), ar))
theorem fCnt_walk (text : ByteArray) (pos : Int) (deep : Int) (cnt : Int) (ar : (List FixName)) (Q : Int × Int × Int × (List FixName) → Prop) (P : Prop) (h : fCnt_vc text pos deep cnt ar Q P) : CtP 111 [.sv (.one (.ptr 0 0))] [.box [.v (.string text), I pos, I deep, I cnt, .own 1] 144 false, rowI 236 FixName.ty ar] [0] Q (fun (r : Int × Int × Int × (List FixName)) => .tup []) (fun (r : Int × Int × Int × (List FixName)) => [.box [.v (.string text), I r.1, I r.2.1, I r.2.2.1, .own 1] 144 false, rowI 236 FixName.ty r.2.2.2]) (psStop 140) P := by
 have ht := tab_ok
 refine CtP.body Try.func111 rfl rfl rfl (by kernel_rfl) (by kernel_rfl) (fun c Bk hn hpan => ?_)
 unfold fCnt_vc at h
 show En c ⟨[sl 0 (.pptr 0 0 (Bk 0))], [.box [.v (.string text), I pos, I deep, I cnt, .own 1] 144 false, rowI 236 FixName.ty ar]⟩ _
 refine En.sr ?_
 refine WL.rn ht hn 8 ⟨[sl 0 (.pptr 0 0 (Bk 0))], [.box [.v (.string text), I pos, I deep, I (wr (cnt + 1)), .own 1] 144 false, rowI 236 FixName.ty ar]⟩ ?_
 refine En.sr ?_
 refine WL.rn ht hn 5 ⟨[sl 0 (.pptr 0 0 (Bk 0)), sl 13 (B (decide ((wr (cnt + 1)) > 30)))], [.box [.v (.string text), I pos, I deep, I (wr (cnt + 1)), .own 1] 144 false, rowI 236 FixName.ty ar]⟩ ?_
 refine En.cd (b := (decide ((wr (cnt + 1)) > 30))) (fun hb => ?_) (fun hb => ?_)
 replace h := h.1 hb
 refine En.region ?_
 refine WL.r ht hn 1 ⟨[sl 0 (.pptr 0 0 (Bk 0)), sl 14 (.ptr 0 0)], [.box [.v (.string text), I pos, I deep, I (wr (cnt + 1)), .own 1] 144 false, rowI 236 FixName.ty ar]⟩ ?_
 obtain ⟨hp, h⟩ := h
 exact WL.cX (fFail_ct text pos deep (wr (cnt + 1)) ar 7 hp) en75 [0, 1] rfl (leftX hpan h)
 replace h := h.2 hb
 refine En.skip ?_
 exact En.backE [0] ht (pos, deep, (wr (cnt + 1)), ar) h (by kernel_rfl) (by rfl) rfl
theorem en111 : ∀ args w, (callFunc 111 args).run Try.prog w = .ok (.enter 111 args) w := enters_of Try.func111 (by kernel_rfl) rfl
theorem fCnt_all (text : ByteArray) (ar : Nms) (s : FS) (hp : gF text s ∧ text.size ≤ 4000) (Q : Int × Int × Int × List FixName → Prop) (P : Prop) (h1 : fcnt s = none → P) (h2 : ∀ r, fcnt s = some r → Q (r.pos, r.deep, r.cnt, ar)) : fCnt_vc text s.pos s.deep s.cnt ar Q P := by
 obtain ⟨⟨⟨p0, p1⟩, ⟨n0, n1⟩, d0, d1⟩, hz⟩ := hp
 unfold fCnt_vc
 rw [wr_in (n := s.cnt + 1) (by omega) (by omega)]
 exact ⟨fun h => ⟨by decide, h1 (if_pos (of_decide_eq_true h))⟩, fun h => h2 _ (if_neg (of_decide_eq_false h))⟩
theorem fCnt_ok (text : ByteArray) (pos deep cnt : Int) (ar : List FixName) (hp : gF text ⟨pos, deep, cnt⟩ ∧ text.size ≤ 4000) (r : FS) (hx : fcnt ⟨pos, deep, cnt⟩ = some r) : CtE 111 [.sv (.one (.ptr 0 0))] [.box [.v (.string text), I pos, I deep, I cnt, .own 1] 144 false, rowI 236 FixName.ty ar] [0] (fun (_ : Unit) => True) (fun _ => .tup []) (fun _ => [.box [.v (.string text), I r.pos, I r.deep, I r.cnt, .own 1] 144 false, rowI 236 FixName.ty ar]) :=
 (fCnt_walk text pos deep cnt ar (fun x => x = (r.pos, r.deep, r.cnt, ar)) False (fCnt_all text ar ⟨pos, deep, cnt⟩ hp _ _ (fun e => by rw [hx] at e; cases e) (fun y e => by rw [hx] at e; cases e; rfl))).toE fun x hx => ⟨(), trivial, by subst hx; rfl, by subst hx; rfl⟩
theorem fCnt_bad (text : ByteArray) (pos deep cnt : Int) (ar : List FixName) (hp : gF text ⟨pos, deep, cnt⟩ ∧ text.size ≤ 4000) (hx : fcnt ⟨pos, deep, cnt⟩ = none) : CtX 111 [.sv (.one (.ptr 0 0))] [.box [.v (.string text), I pos, I deep, I cnt, .own 1] 144 false, rowI 236 FixName.ty ar] (psStop 140) :=
 (fCnt_walk text pos deep cnt ar (fun _ => False) True (fCnt_all text ar ⟨pos, deep, cnt⟩ hp _ _ (fun _ => trivial) (fun y e => by rw [hx] at e; cases e))).toX
end Go.Proofs.Ytiejmeedkhkfgaa
