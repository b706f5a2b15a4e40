/- Symbolic states of a walk: regions that draw their order, each operation walked once, from what it needs alone. No condition. -/
import Derived.Test.YtfpdnigihjmohaaMirQ
namespace Go.Proofs.Ytfpdnigihjmohaa
open Go.RowKit Go.MapKept
set_option linter.unusedSimpArgs false
set_option linter.unusedVariables false
set_option maxRecDepth 100000

/-- a piece of memory within a region: by which operation it is made, used up, written -/
structure CI where
  it : Item
  born : Option Nat
  kill : Option Nat
  upd : Option (Nat × Item)
structure Cert where
  F0 : List (Nat × SC)
  xs : List SC
  ci : List CI
def Cert.x (C : Cert) (i : Nat) : SC := C.xs.getD i (.tup [])
def lv (L : Nat → Bool) : Option Nat → Bool
  | none => true
  | some b => L b
def lk (L : Nat → Bool) : Option Nat → Bool
  | none => false
  | some b => L b
def CI.cur (L : Nat → Bool) (e : CI) : Item := match e.upd with
  | some (u, it') => match L u with
    | true => it'
    | false => e.it
  | none => e.it
def CI.at (L : Nat → Bool) (e : CI) : Item := match lv L e.born && !(lk L e.kill) with
  | true => e.cur L
  | false => .gone
def Cert.ML (C : Cert) (L : Nat → Bool) : List Item := C.ci.map (CI.at L)
def Cert.FL (C : Cert) (ops : List Oper) (L : Nat → Bool) : List (Nat × SC) := (ops.zipIdx.filterMap fun x => match L x.2 with
  | true => x.1.dst.map fun d => (d, C.x x.2)
  | false => none) ++ C.F0
def onE (o : Oper) : List Nat := (o.after.toList.filter (Region.binds .any)).map (·.on)
def dstE (ops : List Oper) (i : Nat) : Option Nat := match ops[i]? with
  | some o => o.dst
  | none => none
def onI (ops : List Oper) (i : Nat) : List Nat := match ops[i]? with
  | some o => onE o
  | none => []
/-- what a reference may speak of, behind operation j (none: at the start) -/
def refE (C : Cert) (ops : List Oper) (j : Option Nat) (r : Nat) : Bool := match C.ci[r]? with
  | none => true
  | some e => match e.born with
    | none => true
    | some b => match j with
      | none => false
      | some j => Nat.beq b j || (onI ops j).contains b
def nodupB : List Nat → Bool
  | [] => true
  | x :: l => !(l.contains x) && nodupB l
def chkE (C : Cert) (ops : List Oper) : Bool :=
  (ops.zipIdx.all fun x => (onE x.1).all fun j => Nat.blt j x.2) &&
  nodupB (ops.filterMap (·.dst) ++ C.F0.map (·.1)) &&
  (ops.zipIdx.all fun x => match x.1.dst with
    | some _ => (C.x x.2).refs.all (refE C ops (some x.2))
    | none => true) &&
  (C.F0.all fun x => x.2.refs.all (refE C ops none)) &&
  (C.ci.all fun e => e.it.refs.all (refE C ops e.born) && (match e.upd with
    | some (u, it') => it'.refs.all (refE C ops (some u)) && (match e.born with
      | some b => (onI ops u).contains b
      | none => true)
    | none => true) && (match e.kill with
    | some k => (match e.born with
      | some b => (onI ops k).contains b
      | none => true)
    | none => true))
/-- what operation i may find -/
def needF (C : Cert) (ops : List Oper) (i t : Nat) : Option SC := match (onI ops i).find? (fun j => match dstE ops j with
    | some d => Nat.beq d t
    | none => false) with
  | some j => some (C.x j)
  | none => look t C.F0
def needM (C : Cert) (ops : List Oper) (i q : Nat) : Option Item := match C.ci[q]? with
  | none => none
  | some e => match (match e.born with
      | none => true
      | some b => (onI ops i).contains b) && (match e.kill with
      | none => true
      | some k => Nat.beq k i || (onI ops k).contains i) with
    | false => none
    | true => match e.upd with
      | none => some e.it
      | some (u, it') => match (onI ops i).contains u with
        | true => some it'
        | false => match Nat.beq u i || (onI ops u).contains i with
          | true => some e.it
          | false => none
def fitsE (C : Cert) (ops : List Oper) (i : Nat) (S : St) : List (Option SC) × List (Option Item) := (S.F.map fun e => needF C ops i e.1, S.M.zipIdx.map fun x => match x.1 with
  | .gone => none
  | _ => needM C ops i x.2)
def fitsX (S : St) : List (Option SC) × List (Option Item) := (S.F.map fun e => some e.2, S.M.map fun x => match x with
  | .gone => none
  | it => some it)
/-- operation o writes piece q, and leaves it there -/
def MU (c : Cfg) (S : St) (o : Oper) (q : Nat) (it' : Item) : Prop :=
  ∀ a w g hs, Ok' c S a w g hs → ∀ N Z : Po, (∀ v w', w.grownBy w' (blk (hs q)) → it'.ok g hs w' (hs q) → N (a.put o.dst v) w') → o.wp Try.prog a w N (RM.Only Z)
def bornE (C : Cert) (i : Nat) : List Nat := (C.ci.zipIdx.filter fun x => match x.1.born with
  | some b => Nat.beq b i
  | none => false).map (·.2)
def killE (C : Cert) (i : Nat) : List Nat := (C.ci.zipIdx.filter fun x => match x.1.kill with
  | some b => Nat.beq b i
  | none => false).map (·.2)
def updE (C : Cert) (i : Nat) : List Nat := (C.ci.zipIdx.filter fun x => match x.1.upd with
  | some (b, _) => Nat.beq b i
  | none => false).map (·.2)
inductive StepOk (c : Cfg) (C : Cert) (ops : List Oper) (i : Nat) (o : Oper) : Prop
  | mt (S : St) (K : List Nat) (p : Option Nat) (hf : fitsE C ops i S = fitsX S) (hw : wantE ops.toArray S.F o = some true) (hm : MT c S o (C.x i) K (p.bind fun q => (C.ci[q]?).map fun e => (q, e.it)))
      (hk : killE C i = K) (hb : bornE C i = p.toList) (hu : updE C i = []) (huse : usable S K = true)
  | mu (S : St) (q : Nat) (e : CI) (it' : Item) (he : C.ci[q]? = some e) (heu : e.upd = some (i, it')) (hf : fitsE C ops i S = fitsX S) (hw : wantE ops.toArray S.F o = some true) (hm : MU c S o q it') (hk : killE C i = []) (hb : bornE C i = []) (hu : updE C i = [q])
      (hq : S.M[q]? = some e.it) (h1 : e.it.fz = false) (h2 : it'.fz = false) (hd : o.dst = none)
  | skip (S : St) (hf : fitsE C ops i S = fitsX S) (hw : wantE ops.toArray S.F o = some false) (hx : C.x i = .tup []) (hk : killE C i = []) (hb : bornE C i = []) (hu : updE C i = [])
def StepsOk (c : Cfg) (C : Cert) (ops : List Oper) : Nat → List Oper → Prop
  | _, [] => True
  | i, o :: l => StepOk c C ops i o ∧ StepsOk c C ops (i + 1) l
theorem stepsOk_get {c : Cfg} {C : Cert} {ops : List Oper} : ∀ {l : List Oper} {k : Nat}, StepsOk c C ops k l → ∀ (i : Nat) (o : Oper), l[i]? = some o → StepOk c C ops (k + i) o
  | [], _, _, i, o, h => by simp at h
  | x :: l, k, hs, 0, o, h => by simp at h; subst h; exact hs.1
  | x :: l, k, hs, i + 1, o, h => by
    have := stepsOk_get hs.2 i o (by simpa using h)
    rwa [show k + 1 + i = k + (i + 1) by omega] at this
theorem FL_mem {C : Cert} {ops : List Oper} {L : Nat → Bool} {t : Nat} {y : SC} : (t, y) ∈ C.FL ops L ↔ (∃ (i : Nat) (o : Oper), ops[i]? = some o ∧ L i = true ∧ o.dst = some t ∧ y = C.x i) ∨ (t, y) ∈ C.F0 := by
  unfold Cert.FL
  rw [List.mem_append, List.mem_filterMap]
  refine or_congr ⟨?_, ?_⟩ Iff.rfl
  · rintro ⟨⟨o, i⟩, h1, h2⟩
    have h3 := List.mem_zipIdx' h1
    cases hL : L i with
    | false => simp only [hL] at h2; cases h2
    | true =>
      simp only [hL] at h2
      cases hd : o.dst with
      | none => rw [hd] at h2; cases h2
      | some d =>
        rw [hd] at h2
        simp at h2
        refine ⟨i, o, ?_, hL, by rw [hd, h2.1], h2.2.symm⟩
        obtain ⟨h4, h5⟩ := h3
        rw [List.getElem?_eq_getElem h4, ← h5]
  · rintro ⟨i, o, h1, h2, h3, rfl⟩
    refine ⟨(o, i), ?_, by simp [h2, h3]⟩
    obtain ⟨h4, h5⟩ := List.getElem?_eq_some_iff.1 h1
    rw [List.mem_zipIdx_iff_getElem?]
    exact h1
theorem Ok'.subM {c : Cfg} {S S1 : St} {a : Act} {w : World} {g : Gh} {hs : Nat → Value} (hF : ∀ e ∈ S.F, e ∈ S1.F) (hM : itemsOf S1.M S.M) (h : Ok' c S1 a w g hs) : Ok' c S a w g hs := by
  have hm : ∀ (i : Nat) (it : Item), S.M[i]? = some it → it ≠ .gone → S1.M[i]? = some it := fun i it hi hn => (hM i it hi).resolve_left hn
  refine ⟨h.size, h.defers, h.base, fun t x hx => h.slots t x (hF _ hx), fun i it hi => ?_, fun i j it jt hij hi hj hfi hnj => h.sep i j it jt hij (hm i it hi (fz_gone hfi)) (hm j jt hj hnj) hfi hnj, fun i it hi hni => h.mine i it (hm i it hi hni) hni⟩
  rcases hM i it hi with rfl | h1
  · trivial
  · exact h.items i it h1
theorem nodupB_ok : ∀ {l : List Nat}, nodupB l = true → l.Nodup
  | [], _ => List.nodup_nil
  | x :: l, h => by
    simp only [nodupB, Bool.and_eq_true, Bool.not_eq_true', List.contains_iff_mem] at h
    rw [List.nodup_cons]
    refine ⟨fun hx => ?_, nodupB_ok h.2⟩
    have := h.1
    simp [List.contains_iff_mem, hx] at this
structure Chk (C : Cert) (ops : List Oper) : Prop where
  below : ∀ (i : Nat) (o : Oper), ops[i]? = some o → ∀ j ∈ onE o, j < i
  nodup : (ops.filterMap (·.dst) ++ C.F0.map (·.1)).Nodup
  refsX : ∀ (i : Nat) (o : Oper), ops[i]? = some o → o.dst ≠ none → ∀ r ∈ (C.x i).refs, refE C ops (some i) r = true
  refs0 : ∀ e ∈ C.F0, ∀ r ∈ e.2.refs, refE C ops none r = true
  refsM : ∀ e ∈ C.ci, ∀ r ∈ e.it.refs, refE C ops e.born r = true
  refsU : ∀ e ∈ C.ci, ∀ u it', e.upd = some (u, it') → (∀ r ∈ it'.refs, refE C ops (some u) r = true) ∧ ∀ b, e.born = some b → b ∈ onI ops u
  killB : ∀ e ∈ C.ci, ∀ k b, e.kill = some k → e.born = some b → b ∈ onI ops k
theorem chk_of {C : Cert} {ops : List Oper} (h : chkE C ops = true) : Chk C ops := by
  simp only [chkE, Bool.and_eq_true] at h
  obtain ⟨⟨⟨⟨h1, h2⟩, h3⟩, h4⟩, h5⟩ := h
  have hz : ∀ {i : Nat} {o : Oper}, ops[i]? = some o → (o, i) ∈ ops.zipIdx := fun {i o} hi => List.mem_zipIdx_iff_getElem?.2 hi
  refine ⟨fun i o hi j hj => ?_, nodupB_ok h2, fun i o hi hd r hr => ?_, fun e he r hr => ?_, fun e he r hr => ?_, fun e he u it' hu => ?_, fun e he k b hk hb => ?_⟩
  · have := List.all_eq_true.1 (List.all_eq_true.1 h1 _ (hz hi)) j hj
    exact Nat.le_of_ble_eq_true this
  · have := List.all_eq_true.1 h3 _ (hz hi)
    cases hdd : o.dst with
    | none => exact absurd hdd hd
    | some d => simp only [hdd] at this; exact List.all_eq_true.1 this r hr
  · exact List.all_eq_true.1 (List.all_eq_true.1 h4 e he) r hr
  · have := List.all_eq_true.1 h5 e he
    simp only [Bool.and_eq_true] at this
    exact List.all_eq_true.1 this.1.1 r hr
  · have := List.all_eq_true.1 h5 e he
    simp only [Bool.and_eq_true, hu] at this
    refine ⟨fun r hr => List.all_eq_true.1 this.1.2.1 r hr, fun b hb => ?_⟩
    have h6 := this.1.2.2
    rw [hb] at h6
    simpa [List.contains_iff_mem] using h6
  · have := List.all_eq_true.1 h5 e he
    simp only [Bool.and_eq_true, hk, hb] at this
    simpa [List.contains_iff_mem] using this.2
/-- what has been carried out: with each operation, those that it waits for -/
def Closed' (ops : List Oper) (L : Nat → Bool) : Prop := ∀ i, L i = true → i < ops.length ∧ ∀ j ∈ onI ops i, L j = true
def addL (L : Nat → Bool) (i : Nat) : Nat → Bool := fun j => if j = i then true else L j
section
variable {c : Cfg} {C : Cert} {ops : List Oper} {L : Nat → Bool}
theorem onI_eq {i : Nat} {o : Oper} (h : ops[i]? = some o) : onI ops i = onE o := by unfold onI; rw [h]
theorem ML_get {q : Nat} {it : Item} (h : (C.ML L)[q]? = some it) (hn : it ≠ .gone) : ∃ e, C.ci[q]? = some e ∧ lv L e.born = true ∧ lk L e.kill = false ∧ it = e.cur L := by
  unfold Cert.ML at h
  rw [List.getElem?_map] at h
  cases he : C.ci[q]? with
  | none => rw [he] at h; cases h
  | some e =>
    rw [he] at h
    simp only [Option.map_some, Option.some.injEq] at h
    unfold CI.at at h
    split at h
    · rename_i hb
      simp only [Bool.and_eq_true, Bool.not_eq_true'] at hb
      exact ⟨e, rfl, hb.1, hb.2, h.symm⟩
    · exact absurd h.symm hn
theorem ML_mk {q : Nat} {e : CI} (he : C.ci[q]? = some e) (h1 : lv L e.born = true) (h2 : lk L e.kill = false) : (C.ML L)[q]? = some (e.cur L) := by
  unfold Cert.ML
  rw [List.getElem?_map, he]
  simp [CI.at, h1, h2]
theorem ref_of (hc : Closed' ops L) {j : Option Nat} (hj : ∀ k, j = some k → L k = true) {r : Nat} (h : refE C ops j r = true) {e : CI} (he : C.ci[r]? = some e) {b : Nat} (hb : e.born = some b) : L b = true := by
  unfold refE at h
  rw [he] at h
  simp only [hb] at h
  cases j with
  | none => cases h
  | some j =>
    simp only [Bool.or_eq_true] at h
    rcases h with h | h
    · rw [Nat.eq_of_beq_eq_true h]; exact hj j rfl
    · exact (hc j (hj j rfl)).2 b (by simpa [List.contains_iff_mem] using h)
/-- what an operation needs lies in what there is -/
theorem fits_sub (hk : Chk C ops) (hc : Closed' ops L) {i : Nat} {o : Oper} (hi : ops[i]? = some o) (hL : L i = false) (hon : ∀ j ∈ onE o, L j = true) {S : St} (hf : fitsE C ops i S = fitsX S) : (∀ e ∈ S.F, e ∈ C.FL ops L) ∧ itemsOf (C.ML L) S.M := by
  have hF := congrArg Prod.fst hf
  have hM := congrArg Prod.snd hf
  simp only [fitsE, fitsX] at hF hM
  have hoi := onI_eq hi
  constructor
  · intro e he
    obtain ⟨q, hq⟩ := List.getElem?_of_mem he
    have h1 := congrArg (·[q]?) hF
    simp [hq] at h1
    obtain ⟨t, y⟩ := e
    rw [FL_mem]
    unfold needF at h1
    split at h1
    · rename_i j hj
      have h2 := List.find?_some hj
      have h3 := List.mem_of_find?_eq_some hj
      cases h1
      unfold dstE at h2
      cases ho : ops[j]? with
      | none => rw [ho] at h2; cases h2
      | some oj =>
        rw [ho] at h2
        simp only at h2
        cases hd : oj.dst with
        | none => rw [hd] at h2; cases h2
        | some d =>
          rw [hd] at h2
          have := Nat.eq_of_beq_eq_true h2
          subst this
          exact .inl ⟨j, oj, ho, hon j (by rwa [hoi] at h3), hd, rfl⟩
    · exact .inr (look_mem h1)
  · intro q it hq
    by_cases hn : it = .gone
    · exact .inl hn
    · right
      have h1 := congrArg (·[q]?) hM
      simp only [List.getElem?_map, List.getElem?_zipIdx, hq, Option.map_some] at h1
      have h1' : needM C ops i (0 + q) = some it := by
        cases it <;> first | exact absurd rfl hn | (simpa using h1)
      rw [Nat.zero_add] at h1'
      unfold needM at h1'
      cases he : C.ci[q]? with
      | none => rw [he] at h1'; cases h1'
      | some e =>
        rw [he] at h1'
        simp only at h1'
        split at h1'
        case h_1 => cases h1'
        rename_i hcond
        simp only [Bool.and_eq_true] at hcond
        obtain ⟨c1, c2⟩ := hcond
        have hlv : lv L e.born = true := by
          cases hb : e.born with
          | none => rfl
          | some b =>
            rw [hb] at c1
            exact hon b (by rw [← hoi]; simpa [List.contains_iff_mem] using c1)
        have late : ∀ k, (Nat.beq k i || (onI ops k).contains i) = true → L k = false := fun k hk => by
          simp only [Bool.or_eq_true] at hk
          rcases hk with hk | hk
          · rw [Nat.eq_of_beq_eq_true hk]; exact hL
          · cases hLk : L k with
            | false => rfl
            | true =>
              have := (hc k hLk).2 i (by simpa [List.contains_iff_mem] using hk)
              rw [hL] at this
              cases this
        have hlk : lk L e.kill = false := by
          cases hkk : e.kill with
          | none => rfl
          | some k => rw [hkk] at c2; exact late k c2
        rw [ML_mk he hlv hlk]
        congr 1
        unfold CI.cur
        cases hu : e.upd with
        | none => rw [hu] at h1'; simpa using h1'
        | some x =>
          obtain ⟨u, it'⟩ := x
          rw [hu] at h1'
          simp only at h1' ⊢
          cases hcu : (onI ops i).contains u with
          | true =>
            rw [hcu] at h1'
            have hLu := hon u (by rw [← hoi]; simpa [List.contains_iff_mem] using hcu)
            rw [hLu]
            simpa using h1'
          | false =>
            rw [hcu] at h1'
            simp only at h1'
            split at h1'
            · rename_i hlate
              rw [late u hlate]
              simpa using h1'
            · cases h1'
theorem FL_add (hk : Chk C ops) {i : Nat} {o : Oper} (hi : ops[i]? = some o) {F : List (Nat × SC)} (hF : ∀ e, e ∈ F ↔ e ∈ C.FL ops L) (M : List Item) : ∀ e ∈ C.FL ops (addL L i), e ∈ (St.put o.dst (C.x i) ⟨F, M⟩).F := by
  rintro ⟨t, y⟩ he
  rw [FL_mem] at he
  have hnd := hk.nodup
  rw [List.nodup_append] at hnd
  obtain ⟨n1, n2, n3⟩ := hnd
  rcases he with ⟨j, oj, hj, hLj, hd, rfl⟩ | he
  · by_cases e : j = i
    · subst e
      rw [hi] at hj
      cases hj
      rw [hd]
      simp [St.put]
    · have hLj' : L j = true := by simpa [addL, e] using hLj
      have hm : (t, C.x j) ∈ C.FL ops L := FL_mem.2 (.inl ⟨j, oj, hj, hLj', hd, rfl⟩)
      cases hdo : o.dst with
      | none => simpa [St.put] using (hF _).2 hm
      | some d =>
        have hne : t ≠ d := fun e2 => by
          subst e2
          refine e ?_
          have key : ∀ (l : List Oper) (i j : Nat) (a b : Oper), (l.filterMap (·.dst)).Nodup → l[i]? = some a → l[j]? = some b → a.dst = some t → b.dst = some t → i = j := by
            intro l
            induction l with
            | nil => intro i j a b _ h; simp at h
            | cons x l ih =>
              intro i j a b hn h1 h2 h3 h4
              cases i with
              | zero =>
                cases j with
                | zero => rfl
                | succ j =>
                  simp at h1 h2
                  subst h1
                  rw [List.filterMap_cons, h3] at hn
                  simp only [List.nodup_cons] at hn
                  exact absurd (List.mem_filterMap.2 ⟨b, List.mem_of_getElem? h2, h4⟩) hn.1
              | succ i =>
                cases j with
                | zero =>
                  simp at h1 h2
                  subst h2
                  rw [List.filterMap_cons, h4] at hn
                  simp only [List.nodup_cons] at hn
                  exact absurd (List.mem_filterMap.2 ⟨a, List.mem_of_getElem? h1, h3⟩) hn.1
                | succ j =>
                  simp at h1 h2
                  have hn' : (l.filterMap (·.dst)).Nodup := by
                    rw [List.filterMap_cons] at hn
                    cases hx : x.dst with
                    | none => simpa [hx] using hn
                    | some _ => rw [hx] at hn; exact (List.nodup_cons.1 hn).2
                  rw [ih i j a b hn' h1 h2 h3 h4]
          exact key ops j i oj o n1 hj hi hd hdo
        simp only [St.put, List.mem_cons, List.mem_filter]
        refine .inr ⟨(hF _).2 hm, ?_⟩
        cases hb : Nat.beq t d with
        | false => rfl
        | true => exact absurd (Nat.eq_of_beq_eq_true hb) hne
  · have hm : (t, y) ∈ C.FL ops L := FL_mem.2 (.inr he)
    cases hdo : o.dst with
    | none => simpa [St.put] using (hF _).2 hm
    | some d =>
      have hne : t ≠ d := fun e2 => by
        subst e2
        exact n3 t (List.mem_filterMap.2 ⟨o, List.mem_of_getElem? hi, hdo⟩) t (List.mem_map.2 ⟨_, he, rfl⟩) rfl
      simp only [St.put, List.mem_cons, List.mem_filter]
      refine .inr ⟨(hF _).2 hm, ?_⟩
      cases hb : Nat.beq t d with
      | false => rfl
      | true => exact absurd (Nat.eq_of_beq_eq_true hb) hne
theorem goneM_keep : ∀ {K : List Nat} {M : List Item} {i : Nat}, i ∉ K → (goneM M K)[i]? = M[i]?
  | [], _, _, _ => rfl
  | k :: K, M, i, h => by
    simp only [List.mem_cons, not_or] at h
    show (goneM (M.set k .gone) K)[i]? = _
    rw [goneM_keep h.2, List.getElem?_set, if_neg (Ne.symm h.1)]
theorem setM_new {M : List Item} {p : Nat} {it : Item} : (setM M p it)[p]? = some it := by
  unfold setM
  split
  · rename_i h; simp [h]
  · rename_i h
    have hl : (M ++ List.replicate (p - M.length) Item.gone).length = p := by simp; omega
    rw [List.getElem?_append_right (by omega), hl]
    simp
theorem setM_keep {M : List Item} {p : Nat} {it jt : Item} {i : Nat} (h : i ≠ p) (hi : M[i]? = some jt) : (setM M p it)[i]? = some jt := by
  unfold setM
  have hlt := (List.getElem?_eq_some_iff.1 hi).1
  split
  · rw [List.getElem?_set, if_neg (Ne.symm h)]; exact hi
  · rw [List.append_assoc, List.getElem?_append_left hlt]; exact hi
theorem born_iff {i q : Nat} : q ∈ bornE C i ↔ ∃ e, C.ci[q]? = some e ∧ e.born = some i := by
  unfold bornE
  rw [List.mem_map]
  constructor
  · rintro ⟨⟨e, q'⟩, h, rfl⟩
    rw [List.mem_filter, List.mem_zipIdx_iff_getElem?] at h
    obtain ⟨h1, h2⟩ := h
    simp only at h1 h2
    cases hb : e.born with
    | none => rw [hb] at h2; cases h2
    | some b => rw [hb] at h2; exact ⟨e, h1, by rw [Nat.eq_of_beq_eq_true h2] at hb; exact hb⟩
  · rintro ⟨e, h1, h2⟩
    exact ⟨(e, q), List.mem_filter.2 ⟨List.mem_zipIdx_iff_getElem?.2 h1, by simp [h2]⟩, rfl⟩
theorem kill_iff {i q : Nat} : q ∈ killE C i ↔ ∃ e, C.ci[q]? = some e ∧ e.kill = some i := by
  unfold killE
  rw [List.mem_map]
  constructor
  · rintro ⟨⟨e, q'⟩, h, rfl⟩
    rw [List.mem_filter, List.mem_zipIdx_iff_getElem?] at h
    obtain ⟨h1, h2⟩ := h
    simp only at h1 h2
    cases hb : e.kill with
    | none => rw [hb] at h2; cases h2
    | some b => rw [hb] at h2; exact ⟨e, h1, by rw [Nat.eq_of_beq_eq_true h2] at hb; exact hb⟩
  · rintro ⟨e, h1, h2⟩
    exact ⟨(e, q), List.mem_filter.2 ⟨List.mem_zipIdx_iff_getElem?.2 h1, by simp [h2]⟩, rfl⟩
theorem upd_iff {i q : Nat} : q ∈ updE C i ↔ ∃ e it', C.ci[q]? = some e ∧ e.upd = some (i, it') := by
  unfold updE
  rw [List.mem_map]
  constructor
  · rintro ⟨⟨e, q'⟩, h, rfl⟩
    rw [List.mem_filter, List.mem_zipIdx_iff_getElem?] at h
    obtain ⟨h1, h2⟩ := h
    simp only at h1 h2
    cases hb : e.upd with
    | none => rw [hb] at h2; cases h2
    | some b => obtain ⟨b, it'⟩ := b; rw [hb] at h2; exact ⟨e, it', h1, by rw [Nat.eq_of_beq_eq_true h2] at hb; exact hb⟩
  · rintro ⟨e, it', h1, h2⟩
    exact ⟨(e, q), List.mem_filter.2 ⟨List.mem_zipIdx_iff_getElem?.2 h1, by simp [h2]⟩, rfl⟩
/-- what there is behind operation i was there, or is its own -/
theorem ML_add {i q : Nat} {it : Item} (h : (C.ML (addL L i))[q]? = some it) (hn : it ≠ .gone) (hu : q ∉ updE C i) : q ∉ killE C i ∧ ((∃ e, C.ci[q]? = some e ∧ e.born = some i ∧ it = e.cur (addL L i)) ∨ (q ∉ bornE C i ∧ (C.ML L)[q]? = some it)) := by
  obtain ⟨e, he, h1, h2, h3⟩ := ML_get h hn
  have hki : q ∉ killE C i := fun hk => by
    obtain ⟨e', he', hk'⟩ := kill_iff.1 hk
    rw [he] at he'
    cases he'
    rw [hk'] at h2
    simp [lk, addL] at h2
  refine ⟨hki, ?_⟩
  have hlk : lk L e.kill = false := by
    cases hk : e.kill with
    | none => rfl
    | some k =>
      have hne : k ≠ i := fun e2 => hki (kill_iff.2 ⟨e, he, by rw [hk, e2]⟩)
      rw [hk] at h2
      simpa [lk, addL, hne] using h2
  by_cases hb : e.born = some i
  · exact .inl ⟨e, he, hb, h3⟩
  · right
    refine ⟨fun hq => ?_, ?_⟩
    · obtain ⟨e', he', hb'⟩ := born_iff.1 hq
      rw [he] at he'
      cases he'
      exact hb hb'
    · have hlv : lv L e.born = true := by
        cases hbb : e.born with
        | none => rfl
        | some b =>
          have hne : b ≠ i := fun e2 => hb (by rw [hbb, e2])
          rw [hbb] at h1
          simpa [lv, addL, hne] using h1
      rw [ML_mk he hlv hlk, h3]
      congr 1
      unfold CI.cur
      cases hup : e.upd with
      | none => rfl
      | some x =>
        obtain ⟨u, it'⟩ := x
        have hne : u ≠ i := fun e2 => hu (upd_iff.2 ⟨e, it', he, by rw [hup, e2]⟩)
        simp [addL, hne]
theorem refsAll_of {S : St} {p : Nat → Bool} (h1 : ∀ e ∈ S.F, ∀ r ∈ e.2.refs, p r = true) (h2 : ∀ it ∈ S.M, ∀ r ∈ it.refs, p r = true) : S.refsAll p = true := by
  simp only [St.refsAll, Bool.and_eq_true, List.all_eq_true]
  exact ⟨fun e he r hr => h1 e he r hr, fun it hi r hr => h2 it hi r hr⟩
theorem L_refs (hk : Chk C ops) (hc : Closed' ops L) {q i : Nat} {e : CI} (he : C.ci[q]? = some e) (hb : e.born = some i) (hL : L i = false) : (⟨C.FL ops L, C.ML L⟩ : St).refsAll (fun r => !(Nat.beq r q)) = true := by
  have key : ∀ (j : Option Nat) (r : Nat), (∀ k, j = some k → L k = true) → refE C ops j r = true → (!(Nat.beq r q)) = true := fun j r hj hr => by
    cases hrq : Nat.beq r q with
    | false => rfl
    | true =>
      have := Nat.eq_of_beq_eq_true hrq
      subst this
      have := ref_of hc hj hr he hb
      rw [hL] at this
      cases this
  refine refsAll_of ?_ ?_
  · rintro ⟨t, y⟩ hm r hr
    rcases FL_mem.1 hm with ⟨j, o, hj, hLj, hd, rfl⟩ | hm
    · exact key (some j) r (fun k e => by cases e; exact hLj) (hk.refsX j o hj (by rw [hd]; simp) r hr)
    · exact key none r (fun k e => by cases e) (hk.refs0 _ hm r hr)
  · intro it hit r hr
    obtain ⟨q', hq'⟩ := List.getElem?_of_mem hit
    by_cases hn : it = .gone
    · subst hn; simp [Item.refs] at hr
    · obtain ⟨e', he', h1, h2, h3⟩ := ML_get hq' hn
      subst h3
      have hmem := List.mem_of_getElem? he'
      have hborn : ∀ k, e'.born = some k → L k = true := fun k hk' => by rw [hk'] at h1; exact h1
      unfold CI.cur at hr
      split at hr
      · rename_i u it' hu
        split at hr
        · rename_i hLu
          exact key (some u) r (fun k e => by cases e; exact hLu) ((hk.refsU e' hmem u it' hu).1 r hr)
        · exact key e'.born r hborn (hk.refsM e' hmem r hr)
      · exact key e'.born r hborn (hk.refsM e' hmem r hr)
theorem itemsOf_usable {M : List Item} {S : St} {F : List (Nat × SC)} (h : itemsOf M S.M) {K : List Nat} (hu : usable S K = true) : usable ⟨F, M⟩ K = true := by
  unfold usable at hu ⊢
  rw [List.all_eq_true] at hu ⊢
  intro k hk
  have := hu k hk
  cases hm : S.M[k]? with
  | none => rw [hm] at this; cases this
  | some it =>
    rw [hm] at this
    rcases h k it hm with rfl | h1
    · cases this
    · simp only
      rw [h1]
      exact this
variable {n : Nat}
theorem step_ok (hk : Chk C ops) (hc : Closed' ops L) (hn : c.n = n) (hd : (ops.all fun o => match o.dst with | some d => Nat.blt d n | none => true) = true) {i : Nat} {o : Oper} (hi : ops[i]? = some o) (hL : L i = false) (hon : ∀ j ∈ onE o, L j = true) (hs : StepOk c C ops i o)
    {a : Act} {w : World} (h : Ok c ⟨C.FL ops L, C.ML L⟩ a w) {N Z : Po} (hN : ∀ a' w', Ok c ⟨C.FL ops (addL L i), C.ML (addL L i)⟩ a' w' → N a' w') :
    if Region.wanted o (yielded ops.toArray a.tmps) = true then o.wp Try.prog a w N (RM.Only Z) else N (a.put o.dst undef) w := by
  obtain ⟨g, hs', h⟩ := h
  have hdst : ∀ d, o.dst = some d → d < c.n := fun d e => by
    have := List.all_eq_true.1 hd o (List.mem_of_getElem? hi)
    rw [e] at this
    rw [hn]
    exact Nat.le_of_ble_eq_true this
  cases hs with
  | mt S K p hf hw hm hkk hbb huu huse =>
    obtain ⟨f1, f2⟩ := fits_sub hk hc hi hL hon hf
    have hS : Ok' c S a w g hs' := Ok'.subM f1 f2 h
    rw [if_pos (wantE_ok hS hw)]
    have hP : ∀ q, p = some q → ∃ e, C.ci[q]? = some e ∧ e.born = some i := fun q e => born_iff.1 (by rw [hbb, e]; simp)
    refine hm a w g hs' hS N Z fun v w' g' h' h1 h3 h4 => hN _ _ ⟨g', newH hs' (p.bind fun q => (C.ci[q]?).map fun e => (q, e.it)) h', ?_⟩
    have hr : refsNe ⟨C.FL ops L, C.ML L⟩ (p.bind fun q => (C.ci[q]?).map fun e => (q, e.it)) = true := by
      cases p with
      | none => rfl
      | some q =>
        obtain ⟨e, he, hb⟩ := hP q rfl
        simp only [Option.bind_some, he, Option.map_some]
        exact L_refs hk hc he hb hL
    have he := h.eff h1 h4 hr (itemsOf_usable (F := C.FL ops L) f2 huse)
    have hput := he.put (dst := o.dst) (x := C.x i) (v := v) hdst (fun _ _ => h3)
    refine Ok'.subM ?_ ?_ hput
    · exact FL_add hk hi (F := C.FL ops L) (fun _ => Iff.rfl) _
    · intro q it hq
      by_cases hg : it = .gone
      · exact .inl hg
      right
      obtain ⟨k1, k2⟩ := ML_add hq hg (by rw [huu]; simp)
      rw [hkk] at k1
      have hMe : (St.put o.dst (C.x i) ⟨C.FL ops L, newM (C.ML L) K (p.bind fun q => (C.ci[q]?).map fun e => (q, e.it))⟩).M = newM (C.ML L) K (p.bind fun q => (C.ci[q]?).map fun e => (q, e.it)) := by
        cases o.dst <;> rfl
      rw [hMe]
      rcases k2 with ⟨e, he', hb, hit⟩ | ⟨hnb, hML⟩
      · have hqb : q ∈ bornE C i := born_iff.2 ⟨e, he', hb⟩
        rw [hbb] at hqb
        cases p with
        | none => simp at hqb
        | some q' =>
          simp at hqb
          subst hqb
          simp only [Option.bind_some, he', Option.map_some, newM]
          rw [setM_new, hit]
          congr 1
          unfold CI.cur
          cases hup : e.upd with
          | none => rfl
          | some x =>
            obtain ⟨u, it'⟩ := x
            have hui : u ≠ i := fun e2 => by
              have : q ∈ updE C i := upd_iff.2 ⟨e, it', he', by rw [hup, e2]⟩
              rw [huu] at this
              simp at this
            have hLu : L u = false := by
              cases hLu : L u with
              | false => rfl
              | true =>
                have := (hc u hLu).2 i ((hk.refsU e (List.mem_of_getElem? he') u it' hup).2 i hb)
                rw [hL] at this
                cases this
            simp [addL, hui, hLu]
      · cases p with
        | none =>
          show (goneM (C.ML L) K)[q]? = some it
          rw [goneM_keep k1]
          exact hML
        | some q' =>
          obtain ⟨e, he', hb⟩ := hP q' rfl
          simp only [Option.bind_some, he', Option.map_some, newM]
          have hne : q ≠ q' := fun e2 => hnb (by rw [hbb, e2]; simp)
          exact setM_keep hne (by rw [goneM_keep k1]; exact hML)
  | mu S q e it' he heu hf hw hm hkk hbb huu hq h1 h2 hd0 =>
    obtain ⟨f1, f2⟩ := fits_sub hk hc hi hL hon hf
    have hS : Ok' c S a w g hs' := Ok'.subM f1 f2 h
    rw [if_pos (wantE_ok hS hw)]
    have hML : (C.ML L)[q]? = some e.it := (f2 q _ hq).resolve_left (fz_gone h1)
    refine hm a w g hs' hS N Z fun v w' hg' hit => hN _ _ ⟨g, hs', ?_⟩
    have hup := h.upd (i := q) (it := e.it) (it' := it') hML h1 h2 hg' hit
    have hput := hup.put (dst := o.dst) (x := C.x i) (v := v) hdst (fun d e => by rw [hd0] at e; cases e)
    refine Ok'.subM ?_ ?_ hput
    · exact FL_add hk hi (F := C.FL ops L) (fun _ => Iff.rfl) _
    · intro q' it hq'
      by_cases hg : it = .gone
      · exact .inl hg
      right
      have hMe : (St.put o.dst (C.x i) ⟨C.FL ops L, (C.ML L).set q it'⟩).M = (C.ML L).set q it' := by
        cases o.dst <;> rfl
      rw [hMe, List.getElem?_set]
      by_cases e2 : q = q'
      · subst e2
        rw [if_pos rfl, if_pos (List.getElem?_eq_some_iff.1 hML).1]
        obtain ⟨e', he', _, _, h7⟩ := ML_get hq' hg
        rw [he] at he'
        cases he'
        rw [h7]
        unfold CI.cur
        rw [heu]
        simp [addL]
      · rw [if_neg e2]
        obtain ⟨k1, k2⟩ := ML_add hq' hg (by rw [huu]; simp; exact Ne.symm e2)
        rcases k2 with ⟨e3, he3, hb3, _⟩ | ⟨_, h8⟩
        · have := born_iff.2 ⟨e3, he3, hb3⟩
          rw [hbb] at this
          simp at this
        · exact h8
  | skip S hf hw hx hkk hbb huu =>
    obtain ⟨f1, f2⟩ := fits_sub hk hc hi hL hon hf
    have hS : Ok' c S a w g hs' := Ok'.subM f1 f2 h
    rw [if_neg (by rw [wantE_ok hS hw]; exact Bool.false_ne_true)]
    refine hN _ _ ⟨g, hs', ?_⟩
    have hput := h.put (dst := o.dst) (x := C.x i) (v := undef) hdst (fun _ _ => by rw [hx]; exact undef_ok)
    refine Ok'.subM ?_ ?_ hput
    · exact FL_add hk hi (F := C.FL ops L) (fun _ => Iff.rfl) _
    · intro q it hq
      by_cases hg : it = .gone
      · exact .inl hg
      right
      have hMe : (St.put o.dst (C.x i) ⟨C.FL ops L, C.ML L⟩).M = C.ML L := by cases o.dst <;> rfl
      rw [hMe]
      obtain ⟨k1, k2⟩ := ML_add hq hg (by rw [huu]; simp)
      rcases k2 with ⟨e3, he3, hb3, _⟩ | ⟨_, h8⟩
      · have := born_iff.2 ⟨e3, he3, hb3⟩
        rw [hbb] at this
        simp at this
      · exact h8
end
end Go.Proofs.Ytfpdnigihjmohaa
