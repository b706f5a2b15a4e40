/- Lemmas towards the statement: mirrors of functions, and plain laws. No condition. -/
import Derived.Test.YtiejmeedkhkfgaaPackTopBranch6
namespace Go.Proofs.Ytiejmeedkhkfgaa
open Go.RowKit Go.MapKept
set_option linter.unusedSimpArgs false
set_option linter.unusedVariables false
set_option maxRecDepth 100000
def anyInt_vc (l : (List Int)) (dom : (Int → Prop)) (φ : (Int → Bool)) (Q : Bool → Prop) : Prop :=
 l.length ≤ 9223372036854775807 →
 ((∀ x_ ∈ l, dom x_) ∧
 Q (decide ((idxTo φ l) ≥ 0)))
theorem anyInt_walk (l : (List Int)) (dom : (Int → Prop)) (φ : (Int → Bool)) (Q : Bool → Prop) (h : anyInt_vc l dom φ Q) : Ct 101 [.sv (.one (LS intT l)), .sv (.one (.rd (fvR (fun x => [.sv (.one (I x))]) (fun b => .sv (.one (B b))) dom φ)))] [] Q (fun (r : Bool) => .sv (.one (B r))) := by
 have ht := tab_ok
 refine Ct.body Try.func101 rfl rfl rfl rfl (fun c hn => ?_)
 unfold anyInt_vc at h
 refine En.lenL 0 (by rfl) (fun hl => ?_)
 replace h := h hl
 clear hl
 refine En.sr ?_
 refine WL.rn ht hn 1 ⟨[sl 0 (LS intT l), sl 1 (.rd (fvR (fun x => [.sv (.one (I x))]) (fun b => .sv (.one (B b))) dom φ))], []⟩ ?_
 refine En.sr ?_
 refine WL.r ht hn 2 ⟨[sl 5 (LS intT l), sl 6 (.rd (fvR (fun x => [.sv (.one (I x))]) (fun b => .sv (.one (B b))) dom φ))], []⟩ ?_
 obtain ⟨hp, h⟩ := h
 refine WL.m0 hn (mt_c (indexInt_ct l dom φ hp) en69 rfl) ?_
 refine WL.rn ht hn 2 ⟨[sl 4 (B (decide ((idxTo φ l) ≥ 0)))], []⟩ ?_
 exact En.rb ht (decide ((idxTo φ l) ≥ 0)) h
theorem en101 : ∀ args w, (callFunc 101 args).run Try.prog w = .ok (.enter 101 args) w := enters_of Try.func101 (by kernel_rfl) rfl
theorem anyInt_ct (l : List Int) (dom : Int → Prop) (φ : Int → Bool) (hd : ∀ x ∈ l, dom x) : Ct 101 [.sv (.one (LS intT l)), .sv (.one (.rd (fvR (fun x => [.sv (.one (I x))]) (fun b => .sv (.one (B b))) dom φ)))] [] (fun (_ : Unit) => True) (fun _ => .sv (.one (B (l.any φ)))) := by
 refine (anyInt_walk l dom φ (fun r => r = l.any φ) ?_).fun
 unfold anyInt_vc
 exact fun _ => ⟨hd, by rw [← idxTo_nonneg φ l]⟩
def indexI_vc (l : (List Int)) (v : Int) (Q : Int → Prop) : Prop :=
 l.length ≤ 9223372036854775807 →
 (∃ (Inv : Int → Prop) (mu : Int → Nat), Inv 0 ∧
 ∀ (x8 : Int) , Inv x8 → (IfP (decide (x8 < (l.length : Int))) (∃ e, idx l x8 = some e ∧
 IfP (v == e) (Q x8) ((Inv (wr (x8 + 1)) ∧ mu (wr (x8 + 1)) < mu x8))) (Q (-1))))
theorem indexI_walk (l : (List Int)) (v : Int) (Q : Int → Prop) (h : indexI_vc l v Q) : Ct 98 [.sv (.one (LS intT l)), .sv (.one (I v))] [] Q (fun (r : Int) => .sv (.one (I r))) := by
 have ht := tab_ok
 refine Ct.body Try.func98 rfl rfl rfl rfl (fun c hn => ?_)
 unfold indexI_vc at h
 refine En.lenL 0 (by rfl) (fun hl => ?_)
 replace h := h hl
 clear hl
 refine En.sr ?_
 refine WL.rn ht hn 1 ⟨[sl 0 (LS intT l), sl 1 (I v)], []⟩ ?_
 refine En.seq ?_
 refine En.sr ?_
 refine WL.rn ht hn 3 ⟨[sl 0 (LS intT l), sl 1 (I v), sl 7 (I (l.length : Int)), sl 8 (I 0)], []⟩ ?_
 refine En.block ?_
 obtain ⟨Inv, mu, h0, hI⟩ := h
 refine En.loop (σ := Int) (fun zz => Inv zz) (fun zz => mu zz) (fun zz => ⟨[sl 0 (LS intT l), sl 1 (I v), sl 7 (I (l.length : Int)), sl 8 (I zz)], []⟩) 0 h0 (sub_ok (by kernel_rfl)) ?_
 intro x8 h
 replace h := hI _ h
 show En c ⟨[sl 0 (LS intT l), sl 1 (I v), sl 7 (I (l.length : Int)), sl 8 (I x8)], []⟩ _
 refine En.sr ?_
 refine WL.rn ht hn 1 ⟨[sl 0 (LS intT l), sl 1 (I v), sl 7 (I (l.length : Int)), sl 8 (I x8), sl 9 (B (decide (x8 < (l.length : Int))))], []⟩ ?_
 refine En.seq ?_
 refine En.cd (b := (decide (x8 < (l.length : Int)))) (fun hb => ?_) (fun hb => ?_)
 replace h := h.1 hb
 refine En.skip ?_
 refine En.seq ?_
 refine En.block ?_
 refine En.sr ?_
 refine WL.rn ht hn 2 ⟨[sl 0 (LS intT l), sl 1 (I v), sl 5 (I x8), sl 7 (I (l.length : Int)), sl 8 (I x8)], []⟩ ?_
 refine En.sr ?_
 refine WL.r ht hn 3 ⟨[sl 0 (LS intT l), sl 1 (I v), sl 5 (I x8), sl 7 (I (l.length : Int)), sl 8 (I x8), sl 11 (I v), sl 12 (LS intT l), sl 13 (I x8)], []⟩ ?_
 obtain ⟨e, he, h⟩ := h
 refine WL.v hn (val_ix (T := intT) (l := l) (i := x8) ht rfl he) ?_
 refine WL.v hn (val_ld (s := .one (I e)) ht rfl) ?_
 refine WL.rn ht hn 1 ⟨[sl 0 (LS intT l), sl 1 (I v), sl 5 (I x8), sl 7 (I (l.length : Int)), sl 8 (I x8), sl 16 (B (v == e))], []⟩ ?_
 refine En.cd (b := (v == e)) (fun hb => ?_) (fun hb => ?_)
 replace h := h.1 hb
 refine En.sr ?_
 refine WL.rn ht hn 2 ⟨[sl 4 (I x8)], []⟩ ?_
 exact En.rb ht x8 h
 replace h := h.2 hb
 refine En.skip ?_
 refine En.region ?_
 refine WL.rn ht hn 2 ⟨[sl 0 (LS intT l), sl 1 (I v), sl 7 (I (l.length : Int)), sl 8 (I (wr (x8 + 1)))], []⟩ ?_
 exact En.at (I := fun zz => Inv zz ∧ mu zz < mu x8) (T := fun zz => ⟨[sl 0 (LS intT l), sl 1 (I v), sl 7 (I (l.length : Int)), sl 8 (I zz)], []⟩) (wr (x8 + 1)) h (by kernel_rfl)
 replace h := h.2 hb
 refine En.exit rfl ?_
 refine En.sr ?_
 refine WL.rn ht hn 1 ⟨[sl 4 (I (-1))], []⟩ ?_
 exact En.rb ht (-1) h
theorem en98 : ∀ args w, (callFunc 98 args).run Try.prog w = .ok (.enter 98 args) w := enters_of Try.func98 (by kernel_rfl) rfl
theorem indexI_ct (l : (List Int)) (v : Int)  : Ct 98 [.sv (.one (LS intT l)), .sv (.one (I v))] [] (fun (_ : Unit) => True) (fun _ => .sv (.one (I (idxTo (fun x => v == x) l)))) := by
 refine (indexI_walk l v (fun res_ => res_ = (idxTo (fun x => v == x) l)) ?_).fun
 intro hl
 obtain ⟨Inv, mu, h0, hI⟩ := index_plain l (fun _ => True) (fun x => v == x) (fun _ _ => trivial) hl
 exact ⟨Inv, mu, h0, fun x hx => ⟨fun hb => by
  obtain ⟨e, he, _, h⟩ := (hI x hx).1 hb
  exact ⟨e, he, h⟩, (hI x hx).2⟩⟩
def containsI_vc (l : (List Int)) (v : Int) (Q : Bool → Prop) : Prop :=
 l.length ≤ 9223372036854775807 →
 (Q (decide ((idxTo (fun x => v == x) l) ≥ 0)))
theorem containsI_walk (l : (List Int)) (v : Int) (Q : Bool → Prop) (h : containsI_vc l v Q) : Ct 49 [.sv (.one (LS intT l)), .sv (.one (I v))] [] Q (fun (r : Bool) => .sv (.one (B r))) := by
 have ht := tab_ok
 refine Ct.body Try.func49 rfl rfl rfl rfl (fun c hn => ?_)
 unfold containsI_vc at h
 refine En.lenL 0 (by rfl) (fun hl => ?_)
 replace h := h hl
 clear hl
 refine En.sr ?_
 refine WL.rn ht hn 1 ⟨[sl 0 (LS intT l), sl 1 (I v)], []⟩ ?_
 refine En.sr ?_
 refine WL.r ht hn 2 ⟨[sl 5 (LS intT l), sl 6 (I v)], []⟩ ?_
 refine WL.m0 hn (mt_c (indexI_ct l v) en98 rfl) ?_
 refine WL.rn ht hn 2 ⟨[sl 4 (B (decide ((idxTo (fun x => v == x) l) ≥ 0)))], []⟩ ?_
 exact En.rb ht (decide ((idxTo (fun x => v == x) l) ≥ 0)) h
theorem en49 : ∀ args w, (callFunc 49 args).run Try.prog w = .ok (.enter 49 args) w := enters_of Try.func49 (by kernel_rfl) rfl
theorem containsI_ct (l : (List Int)) (v : Int)  : Ct 49 [.sv (.one (LS intT l)), .sv (.one (I v))] [] (fun (_ : Unit) => True) (fun _ => .sv (.one (B (l.any (fun x => v == x))))) := by
 refine (containsI_walk l v (fun res_ => res_ = (l.any (fun x => v == x))) ?_).fun
 exact fun _ => (idxTo_nonneg (fun x => v == x) l)
def bEach_vc (w : BranchWalker) (domrule : (Int → Prop)) (rule : (Int → Bool)) (Q : (List Bool) → Prop) : Prop :=
 makeOk w.fGraph.fPlaces w.fGraph.fPlaces 1 ∧
 ∃ (Inv : Int → (List Bool) → Prop) (mu : Int → (List Bool) → Nat), Inv 0 (List.replicate (w.fGraph.fPlaces).toNat false) ∧
 ∀ (x15 : Int) (l0 : (List Bool)) , Inv x15 l0 → (IfP (decide (x15 < ((List.replicate (w.fGraph.fPlaces).toNat false).length : Int))) ((domrule x15) ∧
 ∃ e, idx l0 x15 = some e ∧
 (Inv (wr (x15 + 1)) (l0.set (x15).toNat (rule x15)) ∧ mu (wr (x15 + 1)) (l0.set (x15).toNat (rule x15)) < mu x15 l0)) (Q l0))
noncomputable abbrev qbEach0 (w : BranchWalker) := (List.replicate (w.fGraph.fPlaces).toNat false)
noncomputable abbrev qbEach1 (w : BranchWalker) := sl 14 (I ((qbEach0 w).length : Int))
theorem bEach_walk (w : BranchWalker) (domrule : (Int → Prop)) (rule : (Int → Bool)) (Q : (List Bool) → Prop) (h : bEach_vc w domrule rule Q) : CtJ 50 [.sv (.one (.pe (svR (.agg [I w.fGraph.fLetters, I w.fGraph.fPlaces, LS ApiArrow.ty w.fGraph.fArrows, LS (lsT intT) w.fNext])) 4)), .sv (.one (.rd (fvR (fun (x : Int) => [.sv (.one (I x))]) (fun (r : Bool) => .sv (.one (B r))) domrule rule)))] [] Q (fun (r : (List Bool)) => rowI 4 boolT r) := by
 have ht := tab_ok
 refine CtJ.body Try.func50 rfl rfl rfl rfl (fun c hn hmay => ?_)
 unfold bEach_vc at h
 refine En.sr ?_
 refine WL.rn ht hn 1 ⟨[sl 0 (.pe (svR (.agg [I w.fGraph.fLetters, I w.fGraph.fPlaces, LS ApiArrow.ty w.fGraph.fArrows, LS (lsT intT) w.fNext])) 4), sl 1 (.rd (fvR (fun (x : Int) => [.sv (.one (I x))]) (fun (r : Bool) => .sv (.one (B r))) domrule rule))], []⟩ ?_
 refine En.sr ?_
 refine WL.r ht hn 2 ⟨[sl 1 (.rd (fvR (fun (x : Int) => [.sv (.one (I x))]) (fun (r : Bool) => .sv (.one (B r))) domrule rule)), sl 8 (.pe (svR (.agg [I w.fGraph.fLetters, I w.fGraph.fPlaces, LS ApiArrow.ty w.fGraph.fArrows, LS (lsT intT) w.fNext])) 4)], []⟩ ?_
 refine WL.v hn (val_fd (l := [I w.fGraph.fLetters, I w.fGraph.fPlaces, LS ApiArrow.ty w.fGraph.fArrows, LS (lsT intT) w.fNext]) (r := .agg (ApiGraph.cl w.fGraph)) ht rfl) ?_
 refine WL.v hn (val_fd (l := (ApiGraph.cl w.fGraph)) (r := .one (I w.fGraph.fPlaces)) ht rfl) ?_
 refine WL.v hn (val_ld (s := .one (I w.fGraph.fPlaces)) ht rfl) ?_
 obtain ⟨hp, h⟩ := h
 refine WL.mt0 (K := []) (p := some (0, rowI 4 boolT (qbEach0 w))) hn (by rfl) (mt_make (T := boolT) false (zv := (.bool false)) 0 (l := w.fGraph.fPlaces) (cp := w.fGraph.fPlaces) ht rfl (by rfl) (by rfl) (by rfl) (by rfl) (by decide) (by rfl) (by rfl) hp.1 hp.2.1 hp.2.2 (hp.le (by decide)) rfl (fun _ => ⟨rfl, trivial⟩)) (by rfl) (by rfl) (by rfl) ?_
 refine WL.rn ht hn 1 ⟨[sl 1 (.rd (fvR (fun (x : Int) => [.sv (.one (I x))]) (fun (r : Bool) => .sv (.one (B r))) domrule rule)), sl 5 (.own 0)], [rowI 4 boolT (qbEach0 w)]⟩ ?_
 refine En.seq ?_
 refine En.sr ?_
 refine WL.rn ht hn 3 ⟨[sl 1 (.rd (fvR (fun (x : Int) => [.sv (.one (I x))]) (fun (r : Bool) => .sv (.one (B r))) domrule rule)), sl 5 (.own 0), (qbEach1 w), sl 15 (I 0)], [rowI 4 boolT (qbEach0 w)]⟩ ?_
 refine En.block ?_
 obtain ⟨Inv, mu, h0, hI⟩ := h
 refine En.loop (σ := Int × (List Bool)) (fun zz => Inv zz.1 zz.2) (fun zz => mu zz.1 zz.2) (fun zz => ⟨[sl 1 (.rd (fvR (fun (x : Int) => [.sv (.one (I x))]) (fun (r : Bool) => .sv (.one (B r))) domrule rule)), sl 5 (.own 0), (qbEach1 w), sl 15 (I zz.1)], [rowI 4 boolT zz.2]⟩) (0, (qbEach0 w)) h0 (sub_ok (by kernel_rfl)) ?_
 rintro ⟨x15, l0⟩ h
 replace h := hI _ _ h
 show En c ⟨[sl 1 (.rd (fvR (fun (x : Int) => [.sv (.one (I x))]) (fun (r : Bool) => .sv (.one (B r))) domrule rule)), sl 5 (.own 0), (qbEach1 w), sl 15 (I x15)], [rowI 4 boolT l0]⟩ _
 refine En.sr ?_
 refine WL.rn ht hn 1 ⟨[sl 1 (.rd (fvR (fun (x : Int) => [.sv (.one (I x))]) (fun (r : Bool) => .sv (.one (B r))) domrule rule)), sl 5 (.own 0), (qbEach1 w), sl 15 (I x15), sl 16 (B (decide (x15 < ((qbEach0 w).length : Int))))], [rowI 4 boolT l0]⟩ ?_
 refine En.seq ?_
 refine En.cd (b := (decide (x15 < ((qbEach0 w).length : Int)))) (fun hb => ?_) (fun hb => ?_)
 replace h := h.1 hb
 refine En.skip ?_
 refine En.seq ?_
 refine En.block ?_
 refine En.sr ?_
 refine WL.rn ht hn 2 ⟨[sl 1 (.rd (fvR (fun (x : Int) => [.sv (.one (I x))]) (fun (r : Bool) => .sv (.one (B r))) domrule rule)), sl 5 (.own 0), sl 6 (I x15), (qbEach1 w), sl 15 (I x15)], [rowI 4 boolT l0]⟩ ?_
 refine En.region ?_
 refine WL.r ht hn 4 ⟨[sl 1 (.rd (fvR (fun (x : Int) => [.sv (.one (I x))]) (fun (r : Bool) => .sv (.one (B r))) domrule rule)), sl 5 (.own 0), (qbEach1 w), sl 15 (I x15), sl 18 (.own 0), sl 19 (I x15), sl 20 (.rd (fvR (fun (x : Int) => [.sv (.one (I x))]) (fun (r : Bool) => .sv (.one (B r))) domrule rule)), sl 21 (I x15)], [rowI 4 boolT l0]⟩ ?_
 obtain ⟨hp, h⟩ := h
 refine WL.m0 hn (mt_callv x15 hp rfl (by rfl) (by rfl) (by rfl) (by rfl)) ?_
 obtain ⟨e, he, h⟩ := h
 refine WL.v hn (val_indexO (T := boolT) (l := l0) (k := x15) ht rfl (by rfl) (by rfl) (by rfl) (by rfl) (by decide) (by rfl) (by rfl) (by rfl) he) ?_
 refine WL.storeO (T := boolT) (l := l0) (y := (rule x15)) ht hn (by rfl) rfl (by rfl) (by rfl) (fun _ h => by cases h) (by rfl) (by rfl) (idx_lt he) (by rfl) (by rfl) (by rfl) (by rfl) ?_
 refine WL.nil ?_
 refine En.region ?_
 refine WL.rn ht hn 2 ⟨[sl 1 (.rd (fvR (fun (x : Int) => [.sv (.one (I x))]) (fun (r : Bool) => .sv (.one (B r))) domrule rule)), sl 5 (.own 0), (qbEach1 w), sl 15 (I (wr (x15 + 1)))], [rowI 4 boolT (l0.set (x15).toNat (rule x15))]⟩ ?_
 exact En.at (I := fun zz => Inv zz.1 zz.2 ∧ mu zz.1 zz.2 < mu x15 l0) (T := fun zz => ⟨[sl 1 (.rd (fvR (fun (x : Int) => [.sv (.one (I x))]) (fun (r : Bool) => .sv (.one (B r))) domrule rule)), sl 5 (.own 0), (qbEach1 w), sl 15 (I zz.1)], [rowI 4 boolT zz.2]⟩) ((wr (x15 + 1)), (l0.set (x15).toNat (rule x15))) h (by kernel_rfl)
 replace h := h.2 hb
 refine En.exit rfl ?_
 refine En.sr ?_
 refine WL.rn ht hn 2 ⟨[sl 4 (.own 0)], [rowI 4 boolT l0]⟩ ?_
 refine En.ret ?_
 exact En.backJ (itf := fun l => rowI 4 boolT l) hmay (by rfl) (by rfl) rfl rfl h
theorem en50 : ∀ args w, (callFunc 50 args).run Try.prog w = .ok (.enter 50 args) w := enters_of Try.func50 (by kernel_rfl) rfl
def bEachP_vc (w : BranchWalker) (domrule : (Int → Prop)) (rule : (Int → Bool)) (Q : (List Bool) → Prop) : Prop :=
 makeOk w.fGraph.fPlaces w.fGraph.fPlaces 1 ∧
 ∃ (Inv : Int → (List Bool) → Prop) (mu : Int → (List Bool) → Nat), Inv 0 (List.replicate (w.fGraph.fPlaces).toNat false) ∧
 ∀ (x15 : Int) (l0 : (List Bool)) , Inv x15 l0 → (IfP (decide (x15 < ((List.replicate (w.fGraph.fPlaces).toNat false).length : Int))) ((domrule x15) ∧
 ∃ e, idx l0 x15 = some e ∧
 (Inv (wr (x15 + 1)) (l0.set (x15).toNat (rule x15)) ∧ mu (wr (x15 + 1)) (l0.set (x15).toNat (rule x15)) < mu x15 l0)) (Q l0))
noncomputable abbrev qbEachP0 (w : BranchWalker) := (List.replicate (w.fGraph.fPlaces).toNat false)
noncomputable abbrev qbEachP1 (w : BranchWalker) := sl 14 (I ((qbEachP0 w).length : Int))
theorem bEachP_walk (w : BranchWalker) (domrule : (Int → Prop)) (rule : (Int → Bool)) (Q : (List Bool) → Prop) (h : bEachP_vc w domrule rule Q) : Ct 50 [.sv (.one (.pe (svR (.agg [I w.fGraph.fLetters, I w.fGraph.fPlaces, LS ApiArrow.ty w.fGraph.fArrows, LS (lsT intT) w.fNext])) 4)), .sv (.one (.rd (fvR (fun (x : Int) => [.sv (.one (I x))]) (fun (r : Bool) => .sv (.one (B r))) domrule rule)))] [] Q (fun (r : (List Bool)) => .sv (.one (LS boolT r))) := by
 have ht := tab_ok
 refine Ct.body Try.func50 rfl rfl rfl rfl (fun c hn => ?_)
 unfold bEachP_vc at h
 refine En.sr ?_
 refine WL.rn ht hn 1 ⟨[sl 0 (.pe (svR (.agg [I w.fGraph.fLetters, I w.fGraph.fPlaces, LS ApiArrow.ty w.fGraph.fArrows, LS (lsT intT) w.fNext])) 4), sl 1 (.rd (fvR (fun (x : Int) => [.sv (.one (I x))]) (fun (r : Bool) => .sv (.one (B r))) domrule rule))], []⟩ ?_
 refine En.sr ?_
 refine WL.r ht hn 2 ⟨[sl 1 (.rd (fvR (fun (x : Int) => [.sv (.one (I x))]) (fun (r : Bool) => .sv (.one (B r))) domrule rule)), sl 8 (.pe (svR (.agg [I w.fGraph.fLetters, I w.fGraph.fPlaces, LS ApiArrow.ty w.fGraph.fArrows, LS (lsT intT) w.fNext])) 4)], []⟩ ?_
 refine WL.v hn (val_fd (l := [I w.fGraph.fLetters, I w.fGraph.fPlaces, LS ApiArrow.ty w.fGraph.fArrows, LS (lsT intT) w.fNext]) (r := .agg (ApiGraph.cl w.fGraph)) ht rfl) ?_
 refine WL.v hn (val_fd (l := (ApiGraph.cl w.fGraph)) (r := .one (I w.fGraph.fPlaces)) ht rfl) ?_
 refine WL.v hn (val_ld (s := .one (I w.fGraph.fPlaces)) ht rfl) ?_
 obtain ⟨hp, h⟩ := h
 refine WL.mt0 (K := []) (p := some (0, rowI 4 boolT (qbEachP0 w))) hn (by rfl) (mt_make (T := boolT) false (zv := (.bool false)) 0 (l := w.fGraph.fPlaces) (cp := w.fGraph.fPlaces) ht rfl (by rfl) (by rfl) (by rfl) (by rfl) (by decide) (by rfl) (by rfl) hp.1 hp.2.1 hp.2.2 (hp.le (by decide)) rfl (fun _ => ⟨rfl, trivial⟩)) (by rfl) (by rfl) (by rfl) ?_
 refine WL.rn ht hn 1 ⟨[sl 1 (.rd (fvR (fun (x : Int) => [.sv (.one (I x))]) (fun (r : Bool) => .sv (.one (B r))) domrule rule)), sl 5 (.own 0)], [rowI 4 boolT (qbEachP0 w)]⟩ ?_
 refine En.seq ?_
 refine En.sr ?_
 refine WL.rn ht hn 3 ⟨[sl 1 (.rd (fvR (fun (x : Int) => [.sv (.one (I x))]) (fun (r : Bool) => .sv (.one (B r))) domrule rule)), sl 5 (.own 0), (qbEachP1 w), sl 15 (I 0)], [rowI 4 boolT (qbEachP0 w)]⟩ ?_
 refine En.block ?_
 obtain ⟨Inv, mu, h0, hI⟩ := h
 refine En.loop (σ := Int × (List Bool)) (fun zz => Inv zz.1 zz.2) (fun zz => mu zz.1 zz.2) (fun zz => ⟨[sl 1 (.rd (fvR (fun (x : Int) => [.sv (.one (I x))]) (fun (r : Bool) => .sv (.one (B r))) domrule rule)), sl 5 (.own 0), (qbEachP1 w), sl 15 (I zz.1)], [rowI 4 boolT zz.2]⟩) (0, (qbEachP0 w)) h0 (sub_ok (by kernel_rfl)) ?_
 rintro ⟨x15, l0⟩ h
 replace h := hI _ _ h
 show En c ⟨[sl 1 (.rd (fvR (fun (x : Int) => [.sv (.one (I x))]) (fun (r : Bool) => .sv (.one (B r))) domrule rule)), sl 5 (.own 0), (qbEachP1 w), sl 15 (I x15)], [rowI 4 boolT l0]⟩ _
 refine En.sr ?_
 refine WL.rn ht hn 1 ⟨[sl 1 (.rd (fvR (fun (x : Int) => [.sv (.one (I x))]) (fun (r : Bool) => .sv (.one (B r))) domrule rule)), sl 5 (.own 0), (qbEachP1 w), sl 15 (I x15), sl 16 (B (decide (x15 < ((qbEachP0 w).length : Int))))], [rowI 4 boolT l0]⟩ ?_
 refine En.seq ?_
 refine En.cd (b := (decide (x15 < ((qbEachP0 w).length : Int)))) (fun hb => ?_) (fun hb => ?_)
 replace h := h.1 hb
 refine En.skip ?_
 refine En.seq ?_
 refine En.block ?_
 refine En.sr ?_
 refine WL.rn ht hn 2 ⟨[sl 1 (.rd (fvR (fun (x : Int) => [.sv (.one (I x))]) (fun (r : Bool) => .sv (.one (B r))) domrule rule)), sl 5 (.own 0), sl 6 (I x15), (qbEachP1 w), sl 15 (I x15)], [rowI 4 boolT l0]⟩ ?_
 refine En.region ?_
 refine WL.r ht hn 4 ⟨[sl 1 (.rd (fvR (fun (x : Int) => [.sv (.one (I x))]) (fun (r : Bool) => .sv (.one (B r))) domrule rule)), sl 5 (.own 0), (qbEachP1 w), sl 15 (I x15), sl 18 (.own 0), sl 19 (I x15), sl 20 (.rd (fvR (fun (x : Int) => [.sv (.one (I x))]) (fun (r : Bool) => .sv (.one (B r))) domrule rule)), sl 21 (I x15)], [rowI 4 boolT l0]⟩ ?_
 obtain ⟨hp, h⟩ := h
 refine WL.m0 hn (mt_callv x15 hp rfl (by rfl) (by rfl) (by rfl) (by rfl)) ?_
 obtain ⟨e, he, h⟩ := h
 refine WL.v hn (val_indexO (T := boolT) (l := l0) (k := x15) ht rfl (by rfl) (by rfl) (by rfl) (by rfl) (by decide) (by rfl) (by rfl) (by rfl) he) ?_
 refine WL.storeO (T := boolT) (l := l0) (y := (rule x15)) ht hn (by rfl) rfl (by rfl) (by rfl) (fun _ h => by cases h) (by rfl) (by rfl) (idx_lt he) (by rfl) (by rfl) (by rfl) (by rfl) ?_
 refine WL.nil ?_
 refine En.region ?_
 refine WL.rn ht hn 2 ⟨[sl 1 (.rd (fvR (fun (x : Int) => [.sv (.one (I x))]) (fun (r : Bool) => .sv (.one (B r))) domrule rule)), sl 5 (.own 0), (qbEachP1 w), sl 15 (I (wr (x15 + 1)))], [rowI 4 boolT (l0.set (x15).toNat (rule x15))]⟩ ?_
 exact En.at (I := fun zz => Inv zz.1 zz.2 ∧ mu zz.1 zz.2 < mu x15 l0) (T := fun zz => ⟨[sl 1 (.rd (fvR (fun (x : Int) => [.sv (.one (I x))]) (fun (r : Bool) => .sv (.one (B r))) domrule rule)), sl 5 (.own 0), (qbEachP1 w), sl 15 (I zz.1)], [rowI 4 boolT zz.2]⟩) ((wr (x15 + 1)), (l0.set (x15).toNat (rule x15))) h (by kernel_rfl)
 replace h := h.2 hb
 refine En.exit rfl ?_
 refine En.sr ?_
 refine WL.rn ht hn 2 ⟨[sl 4 (.own 0)], [rowI 4 boolT l0]⟩ ?_
 refine En.ret ?_
 refine En.seal (T := boolT) (l := l0) (e := 4) 0 rfl ?_
 exact En.back ht l0 h (by kernel_rfl) rfl
def eachL (n : Int) (rule : Int → Bool) : List Bool := (List.range n.toNat).map fun (p : Nat) => rule (p : Int)
def notL (a : List Bool) : List Bool := a.map fun b => !b
def nextOf (w : BranchWalker) (p : Int) : List Int := w.fNext.getD p.toNat []
def onB (a : List Bool) (p : Int) : Bool := a.getD p.toNat false
def inB (a : List Bool) (p : Int) : Prop := 0 ≤ p ∧ p < a.length
def leadB (w : BranchWalker) (p : Int) (a : List Bool) : Bool := (nextOf w p).any fun q => onB a q
structure WOk (w : BranchWalker) : Prop where
 len : w.fNext.length = w.fGraph.fPlaces.toNat
 pos : 0 ≤ w.fGraph.fPlaces ∧ w.fGraph.fPlaces ≤ 1000
 into : ∀ p, ∀ q ∈ nextOf w p, 0 ≤ q ∧ q < w.fGraph.fPlaces
def untN (w : BranchWalker) (a o : List Bool) : List Bool := eachL w.fGraph.fPlaces fun p => onB o p || (onB a p && leadB w p o)
def evrN (w : BranchWalker) (o : List Bool) : List Bool := eachL w.fGraph.fPlaces fun p => onB o p && leadB w p o
def untL (w : BranchWalker) (a : List Bool) : Nat → List Bool → List Bool
 | 0, o => o
 | m + 1, o => if untN w a o = o then o else untL w a m (untN w a o)
def evrL (w : BranchWalker) : Nat → List Bool → List Bool
 | 0, o => o
 | m + 1, o => if evrN w o = o then o else evrL w m (evrN w o)
def untR (w : BranchWalker) (a b : List Bool) : List Bool := untL w a (w.fGraph.fPlaces.toNat + 1) b
def evrR (w : BranchWalker) (a : List Bool) : List Bool := evrL w (w.fGraph.fPlaces.toNat + 1) a
def letB (w : BranchWalker) (c p : Int) : Bool := w.fGraph.fArrows.any fun x => x.fFrom == p && x.fLetter == c
def allU (w : BranchWalker) (A B : List Bool) : List Bool := eachL w.fGraph.fPlaces fun p => !onB (evrR w (notL B)) p && !onB (untR w (notL B) (eachL w.fGraph.fPlaces fun p => !onB A p && !onB B p)) p
def wayW (w : BranchWalker) (sign : Int) (all : Bool) (A : List Bool) : List Bool := if sign = 88 then eachL w.fGraph.fPlaces fun p => leadB w p A else if ((sign == 70) != all) = true then untR w (eachL w.fGraph.fPlaces fun _ => true) A else evrR w A
def bSem (w : BranchWalker) : Nat → BTr → List Bool
 | 0, _ => []
 | k + 1, .node a kids =>
  if a.fSign = 48 ∨ a.fSign = 49 then eachL w.fGraph.fPlaces fun _ => a.fSign == 49
  else if a.fSign = 97 then eachL w.fGraph.fPlaces fun p => letB w a.fLetter p
  else match kids with
  | [] => []
  | x :: r => if a.fSign = 33 then notL (bSem w k x)
   else if a.fSign = 38 ∨ a.fSign = 124 ∨ a.fSign = 85 then match r with
    | [] => []
    | y :: _ => if a.fSign = 38 then eachL w.fGraph.fPlaces fun p => onB (bSem w k x) p && onB (bSem w k y) p
     else if a.fSign = 124 then eachL w.fGraph.fPlaces fun p => onB (bSem w k x) p || onB (bSem w k y) p
     else if a.fAll = true then allU w (bSem w k x) (bSem w k y) else untR w (bSem w k x) (bSem w k y)
   else if a.fAll = true then notL (wayW w a.fSign true (notL (bSem w k x))) else wayW w a.fSign false (bSem w k x)
theorem eachL_len (n : Int) (rule : Int → Bool) : (eachL n rule).length = n.toNat := by unfold eachL; rw [List.length_map, List.length_range]
theorem notL_len (a : List Bool) : (notL a).length = a.length := by unfold notL; rw [List.length_map]
theorem up1 {k : Nat} (h : k < 1000000) : wr ((k : Int) + 1) = ((k + 1 : Nat) : Int) := by rw [wr_in (by omega) (by omega)]; rfl
theorem bEach_ct (w : BranchWalker) (domrule : (Int → Prop)) (rule : (Int → Bool)) (hp : (∀ p_, 0 ≤ p_ → p_ < w.fGraph.fPlaces → domrule p_) ∧ 0 ≤ w.fGraph.fPlaces ∧ w.fGraph.fPlaces ≤ 1000)  : CtI 50 [.sv (.one (.pe (svR (.agg [I w.fGraph.fLetters, I w.fGraph.fPlaces, LS ApiArrow.ty w.fGraph.fArrows, LS (lsT intT) w.fNext])) 4)), .sv (.one (.rd (fvR (fun (x : Int) => [.sv (.one (I x))]) (fun (r : Bool) => .sv (.one (B r))) domrule rule)))] [] (rowI 4 boolT (eachL w.fGraph.fPlaces rule)) := by
 refine (bEach_walk w domrule rule (fun res_ => res_ = (eachL w.fGraph.fPlaces rule)) ?_).fun
 unfold bEach_vc
 obtain ⟨hd2, h0, h1⟩ := hp
 refine ⟨⟨by omega, Int.le_refl _, by omega⟩, fun x l => ∃ k : Nat, x = k ∧ k ≤ w.fGraph.fPlaces.toNat ∧ l.length = w.fGraph.fPlaces.toNat ∧ ∀ i : Nat, i < k → l[i]? = some (rule i), fun x _ => w.fGraph.fPlaces.toNat - x.toNat, ⟨0, rfl, Nat.zero_le _, List.length_replicate, fun i hi => by omega⟩, ?_⟩
 rintro _ l ⟨k, rfl, hk, hl, hr⟩
 rw [List.length_replicate]
 refine ⟨fun hb => ?_, fun hb => ?_⟩
 ·have hlt : k < w.fGraph.fPlaces.toNat := by have := of_decide_eq_true hb; omega
  rw [up1 (by omega)]
  refine ⟨hd2 _ (by omega) (by omega), _, idx_at (by omega), ⟨k + 1, rfl, hlt, by rw [List.length_set]; exact hl, fun i hi => ?_⟩, by show w.fGraph.fPlaces.toNat - (k + 1) < w.fGraph.fPlaces.toNat - k; omega⟩
  rw [Int.toNat_natCast, List.getElem?_set]
  by_cases e : k = i
  ·subst e
   rw [if_pos rfl, if_pos (by omega)]
  ·rw [if_neg e]
   exact hr i (by omega)
 ·have hke : k = w.fGraph.fPlaces.toNat := by have := of_decide_eq_false hb; omega
  show l = eachL w.fGraph.fPlaces rule
  refine List.ext_getElem? fun i => ?_
  by_cases hi : i < k
  ·rw [hr i hi]
   unfold eachL
   rw [List.getElem?_map, List.getElem?_range (by omega)]
   rfl
  ·rw [List.getElem?_eq_none (by omega), List.getElem?_eq_none (by rw [eachL_len]; omega)]
theorem bEachP_ct (w : BranchWalker) (domrule : (Int → Prop)) (rule : (Int → Bool)) (hp : (∀ p_, 0 ≤ p_ → p_ < w.fGraph.fPlaces → domrule p_) ∧ 0 ≤ w.fGraph.fPlaces ∧ w.fGraph.fPlaces ≤ 1000)  : Ct 50 [.sv (.one (.pe (svR (.agg [I w.fGraph.fLetters, I w.fGraph.fPlaces, LS ApiArrow.ty w.fGraph.fArrows, LS (lsT intT) w.fNext])) 4)), .sv (.one (.rd (fvR (fun (x : Int) => [.sv (.one (I x))]) (fun (r : Bool) => .sv (.one (B r))) domrule rule)))] [] (fun (_ : Unit) => True) (fun _ => .sv (.one (LS boolT (eachL w.fGraph.fPlaces rule)))) := by
 refine (bEachP_walk w domrule rule (fun res_ => res_ = (eachL w.fGraph.fPlaces rule)) ?_).fun
 unfold bEachP_vc
 obtain ⟨hd2, h0, h1⟩ := hp
 refine ⟨⟨by omega, Int.le_refl _, by omega⟩, fun x l => ∃ k : Nat, x = k ∧ k ≤ w.fGraph.fPlaces.toNat ∧ l.length = w.fGraph.fPlaces.toNat ∧ ∀ i : Nat, i < k → l[i]? = some (rule i), fun x _ => w.fGraph.fPlaces.toNat - x.toNat, ⟨0, rfl, Nat.zero_le _, List.length_replicate, fun i hi => by omega⟩, ?_⟩
 rintro _ l ⟨k, rfl, hk, hl, hr⟩
 rw [List.length_replicate]
 refine ⟨fun hb => ?_, fun hb => ?_⟩
 ·have hlt : k < w.fGraph.fPlaces.toNat := by have := of_decide_eq_true hb; omega
  rw [up1 (by omega)]
  refine ⟨hd2 _ (by omega) (by omega), _, idx_at (by omega), ⟨k + 1, rfl, hlt, by rw [List.length_set]; exact hl, fun i hi => ?_⟩, by show w.fGraph.fPlaces.toNat - (k + 1) < w.fGraph.fPlaces.toNat - k; omega⟩
  rw [Int.toNat_natCast, List.getElem?_set]
  by_cases e : k = i
  ·subst e
   rw [if_pos rfl, if_pos (by omega)]
  ·rw [if_neg e]
   exact hr i (by omega)
 ·have hke : k = w.fGraph.fPlaces.toNat := by have := of_decide_eq_false hb; omega
  show l = eachL w.fGraph.fPlaces rule
  refine List.ext_getElem? fun i => ?_
  by_cases hi : i < k
  ·rw [hr i hi]
   unfold eachL
   rw [List.getElem?_map, List.getElem?_range (by omega)]
   rfl
  ·rw [List.getElem?_eq_none (by omega), List.getElem?_eq_none (by rw [eachL_len]; omega)]
def bNot_vc (a : (List Bool)) (Q : (List Bool) → Prop) : Prop :=
 a.length ≤ 9223372036854775807 →
 ((a.length * 1 ≤ 140737488355328) ∧
 ∃ (Inv : Int → (List Bool) → Prop) (mu : Int → (List Bool) → Nat), Inv 0 (a) ∧
 ∀ (x10 : Int) (l0 : (List Bool)) , Inv x10 l0 → (IfP (decide (x10 < (a.length : Int))) (∃ e, idx a x10 = some e ∧
 ∃ e_2, idx l0 x10 = some e_2 ∧
 (Inv (wr (x10 + 1)) (l0.set (x10).toNat (!e)) ∧ mu (wr (x10 + 1)) (l0.set (x10).toNat (!e)) < mu x10 l0)) (Q l0)))
theorem bNot_walk (a : (List Bool)) (Q : (List Bool) → Prop) (h : bNot_vc a Q) : Ct 54 [.sv (.one (LS boolT a))] [] Q (fun (r : (List Bool)) => .sv (.one (LS boolT r))) := by
 have ht := tab_ok
 refine Ct.body Try.func54 rfl rfl rfl rfl (fun c hn => ?_)
 unfold bNot_vc at h
 refine En.lenL 0 (by rfl) (fun hl => ?_)
 replace h := h hl
 clear hl
 refine En.sr ?_
 refine WL.rn ht hn 1 ⟨[sl 0 (LS boolT a)], []⟩ ?_
 refine En.sr ?_
 refine WL.r ht hn 1 ⟨[sl 0 (LS boolT a), sl 6 (LS boolT a)], []⟩ ?_
 obtain ⟨hp, h⟩ := h
 refine WL.mt0 (K := []) (p := some (0, rowI 4 boolT a)) hn (by rfl) (mt_callI 0 (cloneBool_ct a hp) en33 (caps := []) [] rfl rfl (by rfl) (by kernel_rfl) (by kernel_rfl) (by rfl) (by rfl)) (by rfl) (by rfl) (by rfl) ?_
 refine WL.rn ht hn 1 ⟨[sl 0 (LS boolT a), sl 3 (.own 0)], [rowI 4 boolT a]⟩ ?_
 refine En.seq ?_
 refine En.sr ?_
 refine WL.rn ht hn 3 ⟨[sl 3 (.own 0), sl 8 (LS boolT a), sl 9 (I (a.length : Int)), sl 10 (I 0)], [rowI 4 boolT a]⟩ ?_
 refine En.block ?_
 obtain ⟨Inv, mu, h0, hI⟩ := h
 refine En.loop (σ := Int × (List Bool)) (fun zz => Inv zz.1 zz.2) (fun zz => mu zz.1 zz.2) (fun zz => ⟨[sl 3 (.own 0), sl 8 (LS boolT a), sl 9 (I (a.length : Int)), sl 10 (I zz.1)], [rowI 4 boolT zz.2]⟩) (0, a) h0 (sub_ok (by kernel_rfl)) ?_
 rintro ⟨x10, l0⟩ h
 replace h := hI _ _ h
 show En c ⟨[sl 3 (.own 0), sl 8 (LS boolT a), sl 9 (I (a.length : Int)), sl 10 (I x10)], [rowI 4 boolT l0]⟩ _
 refine En.sr ?_
 refine WL.rn ht hn 1 ⟨[sl 3 (.own 0), sl 8 (LS boolT a), sl 9 (I (a.length : Int)), sl 10 (I x10), sl 11 (B (decide (x10 < (a.length : Int))))], [rowI 4 boolT l0]⟩ ?_
 refine En.seq ?_
 refine En.cd (b := (decide (x10 < (a.length : Int)))) (fun hb => ?_) (fun hb => ?_)
 replace h := h.1 hb
 refine En.skip ?_
 refine En.seq ?_
 refine En.block ?_
 refine En.sr ?_
 refine WL.r ht hn 1 ⟨[sl 3 (.own 0), sl 8 (LS boolT a), sl 9 (I (a.length : Int)), sl 10 (I x10), sl 12 (I x10)], [rowI 4 boolT l0]⟩ ?_
 obtain ⟨e, he, h⟩ := h
 refine WL.v hn (val_ix (T := boolT) (l := a) (i := x10) ht rfl he) ?_
 refine WL.v hn (val_ld (s := .one (B e)) ht rfl) ?_
 refine WL.rn ht hn 2 ⟨[sl 3 (.own 0), sl 4 (I x10), sl 5 (B e), sl 8 (LS boolT a), sl 9 (I (a.length : Int)), sl 10 (I x10)], [rowI 4 boolT l0]⟩ ?_
 refine En.region ?_
 refine WL.r ht hn 4 ⟨[sl 3 (.own 0), sl 8 (LS boolT a), sl 9 (I (a.length : Int)), sl 10 (I x10), sl 15 (.own 0), sl 16 (I x10), sl 18 (B (!e))], [rowI 4 boolT l0]⟩ ?_
 obtain ⟨e_2, he_2, h⟩ := h
 refine WL.v hn (val_indexO (T := boolT) (l := l0) (k := x10) ht rfl (by rfl) (by rfl) (by rfl) (by rfl) (by decide) (by rfl) (by rfl) (by rfl) he_2) ?_
 refine WL.storeO (T := boolT) (l := l0) (y := (!e)) ht hn (by rfl) rfl (by rfl) (by rfl) (fun _ h => by cases h) (by rfl) (by rfl) (idx_lt he_2) (by rfl) (by rfl) (by rfl) (by rfl) ?_
 refine WL.nil ?_
 refine En.region ?_
 refine WL.rn ht hn 2 ⟨[sl 3 (.own 0), sl 8 (LS boolT a), sl 9 (I (a.length : Int)), sl 10 (I (wr (x10 + 1)))], [rowI 4 boolT (l0.set (x10).toNat (!e))]⟩ ?_
 exact En.at (I := fun zz => Inv zz.1 zz.2 ∧ mu zz.1 zz.2 < mu x10 l0) (T := fun zz => ⟨[sl 3 (.own 0), sl 8 (LS boolT a), sl 9 (I (a.length : Int)), sl 10 (I zz.1)], [rowI 4 boolT zz.2]⟩) ((wr (x10 + 1)), (l0.set (x10).toNat (!e))) h (by kernel_rfl)
 replace h := h.2 hb
 refine En.exit rfl ?_
 refine En.sr ?_
 refine WL.rn ht hn 2 ⟨[sl 2 (.own 0)], [rowI 4 boolT l0]⟩ ?_
 refine En.ret ?_
 refine En.seal (T := boolT) (l := l0) (e := 4) 0 rfl ?_
 exact En.back ht l0 h (by kernel_rfl) rfl
theorem en54 : ∀ args w, (callFunc 54 args).run Try.prog w = .ok (.enter 54 args) w := enters_of Try.func54 (by kernel_rfl) rfl
theorem bNot_ct (a : (List Bool)) (hp : a.length ≤ 1000)  : Ct 54 [.sv (.one (LS boolT a))] [] (fun (_ : Unit) => True) (fun _ => .sv (.one (LS boolT (notL a)))) := by
 refine (bNot_walk a (fun res_ => res_ = (notL a)) ?_).fun
 unfold bNot_vc
 intro _
 refine ⟨by omega, fun x l => ∃ k : Nat, x = k ∧ k ≤ a.length ∧ l.length = a.length ∧ ∀ i : Nat, l[i]? = if i < k then a[i]?.map (fun b => !b) else a[i]?, fun x _ => a.length - x.toNat, ⟨0, rfl, Nat.zero_le _, rfl, fun i => by rw [if_neg (by omega)]⟩, ?_⟩
 rintro _ l ⟨k, rfl, hk, hl, hr⟩
 refine ⟨fun hb => ?_, fun hb => ?_⟩
 ·have hlt : k < a.length := by have := of_decide_eq_true hb; omega
  rw [up1 (by omega)]
  refine ⟨_, idx_at hlt, _, idx_at (by omega), ⟨k + 1, rfl, hlt, by rw [List.length_set]; exact hl, fun i => ?_⟩, by show a.length - (k + 1) < a.length - k; omega⟩
  rw [Int.toNat_natCast, List.getElem?_set]
  by_cases e : k = i
  ·subst e
   rw [if_pos rfl, if_pos (by omega), if_pos (by omega), List.getElem?_eq_getElem hlt]
   rfl
  ·rw [if_neg e, hr i]
   by_cases hi : i < k
   ·rw [if_pos hi, if_pos (by omega)]
   ·rw [if_neg hi, if_neg (by omega)]
 ·have hke : k = a.length := by have := of_decide_eq_false hb; omega
  show l = notL a
  refine List.ext_getElem? fun i => ?_
  unfold notL
  rw [hr i, List.getElem?_map]
  by_cases hi : i < k
  ·rw [if_pos hi]
  ·rw [if_neg hi, List.getElem?_eq_none (by omega)]
   rfl
def bLd1_vc (q : Int) (a : (List Bool)) (Q : Bool → Prop) : Prop :=
 ∃ e, idx a q = some e ∧
 Q e
theorem bLd1_walk (q : Int) (a : (List Bool)) (Q : Bool → Prop) (h : bLd1_vc q a Q) : Ct 102 [.sv (.one (I q)), .sv (.one (.ptr 0 0))] [.box [LS boolT a] 27 true] Q (fun (r : Bool) => .sv (.one (B r))) := by
 have ht := tab_ok
 refine Ct.body Try.func102 rfl rfl rfl rfl (fun c hn => ?_)
 unfold bLd1_vc at h
 refine En.sr ?_
 refine WL.rn ht hn 1 ⟨[sl 0 (I q), sl 1 (.ptr 0 0)], [.box [LS boolT a] 27 true]⟩ ?_
 refine En.sr ?_
 refine WL.r ht hn 2 ⟨[sl 4 (LS boolT a), sl 5 (I q)], [.gone]⟩ ?_
 obtain ⟨e, he, h⟩ := h
 refine WL.v hn (val_ix (T := boolT) (l := a) (i := q) ht rfl he) ?_
 refine WL.v hn (val_ld (s := .one (B e)) ht rfl) ?_
 refine WL.rn ht hn 1 ⟨[sl 3 (B e)], [.gone]⟩ ?_
 exact En.rb ht e h
theorem en102 : ∀ args w, (callFunc 102 args).run Try.prog w = .ok (.enter 102 args) w := enters_of Try.func102 (by kernel_rfl) rfl
theorem bLd1_ct (q : Int) (a : (List Bool)) (hp : inB a q)  : Ct 102 [.sv (.one (I q)), .sv (.one (.ptr 0 0))] [.box [LS boolT a] 27 true] (fun (_ : Unit) => True) (fun _ => .sv (.one (B (onB a q)))) := by
 refine (bLd1_walk q a (fun res_ => res_ = (onB a q)) ?_).fun
 unfold bLd1_vc
 exact ⟨_, idx_of false hp.1 hp.2, rfl⟩
def bLeads_vc (w : BranchWalker) (p : Int) (a : (List Bool)) (Q : Bool → Prop) : Prop :=
 a.length ≤ 9223372036854775807 →
 (∃ e, idx w.fNext p = some e ∧
 (∀ x_ ∈ e, (fun x => inB a x) x_) ∧
 Q (e.any (fun x => onB a x)))
theorem bLeads_walk (w : BranchWalker) (p : Int) (a : (List Bool)) (Q : Bool → Prop) (h : bLeads_vc w p a Q) : Ct 62 [.sv (.one (.pe (svR (.agg [I w.fGraph.fLetters, I w.fGraph.fPlaces, LS ApiArrow.ty w.fGraph.fArrows, LS (lsT intT) w.fNext])) 4)), .sv (.one (I p)), .sv (.one (LS boolT a))] [] Q (fun (r : Bool) => .sv (.one (B r))) := by
 have ht := tab_ok
 refine Ct.body Try.func62 rfl rfl rfl rfl (fun c hn => ?_)
 unfold bLeads_vc at h
 refine En.lenL 2 (by rfl) (fun hl => ?_)
 replace h := h hl
 clear hl
 refine En.sr ?_
 refine WL.rn ht hn 2 ⟨[sl 0 (.pe (svR (.agg [I w.fGraph.fLetters, I w.fGraph.fPlaces, LS ApiArrow.ty w.fGraph.fArrows, LS (lsT intT) w.fNext])) 4), sl 1 (I p), sl 5 (.ptr 0 0)], [.box [LS boolT a] 27 false]⟩ ?_
 refine En.sr ?_
 refine WL.r ht hn 2 ⟨[sl 1 (I p), sl 5 (.ptr 0 0), sl 8 (.pe (svR (.agg [I w.fGraph.fLetters, I w.fGraph.fPlaces, LS ApiArrow.ty w.fGraph.fArrows, LS (lsT intT) w.fNext])) 4)], [.box [LS boolT a] 27 false]⟩ ?_
 refine WL.v hn (val_fd (l := [I w.fGraph.fLetters, I w.fGraph.fPlaces, LS ApiArrow.ty w.fGraph.fArrows, LS (lsT intT) w.fNext]) (r := .one (LS (lsT intT) w.fNext)) ht rfl) ?_
 refine WL.v hn (val_ld (s := .one (LS (lsT intT) w.fNext)) ht rfl) ?_
 refine WL.r ht hn 1 ⟨[sl 5 (.ptr 0 0), sl 10 (LS (lsT intT) w.fNext), sl 11 (I p)], [.box [LS boolT a] 27 false]⟩ ?_
 obtain ⟨e, he, h⟩ := h
 refine WL.v hn (val_ix (T := (lsT intT)) (l := w.fNext) (i := p) ht rfl he) ?_
 refine WL.v hn (val_ld (s := .one (LS intT e)) ht rfl) ?_
 refine WL.r ht hn 1 ⟨[sl 13 (LS intT e), sl 14 (.fn 102 [0])], [.box [LS boolT a] 27 false]⟩ ?_
 obtain ⟨hp, h⟩ := h
 refine WL.m0 hn (mt_lendF [0] (by rfl) (by rfl) (mt_ghost 14 (o1 (.rd (fvR (fun (x_ : Int) => [.sv (.one (I x_))]) (fun (r : Bool) => .sv (.one (B r))) (fun x => inB a x) (fun x => onB a x)))) (by rfl) (fv_of (M := [.box [LS boolT a] 27 true]) (caps := [0]) (fun x_ hx => bLd1_ct x_ a hx) en102 rfl (by kernel_rfl) (by rfl) (fun _ => rfl)) (mt_c (anyInt_ct e (fun x => inB a x) (fun x => onB a x) hp) en101 rfl))) ?_
 refine WL.rn ht hn 1 ⟨[sl 6 (B (e.any (fun x => onB a x)))], [.gone]⟩ ?_
 exact En.rb ht (e.any (fun x => onB a x)) h
theorem en62 : ∀ args w, (callFunc 62 args).run Try.prog w = .ok (.enter 62 args) w := enters_of Try.func62 (by kernel_rfl) rfl
theorem bLeads_ct (w : BranchWalker) (p : Int) (a : (List Bool)) (hp : WOk w ∧ 0 ≤ p ∧ p < w.fGraph.fPlaces ∧ a.length = w.fGraph.fPlaces.toNat)  : Ct 62 [.sv (.one (.pe (svR (.agg [I w.fGraph.fLetters, I w.fGraph.fPlaces, LS ApiArrow.ty w.fGraph.fArrows, LS (lsT intT) w.fNext])) 4)), .sv (.one (I p)), .sv (.one (LS boolT a))] [] (fun (_ : Unit) => True) (fun _ => .sv (.one (B (leadB w p a)))) := by
 refine (bLeads_walk w p a (fun res_ => res_ = (leadB w p a)) ?_).fun
 unfold bLeads_vc
 obtain ⟨hw, h0, h1, ha⟩ := hp
 have hp := hw.pos
 have hl := hw.len
 exact fun _ => ⟨_, idx_of [] h0 (by omega), fun q hq => by have := hw.into p q hq; exact ⟨this.1, by omega⟩, rfl⟩
def bOn1_vc (p : Int) (Q : Bool → Prop) : Prop :=
 Q true
theorem bOn1_walk (p : Int) (Q : Bool → Prop) (h : bOn1_vc p Q) : Ct 103 [.sv (.one (I p))] [] Q (fun (r : Bool) => .sv (.one (B r))) := by
 have ht := tab_ok
 refine Ct.body Try.func103 rfl rfl rfl rfl (fun c hn => ?_)
 unfold bOn1_vc at h
 refine En.sr ?_
 refine WL.rn ht hn 1 ⟨[], []⟩ ?_
 refine En.sr ?_
 refine WL.rn ht hn 1 ⟨[sl 2 (B true)], []⟩ ?_
 exact En.rb ht true h
theorem en103 : ∀ args w, (callFunc 103 args).run Try.prog w = .ok (.enter 103 args) w := enters_of Try.func103 (by kernel_rfl) rfl
theorem bOn1_ct (p : Int)  : Ct 103 [.sv (.one (I p))] [] (fun (_ : Unit) => True) (fun _ => .sv (.one (B (true)))) := by
 refine (bOn1_walk p (fun res_ => res_ = (true)) ?_).fun
 exact rfl
def bOne_vc (w : BranchWalker) (Q : (List Bool) → Prop) : Prop :=
 ((∀ p_, 0 ≤ p_ → p_ < w.fGraph.fPlaces → (fun _ => True) p_) ∧ 0 ≤ w.fGraph.fPlaces ∧ w.fGraph.fPlaces ≤ 1000) ∧
 Q (eachL w.fGraph.fPlaces (fun _ => true))
theorem bOne_walk (w : BranchWalker) (Q : (List Bool) → Prop) (h : bOne_vc w Q) : Ct 63 [.sv (.one (.pe (svR (.agg [I w.fGraph.fLetters, I w.fGraph.fPlaces, LS ApiArrow.ty w.fGraph.fArrows, LS (lsT intT) w.fNext])) 4))] [] Q (fun (r : (List Bool)) => .sv (.one (LS boolT r))) := by
 have ht := tab_ok
 refine Ct.body Try.func63 rfl rfl rfl rfl (fun c hn => ?_)
 unfold bOne_vc at h
 refine En.sr ?_
 refine WL.rn ht hn 1 ⟨[sl 0 (.pe (svR (.agg [I w.fGraph.fLetters, I w.fGraph.fPlaces, LS ApiArrow.ty w.fGraph.fArrows, LS (lsT intT) w.fNext])) 4)], []⟩ ?_
 refine En.sr ?_
 refine WL.r ht hn 1 ⟨[sl 3 (.pe (svR (.agg [I w.fGraph.fLetters, I w.fGraph.fPlaces, LS ApiArrow.ty w.fGraph.fArrows, LS (lsT intT) w.fNext])) 4)], []⟩ ?_
 obtain ⟨hp, h⟩ := h
 refine WL.m0 hn (mt_c (Ct.args (bEachP_ct w (fun _ => True) (fun _ => true) hp) (argLe_same (argLe_to (fv_const (ins := (fun (x_ : Int) => [.sv (.one (I x_))])) (out := (fun (r : Bool) => .sv (.one (B r)))) (dom := (fun _ => True)) (φ := (fun _ => true)) (fun x_ _ => bOn1_ct x_) en103) argLe_nil))) en50 rfl) ?_
 refine WL.rn ht hn 1 ⟨[sl 2 (LS boolT (eachL w.fGraph.fPlaces (fun _ => true)))], []⟩ ?_
 exact En.rb ht (eachL w.fGraph.fPlaces (fun _ => true)) h
theorem en63 : ∀ args w, (callFunc 63 args).run Try.prog w = .ok (.enter 63 args) w := enters_of Try.func63 (by kernel_rfl) rfl
theorem bOne_ct (w : BranchWalker) (hp : WOk w)  : Ct 63 [.sv (.one (.pe (svR (.agg [I w.fGraph.fLetters, I w.fGraph.fPlaces, LS ApiArrow.ty w.fGraph.fArrows, LS (lsT intT) w.fNext])) 4))] [] (fun (_ : Unit) => True) (fun _ => .sv (.one (LS boolT (eachL w.fGraph.fPlaces (fun _ => true))))) := by
 refine (bOne_walk w (fun res_ => res_ = (eachL w.fGraph.fPlaces (fun _ => true))) ?_).fun
 unfold bOne_vc
 exact ⟨⟨fun _ _ _ => trivial, hp.pos.1, hp.pos.2⟩, rfl⟩
def bWh21_vc (x : ApiArrow) (p : Int) (n : (Tr BLab)) (Q : Bool → Prop) : Prop :=
 ∃ J : Bool → Prop, (IfP (x.fFrom == p) (J (x.fLetter == n.lab.fLetter)) (J false)) ∧
 (∀ (x4 : Bool), J x4 → Q x4)
theorem bWh21_walk (x : ApiArrow) (p : Int) (n : (Tr BLab)) (Q : Bool → Prop) (h : bWh21_vc x p n Q) : Ct 53 [.sv (.agg [I x.fFrom, I x.fLetter, I x.fTo]), .sv (.one (.ptr 0 0)), .sv (.one (.ptr 1 0))] [.box [I p] 3 true, .box [.rd (trR bLab n)] 63 true] Q (fun (r : Bool) => .sv (.one (B r))) := by
 have ht := tab_ok
 refine Ct.body Try.func53 rfl rfl rfl rfl (fun c hn => ?_)
 unfold bWh21_vc at h
 refine En.sr ?_
 refine WL.rn ht hn 2 ⟨[sl 1 (.ptr 0 0), sl 2 (.ptr 1 0), sl 3 (.ptr 2 0)], [.box [I p] 3 true, .box [.rd (trR bLab n)] 63 true, .box (ApiArrow.cl x) 26 false]⟩ ?_
 obtain ⟨J, h, hJ⟩ := h
 refine En.seqJ (σ := Bool) (fun zz => J zz) (fun zz => ⟨[sl 4 (B zz)], [.gone, .gone, .gone]⟩) ?_ ?_
 refine splitB (x.fFrom == p) (fun hb_2 => ?_) (fun hb_2 => ?_)
 replace h := h.1 hb_2
 refine En.regionA ⟨[sl 1 (.ptr 0 0), sl 2 (.ptr 1 0), sl 3 (.ptr 2 0)], [.sv (.one (.ptr 2 0)), .sv (.one (I x.fFrom)), .sv (.one (I p)), .sv (.one (B true)), .sv (.one (B true)), .sv (.one (.ptr 2 1)), .sv (.one (I x.fLetter)), .sv (.one (.rd (trR bLab n))), .sv (.one (.pe (svR (.agg [.v (.int .u8 n.lab.fSign), B n.lab.fAll, I n.lab.fLetter, LS (TT bLab) n.kids])) 4)), .sv (.one (.pe (svR (.one (I n.lab.fLetter))) 1)), .sv (.one (I n.lab.fLetter)), .sv (.one (B (x.fLetter == n.lab.fLetter))), .sv (.one (B (x.fLetter == n.lab.fLetter))), .sv (.one (B (x.fLetter == n.lab.fLetter)))], [⟨.box [I p] 3 true, none, none, none⟩, ⟨.box [.rd (trR bLab n)] 63 true, none, none, none⟩, ⟨.box (ApiArrow.cl x) 26 false, none, none, none⟩]⟩ ⟨[sl 4 (B (x.fLetter == n.lab.fLetter))], [.gone, .gone, .gone]⟩ (by kernel_rfl) hn (by kernel_rfl) (by rfl) (by kernel_rfl) ?_ (by kernel_rfl) ?_
 exact ⟨.ev ⟨[sl 3 (.ptr 2 0)], []⟩ ht,
 .ev ⟨[sl 5 (.ptr 2 0)], [.gone, .gone, .box (ApiArrow.cl x) 26 false]⟩ ht,
 .ev ⟨[sl 1 (.ptr 0 0)], [.box [I p] 3 true]⟩ ht,
 .mt ⟨[sl 6 (I x.fFrom), sl 7 (I p)], []⟩ [] none (by kernel_rfl) (by rfl) (mt_castB hb_2 (mt_ev ht (by kernel_rfl))) rfl rfl rfl rfl,
 .ev ⟨[sl 8 (B true)], []⟩ ht,
 .ev ⟨[sl 3 (.ptr 2 0), sl 9 (B true)], []⟩ ht,
 .ev ⟨[sl 9 (B true), sl 10 (.ptr 2 1)], [.gone, .gone, .box (ApiArrow.cl x) 26 false]⟩ ht,
 .ev ⟨[sl 2 (.ptr 1 0), sl 9 (B true)], [.gone, .box [.rd (trR bLab n)] 63 true]⟩ ht,
 .vl ⟨[sl 9 (B true), sl 12 (.rd (trR bLab n))], []⟩ (mt_val (val_node (s := .agg [.v (.int .u8 n.lab.fSign), B n.lab.fAll, I n.lab.fLetter, LS (TT bLab) n.kids]) (t := n) (lab := bLab) bLabH rfl (by rfl) rfl rfl)),
 .vl ⟨[sl 9 (B true), sl 13 (.pe (svR (.agg [.v (.int .u8 n.lab.fSign), B n.lab.fAll, I n.lab.fLetter, LS (TT bLab) n.kids])) 4)], []⟩ (mt_val (val_fd (l := [.v (.int .u8 n.lab.fSign), B n.lab.fAll, I n.lab.fLetter, LS (TT bLab) n.kids]) (r := .one (I n.lab.fLetter)) ht rfl)),
 .vl ⟨[sl 9 (B true), sl 14 (.pe (svR (.one (I n.lab.fLetter))) 1)], []⟩ (mt_val (val_ld (s := .one (I n.lab.fLetter)) ht rfl)),
 .ev ⟨[sl 9 (B true), sl 11 (I x.fLetter), sl 15 (I n.lab.fLetter)], []⟩ ht,
 .ev ⟨[sl 9 (B true), sl 16 (B (x.fLetter == n.lab.fLetter))], []⟩ ht,
 .ev ⟨[sl 17 (B (x.fLetter == n.lab.fLetter))], []⟩ ht,
 trivial⟩
 exact En.at (I := fun zz => J zz) (T := fun zz => ⟨[sl 4 (B zz)], [.gone, .gone, .gone]⟩) (x.fLetter == n.lab.fLetter) h (by kernel_rfl)
 replace h := h.2 hb_2
 refine En.regionA ⟨[sl 1 (.ptr 0 0), sl 2 (.ptr 1 0), sl 3 (.ptr 2 0)], [.sv (.one (.ptr 2 0)), .sv (.one (I x.fFrom)), .sv (.one (I p)), .sv (.one (B false)), .sv (.one (B false)), .tup [], .tup [], .tup [], .tup [], .tup [], .tup [], .tup [], .sv (.one (B false)), .sv (.one (B false))], [⟨.box [I p] 3 true, none, none, none⟩, ⟨.box [.rd (trR bLab n)] 63 true, none, none, none⟩, ⟨.box (ApiArrow.cl x) 26 false, none, none, none⟩]⟩ ⟨[sl 4 (B false)], [.gone, .gone, .gone]⟩ (by kernel_rfl) hn (by kernel_rfl) (by rfl) (by kernel_rfl) ?_ (by kernel_rfl) ?_
 exact ⟨.ev ⟨[sl 3 (.ptr 2 0)], []⟩ ht,
 .ev ⟨[sl 5 (.ptr 2 0)], [.gone, .gone, .box (ApiArrow.cl x) 26 false]⟩ ht,
 .ev ⟨[sl 1 (.ptr 0 0)], [.box [I p] 3 true]⟩ ht,
 .mt ⟨[sl 6 (I x.fFrom), sl 7 (I p)], []⟩ [] none (by kernel_rfl) (by rfl) (mt_castB hb_2 (mt_ev ht (by kernel_rfl))) rfl rfl rfl rfl,
 .ev ⟨[sl 8 (B false)], []⟩ ht,
 .skip ⟨[sl 9 (B false)], []⟩ (by kernel_rfl) (by rfl) rfl rfl rfl rfl,
 .skip ⟨[sl 9 (B false)], []⟩ (by kernel_rfl) (by rfl) rfl rfl rfl rfl,
 .skip ⟨[sl 9 (B false)], []⟩ (by kernel_rfl) (by rfl) rfl rfl rfl rfl,
 .skip ⟨[sl 9 (B false)], []⟩ (by kernel_rfl) (by rfl) rfl rfl rfl rfl,
 .skip ⟨[sl 9 (B false)], []⟩ (by kernel_rfl) (by rfl) rfl rfl rfl rfl,
 .skip ⟨[sl 9 (B false)], []⟩ (by kernel_rfl) (by rfl) rfl rfl rfl rfl,
 .skip ⟨[sl 9 (B false)], []⟩ (by kernel_rfl) (by rfl) rfl rfl rfl rfl,
 .ev ⟨[sl 9 (B false), (16, .tup [])], []⟩ ht,
 .ev ⟨[sl 17 (B false)], []⟩ ht,
 trivial⟩
 exact En.at (I := fun zz => J zz) (T := fun zz => ⟨[sl 4 (B zz)], [.gone, .gone, .gone]⟩) false h (by kernel_rfl)
 intro x4 h
 replace h := hJ _ h
 show En c ⟨[sl 4 (B x4)], [.gone, .gone, .gone]⟩ _
 exact En.rb ht x4 h
theorem en53 : ∀ args w, (callFunc 53 args).run Try.prog w = .ok (.enter 53 args) w := enters_of Try.func53 (by kernel_rfl) rfl
theorem bWh21_ct (x : ApiArrow) (p : Int) (n : (Tr BLab))  : Ct 53 [.sv (.agg [I x.fFrom, I x.fLetter, I x.fTo]), .sv (.one (.ptr 0 0)), .sv (.one (.ptr 1 0))] [.box [I p] 3 true, .box [.rd (trR bLab n)] 63 true] (fun (_ : Unit) => True) (fun _ => .sv (.one (B (x.fFrom == p && x.fLetter == n.lab.fLetter)))) := by
 refine (bWh21_walk x p n (fun res_ => res_ = (x.fFrom == p && x.fLetter == n.lab.fLetter)) ?_).fun
 unfold bWh21_vc
 exact ⟨fun b => b = (x.fFrom == p && x.fLetter == n.lab.fLetter), ⟨fun e => by simp only [e, Bool.true_and], fun e => by simp only [e, Bool.false_and]⟩, fun _ h => h⟩
def bUn1_vc (p : Int) (out : (List Bool)) (a : (List Bool)) (w : BranchWalker) (Q : Bool → Prop) : Prop :=
 ∃ J : Bool → Prop, (∃ e, idx out p = some e ∧
 IfP e (J true) (∃ e_2, idx a p = some e_2 ∧
 IfP e_2 ((WOk w ∧ 0 ≤ p ∧ p < w.fGraph.fPlaces ∧ out.length = w.fGraph.fPlaces.toNat) ∧
 J (leadB w p out)) (J false))) ∧
 (∀ (x5 : Bool), J x5 → Q x5)
noncomputable abbrev qbUn10 (w : BranchWalker) := (svR (.agg [I w.fGraph.fLetters, I w.fGraph.fPlaces, LS ApiArrow.ty w.fGraph.fArrows, LS (lsT intT) w.fNext]))
theorem bUn1_walk (p : Int) (out : (List Bool)) (a : (List Bool)) (w : BranchWalker) (Q : Bool → Prop) (h : bUn1_vc p out a w Q) : Ct 99 [.sv (.one (I p)), .sv (.one (.ptr 0 0)), .sv (.one (.ptr 1 0)), .sv (.one (.ptr 2 0))] [.box [LS boolT out] 27 true, .box [LS boolT a] 27 true, .box [.pe (svR (.agg [I w.fGraph.fLetters, I w.fGraph.fPlaces, LS ApiArrow.ty w.fGraph.fArrows, LS (lsT intT) w.fNext])) 4] 66 true] Q (fun (r : Bool) => .sv (.one (B r))) := by
 have ht := tab_ok
 refine Ct.body Try.func99 rfl rfl rfl rfl (fun c hn => ?_)
 unfold bUn1_vc at h
 refine En.sr ?_
 refine WL.rn ht hn 1 ⟨[sl 0 (I p), sl 1 (.ptr 0 0), sl 2 (.ptr 1 0), sl 3 (.ptr 2 0)], [.box [LS boolT out] 27 true, .box [LS boolT a] 27 true, .box [.pe (qbUn10 w) 4] 66 true]⟩ ?_
 obtain ⟨J, h, hJ⟩ := h
 refine En.seqJ (σ := Bool) (fun zz => J zz) (fun zz => ⟨[sl 5 (B zz)], [.gone, .gone, .gone]⟩) ?_ ?_
 refine En.region ?_
 refine WL.r ht hn 2 ⟨[sl 0 (I p), sl 1 (.ptr 0 0), sl 2 (.ptr 1 0), sl 3 (.ptr 2 0), sl 6 (LS boolT out), sl 7 (I p)], [.box [LS boolT out] 27 true, .box [LS boolT a] 27 true, .box [.pe (qbUn10 w) 4] 66 true]⟩ ?_
 obtain ⟨e, he, h⟩ := h
 refine WL.v hn (val_ix (T := boolT) (l := out) (i := p) ht rfl he) ?_
 refine WL.v hn (val_ld (s := .one (B e)) ht rfl) ?_
 refine WL.r ht hn 1 ⟨[sl 0 (I p), sl 1 (.ptr 0 0), sl 2 (.ptr 1 0), sl 3 (.ptr 2 0), sl 10 (B e)], [.box [LS boolT out] 27 true, .box [LS boolT a] 27 true, .box [.pe (qbUn10 w) 4] 66 true]⟩ ?_
 refine splitB e (fun hb => ?_) (fun hb => ?_)
 replace h := h.1 hb
 refine WL.sB 10 hb ?_
 refine WL.rn ht hn 12 ⟨[sl 5 (B true)], [.gone, .gone, .gone]⟩ ?_
 exact En.at (I := fun zz => J zz) (T := fun zz => ⟨[sl 5 (B zz)], [.gone, .gone, .gone]⟩) true h (by kernel_rfl)
 replace h := h.2 hb
 refine WL.sB 10 hb ?_
 refine WL.r ht hn 2 ⟨[sl 0 (I p), sl 1 (.ptr 0 0), sl 3 (.ptr 2 0), sl 10 (B false), sl 11 (LS boolT a), sl 12 (I p)], [.box [LS boolT out] 27 true, .gone, .box [.pe (qbUn10 w) 4] 66 true]⟩ ?_
 obtain ⟨e_2, he_2, h⟩ := h
 refine WL.v hn (val_ix (T := boolT) (l := a) (i := p) ht rfl he_2) ?_
 refine WL.v hn (val_ld (s := .one (B e_2)) ht rfl) ?_
 refine WL.r ht hn 1 ⟨[sl 0 (I p), sl 1 (.ptr 0 0), sl 3 (.ptr 2 0), sl 10 (B false), sl 15 (B e_2)], [.box [LS boolT out] 27 true, .gone, .box [.pe (qbUn10 w) 4] 66 true]⟩ ?_
 refine splitB e_2 (fun hb => ?_) (fun hb => ?_)
 replace h := h.1 hb
 refine WL.sB 15 hb ?_
 refine WL.r ht hn 3 ⟨[sl 10 (B false), sl 15 (B true), sl 16 (.pe (qbUn10 w) 4), sl 17 (I p), sl 18 (LS boolT out)], [.gone, .gone, .gone]⟩ ?_
 obtain ⟨hp, h⟩ := h
 refine WL.m0 hn (mt_c (bLeads_ct w p out hp) en62 rfl) ?_
 refine WL.rn ht hn 3 ⟨[sl 5 (B (leadB w p out))], [.gone, .gone, .gone]⟩ ?_
 exact En.at (I := fun zz => J zz) (T := fun zz => ⟨[sl 5 (B zz)], [.gone, .gone, .gone]⟩) (leadB w p out) h (by kernel_rfl)
 replace h := h.2 hb
 refine WL.sB 15 hb ?_
 refine WL.rn ht hn 7 ⟨[sl 5 (B false)], [.gone, .gone, .gone]⟩ ?_
 exact En.at (I := fun zz => J zz) (T := fun zz => ⟨[sl 5 (B zz)], [.gone, .gone, .gone]⟩) false h (by kernel_rfl)
 intro x5 h
 replace h := hJ _ h
 show En c ⟨[sl 5 (B x5)], [.gone, .gone, .gone]⟩ _
 exact En.rb ht x5 h
theorem en99 : ∀ args w, (callFunc 99 args).run Try.prog w = .ok (.enter 99 args) w := enters_of Try.func99 (by kernel_rfl) rfl
theorem bUn1_ct (p : Int) (out : (List Bool)) (a : (List Bool)) (w : BranchWalker) (hp : WOk w ∧ (out.length = w.fGraph.fPlaces.toNat) ∧ (a.length = w.fGraph.fPlaces.toNat) ∧ 0 ≤ p ∧ p < w.fGraph.fPlaces)  : Ct 99 [.sv (.one (I p)), .sv (.one (.ptr 0 0)), .sv (.one (.ptr 1 0)), .sv (.one (.ptr 2 0))] [.box [LS boolT out] 27 true, .box [LS boolT a] 27 true, .box [.pe (svR (.agg [I w.fGraph.fLetters, I w.fGraph.fPlaces, LS ApiArrow.ty w.fGraph.fArrows, LS (lsT intT) w.fNext])) 4] 66 true] (fun (_ : Unit) => True) (fun _ => .sv (.one (B (onB out p || (onB a p && leadB w p out))))) := by
 refine (bUn1_walk p out a w (fun res_ => res_ = (onB out p || (onB a p && leadB w p out))) ?_).fun
 obtain ⟨hw, h1, h2, h3, h4⟩ := hp
 unfold bUn1_vc
 refine ⟨fun b => b = (onB out p || (onB a p && leadB w p out)), ⟨_, idx_of false h3 (by omega), fun e => ?_, fun e => ⟨_, idx_of false h3 (by omega), fun e2 => ⟨⟨hw, h3, h4, h1⟩, ?_⟩, fun e2 => ?_⟩⟩, fun _ h => h⟩
 ·show true = (onB out p || (onB a p && leadB w p out))
  simp [show onB out p = true from e]
 ·show leadB w p out = (onB out p || (onB a p && leadB w p out))
  simp [show onB out p = false from e, show onB a p = true from e2]
 ·show false = (onB out p || (onB a p && leadB w p out))
  simp [show onB out p = false from e, show onB a p = false from e2]
def bEv1_vc (p : Int) (out : (List Bool)) (w : BranchWalker) (Q : Bool → Prop) : Prop :=
 ∃ J : Bool → Prop, (∃ e, idx out p = some e ∧
 IfP e ((WOk w ∧ 0 ≤ p ∧ p < w.fGraph.fPlaces ∧ out.length = w.fGraph.fPlaces.toNat) ∧
 J (leadB w p out)) (J false)) ∧
 (∀ (x4 : Bool), J x4 → Q x4)
noncomputable abbrev qbEv10 (w : BranchWalker) := (svR (.agg [I w.fGraph.fLetters, I w.fGraph.fPlaces, LS ApiArrow.ty w.fGraph.fArrows, LS (lsT intT) w.fNext]))
theorem bEv1_walk (p : Int) (out : (List Bool)) (w : BranchWalker) (Q : Bool → Prop) (h : bEv1_vc p out w Q) : Ct 100 [.sv (.one (I p)), .sv (.one (.ptr 0 0)), .sv (.one (.ptr 1 0))] [.box [LS boolT out] 27 true, .box [.pe (svR (.agg [I w.fGraph.fLetters, I w.fGraph.fPlaces, LS ApiArrow.ty w.fGraph.fArrows, LS (lsT intT) w.fNext])) 4] 66 true] Q (fun (r : Bool) => .sv (.one (B r))) := by
 have ht := tab_ok
 refine Ct.body Try.func100 rfl rfl rfl rfl (fun c hn => ?_)
 unfold bEv1_vc at h
 refine En.sr ?_
 refine WL.rn ht hn 1 ⟨[sl 0 (I p), sl 1 (.ptr 0 0), sl 2 (.ptr 1 0)], [.box [LS boolT out] 27 true, .box [.pe (qbEv10 w) 4] 66 true]⟩ ?_
 obtain ⟨J, h, hJ⟩ := h
 refine En.seqJ (σ := Bool) (fun zz => J zz) (fun zz => ⟨[sl 4 (B zz)], [.gone, .gone]⟩) ?_ ?_
 refine En.region ?_
 refine WL.r ht hn 2 ⟨[sl 0 (I p), sl 1 (.ptr 0 0), sl 2 (.ptr 1 0), sl 5 (LS boolT out), sl 6 (I p)], [.box [LS boolT out] 27 true, .box [.pe (qbEv10 w) 4] 66 true]⟩ ?_
 obtain ⟨e, he, h⟩ := h
 refine WL.v hn (val_ix (T := boolT) (l := out) (i := p) ht rfl he) ?_
 refine WL.v hn (val_ld (s := .one (B e)) ht rfl) ?_
 refine WL.r ht hn 1 ⟨[sl 0 (I p), sl 1 (.ptr 0 0), sl 2 (.ptr 1 0), sl 9 (B e)], [.box [LS boolT out] 27 true, .box [.pe (qbEv10 w) 4] 66 true]⟩ ?_
 refine splitB e (fun hb => ?_) (fun hb => ?_)
 replace h := h.1 hb
 refine WL.sB 9 hb ?_
 refine WL.r ht hn 3 ⟨[sl 9 (B true), sl 10 (.pe (qbEv10 w) 4), sl 11 (I p), sl 12 (LS boolT out)], [.gone, .gone]⟩ ?_
 obtain ⟨hp, h⟩ := h
 refine WL.m0 hn (mt_c (bLeads_ct w p out hp) en62 rfl) ?_
 refine WL.rn ht hn 2 ⟨[sl 4 (B (leadB w p out))], [.gone, .gone]⟩ ?_
 exact En.at (I := fun zz => J zz) (T := fun zz => ⟨[sl 4 (B zz)], [.gone, .gone]⟩) (leadB w p out) h (by kernel_rfl)
 replace h := h.2 hb
 refine WL.sB 9 hb ?_
 refine WL.rn ht hn 6 ⟨[sl 4 (B false)], [.gone, .gone]⟩ ?_
 exact En.at (I := fun zz => J zz) (T := fun zz => ⟨[sl 4 (B zz)], [.gone, .gone]⟩) false h (by kernel_rfl)
 intro x4 h
 replace h := hJ _ h
 show En c ⟨[sl 4 (B x4)], [.gone, .gone]⟩ _
 exact En.rb ht x4 h
theorem en100 : ∀ args w, (callFunc 100 args).run Try.prog w = .ok (.enter 100 args) w := enters_of Try.func100 (by kernel_rfl) rfl
theorem bEv1_ct (p : Int) (out : (List Bool)) (w : BranchWalker) (hp : WOk w ∧ (out.length = w.fGraph.fPlaces.toNat) ∧ 0 ≤ p ∧ p < w.fGraph.fPlaces)  : Ct 100 [.sv (.one (I p)), .sv (.one (.ptr 0 0)), .sv (.one (.ptr 1 0))] [.box [LS boolT out] 27 true, .box [.pe (svR (.agg [I w.fGraph.fLetters, I w.fGraph.fPlaces, LS ApiArrow.ty w.fGraph.fArrows, LS (lsT intT) w.fNext])) 4] 66 true] (fun (_ : Unit) => True) (fun _ => .sv (.one (B (onB out p && leadB w p out)))) := by
 refine (bEv1_walk p out w (fun res_ => res_ = (onB out p && leadB w p out)) ?_).fun
 obtain ⟨hw, h1, h3, h4⟩ := hp
 unfold bEv1_vc
 refine ⟨fun b => b = (onB out p && leadB w p out), ⟨_, idx_of false h3 (by omega), fun e => ⟨⟨hw, h3, h4, h1⟩, ?_⟩, fun e => ?_⟩, fun _ h => h⟩
 ·show leadB w p out = (onB out p && leadB w p out)
  simp [show onB out p = true from e]
 ·show false = (onB out p && leadB w p out)
  simp [show onB out p = false from e]
def bWh1_vc (p : Int) (n : (Tr BLab)) (Q : Bool → Prop) : Prop :=
 Q (n.lab.fSign == 49)
theorem bWh1_walk (p : Int) (n : (Tr BLab)) (Q : Bool → Prop) (h : bWh1_vc p n Q) : Ct 51 [.sv (.one (I p)), .sv (.one (.ptr 0 0))] [.box [.rd (trR bLab n)] 63 true] Q (fun (r : Bool) => .sv (.one (B r))) := by
 have ht := tab_ok
 refine Ct.body Try.func51 rfl rfl rfl rfl (fun c hn => ?_)
 unfold bWh1_vc at h
 refine En.sr ?_
 refine WL.rn ht hn 1 ⟨[sl 1 (.ptr 0 0)], [.box [.rd (trR bLab n)] 63 true]⟩ ?_
 refine En.sr ?_
 refine WL.r ht hn 1 ⟨[sl 4 (.rd (trR bLab n))], [.gone]⟩ ?_
 refine WL.v hn (val_node (s := .agg [.v (.int .u8 n.lab.fSign), B n.lab.fAll, I n.lab.fLetter, LS (TT bLab) n.kids]) (t := n) (lab := bLab) bLabH rfl (by rfl) rfl rfl) ?_
 refine WL.v hn (val_fd (l := [.v (.int .u8 n.lab.fSign), B n.lab.fAll, I n.lab.fLetter, LS (TT bLab) n.kids]) (r := .one (.v (.int .u8 n.lab.fSign))) ht rfl) ?_
 refine WL.v hn (val_ld (s := .one (.v (.int .u8 n.lab.fSign))) ht rfl) ?_
 refine WL.rn ht hn 2 ⟨[sl 3 (B (n.lab.fSign == 49))], [.gone]⟩ ?_
 exact En.rb ht (n.lab.fSign == 49) h
theorem en51 : ∀ args w, (callFunc 51 args).run Try.prog w = .ok (.enter 51 args) w := enters_of Try.func51 (by kernel_rfl) rfl
theorem bWh1_ct (p : Int) (n : (Tr BLab))  : Ct 51 [.sv (.one (I p)), .sv (.one (.ptr 0 0))] [.box [.rd (trR bLab n)] 63 true] (fun (_ : Unit) => True) (fun _ => .sv (.one (B ((n.lab.fSign == 49))))) := by
 refine (bWh1_walk p n (fun res_ => res_ = ((n.lab.fSign == 49))) ?_).fun
 exact rfl
def bWh2_vc (p : Int) (w : BranchWalker) (n : (Tr BLab)) (Q : Bool → Prop) : Prop :=
 (∀ x_ ∈ w.fGraph.fArrows, (fun _ => True) x_) ∧
 Q (w.fGraph.fArrows.any (fun x => x.fFrom == p && x.fLetter == n.lab.fLetter))
theorem bWh2_walk (p : Int) (w : BranchWalker) (n : (Tr BLab)) (Q : Bool → Prop) (h : bWh2_vc p w n Q) : Ct 52 [.sv (.one (I p)), .sv (.one (.ptr 0 0)), .sv (.one (.ptr 1 0))] [.box [.pe (svR (.agg [I w.fGraph.fLetters, I w.fGraph.fPlaces, LS ApiArrow.ty w.fGraph.fArrows, LS (lsT intT) w.fNext])) 4] 66 true, .box [.rd (trR bLab n)] 63 true] Q (fun (r : Bool) => .sv (.one (B r))) := by
 have ht := tab_ok
 refine Ct.body Try.func52 rfl rfl rfl rfl (fun c hn => ?_)
 unfold bWh2_vc at h
 refine En.sr ?_
 refine WL.rn ht hn 2 ⟨[sl 1 (.ptr 0 0), sl 2 (.ptr 1 0), sl 3 (.ptr 2 0)], [.box [.pe (svR (.agg [I w.fGraph.fLetters, I w.fGraph.fPlaces, LS ApiArrow.ty w.fGraph.fArrows, LS (lsT intT) w.fNext])) 4] 66 true, .box [.rd (trR bLab n)] 63 true, .box [I p] 3 false]⟩ ?_
 refine En.sr ?_
 refine WL.r ht hn 2 ⟨[sl 2 (.ptr 1 0), sl 3 (.ptr 2 0), sl 6 (.pe (svR (.agg [I w.fGraph.fLetters, I w.fGraph.fPlaces, LS ApiArrow.ty w.fGraph.fArrows, LS (lsT intT) w.fNext])) 4)], [.gone, .box [.rd (trR bLab n)] 63 true, .box [I p] 3 false]⟩ ?_
 refine WL.v hn (val_fd (l := [I w.fGraph.fLetters, I w.fGraph.fPlaces, LS ApiArrow.ty w.fGraph.fArrows, LS (lsT intT) w.fNext]) (r := .agg (ApiGraph.cl w.fGraph)) ht rfl) ?_
 refine WL.v hn (val_fd (l := (ApiGraph.cl w.fGraph)) (r := .one (LS ApiArrow.ty w.fGraph.fArrows)) ht rfl) ?_
 refine WL.v hn (val_ld (s := .one (LS ApiArrow.ty w.fGraph.fArrows)) ht rfl) ?_
 refine WL.r ht hn 1 ⟨[sl 9 (LS ApiArrow.ty w.fGraph.fArrows), sl 10 (.fn 53 [2, 1])], [.gone, .box [.rd (trR bLab n)] 63 true, .box [I p] 3 false]⟩ ?_
 obtain ⟨hp, h⟩ := h
 refine WL.m0 hn (mt_lendF [2] (by rfl) (by rfl) (mt_ghost 10 (o1 (.rd (fvR (fun (x_ : ApiArrow) => [.sv (.agg (ApiArrow.cl x_))]) (fun (r : Bool) => .sv (.one (B r))) (fun _ => True) (fun x => x.fFrom == p && x.fLetter == n.lab.fLetter)))) (by rfl) (fv_of (M := [.box [I p] 3 true, .box [.rd (trR bLab n)] 63 true]) (caps := [2, 1]) (fun x_ _ => bWh21_ct x_ p n) en53 rfl (by kernel_rfl) (by rfl) (fun _ => rfl)) (mt_c (anyApiArrow_ct w.fGraph.fArrows (fun _ => True) (fun x => x.fFrom == p && x.fLetter == n.lab.fLetter) hp) en43 rfl))) ?_
 refine WL.rn ht hn 1 ⟨[sl 4 (B (w.fGraph.fArrows.any (fun x => x.fFrom == p && x.fLetter == n.lab.fLetter)))], [.gone, .gone, .gone]⟩ ?_
 exact En.rb ht (w.fGraph.fArrows.any (fun x => x.fFrom == p && x.fLetter == n.lab.fLetter)) h
theorem en52 : ∀ args w, (callFunc 52 args).run Try.prog w = .ok (.enter 52 args) w := enters_of Try.func52 (by kernel_rfl) rfl
theorem bWh2_ct (p : Int) (w : BranchWalker) (n : (Tr BLab))  : Ct 52 [.sv (.one (I p)), .sv (.one (.ptr 0 0)), .sv (.one (.ptr 1 0))] [.box [.pe (svR (.agg [I w.fGraph.fLetters, I w.fGraph.fPlaces, LS ApiArrow.ty w.fGraph.fArrows, LS (lsT intT) w.fNext])) 4] 66 true, .box [.rd (trR bLab n)] 63 true] (fun (_ : Unit) => True) (fun _ => .sv (.one (B (letB w n.lab.fLetter p)))) := by
 refine (bWh2_walk p w n (fun res_ => res_ = (letB w n.lab.fLetter p)) ?_).fun
 exact ⟨fun _ _ => trivial, rfl⟩
def bWh3_vc (p : Int) (a : (List Bool)) (b : (List Bool)) (Q : Bool → Prop) : Prop :=
 ∃ J : Bool → Prop, (∃ e, idx a p = some e ∧
 IfP e (∃ e_2, idx b p = some e_2 ∧
 J e_2) (J false)) ∧
 (∀ (x4 : Bool), J x4 → Q x4)
theorem bWh3_walk (p : Int) (a : (List Bool)) (b : (List Bool)) (Q : Bool → Prop) (h : bWh3_vc p a b Q) : Ct 55 [.sv (.one (I p)), .sv (.one (.ptr 0 0)), .sv (.one (.ptr 1 0))] [.box [LS boolT a] 27 true, .box [LS boolT b] 27 true] Q (fun (r : Bool) => .sv (.one (B r))) := by
 have ht := tab_ok
 refine Ct.body Try.func55 rfl rfl rfl rfl (fun c hn => ?_)
 unfold bWh3_vc at h
 refine En.sr ?_
 refine WL.rn ht hn 1 ⟨[sl 0 (I p), sl 1 (.ptr 0 0), sl 2 (.ptr 1 0)], [.box [LS boolT a] 27 true, .box [LS boolT b] 27 true]⟩ ?_
 obtain ⟨J, h, hJ⟩ := h
 refine En.seqJ (σ := Bool) (fun zz => J zz) (fun zz => ⟨[sl 4 (B zz)], [.gone, .gone]⟩) ?_ ?_
 refine En.region ?_
 refine WL.r ht hn 2 ⟨[sl 0 (I p), sl 2 (.ptr 1 0), sl 5 (LS boolT a), sl 6 (I p)], [.gone, .box [LS boolT b] 27 true]⟩ ?_
 obtain ⟨e, he, h⟩ := h
 refine WL.v hn (val_ix (T := boolT) (l := a) (i := p) ht rfl he) ?_
 refine WL.v hn (val_ld (s := .one (B e)) ht rfl) ?_
 refine WL.r ht hn 1 ⟨[sl 0 (I p), sl 2 (.ptr 1 0), sl 9 (B e)], [.gone, .box [LS boolT b] 27 true]⟩ ?_
 refine splitB e (fun hb => ?_) (fun hb => ?_)
 replace h := h.1 hb
 refine WL.sB 9 hb ?_
 refine WL.r ht hn 2 ⟨[sl 9 (B true), sl 10 (LS boolT b), sl 11 (I p)], [.gone, .gone]⟩ ?_
 obtain ⟨e_2, he_2, h⟩ := h
 refine WL.v hn (val_ix (T := boolT) (l := b) (i := p) ht rfl he_2) ?_
 refine WL.v hn (val_ld (s := .one (B e_2)) ht rfl) ?_
 refine WL.rn ht hn 2 ⟨[sl 4 (B e_2)], [.gone, .gone]⟩ ?_
 exact En.at (I := fun zz => J zz) (T := fun zz => ⟨[sl 4 (B zz)], [.gone, .gone]⟩) e_2 h (by kernel_rfl)
 replace h := h.2 hb
 refine WL.sB 9 hb ?_
 refine WL.rn ht hn 6 ⟨[sl 4 (B false)], [.gone, .gone]⟩ ?_
 exact En.at (I := fun zz => J zz) (T := fun zz => ⟨[sl 4 (B zz)], [.gone, .gone]⟩) false h (by kernel_rfl)
 intro x4 h
 replace h := hJ _ h
 show En c ⟨[sl 4 (B x4)], [.gone, .gone]⟩ _
 exact En.rb ht x4 h
theorem en55 : ∀ args w, (callFunc 55 args).run Try.prog w = .ok (.enter 55 args) w := enters_of Try.func55 (by kernel_rfl) rfl
theorem bWh3_ct (p : Int) (a : (List Bool)) (b : (List Bool)) (hp : inB a p ∧ inB b p)  : Ct 55 [.sv (.one (I p)), .sv (.one (.ptr 0 0)), .sv (.one (.ptr 1 0))] [.box [LS boolT a] 27 true, .box [LS boolT b] 27 true] (fun (_ : Unit) => True) (fun _ => .sv (.one (B (onB a p && onB b p)))) := by
 refine (bWh3_walk p a b (fun res_ => res_ = (onB a p && onB b p)) ?_).fun
 unfold bWh3_vc
 refine ⟨fun c => c = (onB a p && onB b p), ⟨_, idx_of false hp.1.1 hp.1.2, fun e => ⟨_, idx_of false hp.2.1 hp.2.2, ?_⟩, fun e => ?_⟩, fun _ h => h⟩
 ·show onB b p = (onB a p && onB b p)
  simp [show onB a p = true from e]
 ·show false = (onB a p && onB b p)
  simp [show onB a p = false from e]
def bWh4_vc (p : Int) (a : (List Bool)) (b : (List Bool)) (Q : Bool → Prop) : Prop :=
 ∃ J : Bool → Prop, (∃ e, idx a p = some e ∧
 IfP e (J true) (∃ e_2, idx b p = some e_2 ∧
 J e_2)) ∧
 (∀ (x4 : Bool), J x4 → Q x4)
theorem bWh4_walk (p : Int) (a : (List Bool)) (b : (List Bool)) (Q : Bool → Prop) (h : bWh4_vc p a b Q) : Ct 56 [.sv (.one (I p)), .sv (.one (.ptr 0 0)), .sv (.one (.ptr 1 0))] [.box [LS boolT a] 27 true, .box [LS boolT b] 27 true] Q (fun (r : Bool) => .sv (.one (B r))) := by
 have ht := tab_ok
 refine Ct.body Try.func56 rfl rfl rfl rfl (fun c hn => ?_)
 unfold bWh4_vc at h
 refine En.sr ?_
 refine WL.rn ht hn 1 ⟨[sl 0 (I p), sl 1 (.ptr 0 0), sl 2 (.ptr 1 0)], [.box [LS boolT a] 27 true, .box [LS boolT b] 27 true]⟩ ?_
 obtain ⟨J, h, hJ⟩ := h
 refine En.seqJ (σ := Bool) (fun zz => J zz) (fun zz => ⟨[sl 4 (B zz)], [.gone, .gone]⟩) ?_ ?_
 refine En.region ?_
 refine WL.r ht hn 2 ⟨[sl 0 (I p), sl 2 (.ptr 1 0), sl 5 (LS boolT a), sl 6 (I p)], [.gone, .box [LS boolT b] 27 true]⟩ ?_
 obtain ⟨e, he, h⟩ := h
 refine WL.v hn (val_ix (T := boolT) (l := a) (i := p) ht rfl he) ?_
 refine WL.v hn (val_ld (s := .one (B e)) ht rfl) ?_
 refine WL.r ht hn 1 ⟨[sl 0 (I p), sl 2 (.ptr 1 0), sl 9 (B e)], [.gone, .box [LS boolT b] 27 true]⟩ ?_
 refine splitB e (fun hb => ?_) (fun hb => ?_)
 replace h := h.1 hb
 refine WL.sB 9 hb ?_
 refine WL.rn ht hn 6 ⟨[sl 4 (B true)], [.gone, .gone]⟩ ?_
 exact En.at (I := fun zz => J zz) (T := fun zz => ⟨[sl 4 (B zz)], [.gone, .gone]⟩) true h (by kernel_rfl)
 replace h := h.2 hb
 refine WL.sB 9 hb ?_
 refine WL.r ht hn 2 ⟨[sl 9 (B false), sl 10 (LS boolT b), sl 11 (I p)], [.gone, .gone]⟩ ?_
 obtain ⟨e_2, he_2, h⟩ := h
 refine WL.v hn (val_ix (T := boolT) (l := b) (i := p) ht rfl he_2) ?_
 refine WL.v hn (val_ld (s := .one (B e_2)) ht rfl) ?_
 refine WL.rn ht hn 2 ⟨[sl 4 (B e_2)], [.gone, .gone]⟩ ?_
 exact En.at (I := fun zz => J zz) (T := fun zz => ⟨[sl 4 (B zz)], [.gone, .gone]⟩) e_2 h (by kernel_rfl)
 intro x4 h
 replace h := hJ _ h
 show En c ⟨[sl 4 (B x4)], [.gone, .gone]⟩ _
 exact En.rb ht x4 h
theorem en56 : ∀ args w, (callFunc 56 args).run Try.prog w = .ok (.enter 56 args) w := enters_of Try.func56 (by kernel_rfl) rfl
theorem bWh4_ct (p : Int) (a : (List Bool)) (b : (List Bool)) (hp : inB a p ∧ inB b p)  : Ct 56 [.sv (.one (I p)), .sv (.one (.ptr 0 0)), .sv (.one (.ptr 1 0))] [.box [LS boolT a] 27 true, .box [LS boolT b] 27 true] (fun (_ : Unit) => True) (fun _ => .sv (.one (B (onB a p || onB b p)))) := by
 refine (bWh4_walk p a b (fun res_ => res_ = (onB a p || onB b p)) ?_).fun
 unfold bWh4_vc
 refine ⟨fun c => c = (onB a p || onB b p), ⟨_, idx_of false hp.1.1 hp.1.2, fun e => ?_, fun e => ⟨_, idx_of false hp.2.1 hp.2.2, ?_⟩⟩, fun _ h => h⟩
 ·show true = (onB a p || onB b p)
  simp [show onB a p = true from e]
 ·show onB b p = (onB a p || onB b p)
  simp [show onB a p = false from e]
def bWh5_vc (p : Int) (a : (List Bool)) (b : (List Bool)) (Q : Bool → Prop) : Prop :=
 ∃ J : Bool → Prop, (∃ e, idx a p = some e ∧
 IfP (!e) (∃ e_2, idx b p = some e_2 ∧
 J (!e_2)) (J false)) ∧
 (∀ (x4 : Bool), J x4 → Q x4)
theorem bWh5_walk (p : Int) (a : (List Bool)) (b : (List Bool)) (Q : Bool → Prop) (h : bWh5_vc p a b Q) : Ct 59 [.sv (.one (I p)), .sv (.one (.ptr 0 0)), .sv (.one (.ptr 1 0))] [.box [LS boolT a] 27 true, .box [LS boolT b] 27 true] Q (fun (r : Bool) => .sv (.one (B r))) := by
 have ht := tab_ok
 refine Ct.body Try.func59 rfl rfl rfl rfl (fun c hn => ?_)
 unfold bWh5_vc at h
 refine En.sr ?_
 refine WL.rn ht hn 1 ⟨[sl 0 (I p), sl 1 (.ptr 0 0), sl 2 (.ptr 1 0)], [.box [LS boolT a] 27 true, .box [LS boolT b] 27 true]⟩ ?_
 obtain ⟨J, h, hJ⟩ := h
 refine En.seqJ (σ := Bool) (fun zz => J zz) (fun zz => ⟨[sl 4 (B zz)], [.gone, .gone]⟩) ?_ ?_
 refine En.region ?_
 refine WL.r ht hn 2 ⟨[sl 0 (I p), sl 2 (.ptr 1 0), sl 5 (LS boolT a), sl 6 (I p)], [.gone, .box [LS boolT b] 27 true]⟩ ?_
 obtain ⟨e, he, h⟩ := h
 refine WL.v hn (val_ix (T := boolT) (l := a) (i := p) ht rfl he) ?_
 refine WL.v hn (val_ld (s := .one (B e)) ht rfl) ?_
 refine WL.r ht hn 2 ⟨[sl 0 (I p), sl 2 (.ptr 1 0), sl 10 (B (!e))], [.gone, .box [LS boolT b] 27 true]⟩ ?_
 refine splitB (!e) (fun hb => ?_) (fun hb => ?_)
 replace h := h.1 hb
 refine WL.sB 10 hb ?_
 refine WL.r ht hn 2 ⟨[sl 10 (B true), sl 11 (LS boolT b), sl 12 (I p)], [.gone, .gone]⟩ ?_
 obtain ⟨e_2, he_2, h⟩ := h
 refine WL.v hn (val_ix (T := boolT) (l := b) (i := p) ht rfl he_2) ?_
 refine WL.v hn (val_ld (s := .one (B e_2)) ht rfl) ?_
 refine WL.rn ht hn 3 ⟨[sl 4 (B (!e_2))], [.gone, .gone]⟩ ?_
 exact En.at (I := fun zz => J zz) (T := fun zz => ⟨[sl 4 (B zz)], [.gone, .gone]⟩) (!e_2) h (by kernel_rfl)
 replace h := h.2 hb
 refine WL.sB 10 hb ?_
 refine WL.rn ht hn 7 ⟨[sl 4 (B false)], [.gone, .gone]⟩ ?_
 exact En.at (I := fun zz => J zz) (T := fun zz => ⟨[sl 4 (B zz)], [.gone, .gone]⟩) false h (by kernel_rfl)
 intro x4 h
 replace h := hJ _ h
 show En c ⟨[sl 4 (B x4)], [.gone, .gone]⟩ _
 exact En.rb ht x4 h
theorem en59 : ∀ args w, (callFunc 59 args).run Try.prog w = .ok (.enter 59 args) w := enters_of Try.func59 (by kernel_rfl) rfl
theorem bWh5_ct (p : Int) (a : (List Bool)) (b : (List Bool)) (hp : inB a p ∧ inB b p)  : Ct 59 [.sv (.one (I p)), .sv (.one (.ptr 0 0)), .sv (.one (.ptr 1 0))] [.box [LS boolT a] 27 true, .box [LS boolT b] 27 true] (fun (_ : Unit) => True) (fun _ => .sv (.one (B (!onB a p && !onB b p)))) := by
 refine (bWh5_walk p a b (fun res_ => res_ = (!onB a p && !onB b p)) ?_).fun
 unfold bWh5_vc
 refine ⟨fun c => c = (!onB a p && !onB b p), ⟨_, idx_of false hp.1.1 hp.1.2, fun e => ⟨_, idx_of false hp.2.1 hp.2.2, ?_⟩, fun e => ?_⟩, fun _ h => h⟩
 ·show (!onB b p) = (!onB a p && !onB b p)
  rw [show (!onB a p) = true from e, Bool.true_and]
 ·show false = (!onB a p && !onB b p)
  rw [show (!onB a p) = false from e, Bool.false_and]
def bWh6_vc (p : Int) (a : (List Bool)) (b : (List Bool)) (Q : Bool → Prop) : Prop :=
 ∃ J : Bool → Prop, (∃ e, idx a p = some e ∧
 IfP (!e) (∃ e_2, idx b p = some e_2 ∧
 J (!e_2)) (J false)) ∧
 (∀ (x4 : Bool), J x4 → Q x4)
theorem bWh6_walk (p : Int) (a : (List Bool)) (b : (List Bool)) (Q : Bool → Prop) (h : bWh6_vc p a b Q) : Ct 60 [.sv (.one (I p)), .sv (.one (.ptr 0 0)), .sv (.one (.ptr 1 0))] [.box [LS boolT a] 27 true, .box [LS boolT b] 27 true] Q (fun (r : Bool) => .sv (.one (B r))) := by
 have ht := tab_ok
 refine Ct.body Try.func60 rfl rfl rfl rfl (fun c hn => ?_)
 unfold bWh6_vc at h
 refine En.sr ?_
 refine WL.rn ht hn 1 ⟨[sl 0 (I p), sl 1 (.ptr 0 0), sl 2 (.ptr 1 0)], [.box [LS boolT a] 27 true, .box [LS boolT b] 27 true]⟩ ?_
 obtain ⟨J, h, hJ⟩ := h
 refine En.seqJ (σ := Bool) (fun zz => J zz) (fun zz => ⟨[sl 4 (B zz)], [.gone, .gone]⟩) ?_ ?_
 refine En.region ?_
 refine WL.r ht hn 2 ⟨[sl 0 (I p), sl 2 (.ptr 1 0), sl 5 (LS boolT a), sl 6 (I p)], [.gone, .box [LS boolT b] 27 true]⟩ ?_
 obtain ⟨e, he, h⟩ := h
 refine WL.v hn (val_ix (T := boolT) (l := a) (i := p) ht rfl he) ?_
 refine WL.v hn (val_ld (s := .one (B e)) ht rfl) ?_
 refine WL.r ht hn 2 ⟨[sl 0 (I p), sl 2 (.ptr 1 0), sl 10 (B (!e))], [.gone, .box [LS boolT b] 27 true]⟩ ?_
 refine splitB (!e) (fun hb => ?_) (fun hb => ?_)
 replace h := h.1 hb
 refine WL.sB 10 hb ?_
 refine WL.r ht hn 2 ⟨[sl 10 (B true), sl 11 (LS boolT b), sl 12 (I p)], [.gone, .gone]⟩ ?_
 obtain ⟨e_2, he_2, h⟩ := h
 refine WL.v hn (val_ix (T := boolT) (l := b) (i := p) ht rfl he_2) ?_
 refine WL.v hn (val_ld (s := .one (B e_2)) ht rfl) ?_
 refine WL.rn ht hn 3 ⟨[sl 4 (B (!e_2))], [.gone, .gone]⟩ ?_
 exact En.at (I := fun zz => J zz) (T := fun zz => ⟨[sl 4 (B zz)], [.gone, .gone]⟩) (!e_2) h (by kernel_rfl)
 replace h := h.2 hb
 refine WL.sB 10 hb ?_
 refine WL.rn ht hn 7 ⟨[sl 4 (B false)], [.gone, .gone]⟩ ?_
 exact En.at (I := fun zz => J zz) (T := fun zz => ⟨[sl 4 (B zz)], [.gone, .gone]⟩) false h (by kernel_rfl)
 intro x4 h
 replace h := hJ _ h
 show En c ⟨[sl 4 (B x4)], [.gone, .gone]⟩ _
 exact En.rb ht x4 h
theorem en60 : ∀ args w, (callFunc 60 args).run Try.prog w = .ok (.enter 60 args) w := enters_of Try.func60 (by kernel_rfl) rfl
theorem bWh6_ct (p : Int) (a : (List Bool)) (b : (List Bool)) (hp : inB a p ∧ inB b p)  : Ct 60 [.sv (.one (I p)), .sv (.one (.ptr 0 0)), .sv (.one (.ptr 1 0))] [.box [LS boolT a] 27 true, .box [LS boolT b] 27 true] (fun (_ : Unit) => True) (fun _ => .sv (.one (B (!onB a p && !onB b p)))) := by
 refine (bWh6_walk p a b (fun res_ => res_ = (!onB a p && !onB b p)) ?_).fun
 unfold bWh6_vc
 refine ⟨fun c => c = (!onB a p && !onB b p), ⟨_, idx_of false hp.1.1 hp.1.2, fun e => ⟨_, idx_of false hp.2.1 hp.2.2, ?_⟩, fun e => ?_⟩, fun _ h => h⟩
 ·show (!onB b p) = (!onB a p && !onB b p)
  rw [show (!onB a p) = true from e, Bool.true_and]
 ·show false = (!onB a p && !onB b p)
  rw [show (!onB a p) = false from e, Bool.false_and]
def bWh7_vc (p : Int) (w : BranchWalker) (a : (List Bool)) (Q : Bool → Prop) : Prop :=
 (WOk w ∧ 0 ≤ p ∧ p < w.fGraph.fPlaces ∧ a.length = w.fGraph.fPlaces.toNat) ∧
 Q (leadB w p a)
theorem bWh7_walk (p : Int) (w : BranchWalker) (a : (List Bool)) (Q : Bool → Prop) (h : bWh7_vc p w a Q) : Ct 61 [.sv (.one (I p)), .sv (.one (.ptr 0 0)), .sv (.one (.ptr 1 0))] [.box [.pe (svR (.agg [I w.fGraph.fLetters, I w.fGraph.fPlaces, LS ApiArrow.ty w.fGraph.fArrows, LS (lsT intT) w.fNext])) 4] 66 true, .box [LS boolT a] 27 true] Q (fun (r : Bool) => .sv (.one (B r))) := by
 have ht := tab_ok
 refine Ct.body Try.func61 rfl rfl rfl rfl (fun c hn => ?_)
 unfold bWh7_vc at h
 refine En.sr ?_
 refine WL.rn ht hn 1 ⟨[sl 0 (I p), sl 1 (.ptr 0 0), sl 2 (.ptr 1 0)], [.box [.pe (svR (.agg [I w.fGraph.fLetters, I w.fGraph.fPlaces, LS ApiArrow.ty w.fGraph.fArrows, LS (lsT intT) w.fNext])) 4] 66 true, .box [LS boolT a] 27 true]⟩ ?_
 refine En.sr ?_
 refine WL.r ht hn 3 ⟨[sl 5 (.pe (svR (.agg [I w.fGraph.fLetters, I w.fGraph.fPlaces, LS ApiArrow.ty w.fGraph.fArrows, LS (lsT intT) w.fNext])) 4), sl 6 (I p), sl 7 (LS boolT a)], [.gone, .gone]⟩ ?_
 obtain ⟨hp, h⟩ := h
 refine WL.m0 hn (mt_c (bLeads_ct w p a hp) en62 rfl) ?_
 refine WL.rn ht hn 1 ⟨[sl 4 (B (leadB w p a))], [.gone, .gone]⟩ ?_
 exact En.rb ht (leadB w p a) h
theorem en61 : ∀ args w, (callFunc 61 args).run Try.prog w = .ok (.enter 61 args) w := enters_of Try.func61 (by kernel_rfl) rfl
theorem bWh7_ct (p : Int) (w : BranchWalker) (a : (List Bool)) (hp : WOk w ∧ (a.length = w.fGraph.fPlaces.toNat) ∧ 0 ≤ p ∧ p < w.fGraph.fPlaces)  : Ct 61 [.sv (.one (I p)), .sv (.one (.ptr 0 0)), .sv (.one (.ptr 1 0))] [.box [.pe (svR (.agg [I w.fGraph.fLetters, I w.fGraph.fPlaces, LS ApiArrow.ty w.fGraph.fArrows, LS (lsT intT) w.fNext])) 4] 66 true, .box [LS boolT a] 27 true] (fun (_ : Unit) => True) (fun _ => .sv (.one (B (leadB w p a)))) := by
 refine (bWh7_walk p w a (fun res_ => res_ = (leadB w p a)) ?_).fun
 unfold bWh7_vc
 exact ⟨⟨hp.1, hp.2.2.1, hp.2.2.2, hp.2.1⟩, rfl⟩
theorem onB_each {n : Int} {r : Int → Bool} {p : Int} (h0 : 0 ≤ p) (h1 : p < n) : onB (eachL n r) p = r p := by
 unfold onB eachL
 rw [List.getD_eq_getElem?_getD, List.getElem?_map, List.getElem?_range (by omega)]
 show r ((p.toNat : Nat) : Int) = r p
 rw [Int.toNat_of_nonneg h0]
theorem cnt_le : ∀ {l l' : List Bool}, l.length = l'.length → (∀ i : Nat, l[i]? = some true → l'[i]? = some true) → l.count true ≤ l'.count true ∧ (l ≠ l' → l.count true < l'.count true)
 | [], [], _, _ => ⟨Nat.le_refl _, fun h => absurd rfl h⟩
 | [], _ :: _, h, _ => by simp at h
 | _ :: _, [], h, _ => by simp at h
 | b :: l, b' :: l', h, hi => by
  obtain ⟨i1, i2⟩ := cnt_le (l := l) (l' := l') (by simpa using h) (fun i e => by have := hi (i + 1) (by simpa using e); simpa using this)
  have h0 := hi 0
  have c1 : ∀ (x : List Bool), (true :: x).count true = x.count true + 1 := fun x => List.count_cons_self
  have c0 : ∀ (x : List Bool), (false :: x).count true = x.count true := fun x => List.count_cons_of_ne (by decide)
  cases b with
  | true => cases b' with
   | true =>
    rw [c1, c1]
    exact ⟨by omega, fun hne => by have := i2 (fun e => hne (by rw [e])); omega⟩
   | false => exact absurd (h0 rfl) (by simp)
  | false => cases b' with
   | true =>
    rw [c0, c1]
    exact ⟨by omega, fun _ => by omega⟩
   | false =>
    rw [c0, c0]
    exact ⟨i1, fun hne => i2 (fun e => hne (by rw [e]))⟩
theorem le_of_on {l l' : List Bool} (hl : l.length = l'.length) (h : ∀ p : Int, 0 ≤ p → p < l.length → onB l p = true → onB l' p = true) (i : Nat) (e : l[i]? = some true) : l'[i]? = some true := by
 obtain ⟨hi, e'⟩ := List.getElem?_eq_some_iff.1 e
 have := h (i : Int) (Int.natCast_nonneg _) (by omega) (by unfold onB; rw [Int.toNat_natCast, List.getD_eq_getElem?_getD, e]; rfl)
 unfold onB at this
 rw [Int.toNat_natCast, List.getD_eq_getElem?_getD, List.getElem?_eq_getElem (by omega)] at this
 rw [List.getElem?_eq_getElem (by omega)]
 exact congrArg some this
theorem untN_cnt {w : BranchWalker} {a o : List Bool} (ho : o.length = w.fGraph.fPlaces.toNat) (hne : ¬ untN w a o = o) : o.count true < (untN w a o).count true ∧ (untN w a o).count true ≤ w.fGraph.fPlaces.toNat := by
 have hl : (untN w a o).length = w.fGraph.fPlaces.toNat := eachL_len _ _
 refine ⟨(cnt_le (by omega) (le_of_on (by omega) fun p h0 h1 e => ?_)).2 (Ne.symm hne), ?_⟩
 ·unfold untN
  rw [onB_each h0 (by omega), e]
  rfl
 ·have := List.count_le_length (a := true) (l := untN w a o)
  omega
theorem evrN_cnt {w : BranchWalker} {o : List Bool} (ho : o.length = w.fGraph.fPlaces.toNat) (hne : ¬ evrN w o = o) : (evrN w o).count true < o.count true := by
 have hl : (evrN w o).length = w.fGraph.fPlaces.toNat := eachL_len _ _
 refine (cnt_le (by omega) (le_of_on (by omega) fun p h0 h1 e => ?_)).2 hne
 unfold evrN at e
 rw [onB_each h0 (by omega), Bool.and_eq_true] at e
 exact e.1
theorem untL_len {w : BranchWalker} {a : List Bool} : ∀ {m : Nat} {o : List Bool}, o.length = w.fGraph.fPlaces.toNat → (untL w a m o).length = w.fGraph.fPlaces.toNat
 | 0, _, h => h
 | m + 1, o, h => by
  rw [untL]
  split
  ·exact h
  ·exact untL_len (eachL_len _ _)
theorem evrL_len {w : BranchWalker} : ∀ {m : Nat} {o : List Bool}, o.length = w.fGraph.fPlaces.toNat → (evrL w m o).length = w.fGraph.fPlaces.toNat
 | 0, _, h => h
 | m + 1, o, h => by
  rw [evrL]
  split
  ·exact h
  ·exact evrL_len (eachL_len _ _)
theorem wayW_len {w : BranchWalker} {sg : Int} {al : Bool} {A : List Bool} (h : A.length = w.fGraph.fPlaces.toNat) : (wayW w sg al A).length = w.fGraph.fPlaces.toNat := by
 unfold wayW
 split
 ·exact eachL_len _ _
 split
 ·exact untL_len h
 ·exact evrL_len h
theorem bSem_leaf {w : BranchWalker} {k : Nat} {a : BLab} {kids : List BTr} (h : a.fSign = 48 ∨ a.fSign = 49) : bSem w (k + 1) (.node a kids) = eachL w.fGraph.fPlaces fun _ => a.fSign == 49 := by
 unfold bSem
 rw [if_pos h]
theorem bSem_let {w : BranchWalker} {k : Nat} {a : BLab} {kids : List BTr} (h : a.fSign = 97) : bSem w (k + 1) (.node a kids) = eachL w.fGraph.fPlaces fun p => letB w a.fLetter p := by
 unfold bSem
 rw [if_neg (by omega), if_pos h]
theorem bSem_one {w : BranchWalker} {k : Nat} {a : BLab} {x : BTr} (h : a.fSign = 33 ∨ a.fSign = 88 ∨ a.fSign = 70 ∨ a.fSign = 71) : bSem w (k + 1) (.node a [x]) = if a.fSign = 33 then notL (bSem w k x) else if a.fAll = true then notL (wayW w a.fSign true (notL (bSem w k x))) else wayW w a.fSign false (bSem w k x) := by
 rw [bSem, if_neg (by omega), if_neg (by omega)]
 show (if a.fSign = 33 then _ else if a.fSign = 38 ∨ a.fSign = 124 ∨ a.fSign = 85 then _ else _) = _
 rw [if_neg (show ¬ (a.fSign = 38 ∨ a.fSign = 124 ∨ a.fSign = 85) by omega)]
theorem bSem_two {w : BranchWalker} {k : Nat} {a : BLab} {x y : BTr} (h : a.fSign = 38 ∨ a.fSign = 124 ∨ a.fSign = 85) : bSem w (k + 1) (.node a [x, y]) = if a.fSign = 38 then eachL w.fGraph.fPlaces (fun p => onB (bSem w k x) p && onB (bSem w k y) p) else if a.fSign = 124 then eachL w.fGraph.fPlaces (fun p => onB (bSem w k x) p || onB (bSem w k y) p) else if a.fAll = true then allU w (bSem w k x) (bSem w k y) else untR w (bSem w k x) (bSem w k y) := by
 rw [bSem, if_neg (by omega), if_neg (by omega)]
 show (if a.fSign = 33 then _ else if a.fSign = 38 ∨ a.fSign = 124 ∨ a.fSign = 85 then _ else _) = _
 rw [if_neg (show ¬ a.fSign = 33 by omega), if_pos h]
theorem bSem_len {w : BranchWalker} : ∀ {k : Nat} {t : BTr}, Shp k t → (bSem w k t).length = w.fGraph.fPlaces.toNat
 | 0, _, h => h.elim
 | k + 1, .node a kids, h => by
  rcases h with ⟨h, rfl⟩ | ⟨h, x, rfl, hx⟩ | ⟨h, x, y, rfl, hx, hy⟩
  ·by_cases c : a.fSign = 48 ∨ a.fSign = 49
   ·rw [bSem, if_pos c]
    exact eachL_len _ _
   ·rw [bSem, if_neg c, if_pos (by omega)]
    exact eachL_len _ _
  ·rw [bSem_one h]
   have e := bSem_len (w := w) hx
   split
   ·rw [notL_len, e]
   split
   ·rw [notL_len, wayW_len (by rw [notL_len, e])]
   ·exact wayW_len e
  ·rw [bSem_two h]
   split
   ·exact eachL_len _ _
   split
   ·exact eachL_len _ _
   split
   ·exact eachL_len _ _
   ·exact untL_len (bSem_len hy)
def bUntil_vc (w : BranchWalker) (a : (List Bool)) (b : (List Bool)) (Q : (List Bool) → Prop) : Prop :=
 a.length ≤ 9223372036854775807 →
 b.length ≤ 9223372036854775807 →
 ((b.length * 1 ≤ 140737488355328) ∧
 ∃ (Inv : (List Bool) → Prop) (mu : (List Bool) → Nat), Inv (b) ∧
 ∀ (l2 : (List Bool)) , Inv l2 → (((∀ p_, 0 ≤ p_ → p_ < w.fGraph.fPlaces → (fun (p : Int) => WOk w ∧ (l2.length = w.fGraph.fPlaces.toNat) ∧ (a.length = w.fGraph.fPlaces.toNat) ∧ 0 ≤ p ∧ p < w.fGraph.fPlaces) p_) ∧ 0 ≤ w.fGraph.fPlaces ∧ w.fGraph.fPlaces ≤ 1000) ∧
 IfP (decide ((eachL w.fGraph.fPlaces (fun (p : Int) => onB l2 p || (onB a p && leadB w p l2))) = l2)) (Q l2) ((Inv (eachL w.fGraph.fPlaces (fun (p : Int) => onB l2 p || (onB a p && leadB w p l2))) ∧ mu (eachL w.fGraph.fPlaces (fun (p : Int) => onB l2 p || (onB a p && leadB w p l2))) < mu l2))))
noncomputable abbrev qbUntil0 (w : BranchWalker) := (.box [.pe (svR (.agg [I w.fGraph.fLetters, I w.fGraph.fPlaces, LS ApiArrow.ty w.fGraph.fArrows, LS (lsT intT) w.fNext])) 4] 66 false : Item)
noncomputable abbrev qbUntil1 := ([sl 3 (.ptr 0 0), sl 4 (.ptr 1 0), sl 7 (.ptr 3 0)] : List (Nat × SC))
theorem bUntil_walk (w : BranchWalker) (a : (List Bool)) (b : (List Bool)) (Q : (List Bool) → Prop) (h : bUntil_vc w a b Q) : Ct 57 [.sv (.one (.pe (svR (.agg [I w.fGraph.fLetters, I w.fGraph.fPlaces, LS ApiArrow.ty w.fGraph.fArrows, LS (lsT intT) w.fNext])) 4)), .sv (.one (LS boolT a)), .sv (.one (LS boolT b))] [] Q (fun (r : (List Bool)) => .sv (.one (LS boolT r))) := by
 have ht := tab_ok
 refine Ct.body Try.func57 rfl rfl rfl rfl (fun c hn => ?_)
 unfold bUntil_vc at h
 refine En.lenL 1 (by rfl) (fun hl => ?_)
 replace h := h hl
 clear hl
 refine En.lenL 2 (by rfl) (fun hl => ?_)
 replace h := h hl
 clear hl
 refine En.sr ?_
 refine WL.rn ht hn 3 ⟨[sl 2 (LS boolT b), sl 3 (.ptr 0 0), sl 4 (.ptr 1 0)], [(qbUntil0 w), .box [LS boolT a] 27 false]⟩ ?_
 refine En.sr ?_
 refine WL.r ht hn 1 ⟨[sl 3 (.ptr 0 0), sl 4 (.ptr 1 0), sl 9 (LS boolT b)], [(qbUntil0 w), .box [LS boolT a] 27 false]⟩ ?_
 obtain ⟨hp, h⟩ := h
 refine WL.mt0 (K := []) (p := some (2, rowI 4 boolT b)) hn (by rfl) (mt_callI 2 (cloneBool_ct b hp) en33 (caps := []) [] rfl rfl (by rfl) (by kernel_rfl) (by kernel_rfl) (by rfl) (by rfl)) (by rfl) (by rfl) (by rfl) ?_
 refine WL.rn ht hn 2 ⟨(qbUntil1), [(qbUntil0 w), .box [LS boolT a] 27 false, rowI 4 boolT b, .box [.own 2] 27 false]⟩ ?_
 refine En.block ?_
 obtain ⟨Inv, mu, h0, hI⟩ := h
 refine En.loop (σ := (List Bool)) (fun zz => Inv zz) (fun zz => mu zz) (fun zz => ⟨(qbUntil1), [(qbUntil0 w), .box [LS boolT a] 27 false, rowI 4 boolT zz, .box [.own 2] 27 false]⟩) b h0 (sub_ok (by kernel_rfl)) ?_
 intro l2 h
 replace h := hI _ h
 show En c ⟨(qbUntil1), [(qbUntil0 w), .box [LS boolT a] 27 false, rowI 4 boolT l2, .box [.own 2] 27 false]⟩ _
 refine En.block ?_
 refine En.sr ?_
 refine WL.r ht hn 2 ⟨[sl 3 (.ptr 0 0), sl 4 (.ptr 1 0), sl 7 (.ptr 3 0), sl 11 (.pe (svR (.agg [I w.fGraph.fLetters, I w.fGraph.fPlaces, LS ApiArrow.ty w.fGraph.fArrows, LS (lsT intT) w.fNext])) 4), sl 12 (.fn 99 [3, 1, 0])], [(qbUntil0 w), .box [LS boolT a] 27 false, rowI 4 boolT l2, .box [.own 2] 27 false]⟩ ?_
 obtain ⟨hp, h⟩ := h
 refine WL.mt0 (K := []) (p := some (4, rowI 4 boolT (eachL w.fGraph.fPlaces (fun (p : Int) => onB l2 p || (onB a p && leadB w p l2))))) hn (by rfl) (mt_lendI (T := boolT) (l := l2) 2 (by rfl) (plain_row fun _ => rfl) (mt_lendFI [3, 1, 0] (by rfl) (plain_row fun _ => rfl) (mt_ghost 12 (o1 (.rd (fvR (fun (x_ : Int) => [.sv (.one (I x_))]) (fun (r : Bool) => .sv (.one (B r))) (fun (p : Int) => WOk w ∧ (l2.length = w.fGraph.fPlaces.toNat) ∧ (a.length = w.fGraph.fPlaces.toNat) ∧ 0 ≤ p ∧ p < w.fGraph.fPlaces) (fun (p : Int) => onB l2 p || (onB a p && leadB w p l2))))) (by rfl) (fv_of (M := [.box [LS boolT l2] 27 true, .box [LS boolT a] 27 true, .box [.pe (svR (.agg [I w.fGraph.fLetters, I w.fGraph.fPlaces, LS ApiArrow.ty w.fGraph.fArrows, LS (lsT intT) w.fNext])) 4] 66 true]) (caps := [3, 1, 0]) (fun x_ hx => bUn1_ct x_ l2 a w hx) en99 rfl (by kernel_rfl) (by rfl) (fun _ => rfl)) (mt_callI 4 (bEach_ct w (fun (p : Int) => WOk w ∧ (l2.length = w.fGraph.fPlaces.toNat) ∧ (a.length = w.fGraph.fPlaces.toNat) ∧ 0 ≤ p ∧ p < w.fGraph.fPlaces) (fun (p : Int) => onB l2 p || (onB a p && leadB w p l2)) hp) en50 (caps := []) [] rfl rfl (by rfl) (by kernel_rfl) (by kernel_rfl) (by rfl) (by rfl))))) (by rfl) (by rfl) (by rfl) ?_
 refine WL.rn ht hn 1 ⟨[sl 3 (.ptr 0 0), sl 4 (.ptr 1 0), sl 7 (.ptr 3 0), sl 8 (.own 4)], [(qbUntil0 w), .box [LS boolT a] 27 false, rowI 4 boolT l2, .box [.own 2] 27 false, rowI 4 boolT (eachL w.fGraph.fPlaces (fun (p : Int) => onB l2 p || (onB a p && leadB w p l2)))]⟩ ?_
 refine En.seq ?_
 refine En.sr ?_
 refine WL.r ht hn 2 ⟨[sl 3 (.ptr 0 0), sl 4 (.ptr 1 0), sl 7 (.ptr 3 0), sl 8 (.own 4), sl 14 (.own 4), sl 15 (.own 2)], [(qbUntil0 w), .box [LS boolT a] 27 false, rowI 4 boolT l2, .box [.own 2] 27 false, rowI 4 boolT (eachL w.fGraph.fPlaces (fun (p : Int) => onB l2 p || (onB a p && leadB w p l2)))]⟩ ?_
 refine WL.m0 hn (mt_lend (T := boolT) (l := (eachL w.fGraph.fPlaces (fun (p : Int) => onB l2 p || (onB a p && leadB w p l2)))) 4 (by rfl) (by rfl) (mt_lend (T := boolT) (l := l2) 2 (by rfl) (by rfl) (mt_c (eqBools_ct (eachL w.fGraph.fPlaces (fun (p : Int) => onB l2 p || (onB a p && leadB w p l2))) l2) en78 rfl))) ?_
 refine WL.nil ?_
 refine En.cd (b := (decide ((eachL w.fGraph.fPlaces (fun (p : Int) => onB l2 p || (onB a p && leadB w p l2))) = l2))) (fun hb => ?_) (fun hb => ?_)
 replace h := h.1 hb
 refine En.sr ?_
 refine WL.rn ht hn 2 ⟨[sl 6 (.own 2)], [.gone, .gone, rowI 4 boolT l2, .gone, .gone]⟩ ?_
 refine En.ret ?_
 refine En.seal (T := boolT) (l := l2) (e := 4) 2 rfl ?_
 exact En.back ht l2 h (by kernel_rfl) rfl
 replace h := h.2 hb
 refine En.skip ?_
 refine En.region ?_
 refine WL.rn ht hn 2 ⟨(qbUntil1), [(qbUntil0 w), .box [LS boolT a] 27 false, .gone, .box [.own 4] 27 false, rowI 4 boolT (eachL w.fGraph.fPlaces (fun (p : Int) => onB l2 p || (onB a p && leadB w p l2)))]⟩ ?_
 refine En.move 4 2 (by rfl) (by rfl) ?_
 exact En.at (I := fun zz => Inv zz ∧ mu zz < mu l2) (T := fun zz => ⟨(qbUntil1), [(qbUntil0 w), .box [LS boolT a] 27 false, rowI 4 boolT zz, .box [.own 2] 27 false]⟩) (eachL w.fGraph.fPlaces (fun (p : Int) => onB l2 p || (onB a p && leadB w p l2))) h (by kernel_rfl)
theorem en57 : ∀ args w, (callFunc 57 args).run Try.prog w = .ok (.enter 57 args) w := enters_of Try.func57 (by kernel_rfl) rfl
theorem bUntil_ct (w : BranchWalker) (a : (List Bool)) (b : (List Bool)) (hp : WOk w ∧ a.length = w.fGraph.fPlaces.toNat ∧ b.length = w.fGraph.fPlaces.toNat)  : Ct 57 [.sv (.one (.pe (svR (.agg [I w.fGraph.fLetters, I w.fGraph.fPlaces, LS ApiArrow.ty w.fGraph.fArrows, LS (lsT intT) w.fNext])) 4)), .sv (.one (LS boolT a)), .sv (.one (LS boolT b))] [] (fun (_ : Unit) => True) (fun _ => .sv (.one (LS boolT (untR w a b)))) := by
 refine (bUntil_walk w a b (fun res_ => res_ = (untR w a b)) ?_).fun
 unfold bUntil_vc
 obtain ⟨hw, ha, hb⟩ := hp
 have hn := hw.pos
 intro _ _
 refine ⟨by omega, fun o => o.length = w.fGraph.fPlaces.toNat ∧ ∃ m, w.fGraph.fPlaces.toNat - o.count true < m ∧ untL w a m o = untR w a b, fun o => w.fGraph.fPlaces.toNat - o.count true, ⟨hb, w.fGraph.fPlaces.toNat + 1, by omega, rfl⟩, ?_⟩
 rintro o ⟨ho, m, hm, he⟩
 obtain ⟨m', rfl⟩ : ∃ m', m = m' + 1 := ⟨m - 1, by omega⟩
 rw [untL] at he
 refine ⟨⟨fun p h0 h1 => ⟨hw, ho, ha, h0, h1⟩, hn⟩, fun hb2 => ?_, fun hb2 => ?_⟩
 ·have e : untN w a o = o := of_decide_eq_true hb2
  rw [if_pos e] at he
  exact he
 ·have e : ¬ untN w a o = o := of_decide_eq_false hb2
  rw [if_neg e] at he
  obtain ⟨c1, c2⟩ := untN_cnt ho e
  exact ⟨⟨eachL_len _ _, m', by show w.fGraph.fPlaces.toNat - (untN w a o).count true < m'; omega, he⟩, by show w.fGraph.fPlaces.toNat - (untN w a o).count true < w.fGraph.fPlaces.toNat - o.count true; omega⟩
def bEver_vc (w : BranchWalker) (a : (List Bool)) (Q : (List Bool) → Prop) : Prop :=
 a.length ≤ 9223372036854775807 →
 ((a.length * 1 ≤ 140737488355328) ∧
 ∃ (Inv : (List Bool) → Prop) (mu : (List Bool) → Nat), Inv (a) ∧
 ∀ (l1 : (List Bool)) , Inv l1 → (((∀ p_, 0 ≤ p_ → p_ < w.fGraph.fPlaces → (fun (p : Int) => WOk w ∧ (l1.length = w.fGraph.fPlaces.toNat) ∧ 0 ≤ p ∧ p < w.fGraph.fPlaces) p_) ∧ 0 ≤ w.fGraph.fPlaces ∧ w.fGraph.fPlaces ≤ 1000) ∧
 IfP (decide ((eachL w.fGraph.fPlaces (fun (p : Int) => onB l1 p && leadB w p l1)) = l1)) (Q l1) ((Inv (eachL w.fGraph.fPlaces (fun (p : Int) => onB l1 p && leadB w p l1)) ∧ mu (eachL w.fGraph.fPlaces (fun (p : Int) => onB l1 p && leadB w p l1)) < mu l1))))
noncomputable abbrev qbEver0 (w : BranchWalker) := (.box [.pe (svR (.agg [I w.fGraph.fLetters, I w.fGraph.fPlaces, LS ApiArrow.ty w.fGraph.fArrows, LS (lsT intT) w.fNext])) 4] 66 false : Item)
theorem bEver_walk (w : BranchWalker) (a : (List Bool)) (Q : (List Bool) → Prop) (h : bEver_vc w a Q) : Ct 58 [.sv (.one (.pe (svR (.agg [I w.fGraph.fLetters, I w.fGraph.fPlaces, LS ApiArrow.ty w.fGraph.fArrows, LS (lsT intT) w.fNext])) 4)), .sv (.one (LS boolT a))] [] Q (fun (r : (List Bool)) => .sv (.one (LS boolT r))) := by
 have ht := tab_ok
 refine Ct.body Try.func58 rfl rfl rfl rfl (fun c hn => ?_)
 unfold bEver_vc at h
 refine En.lenL 1 (by rfl) (fun hl => ?_)
 replace h := h hl
 clear hl
 refine En.sr ?_
 refine WL.rn ht hn 2 ⟨[sl 1 (LS boolT a), sl 2 (.ptr 0 0)], [(qbEver0 w)]⟩ ?_
 refine En.sr ?_
 refine WL.r ht hn 1 ⟨[sl 2 (.ptr 0 0), sl 7 (LS boolT a)], [(qbEver0 w)]⟩ ?_
 obtain ⟨hp, h⟩ := h
 refine WL.mt0 (K := []) (p := some (1, rowI 4 boolT a)) hn (by rfl) (mt_callI 1 (cloneBool_ct a hp) en33 (caps := []) [] rfl rfl (by rfl) (by kernel_rfl) (by kernel_rfl) (by rfl) (by rfl)) (by rfl) (by rfl) (by rfl) ?_
 refine WL.rn ht hn 2 ⟨[sl 2 (.ptr 0 0), sl 5 (.ptr 2 0)], [(qbEver0 w), rowI 4 boolT a, .box [.own 1] 27 false]⟩ ?_
 refine En.block ?_
 obtain ⟨Inv, mu, h0, hI⟩ := h
 refine En.loop (σ := (List Bool)) (fun zz => Inv zz) (fun zz => mu zz) (fun zz => ⟨[sl 2 (.ptr 0 0), sl 5 (.ptr 2 0)], [(qbEver0 w), rowI 4 boolT zz, .box [.own 1] 27 false]⟩) a h0 (sub_ok (by kernel_rfl)) ?_
 intro l1 h
 replace h := hI _ h
 show En c ⟨[sl 2 (.ptr 0 0), sl 5 (.ptr 2 0)], [(qbEver0 w), rowI 4 boolT l1, .box [.own 1] 27 false]⟩ _
 refine En.block ?_
 refine En.sr ?_
 refine WL.r ht hn 2 ⟨[sl 2 (.ptr 0 0), sl 5 (.ptr 2 0), sl 9 (.pe (svR (.agg [I w.fGraph.fLetters, I w.fGraph.fPlaces, LS ApiArrow.ty w.fGraph.fArrows, LS (lsT intT) w.fNext])) 4), sl 10 (.fn 100 [2, 0])], [(qbEver0 w), rowI 4 boolT l1, .box [.own 1] 27 false]⟩ ?_
 obtain ⟨hp, h⟩ := h
 refine WL.mt0 (K := []) (p := some (3, rowI 4 boolT (eachL w.fGraph.fPlaces (fun (p : Int) => onB l1 p && leadB w p l1)))) hn (by rfl) (mt_lendI (T := boolT) (l := l1) 1 (by rfl) (plain_row fun _ => rfl) (mt_lendFI [2, 0] (by rfl) (plain_row fun _ => rfl) (mt_ghost 10 (o1 (.rd (fvR (fun (x_ : Int) => [.sv (.one (I x_))]) (fun (r : Bool) => .sv (.one (B r))) (fun (p : Int) => WOk w ∧ (l1.length = w.fGraph.fPlaces.toNat) ∧ 0 ≤ p ∧ p < w.fGraph.fPlaces) (fun (p : Int) => onB l1 p && leadB w p l1)))) (by rfl) (fv_of (M := [.box [LS boolT l1] 27 true, .box [.pe (svR (.agg [I w.fGraph.fLetters, I w.fGraph.fPlaces, LS ApiArrow.ty w.fGraph.fArrows, LS (lsT intT) w.fNext])) 4] 66 true]) (caps := [2, 0]) (fun x_ hx => bEv1_ct x_ l1 w hx) en100 rfl (by kernel_rfl) (by rfl) (fun _ => rfl)) (mt_callI 3 (bEach_ct w (fun (p : Int) => WOk w ∧ (l1.length = w.fGraph.fPlaces.toNat) ∧ 0 ≤ p ∧ p < w.fGraph.fPlaces) (fun (p : Int) => onB l1 p && leadB w p l1) hp) en50 (caps := []) [] rfl rfl (by rfl) (by kernel_rfl) (by kernel_rfl) (by rfl) (by rfl))))) (by rfl) (by rfl) (by rfl) ?_
 refine WL.rn ht hn 1 ⟨[sl 2 (.ptr 0 0), sl 5 (.ptr 2 0), sl 6 (.own 3)], [(qbEver0 w), rowI 4 boolT l1, .box [.own 1] 27 false, rowI 4 boolT (eachL w.fGraph.fPlaces (fun (p : Int) => onB l1 p && leadB w p l1))]⟩ ?_
 refine En.seq ?_
 refine En.sr ?_
 refine WL.r ht hn 2 ⟨[sl 2 (.ptr 0 0), sl 5 (.ptr 2 0), sl 6 (.own 3), sl 12 (.own 3), sl 13 (.own 1)], [(qbEver0 w), rowI 4 boolT l1, .box [.own 1] 27 false, rowI 4 boolT (eachL w.fGraph.fPlaces (fun (p : Int) => onB l1 p && leadB w p l1))]⟩ ?_
 refine WL.m0 hn (mt_lend (T := boolT) (l := (eachL w.fGraph.fPlaces (fun (p : Int) => onB l1 p && leadB w p l1))) 3 (by rfl) (by rfl) (mt_lend (T := boolT) (l := l1) 1 (by rfl) (by rfl) (mt_c (eqBools_ct (eachL w.fGraph.fPlaces (fun (p : Int) => onB l1 p && leadB w p l1)) l1) en78 rfl))) ?_
 refine WL.nil ?_
 refine En.cd (b := (decide ((eachL w.fGraph.fPlaces (fun (p : Int) => onB l1 p && leadB w p l1)) = l1))) (fun hb => ?_) (fun hb => ?_)
 replace h := h.1 hb
 refine En.sr ?_
 refine WL.rn ht hn 2 ⟨[sl 4 (.own 1)], [.gone, rowI 4 boolT l1, .gone, .gone]⟩ ?_
 refine En.ret ?_
 refine En.seal (T := boolT) (l := l1) (e := 4) 1 rfl ?_
 exact En.back ht l1 h (by kernel_rfl) rfl
 replace h := h.2 hb
 refine En.skip ?_
 refine En.region ?_
 refine WL.rn ht hn 2 ⟨[sl 2 (.ptr 0 0), sl 5 (.ptr 2 0)], [(qbEver0 w), .gone, .box [.own 3] 27 false, rowI 4 boolT (eachL w.fGraph.fPlaces (fun (p : Int) => onB l1 p && leadB w p l1))]⟩ ?_
 refine En.move 3 1 (by rfl) (by rfl) ?_
 exact En.at (I := fun zz => Inv zz ∧ mu zz < mu l1) (T := fun zz => ⟨[sl 2 (.ptr 0 0), sl 5 (.ptr 2 0)], [(qbEver0 w), rowI 4 boolT zz, .box [.own 1] 27 false]⟩) (eachL w.fGraph.fPlaces (fun (p : Int) => onB l1 p && leadB w p l1)) h (by kernel_rfl)
theorem en58 : ∀ args w, (callFunc 58 args).run Try.prog w = .ok (.enter 58 args) w := enters_of Try.func58 (by kernel_rfl) rfl
theorem bEver_ct (w : BranchWalker) (a : (List Bool)) (hp : WOk w ∧ a.length = w.fGraph.fPlaces.toNat)  : Ct 58 [.sv (.one (.pe (svR (.agg [I w.fGraph.fLetters, I w.fGraph.fPlaces, LS ApiArrow.ty w.fGraph.fArrows, LS (lsT intT) w.fNext])) 4)), .sv (.one (LS boolT a))] [] (fun (_ : Unit) => True) (fun _ => .sv (.one (LS boolT (evrR w a)))) := by
 refine (bEver_walk w a (fun res_ => res_ = (evrR w a)) ?_).fun
 unfold bEver_vc
 obtain ⟨hw, ha⟩ := hp
 have hn := hw.pos
 intro _
 refine ⟨by omega, fun o => o.length = w.fGraph.fPlaces.toNat ∧ ∃ m, o.count true < m ∧ evrL w m o = evrR w a, fun o => o.count true, ⟨ha, w.fGraph.fPlaces.toNat + 1, by have := List.count_le_length (a := true) (l := a); omega, rfl⟩, ?_⟩
 rintro o ⟨ho, m, hm, he⟩
 obtain ⟨m', rfl⟩ : ∃ m', m = m' + 1 := ⟨m - 1, by omega⟩
 rw [evrL] at he
 refine ⟨⟨fun p h0 h1 => ⟨hw, ho, h0, h1⟩, hn⟩, fun hb2 => ?_, fun hb2 => ?_⟩
 ·have e : evrN w o = o := of_decide_eq_true hb2
  rw [if_pos e] at he
  exact he
 ·have e : ¬ evrN w o = o := of_decide_eq_false hb2
  rw [if_neg e] at he
  have c1 := evrN_cnt ho e
  exact ⟨⟨eachL_len _ _, m', by show (evrN w o).count true < m'; omega, he⟩, c1⟩
def WhC (k : Nat) : Prop := ∀ (w : BranchWalker) (n : BTr), WOk w ∧ Shp k n → Ct 23 [.sv (.one (.pe (svR (.agg [I w.fGraph.fLetters, I w.fGraph.fPlaces, LS ApiArrow.ty w.fGraph.fArrows, LS (lsT intT) w.fNext])) 4)), .sv (.one (.rd (trR bLab n)))] [] (fun (_ : Unit) => True) (fun _ => .sv (.one (LS boolT (bSem w k n))))
theorem whI (k : Nat) (ih : WhC k) (w : BranchWalker) (n : BTr) (hp : WOk w ∧ Shp k n) : Ct 23 [.sv (.one (.pe (svR (.agg [I w.fGraph.fLetters, I w.fGraph.fPlaces, LS ApiArrow.ty w.fGraph.fArrows, LS (lsT intT) w.fNext])) 4)), .sv (.one (.rd (trR bLab n)))] [] (fun (_ : Unit) => True) (fun _ => .sv (.one (LS boolT (bSem w k n)))) := ih w n hp
theorem en23 : ∀ args w, (callFunc 23 args).run Try.prog w = .ok (.enter 23 args) w := enters_of Try.func23 (by kernel_rfl) rfl
def bWhere_vc (k : Nat) (w : BranchWalker) (n : BTr) (Q : (List Bool) → Prop) : Prop :=
 ∃ J : Bool → Prop, (IfP (n.lab.fSign == 48) (J (n.lab.fSign == 48)) (J (n.lab.fSign == 49))) ∧
 (∀ (x14 : Bool), J x14 → IfP x14 (((∀ p_, 0 ≤ p_ → p_ < w.fGraph.fPlaces → (fun _ => True) p_) ∧ 0 ≤ w.fGraph.fPlaces ∧ w.fGraph.fPlaces ≤ 1000) ∧
 Q (eachL w.fGraph.fPlaces (fun (p : Int) => (n.lab.fSign == 49)))) (IfP (n.lab.fSign == 97) (((∀ p_, 0 ≤ p_ → p_ < w.fGraph.fPlaces → (fun _ => True) p_) ∧ 0 ≤ w.fGraph.fPlaces ∧ w.fGraph.fPlaces ≤ 1000) ∧
 Q (eachL w.fGraph.fPlaces (fun (p : Int) => letB w n.lab.fLetter p))) (∃ e, idx n.kids 0 = some e ∧
 (WOk w ∧ Shp k e) ∧
 IfP (n.lab.fSign == 33) (((bSem w k e).length ≤ 1000) ∧
 Q (notL (bSem w k e))) (∃ J_2 : Bool → Prop, (IfP (n.lab.fSign == 38) (J_2 (n.lab.fSign == 38)) (IfP (n.lab.fSign == 124) (J_2 (n.lab.fSign == 124)) (J_2 (n.lab.fSign == 85)))) ∧
 (∀ (x41 : Bool), J_2 x41 → IfP x41 (∃ e_2, idx n.kids 1 = some e_2 ∧
 (WOk w ∧ Shp k e_2) ∧
 IfP (n.lab.fSign == 38) (((∀ p_, 0 ≤ p_ → p_ < w.fGraph.fPlaces → (fun (p : Int) => inB (bSem w k e) p ∧ inB (bSem w k e_2) p) p_) ∧ 0 ≤ w.fGraph.fPlaces ∧ w.fGraph.fPlaces ≤ 1000) ∧
 Q (eachL w.fGraph.fPlaces (fun (p : Int) => onB (bSem w k e) p && onB (bSem w k e_2) p))) (IfP (n.lab.fSign == 124) (((∀ p_, 0 ≤ p_ → p_ < w.fGraph.fPlaces → (fun (p : Int) => inB (bSem w k e) p ∧ inB (bSem w k e_2) p) p_) ∧ 0 ≤ w.fGraph.fPlaces ∧ w.fGraph.fPlaces ≤ 1000) ∧
 Q (eachL w.fGraph.fPlaces (fun (p : Int) => onB (bSem w k e) p || onB (bSem w k e_2) p))) (IfP (!n.lab.fAll) ((WOk w ∧ (bSem w k e).length = w.fGraph.fPlaces.toNat ∧ (bSem w k e_2).length = w.fGraph.fPlaces.toNat) ∧
 Q (untR w (bSem w k e) (bSem w k e_2))) (((bSem w k e_2).length ≤ 1000) ∧
 (WOk w ∧ (notL (bSem w k e_2)).length = w.fGraph.fPlaces.toNat) ∧
 ((bSem w k e_2).length ≤ 1000) ∧
 ((∀ p_, 0 ≤ p_ → p_ < w.fGraph.fPlaces → (fun (p : Int) => inB (bSem w k e) p ∧ inB (bSem w k e_2) p) p_) ∧ 0 ≤ w.fGraph.fPlaces ∧ w.fGraph.fPlaces ≤ 1000) ∧
 (WOk w ∧ (notL (bSem w k e_2)).length = w.fGraph.fPlaces.toNat ∧ (eachL w.fGraph.fPlaces (fun (p : Int) => !onB (bSem w k e) p && !onB (bSem w k e_2) p)).length = w.fGraph.fPlaces.toNat) ∧
 ((∀ p_, 0 ≤ p_ → p_ < w.fGraph.fPlaces → (fun (p : Int) => inB (evrR w (notL (bSem w k e_2))) p ∧ inB (untR w (notL (bSem w k e_2)) (eachL w.fGraph.fPlaces (fun (p : Int) => !onB (bSem w k e) p && !onB (bSem w k e_2) p))) p) p_) ∧ 0 ≤ w.fGraph.fPlaces ∧ w.fGraph.fPlaces ≤ 1000) ∧
 Q (eachL w.fGraph.fPlaces (fun (p : Int) => !onB (evrR w (notL (bSem w k e_2))) p && !onB (untR w (notL (bSem w k e_2)) (eachL w.fGraph.fPlaces (fun (p : Int) => !onB (bSem w k e) p && !onB (bSem w k e_2) p))) p)))))) (∃ J_3 : (List Bool) → Prop, (IfP n.lab.fAll (((bSem w k e).length ≤ 1000) ∧
 J_3 (notL (bSem w k e))) (J_3 (bSem w k e))) ∧
 (∀ (y2 : (List Bool)), J_3 y2 → ∃ J_4 : (List Bool) → Prop, (IfP (n.lab.fSign == 88) (((∀ p_, 0 ≤ p_ → p_ < w.fGraph.fPlaces → (fun (p : Int) => WOk w ∧ (y2.length = w.fGraph.fPlaces.toNat) ∧ 0 ≤ p ∧ p < w.fGraph.fPlaces) p_) ∧ 0 ≤ w.fGraph.fPlaces ∧ w.fGraph.fPlaces ≤ 1000) ∧
 J_4 (eachL w.fGraph.fPlaces (fun (p : Int) => leadB w p y2))) (IfP ((n.lab.fSign == 70) != n.lab.fAll) ((WOk w) ∧
 (WOk w ∧ (eachL w.fGraph.fPlaces (fun _ => true)).length = w.fGraph.fPlaces.toNat ∧ y2.length = w.fGraph.fPlaces.toNat) ∧
 J_4 (untR w (eachL w.fGraph.fPlaces (fun _ => true)) y2)) ((WOk w ∧ y2.length = w.fGraph.fPlaces.toNat) ∧
 J_4 (evrR w y2)))) ∧
 (∀ (x9 : (List Bool)), J_4 x9 → IfP n.lab.fAll ((x9.length ≤ 1000) ∧
 Q (notL x9)) (Q x9)))))))))
noncomputable abbrev qbWhere0 (w : BranchWalker) := (svR (.agg [I w.fGraph.fLetters, I w.fGraph.fPlaces, LS ApiArrow.ty w.fGraph.fArrows, LS (lsT intT) w.fNext]))
noncomputable abbrev qbWhere1 (w : BranchWalker) (n : BTr) (k : Nat) (y0) := ([.box [.pe (qbWhere0 w) 4] 66 false, .box [.rd (trR bLab n)] 63 false, .box [LS boolT (bSem w k y0)] 27 false] : List Item)
noncomputable abbrev qbWhere2 (w : BranchWalker) := (.box [.pe (qbWhere0 w) 4] 66 false : Item)
noncomputable abbrev qbWhere3 (n : BTr) := (.box [.rd (trR bLab n)] 63 false : Item)
noncomputable abbrev qbWhere4 (n : BTr) := (svR (.agg [.v (.int .u8 n.lab.fSign), B n.lab.fAll, I n.lab.fLetter, LS (TT bLab) n.kids]))
noncomputable abbrev qbWhere5 := ([sl 2 (.ptr 0 0), sl 3 (.ptr 1 0), sl 5 (.ptr 2 0)] : List (Nat × SC))
noncomputable abbrev qbWhere6 (w : BranchWalker) (k : Nat) (y0) := (.box [LS boolT (bSem w k y0)] 27 false : Item)
noncomputable abbrev qbWhere7 := sl 3 (.ptr 1 0)
noncomputable abbrev qbWhere8 := sl 2 (.ptr 0 0)
noncomputable abbrev qbWhere9 (w : BranchWalker) (k : Nat) (y0) := (.box [LS boolT (bSem w k y0)] 27 false : Item)
noncomputable abbrev qbWhere10 (n : BTr) := (fun (p : Int) => (n.lab.fSign == 49))
set_option maxHeartbeats 2000000 in
theorem bWhere_walk (k : Nat) (w : BranchWalker) (n : BTr) (ih : WhC k) (Q : (List Bool) → Prop) (h : bWhere_vc k w n Q) : Ct 23 [.sv (.one (.pe (svR (.agg [I w.fGraph.fLetters, I w.fGraph.fPlaces, LS ApiArrow.ty w.fGraph.fArrows, LS (lsT intT) w.fNext])) 4)), .sv (.one (.rd (trR bLab n)))] [] Q (fun (r : (List Bool)) => .sv (.one (LS boolT r))) := by
 have ht := tab_ok
 refine Ct.body Try.func23 rfl rfl rfl rfl (fun c hn => ?_)
 unfold bWhere_vc at h
 refine En.sr ?_
 refine WL.rn ht hn 3 ⟨[(qbWhere8), (qbWhere7)], [(qbWhere2 w), (qbWhere3 n)]⟩ ?_
 refine En.seq ?_
 refine En.sr ?_
 refine WL.r ht hn 1 ⟨[(qbWhere8), (qbWhere7), sl 10 (.rd (trR bLab n))], [(qbWhere2 w), (qbWhere3 n)]⟩ ?_
 refine WL.v hn (val_node (s := .agg [.v (.int .u8 n.lab.fSign), B n.lab.fAll, I n.lab.fLetter, LS (TT bLab) n.kids]) (t := n) (lab := bLab) bLabH rfl (by rfl) rfl rfl) ?_
 refine WL.v hn (val_fd (l := [.v (.int .u8 n.lab.fSign), B n.lab.fAll, I n.lab.fLetter, LS (TT bLab) n.kids]) (r := .one (.v (.int .u8 n.lab.fSign))) ht rfl) ?_
 refine WL.v hn (val_ld (s := .one (.v (.int .u8 n.lab.fSign))) ht rfl) ?_
 refine WL.nil ?_
 refine En.block ?_
 obtain ⟨J, h, hJ⟩ := h
 refine En.seqJ (σ := Bool) (fun zz => J zz) (fun zz => ⟨[(qbWhere8), (qbWhere7), sl 13 (.v (.int .u8 n.lab.fSign)), sl 14 (B zz)], [(qbWhere2 w), (qbWhere3 n)]⟩) ?_ ?_
 refine En.sr ?_
 refine WL.rn ht hn 2 ⟨[(qbWhere8), (qbWhere7), sl 13 (.v (.int .u8 n.lab.fSign)), sl 14 (B (n.lab.fSign == 48))], [(qbWhere2 w), (qbWhere3 n)]⟩ ?_
 refine En.cd (b := (n.lab.fSign == 48)) (fun hb => ?_) (fun hb => ?_)
 replace h := h.1 hb
 refine En.skip ?_
 exact En.at (I := fun zz => J zz) (T := fun zz => ⟨[(qbWhere8), (qbWhere7), sl 13 (.v (.int .u8 n.lab.fSign)), sl 14 (B zz)], [(qbWhere2 w), (qbWhere3 n)]⟩) (n.lab.fSign == 48) h (by kernel_rfl)
 replace h := h.2 hb
 refine En.region ?_
 refine WL.rn ht hn 2 ⟨[(qbWhere8), (qbWhere7), sl 13 (.v (.int .u8 n.lab.fSign)), sl 14 (B (n.lab.fSign == 49))], [(qbWhere2 w), (qbWhere3 n)]⟩ ?_
 exact En.at (I := fun zz => J zz) (T := fun zz => ⟨[(qbWhere8), (qbWhere7), sl 13 (.v (.int .u8 n.lab.fSign)), sl 14 (B zz)], [(qbWhere2 w), (qbWhere3 n)]⟩) (n.lab.fSign == 49) h (by kernel_rfl)
 intro x14 h
 replace h := hJ _ h
 show En c ⟨[(qbWhere8), (qbWhere7), sl 13 (.v (.int .u8 n.lab.fSign)), sl 14 (B x14)], [(qbWhere2 w), (qbWhere3 n)]⟩ _
 refine En.cd (b := x14) (fun hb => ?_) (fun hb => ?_)
 replace h := h.1 hb
 refine En.sr ?_
 refine WL.r ht hn 2 ⟨[sl 17 (.pe (qbWhere0 w) 4), sl 18 (.fn 51 [1])], [.gone, (qbWhere3 n)]⟩ ?_
 obtain ⟨hp, h⟩ := h
 refine WL.mt0 (K := []) (p := some (2, rowI 4 boolT (eachL w.fGraph.fPlaces (qbWhere10 n)))) hn (by rfl) (mt_lendFI [1] (by rfl) (plain_row fun _ => rfl) (mt_ghost 18 (o1 (.rd (fvR (fun (x_ : Int) => [.sv (.one (I x_))]) (fun (r : Bool) => .sv (.one (B r))) (fun _ => True) (qbWhere10 n)))) (by rfl) (fv_of (M := [.box [.rd (trR bLab n)] 63 true]) (caps := [1]) (fun x_ _ => bWh1_ct x_ n) en51 rfl (by kernel_rfl) (by rfl) (fun _ => rfl)) (mt_callI 2 (bEach_ct w (fun _ => True) (qbWhere10 n) hp) en50 (caps := []) [] rfl rfl (by rfl) (by kernel_rfl) (by kernel_rfl) (by rfl) (by rfl)))) (by rfl) (by rfl) (by rfl) ?_
 refine WL.rn ht hn 1 ⟨[sl 4 (.own 2)], [.gone, .gone, rowI 4 boolT (eachL w.fGraph.fPlaces (qbWhere10 n))]⟩ ?_
 refine En.ret ?_
 refine En.seal (T := boolT) (l := (eachL w.fGraph.fPlaces (qbWhere10 n))) (e := 4) 2 rfl ?_
 exact En.back ht (eachL w.fGraph.fPlaces (qbWhere10 n)) h (by kernel_rfl) rfl
 replace h := h.2 hb
 refine En.sr ?_
 refine WL.rn ht hn 2 ⟨[(qbWhere8), (qbWhere7), sl 20 (B (n.lab.fSign == 97))], [(qbWhere2 w), (qbWhere3 n)]⟩ ?_
 refine En.cd (b := (n.lab.fSign == 97)) (fun hb => ?_) (fun hb => ?_)
 replace h := h.1 hb
 refine En.sr ?_
 refine WL.r ht hn 2 ⟨[sl 22 (.pe (qbWhere0 w) 4), sl 23 (.fn 52 [0, 1])], [(qbWhere2 w), (qbWhere3 n)]⟩ ?_
 obtain ⟨hp, h⟩ := h
 refine WL.mt0 (K := []) (p := some (2, rowI 4 boolT (eachL w.fGraph.fPlaces (fun (p : Int) => letB w n.lab.fLetter p)))) hn (by rfl) (mt_lendFI [0, 1] (by rfl) (plain_row fun _ => rfl) (mt_ghost 23 (o1 (.rd (fvR (fun (x_ : Int) => [.sv (.one (I x_))]) (fun (r : Bool) => .sv (.one (B r))) (fun _ => True) (fun (p : Int) => letB w n.lab.fLetter p)))) (by rfl) (fv_of (M := [.box [.pe (qbWhere0 w) 4] 66 true, .box [.rd (trR bLab n)] 63 true]) (caps := [0, 1]) (fun x_ _ => bWh2_ct x_ w n) en52 rfl (by kernel_rfl) (by rfl) (fun _ => rfl)) (mt_callI 2 (bEach_ct w (fun _ => True) (fun (p : Int) => letB w n.lab.fLetter p) hp) en50 (caps := []) [] rfl rfl (by rfl) (by kernel_rfl) (by kernel_rfl) (by rfl) (by rfl)))) (by rfl) (by rfl) (by rfl) ?_
 refine WL.rn ht hn 1 ⟨[sl 4 (.own 2)], [.gone, .gone, rowI 4 boolT (eachL w.fGraph.fPlaces (fun (p : Int) => letB w n.lab.fLetter p))]⟩ ?_
 refine En.ret ?_
 refine En.seal (T := boolT) (l := (eachL w.fGraph.fPlaces (fun (p : Int) => letB w n.lab.fLetter p))) (e := 4) 2 rfl ?_
 exact En.back ht (eachL w.fGraph.fPlaces (fun (p : Int) => letB w n.lab.fLetter p)) h (by kernel_rfl) rfl
 replace h := h.2 hb
 refine En.skip ?_
 refine En.seq ?_
 obtain ⟨e, he, h⟩ := h
 obtain ⟨hp_2, h⟩ := h
 refine En.regionA ⟨[(qbWhere8), (qbWhere7)], [.sv (.one (.pe (qbWhere0 w) 4)), .sv (.one (.rd (trR bLab n))), .sv (.one (.pe (qbWhere4 n) 4)), .sv (.one (.pe (svR (.one (LS (TT bLab) n.kids))) 1)), .sv (.one (LS (TT bLab) n.kids)), .sv (.one (.pe (svR (.one (.rd (trR bLab e)))) 1)), .sv (.one (.rd (trR bLab e))), .sv (.one (LS boolT (bSem w k e))), .sv (.one (.ptr 2 0)), .tup []], [⟨(qbWhere2 w), none, none, none⟩, ⟨(qbWhere3 n), none, none, none⟩, ⟨.box [.v (.slice none 0 0)] 27 false, some 8, none, some (9, (qbWhere9 w k e))⟩]⟩ ⟨(qbWhere5), (qbWhere1 w n k e)⟩ (by kernel_rfl) hn (by kernel_rfl) (by rfl) (by kernel_rfl) ?_ (by kernel_rfl) ?_
 exact ⟨.ev ⟨[(qbWhere8)], [(qbWhere2 w)]⟩ ht,
 .ev ⟨[(qbWhere7)], [.gone, (qbWhere3 n)]⟩ ht,
 .vl ⟨[sl 26 (.rd (trR bLab n))], []⟩ (mt_val (val_node (s := .agg [.v (.int .u8 n.lab.fSign), B n.lab.fAll, I n.lab.fLetter, LS (TT bLab) n.kids]) (t := n) (lab := bLab) bLabH rfl (by rfl) rfl rfl)),
 .vl ⟨[sl 27 (.pe (qbWhere4 n) 4)], []⟩ (mt_val (val_fd (l := [.v (.int .u8 n.lab.fSign), B n.lab.fAll, I n.lab.fLetter, LS (TT bLab) n.kids]) (r := .one (LS (TT bLab) n.kids)) ht rfl)),
 .vl ⟨[sl 28 (.pe (svR (.one (LS (TT bLab) n.kids))) 1)], []⟩ (mt_val (val_ld (s := .one (LS (TT bLab) n.kids)) ht rfl)),
 .vl ⟨[sl 29 (LS (TT bLab) n.kids)], []⟩ (mt_val (val_ix (T := (TT bLab)) (l := n.kids) (i := 0) ht rfl he)),
 .vl ⟨[sl 30 (.pe (svR (.one (.rd (trR bLab e)))) 1)], []⟩ (mt_val (val_ld (s := .one (.rd (trR bLab e))) ht rfl)),
 .vl ⟨[sl 25 (.pe (qbWhere0 w) 4), sl 31 (.rd (trR bLab e))], []⟩ (mt_c (whI k ih w e hp_2) en23 rfl),
 .mt ⟨[], []⟩ [] (some 2) (by kernel_rfl) (by rfl) (mt_alloc2 2 27 ht rfl (by rfl) (by rfl)) rfl rfl rfl rfl,
 .mu ⟨[sl 5 (.ptr 2 0), sl 32 (LS boolT (bSem w k e))], [.gone, .gone, .box [.v (.slice none 0 0)] 27 false]⟩ 2 _ _ rfl rfl (by kernel_rfl) (by rfl) (mu_store2 ht rfl (by rfl) (by rfl) (by rfl) (by rfl) (fun h => by cases h) (by rfl) (by rfl)) rfl rfl rfl rfl rfl rfl rfl,
 trivial⟩
 refine En.seq ?_
 refine En.sr ?_
 refine WL.r ht hn 1 ⟨[(qbWhere8), (qbWhere7), sl 5 (.ptr 2 0), sl 33 (.rd (trR bLab n))], (qbWhere1 w n k e)⟩ ?_
 refine WL.v hn (val_node (s := .agg [.v (.int .u8 n.lab.fSign), B n.lab.fAll, I n.lab.fLetter, LS (TT bLab) n.kids]) (t := n) (lab := bLab) bLabH rfl (by rfl) rfl rfl) ?_
 refine WL.v hn (val_fd (l := [.v (.int .u8 n.lab.fSign), B n.lab.fAll, I n.lab.fLetter, LS (TT bLab) n.kids]) (r := .one (.v (.int .u8 n.lab.fSign))) ht rfl) ?_
 refine WL.v hn (val_ld (s := .one (.v (.int .u8 n.lab.fSign))) ht rfl) ?_
 refine WL.nil ?_
 refine En.block ?_
 refine En.sr ?_
 refine WL.rn ht hn 2 ⟨[(qbWhere8), (qbWhere7), sl 5 (.ptr 2 0), sl 36 (.v (.int .u8 n.lab.fSign)), sl 37 (B (n.lab.fSign == 33))], (qbWhere1 w n k e)⟩ ?_
 refine En.cd (b := (n.lab.fSign == 33)) (fun hb => ?_) (fun hb => ?_)
 replace h := h.1 hb
 refine En.sr ?_
 refine WL.r ht hn 1 ⟨[sl 39 (LS boolT (bSem w k e))], [.gone, .gone, .gone]⟩ ?_
 obtain ⟨hp, h⟩ := h
 refine WL.m0 hn (mt_c (bNot_ct (bSem w k e) hp) en54 rfl) ?_
 refine WL.rn ht hn 1 ⟨[sl 4 (LS boolT (notL (bSem w k e)))], [.gone, .gone, .gone]⟩ ?_
 exact En.rb ht (notL (bSem w k e)) h
 replace h := h.2 hb
 obtain ⟨J_2, h, hJ_2⟩ := h
 refine En.seqJ (σ := Bool) (fun zz => J_2 zz) (fun zz => ⟨[(qbWhere8), (qbWhere7), sl 5 (.ptr 2 0), sl 41 (B zz)], (qbWhere1 w n k e)⟩) ?_ ?_
 refine En.sr ?_
 refine WL.rn ht hn 2 ⟨[(qbWhere8), (qbWhere7), sl 5 (.ptr 2 0), sl 36 (.v (.int .u8 n.lab.fSign)), sl 41 (B (n.lab.fSign == 38))], (qbWhere1 w n k e)⟩ ?_
 refine En.cd (b := (n.lab.fSign == 38)) (fun hb => ?_) (fun hb => ?_)
 replace h := h.1 hb
 refine En.skip ?_
 exact En.at (I := fun zz => J_2 zz) (T := fun zz => ⟨[(qbWhere8), (qbWhere7), sl 5 (.ptr 2 0), sl 41 (B zz)], (qbWhere1 w n k e)⟩) (n.lab.fSign == 38) h (by kernel_rfl)
 replace h := h.2 hb
 refine En.sr ?_
 refine WL.rn ht hn 2 ⟨[(qbWhere8), (qbWhere7), sl 5 (.ptr 2 0), sl 36 (.v (.int .u8 n.lab.fSign)), sl 41 (B (n.lab.fSign == 124))], (qbWhere1 w n k e)⟩ ?_
 refine En.cd (b := (n.lab.fSign == 124)) (fun hb => ?_) (fun hb => ?_)
 replace h := h.1 hb
 refine En.skip ?_
 exact En.at (I := fun zz => J_2 zz) (T := fun zz => ⟨[(qbWhere8), (qbWhere7), sl 5 (.ptr 2 0), sl 41 (B zz)], (qbWhere1 w n k e)⟩) (n.lab.fSign == 124) h (by kernel_rfl)
 replace h := h.2 hb
 refine En.region ?_
 refine WL.rn ht hn 2 ⟨[(qbWhere8), (qbWhere7), sl 5 (.ptr 2 0), sl 41 (B (n.lab.fSign == 85))], (qbWhere1 w n k e)⟩ ?_
 exact En.at (I := fun zz => J_2 zz) (T := fun zz => ⟨[(qbWhere8), (qbWhere7), sl 5 (.ptr 2 0), sl 41 (B zz)], (qbWhere1 w n k e)⟩) (n.lab.fSign == 85) h (by kernel_rfl)
 intro x41 h
 replace h := hJ_2 _ h
 show En c ⟨[(qbWhere8), (qbWhere7), sl 5 (.ptr 2 0), sl 41 (B x41)], (qbWhere1 w n k e)⟩ _
 refine En.cd (b := x41) (fun hb => ?_) (fun hb => ?_)
 replace h := h.1 hb
 refine En.seq ?_
 obtain ⟨e_2, he_2, h⟩ := h
 obtain ⟨hp_3, h⟩ := h
 refine En.regionA ⟨(qbWhere5), [.sv (.one (.pe (qbWhere0 w) 4)), .sv (.one (.rd (trR bLab n))), .sv (.one (.pe (qbWhere4 n) 4)), .sv (.one (.pe (svR (.one (LS (TT bLab) n.kids))) 1)), .sv (.one (LS (TT bLab) n.kids)), .sv (.one (.pe (svR (.one (.rd (trR bLab e_2)))) 1)), .sv (.one (.rd (trR bLab e_2))), .sv (.one (LS boolT (bSem w k e_2))), .sv (.one (.ptr 3 0)), .tup []], [⟨(qbWhere2 w), none, none, none⟩, ⟨(qbWhere3 n), none, none, none⟩, ⟨(qbWhere9 w k e), none, none, none⟩, ⟨.box [.v (.slice none 0 0)] 27 false, some 8, none, some (9, (qbWhere6 w k e_2))⟩]⟩ ⟨[(qbWhere8), (qbWhere7), sl 5 (.ptr 2 0), sl 6 (.ptr 3 0)], [(qbWhere2 w), (qbWhere3 n), (qbWhere9 w k e), (qbWhere6 w k e_2)]⟩ (by kernel_rfl) hn (by kernel_rfl) (by rfl) (by kernel_rfl) ?_ (by kernel_rfl) ?_
 exact ⟨.ev ⟨[(qbWhere8)], [(qbWhere2 w)]⟩ ht,
 .ev ⟨[(qbWhere7)], [.gone, (qbWhere3 n)]⟩ ht,
 .vl ⟨[sl 46 (.rd (trR bLab n))], []⟩ (mt_val (val_node (s := .agg [.v (.int .u8 n.lab.fSign), B n.lab.fAll, I n.lab.fLetter, LS (TT bLab) n.kids]) (t := n) (lab := bLab) bLabH rfl (by rfl) rfl rfl)),
 .vl ⟨[sl 47 (.pe (qbWhere4 n) 4)], []⟩ (mt_val (val_fd (l := [.v (.int .u8 n.lab.fSign), B n.lab.fAll, I n.lab.fLetter, LS (TT bLab) n.kids]) (r := .one (LS (TT bLab) n.kids)) ht rfl)),
 .vl ⟨[sl 48 (.pe (svR (.one (LS (TT bLab) n.kids))) 1)], []⟩ (mt_val (val_ld (s := .one (LS (TT bLab) n.kids)) ht rfl)),
 .vl ⟨[sl 49 (LS (TT bLab) n.kids)], []⟩ (mt_val (val_ix (T := (TT bLab)) (l := n.kids) (i := 1) ht rfl he_2)),
 .vl ⟨[sl 50 (.pe (svR (.one (.rd (trR bLab e_2)))) 1)], []⟩ (mt_val (val_ld (s := .one (.rd (trR bLab e_2))) ht rfl)),
 .vl ⟨[sl 45 (.pe (qbWhere0 w) 4), sl 51 (.rd (trR bLab e_2))], []⟩ (mt_c (whI k ih w e_2 hp_3) en23 rfl),
 .mt ⟨[], []⟩ [] (some 3) (by kernel_rfl) (by rfl) (mt_alloc2 3 27 ht rfl (by rfl) (by rfl)) rfl rfl rfl rfl,
 .mu ⟨[sl 6 (.ptr 3 0), sl 52 (LS boolT (bSem w k e_2))], [.gone, .gone, .gone, .box [.v (.slice none 0 0)] 27 false]⟩ 3 _ _ rfl rfl (by kernel_rfl) (by rfl) (mu_store2 ht rfl (by rfl) (by rfl) (by rfl) (by rfl) (fun h => by cases h) (by rfl) (by rfl)) rfl rfl rfl rfl rfl rfl rfl,
 trivial⟩
 refine En.seq ?_
 refine En.block ?_
 refine En.sr ?_
 refine WL.r ht hn 1 ⟨[(qbWhere8), (qbWhere7), sl 5 (.ptr 2 0), sl 6 (.ptr 3 0), sl 54 (.rd (trR bLab n))], [(qbWhere2 w), (qbWhere3 n), (qbWhere9 w k e), (qbWhere6 w k e_2)]⟩ ?_
 refine WL.v hn (val_node (s := .agg [.v (.int .u8 n.lab.fSign), B n.lab.fAll, I n.lab.fLetter, LS (TT bLab) n.kids]) (t := n) (lab := bLab) bLabH rfl (by rfl) rfl rfl) ?_
 refine WL.v hn (val_fd (l := [.v (.int .u8 n.lab.fSign), B n.lab.fAll, I n.lab.fLetter, LS (TT bLab) n.kids]) (r := .one (.v (.int .u8 n.lab.fSign))) ht rfl) ?_
 refine WL.v hn (val_ld (s := .one (.v (.int .u8 n.lab.fSign))) ht rfl) ?_
 refine WL.rn ht hn 2 ⟨[(qbWhere8), (qbWhere7), sl 5 (.ptr 2 0), sl 6 (.ptr 3 0), sl 53 (B (n.lab.fSign == 38))], [(qbWhere2 w), (qbWhere3 n), (qbWhere9 w k e), (qbWhere6 w k e_2)]⟩ ?_
 refine En.cd (b := (n.lab.fSign == 38)) (fun hb => ?_) (fun hb => ?_)
 replace h := h.1 hb
 refine En.sr ?_
 refine WL.r ht hn 2 ⟨[sl 59 (.pe (qbWhere0 w) 4), sl 60 (.fn 55 [2, 3])], [.gone, .gone, (qbWhere9 w k e), (qbWhere6 w k e_2)]⟩ ?_
 obtain ⟨hp, h⟩ := h
 refine WL.mt0 (K := []) (p := some (4, rowI 4 boolT (eachL w.fGraph.fPlaces (fun (p : Int) => onB (bSem w k e) p && onB (bSem w k e_2) p)))) hn (by rfl) (mt_lendFI [2, 3] (by rfl) (plain_row fun _ => rfl) (mt_ghost 60 (o1 (.rd (fvR (fun (x_ : Int) => [.sv (.one (I x_))]) (fun (r : Bool) => .sv (.one (B r))) (fun (p : Int) => inB (bSem w k e) p ∧ inB (bSem w k e_2) p) (fun (p : Int) => onB (bSem w k e) p && onB (bSem w k e_2) p)))) (by rfl) (fv_of (M := [.box [LS boolT (bSem w k e)] 27 true, .box [LS boolT (bSem w k e_2)] 27 true]) (caps := [2, 3]) (fun x_ hx => bWh3_ct x_ (bSem w k e) (bSem w k e_2) hx) en55 rfl (by kernel_rfl) (by rfl) (fun _ => rfl)) (mt_callI 4 (bEach_ct w (fun (p : Int) => inB (bSem w k e) p ∧ inB (bSem w k e_2) p) (fun (p : Int) => onB (bSem w k e) p && onB (bSem w k e_2) p) hp) en50 (caps := []) [] rfl rfl (by rfl) (by kernel_rfl) (by kernel_rfl) (by rfl) (by rfl)))) (by rfl) (by rfl) (by rfl) ?_
 refine WL.rn ht hn 1 ⟨[sl 4 (.own 4)], [.gone, .gone, .gone, .gone, rowI 4 boolT (eachL w.fGraph.fPlaces (fun (p : Int) => onB (bSem w k e) p && onB (bSem w k e_2) p))]⟩ ?_
 refine En.ret ?_
 refine En.seal (T := boolT) (l := (eachL w.fGraph.fPlaces (fun (p : Int) => onB (bSem w k e) p && onB (bSem w k e_2) p))) (e := 4) 4 rfl ?_
 exact En.back ht (eachL w.fGraph.fPlaces (fun (p : Int) => onB (bSem w k e) p && onB (bSem w k e_2) p)) h (by kernel_rfl) rfl
 replace h := h.2 hb
 refine En.sr ?_
 refine WL.r ht hn 1 ⟨[(qbWhere8), (qbWhere7), sl 5 (.ptr 2 0), sl 6 (.ptr 3 0), sl 63 (.rd (trR bLab n))], [(qbWhere2 w), (qbWhere3 n), (qbWhere9 w k e), (qbWhere6 w k e_2)]⟩ ?_
 refine WL.v hn (val_node (s := .agg [.v (.int .u8 n.lab.fSign), B n.lab.fAll, I n.lab.fLetter, LS (TT bLab) n.kids]) (t := n) (lab := bLab) bLabH rfl (by rfl) rfl rfl) ?_
 refine WL.v hn (val_fd (l := [.v (.int .u8 n.lab.fSign), B n.lab.fAll, I n.lab.fLetter, LS (TT bLab) n.kids]) (r := .one (.v (.int .u8 n.lab.fSign))) ht rfl) ?_
 refine WL.v hn (val_ld (s := .one (.v (.int .u8 n.lab.fSign))) ht rfl) ?_
 refine WL.rn ht hn 2 ⟨[(qbWhere8), (qbWhere7), sl 5 (.ptr 2 0), sl 6 (.ptr 3 0), sl 62 (B (n.lab.fSign == 124))], [(qbWhere2 w), (qbWhere3 n), (qbWhere9 w k e), (qbWhere6 w k e_2)]⟩ ?_
 refine En.cd (b := (n.lab.fSign == 124)) (fun hb => ?_) (fun hb => ?_)
 replace h := h.1 hb
 refine En.sr ?_
 refine WL.r ht hn 2 ⟨[sl 68 (.pe (qbWhere0 w) 4), sl 69 (.fn 56 [2, 3])], [.gone, .gone, (qbWhere9 w k e), (qbWhere6 w k e_2)]⟩ ?_
 obtain ⟨hp, h⟩ := h
 refine WL.mt0 (K := []) (p := some (4, rowI 4 boolT (eachL w.fGraph.fPlaces (fun (p : Int) => onB (bSem w k e) p || onB (bSem w k e_2) p)))) hn (by rfl) (mt_lendFI [2, 3] (by rfl) (plain_row fun _ => rfl) (mt_ghost 69 (o1 (.rd (fvR (fun (x_ : Int) => [.sv (.one (I x_))]) (fun (r : Bool) => .sv (.one (B r))) (fun (p : Int) => inB (bSem w k e) p ∧ inB (bSem w k e_2) p) (fun (p : Int) => onB (bSem w k e) p || onB (bSem w k e_2) p)))) (by rfl) (fv_of (M := [.box [LS boolT (bSem w k e)] 27 true, .box [LS boolT (bSem w k e_2)] 27 true]) (caps := [2, 3]) (fun x_ hx => bWh4_ct x_ (bSem w k e) (bSem w k e_2) hx) en56 rfl (by kernel_rfl) (by rfl) (fun _ => rfl)) (mt_callI 4 (bEach_ct w (fun (p : Int) => inB (bSem w k e) p ∧ inB (bSem w k e_2) p) (fun (p : Int) => onB (bSem w k e) p || onB (bSem w k e_2) p) hp) en50 (caps := []) [] rfl rfl (by rfl) (by kernel_rfl) (by kernel_rfl) (by rfl) (by rfl)))) (by rfl) (by rfl) (by rfl) ?_
 refine WL.rn ht hn 1 ⟨[sl 4 (.own 4)], [.gone, .gone, .gone, .gone, rowI 4 boolT (eachL w.fGraph.fPlaces (fun (p : Int) => onB (bSem w k e) p || onB (bSem w k e_2) p))]⟩ ?_
 refine En.ret ?_
 refine En.seal (T := boolT) (l := (eachL w.fGraph.fPlaces (fun (p : Int) => onB (bSem w k e) p || onB (bSem w k e_2) p))) (e := 4) 4 rfl ?_
 exact En.back ht (eachL w.fGraph.fPlaces (fun (p : Int) => onB (bSem w k e) p || onB (bSem w k e_2) p)) h (by kernel_rfl) rfl
 replace h := h.2 hb
 refine En.sr ?_
 refine WL.r ht hn 1 ⟨[(qbWhere8), sl 5 (.ptr 2 0), sl 6 (.ptr 3 0), sl 72 (.rd (trR bLab n))], [(qbWhere2 w), .gone, (qbWhere9 w k e), (qbWhere6 w k e_2)]⟩ ?_
 refine WL.v hn (val_node (s := .agg [.v (.int .u8 n.lab.fSign), B n.lab.fAll, I n.lab.fLetter, LS (TT bLab) n.kids]) (t := n) (lab := bLab) bLabH rfl (by rfl) rfl rfl) ?_
 refine WL.v hn (val_fd (l := [.v (.int .u8 n.lab.fSign), B n.lab.fAll, I n.lab.fLetter, LS (TT bLab) n.kids]) (r := .one (B n.lab.fAll)) ht rfl) ?_
 refine WL.v hn (val_ld (s := .one (B n.lab.fAll)) ht rfl) ?_
 refine WL.rn ht hn 2 ⟨[(qbWhere8), sl 5 (.ptr 2 0), sl 6 (.ptr 3 0), sl 71 (B (!n.lab.fAll))], [(qbWhere2 w), .gone, (qbWhere9 w k e), (qbWhere6 w k e_2)]⟩ ?_
 refine En.cd (b := (!n.lab.fAll)) (fun hb => ?_) (fun hb => ?_)
 replace h := h.1 hb
 refine En.sr ?_
 refine WL.r ht hn 3 ⟨[sl 77 (.pe (qbWhere0 w) 4), sl 78 (LS boolT (bSem w k e)), sl 79 (LS boolT (bSem w k e_2))], [.gone, .gone, .gone, .gone]⟩ ?_
 obtain ⟨hp, h⟩ := h
 refine WL.m0 hn (mt_c (bUntil_ct w (bSem w k e) (bSem w k e_2) hp) en57 rfl) ?_
 refine WL.rn ht hn 1 ⟨[sl 4 (LS boolT (untR w (bSem w k e) (bSem w k e_2)))], [.gone, .gone, .gone, .gone]⟩ ?_
 exact En.rb ht (untR w (bSem w k e) (bSem w k e_2)) h
 replace h := h.2 hb
 refine En.skip ?_
 refine En.seq ?_
 obtain ⟨hp_4, h⟩ := h
 obtain ⟨hp_5, h⟩ := h
 refine En.regionA ⟨[(qbWhere8), sl 5 (.ptr 2 0), sl 6 (.ptr 3 0)], [.sv (.one (.pe (qbWhere0 w) 4)), .sv (.one (LS boolT (bSem w k e_2))), .sv (.one (LS boolT (notL (bSem w k e_2)))), .sv (.one (LS boolT (evrR w (notL (bSem w k e_2))))), .sv (.one (.ptr 4 0)), .tup []], [⟨(qbWhere2 w), none, none, none⟩, ⟨.gone, none, none, none⟩, ⟨(qbWhere9 w k e), none, none, none⟩, ⟨(qbWhere6 w k e_2), none, none, none⟩, ⟨.box [.v (.slice none 0 0)] 27 false, some 4, none, some (5, .box [LS boolT (evrR w (notL (bSem w k e_2)))] 27 false)⟩]⟩ ⟨[(qbWhere8), sl 5 (.ptr 2 0), sl 6 (.ptr 3 0), sl 7 (.ptr 4 0)], [(qbWhere2 w), .gone, (qbWhere9 w k e), (qbWhere6 w k e_2), .box [LS boolT (evrR w (notL (bSem w k e_2)))] 27 false]⟩ (by kernel_rfl) hn (by kernel_rfl) (by rfl) (by kernel_rfl) ?_ (by kernel_rfl) ?_
 exact ⟨.ev ⟨[(qbWhere8)], [(qbWhere2 w)]⟩ ht,
 .ev ⟨[sl 6 (.ptr 3 0)], [.gone, .gone, .gone, (qbWhere6 w k e_2)]⟩ ht,
 .vl ⟨[sl 82 (LS boolT (bSem w k e_2))], []⟩ (mt_c (bNot_ct (bSem w k e_2) hp_4) en54 rfl),
 .vl ⟨[sl 81 (.pe (qbWhere0 w) 4), sl 83 (LS boolT (notL (bSem w k e_2)))], []⟩ (mt_c (bEver_ct w (notL (bSem w k e_2)) hp_5) en58 rfl),
 .mt ⟨[], []⟩ [] (some 4) (by kernel_rfl) (by rfl) (mt_alloc2 4 27 ht rfl (by rfl) (by rfl)) rfl rfl rfl rfl,
 .mu ⟨[sl 7 (.ptr 4 0), sl 84 (LS boolT (evrR w (notL (bSem w k e_2))))], [.gone, .gone, .gone, .gone, .box [.v (.slice none 0 0)] 27 false]⟩ 4 _ _ rfl rfl (by kernel_rfl) (by rfl) (mu_store2 ht rfl (by rfl) (by rfl) (by rfl) (by rfl) (fun h => by cases h) (by rfl) (by rfl)) rfl rfl rfl rfl rfl rfl rfl,
 trivial⟩
 refine En.seq ?_
 obtain ⟨hp_6, h⟩ := h
 obtain ⟨hp_7, h⟩ := h
 obtain ⟨hp_8, h⟩ := h
 refine En.regionA ⟨[(qbWhere8), sl 5 (.ptr 2 0), sl 6 (.ptr 3 0), sl 7 (.ptr 4 0)], [.sv (.one (.pe (qbWhere0 w) 4)), .sv (.one (LS boolT (bSem w k e_2))), .sv (.one (LS boolT (notL (bSem w k e_2)))), .sv (.one (.pe (qbWhere0 w) 4)), .sv (.one (.fn 59 [2, 3])), .sv (.one (LS boolT (eachL w.fGraph.fPlaces (fun (p : Int) => !onB (bSem w k e) p && !onB (bSem w k e_2) p)))), .sv (.one (LS boolT (untR w (notL (bSem w k e_2)) (eachL w.fGraph.fPlaces (fun (p : Int) => !onB (bSem w k e) p && !onB (bSem w k e_2) p))))), .sv (.one (.ptr 5 0)), .tup []], [⟨(qbWhere2 w), none, none, none⟩, ⟨.gone, none, none, none⟩, ⟨(qbWhere9 w k e), none, none, none⟩, ⟨(qbWhere6 w k e_2), none, none, none⟩, ⟨.box [LS boolT (evrR w (notL (bSem w k e_2)))] 27 false, none, none, none⟩, ⟨.box [.v (.slice none 0 0)] 27 false, some 7, none, some (8, .box [LS boolT (untR w (notL (bSem w k e_2)) (eachL w.fGraph.fPlaces (fun (p : Int) => !onB (bSem w k e) p && !onB (bSem w k e_2) p)))] 27 false)⟩]⟩ ⟨[(qbWhere8), sl 7 (.ptr 4 0), sl 8 (.ptr 5 0)], [(qbWhere2 w), .gone, .gone, .gone, .box [LS boolT (evrR w (notL (bSem w k e_2)))] 27 false, .box [LS boolT (untR w (notL (bSem w k e_2)) (eachL w.fGraph.fPlaces (fun (p : Int) => !onB (bSem w k e) p && !onB (bSem w k e_2) p)))] 27 false]⟩ (by kernel_rfl) hn (by kernel_rfl) (by rfl) (by kernel_rfl) ?_ (by kernel_rfl) ?_
 exact ⟨.ev ⟨[(qbWhere8)], [(qbWhere2 w)]⟩ ht,
 .ev ⟨[sl 6 (.ptr 3 0)], [.gone, .gone, .gone, (qbWhere6 w k e_2)]⟩ ht,
 .vl ⟨[sl 86 (LS boolT (bSem w k e_2))], []⟩ (mt_c (bNot_ct (bSem w k e_2) hp_6) en54 rfl),
 .ev ⟨[(qbWhere8)], [(qbWhere2 w)]⟩ ht,
 .ev ⟨[sl 5 (.ptr 2 0), sl 6 (.ptr 3 0)], []⟩ ht,
 .mt ⟨[sl 88 (.pe (qbWhere0 w) 4), sl 89 (.fn 59 [2, 3])], [.gone, .gone, (qbWhere9 w k e), (qbWhere6 w k e_2)]⟩ [] none (by kernel_rfl) (by rfl) (mt_seal (q := 5) (e := 4) (mt_lendFI [2, 3] (by rfl) (plain_row fun _ => rfl) (mt_ghost 89 (o1 (.rd (fvR (fun (x_ : Int) => [.sv (.one (I x_))]) (fun (r : Bool) => .sv (.one (B r))) (fun (p : Int) => inB (bSem w k e) p ∧ inB (bSem w k e_2) p) (fun (p : Int) => !onB (bSem w k e) p && !onB (bSem w k e_2) p)))) (by rfl) (fv_of (M := [.box [LS boolT (bSem w k e)] 27 true, .box [LS boolT (bSem w k e_2)] 27 true]) (caps := [2, 3]) (fun x_ hx => bWh5_ct x_ (bSem w k e) (bSem w k e_2) hx) en59 rfl (by kernel_rfl) (by rfl) (fun _ => rfl)) (mt_callI 5 (bEach_ct w (fun (p : Int) => inB (bSem w k e) p ∧ inB (bSem w k e_2) p) (fun (p : Int) => !onB (bSem w k e) p && !onB (bSem w k e_2) p) hp_7) en50 (caps := []) [] rfl rfl (by rfl) (by kernel_rfl) (by kernel_rfl) (by rfl) (by rfl))))) rfl rfl rfl rfl,
 .vl ⟨[sl 85 (.pe (qbWhere0 w) 4), sl 87 (LS boolT (notL (bSem w k e_2))), sl 90 (LS boolT (eachL w.fGraph.fPlaces (fun (p : Int) => !onB (bSem w k e) p && !onB (bSem w k e_2) p)))], []⟩ (mt_c (bUntil_ct w (notL (bSem w k e_2)) (eachL w.fGraph.fPlaces (fun (p : Int) => !onB (bSem w k e) p && !onB (bSem w k e_2) p)) hp_8) en57 rfl),
 .mt ⟨[], []⟩ [] (some 5) (by kernel_rfl) (by rfl) (mt_alloc2 5 27 ht rfl (by rfl) (by rfl)) rfl rfl rfl rfl,
 .mu ⟨[sl 8 (.ptr 5 0), sl 91 (LS boolT (untR w (notL (bSem w k e_2)) (eachL w.fGraph.fPlaces (fun (p : Int) => !onB (bSem w k e) p && !onB (bSem w k e_2) p))))], [.gone, .gone, .gone, .gone, .gone, .box [.v (.slice none 0 0)] 27 false]⟩ 5 _ _ rfl rfl (by kernel_rfl) (by rfl) (mu_store2 ht rfl (by rfl) (by rfl) (by rfl) (by rfl) (fun h => by cases h) (by rfl) (by rfl)) rfl rfl rfl rfl rfl rfl rfl,
 trivial⟩
 refine En.sr ?_
 refine WL.r ht hn 2 ⟨[sl 92 (.pe (qbWhere0 w) 4), sl 93 (.fn 60 [4, 5])], [.gone, .gone, .gone, .gone, .box [LS boolT (evrR w (notL (bSem w k e_2)))] 27 false, .box [LS boolT (untR w (notL (bSem w k e_2)) (eachL w.fGraph.fPlaces (fun (p : Int) => !onB (bSem w k e) p && !onB (bSem w k e_2) p)))] 27 false]⟩ ?_
 obtain ⟨hp, h⟩ := h
 refine WL.mt0 (K := []) (p := some (6, rowI 4 boolT (eachL w.fGraph.fPlaces (fun (p : Int) => !onB (evrR w (notL (bSem w k e_2))) p && !onB (untR w (notL (bSem w k e_2)) (eachL w.fGraph.fPlaces (fun (p : Int) => !onB (bSem w k e) p && !onB (bSem w k e_2) p))) p)))) hn (by rfl) (mt_lendFI [4, 5] (by rfl) (plain_row fun _ => rfl) (mt_ghost 93 (o1 (.rd (fvR (fun (x_ : Int) => [.sv (.one (I x_))]) (fun (r : Bool) => .sv (.one (B r))) (fun (p : Int) => inB (evrR w (notL (bSem w k e_2))) p ∧ inB (untR w (notL (bSem w k e_2)) (eachL w.fGraph.fPlaces (fun (p : Int) => !onB (bSem w k e) p && !onB (bSem w k e_2) p))) p) (fun (p : Int) => !onB (evrR w (notL (bSem w k e_2))) p && !onB (untR w (notL (bSem w k e_2)) (eachL w.fGraph.fPlaces (fun (p : Int) => !onB (bSem w k e) p && !onB (bSem w k e_2) p))) p)))) (by rfl) (fv_of (M := [.box [LS boolT (evrR w (notL (bSem w k e_2)))] 27 true, .box [LS boolT (untR w (notL (bSem w k e_2)) (eachL w.fGraph.fPlaces (fun (p : Int) => !onB (bSem w k e) p && !onB (bSem w k e_2) p)))] 27 true]) (caps := [4, 5]) (fun x_ hx => bWh6_ct x_ (evrR w (notL (bSem w k e_2))) (untR w (notL (bSem w k e_2)) (eachL w.fGraph.fPlaces (fun (p : Int) => !onB (bSem w k e) p && !onB (bSem w k e_2) p))) hx) en60 rfl (by kernel_rfl) (by rfl) (fun _ => rfl)) (mt_callI 6 (bEach_ct w (fun (p : Int) => inB (evrR w (notL (bSem w k e_2))) p ∧ inB (untR w (notL (bSem w k e_2)) (eachL w.fGraph.fPlaces (fun (p : Int) => !onB (bSem w k e) p && !onB (bSem w k e_2) p))) p) (fun (p : Int) => !onB (evrR w (notL (bSem w k e_2))) p && !onB (untR w (notL (bSem w k e_2)) (eachL w.fGraph.fPlaces (fun (p : Int) => !onB (bSem w k e) p && !onB (bSem w k e_2) p))) p) hp) en50 (caps := []) [] rfl rfl (by rfl) (by kernel_rfl) (by kernel_rfl) (by rfl) (by rfl)))) (by rfl) (by rfl) (by rfl) ?_
 refine WL.rn ht hn 1 ⟨[sl 4 (.own 6)], [.gone, .gone, .gone, .gone, .gone, .gone, rowI 4 boolT (eachL w.fGraph.fPlaces (fun (p : Int) => !onB (evrR w (notL (bSem w k e_2))) p && !onB (untR w (notL (bSem w k e_2)) (eachL w.fGraph.fPlaces (fun (p : Int) => !onB (bSem w k e) p && !onB (bSem w k e_2) p))) p))]⟩ ?_
 refine En.ret ?_
 refine En.seal (T := boolT) (l := (eachL w.fGraph.fPlaces (fun (p : Int) => !onB (evrR w (notL (bSem w k e_2))) p && !onB (untR w (notL (bSem w k e_2)) (eachL w.fGraph.fPlaces (fun (p : Int) => !onB (bSem w k e) p && !onB (bSem w k e_2) p))) p))) (e := 4) 6 rfl ?_
 exact En.back ht (eachL w.fGraph.fPlaces (fun (p : Int) => !onB (evrR w (notL (bSem w k e_2))) p && !onB (untR w (notL (bSem w k e_2)) (eachL w.fGraph.fPlaces (fun (p : Int) => !onB (bSem w k e) p && !onB (bSem w k e_2) p))) p)) h (by kernel_rfl) rfl
 replace h := h.2 hb
 refine En.skip ?_
 obtain ⟨J_3, h, hJ_3⟩ := h
 refine En.seqJ (σ := (List Bool)) (fun zz => J_3 zz) (fun zz => ⟨(qbWhere5), [(qbWhere2 w), (qbWhere3 n), .box [LS boolT zz] 27 false]⟩) ?_ ?_
 refine En.sr ?_
 refine WL.r ht hn 1 ⟨[(qbWhere8), (qbWhere7), sl 5 (.ptr 2 0), sl 95 (.rd (trR bLab n))], (qbWhere1 w n k e)⟩ ?_
 refine WL.v hn (val_node (s := .agg [.v (.int .u8 n.lab.fSign), B n.lab.fAll, I n.lab.fLetter, LS (TT bLab) n.kids]) (t := n) (lab := bLab) bLabH rfl (by rfl) rfl rfl) ?_
 refine WL.v hn (val_fd (l := [.v (.int .u8 n.lab.fSign), B n.lab.fAll, I n.lab.fLetter, LS (TT bLab) n.kids]) (r := .one (B n.lab.fAll)) ht rfl) ?_
 refine WL.v hn (val_ld (s := .one (B n.lab.fAll)) ht rfl) ?_
 refine WL.nil ?_
 refine En.cd (b := n.lab.fAll) (fun hb => ?_) (fun hb => ?_)
 replace h := h.1 hb
 refine En.region ?_
 refine WL.r ht hn 1 ⟨[(qbWhere8), (qbWhere7), sl 5 (.ptr 2 0), sl 99 (LS boolT (bSem w k e))], (qbWhere1 w n k e)⟩ ?_
 obtain ⟨hp, h⟩ := h
 refine WL.m0 hn (mt_c (bNot_ct (bSem w k e) hp) en54 rfl) ?_
 refine WL.rn ht hn 1 ⟨(qbWhere5), [(qbWhere2 w), (qbWhere3 n), .box [LS boolT (notL (bSem w k e))] 27 false]⟩ ?_
 exact En.at (I := fun zz => J_3 zz) (T := fun zz => ⟨(qbWhere5), [(qbWhere2 w), (qbWhere3 n), .box [LS boolT zz] 27 false]⟩) (notL (bSem w k e)) h (by kernel_rfl)
 replace h := h.2 hb
 refine En.skip ?_
 exact En.at (I := fun zz => J_3 zz) (T := fun zz => ⟨(qbWhere5), [(qbWhere2 w), (qbWhere3 n), .box [LS boolT zz] 27 false]⟩) (bSem w k e) h (by kernel_rfl)
 intro y2 h
 replace h := hJ_3 _ h
 show En c ⟨(qbWhere5), [(qbWhere2 w), (qbWhere3 n), .box [LS boolT y2] 27 false]⟩ _
 refine En.sr ?_
 refine WL.rn ht hn 1 ⟨(qbWhere5), [(qbWhere2 w), (qbWhere3 n), .box [LS boolT y2] 27 false]⟩ ?_
 obtain ⟨J_4, h, hJ_4⟩ := h
 refine En.seqJ (σ := (List Bool)) (fun zz => J_4 zz) (fun zz => ⟨[(qbWhere7), sl 9 (LS boolT zz)], [.gone, (qbWhere3 n), .gone]⟩) ?_ ?_
 refine En.block ?_
 refine En.sr ?_
 refine WL.r ht hn 1 ⟨[(qbWhere8), (qbWhere7), sl 5 (.ptr 2 0), sl 105 (.rd (trR bLab n))], [(qbWhere2 w), (qbWhere3 n), .box [LS boolT y2] 27 false]⟩ ?_
 refine WL.v hn (val_node (s := .agg [.v (.int .u8 n.lab.fSign), B n.lab.fAll, I n.lab.fLetter, LS (TT bLab) n.kids]) (t := n) (lab := bLab) bLabH rfl (by rfl) rfl rfl) ?_
 refine WL.v hn (val_fd (l := [.v (.int .u8 n.lab.fSign), B n.lab.fAll, I n.lab.fLetter, LS (TT bLab) n.kids]) (r := .one (.v (.int .u8 n.lab.fSign))) ht rfl) ?_
 refine WL.v hn (val_ld (s := .one (.v (.int .u8 n.lab.fSign))) ht rfl) ?_
 refine WL.rn ht hn 2 ⟨[(qbWhere8), (qbWhere7), sl 5 (.ptr 2 0), sl 104 (B (n.lab.fSign == 88))], [(qbWhere2 w), (qbWhere3 n), .box [LS boolT y2] 27 false]⟩ ?_
 refine En.cd (b := (n.lab.fSign == 88)) (fun hb => ?_) (fun hb => ?_)
 replace h := h.1 hb
 refine En.region ?_
 refine WL.r ht hn 2 ⟨[(qbWhere7), sl 110 (.pe (qbWhere0 w) 4), sl 111 (.fn 61 [0, 2])], [(qbWhere2 w), (qbWhere3 n), .box [LS boolT y2] 27 false]⟩ ?_
 obtain ⟨hp, h⟩ := h
 refine WL.mt0 (K := []) (p := some (3, rowI 4 boolT (eachL w.fGraph.fPlaces (fun (p : Int) => leadB w p y2)))) hn (by rfl) (mt_lendFI [0, 2] (by rfl) (plain_row fun _ => rfl) (mt_ghost 111 (o1 (.rd (fvR (fun (x_ : Int) => [.sv (.one (I x_))]) (fun (r : Bool) => .sv (.one (B r))) (fun (p : Int) => WOk w ∧ (y2.length = w.fGraph.fPlaces.toNat) ∧ 0 ≤ p ∧ p < w.fGraph.fPlaces) (fun (p : Int) => leadB w p y2)))) (by rfl) (fv_of (M := [.box [.pe (qbWhere0 w) 4] 66 true, .box [LS boolT y2] 27 true]) (caps := [0, 2]) (fun x_ hx => bWh7_ct x_ w y2 hx) en61 rfl (by kernel_rfl) (by rfl) (fun _ => rfl)) (mt_callI 3 (bEach_ct w (fun (p : Int) => WOk w ∧ (y2.length = w.fGraph.fPlaces.toNat) ∧ 0 ≤ p ∧ p < w.fGraph.fPlaces) (fun (p : Int) => leadB w p y2) hp) en50 (caps := []) [] rfl rfl (by rfl) (by kernel_rfl) (by kernel_rfl) (by rfl) (by rfl)))) (by rfl) (by rfl) (by rfl) ?_
 refine WL.rn ht hn 1 ⟨[(qbWhere7), sl 9 (.own 3)], [.gone, (qbWhere3 n), .gone, rowI 4 boolT (eachL w.fGraph.fPlaces (fun (p : Int) => leadB w p y2))]⟩ ?_
 refine En.seal (T := boolT) (l := (eachL w.fGraph.fPlaces (fun (p : Int) => leadB w p y2))) (e := 4) 3 rfl ?_
 exact En.at (I := fun zz => J_4 zz) (T := fun zz => ⟨[(qbWhere7), sl 9 (LS boolT zz)], [.gone, (qbWhere3 n), .gone]⟩) (eachL w.fGraph.fPlaces (fun (p : Int) => leadB w p y2)) h (by kernel_rfl)
 replace h := h.2 hb
 refine En.seq ?_
 refine En.regionA ⟨(qbWhere5), [.sv (.one (.rd (trR bLab n))), .sv (.one (.pe (qbWhere4 n) 4)), .sv (.one (.pe (svR (.one (.v (.int .u8 n.lab.fSign)))) 1)), .sv (.one (.v (.int .u8 n.lab.fSign))), .sv (.one (B (n.lab.fSign == 70))), .sv (.one (.rd (trR bLab n))), .sv (.one (.pe (qbWhere4 n) 4)), .sv (.one (.pe (svR (.one (B n.lab.fAll))) 1)), .sv (.one (B n.lab.fAll)), .sv (.one (B ((n.lab.fSign == 70) != n.lab.fAll))), .sv (.one (B ((n.lab.fSign == 70) != n.lab.fAll)))], [⟨(qbWhere2 w), none, none, none⟩, ⟨(qbWhere3 n), none, none, none⟩, ⟨.box [LS boolT y2] 27 false, none, none, none⟩]⟩ ⟨[(qbWhere8), (qbWhere7), sl 5 (.ptr 2 0), sl 113 (B ((n.lab.fSign == 70) != n.lab.fAll))], [(qbWhere2 w), (qbWhere3 n), .box [LS boolT y2] 27 false]⟩ (by kernel_rfl) hn (by kernel_rfl) (by rfl) (by kernel_rfl) ?_ (by kernel_rfl) ?_
 exact ⟨.ev ⟨[(qbWhere7)], [.gone, (qbWhere3 n)]⟩ ht,
 .vl ⟨[sl 114 (.rd (trR bLab n))], []⟩ (mt_val (val_node (s := .agg [.v (.int .u8 n.lab.fSign), B n.lab.fAll, I n.lab.fLetter, LS (TT bLab) n.kids]) (t := n) (lab := bLab) bLabH rfl (by rfl) rfl rfl)),
 .vl ⟨[sl 115 (.pe (qbWhere4 n) 4)], []⟩ (mt_val (val_fd (l := [.v (.int .u8 n.lab.fSign), B n.lab.fAll, I n.lab.fLetter, LS (TT bLab) n.kids]) (r := .one (.v (.int .u8 n.lab.fSign))) ht rfl)),
 .vl ⟨[sl 116 (.pe (svR (.one (.v (.int .u8 n.lab.fSign)))) 1)], []⟩ (mt_val (val_ld (s := .one (.v (.int .u8 n.lab.fSign))) ht rfl)),
 .ev ⟨[sl 117 (.v (.int .u8 n.lab.fSign))], []⟩ ht,
 .ev ⟨[(qbWhere7)], [.gone, (qbWhere3 n)]⟩ ht,
 .vl ⟨[sl 119 (.rd (trR bLab n))], []⟩ (mt_val (val_node (s := .agg [.v (.int .u8 n.lab.fSign), B n.lab.fAll, I n.lab.fLetter, LS (TT bLab) n.kids]) (t := n) (lab := bLab) bLabH rfl (by rfl) rfl rfl)),
 .vl ⟨[sl 120 (.pe (qbWhere4 n) 4)], []⟩ (mt_val (val_fd (l := [.v (.int .u8 n.lab.fSign), B n.lab.fAll, I n.lab.fLetter, LS (TT bLab) n.kids]) (r := .one (B n.lab.fAll)) ht rfl)),
 .vl ⟨[sl 121 (.pe (svR (.one (B n.lab.fAll))) 1)], []⟩ (mt_val (val_ld (s := .one (B n.lab.fAll)) ht rfl)),
 .vl ⟨[sl 118 (B (n.lab.fSign == 70)), sl 122 (B n.lab.fAll)], []⟩ (mt_val (val_eqB (u := (n.lab.fSign == 70)) (v := n.lab.fAll) rfl Try.underlying4 (by rfl) (by rfl) (.inr ⟨rfl, rfl⟩))),
 .ev ⟨[sl 123 (B ((n.lab.fSign == 70) != n.lab.fAll))], []⟩ ht,
 trivial⟩
 refine En.cd (b := ((n.lab.fSign == 70) != n.lab.fAll)) (fun hb => ?_) (fun hb => ?_)
 replace h := h.1 hb
 obtain ⟨hp_9, h⟩ := h
 obtain ⟨hp_10, h⟩ := h
 refine En.regionA ⟨(qbWhere5), [.sv (.one (.pe (qbWhere0 w) 4)), .sv (.one (.pe (qbWhere0 w) 4)), .sv (.one (LS boolT (eachL w.fGraph.fPlaces (fun _ => true)))), .sv (.one (LS boolT y2)), .sv (.one (LS boolT (untR w (eachL w.fGraph.fPlaces (fun _ => true)) y2))), .sv (.one (LS boolT (untR w (eachL w.fGraph.fPlaces (fun _ => true)) y2)))], [⟨(qbWhere2 w), none, none, none⟩, ⟨(qbWhere3 n), none, none, none⟩, ⟨.box [LS boolT y2] 27 false, none, none, none⟩]⟩ ⟨[(qbWhere7), sl 9 (LS boolT (untR w (eachL w.fGraph.fPlaces (fun _ => true)) y2))], [.gone, (qbWhere3 n), .gone]⟩ (by kernel_rfl) hn (by kernel_rfl) (by rfl) (by kernel_rfl) ?_ (by kernel_rfl) ?_
 exact ⟨.ev ⟨[(qbWhere8)], [(qbWhere2 w)]⟩ ht,
 .ev ⟨[(qbWhere8)], [(qbWhere2 w)]⟩ ht,
 .vl ⟨[sl 125 (.pe (qbWhere0 w) 4)], []⟩ (mt_c (bOne_ct w hp_9) en63 rfl),
 .ev ⟨[sl 5 (.ptr 2 0)], [.gone, .gone, .box [LS boolT y2] 27 false]⟩ ht,
 .vl ⟨[sl 124 (.pe (qbWhere0 w) 4), sl 126 (LS boolT (eachL w.fGraph.fPlaces (fun _ => true))), sl 127 (LS boolT y2)], []⟩ (mt_c (bUntil_ct w (eachL w.fGraph.fPlaces (fun _ => true)) y2 hp_10) en57 rfl),
 .ev ⟨[sl 128 (LS boolT (untR w (eachL w.fGraph.fPlaces (fun _ => true)) y2))], []⟩ ht,
 trivial⟩
 exact En.at (I := fun zz => J_4 zz) (T := fun zz => ⟨[(qbWhere7), sl 9 (LS boolT zz)], [.gone, (qbWhere3 n), .gone]⟩) (untR w (eachL w.fGraph.fPlaces (fun _ => true)) y2) h (by kernel_rfl)
 replace h := h.2 hb
 refine En.region ?_
 refine WL.r ht hn 2 ⟨[(qbWhere7), sl 101 (.pe (qbWhere0 w) 4), sl 102 (LS boolT y2)], [.gone, (qbWhere3 n), .gone]⟩ ?_
 obtain ⟨hp, h⟩ := h
 refine WL.m0 hn (mt_c (bEver_ct w y2 hp) en58 rfl) ?_
 refine WL.rn ht hn 1 ⟨[(qbWhere7), sl 9 (LS boolT (evrR w y2))], [.gone, (qbWhere3 n), .gone]⟩ ?_
 exact En.at (I := fun zz => J_4 zz) (T := fun zz => ⟨[(qbWhere7), sl 9 (LS boolT zz)], [.gone, (qbWhere3 n), .gone]⟩) (evrR w y2) h (by kernel_rfl)
 intro x9 h
 replace h := hJ_4 _ h
 show En c ⟨[(qbWhere7), sl 9 (LS boolT x9)], [.gone, (qbWhere3 n), .gone]⟩ _
 refine En.seq ?_
 refine En.sr ?_
 refine WL.r ht hn 1 ⟨[sl 9 (LS boolT x9), sl 129 (.rd (trR bLab n))], [.gone, .gone, .gone]⟩ ?_
 refine WL.v hn (val_node (s := .agg [.v (.int .u8 n.lab.fSign), B n.lab.fAll, I n.lab.fLetter, LS (TT bLab) n.kids]) (t := n) (lab := bLab) bLabH rfl (by rfl) rfl rfl) ?_
 refine WL.v hn (val_fd (l := [.v (.int .u8 n.lab.fSign), B n.lab.fAll, I n.lab.fLetter, LS (TT bLab) n.kids]) (r := .one (B n.lab.fAll)) ht rfl) ?_
 refine WL.v hn (val_ld (s := .one (B n.lab.fAll)) ht rfl) ?_
 refine WL.nil ?_
 refine En.cd (b := n.lab.fAll) (fun hb => ?_) (fun hb => ?_)
 replace h := h.1 hb
 refine En.sr ?_
 refine WL.r ht hn 1 ⟨[sl 133 (LS boolT x9)], [.gone, .gone, .gone]⟩ ?_
 obtain ⟨hp, h⟩ := h
 refine WL.m0 hn (mt_c (bNot_ct x9 hp) en54 rfl) ?_
 refine WL.rn ht hn 1 ⟨[sl 4 (LS boolT (notL x9))], [.gone, .gone, .gone]⟩ ?_
 exact En.rb ht (notL x9) h
 replace h := h.2 hb
 refine En.skip ?_
 refine En.sr ?_
 refine WL.rn ht hn 2 ⟨[sl 4 (LS boolT x9)], [.gone, .gone, .gone]⟩ ?_
 exact En.rb ht x9 h
theorem bWhere_next (k : Nat) (ih : WhC k) : WhC (k + 1) := fun w n hp => by
 refine (bWhere_walk k w n ih (fun r => r = bSem w (k + 1) n) ?_).fun
 obtain ⟨hw, hS⟩ := hp
 obtain ⟨a, kids⟩ := n
 have hP := hw.pos
 unfold bWhere_vc
 simp only [show (Tr.node a kids : BTr).lab = a from rfl, show (Tr.node a kids : BTr).kids = kids from rfl]
 refine ⟨fun b => b = true ↔ (a.fSign = 48 ∨ a.fSign = 49), ⟨fun h => ⟨fun _ => .inl (eq_of_beq h), fun _ => h⟩, fun h => ⟨fun e => .inr (eq_of_beq e), fun e => e.elim (fun e => absurd h (by rw [e]; decide)) (fun e => by rw [e]; rfl)⟩⟩, fun b hb => ⟨fun ht => ⟨⟨fun _ _ _ => trivial, hP⟩, ?_⟩, fun hf => ⟨fun h97 => ⟨⟨fun _ _ _ => trivial, hP⟩, ?_⟩, fun h97 => ?_⟩⟩⟩
 ·show _ = bSem w (k + 1) (.node a kids)
  rw [bSem_leaf (hb.1 ht)]
 ·have n1 : ¬ (a.fSign = 48 ∨ a.fSign = 49) := fun e => by
   rw [hb.2 e] at hf
   cases hf
  show _ = bSem w (k + 1) (.node a kids)
  rw [bSem_let (eq_of_beq h97)]
 have n1 : ¬ (a.fSign = 48 ∨ a.fSign = 49) := fun e => by
  rw [hb.2 e] at hf
  cases hf
 have n2 : ¬ a.fSign = 97 := by simpa using h97
 rcases hS with ⟨h, rfl⟩ | ⟨h, x, rfl, hx⟩ | ⟨h, x, y, rfl, hx, hy⟩
 ·omega
 ·have lx := bSem_len (w := w) hx
  refine ⟨x, rfl, ⟨hw, hx⟩, fun h33 => ⟨by omega, ?_⟩, fun h33 => ⟨fun b => b = true → (a.fSign = 38 ∨ a.fSign = 124 ∨ a.fSign = 85), ⟨fun h _ => .inl (eq_of_beq h), fun _ => ⟨fun h _ => .inr (.inl (eq_of_beq h)), fun _ h => .inr (.inr (eq_of_beq h))⟩⟩, fun b2 hb2 => ⟨fun ht2 => ?_, fun _ => ?_⟩⟩⟩
  ·show _ = bSem w (k + 1) (.node a [x])
   rw [bSem_one h, if_pos (eq_of_beq h33)]
  ·have := hb2 ht2
   omega
  ·have n3 : ¬ a.fSign = 33 := by simpa using h33
   refine ⟨fun A => A = if a.fAll = true then notL (bSem w k x) else bSem w k x, ⟨fun e => ⟨by omega, (if_pos e).symm⟩, fun e => (if_neg (by rw [e]; decide)).symm⟩, ?_⟩
   intro A hA
   have lA : A.length = w.fGraph.fPlaces.toNat := by
    rw [hA]
    split
    ·rw [notL_len, lx]
    ·exact lx
   refine ⟨fun O => O = wayW w a.fSign a.fAll A, ⟨fun e => ⟨⟨fun p h0 h1 => ⟨hw, lA, h0, h1⟩, hP⟩, ?_⟩, fun e => ⟨fun e2 => ⟨hw, ⟨hw, eachL_len _ _, lA⟩, ?_⟩, fun e2 => ⟨⟨hw, lA⟩, ?_⟩⟩⟩, ?_⟩
   ·show _ = wayW w a.fSign a.fAll A
    unfold wayW
    rw [if_pos (eq_of_beq e)]
   ·show _ = wayW w a.fSign a.fAll A
    unfold wayW
    rw [if_neg (by simpa using e), if_pos e2]
   ·show _ = wayW w a.fSign a.fAll A
    unfold wayW
    rw [if_neg (by simpa using e), if_neg (by rw [e2]; decide)]
   ·rintro _ rfl
    have lW := wayW_len (w := w) (sg := a.fSign) (al := a.fAll) lA
    refine ⟨fun e => ⟨by omega, ?_⟩, fun e => ?_⟩
    ·show _ = bSem w (k + 1) (.node a [x])
     rw [bSem_one h, if_neg n3, hA]
     simp only [e, ↓reduceIte]
    ·show _ = bSem w (k + 1) (.node a [x])
     rw [bSem_one h, if_neg n3, hA]
     simp only [e, Bool.false_eq_true, ↓reduceIte]
 ·have lx := bSem_len (w := w) hx
  have ly := bSem_len (w := w) hy
  have hin : ∀ {A B : List Bool}, A.length = w.fGraph.fPlaces.toNat → B.length = w.fGraph.fPlaces.toNat → ∀ p : Int, 0 ≤ p → p < w.fGraph.fPlaces → inB A p ∧ inB B p := fun hA hB p h0 h1 => ⟨⟨h0, by omega⟩, ⟨h0, by omega⟩⟩
  refine ⟨x, rfl, ⟨hw, hx⟩, fun h33 => absurd (eq_of_beq h33) (by omega), fun h33 => ⟨fun b => (a.fSign = 38 ∨ a.fSign = 124 ∨ a.fSign = 85) → b = true, ⟨fun h _ => h, fun n38 => ⟨fun h _ => h, fun n124 hh => ?_⟩⟩, fun b2 hb2 => ⟨fun _ => ?_, fun hf2 => ?_⟩⟩⟩
  ·rcases hh with e | e | e
   ·exact absurd n38 (by rw [e]; decide)
   ·exact absurd n124 (by rw [e]; decide)
   ·rw [e]
    rfl
  ·refine ⟨y, rfl, ⟨hw, hy⟩, fun h38 => ⟨⟨hin lx ly, hP⟩, ?_⟩, fun h38 => ⟨fun h124 => ⟨⟨hin lx ly, hP⟩, ?_⟩, fun h124 => ⟨fun hal => ⟨⟨hw, lx, ly⟩, ?_⟩, fun hal => ⟨by omega, ⟨hw, by rw [notL_len, ly]⟩, by omega, ⟨hin lx ly, hP⟩, ⟨hw, by rw [notL_len, ly], eachL_len _ _⟩, ⟨hin (evrL_len (by rw [notL_len, ly])) (untL_len (eachL_len _ _)), hP⟩, ?_⟩⟩⟩⟩
   ·show _ = bSem w (k + 1) (.node a [x, y])
    rw [bSem_two h, if_pos (eq_of_beq h38)]
   ·show _ = bSem w (k + 1) (.node a [x, y])
    rw [bSem_two h, if_neg (by simpa using h38), if_pos (eq_of_beq h124)]
   ·show _ = bSem w (k + 1) (.node a [x, y])
    rw [bSem_two h, if_neg (by simpa using h38), if_neg (by simpa using h124), if_neg (by simpa using hal)]
   ·show _ = bSem w (k + 1) (.node a [x, y])
    rw [bSem_two h, if_neg (by simpa using h38), if_neg (by simpa using h124), if_pos (by simpa using hal)]
    rfl
  ·rw [hb2 h] at hf2
   cases hf2
theorem bWhere_all : ∀ k, WhC k
 | 0 => fun _ _ hp => hp.2.elim
 | k + 1 => bWhere_next k (bWhere_all k)
def bWalking_vc (g : ApiGraph) (Q : BranchWalker → Prop) : Prop :=
 g.fArrows.length ≤ 9223372036854775807 →
 (makeOk g.fPlaces g.fPlaces 24 ∧
 ∃ (Inv : Int → (List (List Int)) → Prop) (mu : Int → (List (List Int)) → Nat), Inv 0 (List.replicate (g.fPlaces).toNat ([] : (List Int))) ∧
 ∀ (x17 : Int) (g1 : (List (List Int))) , Inv x17 g1 → (IfP (decide (x17 < (g.fArrows.length : Int))) (∃ J : (List (List Int)) → Prop, (∃ e, idx g.fArrows x17 = some e ∧
 ∃ e_2, idx g1 e.fFrom = some e_2 ∧
 IfP (!(e_2.any (fun x => e.fTo == x))) (∃ e_3, idx g1 e.fFrom = some e_3 ∧
 ∃ e_4, idx g1 e.fFrom = some e_4 ∧
 capOk e_3.length (([e.fTo] : (List Int)) : (List Int)).length 8 ∧
 ∃ e_5, idx g1 e.fFrom = some e_5 ∧
 J (g1.set (e.fFrom).toNat (e_3 ++ ([e.fTo] : (List Int))))) (J g1)) ∧
 (∀ (g1_2 : (List (List Int))), J g1_2 → (Inv (wr (x17 + 1)) g1_2 ∧ mu (wr (x17 + 1)) g1_2 < mu x17 g1))) (∃ (Inv_2 : Int → (List (List Int)) → Prop) (mu_2 : Int → (List (List Int)) → Nat), Inv_2 0 g1 ∧
 ∀ (x58 : Int) (g1_3 : (List (List Int))) , Inv_2 x58 g1_3 → (IfP (decide (x58 < (g1.length : Int))) (∃ J_2 : (List (List Int)) → Prop, (∃ e_6, idx g1_3 x58 = some e_6 ∧
 IfP ((e_6.length : Int) == 0) (∃ e_7, idx g1_3 x58 = some e_7 ∧
 J_2 (g1_3.set (x58).toNat ([x58] : (List Int)))) (J_2 g1_3)) ∧
 (∀ (g1_4 : (List (List Int))), J_2 g1_4 → (Inv_2 (wr (x58 + 1)) g1_4 ∧ mu_2 (wr (x58 + 1)) g1_4 < mu_2 x58 g1_3))) (Q (BranchWalker.mk g g1_3))))))
noncomputable abbrev qbWalking0 (g : ApiGraph) := (.box [I g.fLetters, I g.fPlaces, LS ApiArrow.ty g.fArrows, .gs 1 0] 115 false : Item)
noncomputable abbrev qbWalking1 (g : ApiGraph) (y0 : Int) := ([sl 3 (.ptr 2 0), sl 15 (LS ApiArrow.ty g.fArrows), sl 16 (I (g.fArrows.length : Int)), sl 17 (I y0)] : List (Nat × SC))
noncomputable abbrev qbWalking2 (g : ApiGraph) := sl 16 (I (g.fArrows.length : Int))
noncomputable abbrev qbWalking3 (g : ApiGraph) := sl 15 (LS ApiArrow.ty g.fArrows)
noncomputable abbrev qbWalking4 (g : ApiGraph) (y0) := ([.gone, gridI 37 3 intT y0, (qbWalking0 g)] : List Item)
noncomputable abbrev qbWalking5 (y0) := ([.gone, .gone, .gone, .box (ApiArrow.cl y0) 26 false] : List Item)
theorem bWalking_walk (g : ApiGraph) (Q : BranchWalker → Prop) (h : bWalking_vc g Q) : Ct 22 [.sv (.agg [I g.fLetters, I g.fPlaces, LS ApiArrow.ty g.fArrows])] [] Q (fun (r : BranchWalker) => .sv (.one (.pe (svR (.agg [I r.fGraph.fLetters, I r.fGraph.fPlaces, LS ApiArrow.ty r.fGraph.fArrows, LS (lsT intT) r.fNext])) 4))) := by
 have ht := tab_ok
 refine Ct.body Try.func22 rfl rfl rfl rfl (fun c hn => ?_)
 unfold bWalking_vc at h
 refine En.lenA 0 2 (by rfl) (by rfl) (fun hl => ?_)
 replace h := h hl
 clear hl
 refine En.sr ?_
 refine WL.rn ht hn 2 ⟨[sl 1 (.ptr 0 0)], [.box (ApiGraph.cl g) 24 false]⟩ ?_
 refine En.seq ?_
 obtain ⟨hp_2, h⟩ := h
 refine En.regionA ⟨[sl 1 (.ptr 0 0)], [.sv (.agg (ApiGraph.cl g)), .sv (.one (.ptr 0 1)), .sv (.one (I g.fPlaces)), .sv (.one (.gs 1 0)), .sv (.agg [I g.fLetters, I g.fPlaces, LS ApiArrow.ty g.fArrows, .gs 1 0]), .sv (.one (.ptr 2 0)), .sv (.one (.ptr 2 0))], [⟨.box (ApiGraph.cl g) 24 false, none, none, none⟩, ⟨gridI 37 3 intT (List.replicate (g.fPlaces).toNat ([] : (List Int))), some 3, none, none⟩, ⟨(qbWalking0 g), some 5, none, none⟩]⟩ ⟨[sl 1 (.ptr 0 0), sl 3 (.ptr 2 0)], [.box (ApiGraph.cl g) 24 false, gridI 37 3 intT (List.replicate (g.fPlaces).toNat ([] : (List Int))), (qbWalking0 g)]⟩ (by kernel_rfl) hn (by kernel_rfl) (by rfl) (by kernel_rfl) ?_ (by kernel_rfl) ?_
 exact ⟨.ev ⟨[sl 1 (.ptr 0 0)], [.box (ApiGraph.cl g) 24 false]⟩ ht,
 .ev ⟨[sl 1 (.ptr 0 0)], []⟩ ht,
 .ev ⟨[sl 9 (.ptr 0 1)], [.box (ApiGraph.cl g) 24 false]⟩ ht,
 .mt ⟨[sl 10 (I g.fPlaces)], []⟩ [] (some 1) (by kernel_rfl) (by rfl) (mt_makeG intT 3 (zv := .slice none 0 0) 1 (l := g.fPlaces) (cp := g.fPlaces) ht rfl (by rfl) (by rfl) (by rfl) (by rfl) (by rfl) (by rfl) hp_2.1 hp_2.2.1 hp_2.2.2 (hp_2.le (by decide)) rfl rfl) rfl rfl rfl rfl,
 .ev ⟨[(8, .sv (.agg (ApiGraph.cl g))), sl 11 (.gs 1 0)], []⟩ ht,
 .mt ⟨[(12, .sv (.agg [I g.fLetters, I g.fPlaces, LS ApiArrow.ty g.fArrows, .gs 1 0]))], []⟩ [] (some 2) (by kernel_rfl) (by rfl) (mt_box (s := .agg [I g.fLetters, I g.fPlaces, LS ApiArrow.ty g.fArrows, .gs 1 0]) 2 rfl (by rfl) (fun h => by cases h) (by rfl)) rfl rfl rfl rfl,
 .ev ⟨[sl 13 (.ptr 2 0)], []⟩ ht,
 trivial⟩
 refine En.seq ?_
 refine En.sr ?_
 refine WL.rn ht hn 4 ⟨[sl 3 (.ptr 2 0), (qbWalking3 g), (qbWalking2 g), sl 17 (I 0)], [.gone, gridI 37 3 intT (List.replicate (g.fPlaces).toNat ([] : (List Int))), (qbWalking0 g)]⟩ ?_
 refine En.block ?_
 obtain ⟨Inv, mu, h0_2, hI_2⟩ := h
 refine En.loop (σ := Int × (List (List Int))) (fun zz => Inv zz.1 zz.2) (fun zz => mu zz.1 zz.2) (fun zz => ⟨[sl 3 (.ptr 2 0), (qbWalking3 g), (qbWalking2 g), sl 17 (I zz.1)], [.gone, gridI 37 3 intT zz.2, (qbWalking0 g)]⟩) (0, (List.replicate (g.fPlaces).toNat ([] : (List Int)))) h0_2 (sub_ok (by kernel_rfl)) ?_
 rintro ⟨x17, g1⟩ h
 replace h := hI_2 _ _ h
 show En c ⟨(qbWalking1 g x17), [.gone, gridI 37 3 intT g1, (qbWalking0 g)]⟩ _
 refine En.sr ?_
 refine WL.rn ht hn 1 ⟨[sl 3 (.ptr 2 0), (qbWalking3 g), (qbWalking2 g), sl 17 (I x17), sl 18 (B (decide (x17 < (g.fArrows.length : Int))))], [.gone, gridI 37 3 intT g1, (qbWalking0 g)]⟩ ?_
 refine En.seq ?_
 refine En.cd (b := (decide (x17 < (g.fArrows.length : Int)))) (fun hb => ?_) (fun hb => ?_)
 replace h := h.1 hb
 refine En.skip ?_
 obtain ⟨J, h, hJ⟩ := h
 refine En.seqJ (σ := (List (List Int))) (fun zz => J zz) (fun zz => ⟨(qbWalking1 g x17), [.gone, gridI 37 3 intT zz, (qbWalking0 g), .gone]⟩) ?_ ?_
 refine En.block ?_
 refine En.sr ?_
 obtain ⟨e, he, h⟩ := h
 refine WL.v hn (val_ix (T := ApiArrow.ty) (l := g.fArrows) (i := x17) ht rfl he) ?_
 refine WL.v hn (val_ld (s := .agg (ApiArrow.cl e)) ht rfl) ?_
 refine WL.rn ht hn 2 ⟨[sl 3 (.ptr 2 0), sl 5 (.ptr 3 0), (qbWalking3 g), (qbWalking2 g), sl 17 (I x17)], [.gone, gridI 37 3 intT g1, (qbWalking0 g), .box (ApiArrow.cl e) 26 false]⟩ ?_
 refine En.seq ?_
 obtain ⟨e_2, he_2, h⟩ := h
 refine En.regionA ⟨[sl 3 (.ptr 2 0), sl 5 (.ptr 3 0), (qbWalking3 g), (qbWalking2 g), sl 17 (I x17)], [.sv (.one (.ptr 2 0)), .sv (.one (.ptr 2 0)), .sv (.one (.ptr 2 3)), .sv (.one (.gs 1 0)), .sv (.one (.ptr 3 0)), .sv (.one (I e.fFrom)), .sv (.one (.ge 1 0 (e.fFrom).toNat 1)), .sv (.one (.gs 1 ((e.fFrom).toNat + 1))), .sv (.one (.ptr 3 2)), .sv (.one (I e.fTo)), .sv (.one (B (e_2.any (fun x => e.fTo == x)))), .sv (.one (B (!(e_2.any (fun x => e.fTo == x)))))], [⟨.gone, none, none, none⟩, ⟨gridI 37 3 intT g1, none, none, none⟩, ⟨(qbWalking0 g), none, none, none⟩, ⟨.box (ApiArrow.cl e) 26 false, none, none, none⟩]⟩ ⟨[sl 3 (.ptr 2 0), sl 5 (.ptr 3 0), (qbWalking3 g), (qbWalking2 g), sl 17 (I x17), sl 32 (B (!(e_2.any (fun x => e.fTo == x))))], [.gone, gridI 37 3 intT g1, (qbWalking0 g), .box (ApiArrow.cl e) 26 false]⟩ (by kernel_rfl) hn (by kernel_rfl) (by rfl) (by kernel_rfl) ?_ (by kernel_rfl) ?_
 exact ⟨.ev ⟨[sl 3 (.ptr 2 0)], []⟩ ht,
 .ev ⟨[sl 21 (.ptr 2 0)], []⟩ ht,
 .ev ⟨[sl 22 (.ptr 2 0)], []⟩ ht,
 .ev ⟨[sl 23 (.ptr 2 3)], [.gone, .gone, (qbWalking0 g)]⟩ ht,
 .ev ⟨[sl 5 (.ptr 3 0)], []⟩ ht,
 .ev ⟨[sl 25 (.ptr 3 0)], (qbWalking5 e)⟩ ht,
 .vl ⟨[sl 24 (.gs 1 0), sl 26 (I e.fFrom)], [.gone, gridI 37 3 intT g1]⟩ (mt_val (val_indexG0 (T := intT) (L := g1) (k := e.fFrom) ht rfl (by rfl) (by rfl) (by rfl) (by rfl) (by rfl) (by rfl) (by rfl) ⟨(idx_some he_2).1, (idx_some he_2).2.1⟩)),
 .vl ⟨[sl 27 (.ge 1 0 (e.fFrom).toNat 1)], [.gone, gridI 37 3 intT g1]⟩ (mt_val (val_loadG0 (T := intT) (L := g1) ht rfl (by rfl) (by rfl) (by rfl) (by rfl) (idx_lt he_2))),
 .ev ⟨[sl 5 (.ptr 3 0)], []⟩ ht,
 .ev ⟨[sl 29 (.ptr 3 2)], (qbWalking5 e)⟩ ht,
 .mt ⟨[sl 28 (.gs 1 ((e.fFrom).toNat + 1)), sl 30 (I e.fTo)], [.gone, gridI 37 3 intT g1]⟩ [] none (by kernel_rfl) (by rfl) (mt_lendR (T := intT) (L := g1) (l := e_2) 1 28 (by rfl) (idx_some he_2).2.2 (by rfl) (by rfl) (mt_c (containsI_ct e_2 e.fTo) en49 rfl)) rfl rfl rfl rfl,
 .ev ⟨[sl 31 (B (e_2.any (fun x => e.fTo == x)))], []⟩ ht,
 trivial⟩
 refine En.cd (b := (!(e_2.any (fun x => e.fTo == x)))) (fun hb => ?_) (fun hb => ?_)
 replace h := h.1 hb
 obtain ⟨e_3, he_3, h⟩ := h
 refine En.takeGL (T := intT) (L := g1) (l := e_3) (i := 1) (p := (e.fFrom).toNat) (j := 4) (by rfl) (idx_some he_3).2.2 (by rfl) (by rfl) ?_
 refine En.sub' ⟨[sl 3 (.ptr 2 0), sl 5 (.ptr 3 0), (qbWalking3 g), (qbWalking2 g), sl 17 (I x17), sl 32 (B (!(e_2.any (fun x => e.fTo == x))))], [.gone, gridH 37 3 intT g1 (e.fFrom).toNat (some ((e.fFrom).toNat, 4)), (qbWalking0 g), .box (ApiArrow.cl e) 26 false, rowI 3 intT e_3]⟩ (by kernel_rfl) ?_
 obtain ⟨e_4, he_4, h⟩ := h
 obtain ⟨hp_4, h⟩ := h
 refine En.regionT ⟨[sl 3 (.ptr 2 0), sl 5 (.ptr 3 0), (qbWalking3 g), (qbWalking2 g), sl 17 (I x17)], [.sv (.one (.ptr 2 0)), .sv (.one (.ptr 2 0)), .sv (.one (.ptr 2 3)), .sv (.one (.gs 1 0)), .sv (.one (.ptr 3 0)), .sv (.one (I e.fFrom)), .sv (.one (.ptr 2 0)), .sv (.one (.ptr 2 0)), .sv (.one (.ptr 2 3)), .sv (.one (.gs 1 0)), .sv (.one (.ptr 3 0)), .sv (.one (I e.fFrom)), .sv (.one (.ge 1 0 (e.fFrom).toNat 1)), .sv (.one (.own 4)), .sv (.one (.ptr 3 2)), .sv (.one (I e.fTo)), .sv (.one (LS intT ([e.fTo] : (List Int)))), .sv (.one (.own 5))], [⟨.gone, none, none, none⟩, ⟨gridH 37 3 intT g1 (e.fFrom).toNat (some ((e.fFrom).toNat, 4)), none, none, none⟩, ⟨(qbWalking0 g), none, none, none⟩, ⟨.box (ApiArrow.cl e) 26 false, none, none, none⟩, ⟨rowI 3 intT e_3, none, some 17, none⟩, ⟨rowI 3 intT (e_3 ++ ([e.fTo] : (List Int))), some 17, none, none⟩]⟩ 18 ⟨[sl 3 (.ptr 2 0), (qbWalking3 g), (qbWalking2 g), sl 17 (I x17), sl 36 (.gs 1 0), sl 38 (I e.fFrom), sl 50 (.own 5)], [.gone, gridH 37 3 intT g1 (e.fFrom).toNat (some ((e.fFrom).toNat, 4)), (qbWalking0 g), .gone, .gone, rowI 3 intT (e_3 ++ ([e.fTo] : (List Int)))]⟩ (by kernel_rfl) hn (by kernel_rfl) (by kernel_rfl) (by kernel_rfl) (by rfl) (by kernel_rfl) ?_ (by kernel_rfl) ?_
 exact ⟨.ev ⟨[sl 3 (.ptr 2 0)], []⟩ ht,
 .ev ⟨[sl 33 (.ptr 2 0)], []⟩ ht,
 .ev ⟨[sl 34 (.ptr 2 0)], []⟩ ht,
 .ev ⟨[sl 35 (.ptr 2 3)], [.gone, .gone, (qbWalking0 g)]⟩ ht,
 .ev ⟨[sl 5 (.ptr 3 0)], []⟩ ht,
 .ev ⟨[sl 37 (.ptr 3 0)], (qbWalking5 e)⟩ ht,
 .ev ⟨[sl 3 (.ptr 2 0)], []⟩ ht,
 .ev ⟨[sl 39 (.ptr 2 0)], []⟩ ht,
 .ev ⟨[sl 40 (.ptr 2 0)], []⟩ ht,
 .ev ⟨[sl 41 (.ptr 2 3)], [.gone, .gone, (qbWalking0 g)]⟩ ht,
 .ev ⟨[sl 5 (.ptr 3 0)], []⟩ ht,
 .ev ⟨[sl 43 (.ptr 3 0)], (qbWalking5 e)⟩ ht,
 .vl ⟨[sl 42 (.gs 1 0), sl 44 (I e.fFrom)], [.gone, gridH 37 3 intT g1 (e.fFrom).toNat (some ((e.fFrom).toNat, 4))]⟩ (mt_val (val_indexGH (T := intT) (L := g1) (k := e.fFrom) ht rfl (by rfl) (by rfl) (by rfl) (by rfl) (by rfl) (by rfl) (by rfl) ⟨(idx_some he_4).1, (idx_some he_4).2.1⟩)),
 .vl ⟨[sl 45 (.ge 1 0 (e.fFrom).toNat 1)], [.gone, gridH 37 3 intT g1 (e.fFrom).toNat (some ((e.fFrom).toNat, 4))]⟩ (mt_val (val_loadGH (T := intT) (L := g1) (p := (e.fFrom).toNat) (j := 4) ht rfl (by rfl) (by rfl) (by rfl) (by rfl))),
 .ev ⟨[sl 5 (.ptr 3 0)], []⟩ ht,
 .ev ⟨[sl 47 (.ptr 3 2)], (qbWalking5 e)⟩ ht,
 .mt ⟨[sl 48 (I e.fTo)], []⟩ [] none (by kernel_rfl) (by rfl) (mt_seal (q := 5) (e := 3) (mt_lit (T := intT) ([e.fTo] : (List Int)) (mt_bsl 5 (r := cellsOf intT ([e.fTo] : (List Int))) ht rfl (by rfl) (by rfl) (by rfl) (by kernel_rfl) (by rfl)) (fun _ h => by cases h) (fun _ => rfl) (fun _ => rfl) (by rfl) (Nat.le_of_ble_eq_true rfl))) rfl rfl rfl rfl,
 .mt ⟨[sl 46 (.own 4), sl 49 (LS intT ([e.fTo] : (List Int)))], [.gone, .gone, .gone, .gone, rowI 3 intT e_3]⟩ [4] (some 5) (by kernel_rfl) (by rfl) (mt_append (T := intT) (l := e_3) (es := ([e.fTo] : (List Int))) (p := 5) ht rfl (by rfl) (by rfl) (by rfl) (by rfl) (by decide) (by rfl) (by rfl) (srcLS (T := intT) (es := ([e.fTo] : (List Int))) (fun _ h => by cases h) (by decide) (by rfl)) (by exact hp_4) (by exact hp_4.le (by decide))) rfl rfl rfl rfl,
 trivial⟩
 obtain ⟨e_5, he_5, h⟩ := h
 refine WL.v hn (val_indexGH (T := intT) (L := g1) (k := e.fFrom) ht rfl (by rfl) (by rfl) (by rfl) (by rfl) (by rfl) (by rfl) (by rfl) ⟨(idx_some he_5).1, (idx_some he_5).2.1⟩) ?_
 refine WL.putGH (T := intT) (L := g1) (l := (e_3 ++ ([e.fTo] : (List Int)))) ht hn (by rfl) rfl (by rfl) (by rfl) (by rfl) (by rfl) (by rfl) (by rfl) (idx_lt he_5) (by rfl) (by rfl) ?_
 refine WL.sub ⟨[sl 3 (.ptr 2 0), (qbWalking3 g), (qbWalking2 g), sl 17 (I x17), sl 36 (.gs 1 0), sl 38 (I e.fFrom)], [.gone, gridI 37 3 intT (g1.set (e.fFrom).toNat (e_3 ++ ([e.fTo] : (List Int)))), (qbWalking0 g), .gone, .gone, .gone]⟩ (by kernel_rfl) ?_
 refine WL.nil ?_
 exact En.at (I := fun zz => J zz) (T := fun zz => ⟨(qbWalking1 g x17), [.gone, gridI 37 3 intT zz, (qbWalking0 g), .gone]⟩) (g1.set (e.fFrom).toNat (e_3 ++ ([e.fTo] : (List Int)))) h (by kernel_rfl)
 replace h := h.2 hb
 refine En.skip ?_
 exact En.at (I := fun zz => J zz) (T := fun zz => ⟨(qbWalking1 g x17), [.gone, gridI 37 3 intT zz, (qbWalking0 g), .gone]⟩) g1 h (by kernel_rfl)
 intro g1_2 h
 replace h := hJ _ h
 show En c ⟨(qbWalking1 g x17), [.gone, gridI 37 3 intT g1_2, (qbWalking0 g), .gone]⟩ _
 refine En.region ?_
 refine WL.rn ht hn 2 ⟨[sl 3 (.ptr 2 0), (qbWalking3 g), (qbWalking2 g), sl 17 (I (wr (x17 + 1)))], [.gone, gridI 37 3 intT g1_2, (qbWalking0 g), .gone]⟩ ?_
 exact En.at (I := fun zz => Inv zz.1 zz.2 ∧ mu zz.1 zz.2 < mu x17 g1) (T := fun zz => ⟨[sl 3 (.ptr 2 0), (qbWalking3 g), (qbWalking2 g), sl 17 (I zz.1)], [.gone, gridI 37 3 intT zz.2, (qbWalking0 g)]⟩) ((wr (x17 + 1)), g1_2) h (by kernel_rfl)
 replace h := h.2 hb
 refine En.exit rfl ?_
 refine En.seq ?_
 refine En.sr ?_
 refine WL.r ht hn 4 ⟨[sl 3 (.ptr 2 0), sl 56 (.gs 1 0)], [.gone, gridI 37 3 intT g1, (qbWalking0 g)]⟩ ?_
 refine WL.v hn (val_lenG0 (T := intT) (L := g1) ht rfl (by rfl) (by rfl) (by rfl) (by rfl)) ?_
 refine WL.rn ht hn 1 ⟨[sl 3 (.ptr 2 0), sl 56 (.gs 1 0), sl 57 (I (g1.length : Int)), sl 58 (I 0)], [.gone, gridI 37 3 intT g1, (qbWalking0 g)]⟩ ?_
 refine En.block ?_
 obtain ⟨Inv_2, mu_2, h0, hI⟩ := h
 refine En.loop (σ := Int × (List (List Int))) (fun zz => Inv_2 zz.1 zz.2) (fun zz => mu_2 zz.1 zz.2) (fun zz => ⟨[sl 3 (.ptr 2 0), sl 56 (.gs 1 0), sl 57 (I (g1.length : Int)), sl 58 (I zz.1)], [.gone, gridI 37 3 intT zz.2, (qbWalking0 g)]⟩) (0, g1) h0 (sub_ok (by kernel_rfl)) ?_
 rintro ⟨x58, g1_3⟩ h
 replace h := hI _ _ h
 show En c ⟨[sl 3 (.ptr 2 0), sl 56 (.gs 1 0), sl 57 (I (g1.length : Int)), sl 58 (I x58)], (qbWalking4 g g1_3)⟩ _
 refine En.sr ?_
 refine WL.rn ht hn 1 ⟨[sl 3 (.ptr 2 0), sl 56 (.gs 1 0), sl 57 (I (g1.length : Int)), sl 58 (I x58), sl 59 (B (decide (x58 < (g1.length : Int))))], (qbWalking4 g g1_3)⟩ ?_
 refine En.seq ?_
 refine En.cd (b := (decide (x58 < (g1.length : Int)))) (fun hb => ?_) (fun hb => ?_)
 replace h := h.1 hb
 refine En.skip ?_
 obtain ⟨J_2, h, hJ_2⟩ := h
 refine En.seqJ (σ := (List (List Int))) (fun zz => J_2 zz) (fun zz => ⟨[sl 3 (.ptr 2 0), sl 56 (.gs 1 0), sl 57 (I (g1.length : Int)), sl 58 (I x58)], [.gone, gridI 37 3 intT zz, (qbWalking0 g)]⟩) ?_ ?_
 refine En.block ?_
 refine En.sr ?_
 refine WL.r ht hn 1 ⟨[sl 3 (.ptr 2 0), sl 56 (.gs 1 0), sl 57 (I (g1.length : Int)), sl 58 (I x58), sl 60 (I x58)], (qbWalking4 g g1_3)⟩ ?_
 obtain ⟨e_6, he_6, h⟩ := h
 refine WL.v hn (val_indexG0 (T := intT) (L := g1_3) (k := x58) ht rfl (by rfl) (by rfl) (by rfl) (by rfl) (by rfl) (by rfl) (by rfl) ⟨(idx_some he_6).1, (idx_some he_6).2.1⟩) ?_
 refine WL.v hn (val_loadG0 (T := intT) (L := g1_3) ht rfl (by rfl) (by rfl) (by rfl) (by rfl) (idx_lt he_6)) ?_
 refine WL.rn ht hn 2 ⟨[sl 3 (.ptr 2 0), sl 6 (I x58), sl 7 (.gs 1 ((x58).toNat + 1)), sl 56 (.gs 1 0), sl 57 (I (g1.length : Int)), sl 58 (I x58)], (qbWalking4 g g1_3)⟩ ?_
 refine En.sr ?_
 refine WL.r ht hn 1 ⟨[sl 3 (.ptr 2 0), sl 6 (I x58), sl 56 (.gs 1 0), sl 57 (I (g1.length : Int)), sl 58 (I x58), sl 63 (.gs 1 ((x58).toNat + 1))], (qbWalking4 g g1_3)⟩ ?_
 refine WL.v hn (val_lenG (T := intT) (L := g1_3) (l := e_6) ht rfl (by rfl) (by rfl) (by rfl) (by rfl) (idx_some he_6).2.2) ?_
 refine WL.rn ht hn 1 ⟨[sl 3 (.ptr 2 0), sl 6 (I x58), sl 56 (.gs 1 0), sl 57 (I (g1.length : Int)), sl 58 (I x58), sl 65 (B ((e_6.length : Int) == 0))], (qbWalking4 g g1_3)⟩ ?_
 refine En.cd (b := ((e_6.length : Int) == 0)) (fun hb => ?_) (fun hb => ?_)
 replace h := h.1 hb
 refine En.region ?_
 refine WL.r ht hn 6 ⟨[sl 3 (.ptr 2 0), sl 56 (.gs 1 0), sl 57 (I (g1.length : Int)), sl 58 (I x58), sl 69 (.gs 1 0), sl 70 (I x58), sl 71 (I x58)], (qbWalking4 g g1_3)⟩ ?_
 refine WL.mt0 (K := []) (p := some (3, rowI 3 intT ([x58] : (List Int)))) hn (by rfl) (mt_lit (T := intT) ([x58] : (List Int)) (mt_bsl 3 (r := cellsOf intT ([x58] : (List Int))) ht rfl (by rfl) (by rfl) (by rfl) (by kernel_rfl) (by rfl)) (fun _ h => by cases h) (fun _ => rfl) (fun _ => rfl) (by rfl) (Nat.le_of_ble_eq_true rfl)) (by rfl) (by rfl) (by rfl) ?_
 obtain ⟨e_7, he_7, h⟩ := h
 refine WL.v hn (val_indexG0 (T := intT) (L := g1_3) (k := x58) ht rfl (by rfl) (by rfl) (by rfl) (by rfl) (by rfl) (by rfl) (by rfl) ⟨(idx_some he_7).1, (idx_some he_7).2.1⟩) ?_
 refine WL.putG (T := intT) (L := g1_3) (l := ([x58] : (List Int))) ht hn (by rfl) rfl (by rfl) (by rfl) (by rfl) (by rfl) (by rfl) (by rfl) (idx_lt he_7) (by rfl) (by rfl) ?_
 refine WL.sub ⟨[sl 3 (.ptr 2 0), sl 56 (.gs 1 0), sl 57 (I (g1.length : Int)), sl 58 (I x58), sl 69 (.gs 1 0), sl 70 (I x58), sl 71 (I x58)], [.gone, gridI 37 3 intT (g1_3.set (x58).toNat ([x58] : (List Int))), (qbWalking0 g), .gone]⟩ (by kernel_rfl) ?_
 refine WL.nil ?_
 exact En.at (I := fun zz => J_2 zz) (T := fun zz => ⟨[sl 3 (.ptr 2 0), sl 56 (.gs 1 0), sl 57 (I (g1.length : Int)), sl 58 (I x58)], [.gone, gridI 37 3 intT zz, (qbWalking0 g)]⟩) (g1_3.set (x58).toNat ([x58] : (List Int))) h (by kernel_rfl)
 replace h := h.2 hb
 refine En.skip ?_
 exact En.at (I := fun zz => J_2 zz) (T := fun zz => ⟨[sl 3 (.ptr 2 0), sl 56 (.gs 1 0), sl 57 (I (g1.length : Int)), sl 58 (I x58)], [.gone, gridI 37 3 intT zz, (qbWalking0 g)]⟩) g1_3 h (by kernel_rfl)
 intro g1_4 h
 replace h := hJ_2 _ h
 show En c ⟨[sl 3 (.ptr 2 0), sl 56 (.gs 1 0), sl 57 (I (g1.length : Int)), sl 58 (I x58)], [.gone, gridI 37 3 intT g1_4, (qbWalking0 g)]⟩ _
 refine En.region ?_
 refine WL.rn ht hn 2 ⟨[sl 3 (.ptr 2 0), sl 56 (.gs 1 0), sl 57 (I (g1.length : Int)), sl 58 (I (wr (x58 + 1)))], [.gone, gridI 37 3 intT g1_4, (qbWalking0 g)]⟩ ?_
 exact En.at (I := fun zz => Inv_2 zz.1 zz.2 ∧ mu_2 zz.1 zz.2 < mu_2 x58 g1_3) (T := fun zz => ⟨[sl 3 (.ptr 2 0), sl 56 (.gs 1 0), sl 57 (I (g1.length : Int)), sl 58 (I zz.1)], [.gone, gridI 37 3 intT zz.2, (qbWalking0 g)]⟩) ((wr (x58 + 1)), g1_4) h (by kernel_rfl)
 replace h := h.2 hb
 refine En.exit rfl ?_
 refine En.sr ?_
 refine WL.rn ht hn 2 ⟨[sl 2 (.ptr 2 0)], (qbWalking4 g g1_3)⟩ ?_
 refine En.ret ?_
 refine En.sealG (T := intT) (L' := g1_3) 1 (by rfl) ?_
 refine En.freeze [2] (by rfl) ?_
 refine En.ghost 2 (o1 (.pe (svR (.agg [I g.fLetters, I g.fPlaces, LS ApiArrow.ty g.fArrows, LS (lsT intT) g1_3])) 4)) (by rfl) (pe_of (i := 2) (cells := [I g.fLetters, I g.fPlaces, LS ApiArrow.ty g.fArrows, LS (lsT intT) g1_3]) (by rfl) (by rfl) (by rfl)) ?_
 exact En.back ht (BranchWalker.mk g g1_3) h (by kernel_rfl) rfl
theorem en22 : ∀ args w, (callFunc 22 args).run Try.prog w = .ok (.enter 22 args) w := enters_of Try.func22 (by kernel_rfl) rfl
def addA (l : List (List Int)) (x : ApiArrow) : List (List Int) := if ((l.getD x.fFrom.toNat []).any fun y => x.fTo == y) = true then l else l.set x.fFrom.toNat (l.getD x.fFrom.toNat [] ++ [x.fTo])
def fillN (l : List (List Int)) : List (List Int) := (List.range l.length).map fun p => if (l.getD p []).length = 0 then [(p : Int)] else l.getD p []
def walkR (g : ApiGraph) : BranchWalker := ⟨g, fillN (g.fArrows.foldl addA (List.replicate g.fPlaces.toNat []))⟩
structure GrOk (g : ApiGraph) : Prop where
 pos : 0 ≤ g.fPlaces ∧ g.fPlaces ≤ 1000
 num : g.fArrows.length ≤ 100000
 ends : ∀ x ∈ g.fArrows, (0 ≤ x.fFrom ∧ x.fFrom < g.fPlaces) ∧ 0 ≤ x.fTo ∧ x.fTo < g.fPlaces
def RowsOk (n : Int) (k : Nat) (l : List (List Int)) : Prop := l.length = n.toNat ∧ ∀ (p : Nat) (row : List Int), l[p]? = some row → row.length ≤ k ∧ ∀ q ∈ row, 0 ≤ q ∧ q < n
theorem addA_ok {n : Int} {k : Nat} {l : List (List Int)} {x : ApiArrow} (h : RowsOk n k l) (hx : 0 ≤ x.fTo ∧ x.fTo < n) : RowsOk n (k + 1) (addA l x) := by
 obtain ⟨h1, h2⟩ := h
 unfold addA
 split
 ·exact ⟨h1, fun p row hp => ⟨Nat.le_succ_of_le (h2 p row hp).1, (h2 p row hp).2⟩⟩
 ·refine ⟨by rw [List.length_set]; exact h1, fun p row hp => ?_⟩
  rw [List.getElem?_set] at hp
  split at hp
  ·rename_i e
   split at hp
   ·rename_i hlt
    cases hp
    obtain ⟨r1, r2⟩ := h2 x.fFrom.toNat _ (List.getElem?_eq_getElem hlt)
    have e2 : l.getD x.fFrom.toNat [] = l[x.fFrom.toNat] := by rw [List.getD_eq_getElem?_getD, List.getElem?_eq_getElem hlt]; rfl
    rw [e2]
    refine ⟨by rw [List.length_append, List.length_singleton]; omega, fun q hq => ?_⟩
    rcases List.mem_append.1 hq with hq | hq
    ·exact r2 q hq
    ·cases List.mem_singleton.1 hq
     exact hx
   ·cases hp
  ·exact ⟨Nat.le_succ_of_le (h2 p row hp).1, (h2 p row hp).2⟩
theorem rows_fold {n : Int} : ∀ (xs : List ApiArrow) {k : Nat} {l : List (List Int)}, RowsOk n k l → (∀ x ∈ xs, 0 ≤ x.fTo ∧ x.fTo < n) → RowsOk n (k + xs.length) (xs.foldl addA l)
 | [], _, _, h, _ => h
 | x :: xs, k, l, h, hx => by
  have := rows_fold xs (addA_ok h (hx x (List.mem_cons_self ..))) (fun y hy => hx y (List.mem_cons_of_mem _ hy))
  rw [List.length_cons, show k + (xs.length + 1) = k + 1 + xs.length by omega]
  exact this
theorem rows_zero (n : Int) : RowsOk n 0 (List.replicate n.toNat []) := ⟨List.length_replicate, fun p row hp => by
 rw [List.getElem?_replicate] at hp
 split at hp
 ·cases hp
  exact ⟨Nat.le_refl _, fun q hq => by cases hq⟩
 ·cases hp⟩
theorem fillN_len (l : List (List Int)) : (fillN l).length = l.length := by unfold fillN; rw [List.length_map, List.length_range]
theorem walkR_ok {g : ApiGraph} (h : GrOk g) : WOk (walkR g) := by
 obtain ⟨h1, h2⟩ := rows_fold g.fArrows (rows_zero g.fPlaces) (fun x hx => (h.ends x hx).2)
 refine ⟨by show (fillN _).length = _; rw [fillN_len]; exact h1, h.pos, fun p q hq => ?_⟩
 obtain ⟨l, hl⟩ : ∃ l, g.fArrows.foldl addA (List.replicate g.fPlaces.toNat []) = l := ⟨_, rfl⟩
 have hq : q ∈ (fillN (g.fArrows.foldl addA (List.replicate g.fPlaces.toNat []))).getD p.toNat [] := hq
 rw [hl] at hq h1 h2
 show 0 ≤ q ∧ q < g.fPlaces
 by_cases hp : p.toNat < l.length
 ·rw [List.getD_eq_getElem?_getD, fillN, List.getElem?_map, List.getElem?_range hp] at hq
  have hq : q ∈ (if (l.getD p.toNat []).length = 0 then [((p.toNat : Nat) : Int)] else l.getD p.toNat []) := hq
  split at hq
  ·cases List.mem_singleton.1 hq
   omega
  ·have e2 : l.getD p.toNat [] = l[p.toNat] := by rw [List.getD_eq_getElem?_getD, List.getElem?_eq_getElem hp]; rfl
   rw [e2] at hq
   exact (h2 p.toNat _ (List.getElem?_eq_getElem hp)).2 q hq
 ·rw [List.getD_eq_getElem?_getD, List.getElem?_eq_none (by rw [fillN_len]; omega)] at hq
  cases hq
theorem bWalking_ct (g : ApiGraph) (hp : GrOk g)  : Ct 22 [.sv (.agg [I g.fLetters, I g.fPlaces, LS ApiArrow.ty g.fArrows])] [] (fun (_ : Unit) => True) (fun _ => .sv (.one (.pe (svR (.agg [I (walkR g).fGraph.fLetters, I (walkR g).fGraph.fPlaces, LS ApiArrow.ty (walkR g).fGraph.fArrows, LS (lsT intT) (walkR g).fNext])) 4))) := by
 refine (bWalking_walk g (fun res_ => res_ = (walkR g)) ?_).fun
 unfold bWalking_vc
 obtain ⟨⟨h0, h1⟩, hn, hE⟩ := hp
 intro _
 refine ⟨⟨by omega, Int.le_refl _, by omega⟩, fun x l => ∃ k : Nat, x = k ∧ k ≤ g.fArrows.length ∧ l = (g.fArrows.take k).foldl addA (List.replicate g.fPlaces.toNat []), fun x _ => g.fArrows.length - x.toNat, ⟨0, rfl, Nat.zero_le _, rfl⟩, ?_⟩
 rintro _ l ⟨k, rfl, hk, hl⟩
 have hR : RowsOk g.fPlaces (0 + (g.fArrows.take k).length) l := by
  rw [hl]
  exact rows_fold _ (rows_zero _) fun x hx => (hE x (List.mem_of_mem_take hx)).2
 obtain ⟨hR1, hR2⟩ := hR
 rw [List.length_take] at hR2
 refine ⟨fun hb => ?_, fun hb => ?_⟩
 ·have hlt : k < g.fArrows.length := by have := of_decide_eq_true hb; omega
  obtain ⟨x, hxe⟩ : ∃ x, g.fArrows[k] = x := ⟨_, rfl⟩
  have hx := hE g.fArrows[k] (List.getElem_mem hlt)
  rw [hxe] at hx
  have hfl : x.fFrom.toNat < l.length := by omega
  have hix : idx l x.fFrom = some (l.getD x.fFrom.toNat []) := idx_of [] hx.1.1 (by omega)
  have e2 : l.getD x.fFrom.toNat [] = l[x.fFrom.toNat] := by rw [List.getD_eq_getElem?_getD, List.getElem?_eq_getElem hfl]; rfl
  have hrow : (l.getD x.fFrom.toNat []).length ≤ 100000 := by
   rw [e2]
   have := (hR2 x.fFrom.toNat _ (List.getElem?_eq_getElem hfl)).1
   omega
  have hstep : (g.fArrows.take (k + 1)).foldl addA (List.replicate g.fPlaces.toNat []) = addA l x := by
   rw [List.take_add_one, List.getElem?_eq_getElem hlt, List.foldl_append, ← hl, hxe]
   rfl
  refine ⟨fun l2 => l2 = addA l x, ⟨x, by rw [idx_at hlt, hxe], _, hix, fun e => ⟨_, hix, _, hix, capOk_of (by simp only [List.length_cons, List.length_nil]; omega), _, hix, ?_⟩, fun e => ?_⟩, ?_⟩
  ·show _ = addA l x
   unfold addA
   rw [if_neg (fun h => absurd e (by rw [h]; decide))]
  ·show _ = addA l x
   unfold addA
   rw [if_pos (by revert e; cases (List.any (l.getD x.fFrom.toNat []) fun y => x.fTo == y) <;> simp)]
  ·rintro _ rfl
   rw [up1 (by omega)]
   exact ⟨⟨k + 1, rfl, hlt, hstep.symm⟩, by show g.fArrows.length - (k + 1) < g.fArrows.length - k; omega⟩
 ·have hke : k = g.fArrows.length := by have := of_decide_eq_false hb; omega
  subst hke
  rw [List.take_length] at hl
  refine ⟨fun x m => ∃ j : Nat, x = j ∧ j ≤ l.length ∧ m.length = l.length ∧ ∀ i : Nat, i < l.length → m[i]? = some (if i < j then (if (l.getD i []).length = 0 then [(i : Int)] else l.getD i []) else l.getD i []), fun x _ => l.length - x.toNat, ⟨0, rfl, Nat.zero_le _, rfl, fun i hi => by rw [if_neg (by omega), List.getD_eq_getElem?_getD, List.getElem?_eq_getElem hi]; rfl⟩, ?_⟩
  rintro _ m ⟨j, rfl, hj, hm, hr⟩
  refine ⟨fun hb2 => ?_, fun hb2 => ?_⟩
  ·have hlt : j < l.length := by have := of_decide_eq_true hb2; omega
   have hg := hr j hlt
   rw [if_neg (Nat.lt_irrefl _)] at hg
   have hix : idx m (j : Int) = some (l.getD j []) := by
    unfold idx
    rw [if_pos (Int.natCast_nonneg _), Int.toNat_natCast]
    exact hg
   refine ⟨fun m2 => m2.length = l.length ∧ ∀ i : Nat, i < l.length → m2[i]? = some (if i < j + 1 then (if (l.getD i []).length = 0 then [(i : Int)] else l.getD i []) else l.getD i []), ⟨_, hix, fun e => ⟨_, hix, by rw [List.length_set]; exact hm, fun i hi => ?_⟩, fun e => ⟨hm, fun i hi => ?_⟩⟩, ?_⟩
   ·rw [Int.toNat_natCast, List.getElem?_set]
    by_cases c : j = i
    ·subst c
     rw [if_pos rfl, if_pos (by omega), if_pos (by omega), if_pos (by have := eq_of_beq e; omega)]
    ·rw [if_neg c, hr i hi]
     by_cases d : i < j
     ·rw [if_pos d, if_pos (show i < j + 1 by omega)]
     ·rw [if_neg d, if_neg (show ¬ i < j + 1 by omega)]
   ·rw [hr i hi]
    by_cases c : j = i
    ·subst c
     rw [if_neg (Nat.lt_irrefl _), if_pos (by omega), if_neg (fun h => absurd e (by rw [h]; decide))]
    ·by_cases d : i < j
     ·rw [if_pos d, if_pos (show i < j + 1 by omega)]
     ·rw [if_neg d, if_neg (show ¬ i < j + 1 by omega)]
   ·rintro m2 ⟨q1, q2⟩
    rw [up1 (by omega)]
    exact ⟨⟨j + 1, rfl, hlt, q1, q2⟩, by show l.length - (j + 1) < l.length - j; omega⟩
  ·have hje : j = l.length := by have := of_decide_eq_false hb2; omega
   show BranchWalker.mk g m = walkR g
   unfold walkR
   rw [← hl]
   congr 1
   refine List.ext_getElem? fun i => ?_
   by_cases hi : i < l.length
   ·rw [hr i hi, if_pos (by omega)]
    unfold fillN
    rw [List.getElem?_map, List.getElem?_range hi]
    rfl
   ·rw [List.getElem?_eq_none (by omega), List.getElem?_eq_none (by rw [fillN_len]; omega)]
def bHolds_vc (g : ApiGraph) (text : ByteArray) (Q : ((List Bool) × Int) → Prop) : Prop :=
 g.fArrows.length ≤ 9223372036854775807 →
 (IfP ((samErr g) != 0) (Q ([], (samErr g))) (∀ r : (Option BTr × ApiFault), (ParsedB text) r →
 (IfP (r.2.fCode != 0) (Q ([], 4)) ((GrOk g) ∧
 ∃ t, r.1 = some t ∧
 (WOk (walkR g) ∧ Shp 30 t) ∧
 Q ((bSem (walkR g) 30 t), 0)))))
theorem bHolds_walk (g : ApiGraph) (text : ByteArray) (Q : ((List Bool) × Int) → Prop) (h : bHolds_vc g text Q) : Ct 9 [.sv (.agg [I g.fLetters, I g.fPlaces, LS ApiArrow.ty g.fArrows]), .sv (.one (.v (.string text)))] [] Q (fun (r : ((List Bool) × Int)) => .tup [.one (LS boolT r.1), .one (I r.2)]) := by
 have ht := tab_ok
 refine Ct.body Try.func9 rfl rfl rfl rfl (fun c hn => ?_)
 unfold bHolds_vc at h
 refine En.lenA 0 2 (by rfl) (by rfl) (fun hl => ?_)
 replace h := h hl
 clear hl
 refine En.sr ?_
 refine WL.rn ht hn 3 ⟨[sl 1 (.v (.string text)), sl 2 (.ptr 0 0)], [.box (ApiGraph.cl g) 24 false]⟩ ?_
 refine En.seq ?_
 refine En.sr ?_
 refine WL.r ht hn 1 ⟨[sl 1 (.v (.string text)), sl 2 (.ptr 0 0), (9, .sv (.agg (ApiGraph.cl g)))], [.box (ApiGraph.cl g) 24 false]⟩ ?_
 refine WL.m0 hn (mt_c (samCheck_ct g) en20 rfl) ?_
 refine WL.rn ht hn 1 ⟨[sl 1 (.v (.string text)), sl 2 (.ptr 0 0), sl 6 (I (samErr g))], [.box (ApiGraph.cl g) 24 false]⟩ ?_
 refine En.sr ?_
 refine WL.rn ht hn 2 ⟨[sl 1 (.v (.string text)), sl 2 (.ptr 0 0), sl 6 (I (samErr g)), sl 12 (B ((samErr g) != 0))], [.box (ApiGraph.cl g) 24 false]⟩ ?_
 refine En.cd (b := ((samErr g) != 0)) (fun hb => ?_) (fun hb => ?_)
 replace h := h.1 hb
 refine En.sr ?_
 refine WL.rn ht hn 3 ⟨[sl 4 (.v (.slice none 0 0)), sl 5 (I (samErr g))], [.gone]⟩ ?_
 refine En.ret ?_
 refine En.nilLS 4 boolT (by rfl) ?_
 exact En.back ht ([], (samErr g)) h (by kernel_rfl) rfl
 replace h := h.2 hb
 refine En.skip ?_
 refine En.sr ?_
 refine WL.r ht hn 1 ⟨[sl 2 (.ptr 0 0), sl 15 (.v (.string text))], [.box (ApiGraph.cl g) 24 false]⟩ ?_
 refine WL.mtQ (Q := ParsedB text) (x := fun (r : (Option BTr × ApiFault)) => .tup [.one (.rd (optR bLab r.1)), .agg [I r.2.fCode, I r.2.fAt]]) (p := fun _ => none) hn (by rfl) (mtq_call (bParse_ct text) en21 (caps := []) [] rfl (by rfl) (by kernel_rfl) (by kernel_rfl) (by rfl) (fun _ => rfl) (by rfl)) (fun r hr_2 => ⟨by rfl, _, by rfl, ?_⟩)
 replace h := h r hr_2
 refine WL.rn ht hn 6 ⟨[sl 2 (.ptr 0 0), sl 7 (.rd (optR bLab r.1)), sl 8 (.ptr 1 0)], [.box (ApiGraph.cl g) 24 false, .box [I r.2.fCode, I r.2.fAt] 32 false]⟩ ?_
 refine En.seq ?_
 refine En.sr ?_
 refine WL.rn ht hn 3 ⟨[sl 2 (.ptr 0 0), sl 7 (.rd (optR bLab r.1)), sl 21 (B (r.2.fCode != 0))], [.box (ApiGraph.cl g) 24 false, .gone]⟩ ?_
 refine En.cd (b := (r.2.fCode != 0)) (fun hb => ?_) (fun hb => ?_)
 replace h := h.1 hb
 refine En.sr ?_
 refine WL.rn ht hn 2 ⟨[sl 4 (.v (.slice none 0 0)), sl 5 (I 4)], [.gone, .gone]⟩ ?_
 refine En.ret ?_
 refine En.nilLS 4 boolT (by rfl) ?_
 exact En.back ht ([], 4) h (by kernel_rfl) rfl
 replace h := h.2 hb
 refine En.skip ?_
 refine En.sr ?_
 refine WL.r ht hn 1 ⟨[sl 7 (.rd (optR bLab r.1)), (22, .sv (.agg (ApiGraph.cl g)))], [.gone, .gone]⟩ ?_
 obtain ⟨hp, h⟩ := h
 refine WL.m0 hn (mt_c (bWalking_ct g hp) en22 rfl) ?_
 refine WL.r ht hn 1 ⟨[sl 23 (.pe (svR (.agg [I (walkR g).fGraph.fLetters, I (walkR g).fGraph.fPlaces, LS ApiArrow.ty (walkR g).fGraph.fArrows, LS (lsT intT) (walkR g).fNext])) 4), sl 24 (.rd (optR bLab r.1))], [.gone, .gone]⟩ ?_
 obtain ⟨t, ht_2, h⟩ := h
 refine WL.ghost 24 (o1 (.rd (trR bLab t))) (by rfl) (some_of ht_2) ?_
 obtain ⟨hp, h⟩ := h
 refine WL.m0 hn (mt_c (bWhere_all 30 (walkR g) t hp) en23 rfl) ?_
 refine WL.rn ht hn 2 ⟨[sl 4 (LS boolT (bSem (walkR g) 30 t)), sl 5 (I 0)], [.gone, .gone]⟩ ?_
 exact En.rb ht ((bSem (walkR g) 30 t), 0) h
theorem en9 : ∀ args w, (callFunc 9 args).run Try.prog w = .ok (.enter 9 args) w := enters_of Try.func9 (by kernel_rfl) rfl
def HoldsR (g : ApiGraph) (text : ByteArray) : List Bool × Int := if samErr g ≠ 0 then ([], samErr g) else match fullB text with
 | none => ([], 4)
 | some t => (bSem (walkR g) 30 t, 0)
theorem gr_ok {g : ApiGraph} (h : samErr g = 0) : GrOk g := by
 obtain ⟨h1, h2, h3, h4⟩ := samErr_ok h
 refine ⟨by omega, by omega, fun x hx => ?_⟩
 have := h4 x hx
 exact ⟨this.1, this.2.1⟩
theorem bHolds_ct (g : ApiGraph) (text : ByteArray)  : Ct 9 [.sv (.agg [I g.fLetters, I g.fPlaces, LS ApiArrow.ty g.fArrows]), .sv (.one (.v (.string text)))] [] (fun (_ : Unit) => True) (fun _ => .tup [.one (LS boolT (HoldsR g text).1), .one (I (HoldsR g text).2)]) := by
 refine (bHolds_walk g text (fun res_ => res_ = (HoldsR g text)) ?_).fun
 unfold bHolds_vc
 intro _
 refine ⟨fun h => ?_, fun h => fun r hr => ?_⟩
 ·show _ = HoldsR g text
  unfold HoldsR
  rw [if_pos (bne_iff_ne.1 h)]
 rw [bne_eq_false_iff_eq] at h
 have e0 : HoldsR g text = match fullB text with | none => ([], 4) | some t => (bSem (walkR g) 30 t, 0) := by
  unfold HoldsR
  rw [if_neg (fun hh => hh h)]
 rw [e0]
 rcases hr with ⟨_, h1, h2⟩ | ⟨t, h1, rfl⟩
 ·refine ⟨fun _ => by rw [h2], fun e => absurd ?_ h1⟩
  rwa [bne_eq_false_iff_eq] at e
 ·exact ⟨fun e => (by cases e), fun _ => ⟨gr_ok h, t, rfl, ⟨walkR_ok (gr_ok h), (fullB_some h1).2.1⟩, by rw [h1]⟩⟩
end Go.Proofs.Ytiejmeedkhkfgaa
namespace Go.Proofs.Ytiejmeedkhkfgaa
set_option linter.unusedSimpArgs false
set_option linter.unusedVariables false
set_option maxRecDepth 100000
section
variable {w : BranchWalker} {A : List Bool}
theorem untL_fix : ∀ {m : Nat} {o : List Bool}, o.length = w.fGraph.fPlaces.toNat → w.fGraph.fPlaces.toNat - o.count true < m → untN w A (untL w A m o) = untL w A m o
 | 0, _, _, h => absurd h (by omega)
 | m + 1, o, ho, h => by
  rw [untL]
  by_cases e : untN w A o = o
  ·rw [if_pos e, e]
  ·rw [if_neg e]
   obtain ⟨c1, c2⟩ := untN_cnt ho e
   exact untL_fix (eachL_len _ _) (by omega)
theorem untN_sub {o : List Bool} {p : Int} (h0 : 0 ≤ p) (h1 : p < w.fGraph.fPlaces) (h : onB o p = true) : onB (untN w A o) p = true := by
 unfold untN
 rw [onB_each h0 h1, h]
 rfl
theorem untL_sub {p : Int} (h0 : 0 ≤ p) (h1 : p < w.fGraph.fPlaces) : ∀ {m : Nat} {o : List Bool}, onB o p = true → onB (untL w A m o) p = true
 | 0, _, h => h
 | m + 1, o, h => by
  rw [untL]
  split
  ·exact h
  ·exact untL_sub h0 h1 (untN_sub h0 h1 h)
theorem lead_mono (hw : WOk w) {o o' : List Bool} (h : ∀ p, 0 ≤ p → p < w.fGraph.fPlaces → onB o p = true → onB o' p = true) {p : Int} (hl : leadB w p o = true) : leadB w p o' = true := by
 unfold leadB at hl ⊢
 rw [List.any_eq_true] at hl ⊢
 obtain ⟨q, hq, e⟩ := hl
 have := hw.into p q hq
 exact ⟨q, hq, h q this.1 this.2 e⟩
theorem untL_inv (hw : WOk w) {B : List Bool} : ∀ {m : Nat} {o : List Bool}, (∀ p, 0 ≤ p → p < w.fGraph.fPlaces → onB o p = true → onB B p = true ∨ (onB A p = true ∧ leadB w p o = true)) → ∀ p, 0 ≤ p → p < w.fGraph.fPlaces → onB (untL w A m o) p = true → onB B p = true ∨ (onB A p = true ∧ leadB w p (untL w A m o) = true)
 | 0, _, h => h
 | m + 1, o, h => by
  rw [untL]
  split
  ·exact h
  ·refine untL_inv hw fun p h0 h1 e => ?_
   unfold untN at e
   rw [onB_each h0 h1, Bool.or_eq_true, Bool.and_eq_true] at e
   have up := @lead_mono w hw o (untN w A o) (fun p h0 h1 h => untN_sub h0 h1 h) p
   rcases e with e | e
   ·rcases h p h0 h1 e with h | h
    ·exact .inl h
    ·exact .inr ⟨h.1, up h.2⟩
   ·exact .inr ⟨e.1, up e.2⟩
theorem untR_fix (hw : WOk w) {B : List Bool} (hB : B.length = w.fGraph.fPlaces.toNat) : untR w A B = eachL w.fGraph.fPlaces fun p => onB B p || (onB A p && leadB w p (untR w A B)) := by
 have hf : untN w A (untR w A B) = untR w A B := untL_fix hB (by omega)
 refine hf.symm.trans ?_
 unfold untN eachL
 refine List.map_congr_left fun p hp => ?_
 have hp := List.mem_range.1 hp
 have h0 : 0 ≤ (p : Int) := Int.natCast_nonneg _
 have h1 : (p : Int) < w.fGraph.fPlaces := by omega
 have s1 := untL_sub (w := w) (A := A) (m := w.fGraph.fPlaces.toNat + 1) (o := B) h0 h1
 have s2 := untL_inv (A := A) hw (B := B) (m := w.fGraph.fPlaces.toNat + 1) (o := B) (fun p _ _ h => .inl h) p h0 h1
 show (onB (untR w A B) p || (onB A p && leadB w p (untR w A B))) = (onB B p || (onB A p && leadB w p (untR w A B)))
 change onB B p = true → onB (untR w A B) p = true at s1
 change onB (untR w A B) p = true → onB B p = true ∨ (onB A p = true ∧ leadB w p (untR w A B) = true) at s2
 revert s1 s2
 cases onB (untR w A B) p <;> cases onB B p <;> cases onB A p <;> cases leadB w p (untR w A B) <;> simp
end
theorem gr_ok' {g : ApiGraph} (h : GraphOk g) : GrOk g := by
 obtain ⟨h1, h2, h3, h4⟩ := h
 refine ⟨by omega, by omega, fun x hx => ?_⟩
 have := h4 x hx
 exact ⟨this.1, this.2.1⟩
theorem addA_len {l : List (List Int)} {x : ApiArrow} : (addA l x).length = l.length := by
 unfold addA
 split
 ·rfl
 ·rw [List.length_set]
theorem mem_addA {l : List (List Int)} {x : ApiArrow} {p : Nat} {q : Int} (hp : p < l.length) : q ∈ (addA l x).getD p [] ↔ q ∈ l.getD p [] ∨ (x.fFrom.toNat = p ∧ q = x.fTo) := by
 unfold addA
 split
 ·rename_i h
  refine ⟨.inl, fun h2 => ?_⟩
  rcases h2 with h2 | ⟨rfl, rfl⟩
  ·exact h2
  ·obtain ⟨y, hy, e⟩ := List.any_eq_true.1 h
   rw [eq_of_beq e]
   exact hy
 ·by_cases e : x.fFrom.toNat = p
  ·subst e
   rw [getD_set_eq hp, List.mem_append, List.mem_singleton]
   exact ⟨fun h => h.imp id (fun h => ⟨rfl, h⟩), fun h => h.imp id (fun h => h.2)⟩
  ·rw [getD_set_ne e]
   exact ⟨.inl, fun h => h.elim id fun h => absurd h.1 e⟩
theorem mem_adds {p : Nat} {q : Int} : ∀ {xs : List ApiArrow} {l : List (List Int)}, p < l.length → (q ∈ (xs.foldl addA l).getD p [] ↔ q ∈ l.getD p [] ∨ ∃ x ∈ xs, x.fFrom.toNat = p ∧ q = x.fTo)
 | [], l, hp => by simp
 | x :: xs, l, hp => by
  rw [List.foldl_cons, mem_adds (xs := xs) (by rw [addA_len]; exact hp), mem_addA hp]
  simp only [List.mem_cons, exists_eq_or_imp]
  exact or_assoc
theorem adds_len : ∀ {xs : List ApiArrow} {l : List (List Int)}, (xs.foldl addA l).length = l.length
 | [], _ => rfl
 | x :: xs, l => by rw [List.foldl_cons, adds_len (xs := xs), addA_len]
theorem fillN_at {l : List (List Int)} {p : Nat} (hp : p < l.length) : (fillN l).getD p [] = if (l.getD p []).length = 0 then [(p : Int)] else l.getD p [] := by
 rw [List.getD_eq_getElem?_getD, fillN, List.getElem?_map, List.getElem?_range hp]
 rfl
section
variable {g : ApiGraph} {o : List Bool} {p : Int} (hg : GraphOk g) (hl : g.fLetters = 1)
include hg hl
theorem arr_iff {v : Bool} : arrB g 0 v p o = true ↔ ∃ x ∈ g.fArrows, x.fFrom = p ∧ onF o x.fTo = v := by
 unfold arrB
 rw [List.any_eq_true]
 refine ⟨fun ⟨x, hx, h⟩ => ?_, fun ⟨x, hx, h1, h2⟩ => ⟨x, hx, ?_⟩⟩
 ·simp only [Bool.and_eq_true, beq_iff_eq] at h
  exact ⟨x, hx, h.1.1, h.2⟩
 ·have := hg.arr x hx
  simp only [Bool.and_eq_true, beq_iff_eq]
  exact ⟨⟨h1, by omega⟩, h2⟩
theorem let_iff : letB (walkR g) 0 p = true ↔ ∃ x ∈ g.fArrows, x.fFrom = p := by
 show (g.fArrows.any fun x => x.fFrom == p && x.fLetter == 0) = true ↔ _
 rw [List.any_eq_true]
 refine ⟨fun ⟨x, hx, h⟩ => ?_, fun ⟨x, hx, h1⟩ => ⟨x, hx, ?_⟩⟩
 ·simp only [Bool.and_eq_true, beq_iff_eq] at h
  exact ⟨x, hx, h.1⟩
 ·have := hg.arr x hx
  simp only [Bool.and_eq_true, beq_iff_eq]
  exact ⟨h1, by omega⟩
theorem lead_iff (h0 : 0 ≤ p) (h1 : p < g.fPlaces) : leadB (walkR g) p o = true ↔ arrB g 0 true p o = true ∨ ((∀ x ∈ g.fArrows, x.fFrom ≠ p) ∧ onF o p = true) := by
 rw [arr_iff hg hl]
 have hz : p.toNat < (List.replicate g.fPlaces.toNat ([] : List Int)).length := by rw [List.length_replicate]; omega
 have hm : ∀ q, q ∈ (g.fArrows.foldl addA (List.replicate g.fPlaces.toNat [])).getD p.toNat [] ↔ ∃ x ∈ g.fArrows, x.fFrom = p ∧ q = x.fTo := fun q => by
  rw [mem_adds hz]
  have : (List.replicate g.fPlaces.toNat ([] : List Int)).getD p.toNat [] = [] := by
   rw [List.getD_eq_getElem?_getD, List.getElem?_replicate]
   split <;> rfl
  rw [this]
  refine ⟨fun h => ?_, fun ⟨x, hx, e1, e2⟩ => .inr ⟨x, hx, by rw [e1], e2⟩⟩
  rcases h with h | ⟨x, hx, e1, e2⟩
  ·cases h
  ·have := hg.arr x hx
   exact ⟨x, hx, by omega, e2⟩
 unfold leadB nextOf
 rw [show (walkR g).fNext = fillN (g.fArrows.foldl addA (List.replicate g.fPlaces.toNat [])) from rfl, fillN_at (by rw [adds_len]; exact hz)]
 generalize (g.fArrows.foldl addA (List.replicate g.fPlaces.toNat [])).getD p.toNat [] = R at hm
 by_cases e : R.length = 0
 ·rw [if_pos e]
  have hR : R = [] := List.length_eq_zero_iff.1 e
  subst hR
  have hno : ∀ x ∈ g.fArrows, x.fFrom ≠ p := fun x hx e => by
   have := (hm x.fTo).2 ⟨x, hx, e, rfl⟩
   cases this
  have hp : ((p.toNat : Nat) : Int) = p := by omega
  rw [hp]
  refine ⟨fun h => .inr ⟨hno, ?_⟩, fun h => ?_⟩
  ·have h : onB o p = true := by simpa using h
   exact h
  ·rcases h with ⟨x, hx, e1, _⟩ | ⟨_, h⟩
   ·exact absurd e1 (hno x hx)
   ·have h : onB o p = true := h
    simpa using h
 ·rw [if_neg e, List.any_eq_true]
  refine ⟨fun ⟨q, hq, h⟩ => ?_, fun h => ?_⟩
  ·obtain ⟨x, hx, e1, rfl⟩ := (hm q).1 hq
   exact .inl ⟨x, hx, e1, h⟩
  ·rcases h with ⟨x, hx, e1, e2⟩ | ⟨h, _⟩
   ·exact ⟨x.fTo, (hm _).2 ⟨x, hx, e1, rfl⟩, e2⟩
   ·cases R with
    | nil => exact absurd rfl e
    | cons q R =>
     obtain ⟨x, hx, e1, _⟩ := (hm q).1 List.mem_cons_self
     exact absurd e1 (h x hx)
theorem box_iff (h0 : 0 ≤ p) (h1 : p < g.fPlaces) : onF (wayF g 91 0 (allF g.fPlaces false)) p = true ↔ ∀ x ∈ g.fArrows, x.fFrom ≠ p := by
 unfold wayF
 rw [onF_each h0 h1, if_neg (by decide), Bool.not_eq_true', ← Bool.not_eq_true, arr_iff hg hl]
 refine ⟨fun h x hx e => h ⟨x, hx, e, ?_⟩, fun h ⟨x, hx, e, _⟩ => h x hx e⟩
 have := hg.arr x hx
 exact onF_all this.2.1.1 this.2.1.2
omit hg hl in
theorem dia_iff (h0 : 0 ≤ p) (h1 : p < g.fPlaces) : onF (wayF g 60 0 o) p = true ↔ arrB g 0 true p o = true := by
 unfold wayF
 rw [onF_each h0 h1, if_pos rfl]
end
theorem onF_not {a : List Bool} {p : Int} (h0 : 0 ≤ p) (h1 : p < a.length) : onF (notL a) p = !(onF a p) := by
 unfold onF notL
 have : p.toNat < a.length := by omega
 rw [List.getD_eq_getElem?_getD, List.getElem?_map, List.getD_eq_getElem?_getD, List.getElem?_eq_getElem this]
 rfl
theorem notL_len' {a : List Bool} : (notL a).length = a.length := by unfold notL; rw [List.length_map]
theorem onF_eachL {n : Int} {f : Int → Bool} {p : Int} (h0 : 0 ≤ p) (h1 : p < n) : onF (eachL n f) p = f p := onF_each h0 h1
theorem bool_ext {a b : Bool} (h : a = true ↔ b = true) : a = b := by
 revert h
 cases a <;> cases b <;> simp
theorem evrL_fix {w : BranchWalker} : ∀ {m : Nat} {o : List Bool}, o.length = w.fGraph.fPlaces.toNat → o.count true < m → evrN w (evrL w m o) = evrL w m o
 | 0, _, _, h => absurd h (by omega)
 | m + 1, o, ho, h => by
  rw [evrL]
  by_cases e : evrN w o = o
  ·rw [if_pos e, e]
  ·rw [if_neg e]
   have := evrN_cnt ho e
   exact evrL_fix (eachL_len _ _) (by omega)
section
variable {g : ApiGraph} (hg : GraphOk g) (hl : g.fLetters = 1)
def lettA (g : ApiGraph) : List Bool := eachL g.fPlaces fun p => letB (walkR g) 0 p
include hg hl
theorem on_lett {p : Int} (h0 : 0 ≤ p) (h1 : p < g.fPlaces) : onF (lettA g) p = true ↔ ∃ x ∈ g.fArrows, x.fFrom = p := by
 unfold lettA
 rw [onF_eachL h0 h1]
 exact let_iff hg hl
theorem tb_one : evrR (walkR g) (lettA g) = itF (fun o => wayF g 60 0 o) g.fPlaces.toNat (allF g.fPlaces true) := by
 have hw := walkR_ok (gr_ok' hg)
 have hpl := hg.pl
 have hla : (lettA g).length = g.fPlaces.toNat := eachL_len _ _
 have hf := itF_fix (f := fun o => wayF g 60 0 o) (n := g.fPlaces) (v := false) (fun o ho => eachF_len _ _) (fun a b ha hb h => (wayF_mono (ways_ok hg) h.flip').flip)
 have hE : evrN (walkR g) (evrR (walkR g) (lettA g)) = evrR (walkR g) (lettA g) := evrL_fix hla (by
  have : (lettA g).count true ≤ (lettA g).length := List.count_le_length
  show _ < g.fPlaces.toNat + 1
  omega)
 have hsub : ∀ {m : Nat} {o : List Bool} {p : Int}, 0 ≤ p → p < g.fPlaces → onF (evrL (walkR g) m o) p = true → onF o p = true := fun {m} => by
  induction m with
  | zero => exact fun _ _ h => h
  | succ m ih =>
   intro o p h0 h1 h
   rw [evrL] at h
   split at h
   ·exact h
   ·have := ih h0 h1 h
    have this : onF (eachL g.fPlaces fun p => onB o p && leadB (walkR g) p o) p = true := this
    rw [onF_eachL h0 h1, Bool.and_eq_true] at this
    exact this.1
 have hup : ∀ {N : List Bool}, (∀ p, 0 ≤ p → p < g.fPlaces → onF N p = true → leadB (walkR g) p N = true) → ∀ {m : Nat} {o : List Bool}, (∀ p, 0 ≤ p → p < g.fPlaces → onF N p = true → onF o p = true) → ∀ p, 0 ≤ p → p < g.fPlaces → onF N p = true → onF (evrL (walkR g) m o) p = true := fun {N} hN {m} => by
  induction m with
  | zero => exact fun h => h
  | succ m ih =>
   intro o ho p h0 h1 h
   rw [evrL]
   split
   ·exact ho p h0 h1 h
   ·refine ih (fun q q0 q1 hq => ?_) p h0 h1 h
    show onF (eachL g.fPlaces fun p => onB o p && leadB (walkR g) p o) q = true
    rw [onF_eachL q0 q1, Bool.and_eq_true]
    exact ⟨ho q q0 q1 hq, lead_mono hw (fun r r0 r1 hr => ho r r0 r1 hr) (hN q q0 q1 hq)⟩
 have hEl : (evrR (walkR g) (lettA g)).length = g.fPlaces.toNat := evrL_len hla
 refine rowF_ext hEl (itF_len (fun o ho => eachF_len _ _) (allF_len _ _) _) fun p h0 h1 => bool_ext ⟨fun h => ?_, fun h => ?_⟩
 ·have key : ∀ m, leV g.fPlaces true (evrR (walkR g) (lettA g)) (itF (fun o => wayF g 60 0 o) m (allF g.fPlaces true)) := fun m => by
   induction m with
   | zero => exact fun p h0 h1 _ => onF_all h0 h1
   | succ m ih =>
    intro p h0 h1 h
    show onF (wayF g 60 0 _) p = true
    rw [dia_iff h0 h1]
    refine arrB_mono (ways_ok hg) ih ?_
    have h2 := h
    rw [← hE] at h2
    have h2 : onF (eachL g.fPlaces fun p => onB (evrR (walkR g) (lettA g)) p && leadB (walkR g) p (evrR (walkR g) (lettA g))) p = true := h2
    rw [onF_eachL h0 h1, Bool.and_eq_true] at h2
    rcases (lead_iff hg hl h0 h1).1 h2.2 with h3 | ⟨h3, _⟩
    ·exact h3
    ·obtain ⟨x, hx, e⟩ := (on_lett hg hl h0 h1).1 (hsub h0 h1 h)
     exact absurd e (h3 x hx)
  exact key _ p h0 h1 h
 ·have hN : ∀ p, 0 ≤ p → p < g.fPlaces → onF (itF (fun o => wayF g 60 0 o) g.fPlaces.toNat (allF g.fPlaces true)) p = true → arrB g 0 true p (itF (fun o => wayF g 60 0 o) g.fPlaces.toNat (allF g.fPlaces true)) = true := fun p h0 h1 h => by
   rw [← dia_iff h0 h1]
   have hf : wayF g 60 0 (itF (fun o => wayF g 60 0 o) g.fPlaces.toNat (allF g.fPlaces true)) = _ := hf
   rw [hf]
   exact h
  refine hup (fun p h0 h1 h => (lead_iff hg hl h0 h1).2 (.inl (hN p h0 h1 h))) (fun p h0 h1 h => ?_) p h0 h1 h
  obtain ⟨x, hx, e, _⟩ := (arr_iff hg hl).1 (hN p h0 h1 h)
  exact (on_lett hg hl h0 h1).2 ⟨x, hx, e⟩
theorem tb_two : untR (walkR g) (eachL g.fPlaces fun _ => true) (notL (lettA g)) = itF (fun o => eachF g.fPlaces fun p => onF (wayF g 91 0 (allF g.fPlaces false)) p || onF (wayF g 60 0 o) p) g.fPlaces.toNat (allF g.fPlaces false) := by
 have hw := walkR_ok (gr_ok' hg)
 have hpl := hg.pl
 have hla : (lettA g).length = g.fPlaces.toNat := eachL_len _ _
 have hlb : (notL (lettA g)).length = g.fPlaces.toNat := by rw [notL_len', hla]
 have onN : ∀ p, 0 ≤ p → p < g.fPlaces → (onF (notL (lettA g)) p = true ↔ ∀ x ∈ g.fArrows, x.fFrom ≠ p) := fun p h0 h1 => by
  rw [onF_not h0 (by omega), Bool.not_eq_true', ← Bool.not_eq_true, on_lett hg hl h0 h1]
  exact ⟨fun h x hx e => h ⟨x, hx, e⟩, fun h ⟨x, hx, e⟩ => h x hx e⟩
 have hf := itF_fix (f := fun o => eachF g.fPlaces fun p => onF (wayF g 91 0 (allF g.fPlaces false)) p || onF (wayF g 60 0 o) p) (n := g.fPlaces) (v := true) (fun o ho => eachF_len _ _) (fun a b ha hb h p h0 h1 e => by
  simp only [onF_each h0 h1, Bool.or_eq_true] at e ⊢
  exact e.imp id (wayF_mono (ways_ok hg) h p h0 h1))
 have hf : eachF g.fPlaces (fun p => onF (wayF g 91 0 (allF g.fPlaces false)) p || onF (wayF g 60 0 (itF (fun o => eachF g.fPlaces fun p => onF (wayF g 91 0 (allF g.fPlaces false)) p || onF (wayF g 60 0 o) p) g.fPlaces.toNat (allF g.fPlaces false))) p) = itF (fun o => eachF g.fPlaces fun p => onF (wayF g 91 0 (allF g.fPlaces false)) p || onF (wayF g 60 0 o) p) g.fPlaces.toNat (allF g.fPlaces false) := hf
 have hU : untR (walkR g) (eachL g.fPlaces fun _ => true) (notL (lettA g)) = eachL g.fPlaces fun p => onB (notL (lettA g)) p || (onB (eachL g.fPlaces fun _ => true) p && leadB (walkR g) p (untR (walkR g) (eachL g.fPlaces fun _ => true) (notL (lettA g)))) := untR_fix hw hlb
 have hUl : (untR (walkR g) (eachL g.fPlaces fun _ => true) (notL (lettA g))).length = g.fPlaces.toNat := untL_len hlb
 have hUp : ∀ p, 0 ≤ p → p < g.fPlaces → ((∀ x ∈ g.fArrows, x.fFrom ≠ p) ∨ arrB g 0 true p (untR (walkR g) (eachL g.fPlaces fun _ => true) (notL (lettA g))) = true) → onF (untR (walkR g) (eachL g.fPlaces fun _ => true) (notL (lettA g))) p = true := fun p h0 h1 h => by
  rw [hU, onF_eachL h0 h1, Bool.or_eq_true, Bool.and_eq_true]
  rcases h with h | h
  ·exact .inl ((onN p h0 h1).2 h)
  ·exact .inr ⟨onF_eachL h0 h1, (lead_iff hg hl h0 h1).2 (.inl h)⟩
 have hdn : ∀ {N : List Bool}, (∀ p, 0 ≤ p → p < g.fPlaces → arrB g 0 true p N = true → onF N p = true) → ∀ {m : Nat} {o : List Bool}, leV g.fPlaces true o N → leV g.fPlaces true (untL (walkR g) (eachL g.fPlaces fun _ => true) m o) N := fun {N} hN {m} => by
  induction m with
  | zero => exact fun h => h
  | succ m ih =>
   intro o ho
   rw [untL]
   split
   ·exact ho
   ·refine ih fun p h0 h1 h => ?_
    have h : onF (eachL g.fPlaces fun p => onB o p || (onB (eachL g.fPlaces fun _ => true) p && leadB (walkR g) p o)) p = true := h
    rw [onF_eachL h0 h1, Bool.or_eq_true, Bool.and_eq_true] at h
    rcases h with h | ⟨_, h⟩
    ·exact ho p h0 h1 h
    ·rcases (lead_iff hg hl h0 h1).1 h with h | ⟨_, h⟩
     ·exact hN p h0 h1 (arrB_mono (ways_ok hg) ho h)
     ·exact ho p h0 h1 h
 generalize hNe : itF (fun o => eachF g.fPlaces fun p => onF (wayF g 91 0 (allF g.fPlaces false)) p || onF (wayF g 60 0 o) p) g.fPlaces.toNat (allF g.fPlaces false) = N at hf ⊢
 have hNl : N.length = g.fPlaces.toNat := by rw [← hf]; exact eachF_len _ _
 have hNu : ∀ p, 0 ≤ p → p < g.fPlaces → ((∀ x ∈ g.fArrows, x.fFrom ≠ p) ∨ arrB g 0 true p N = true) → onF N p = true := fun p h0 h1 h => by
  rw [← hf, onF_each h0 h1, Bool.or_eq_true, box_iff hg hl h0 h1, dia_iff h0 h1]
  exact h
 refine rowF_ext hUl hNl fun p h0 h1 => bool_ext ⟨fun h => ?_, fun h => ?_⟩
 ·exact hdn (fun p h0 h1 h => hNu p h0 h1 (.inr h)) (fun p h0 h1 h => hNu p h0 h1 (.inl ((onN p h0 h1).1 h))) p h0 h1 h
 ·have key : ∀ m, leV g.fPlaces true (itF (fun o => eachF g.fPlaces fun p => onF (wayF g 91 0 (allF g.fPlaces false)) p || onF (wayF g 60 0 o) p) m (allF g.fPlaces false)) (untR (walkR g) (eachL g.fPlaces fun _ => true) (notL (lettA g))) := fun m => by
   induction m with
   | zero =>
    intro p h0 h1 h
    have h : onF (allF g.fPlaces false) p = true := h
    rw [onF_all h0 h1] at h
    cases h
   | succ m ih =>
    intro p h0 h1 h
    have h : onF (eachF g.fPlaces fun p => onF (wayF g 91 0 (allF g.fPlaces false)) p || onF (wayF g 60 0 (itF (fun o => eachF g.fPlaces fun p => onF (wayF g 91 0 (allF g.fPlaces false)) p || onF (wayF g 60 0 o) p) m (allF g.fPlaces false))) p) p = true := h
    rw [onF_each h0 h1, Bool.or_eq_true, box_iff hg hl h0 h1, dia_iff h0 h1] at h
    exact hUp p h0 h1 (h.imp id (arrB_mono (ways_ok hg) ih))
  exact key g.fPlaces.toNat p h0 h1 (by rw [hNe]; exact h)
theorem tb_three : notL (untR (walkR g) (eachL g.fPlaces fun _ => true) (notL (notL (lettA g)))) = wayF g 91 0 (allF g.fPlaces false) := by
 have hpl := hg.pl
 have hla : (lettA g).length = g.fPlaces.toNat := eachL_len _ _
 have e2 : notL (notL (lettA g)) = lettA g := by
  unfold notL
  rw [List.map_map]
  exact (List.map_congr_left fun b _ => Bool.not_not b).trans (List.map_id _)
 rw [e2]
 have hu : untN (walkR g) (eachL g.fPlaces fun _ => true) (lettA g) = lettA g := by
  refine rowF_ext (n := g.fPlaces) (eachL_len _ _) hla fun p h0 h1 => bool_ext ?_
  show onF (eachL g.fPlaces fun p => onB (lettA g) p || (onB (eachL g.fPlaces fun _ => true) p && leadB (walkR g) p (lettA g))) p = true ↔ _
  rw [onF_eachL h0 h1, Bool.or_eq_true, Bool.and_eq_true]
  refine ⟨fun h => ?_, fun h => .inl h⟩
  rcases h with h | ⟨_, h⟩
  ·exact h
  ·rcases (lead_iff hg hl h0 h1).1 h with h | ⟨_, h⟩
   ·obtain ⟨x, hx, e, _⟩ := (arr_iff hg hl).1 h
    exact (on_lett hg hl h0 h1).2 ⟨x, hx, e⟩
   ·exact h
 have e3 : untR (walkR g) (eachL g.fPlaces fun _ => true) (lettA g) = lettA g := if_pos hu
 rw [e3]
 refine rowF_ext (n := g.fPlaces) (by rw [notL_len', hla]) (eachF_len _ _) fun p h0 h1 => bool_ext ?_
 rw [onF_not h0 (by omega), Bool.not_eq_true', ← Bool.not_eq_true, on_lett hg hl h0 h1, box_iff hg hl h0 h1]
 exact ⟨fun h x hx e => h ⟨x, hx, e⟩, fun h ⟨x, hx, e⟩ => h x hx e⟩
end
end Go.Proofs.Ytiejmeedkhkfgaa
namespace Go.Proofs.Ytiejmeedkhkfgaa
open Go.RowKit Go.MapKept
set_option linter.unusedSimpArgs false
set_option linter.unusedVariables false
set_option maxRecDepth 100000
def topBr_vc (g : ApiGraph) (Q : Bool → Prop) : Prop :=
 g.fArrows.length ≤ 9223372036854775807 →
 (∃ J : Bool → Prop, (IfP ((HoldsF (ApiGraph.mk 1 1 ([(ApiArrow.mk 0 0 0)] : (List ApiArrow))) (ByteArray.mk #[110, 88, 46, 60, 97, 62, 88])).2 != 0) (J true) (IfP (((HoldsF (ApiGraph.mk 1 1 ([(ApiArrow.mk 0 0 0)] : (List ApiArrow))) (ByteArray.mk #[110, 88, 46, 60, 97, 62, 88])).1.length : Int) != 1) (J true) (∃ e, idx (HoldsF (ApiGraph.mk 1 1 ([(ApiArrow.mk 0 0 0)] : (List ApiArrow))) (ByteArray.mk #[110, 88, 46, 60, 97, 62, 88])).1 0 = some e ∧
 J (!e)))) ∧
 (∀ (x32 : Bool), J x32 → IfP x32 (Q false) (IfP (g.fLetters != 1) (Q true) (∃ (Inv : Int → Prop) (mu : Int → Nat), Inv 0 ∧
 ∀ (x7 : Int) , Inv x7 → (IfP (decide (x7 < (([(ByteArray.mk #[69, 71, 97]), (ByteArray.mk #[69, 70, 33, 97]), (ByteArray.mk #[65, 71, 33, 97])] : (List ByteArray)).length : Int))) (∃ e_2, idx ([(ByteArray.mk #[69, 71, 97]), (ByteArray.mk #[69, 70, 33, 97]), (ByteArray.mk #[65, 71, 33, 97])] : (List ByteArray)) x7 = some e_2 ∧
 ∃ e_3, idx ([(ByteArray.mk #[110, 88, 46, 60, 97, 62, 88]), (ByteArray.mk #[109, 88, 46, 40, 91, 97, 93, 48, 124, 60, 97, 62, 88, 41]), (ByteArray.mk #[91, 97, 93, 48])] : (List ByteArray)) x7 = some e_3 ∧
 IfP ((HoldsR g e_2).2 != (HoldsF g e_3).2) (Q false) (∃ (Inv_2 : Int → Prop) (mu_2 : Int → Nat), Inv_2 0 ∧
 ∀ (x12 : Int) , Inv_2 x12 → (IfP ((decide (x12 < ((HoldsR g e_2).1.length : Int))) && ((HoldsR g e_2).2 == 0)) (∃ e_4, idx (HoldsR g e_2).1 x12 = some e_4 ∧
 ∃ e_5, idx (HoldsF g e_3).1 x12 = some e_5 ∧
 IfP (e_4 != e_5) (Q false) ((Inv_2 (wr (x12 + 1)) ∧ mu_2 (wr (x12 + 1)) < mu_2 x12))) ((Inv (wr (x7 + 1)) ∧ mu (wr (x7 + 1)) < mu x7))))) (Q true))))))
noncomputable abbrev qtopBr0 (g : ApiGraph) := ([.box (ApiGraph.cl g) 24 false, .gone, rowI 9 strT ([(ByteArray.mk #[69, 71, 97]), (ByteArray.mk #[69, 70, 33, 97]), (ByteArray.mk #[65, 71, 33, 97])] : (List ByteArray)), rowI 9 strT ([(ByteArray.mk #[110, 88, 46, 60, 97, 62, 88]), (ByteArray.mk #[109, 88, 46, 40, 91, 97, 93, 48, 124, 60, 97, 62, 88, 41]), (ByteArray.mk #[91, 97, 93, 48])] : (List ByteArray))] : List Item)
noncomputable abbrev qtopBr1 := (HoldsF (ApiGraph.mk 1 1 ([(ApiArrow.mk 0 0 0)] : (List ApiArrow))) (ByteArray.mk #[110, 88, 46, 60, 97, 62, 88]))
noncomputable abbrev qtopBr2 := (ByteArray.mk #[109, 88, 46, 40, 91, 97, 93, 48, 124, 60, 97, 62, 88, 41])
noncomputable abbrev qtopBr3 := (ByteArray.mk #[110, 88, 46, 60, 97, 62, 88])
noncomputable abbrev qtopBr4 (g : ApiGraph) := ([.box (ApiGraph.cl g) 24 false, .gone] : List Item)
noncomputable abbrev qtopBr5 := (ByteArray.mk #[69, 70, 33, 97])
noncomputable abbrev qtopBr6 := (ByteArray.mk #[65, 71, 33, 97])
noncomputable abbrev qtopBr7 := sl 1 (.ptr 0 0)
noncomputable abbrev qtopBr8 := (ByteArray.mk #[69, 71, 97])
noncomputable abbrev qtopBr9 (g : ApiGraph) (y0) := sl 8 (LS boolT (HoldsR g y0).1)
noncomputable abbrev qtopBr10 := (ByteArray.mk #[91, 97, 93, 48])
noncomputable abbrev qtopBr11 (g : ApiGraph) (y0) := sl 10 (LS boolT (HoldsF g y0).1)
noncomputable abbrev qtopBr12 := (List ByteArray)
set_option maxHeartbeats 2000000 in
theorem topBr_walk (g : ApiGraph) (Q : Bool → Prop) (h : topBr_vc g Q) : Ct 7 [.sv (.agg [I g.fLetters, I g.fPlaces, LS ApiArrow.ty g.fArrows])] [] Q (fun (r : Bool) => .sv (.one (B r))) := by
 have ht := tab_ok
 refine Ct.body Try.func7 rfl rfl rfl rfl (fun c hn => ?_)
 unfold topBr_vc at h
 refine En.lenA 0 2 (by rfl) (by rfl) (fun hl => ?_)
 replace h := h hl
 clear hl
 refine En.sr ?_
 refine WL.rn ht hn 2 ⟨[(qtopBr7)], [.box (ApiGraph.cl g) 24 false]⟩ ?_
 refine En.sr ?_
 refine WL.r ht hn 1 ⟨[(qtopBr7), (14, .sv (.agg [I 0, I 0, I 0]))], [.box (ApiGraph.cl g) 24 false]⟩ ?_
 refine WL.mt0 (K := []) (p := some (1, rowI 26 ApiArrow.ty ([(ApiArrow.mk 0 0 0)] : (List ApiArrow)))) hn (by rfl) (mt_lit (T := ApiArrow.ty) ([(ApiArrow.mk 0 0 0)] : (List ApiArrow)) (mt_bsl 1 (r := cellsOf ApiArrow.ty ([(ApiArrow.mk 0 0 0)] : (List ApiArrow))) ht rfl (by rfl) (by rfl) (by rfl) (by kernel_rfl) (by rfl)) (fun _ h => by cases h) (fun _ => rfl) (fun _ => rfl) (by rfl) (Nat.le_of_ble_eq_true rfl)) (by rfl) (by rfl) (by rfl) ?_
 refine WL.r ht hn 1 ⟨[(qtopBr7), (16, .sv (.agg [I 1, I 1, .own 1]))], [.box (ApiGraph.cl g) 24 false, rowI 26 ApiArrow.ty ([(ApiArrow.mk 0 0 0)] : (List ApiArrow))]⟩ ?_
 refine WL.seal (T := ApiArrow.ty) (l := ([(ApiArrow.mk 0 0 0)] : (List ApiArrow))) (e := 26) 1 rfl ?_
 refine WL.r ht hn 0 ⟨[(qtopBr7), (16, .sv (.agg [I 1, I 1, LS ApiArrow.ty ([(ApiArrow.mk 0 0 0)] : (List ApiArrow))]))], (qtopBr4 g)⟩ ?_
 refine WL.m0 hn (mt_c (fHolds_ct (ApiGraph.mk 1 1 ([(ApiArrow.mk 0 0 0)] : (List ApiArrow))) (qtopBr3)) en14 rfl) ?_
 refine WL.rn ht hn 5 ⟨[(qtopBr7), sl 3 (LS boolT (qtopBr1).1), sl 4 (I (qtopBr1).2)], (qtopBr4 g)⟩ ?_
 refine En.seq ?_
 obtain ⟨J, h, hJ⟩ := h
 refine En.seqJ (σ := Bool) (fun zz => J zz) (fun zz => ⟨[(qtopBr7), sl 32 (B zz)], (qtopBr4 g)⟩) ?_ ?_
 refine En.region ?_
 refine WL.r ht hn 3 ⟨[(qtopBr7), sl 3 (LS boolT (qtopBr1).1), sl 22 (B ((qtopBr1).2 != 0))], (qtopBr4 g)⟩ ?_
 refine splitB ((qtopBr1).2 != 0) (fun hb => ?_) (fun hb => ?_)
 replace h := h.1 hb
 refine WL.sB 22 hb ?_
 refine WL.rn ht hn 10 ⟨[(qtopBr7), sl 32 (B true)], (qtopBr4 g)⟩ ?_
 exact En.at (I := fun zz => J zz) (T := fun zz => ⟨[(qtopBr7), sl 32 (B zz)], (qtopBr4 g)⟩) true h (by kernel_rfl)
 replace h := h.2 hb
 refine WL.sB 22 hb ?_
 refine WL.r ht hn 5 ⟨[(qtopBr7), sl 3 (LS boolT (qtopBr1).1), sl 27 (B (((qtopBr1).1.length : Int) != 1))], (qtopBr4 g)⟩ ?_
 refine splitB (((qtopBr1).1.length : Int) != 1) (fun hb => ?_) (fun hb => ?_)
 replace h := h.1 hb
 refine WL.sB 27 hb ?_
 refine WL.rn ht hn 5 ⟨[(qtopBr7), sl 32 (B true)], (qtopBr4 g)⟩ ?_
 exact En.at (I := fun zz => J zz) (T := fun zz => ⟨[(qtopBr7), sl 32 (B zz)], (qtopBr4 g)⟩) true h (by kernel_rfl)
 replace h := h.2 hb
 refine WL.sB 27 hb ?_
 refine WL.r ht hn 1 ⟨[(qtopBr7), sl 27 (B false), sl 28 (LS boolT (qtopBr1).1)], (qtopBr4 g)⟩ ?_
 obtain ⟨e, he, h⟩ := h
 refine WL.v hn (val_ix (T := boolT) (l := (qtopBr1).1) (i := 0) ht rfl he) ?_
 refine WL.v hn (val_ld (s := .one (B e)) ht rfl) ?_
 refine WL.rn ht hn 2 ⟨[(qtopBr7), sl 32 (B (!e))], (qtopBr4 g)⟩ ?_
 exact En.at (I := fun zz => J zz) (T := fun zz => ⟨[(qtopBr7), sl 32 (B zz)], (qtopBr4 g)⟩) (!e) h (by kernel_rfl)
 intro x32 h
 replace h := hJ _ h
 show En c ⟨[(qtopBr7), sl 32 (B x32)], (qtopBr4 g)⟩ _
 refine En.cd (b := x32) (fun hb => ?_) (fun hb => ?_)
 replace h := h.1 hb
 refine En.sr ?_
 refine WL.rn ht hn 1 ⟨[sl 2 (B false)], [.gone, .gone]⟩ ?_
 exact En.rb ht false h
 replace h := h.2 hb
 refine En.skip ?_
 refine En.seq ?_
 refine En.sr ?_
 refine WL.rn ht hn 3 ⟨[(qtopBr7), sl 35 (B (g.fLetters != 1))], (qtopBr4 g)⟩ ?_
 refine En.cd (b := (g.fLetters != 1)) (fun hb => ?_) (fun hb => ?_)
 replace h := h.1 hb
 refine En.sr ?_
 refine WL.rn ht hn 1 ⟨[sl 2 (B true)], [.gone, .gone]⟩ ?_
 exact En.rb ht true h
 replace h := h.2 hb
 refine En.skip ?_
 refine En.sr ?_
 refine WL.mt0 (K := []) (p := some (2, rowI 9 strT ([(qtopBr8), (qtopBr5), (qtopBr6)] : (qtopBr12)))) hn (by rfl) (mt_lit (T := strT) ([(qtopBr8), (qtopBr5), (qtopBr6)] : (qtopBr12)) (mt_bsl 2 (r := cellsOf strT ([(qtopBr8), (qtopBr5), (qtopBr6)] : (qtopBr12))) ht rfl (by rfl) (by rfl) (by rfl) (by kernel_rfl) (by rfl)) (fun _ h => by cases h) (fun _ => rfl) (fun _ => rfl) (by rfl) (Nat.le_of_ble_eq_true rfl)) (by rfl) (by rfl) (by rfl) ?_
 refine WL.rn ht hn 1 ⟨[(qtopBr7), sl 5 (.own 2)], [.box (ApiGraph.cl g) 24 false, .gone, rowI 9 strT ([(qtopBr8), (qtopBr5), (qtopBr6)] : (qtopBr12))]⟩ ?_
 refine En.sr ?_
 refine WL.mt0 (K := []) (p := some (3, rowI 9 strT ([(qtopBr3), (qtopBr2), (qtopBr10)] : (qtopBr12)))) hn (by rfl) (mt_lit (T := strT) ([(qtopBr3), (qtopBr2), (qtopBr10)] : (qtopBr12)) (mt_bsl 3 (r := cellsOf strT ([(qtopBr3), (qtopBr2), (qtopBr10)] : (qtopBr12))) ht rfl (by rfl) (by rfl) (by rfl) (by kernel_rfl) (by rfl)) (fun _ h => by cases h) (fun _ => rfl) (fun _ => rfl) (by rfl) (Nat.le_of_ble_eq_true rfl)) (by rfl) (by rfl) (by rfl) ?_
 refine WL.rn ht hn 1 ⟨[(qtopBr7), sl 5 (.own 2), sl 6 (.own 3)], (qtopBr0 g)⟩ ?_
 refine En.seq ?_
 refine En.sr ?_
 refine WL.rn ht hn 1 ⟨[(qtopBr7), sl 5 (.own 2), sl 6 (.own 3), sl 7 (I 0)], (qtopBr0 g)⟩ ?_
 refine En.block ?_
 obtain ⟨Inv, mu, h0_2, hI_2⟩ := h
 refine En.loop (σ := Int) (fun zz => Inv zz) (fun zz => mu zz) (fun zz => ⟨[(qtopBr7), sl 5 (.own 2), sl 6 (.own 3), sl 7 (I zz)], (qtopBr0 g)⟩) 0 h0_2 (sub_ok (by kernel_rfl)) ?_
 intro x7 h
 replace h := hI_2 _ h
 show En c ⟨[(qtopBr7), sl 5 (.own 2), sl 6 (.own 3), sl 7 (I x7)], (qtopBr0 g)⟩ _
 refine En.seq ?_
 refine En.sr ?_
 refine WL.rn ht hn 4 ⟨[(qtopBr7), sl 5 (.own 2), sl 6 (.own 3), sl 7 (I x7), sl 41 (B (decide (x7 < (([(qtopBr8), (qtopBr5), (qtopBr6)] : (qtopBr12)).length : Int))))], (qtopBr0 g)⟩ ?_
 refine En.cd (b := (decide (x7 < (([(qtopBr8), (qtopBr5), (qtopBr6)] : (qtopBr12)).length : Int)))) (fun hb => ?_) (fun hb => ?_)
 replace h := h.1 hb
 refine En.skip ?_
 refine En.seq ?_
 refine En.block ?_
 refine En.seq ?_
 obtain ⟨e_2, he_2, h⟩ := h
 refine En.regionA ⟨[(qtopBr7), sl 5 (.own 2), sl 6 (.own 3), sl 7 (I x7)], [.sv (.agg (ApiGraph.cl g)), .sv (.one (.own 2)), .sv (.one (I x7)), .sv (.one (.oe 2 ((x7).toNat) 1)), .sv (.one (.v (.string e_2))), .tup [.one (LS boolT (HoldsR g e_2).1), .one (I (HoldsR g e_2).2)], .tup [.one (LS boolT (HoldsR g e_2).1), .one (I (HoldsR g e_2).2)], .sv (.one (LS boolT (HoldsR g e_2).1)), .sv (.one (I (HoldsR g e_2).2)), .sv (.one (LS boolT (HoldsR g e_2).1)), .sv (.one (I (HoldsR g e_2).2))], [⟨.box (ApiGraph.cl g) 24 false, none, none, none⟩, ⟨.gone, none, none, none⟩, ⟨rowI 9 strT ([(qtopBr8), (qtopBr5), (qtopBr6)] : (qtopBr12)), none, none, none⟩, ⟨rowI 9 strT ([(qtopBr3), (qtopBr2), (qtopBr10)] : (qtopBr12)), none, none, none⟩]⟩ ⟨[(qtopBr7), sl 5 (.own 2), sl 6 (.own 3), sl 7 (I x7), (qtopBr9 g e_2), sl 9 (I (HoldsR g e_2).2)], (qtopBr0 g)⟩ (by kernel_rfl) hn (by kernel_rfl) (by rfl) (by kernel_rfl) ?_ (by kernel_rfl) ?_
 exact ⟨.ev ⟨[(qtopBr7)], [.box (ApiGraph.cl g) 24 false]⟩ ht,
 .ev ⟨[sl 5 (.own 2)], []⟩ ht,
 .ev ⟨[sl 7 (I x7)], []⟩ ht,
 .vl ⟨[sl 46 (.own 2), sl 47 (I x7)], [.gone, .gone, rowI 9 strT ([(qtopBr8), (qtopBr5), (qtopBr6)] : (qtopBr12))]⟩ (mt_val (val_indexO (T := strT) (l := ([(qtopBr8), (qtopBr5), (qtopBr6)] : (qtopBr12))) (k := x7) ht rfl (by rfl) (by rfl) (by rfl) (by rfl) (by decide) (by rfl) (by rfl) (by rfl) he_2)),
 .vl ⟨[sl 48 (.oe 2 ((x7).toNat) 1)], [.gone, .gone, rowI 9 strT ([(qtopBr8), (qtopBr5), (qtopBr6)] : (qtopBr12))]⟩ (mt_val (val_loadO (T := strT) (l := ([(qtopBr8), (qtopBr5), (qtopBr6)] : (qtopBr12))) (y := e_2) ht rfl (by rfl) (by rfl) (by rfl) (by rfl) (by rfl) (idx_some he_2).2.2 (by rfl))),
 .vl ⟨[(45, .sv (.agg (ApiGraph.cl g))), sl 49 (.v (.string e_2))], []⟩ (mt_c (bHolds_ct g e_2) en9 rfl),
 .ev ⟨[(50, .tup [.one (LS boolT (HoldsR g e_2).1), .one (I (HoldsR g e_2).2)])], []⟩ ht,
 .ev ⟨[(44, .tup [.one (LS boolT (HoldsR g e_2).1), .one (I (HoldsR g e_2).2)])], []⟩ ht,
 .ev ⟨[(44, .tup [.one (LS boolT (HoldsR g e_2).1), .one (I (HoldsR g e_2).2)])], []⟩ ht,
 .ev ⟨[sl 51 (LS boolT (HoldsR g e_2).1)], []⟩ ht,
 .ev ⟨[sl 52 (I (HoldsR g e_2).2)], []⟩ ht,
 trivial⟩
 refine En.seq ?_
 obtain ⟨e_3, he_3, h⟩ := h
 refine En.regionA ⟨[(qtopBr7), sl 5 (.own 2), sl 6 (.own 3), sl 7 (I x7), (qtopBr9 g e_2), sl 9 (I (HoldsR g e_2).2)], [.sv (.agg (ApiGraph.cl g)), .sv (.one (.own 3)), .sv (.one (I x7)), .sv (.one (.oe 3 ((x7).toNat) 1)), .sv (.one (.v (.string e_3))), .tup [.one (LS boolT (HoldsF g e_3).1), .one (I (HoldsF g e_3).2)], .tup [.one (LS boolT (HoldsF g e_3).1), .one (I (HoldsF g e_3).2)], .sv (.one (LS boolT (HoldsF g e_3).1)), .sv (.one (I (HoldsF g e_3).2)), .sv (.one (LS boolT (HoldsF g e_3).1)), .sv (.one (I (HoldsF g e_3).2))], [⟨.box (ApiGraph.cl g) 24 false, none, none, none⟩, ⟨.gone, none, none, none⟩, ⟨rowI 9 strT ([(qtopBr8), (qtopBr5), (qtopBr6)] : (qtopBr12)), none, none, none⟩, ⟨rowI 9 strT ([(qtopBr3), (qtopBr2), (qtopBr10)] : (qtopBr12)), none, none, none⟩]⟩ ⟨[(qtopBr7), sl 5 (.own 2), sl 6 (.own 3), sl 7 (I x7), (qtopBr9 g e_2), sl 9 (I (HoldsR g e_2).2), (qtopBr11 g e_3), sl 11 (I (HoldsF g e_3).2)], (qtopBr0 g)⟩ (by kernel_rfl) hn (by kernel_rfl) (by rfl) (by kernel_rfl) ?_ (by kernel_rfl) ?_
 exact ⟨.ev ⟨[(qtopBr7)], [.box (ApiGraph.cl g) 24 false]⟩ ht,
 .ev ⟨[sl 6 (.own 3)], []⟩ ht,
 .ev ⟨[sl 7 (I x7)], []⟩ ht,
 .vl ⟨[sl 55 (.own 3), sl 56 (I x7)], [.gone, .gone, .gone, rowI 9 strT ([(qtopBr3), (qtopBr2), (qtopBr10)] : (qtopBr12))]⟩ (mt_val (val_indexO (T := strT) (l := ([(qtopBr3), (qtopBr2), (qtopBr10)] : (qtopBr12))) (k := x7) ht rfl (by rfl) (by rfl) (by rfl) (by rfl) (by decide) (by rfl) (by rfl) (by rfl) he_3)),
 .vl ⟨[sl 57 (.oe 3 ((x7).toNat) 1)], [.gone, .gone, .gone, rowI 9 strT ([(qtopBr3), (qtopBr2), (qtopBr10)] : (qtopBr12))]⟩ (mt_val (val_loadO (T := strT) (l := ([(qtopBr3), (qtopBr2), (qtopBr10)] : (qtopBr12))) (y := e_3) ht rfl (by rfl) (by rfl) (by rfl) (by rfl) (by rfl) (idx_some he_3).2.2 (by rfl))),
 .vl ⟨[(54, .sv (.agg (ApiGraph.cl g))), sl 58 (.v (.string e_3))], []⟩ (mt_c (fHolds_ct g e_3) en14 rfl),
 .ev ⟨[(59, .tup [.one (LS boolT (HoldsF g e_3).1), .one (I (HoldsF g e_3).2)])], []⟩ ht,
 .ev ⟨[(53, .tup [.one (LS boolT (HoldsF g e_3).1), .one (I (HoldsF g e_3).2)])], []⟩ ht,
 .ev ⟨[(53, .tup [.one (LS boolT (HoldsF g e_3).1), .one (I (HoldsF g e_3).2)])], []⟩ ht,
 .ev ⟨[sl 60 (LS boolT (HoldsF g e_3).1)], []⟩ ht,
 .ev ⟨[sl 61 (I (HoldsF g e_3).2)], []⟩ ht,
 trivial⟩
 refine En.seq ?_
 refine En.sr ?_
 refine WL.rn ht hn 3 ⟨[(qtopBr7), sl 5 (.own 2), sl 6 (.own 3), sl 7 (I x7), (qtopBr9 g e_2), sl 9 (I (HoldsR g e_2).2), (qtopBr11 g e_3), sl 64 (B ((HoldsR g e_2).2 != (HoldsF g e_3).2))], (qtopBr0 g)⟩ ?_
 refine En.cd (b := ((HoldsR g e_2).2 != (HoldsF g e_3).2)) (fun hb => ?_) (fun hb => ?_)
 replace h := h.1 hb
 refine En.sr ?_
 refine WL.rn ht hn 1 ⟨[sl 2 (B false)], [.gone, .gone, .gone, .gone]⟩ ?_
 exact En.rb ht false h
 replace h := h.2 hb
 refine En.skip ?_
 refine En.sr ?_
 refine WL.rn ht hn 1 ⟨[(qtopBr7), sl 5 (.own 2), sl 6 (.own 3), sl 7 (I x7), (qtopBr9 g e_2), sl 9 (I (HoldsR g e_2).2), (qtopBr11 g e_3), sl 12 (I 0)], (qtopBr0 g)⟩ ?_
 refine En.block ?_
 obtain ⟨Inv_2, mu_2, h0, hI⟩ := h
 refine En.loop (σ := Int) (fun zz => Inv_2 zz) (fun zz => mu_2 zz) (fun zz => ⟨[(qtopBr7), sl 5 (.own 2), sl 6 (.own 3), sl 7 (I x7), (qtopBr9 g e_2), sl 9 (I (HoldsR g e_2).2), (qtopBr11 g e_3), sl 12 (I zz)], (qtopBr0 g)⟩) 0 h0 (sub_ok (by kernel_rfl)) ?_
 intro x12 h
 replace h := hI _ h
 show En c ⟨[(qtopBr7), sl 5 (.own 2), sl 6 (.own 3), sl 7 (I x7), (qtopBr9 g e_2), sl 9 (I (HoldsR g e_2).2), (qtopBr11 g e_3), sl 12 (I x12)], (qtopBr0 g)⟩ _
 refine En.seq ?_
 refine En.sr ?_
 refine WL.r ht hn 5 ⟨[(qtopBr7), sl 5 (.own 2), sl 6 (.own 3), sl 7 (I x7), (qtopBr9 g e_2), sl 9 (I (HoldsR g e_2).2), (qtopBr11 g e_3), sl 12 (I x12), sl 69 (B (decide (x12 < ((HoldsR g e_2).1.length : Int))))], (qtopBr0 g)⟩ ?_
 refine WL.thru ⟨[(qtopBr7), sl 5 (.own 2), sl 6 (.own 3), sl 7 (I x7), (qtopBr9 g e_2), sl 9 (I (HoldsR g e_2).2), (qtopBr11 g e_3), sl 12 (I x12), sl 72 (B ((decide (x12 < ((HoldsR g e_2).1.length : Int))) && ((HoldsR g e_2).2 == 0)))], (qtopBr0 g)⟩ ?_ ?_
 refine splitB (decide (x12 < ((HoldsR g e_2).1.length : Int))) (fun hb0 => ?_) (fun hb0 => ?_)
 refine WL.sB 69 hb0 ?_
 refine WL.r ht hn 3 ⟨[(qtopBr7), sl 5 (.own 2), sl 6 (.own 3), sl 7 (I x7), (qtopBr9 g e_2), sl 9 (I (HoldsR g e_2).2), (qtopBr11 g e_3), sl 12 (I x12), sl 72 (B ((HoldsR g e_2).2 == 0))], (qtopBr0 g)⟩ ?_
 exact WL.nil (sub_ok (by simp only [hb0]; kernel_rfl))
 refine WL.sB 69 hb0 ?_
 refine WL.r ht hn 3 ⟨[(qtopBr7), sl 5 (.own 2), sl 6 (.own 3), sl 7 (I x7), (qtopBr9 g e_2), sl 9 (I (HoldsR g e_2).2), (qtopBr11 g e_3), sl 12 (I x12), sl 72 (B false)], (qtopBr0 g)⟩ ?_
 exact WL.nil (sub_ok (by simp only [hb0]; kernel_rfl))
 refine En.cd (b := ((decide (x12 < ((HoldsR g e_2).1.length : Int))) && ((HoldsR g e_2).2 == 0))) (fun hb => ?_) (fun hb => ?_)
 replace h := h.1 hb
 refine En.skip ?_
 refine En.seq ?_
 refine En.block ?_
 refine En.seq ?_
 obtain ⟨e_4, he_4, h⟩ := h
 obtain ⟨e_5, he_5, h⟩ := h
 refine En.regionA ⟨[(qtopBr7), sl 5 (.own 2), sl 6 (.own 3), sl 7 (I x7), (qtopBr9 g e_2), sl 9 (I (HoldsR g e_2).2), (qtopBr11 g e_3), sl 12 (I x12)], [.sv (.one (LS boolT (HoldsR g e_2).1)), .sv (.one (I x12)), .sv (.one (.pe (svR (.one (B e_4))) 1)), .sv (.one (B e_4)), .sv (.one (LS boolT (HoldsF g e_3).1)), .sv (.one (I x12)), .sv (.one (.pe (svR (.one (B e_5))) 1)), .sv (.one (B e_5)), .sv (.one (B (e_4 != e_5)))], [⟨.box (ApiGraph.cl g) 24 false, none, none, none⟩, ⟨.gone, none, none, none⟩, ⟨rowI 9 strT ([(qtopBr8), (qtopBr5), (qtopBr6)] : (qtopBr12)), none, none, none⟩, ⟨rowI 9 strT ([(qtopBr3), (qtopBr2), (qtopBr10)] : (qtopBr12)), none, none, none⟩]⟩ ⟨[(qtopBr7), sl 5 (.own 2), sl 6 (.own 3), sl 7 (I x7), (qtopBr9 g e_2), sl 9 (I (HoldsR g e_2).2), (qtopBr11 g e_3), sl 12 (I x12), sl 83 (B (e_4 != e_5))], (qtopBr0 g)⟩ (by kernel_rfl) hn (by kernel_rfl) (by rfl) (by kernel_rfl) ?_ (by kernel_rfl) ?_
 exact ⟨.ev ⟨[(qtopBr9 g e_2)], []⟩ ht,
 .ev ⟨[sl 12 (I x12)], []⟩ ht,
 .vl ⟨[sl 75 (LS boolT (HoldsR g e_2).1), sl 76 (I x12)], []⟩ (mt_val (val_ix (T := boolT) (l := (HoldsR g e_2).1) (i := x12) ht rfl he_4)),
 .vl ⟨[sl 77 (.pe (svR (.one (B e_4))) 1)], []⟩ (mt_val (val_ld (s := .one (B e_4)) ht rfl)),
 .ev ⟨[(qtopBr11 g e_3)], []⟩ ht,
 .ev ⟨[sl 12 (I x12)], []⟩ ht,
 .vl ⟨[sl 79 (LS boolT (HoldsF g e_3).1), sl 80 (I x12)], []⟩ (mt_val (val_ix (T := boolT) (l := (HoldsF g e_3).1) (i := x12) ht rfl he_5)),
 .vl ⟨[sl 81 (.pe (svR (.one (B e_5))) 1)], []⟩ (mt_val (val_ld (s := .one (B e_5)) ht rfl)),
 .vl ⟨[sl 78 (B e_4), sl 82 (B e_5)], []⟩ (mt_val (val_eqB (u := e_4) (v := e_5) rfl Try.underlying4 (by rfl) (by rfl) (.inr ⟨rfl, rfl⟩))),
 trivial⟩
 refine En.cd (b := (e_4 != e_5)) (fun hb => ?_) (fun hb => ?_)
 replace h := h.1 hb
 refine En.sr ?_
 refine WL.rn ht hn 1 ⟨[sl 2 (B false)], [.gone, .gone, .gone, .gone]⟩ ?_
 exact En.rb ht false h
 replace h := h.2 hb
 refine En.skip ?_
 refine En.region ?_
 refine WL.rn ht hn 3 ⟨[(qtopBr7), sl 5 (.own 2), sl 6 (.own 3), sl 7 (I x7), (qtopBr9 g e_2), sl 9 (I (HoldsR g e_2).2), (qtopBr11 g e_3), sl 12 (I (wr (x12 + 1)))], (qtopBr0 g)⟩ ?_
 exact En.at (I := fun zz => Inv_2 zz ∧ mu_2 zz < mu_2 x12) (T := fun zz => ⟨[(qtopBr7), sl 5 (.own 2), sl 6 (.own 3), sl 7 (I x7), (qtopBr9 g e_2), sl 9 (I (HoldsR g e_2).2), (qtopBr11 g e_3), sl 12 (I zz)], (qtopBr0 g)⟩) (wr (x12 + 1)) h (by kernel_rfl)
 replace h := h.2 hb
 refine En.exit rfl ?_
 refine En.region ?_
 refine WL.rn ht hn 3 ⟨[(qtopBr7), sl 5 (.own 2), sl 6 (.own 3), sl 7 (I (wr (x7 + 1)))], (qtopBr0 g)⟩ ?_
 exact En.at (I := fun zz => Inv zz ∧ mu zz < mu x7) (T := fun zz => ⟨[(qtopBr7), sl 5 (.own 2), sl 6 (.own 3), sl 7 (I zz)], (qtopBr0 g)⟩) (wr (x7 + 1)) h (by kernel_rfl)
 replace h := h.2 hb
 refine En.exit rfl ?_
 refine En.sr ?_
 refine WL.rn ht hn 1 ⟨[sl 2 (B true)], [.gone, .gone, .gone, .gone]⟩ ?_
 exact En.rb ht true h
theorem tL1 : fullB (ByteArray.mk #[69, 71, 97]) = some (bn 71 false 0 [bn 97 false 0 []]) := by kernel_rfl
theorem tL2 : fullB (ByteArray.mk #[69, 70, 33, 97]) = some (bn 70 false 0 [bn 33 false 0 [bn 97 false 0 []]]) := by kernel_rfl
theorem tL3 : fullB (ByteArray.mk #[65, 71, 33, 97]) = some (bn 71 true 0 [bn 33 false 0 [bn 97 false 0 []]]) := by kernel_rfl
theorem tR1 : fullF (ByteArray.mk #[110, 88, 46, 60, 97, 62, 88]) = some (fn 110 0 [fn 60 0 [fn 88 0 []]]) := by kernel_rfl
theorem tR2 : fullF (ByteArray.mk #[109, 88, 46, 40, 91, 97, 93, 48, 124, 60, 97, 62, 88, 41]) = some (fn 109 0 [fn 124 0 [fn 91 0 [fn 48 0 []], fn 60 0 [fn 88 0 []]]]) := by kernel_rfl
theorem tR3 : fullF (ByteArray.mk #[91, 97, 93, 48]) = some (fn 91 0 [fn 48 0 []]) := by kernel_rfl
theorem tHold {g : ApiGraph} {c d : ByteArray} {x : BTr} {y : FTr} (hx : fullB c = some x) (hy : fullF d = some y) (h : GraphOk g → bSem (walkR g) 30 x = semF g 30 y []) : HoldsR g c = HoldsF g d := by
 unfold HoldsR HoldsF
 by_cases hs : samErr g ≠ 0
 ·rw [if_pos hs, if_pos hs]
 ·rw [if_neg hs, if_neg hs, hx, hy]
  exact congrArg (fun a => (a, (0 : Int))) (h (samErr_ok (Decidable.not_not.1 hs)))
section
variable {g : ApiGraph} (hg : GraphOk g) (hl : g.fLetters = 1)
include hg hl
theorem tb1 : bSem (walkR g) 30 (bn 71 false 0 [bn 97 false 0 []]) = semF g 30 (fn 110 0 [fn 60 0 [fn 88 0 []]]) [] := tb_one hg hl
theorem tb2 : bSem (walkR g) 30 (bn 70 false 0 [bn 33 false 0 [bn 97 false 0 []]]) = semF g 30 (fn 109 0 [fn 124 0 [fn 91 0 [fn 48 0 []], fn 60 0 [fn 88 0 []]]]) [] := tb_two hg hl
theorem tb3 : bSem (walkR g) 30 (bn 71 true 0 [bn 33 false 0 [bn 97 false 0 []]]) = semF g 30 (fn 91 0 [fn 48 0 []]) [] := tb_three hg hl
end
theorem heldF : HoldsF ⟨1, 1, [⟨0, 0, 0⟩]⟩ (ByteArray.mk #[110, 88, 46, 60, 97, 62, 88]) = ([true], 0) := by kernel_rfl
theorem holdsR_len {g : ApiGraph} {c : ByteArray} (h : (HoldsR g c).2 = 0) : (HoldsR g c).1.length ≤ 1000 := by
 unfold HoldsR at h ⊢
 by_cases hs : samErr g ≠ 0
 ·rw [if_pos hs]
  exact Nat.zero_le _
 ·rw [if_neg hs] at h ⊢
  cases hf : fullB c with
  | none => exact Nat.zero_le _
  | some t =>
   obtain ⟨_, hS, hq⟩ := fullB_some hf
   show (bSem (walkR g) 30 t).length ≤ 1000
   rw [bSem_len hS]
   have := (gr_ok (Decidable.not_not.1 hs)).pos
   show g.fPlaces.toNat ≤ 1000
   omega
theorem tStep {a b : List Bool × Int} {Qf R : Prop} (h : a = b) (hl : a.2 = 0 → a.1.length ≤ 1000) (hR : R) : IfP (a.2 != b.2) Qf (∃ (Inv_2 : Int → Prop) (mu_2 : Int → Nat), Inv_2 0 ∧ ∀ (x12 : Int), Inv_2 x12 → (IfP ((decide (x12 < (a.1.length : Int))) && (a.2 == 0)) (∃ e_4, idx a.1 x12 = some e_4 ∧ ∃ e_5, idx b.1 x12 = some e_5 ∧ IfP (e_4 != e_5) Qf ((Inv_2 (wr (x12 + 1)) ∧ mu_2 (wr (x12 + 1)) < mu_2 x12))) R)) := by
 subst h
 refine ⟨fun h => absurd rfl (bne_iff_ne.1 h), fun _ => ⟨fun j => ∃ m : Nat, j = m, fun j => (a.1.length - j).toNat, ⟨0, rfl⟩, ?_⟩⟩
 rintro _ ⟨m, rfl⟩
 refine ⟨fun hb => ?_, fun _ => hR⟩
 rw [Bool.and_eq_true, beq_iff_eq] at hb
 have hlt : m < a.1.length := by have := of_decide_eq_true hb.1; omega
 have hz := hl hb.2
 have hi : idx a.1 (m : Int) = some (a.1[m]) := by
  unfold idx
  rw [if_pos (Int.natCast_nonneg _), Int.toNat_natCast, List.getElem?_eq_getElem hlt]
 refine ⟨_, hi, _, hi, fun hne => absurd rfl (bne_iff_ne.1 hne), fun _ => ?_⟩
 rw [wr_in (by omega) (by omega)]
 refine ⟨⟨m + 1, by omega⟩, ?_⟩
 show (a.1.length - ((m : Int) + 1)).toNat < (a.1.length - (m : Int)).toNat
 omega
theorem topBr_ct (g : ApiGraph)  : Ct 7 [.sv (.agg [I g.fLetters, I g.fPlaces, LS ApiArrow.ty g.fArrows])] [] (fun (_ : Unit) => True) (fun _ => .sv (.one (B (true)))) := by
 refine (topBr_walk g (fun res_ => res_ = (true)) ?_).fun
 unfold topBr_vc
 intro _
 refine ⟨fun b => b = false, ?_, ?_⟩
 ·have e : HoldsF (ApiGraph.mk 1 1 ([(ApiArrow.mk 0 0 0)] : (List ApiArrow))) (ByteArray.mk #[110, 88, 46, 60, 97, 62, 88]) = ([true], 0) := heldF
  rw [e]
  exact ⟨fun h => (by cases h), fun _ => ⟨fun h => (by cases h), fun _ => ⟨true, rfl, rfl⟩⟩⟩
 rintro _ rfl
 refine ⟨fun h => (by cases h), fun _ => ⟨fun _ => rfl, fun hl => ?_⟩⟩
 have hl : g.fLetters = 1 := by simpa using hl
 refine ⟨fun i => ∃ k : Nat, i = k ∧ k ≤ 3, fun i => (3 - i).toNat, ⟨0, rfl, by decide⟩, ?_⟩
 rintro _ ⟨k, rfl, hk⟩
 refine ⟨fun hi => ?_, fun _ => rfl⟩
 have hk3 : (k : Int) < 3 := of_decide_eq_true hi
 have hgo : (∃ k' : Nat, wr ((k : Int) + 1) = k' ∧ k' ≤ 3) ∧ (3 - wr ((k : Int) + 1)).toNat < (3 - (k : Int)).toNat := by
  rw [wr_in (by omega) (by omega)]
  exact ⟨⟨k + 1, by omega, by omega⟩, by omega⟩
 have hk4 : k = 0 ∨ k = 1 ∨ k = 2 := by omega
 rcases hk4 with rfl | rfl | rfl
 ·exact ⟨_, rfl, _, rfl, tStep (tHold tL1 tR1 fun hg => tb1 hg hl) (fun h => holdsR_len h) hgo⟩
 ·exact ⟨_, rfl, _, rfl, tStep (tHold tL2 tR2 fun hg => tb2 hg hl) (fun h => holdsR_len h) hgo⟩
 ·exact ⟨_, rfl, _, rfl, tStep (tHold tL3 tR3 fun hg => tb3 hg hl) (fun h => holdsR_len h) hgo⟩
end Go.Proofs.Ytiejmeedkhkfgaa
