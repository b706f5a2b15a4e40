/- Lemmas towards the statement: mirrors of functions, and plain laws. No condition. -/
import Derived.Test.YtobenjahlicnoaaPackGramParts5
namespace Go.Proofs.Ytobenjahlicnoaa
open Go.RowKit Go.MapKept
set_option linter.unusedSimpArgs false
set_option linter.unusedVariables false
set_option maxRecDepth 100000
def cOf_vc (g : ApiGrammar) (w : List Int) (E : List (St170 × Int)) (Y : List (St170 × GramChoice)) (a : Int) (i : Int) (j : Int) (Q : Int → Prop) : Prop :=
 IfP (mget (St170.mk a i j) E).isSome (Q ((mget (St170.mk a i j) E).getD (0 : Int))) (Q 1099511627776)
noncomputable abbrev qaa0 (g : ApiGrammar) (w : List Int) (E : List (St170 × Int)) (Y : List (St170 × GramChoice)) := ([.box [I g.fLetters, I g.fNames, LS ApiMake.ty g.fMakes, LS intT w, .own 1, .own 2] 173 false, mapI St170.enc intT E, mapI St170.enc GramChoice.ty Y] : List Item)
theorem cOf_walk (g : ApiGrammar) (w : List Int) (E : List (St170 × Int)) (Y : List (St170 × GramChoice)) (a : Int) (i : Int) (j : Int) (Q : Int → Prop) (h : cOf_vc g w E Y a i j Q) : CtE 46 [.sv (.one (.ptr 0 0)), .sv (.one (I a)), .sv (.one (I i)), .sv (.one (I j))] [.box [I g.fLetters, I g.fNames, LS ApiMake.ty g.fMakes, LS intT w, .own 1, .own 2] 173 false, mapI St170.enc intT E, mapI St170.enc GramChoice.ty Y] [0] Q (fun (r : Int) => .sv (.one (I r))) (fun (r : Int) => [.box [I g.fLetters, I g.fNames, LS ApiMake.ty g.fMakes, LS intT w, .own 1, .own 2] 173 false, mapI St170.enc intT E, mapI St170.enc GramChoice.ty Y]) := by
 have ht := tab_ok
 refine CtE.body Try.func46 rfl rfl rfl (by kernel_rfl) (by kernel_rfl) (fun c Bk hn => ?_)
 unfold cOf_vc at h
 show En c ⟨[sl 0 (.pptr 0 0 (Bk 0)), sl 1 (I a), sl 2 (I i), sl 3 (I j)], (qaa0 g w E Y)⟩ _
 refine En.sr ?_
 refine WL.rn ht hn 1 ⟨[sl 0 (.pptr 0 0 (Bk 0)), sl 1 (I a), sl 2 (I i), sl 3 (I j)], (qaa0 g w E Y)⟩ ?_
 refine En.seq ?_
 refine En.sr ?_
 refine WL.r ht hn 8 ⟨[sl 0 (.pptr 0 0 (Bk 0)), sl 15 (.own 1), (19, .sv (.agg [I a, I i, I j]))], (qaa0 g w E Y)⟩ ?_
 refine WL.v hn (val_lookup (T := intT) (D := E) St170.keyLaw (k := (St170.mk a i j)) (ok := true) (0 : Int) (zv := (.int .i64 0)) rfl Try.underlying167 (fun _ => by kernel_rfl) (fun _ => ⟨rfl, trivial⟩) (mapAs St170.enc intT E) (by rfl) (by rfl) (by rfl) (fun _ => rfl)) ?_
 refine WL.rn ht hn 5 ⟨[sl 0 (.pptr 0 0 (Bk 0)), sl 9 (I ((mget (St170.mk a i j) E).getD (0 : Int))), sl 10 (B (mget (St170.mk a i j) E).isSome)], (qaa0 g w E Y)⟩ ?_
 refine En.sr ?_
 refine WL.rn ht hn 1 ⟨[sl 0 (.pptr 0 0 (Bk 0)), sl 9 (I ((mget (St170.mk a i j) E).getD (0 : Int))), sl 23 (B (mget (St170.mk a i j) E).isSome)], (qaa0 g w E Y)⟩ ?_
 refine En.ch h (fun h => ?_) (fun h => ?_)
 refine En.sr ?_
 refine WL.rn ht hn 2 ⟨[sl 0 (.pptr 0 0 (Bk 0)), sl 8 (I ((mget (St170.mk a i j) E).getD (0 : Int)))], (qaa0 g w E Y)⟩ ?_
 refine En.ret ?_
 exact En.backE [0] ht ((mget (St170.mk a i j) E).getD (0 : Int)) h (by kernel_rfl) (by rfl) rfl
 refine En.skip ?_
 refine En.sr ?_
 refine WL.rn ht hn 1 ⟨[sl 0 (.pptr 0 0 (Bk 0)), sl 8 (I 1099511627776)], (qaa0 g w E Y)⟩ ?_
 refine En.ret ?_
 exact En.backE [0] ht 1099511627776 h (by kernel_rfl) (by rfl) rfl
theorem en46 : ∀ args w, (callFunc 46 args).run Try.prog w = .ok (.enter 46 args) w := enters_of Try.func46 (by kernel_rfl) rfl
theorem cOf_ct (g : ApiGrammar) (w : List Int) (E : List (St170 × Int)) (Y : List (St170 × GramChoice)) (a : Int) (i : Int) (j : Int)  : CtE 46 [.sv (.one (.ptr 0 0)), .sv (.one (I a)), .sv (.one (I i)), .sv (.one (I j))] [.box [I g.fLetters, I g.fNames, LS ApiMake.ty g.fMakes, LS intT w, .own 1, .own 2] 173 false, mapI St170.enc intT E, mapI St170.enc GramChoice.ty Y] [0] (fun (_ : Unit) => True) (fun _ => .sv (.one (I (ofC E a i j)))) (fun _ => [.box [I g.fLetters, I g.fNames, LS ApiMake.ty g.fMakes, LS intT w, .own 1, .own 2] 173 false, mapI St170.enc intT E, mapI St170.enc GramChoice.ty Y]) := by
 refine (cOf_walk g w E Y a i j (fun res_ => res_ = ofC E a i j) ?_).imp (fun r hr => ⟨(), trivial, by subst hr; rfl, by subst hr; rfl⟩)
 unfold cOf_vc
 refine ⟨fun h => ?_, fun h => ?_⟩
 ·obtain ⟨c, hc⟩ := Option.isSome_iff_exists.1 h
  unfold ofC
  rw [show mget (key3 a i j) E = some c from hc]
  rfl
 ·unfold ofC
  rw [show mget (key3 a i j) E = none from Option.not_isSome_iff_eq_none.1 (by rw [h]; decide)]
  rfl
theorem en91 : ∀ args w, (callFunc 91 args).run Try.prog w = .ok (.enter 91 args) w := enters_of Try.func91 (by kernel_rfl) rfl
def RowC (g : ApiGrammar) (w : List Int) (E : List (St170 × Int)) (Y : List (St170 × GramChoice)) (n : Nat) : Prop := ∀ (signs : List Int) (i j : Int), RowPre g w E signs i j n → CtE 91 [.sv (.one (.ptr 0 0)), .sv (.one (LS intT signs)), .sv (.one (I i)), .sv (.one (I j))] [.box [I g.fLetters, I g.fNames, LS ApiMake.ty g.fMakes, LS intT w, .own 1, .own 2] 173 false, mapI St170.enc intT E, mapI St170.enc GramChoice.ty Y] [0] (fun (_ : Unit) => True) (fun _ => .tup [.one (I (rowC g w E signs i j).1), .one (LS intT (rowC g w E signs i j).2)]) (fun _ => [.box [I g.fLetters, I g.fNames, LS ApiMake.ty g.fMakes, LS intT w, .own 1, .own 2] 173 false, mapI St170.enc intT E, mapI St170.enc GramChoice.ty Y])
def cRow_vc (g : ApiGrammar) (w : List Int) (E : List (St170 × Int)) (Y : List (St170 × GramChoice)) (signs : List Int) (i : Int) (j : Int) (n : Nat) (Q : Int × (List Int) → Prop) : Prop :=
 signs.length ≤ 9223372036854775807 →
 (IfP ((signs.length : Int) == 0) (IfP (i == j) (Q (0, [])) (Q (1099511627776, []))) (∃ e, idx signs 0 = some e ∧
 ∃ (Inv : Int → Int → (List Int) → Prop) (mu : Int → Int → (List Int) → Nat), Inv 1099511627776 i ([] : List Int) ∧
 ∀ (x10 : Int) (x13 : Int) (l3 : List Int) , Inv x10 x13 l3 → (IfP (decide (x13 ≤ j)) (∃ J : Int → (List Int) → Prop, (∃ J_2 : Int → Prop, (IfP (decide (e ≥ g.fLetters)) (J_2 (ofC E (wr (e - g.fLetters)) i x13)) (∃ J_3 : Bool → Prop, (IfP (x13 == (wr (i + 1))) (∃ e_2, idx w i = some e_2 ∧
 J_3 (e_2 == e)) (J_3 false)) ∧
 (∀ (x64 : Bool), J_3 x64 → IfP x64 (J_2 0) (J_2 1099511627776)))) ∧
 (∀ (x14 : Int), J_2 x14 → IfP (x14 == 1099511627776) (J x10 l3) (partOk 1 (signs.length : Int) signs.length ∧
 (RowPre g w E ((signs.take ((signs.length : Int) : Int).toNat).drop (1 : Int).toNat) x13 j n) ∧
 IfP (decide ((wr (x14 + (rowC g w E ((signs.take ((signs.length : Int) : Int).toNat).drop (1 : Int).toNat) x13 j).1)) < x10)) (capOk ([x13] : List Int).length ((rowC g w E ((signs.take ((signs.length : Int) : Int).toNat).drop (1 : Int).toNat) x13 j).2 : List Int).length 8 ∧
 J (wr (x14 + (rowC g w E ((signs.take ((signs.length : Int) : Int).toNat).drop (1 : Int).toNat) x13 j).1)) (([x13] : List Int) ++ (rowC g w E ((signs.take ((signs.length : Int) : Int).toNat).drop (1 : Int).toNat) x13 j).2)) (J x10 l3)))) ∧
 (∀ (x10_2 : Int) (l3_2 : List Int), J x10_2 l3_2 → (Inv x10_2 (wr (x13 + 1)) l3_2 ∧ mu x10_2 (wr (x13 + 1)) l3_2 < mu x10 x13 l3))) (Q (x10, l3)))))
noncomputable abbrev qab0 (g : ApiGrammar) (w : List Int) := (.box [I g.fLetters, I g.fNames, LS ApiMake.ty g.fMakes, LS intT w, .own 1, .own 2] 173 false : Item)
noncomputable abbrev qab1 (g : ApiGrammar) (w : List Int) (E : List (St170 × Int)) (signs : List Int) (j : Int) (y0 : Int) := (rowC g w E ((signs.take ((signs.length : Int) : Int).toNat).drop (1 : Int).toNat) y0 j)
noncomputable abbrev qab2 (y0 : Nat → Nat) := sl 0 (.pptr 0 0 (y0 0))
noncomputable abbrev qab3 (signs : List Int) := sl 1 (LS intT signs)
noncomputable abbrev qab4 := sl 11 (.own 3)
noncomputable abbrev qab5 := (I 1099511627776)
set_option maxHeartbeats 2000000 in
theorem cRow_walk (g : ApiGrammar) (w : List Int) (E : List (St170 × Int)) (Y : List (St170 × GramChoice)) (signs : List Int) (i : Int) (j : Int) (n : Nat) (ih : RowC g w E Y n) (Q : Int × (List Int) → Prop) (h : cRow_vc g w E Y signs i j n Q) : CtE 91 [.sv (.one (.ptr 0 0)), .sv (.one (LS intT signs)), .sv (.one (I i)), .sv (.one (I j))] [.box [I g.fLetters, I g.fNames, LS ApiMake.ty g.fMakes, LS intT w, .own 1, .own 2] 173 false, mapI St170.enc intT E, mapI St170.enc GramChoice.ty Y] [0] Q (fun (r : Int × (List Int)) => .tup [.one (I r.1), .one (LS intT r.2)]) (fun (r : Int × (List Int)) => [.box [I g.fLetters, I g.fNames, LS ApiMake.ty g.fMakes, LS intT w, .own 1, .own 2] 173 false, mapI St170.enc intT E, mapI St170.enc GramChoice.ty Y]) := by
 have ht := tab_ok
 refine CtE.body Try.func91 rfl rfl rfl (by kernel_rfl) (by kernel_rfl) (fun c Bk hn => ?_)
 unfold cRow_vc at h
 show En c ⟨[qab2 Bk, qab3 signs, sl 2 (I i), sl 3 (I j)], [qab0 g w, mapI St170.enc intT E, mapI St170.enc GramChoice.ty Y]⟩ _
 refine En.lenL 1 (by rfl) (fun hl => ?_)
 replace h := h hl
 clear hl
 refine En.sr ?_
 refine WL.rn ht hn 2 ⟨[qab2 Bk, qab3 signs, sl 2 (I i), sl 3 (I j)], [qab0 g w, mapI St170.enc intT E, mapI St170.enc GramChoice.ty Y]⟩ ?_
 refine En.seq ?_
 refine En.sr ?_
 refine WL.rn ht hn 3 ⟨[qab2 Bk, qab3 signs, sl 2 (I i), sl 3 (I j), sl 19 (B ((signs.length : Int) == 0))], [qab0 g w, mapI St170.enc intT E, mapI St170.enc GramChoice.ty Y]⟩ ?_
 refine En.ch h (fun h => ?_) (fun h => ?_)
 refine En.seq ?_
 refine En.sr ?_
 refine WL.rn ht hn 3 ⟨[qab2 Bk, sl 22 (B (i == j))], [qab0 g w, mapI St170.enc intT E, mapI St170.enc GramChoice.ty Y]⟩ ?_
 refine En.ch h (fun h => ?_) (fun h => ?_)
 refine En.sr ?_
 refine WL.rn ht hn 2 ⟨[qab2 Bk, sl 8 (I 0), sl 9 (.v (.slice none 0 0))], [qab0 g w, mapI St170.enc intT E, mapI St170.enc GramChoice.ty Y]⟩ ?_
 refine En.ret ?_
 refine En.nilLS 9 intT (by rfl) ?_
 exact En.backE [0] ht (0, []) h (by kernel_rfl) (by rfl) rfl
 refine En.skip ?_
 refine En.sr ?_
 refine WL.rn ht hn 2 ⟨[qab2 Bk, sl 8 qab5, sl 9 (.v (.slice none 0 0))], [qab0 g w, mapI St170.enc intT E, mapI St170.enc GramChoice.ty Y]⟩ ?_
 refine En.ret ?_
 refine En.nilLS 9 intT (by rfl) ?_
 exact En.backE [0] ht (1099511627776, []) h (by kernel_rfl) (by rfl) rfl
 refine En.skip ?_
 refine En.sr ?_
 refine WL.rn ht hn 2 ⟨[qab2 Bk, qab3 signs, sl 2 (I i), sl 3 (I j), sl 10 qab5, sl 11 (.v (.slice none 0 0))], [qab0 g w, mapI St170.enc intT E, mapI St170.enc GramChoice.ty Y]⟩ ?_
 refine En.sr ?_
 refine WL.r ht hn 1 ⟨[qab2 Bk, qab3 signs, sl 2 (I i), sl 3 (I j), sl 10 qab5, sl 11 (.v (.slice none 0 0)), sl 23 (LS intT signs)], [qab0 g w, mapI St170.enc intT E, mapI St170.enc GramChoice.ty Y]⟩ ?_
 obtain ⟨e, he, h⟩ := h
 refine WL.v hn (val_ix (T := intT) (l := signs) (i := 0) ht rfl he) ?_
 refine WL.v hn (val_ld (s := .one (I e)) ht rfl) ?_
 refine WL.rn ht hn 1 ⟨[qab2 Bk, qab3 signs, sl 2 (I i), sl 3 (I j), sl 10 qab5, sl 11 (.v (.slice none 0 0)), sl 12 (I e)], [qab0 g w, mapI St170.enc intT E, mapI St170.enc GramChoice.ty Y]⟩ ?_
 refine En.seq ?_
 refine En.sr ?_
 refine WL.rn ht hn 2 ⟨[qab2 Bk, qab3 signs, sl 2 (I i), sl 3 (I j), sl 10 qab5, sl 11 (.v (.slice none 0 0)), sl 12 (I e), sl 13 (I i)], [qab0 g w, mapI St170.enc intT E, mapI St170.enc GramChoice.ty Y]⟩ ?_
 refine En.block ?_
 refine En.rowNil 11 3 3 intT (by rfl) (by rfl) ?_
 obtain ⟨Inv, mu, h0, hI⟩ := h
 refine En.loop (σ := Int × Int × (List Int)) (fun zz => Inv zz.1 zz.2.1 zz.2.2) (fun zz => mu zz.1 zz.2.1 zz.2.2) (fun zz => ⟨[qab2 Bk, qab3 signs, sl 2 (I i), sl 3 (I j), sl 10 (I zz.1), qab4, sl 12 (I e), sl 13 (I zz.2.1)], [qab0 g w, mapI St170.enc intT E, mapI St170.enc GramChoice.ty Y, rowI 3 intT zz.2.2]⟩) (1099511627776, i, ([] : List Int)) h0 (sub_ok (by kernel_rfl)) ?_
 rintro ⟨x10, x13, l3⟩ h
 replace h := hI _ _ _ h
 show En c ⟨[qab2 Bk, qab3 signs, sl 2 (I i), sl 3 (I j), sl 10 (I x10), qab4, sl 12 (I e), sl 13 (I x13)], [qab0 g w, mapI St170.enc intT E, mapI St170.enc GramChoice.ty Y, rowI 3 intT l3]⟩ _
 refine En.seq ?_
 refine En.sr ?_
 refine WL.rn ht hn 3 ⟨[qab2 Bk, qab3 signs, sl 2 (I i), sl 3 (I j), sl 10 (I x10), qab4, sl 12 (I e), sl 13 (I x13), sl 29 (B (decide (x13 ≤ j)))], [qab0 g w, mapI St170.enc intT E, mapI St170.enc GramChoice.ty Y, rowI 3 intT l3]⟩ ?_
 refine En.ch h (fun h => ?_) (fun h => ?_)
 refine En.skip ?_
 obtain ⟨J, h, hJ⟩ := h
 refine En.seqJ (σ := Int × (List Int)) (fun zz => J zz.1 zz.2) (fun zz => ⟨[qab2 Bk, qab3 signs, sl 2 (I i), sl 3 (I j), sl 10 (I zz.1), qab4, sl 12 (I e), sl 13 (I x13)], [qab0 g w, mapI St170.enc intT E, mapI St170.enc GramChoice.ty Y, rowI 3 intT zz.2]⟩) ?_ ?_
 refine En.block ?_
 refine En.sr ?_
 refine WL.rn ht hn 1 ⟨[qab2 Bk, qab3 signs, sl 2 (I i), sl 3 (I j), sl 10 (I x10), qab4, sl 12 (I e), sl 13 (I x13), sl 14 qab5], [qab0 g w, mapI St170.enc intT E, mapI St170.enc GramChoice.ty Y, rowI 3 intT l3]⟩ ?_
 obtain ⟨J_2, h, hJ_2⟩ := h
 refine En.seqJ (σ := Int) (fun zz => J_2 zz) (fun zz => ⟨[qab2 Bk, qab3 signs, sl 2 (I i), sl 3 (I j), sl 10 (I x10), qab4, sl 12 (I e), sl 13 (I x13), sl 14 (I zz)], [qab0 g w, mapI St170.enc intT E, mapI St170.enc GramChoice.ty Y, rowI 3 intT l3]⟩) ?_ ?_
 refine En.sr ?_
 refine WL.rn ht hn 7 ⟨[qab2 Bk, qab3 signs, sl 2 (I i), sl 3 (I j), sl 10 (I x10), qab4, sl 12 (I e), sl 13 (I x13), sl 14 qab5, sl 38 (B (decide (e ≥ g.fLetters)))], [qab0 g w, mapI St170.enc intT E, mapI St170.enc GramChoice.ty Y, rowI 3 intT l3]⟩ ?_
 refine En.ch h (fun h => ?_) (fun h => ?_)
 refine En.region ?_
 refine WL.r ht hn 10 ⟨[qab2 Bk, qab3 signs, sl 2 (I i), sl 3 (I j), sl 10 (I x10), qab4, sl 12 (I e), sl 13 (I x13), sl 39 (.ptr 0 0), sl 46 (I (wr (e - g.fLetters))), sl 47 (I i), sl 48 (I x13)], [qab0 g w, mapI St170.enc intT E, mapI St170.enc GramChoice.ty Y, rowI 3 intT l3]⟩ ?_
 refine WL.cE (cOf_ct g w E Y (wr (e - g.fLetters)) i x13) en46 [0, 1, 2] hn rfl ?_
 refine WL.rn ht hn 1 ⟨[qab2 Bk, qab3 signs, sl 2 (I i), sl 3 (I j), sl 10 (I x10), qab4, sl 12 (I e), sl 13 (I x13), sl 14 (I (ofC E (wr (e - g.fLetters)) i x13))], [qab0 g w, mapI St170.enc intT E, mapI St170.enc GramChoice.ty Y, rowI 3 intT l3]⟩ ?_
 exact En.at (I := fun zz => J_2 zz) (T := fun zz => ⟨[qab2 Bk, qab3 signs, sl 2 (I i), sl 3 (I j), sl 10 (I x10), qab4, sl 12 (I e), sl 13 (I x13), sl 14 (I zz)], [qab0 g w, mapI St170.enc intT E, mapI St170.enc GramChoice.ty Y, rowI 3 intT l3]⟩) (ofC E (wr (e - g.fLetters)) i x13) h (by kernel_rfl)
 obtain ⟨J_3, h, hJ_3⟩ := h
 refine En.seqJ (σ := Bool) (fun zz => J_3 zz) (fun zz => ⟨[qab2 Bk, qab3 signs, sl 2 (I i), sl 3 (I j), sl 10 (I x10), qab4, sl 12 (I e), sl 13 (I x13), sl 14 qab5, sl 64 (B zz)], [qab0 g w, mapI St170.enc intT E, mapI St170.enc GramChoice.ty Y, rowI 3 intT l3]⟩) ?_ ?_
 refine En.region ?_
 refine WL.r ht hn 5 ⟨[qab2 Bk, qab3 signs, sl 2 (I i), sl 3 (I j), sl 10 (I x10), qab4, sl 12 (I e), sl 13 (I x13), sl 14 qab5, sl 54 (B (x13 == (wr (i + 1))))], [qab0 g w, mapI St170.enc intT E, mapI St170.enc GramChoice.ty Y, rowI 3 intT l3]⟩ ?_
 refine splitB (x13 == (wr (i + 1))) (fun hb => ?_) (fun hb => ?_)
 replace h := h.1 hb
 refine WL.sB 54 hb ?_
 refine WL.r ht hn 5 ⟨[qab2 Bk, qab3 signs, sl 2 (I i), sl 3 (I j), sl 10 (I x10), qab4, sl 12 (I e), sl 13 (I x13), sl 14 qab5, sl 54 (B true), sl 58 (LS intT w), sl 59 (I i)], [qab0 g w, mapI St170.enc intT E, mapI St170.enc GramChoice.ty Y, rowI 3 intT l3]⟩ ?_
 obtain ⟨e_2, he_2, h⟩ := h
 refine WL.v hn (val_ix (T := intT) (l := w) (i := i) ht rfl he_2) ?_
 refine WL.v hn (val_ld (s := .one (I e_2)) ht rfl) ?_
 refine WL.rn ht hn 3 ⟨[qab2 Bk, qab3 signs, sl 2 (I i), sl 3 (I j), sl 10 (I x10), qab4, sl 12 (I e), sl 13 (I x13), sl 14 qab5, sl 64 (B (e_2 == e))], [qab0 g w, mapI St170.enc intT E, mapI St170.enc GramChoice.ty Y, rowI 3 intT l3]⟩ ?_
 exact En.at (I := fun zz => J_3 zz) (T := fun zz => ⟨[qab2 Bk, qab3 signs, sl 2 (I i), sl 3 (I j), sl 10 (I x10), qab4, sl 12 (I e), sl 13 (I x13), sl 14 qab5, sl 64 (B zz)], [qab0 g w, mapI St170.enc intT E, mapI St170.enc GramChoice.ty Y, rowI 3 intT l3]⟩) (e_2 == e) h (by kernel_rfl)
 replace h := h.2 hb
 refine WL.sB 54 hb ?_
 refine WL.rn ht hn 10 ⟨[qab2 Bk, qab3 signs, sl 2 (I i), sl 3 (I j), sl 10 (I x10), qab4, sl 12 (I e), sl 13 (I x13), sl 14 qab5, sl 64 (B false)], [qab0 g w, mapI St170.enc intT E, mapI St170.enc GramChoice.ty Y, rowI 3 intT l3]⟩ ?_
 exact En.at (I := fun zz => J_3 zz) (T := fun zz => ⟨[qab2 Bk, qab3 signs, sl 2 (I i), sl 3 (I j), sl 10 (I x10), qab4, sl 12 (I e), sl 13 (I x13), sl 14 qab5, sl 64 (B zz)], [qab0 g w, mapI St170.enc intT E, mapI St170.enc GramChoice.ty Y, rowI 3 intT l3]⟩) false h (by kernel_rfl)
 intro x64 h
 replace h := hJ_3 _ h
 show En c ⟨[qab2 Bk, qab3 signs, sl 2 (I i), sl 3 (I j), sl 10 (I x10), qab4, sl 12 (I e), sl 13 (I x13), sl 14 qab5, sl 64 (B x64)], [qab0 g w, mapI St170.enc intT E, mapI St170.enc GramChoice.ty Y, rowI 3 intT l3]⟩ _
 refine En.ch h (fun h => ?_) (fun h => ?_)
 refine En.region ?_
 refine WL.rn ht hn 1 ⟨[qab2 Bk, qab3 signs, sl 2 (I i), sl 3 (I j), sl 10 (I x10), qab4, sl 12 (I e), sl 13 (I x13), sl 14 (I 0)], [qab0 g w, mapI St170.enc intT E, mapI St170.enc GramChoice.ty Y, rowI 3 intT l3]⟩ ?_
 exact En.at (I := fun zz => J_2 zz) (T := fun zz => ⟨[qab2 Bk, qab3 signs, sl 2 (I i), sl 3 (I j), sl 10 (I x10), qab4, sl 12 (I e), sl 13 (I x13), sl 14 (I zz)], [qab0 g w, mapI St170.enc intT E, mapI St170.enc GramChoice.ty Y, rowI 3 intT l3]⟩) 0 h (by kernel_rfl)
 refine En.skip ?_
 exact En.at (I := fun zz => J_2 zz) (T := fun zz => ⟨[qab2 Bk, qab3 signs, sl 2 (I i), sl 3 (I j), sl 10 (I x10), qab4, sl 12 (I e), sl 13 (I x13), sl 14 (I zz)], [qab0 g w, mapI St170.enc intT E, mapI St170.enc GramChoice.ty Y, rowI 3 intT l3]⟩) 1099511627776 h (by kernel_rfl)
 intro x14 h
 replace h := hJ_2 _ h
 show En c ⟨[qab2 Bk, qab3 signs, sl 2 (I i), sl 3 (I j), sl 10 (I x10), qab4, sl 12 (I e), sl 13 (I x13), sl 14 (I x14)], [qab0 g w, mapI St170.enc intT E, mapI St170.enc GramChoice.ty Y, rowI 3 intT l3]⟩ _
 refine En.seq ?_
 refine En.sr ?_
 refine WL.rn ht hn 2 ⟨[qab2 Bk, qab3 signs, sl 2 (I i), sl 3 (I j), sl 10 (I x10), qab4, sl 12 (I e), sl 13 (I x13), sl 14 (I x14), sl 66 (B (x14 == 1099511627776))], [qab0 g w, mapI St170.enc intT E, mapI St170.enc GramChoice.ty Y, rowI 3 intT l3]⟩ ?_
 refine En.ch h (fun h => ?_) (fun h => ?_)
 refine En.exit rfl ?_
 exact En.at (I := fun zz => J zz.1 zz.2) (T := fun zz => ⟨[qab2 Bk, qab3 signs, sl 2 (I i), sl 3 (I j), sl 10 (I zz.1), qab4, sl 12 (I e), sl 13 (I x13)], [qab0 g w, mapI St170.enc intT E, mapI St170.enc GramChoice.ty Y, rowI 3 intT zz.2]⟩) (x10, l3) h (by kernel_rfl)
 refine En.skip ?_
 refine En.sr ?_
 refine WL.r ht hn 2 ⟨[qab2 Bk, qab3 signs, sl 2 (I i), sl 3 (I j), sl 10 (I x10), qab4, sl 12 (I e), sl 13 (I x13), sl 14 (I x14), sl 68 (.ptr 0 0), sl 69 (LS intT signs)], [qab0 g w, mapI St170.enc intT E, mapI St170.enc GramChoice.ty Y, rowI 3 intT l3]⟩ ?_
 obtain ⟨hp, h⟩ := h
 refine WL.v hn (val_slice (T := intT) (l := signs) (lv := 1) (hv := (signs.length : Int)) ht rfl (by rfl) (by rfl) (by rfl) (by rfl) (by rfl) (by rfl) (by rfl) hp) ?_
 refine WL.r ht hn 2 ⟨[qab2 Bk, qab3 signs, sl 2 (I i), sl 3 (I j), sl 10 (I x10), qab4, sl 12 (I e), sl 13 (I x13), sl 14 (I x14), sl 68 (.ptr 0 0), sl 70 (LS intT ((signs.take ((signs.length : Int) : Int).toNat).drop (1 : Int).toNat)), sl 71 (I x13), sl 72 (I j)], [qab0 g w, mapI St170.enc intT E, mapI St170.enc GramChoice.ty Y, rowI 3 intT l3]⟩ ?_
 obtain ⟨hp, h⟩ := h
 refine WL.cE (ih ((signs.take ((signs.length : Int) : Int).toNat).drop (1 : Int).toNat) x13 j hp) en91 [0, 1, 2] hn rfl ?_
 refine WL.rn ht hn 5 ⟨[qab2 Bk, qab3 signs, sl 2 (I i), sl 3 (I j), sl 10 (I x10), qab4, sl 12 (I e), sl 13 (I x13), sl 14 (I x14), sl 15 (I (qab1 g w E signs j x13).1), sl 16 (LS intT (qab1 g w E signs j x13).2)], [qab0 g w, mapI St170.enc intT E, mapI St170.enc GramChoice.ty Y, rowI 3 intT l3]⟩ ?_
 refine En.sr ?_
 refine WL.rn ht hn 5 ⟨[qab2 Bk, qab3 signs, sl 2 (I i), sl 3 (I j), sl 10 (I x10), qab4, sl 12 (I e), sl 13 (I x13), sl 14 (I x14), sl 15 (I (qab1 g w E signs j x13).1), sl 16 (LS intT (qab1 g w E signs j x13).2), sl 80 (B (decide ((wr (x14 + (qab1 g w E signs j x13).1)) < x10)))], [qab0 g w, mapI St170.enc intT E, mapI St170.enc GramChoice.ty Y, rowI 3 intT l3]⟩ ?_
 refine En.ch h (fun h => ?_) (fun h => ?_)
 refine En.region ?_
 refine WL.r ht hn 4 ⟨[qab2 Bk, qab3 signs, sl 2 (I i), sl 3 (I j), sl 12 (I e), sl 13 (I x13), sl 16 (LS intT (qab1 g w E signs j x13).2), sl 83 (I (wr (x14 + (qab1 g w E signs j x13).1))), sl 84 (I x13)], [qab0 g w, mapI St170.enc intT E, mapI St170.enc GramChoice.ty Y, .gone]⟩ ?_
 refine WL.mt0 (K := []) (p := some (4, rowI 3 intT ([x13] : List Int))) hn (by rfl) (mt_lit (T := intT) ([x13] : List Int) (mt_bsl 4 (r := cellsOf intT ([x13] : List Int)) ht rfl (by rfl) (by rfl) (by rfl) (by kernel_rfl) (by rfl)) (fun _ h => by cases h) (fun _ => rfl) (fun _ => rfl) (by rfl) (Nat.le_of_ble_eq_true rfl)) (by rfl) (by rfl) (by rfl) ?_
 refine WL.r ht hn 1 ⟨[qab2 Bk, qab3 signs, sl 2 (I i), sl 3 (I j), sl 12 (I e), sl 13 (I x13), sl 83 (I (wr (x14 + (qab1 g w E signs j x13).1))), sl 85 (.own 4), sl 86 (LS intT (qab1 g w E signs j x13).2)], [qab0 g w, mapI St170.enc intT E, mapI St170.enc GramChoice.ty Y, .gone, rowI 3 intT ([x13] : List Int)]⟩ ?_
 obtain ⟨hp, h⟩ := h
 refine WL.mt (S2 := ⟨[qab2 Bk, qab3 signs, sl 2 (I i), sl 3 (I j), sl 12 (I e), sl 13 (I x13), sl 83 (I (wr (x14 + (qab1 g w E signs j x13).1))), sl 86 (LS intT (qab1 g w E signs j x13).2)], [qab0 g w, mapI St170.enc intT E, mapI St170.enc GramChoice.ty Y, .gone, rowI 3 intT ([x13] : List Int)]⟩) (K := [4]) (p := some (4, rowI 3 intT (([x13] : List Int) ++ (qab1 g w E signs j x13).2))) hn (by rfl) (mt_append (T := intT) (l := ([x13] : List Int)) (es := (qab1 g w E signs j x13).2) ht rfl (by rfl) (by rfl) (by rfl) (by rfl) (by decide) (by rfl) (by rfl) (srcLS (T := intT) (es := (qab1 g w E signs j x13).2) (fun _ h => by cases h) (by decide) (by rfl)) (by exact hp) (by exact hp.le (by decide))) (by kernel_rfl) (by rfl) (by rfl) (by rfl) ?_
 refine WL.rn ht hn 2 ⟨[qab2 Bk, qab3 signs, sl 2 (I i), sl 3 (I j), sl 10 (I (wr (x14 + (qab1 g w E signs j x13).1))), sl 11 (.own 4), sl 12 (I e), sl 13 (I x13)], [qab0 g w, mapI St170.enc intT E, mapI St170.enc GramChoice.ty Y, .gone, rowI 3 intT (([x13] : List Int) ++ (qab1 g w E signs j x13).2)]⟩ ?_
 refine En.move 4 3 (by rfl) (by rfl) ?_
 exact En.at (I := fun zz => J zz.1 zz.2) (T := fun zz => ⟨[qab2 Bk, qab3 signs, sl 2 (I i), sl 3 (I j), sl 10 (I zz.1), qab4, sl 12 (I e), sl 13 (I x13)], [qab0 g w, mapI St170.enc intT E, mapI St170.enc GramChoice.ty Y, rowI 3 intT zz.2]⟩) ((wr (x14 + (qab1 g w E signs j x13).1)), (([x13] : List Int) ++ (qab1 g w E signs j x13).2)) h (by kernel_rfl)
 refine En.skip ?_
 exact En.at (I := fun zz => J zz.1 zz.2) (T := fun zz => ⟨[qab2 Bk, qab3 signs, sl 2 (I i), sl 3 (I j), sl 10 (I zz.1), qab4, sl 12 (I e), sl 13 (I x13)], [qab0 g w, mapI St170.enc intT E, mapI St170.enc GramChoice.ty Y, rowI 3 intT zz.2]⟩) (x10, l3) h (by kernel_rfl)
 rintro ⟨x10_2, l3_2⟩ h
 replace h := hJ _ _ h
 show En c ⟨[qab2 Bk, qab3 signs, sl 2 (I i), sl 3 (I j), sl 10 (I x10_2), qab4, sl 12 (I e), sl 13 (I x13)], [qab0 g w, mapI St170.enc intT E, mapI St170.enc GramChoice.ty Y, rowI 3 intT l3_2]⟩ _
 refine En.region ?_
 refine WL.rn ht hn 3 ⟨[qab2 Bk, qab3 signs, sl 2 (I i), sl 3 (I j), sl 10 (I x10_2), qab4, sl 12 (I e), sl 13 (I (wr (x13 + 1)))], [qab0 g w, mapI St170.enc intT E, mapI St170.enc GramChoice.ty Y, rowI 3 intT l3_2]⟩ ?_
 exact En.at (I := fun zz => Inv zz.1 zz.2.1 zz.2.2 ∧ mu zz.1 zz.2.1 zz.2.2 < mu x10 x13 l3) (T := fun zz => ⟨[qab2 Bk, qab3 signs, sl 2 (I i), sl 3 (I j), sl 10 (I zz.1), qab4, sl 12 (I e), sl 13 (I zz.2.1)], [qab0 g w, mapI St170.enc intT E, mapI St170.enc GramChoice.ty Y, rowI 3 intT zz.2.2]⟩) (x10_2, (wr (x13 + 1)), l3_2) h (by kernel_rfl)
 refine En.exit rfl ?_
 refine En.sr ?_
 refine WL.rn ht hn 4 ⟨[qab2 Bk, sl 8 (I x10), sl 9 (.own 3)], [qab0 g w, mapI St170.enc intT E, mapI St170.enc GramChoice.ty Y, rowI 3 intT l3]⟩ ?_
 refine En.ret ?_
 refine En.seal (T := intT) (l := l3) (e := 3) 3 rfl ?_
 exact En.backE [0] ht (x10, l3) h (by kernel_rfl) (by rfl) rfl
theorem cRow_ok {g : ApiGrammar} {w : List Int} {E : (List (St170 × Int))} {Y : (List (St170 × GramChoice))} {signs : List Int} {i j : Int} {n : Nat} (hp : RowPre g w E signs i j (n + 1)) : cRow_vc g w E Y signs i j n (fun r => r = rowC g w E signs i j) := by
 obtain ⟨hf, h0, hm, hj, hw, hE, hgl, hsg, hsl⟩ := hp
 unfold cRow_vc
 intro _
 cases signs with
 | nil =>
  refine ⟨fun _ => ⟨fun h => ?_, fun h => ?_⟩, fun h => (by cases h)⟩
  ·rw [rowC, if_pos (by simpa using h)]
  ·rw [rowC, if_neg (by simpa using h)]
 | cons s rest =>
  have hs := hsg s List.mem_cons_self
  have hrs : ∀ x ∈ rest, 0 ≤ x ∧ x < 10 := fun x hx => hsg x (List.mem_cons_of_mem _ hx)
  simp only [List.length_cons] at hsl hf
  refine ⟨fun h => ?_, fun _ => ⟨s, rfl, ?_⟩⟩
  ·rw [beq_iff_eq, List.length_cons] at h
   omega
  have hR : rowC g w E (s :: rest) i j = (List.range (j - i + 1).toNat).foldl (fun acc (t : Nat) => rstep (headC g w E s i (i + (t : Int))) (rowC g w E rest (i + (t : Int)) j) (i + (t : Int)) acc) (1099511627776, []) := by rw [rowC]
  rw [hR]
  refine ⟨fun best k ends => ∃ t : Nat, k = i + t ∧ t ≤ (j - i + 1).toNat ∧ (best, ends) = (List.range t).foldl (fun acc (t : Nat) => rstep (headC g w E s i (i + (t : Int))) (rowC g w E rest (i + (t : Int)) j) (i + (t : Int)) acc) (1099511627776, []), fun _ k _ => (j + 1 - k).toNat, ⟨0, (Int.add_zero _).symm, Nat.zero_le _, rfl⟩, ?_⟩
  rintro best k ends ⟨t, rfl, ht, hF⟩
  rw [drop_one]
  refine ⟨fun hb => ?_, fun hb => ?_⟩
  ·have hb := of_decide_eq_true hb
   have hh := headC_le (g := g) (w := w) hE s i (i + (t : Int))
   have hr := rowC_le (g := g) (w := w) hE rest (i + (t : Int)) j
   refine ⟨fun b e => (b, e) = rstep (headC g w E s i (i + (t : Int))) (rowC g w E rest (i + (t : Int)) j) (i + (t : Int)) (best, ends), ⟨fun x => x = headC g w E s i (i + (t : Int)), ⟨fun h => ?_, fun h => ?_⟩, ?_⟩, ?_⟩
   ·have h := of_decide_eq_true h
    rw [wr_in (by omega) (by omega)]
    unfold headC
    rw [if_pos h]
   ·have h := of_decide_eq_false h
    have hk : headC g w E s i (i + (t : Int)) = if i + (t : Int) = i + 1 ∧ idx w i = some s then 0 else 1099511627776 := by unfold headC; rw [if_neg h]
    rw [hk, wr_in (by omega) (by omega)]
    refine ⟨fun x => x = decide (i + (t : Int) = i + 1 ∧ idx w i = some s), ⟨fun h1 => ?_, fun h1 => ?_⟩, ?_⟩
    ·have h1 : i + (t : Int) = i + 1 := by simpa using h1
     obtain ⟨e, he⟩ : ∃ e, idx w i = some e := by
      have hlt : i.toNat < w.length := by omega
      have := idx_at hlt
      rw [Int.toNat_of_nonneg h0] at this
      exact ⟨_, this⟩
     refine ⟨e, he, ?_⟩
     show (e == s) = decide (_ ∧ _)
     rw [he, Bool.eq_iff_iff, beq_iff_eq, decide_eq_true_iff]
     exact ⟨fun h2 => ⟨h1, by rw [h2]⟩, fun h2 => Option.some.inj h2.2⟩
    ·have h1 : ¬ i + (t : Int) = i + 1 := by simpa using h1
     exact (decide_eq_false fun h2 => h1 h2.1).symm
    ·rintro _ rfl
     refine ⟨fun h1 => ?_, fun h1 => ?_⟩
     ·rw [if_pos (of_decide_eq_true h1)]
     ·rw [if_neg (of_decide_eq_false h1)]
   ·rintro _ rfl
    refine ⟨fun h1 => ?_, fun h1 => ⟨⟨by omega, by simp only [List.length_cons]; omega, by omega⟩, ⟨by omega, by omega, hb, hj, hw, hE, hgl, hrs, by omega⟩, ?_⟩⟩
    ·unfold rstep
     rw [if_pos (by simpa using h1)]
    ·have h1 : ¬ headC g w E s i (i + (t : Int)) = 1099511627776 := by simpa using h1
     rw [wr_in (by omega) (by omega)]
     unfold rstep
     rw [if_neg h1]
     refine ⟨fun h2 => ⟨capOk_of (by simp only [List.length_cons, List.length_nil]; omega), ?_⟩, fun h2 => ?_⟩
     ·rw [if_pos (of_decide_eq_true h2)]
      rfl
     ·rw [if_neg (of_decide_eq_false h2)]
   ·rintro b e hbe
    refine ⟨⟨t + 1, ?_, by omega, ?_⟩, ?_⟩
    ·rw [wr_in (by omega) (by omega)]
     omega
    ·rw [List.range_succ, List.foldl_append, ← hF, hbe]
     rfl
    ·show (j + 1 - wr (i + (t : Int) + 1)).toNat < (j + 1 - (i + (t : Int))).toNat
     rw [wr_in (by omega) (by omega)]
     omega
  ·have hb := of_decide_eq_false hb
   obtain rfl : t = (j - i + 1).toNat := by omega
   exact hF
theorem rowAllC (g : ApiGrammar) (w : List Int) (E : List (St170 × Int)) (Y : List (St170 × GramChoice)) : ∀ n, RowC g w E Y n
 | 0 => fun _ _ _ h => absurd h.fuel (Nat.not_lt_zero _)
 | n + 1 => fun signs i j h => (cRow_walk g w E Y signs i j n (rowAllC g w E Y n) _ (cRow_ok h)).imp fun r hr => ⟨(), trivial, by subst hr; rfl, by subst hr; rfl⟩
theorem cRow_ct (g : ApiGrammar) (w : List Int) (E : List (St170 × Int)) (Y : List (St170 × GramChoice)) (signs : List Int) (i j : Int) (hp : RowPre g w E signs i j 4) : CtE 91 [.sv (.one (.ptr 0 0)), .sv (.one (LS intT signs)), .sv (.one (I i)), .sv (.one (I j))] [.box [I g.fLetters, I g.fNames, LS ApiMake.ty g.fMakes, LS intT w, .own 1, .own 2] 173 false, mapI St170.enc intT E, mapI St170.enc GramChoice.ty Y] [0] (fun (_ : Unit) => True) (fun _ => .tup [.one (I (rowC g w E signs i j).1), .one (LS intT (rowC g w E signs i j).2)]) (fun _ => [.box [I g.fLetters, I g.fNames, LS ApiMake.ty g.fMakes, LS intT w, .own 1, .own 2] 173 false, mapI St170.enc intT E, mapI St170.enc GramChoice.ty Y]) := rowAllC g w E Y 4 signs i j hp
def cTed_vc (g : ApiGrammar) (w : List Int) (Q : (List (St170 × Int)) × (List (St170 × GramChoice)) → Prop) : Prop :=
 g.fMakes.length ≤ 9223372036854775807 →
 w.length ≤ 9223372036854775807 →
 (∃ (Inv : Int → (List (St170 × Int)) → (List (St170 × GramChoice)) → Prop) (mu : Int → (List (St170 × Int)) → (List (St170 × GramChoice)) → Nat), Inv 0 ([] : List (St170 × Int)) ([] : List (St170 × GramChoice)) ∧
 ∀ (x6 : Int) (m1 : List (St170 × Int)) (m2 : List (St170 × GramChoice)) , Inv x6 m1 m2 → (IfP (decide (x6 ≤ (w.length : Int))) (∃ (Inv_2 : Bool → (List (St170 × Int)) → (List (St170 × GramChoice)) → Prop) (mu_2 : Bool → (List (St170 × Int)) → (List (St170 × GramChoice)) → Nat), Inv_2 true m1 m2 ∧
 ∀ (x7 : Bool) (m1_2 : List (St170 × Int)) (m2_2 : List (St170 × GramChoice)) , Inv_2 x7 m1_2 m2_2 → (IfP x7 (∃ (Inv_3 : Bool → Int → (List (St170 × Int)) → (List (St170 × GramChoice)) → Prop) (mu_3 : Bool → Int → (List (St170 × Int)) → (List (St170 × GramChoice)) → Nat), Inv_3 false 0 m1_2 m2_2 ∧
 ∀ (x7_2 : Bool) (x8 : Int) (m1_3 : List (St170 × Int)) (m2_3 : List (St170 × GramChoice)) , Inv_3 x7_2 x8 m1_3 m2_3 → (IfP (decide ((wr (x8 + x6)) ≤ (w.length : Int))) (∃ (Inv_4 : Bool → Int → (List (St170 × Int)) → (List (St170 × GramChoice)) → Prop) (mu_4 : Bool → Int → (List (St170 × Int)) → (List (St170 × GramChoice)) → Nat), Inv_4 x7_2 0 m1_3 m2_3 ∧
 ∀ (x7_3 : Bool) (x38 : Int) (m1_4 : List (St170 × Int)) (m2_4 : List (St170 × GramChoice)) , Inv_4 x7_3 x38 m1_4 m2_4 → (IfP (decide (x38 < (g.fMakes.length : Int))) (∃ J : Bool → (List (St170 × Int)) → (List (St170 × GramChoice)) → Prop, (∃ e, idx g.fMakes x38 = some e ∧
 (RowPre g w m1_4 e.fTo x8 (wr (x8 + x6)) 4) ∧
 ∃ J_2 : Bool → Prop, (IfP (decide ((rowC g w m1_4 e.fTo x8 (wr (x8 + x6))).1 < 1099511627776)) (J_2 (decide ((wr ((rowC g w m1_4 e.fTo x8 (wr (x8 + x6))).1 + 1)) < (ofC m1_4 e.fFrom x8 (wr (x8 + x6)))))) (J_2 false)) ∧
 (∀ (x75 : Bool), J_2 x75 → IfP x75 (J true (mput (St170.mk e.fFrom x8 (wr (x8 + x6))) (if 1099511627775 < (wr ((rowC g w m1_4 e.fTo x8 (wr (x8 + x6))).1 + 1)) then 1099511627775 else (wr ((rowC g w m1_4 e.fTo x8 (wr (x8 + x6))).1 + 1))) (mput (St170.mk e.fFrom x8 (wr (x8 + x6))) ((mget (St170.mk e.fFrom x8 (wr (x8 + x6))) m1_4).getD (0 : Int)) m1_4)) (mput (St170.mk e.fFrom x8 (wr (x8 + x6))) (GramChoice.mk x38 (rowC g w m1_4 e.fTo x8 (wr (x8 + x6))).2) (mput (St170.mk e.fFrom x8 (wr (x8 + x6))) ((mget (St170.mk e.fFrom x8 (wr (x8 + x6))) m2_4).getD (GramChoice.mk (0 : Int) [])) m2_4))) (J x7_3 m1_4 m2_4))) ∧
 (∀ (x7_4 : Bool) (m1_5 : List (St170 × Int)) (m2_5 : List (St170 × GramChoice)), J x7_4 m1_5 m2_5 → (Inv_4 x7_4 (wr (x38 + 1)) m1_5 m2_5 ∧ mu_4 x7_4 (wr (x38 + 1)) m1_5 m2_5 < mu_4 x7_3 x38 m1_4 m2_4))) ((Inv_3 x7_3 (wr (x8 + 1)) m1_4 m2_4 ∧ mu_3 x7_3 (wr (x8 + 1)) m1_4 m2_4 < mu_3 x7_2 x8 m1_3 m2_3)))) ((Inv_2 x7_2 m1_3 m2_3 ∧ mu_2 x7_2 m1_3 m2_3 < mu_2 x7 m1_2 m2_2)))) ((Inv (wr (x6 + 1)) m1_2 m2_2 ∧ mu (wr (x6 + 1)) m1_2 m2_2 < mu x6 m1 m2)))) (Q (m1, m2))))
noncomputable abbrev qac0 (g : ApiGrammar) (w : List Int) := (.box [I g.fLetters, I g.fNames, LS ApiMake.ty g.fMakes, LS intT w, .own 1, .own 2] 173 false : Item)
noncomputable abbrev qac1 (y0) (y1 : Int) (y2 : Int) := (St170.mk y0 y1 (wr (y1 + y2)))
noncomputable abbrev qac2 (g : ApiGrammar) := sl 37 (I (g.fMakes.length : Int))
noncomputable abbrev qac3 (g : ApiGrammar) := sl 36 (LS ApiMake.ty g.fMakes)
noncomputable abbrev qac4 := sl 2 (.ptr 0 0)
noncomputable abbrev qac5 := sl 5 (.ptr 3 0)
noncomputable abbrev qac6 (g : ApiGrammar) := (ApiGrammar.cl g)
noncomputable abbrev qac7 (g : ApiGrammar) (w : List Int) (y0) (y1) (y2 : Int) (y3 : Int) := sl 12 (LS intT (rowC g w y0 y1 y2 (wr (y2 + y3))).2)
noncomputable abbrev qac8 := (GramChoice.mk (0 : Int) [])
noncomputable abbrev qac9 (w : List Int) := sl 1 (LS intT w)
noncomputable abbrev qac10 (y0) (y1 : Int) (y2 : Int) := (.box [I y0, I y1, I (wr (y1 + y2))] 170 false : Item)
noncomputable abbrev qac11 (g : ApiGrammar) (w : List Int) (y0) (y1) (y2) (y3) (y4) := ([.box (qac6 g) 37 false, mapI St170.enc intT y0, mapI St170.enc GramChoice.ty y1, (qac0 g w), .gone, (qac10 y2 y3 y4)] : List Item)
noncomputable abbrev qac12 (g : ApiGrammar) (w : List Int) (y0) (y1) (y2 : Int) (y3 : Int) := sl 90 (LS intT (rowC g w y0 y1 y2 (wr (y2 + y3))).2)
noncomputable abbrev qac13 (g : ApiGrammar) (w : List Int) (y0) (y1) := ([.box (qac6 g) 37 false, mapI St170.enc intT y0, mapI St170.enc GramChoice.ty y1, (qac0 g w)] : List Item)
noncomputable abbrev qac14 := sl 84 (.own 2)
noncomputable abbrev qac15 (g : ApiGrammar) (w : List Int) (y0) (y1) := ([.box (qac6 g) 37 false, mapI St170.enc intT y0, mapI St170.enc GramChoice.ty y1, (qac0 g w)] : List Item)
noncomputable abbrev qac16 := sl 13 (.ptr 5 0)
noncomputable abbrev qac17 (y0 : Int) (y1 : Int) := (wr (y0 + y1))
noncomputable abbrev qac18 (g : ApiGrammar) (w : List Int) (y0) (y1) := ([.box (qac6 g) 37 false, mapI St170.enc intT y0, mapI St170.enc GramChoice.ty y1, (qac0 g w)] : List Item)
noncomputable abbrev qac19 (g : ApiGrammar) (w : List Int) (y0) (y1) (y2) (y3) := sl 11 (I (rowC g w y0 y1 y2 (qac17 y2 y3)).1)
noncomputable abbrev qac20 (g : ApiGrammar) (w : List Int) (y0) (y1) := ([.box (qac6 g) 37 false, mapI St170.enc intT y0, mapI St170.enc GramChoice.ty y1, (qac0 g w)] : List Item)
noncomputable abbrev qac21 := sl 79 (.own 1)
noncomputable abbrev qac22 (g : ApiGrammar) (w : List Int) (y0) (y1) (y2) := ([.box (qac6 g) 37 false, mapI St170.enc intT y0, mapI St170.enc GramChoice.ty y1, (qac0 g w), .box (ApiMake.cl y2) 39 false] : List Item)
noncomputable abbrev qac23 := (St170 × GramChoice)
set_option maxHeartbeats 2000000 in
theorem cTed_walk (g : ApiGrammar) (w : List Int) (Q : (List (St170 × Int)) × (List (St170 × GramChoice)) → Prop) (h : cTed_vc g w Q) : CtE 45 [.sv (.agg [I g.fLetters, I g.fNames, LS ApiMake.ty g.fMakes]), .sv (.one (LS intT w))] [] [] Q (fun (r : (List (St170 × Int)) × (List (St170 × GramChoice))) => .sv (.one (.ptr 0 0))) (fun (r : (List (St170 × Int)) × (List (St170 × GramChoice))) => [.box [I g.fLetters, I g.fNames, LS ApiMake.ty g.fMakes, LS intT w, .own 1, .own 2] 173 false, mapI St170.enc intT r.1, mapI St170.enc GramChoice.ty r.2]) := by
 have ht := tab_ok
 refine CtE.body Try.func45 rfl rfl rfl (by kernel_rfl) (by kernel_rfl) (fun c Bk hn => ?_)
 unfold cTed_vc at h
 show En c ⟨[(0, .sv (.agg (qac6 g))), qac9 w], []⟩ _
 refine En.lenA 0 2 (by rfl) (by rfl) (fun hl => ?_)
 replace h := h hl
 clear hl
 refine En.lenL 1 (by rfl) (fun hl => ?_)
 replace h := h hl
 clear hl
 refine En.sr ?_
 refine WL.rn ht hn 2 ⟨[qac9 w, qac4], [.box (qac6 g) 37 false]⟩ ?_
 refine En.sr ?_
 refine WL.r ht hn 2 ⟨[qac9 w, qac4, (14, .sv (.agg (qac6 g))), sl 15 (LS intT w)], [.box (qac6 g) 37 false]⟩ ?_
 refine WL.mt0 (K := []) (p := some (1, mapI St170.enc intT ([] : List (St170 × Int)))) hn (by rfl) (mt_makeMap St170.enc intT 1 rfl) (by rfl) (by rfl) (by rfl) ?_
 refine WL.mt0 (K := []) (p := some (2, mapI St170.enc GramChoice.ty ([] : List qac23))) hn (by rfl) (mt_makeMap St170.enc GramChoice.ty 2 rfl) (by rfl) (by rfl) (by rfl) ?_
 refine WL.rn ht hn 3 ⟨[qac9 w, qac4, qac5], [.box (qac6 g) 37 false, mapI St170.enc intT ([] : List (St170 × Int)), mapI St170.enc GramChoice.ty ([] : List qac23), qac0 g w]⟩ ?_
 refine En.seq ?_
 refine En.sr ?_
 refine WL.rn ht hn 1 ⟨[qac9 w, qac4, qac5, sl 6 (I 0)], [.box (qac6 g) 37 false, mapI St170.enc intT ([] : List (St170 × Int)), mapI St170.enc GramChoice.ty ([] : List qac23), qac0 g w]⟩ ?_
 refine En.block ?_
 obtain ⟨Inv, mu, h0_4, hI_4⟩ := h
 refine En.loop (σ := Int × (List (St170 × Int)) × (List qac23)) (fun zz => Inv zz.1 zz.2.1 zz.2.2) (fun zz => mu zz.1 zz.2.1 zz.2.2) (fun zz => ⟨[qac9 w, qac4, qac5, sl 6 (I zz.1)], (qac13 g w zz.2.1 zz.2.2)⟩) (0, ([] : List (St170 × Int)), ([] : List qac23)) h0_4 (sub_ok (by kernel_rfl)) ?_
 rintro ⟨x6, m1, m2⟩ h
 replace h := hI_4 _ _ _ h
 show En c ⟨[qac9 w, qac4, qac5, sl 6 (I x6)], [.box (qac6 g) 37 false, mapI St170.enc intT m1, mapI St170.enc GramChoice.ty m2, qac0 g w]⟩ _
 refine En.seq ?_
 refine En.sr ?_
 refine WL.rn ht hn 4 ⟨[qac9 w, qac4, qac5, sl 6 (I x6), sl 23 (B (decide (x6 ≤ (w.length : Int))))], [.box (qac6 g) 37 false, mapI St170.enc intT m1, mapI St170.enc GramChoice.ty m2, qac0 g w]⟩ ?_
 refine En.ch h (fun h => ?_) (fun h => ?_)
 refine En.skip ?_
 refine En.seq ?_
 refine En.block ?_
 refine En.sr ?_
 refine WL.rn ht hn 1 ⟨[qac9 w, qac4, qac5, sl 6 (I x6), sl 7 (B true)], [.box (qac6 g) 37 false, mapI St170.enc intT m1, mapI St170.enc GramChoice.ty m2, qac0 g w]⟩ ?_
 refine En.block ?_
 obtain ⟨Inv_2, mu_2, h0_3, hI_3⟩ := h
 refine En.loop (σ := Bool × (List (St170 × Int)) × (List qac23)) (fun zz => Inv_2 zz.1 zz.2.1 zz.2.2) (fun zz => mu_2 zz.1 zz.2.1 zz.2.2) (fun zz => ⟨[qac9 w, qac4, qac5, sl 6 (I x6), sl 7 (B zz.1)], (qac13 g w zz.2.1 zz.2.2)⟩) (true, m1, m2) h0_3 (sub_ok (by kernel_rfl)) ?_
 rintro ⟨x7, m1_2, m2_2⟩ h
 replace h := hI_3 _ _ _ h
 show En c ⟨[qac9 w, qac4, qac5, sl 6 (I x6), sl 7 (B x7)], (qac15 g w m1_2 m2_2)⟩ _
 refine En.seq ?_
 refine En.sr ?_
 refine WL.rn ht hn 1 ⟨[qac9 w, qac4, qac5, sl 6 (I x6), sl 26 (B x7)], (qac15 g w m1_2 m2_2)⟩ ?_
 refine En.ch h (fun h => ?_) (fun h => ?_)
 refine En.skip ?_
 refine En.block ?_
 refine En.sr ?_
 refine WL.rn ht hn 1 ⟨[qac9 w, qac4, qac5, sl 6 (I x6), sl 7 (B false)], (qac15 g w m1_2 m2_2)⟩ ?_
 refine En.sr ?_
 refine WL.rn ht hn 1 ⟨[qac9 w, qac4, qac5, sl 6 (I x6), sl 7 (B false), sl 8 (I 0)], (qac15 g w m1_2 m2_2)⟩ ?_
 refine En.block ?_
 obtain ⟨Inv_3, mu_3, h0_2, hI_2⟩ := h
 refine En.loop (σ := Bool × Int × (List (St170 × Int)) × (List qac23)) (fun zz => Inv_3 zz.1 zz.2.1 zz.2.2.1 zz.2.2.2) (fun zz => mu_3 zz.1 zz.2.1 zz.2.2.1 zz.2.2.2) (fun zz => ⟨[qac9 w, qac4, qac5, sl 6 (I x6), sl 7 (B zz.1), sl 8 (I zz.2.1)], (qac20 g w zz.2.2.1 zz.2.2.2)⟩) (false, 0, m1_2, m2_2) h0_2 (sub_ok (by kernel_rfl)) ?_
 rintro ⟨x7_2, x8, m1_3, m2_3⟩ h
 replace h := hI_2 _ _ _ _ h
 show En c ⟨[qac9 w, qac4, qac5, sl 6 (I x6), sl 7 (B x7_2), sl 8 (I x8)], [.box (qac6 g) 37 false, mapI St170.enc intT m1_3, mapI St170.enc GramChoice.ty m2_3, qac0 g w]⟩ _
 refine En.seq ?_
 refine En.sr ?_
 refine WL.rn ht hn 6 ⟨[qac9 w, qac4, qac5, sl 6 (I x6), sl 7 (B x7_2), sl 8 (I x8), sl 32 (B (decide ((qac17 x8 x6) ≤ (w.length : Int))))], [.box (qac6 g) 37 false, mapI St170.enc intT m1_3, mapI St170.enc GramChoice.ty m2_3, qac0 g w]⟩ ?_
 refine En.ch h (fun h => ?_) (fun h => ?_)
 refine En.skip ?_
 refine En.seq ?_
 refine En.block ?_
 refine En.sr ?_
 refine WL.rn ht hn 4 ⟨[qac9 w, qac4, qac5, sl 6 (I x6), sl 7 (B x7_2), sl 8 (I x8), qac3 g, qac2 g, sl 38 (I 0)], [.box (qac6 g) 37 false, mapI St170.enc intT m1_3, mapI St170.enc GramChoice.ty m2_3, qac0 g w]⟩ ?_
 refine En.block ?_
 obtain ⟨Inv_4, mu_4, h0, hI⟩ := h
 refine En.loop (σ := Bool × Int × (List (St170 × Int)) × (List qac23)) (fun zz => Inv_4 zz.1 zz.2.1 zz.2.2.1 zz.2.2.2) (fun zz => mu_4 zz.1 zz.2.1 zz.2.2.1 zz.2.2.2) (fun zz => ⟨[qac9 w, qac4, qac5, sl 6 (I x6), sl 7 (B zz.1), sl 8 (I x8), qac3 g, qac2 g, sl 38 (I zz.2.1)], (qac20 g w zz.2.2.1 zz.2.2.2)⟩) (x7_2, 0, m1_3, m2_3) h0 (sub_ok (by kernel_rfl)) ?_
 rintro ⟨x7_3, x38, m1_4, m2_4⟩ h
 replace h := hI _ _ _ _ h
 show En c ⟨[qac9 w, qac4, qac5, sl 6 (I x6), sl 7 (B x7_3), sl 8 (I x8), qac3 g, qac2 g, sl 38 (I x38)], (qac18 g w m1_4 m2_4)⟩ _
 refine En.sr ?_
 refine WL.rn ht hn 1 ⟨[qac9 w, qac4, qac5, sl 6 (I x6), sl 7 (B x7_3), sl 8 (I x8), qac3 g, qac2 g, sl 38 (I x38), sl 39 (B (decide (x38 < (g.fMakes.length : Int))))], (qac18 g w m1_4 m2_4)⟩ ?_
 refine En.seq ?_
 refine En.ch h (fun h => ?_) (fun h => ?_)
 refine En.skip ?_
 obtain ⟨J, h, hJ⟩ := h
 refine En.seqJ (σ := Bool × (List (St170 × Int)) × (List qac23)) (fun zz => J zz.1 zz.2.1 zz.2.2) (fun zz => ⟨[qac9 w, qac4, qac5, sl 6 (I x6), sl 7 (B zz.1), sl 8 (I x8), qac3 g, qac2 g, sl 38 (I x38)], (qac13 g w zz.2.1 zz.2.2)⟩) ?_ ?_
 refine En.block ?_
 refine En.sr ?_
 refine WL.r ht hn 1 ⟨[qac9 w, qac4, qac5, sl 6 (I x6), sl 7 (B x7_3), sl 8 (I x8), qac3 g, qac2 g, sl 38 (I x38), sl 40 (I x38)], (qac18 g w m1_4 m2_4)⟩ ?_
 obtain ⟨e, he, h⟩ := h
 refine WL.v hn (val_ix (T := ApiMake.ty) (l := g.fMakes) (i := x38) ht rfl he) ?_
 refine WL.v hn (val_ld (s := .agg (ApiMake.cl e)) ht rfl) ?_
 refine WL.rn ht hn 3 ⟨[qac9 w, qac4, qac5, sl 6 (I x6), sl 7 (B x7_3), sl 8 (I x8), sl 9 (I x38), sl 10 (.ptr 4 0), qac3 g, qac2 g, sl 38 (I x38)], (qac22 g w m1_4 m2_4 e)⟩ ?_
 refine En.sr ?_
 refine WL.r ht hn 7 ⟨[qac9 w, qac4, qac5, sl 6 (I x6), sl 7 (B x7_3), sl 8 (I x8), sl 9 (I x38), sl 10 (.ptr 4 0), qac3 g, qac2 g, sl 38 (I x38), sl 44 (.ptr 3 0), sl 46 (LS intT e.fTo), sl 47 (I x8), sl 50 (I (qac17 x8 x6))], (qac22 g w m1_4 m2_4 e)⟩ ?_
 obtain ⟨hp, h⟩ := h
 refine WL.cE (cRow_ct g w m1_4 m2_4 e.fTo x8 (qac17 x8 x6) hp) en91 [3, 1, 2] hn rfl ?_
 refine WL.rn ht hn 5 ⟨[qac9 w, qac4, qac5, sl 6 (I x6), sl 7 (B x7_3), sl 8 (I x8), sl 9 (I x38), sl 10 (.ptr 4 0), qac19 g w m1_4 e.fTo x8 x6, qac7 g w m1_4 e.fTo x8 x6, qac3 g, qac2 g, sl 38 (I x38)], (qac22 g w m1_4 m2_4 e)⟩ ?_
 refine En.sr ?_
 refine WL.rn ht hn 9 ⟨[qac9 w, qac4, qac5, sl 6 (I x6), sl 7 (B x7_3), sl 8 (I x8), sl 9 (I x38), sl 10 (.ptr 4 0), qac19 g w m1_4 e.fTo x8 x6, qac7 g w m1_4 e.fTo x8 x6, qac16, qac3 g, qac2 g, sl 38 (I x38)], [.box (qac6 g) 37 false, mapI St170.enc intT m1_4, mapI St170.enc GramChoice.ty m2_4, qac0 g w, .box (ApiMake.cl e) 39 false, qac10 e.fFrom x8 x6]⟩ ?_
 obtain ⟨J_2, h, hJ_2⟩ := h
 refine En.seqJ (σ := Bool) (fun zz => J_2 zz) (fun zz => ⟨[qac9 w, qac4, qac5, sl 6 (I x6), sl 7 (B x7_3), sl 8 (I x8), sl 9 (I x38), qac19 g w m1_4 e.fTo x8 x6, qac7 g w m1_4 e.fTo x8 x6, qac16, qac3 g, qac2 g, sl 38 (I x38), sl 75 (B zz)], (qac11 g w m1_4 m2_4 e.fFrom x8 x6)⟩) ?_ ?_
 refine En.region ?_
 refine WL.r ht hn 3 ⟨[qac9 w, qac4, qac5, sl 6 (I x6), sl 7 (B x7_3), sl 8 (I x8), sl 9 (I x38), sl 10 (.ptr 4 0), qac19 g w m1_4 e.fTo x8 x6, qac7 g w m1_4 e.fTo x8 x6, qac16, qac3 g, qac2 g, sl 38 (I x38), sl 63 (B (decide ((rowC g w m1_4 e.fTo x8 (qac17 x8 x6)).1 < 1099511627776)))], [.box (qac6 g) 37 false, mapI St170.enc intT m1_4, mapI St170.enc GramChoice.ty m2_4, qac0 g w, .box (ApiMake.cl e) 39 false, qac10 e.fFrom x8 x6]⟩ ?_
 refine splitB (decide ((rowC g w m1_4 e.fTo x8 (qac17 x8 x6)).1 < 1099511627776)) (fun hb => ?_) (fun hb => ?_)
 replace h := h.1 hb
 refine WL.sB 63 hb ?_
 refine WL.r ht hn 9 ⟨[qac9 w, qac4, qac5, sl 6 (I x6), sl 7 (B x7_3), sl 8 (I x8), sl 9 (I x38), qac19 g w m1_4 e.fTo x8 x6, qac7 g w m1_4 e.fTo x8 x6, qac16, qac3 g, qac2 g, sl 38 (I x38), sl 63 (B true), sl 65 (I (wr ((rowC g w m1_4 e.fTo x8 (qac17 x8 x6)).1 + 1))), sl 66 (.ptr 3 0), sl 68 (I e.fFrom), sl 69 (I x8), sl 72 (I (qac17 x8 x6))], (qac11 g w m1_4 m2_4 e.fFrom x8 x6)⟩ ?_
 refine WL.cE (cOf_ct g w m1_4 m2_4 e.fFrom x8 (qac17 x8 x6)) en46 [3, 1, 2] hn rfl ?_
 refine WL.rn ht hn 2 ⟨[qac9 w, qac4, qac5, sl 6 (I x6), sl 7 (B x7_3), sl 8 (I x8), sl 9 (I x38), qac19 g w m1_4 e.fTo x8 x6, qac7 g w m1_4 e.fTo x8 x6, qac16, qac3 g, qac2 g, sl 38 (I x38), sl 75 (B (decide ((wr ((rowC g w m1_4 e.fTo x8 (qac17 x8 x6)).1 + 1)) < (ofC m1_4 e.fFrom x8 (qac17 x8 x6)))))], (qac11 g w m1_4 m2_4 e.fFrom x8 x6)⟩ ?_
 exact En.at (I := fun zz => J_2 zz) (T := fun zz => ⟨[qac9 w, qac4, qac5, sl 6 (I x6), sl 7 (B x7_3), sl 8 (I x8), sl 9 (I x38), qac19 g w m1_4 e.fTo x8 x6, qac7 g w m1_4 e.fTo x8 x6, qac16, qac3 g, qac2 g, sl 38 (I x38), sl 75 (B zz)], (qac11 g w m1_4 m2_4 e.fFrom x8 x6)⟩) (decide ((wr ((rowC g w m1_4 e.fTo x8 (qac17 x8 x6)).1 + 1)) < (ofC m1_4 e.fFrom x8 (qac17 x8 x6)))) h (by kernel_rfl)
 replace h := h.2 hb
 refine WL.sB 63 hb ?_
 refine WL.rn ht hn 12 ⟨[qac9 w, qac4, qac5, sl 6 (I x6), sl 7 (B x7_3), sl 8 (I x8), sl 9 (I x38), qac19 g w m1_4 e.fTo x8 x6, qac7 g w m1_4 e.fTo x8 x6, qac16, qac3 g, qac2 g, sl 38 (I x38), sl 75 (B false)], (qac11 g w m1_4 m2_4 e.fFrom x8 x6)⟩ ?_
 exact En.at (I := fun zz => J_2 zz) (T := fun zz => ⟨[qac9 w, qac4, qac5, sl 6 (I x6), sl 7 (B x7_3), sl 8 (I x8), sl 9 (I x38), qac19 g w m1_4 e.fTo x8 x6, qac7 g w m1_4 e.fTo x8 x6, qac16, qac3 g, qac2 g, sl 38 (I x38), sl 75 (B zz)], (qac11 g w m1_4 m2_4 e.fFrom x8 x6)⟩) false h (by kernel_rfl)
 intro x75 h
 replace h := hJ_2 _ h
 show En c ⟨[qac9 w, qac4, qac5, sl 6 (I x6), sl 7 (B x7_3), sl 8 (I x8), sl 9 (I x38), qac19 g w m1_4 e.fTo x8 x6, qac7 g w m1_4 e.fTo x8 x6, qac16, qac3 g, qac2 g, sl 38 (I x38), sl 75 (B x75)], (qac11 g w m1_4 m2_4 e.fFrom x8 x6)⟩ _
 refine En.ch h (fun h => ?_) (fun h => ?_)
 refine En.seq ?_
 refine En.openM 1 (by rfl) (fun es ck => ?_)
 refine En.openM 2 (by rfl) (fun es_2 ck_2 => ?_)
 refine En.regionX ⟨[qac9 w, qac4, qac5, sl 6 (I x6), sl 8 (I x8), sl 9 (I x38), qac19 g w m1_4 e.fTo x8 x6, qac7 g w m1_4 e.fTo x8 x6, qac16, qac3 g, qac2 g, sl 38 (I x38)], [.sv (.one (.ptr 3 0)), .sv (.one (.ptr 3 0)), .sv (.one (.ptr 3 4)), .sv (.one (.own 1)), .sv (.agg [I e.fFrom, I x8, I (qac17 x8 x6)]), .sv (.one (.ptr 3 0)), .sv (.one (.ptr 3 0)), .sv (.one (.ptr 3 5)), .sv (.one (.own 2)), .sv (.agg [I e.fFrom, I x8, I (qac17 x8 x6)]), .sv (.one (I (rowC g w m1_4 e.fTo x8 (qac17 x8 x6)).1)), .sv (.one (I (wr ((rowC g w m1_4 e.fTo x8 (qac17 x8 x6)).1 + 1)))), .sv (.one (I (if 1099511627775 < (wr ((rowC g w m1_4 e.fTo x8 (qac17 x8 x6)).1 + 1)) then 1099511627775 else (wr ((rowC g w m1_4 e.fTo x8 (qac17 x8 x6)).1 + 1))))), .sv (.one (I x38)), .sv (.one (LS intT (rowC g w m1_4 e.fTo x8 (qac17 x8 x6)).2)), .sv (.agg [I x38, LS intT (rowC g w m1_4 e.fTo x8 (qac17 x8 x6)).2]), .tup [.one (I ((mget (qac1 e.fFrom x8 x6) m1_4).getD (0 : Int))), .one (I (((stampX (qac1 e.fFrom x8 x6) m1_4 es ck) : Nat) : Int))], .sv (.one (I (((stampX (qac1 e.fFrom x8 x6) m1_4 es ck) : Nat) : Int)))], [⟨.box (qac6 g) 37 false, none, none, none⟩, ⟨mapX St170.enc intT m1_4 es ck, none, none, some (16, mapB St170.enc intT (mput (qac1 e.fFrom x8 x6) ((mget (qac1 e.fFrom x8 x6) m1_4).getD (0 : Int)) m1_4) (qac1 e.fFrom x8 x6) (stampX (qac1 e.fFrom x8 x6) m1_4 es ck))⟩, ⟨mapX St170.enc GramChoice.ty m2_4 es_2 ck_2, none, none, none⟩, ⟨(qac0 g w), none, none, none⟩, ⟨.gone, none, none, none⟩, ⟨(qac10 e.fFrom x8 x6), none, none, none⟩]⟩ 18 [0, 1, 2, 3, 4, 5, 6, 7, 8, 10, 11, 12, 16, 17] [#[tt, tt, tt, tt, tt, tt, tt, tt, tt, ff, tt, tt, tt, ff, ff, ff, tt, tt, ff, ff, ff, ff], #[tt, tt, tt, tt, tt, tt, tt, tt, tt, ff, tt, tt, tt, ff, tt, ff, tt, tt, ff, ff, ff, ff], #[tt, tt, tt, tt, tt, tt, tt, tt, tt, ff, tt, tt, tt, tt, ff, ff, tt, tt, ff, ff, ff, ff], #[tt, tt, tt, tt, tt, tt, tt, tt, tt, ff, tt, tt, tt, tt, tt, ff, tt, tt, ff, ff, ff, ff], #[tt, tt, tt, tt, tt, tt, tt, tt, tt, ff, tt, tt, tt, tt, tt, tt, tt, tt, ff, ff, ff, ff], #[tt, tt, tt, tt, tt, tt, tt, tt, tt, tt, tt, tt, tt, ff, ff, ff, tt, tt, ff, ff, ff, ff], #[tt, tt, tt, tt, tt, tt, tt, tt, tt, tt, tt, tt, tt, ff, tt, ff, tt, tt, ff, ff, ff, ff], #[tt, tt, tt, tt, tt, tt, tt, tt, tt, tt, tt, tt, tt, tt, ff, ff, tt, tt, ff, ff, ff, ff], #[tt, tt, tt, tt, tt, tt, tt, tt, tt, tt, tt, tt, tt, tt, tt, ff, tt, tt, ff, ff, ff, ff], #[tt, tt, tt, tt, tt, tt, tt, tt, tt, tt, tt, tt, tt, tt, tt, tt, tt, tt, ff, ff, ff, ff]] ⟨[qac9 w, qac4, qac5, sl 6 (I x6), sl 8 (I x8), qac3 g, qac2 g, sl 38 (I x38)], [.box (qac6 g) 37 false, mapI St170.enc intT (mput (qac1 e.fFrom x8 x6) (if 1099511627775 < (wr ((rowC g w m1_4 e.fTo x8 (qac17 x8 x6)).1 + 1)) then 1099511627775 else (wr ((rowC g w m1_4 e.fTo x8 (qac17 x8 x6)).1 + 1))) (mput (qac1 e.fFrom x8 x6) ((mget (qac1 e.fFrom x8 x6) m1_4).getD (0 : Int)) m1_4)), mapI St170.enc GramChoice.ty (mput (qac1 e.fFrom x8 x6) (GramChoice.mk x38 (rowC g w m1_4 e.fTo x8 (qac17 x8 x6)).2) (mput (qac1 e.fFrom x8 x6) ((mget (qac1 e.fFrom x8 x6) m2_4).getD qac8) m2_4)), qac0 g w]⟩ (by kernel_rfl) hn (by kernel_rfl) (by kernel_rfl) (by kernel_rfl) (by kernel_rfl) (by rfl) (by kernel_rfl) (by kernel_rfl) ?_ ?_ ?_
 exact ⟨.ev ⟨[qac5], []⟩ ht,
 .ev ⟨[sl 76 (.ptr 3 0)], []⟩ ht,
 .ev ⟨[sl 77 (.ptr 3 0)], []⟩ ht,
 .ev ⟨[sl 78 (.ptr 3 4)], [.gone, .gone, .gone, qac0 g w]⟩ ht,
 .ev ⟨[qac16], [.gone, .gone, .gone, .gone, .gone, qac10 e.fFrom x8 x6]⟩ ht,
 .ev ⟨[qac5], []⟩ ht,
 .ev ⟨[sl 81 (.ptr 3 0)], []⟩ ht,
 .ev ⟨[sl 82 (.ptr 3 0)], []⟩ ht,
 .ev ⟨[sl 83 (.ptr 3 5)], [.gone, .gone, .gone, qac0 g w]⟩ ht,
 .ev ⟨[qac16], [.gone, .gone, .gone, .gone, .gone, qac10 e.fFrom x8 x6]⟩ ht,
 .ev ⟨[qac19 g w m1_4 e.fTo x8 x6], []⟩ ht,
 .ev ⟨[sl 86 (I (rowC g w m1_4 e.fTo x8 (qac17 x8 x6)).1)], []⟩ ht,
 .ev ⟨[sl 87 (I (wr ((rowC g w m1_4 e.fTo x8 (qac17 x8 x6)).1 + 1)))], []⟩ ht,
 .ev ⟨[sl 9 (I x38)], []⟩ ht,
 .ev ⟨[qac7 g w m1_4 e.fTo x8 x6], []⟩ ht,
 .ev ⟨[sl 89 (I x38), qac12 g w m1_4 e.fTo x8 x6], []⟩ ht,
 .me ⟨[qac21, (80, .sv (.agg [I e.fFrom, I x8, I (qac17 x8 x6)]))], [.gone, mapX St170.enc intT m1_4 es ck]⟩ [(1, mapB St170.enc intT (mput (qac1 e.fFrom x8 x6) ((mget (qac1 e.fFrom x8 x6) m1_4).getD (0 : Int)) m1_4) (qac1 e.fFrom x8 x6) (stampX (qac1 e.fFrom x8 x6) m1_4 es ck))] (by kernel_rfl) (by rfl) (me_mapEntry (T := intT) (D := m1_4) (es := es) (ck := ck) St170.keyLaw (k := (qac1 e.fFrom x8 x6)) (0 : Int) (zv := (.int .i64 0)) rfl Try.underlying167 (fun _ => by kernel_rfl) (fun _ => ⟨rfl, trivial⟩) (by rfl) (by rfl) (by rfl) (fun _ => rfl)) rfl rfl rfl ⟨⟨_, rfl, rfl, rfl, rfl, rfl⟩, trivial⟩,
 .ev ⟨[(92, .tup [.one (I ((mget (qac1 e.fFrom x8 x6) m1_4).getD (0 : Int))), .one (I (((stampX (qac1 e.fFrom x8 x6) m1_4 es ck) : Nat) : Int))])], []⟩ ht,
 trivial⟩
 intro N' hF
 refine XsOk.have 0 #[tt, tt, tt, tt, tt, tt, tt, tt, tt, tt, tt, tt, tt, tt, tt, tt, tt, tt, tt, tt, tt, tt] ⟨[qac9 w, qac4, qac5, sl 6 (I x6), sl 8 (I x8), qac3 g, qac2 g, sl 38 (I x38)], [.box (qac6 g) 37 false, mapI St170.enc intT (mput (qac1 e.fFrom x8 x6) (if 1099511627775 < (wr ((rowC g w m1_4 e.fTo x8 (qac17 x8 x6)).1 + 1)) then 1099511627775 else (wr ((rowC g w m1_4 e.fTo x8 (qac17 x8 x6)).1 + 1))) (mput (qac1 e.fFrom x8 x6) ((mget (qac1 e.fFrom x8 x6) m1_4).getD (0 : Int)) m1_4)), mapI St170.enc GramChoice.ty (mput (qac1 e.fFrom x8 x6) (GramChoice.mk x38 (rowC g w m1_4 e.fTo x8 (qac17 x8 x6)).2) (mput (qac1 e.fFrom x8 x6) ((mget (qac1 e.fFrom x8 x6) m2_4).getD qac8) m2_4)), qac0 g w]⟩ (RD.nil (by kernel_rfl) hF) (fun rd30 => ?_)
 refine XsOk.have 1 #[tt, tt, tt, tt, tt, tt, tt, tt, tt, tt, tt, tt, tt, tt, tt, tt, tt, tt, tt, tt, tt, ff] ⟨[qac9 w, qac4, qac5, sl 6 (I x6), sl 8 (I x8), qac3 g, qac2 g, sl 38 (I x38), qac14, (91, .sv (.agg [I x38, LS intT (rowC g w m1_4 e.fTo x8 (qac17 x8 x6)).2])), sl 95 (I (((stampX (qac1 e.fFrom x8 x6) m2_4 es_2 ck_2) : Nat) : Int))], [.box (qac6 g) 37 false, mapI St170.enc intT (mput (qac1 e.fFrom x8 x6) (if 1099511627775 < (wr ((rowC g w m1_4 e.fTo x8 (qac17 x8 x6)).1 + 1)) then 1099511627775 else (wr ((rowC g w m1_4 e.fTo x8 (qac17 x8 x6)).1 + 1))) (mput (qac1 e.fFrom x8 x6) ((mget (qac1 e.fFrom x8 x6) m1_4).getD (0 : Int)) m1_4)), mapB St170.enc GramChoice.ty (mput (qac1 e.fFrom x8 x6) ((mget (qac1 e.fFrom x8 x6) m2_4).getD qac8) m2_4) (qac1 e.fFrom x8 x6) (stampX (qac1 e.fFrom x8 x6) m2_4 es_2 ck_2), qac0 g w]⟩ ?_ (fun rd29 => ?_)
 refine RD.succ [21] (by kernel_rfl) rfl ⟨⟨_, _, _, rfl, ?_, rfl, rd30⟩, trivial⟩
 refine WL.entryStore (T := GramChoice.ty) (k := (qac1 e.fFrom x8 x6)) (y := (GramChoice.mk x38 (rowC g w m1_4 e.fTo x8 (qac17 x8 x6)).2)) hn (by rfl) rfl (by rfl) (by rfl) (by rfl) (by rfl) (by rfl) (by rfl) ?_
 refine WL.nil ?_
 exact sub_ok (by kernel_rfl)
 refine XsOk.have 2 #[tt, tt, tt, tt, tt, tt, tt, tt, tt, tt, tt, tt, tt, tt, tt, ff, tt, tt, tt, tt, tt, ff] ⟨[qac9 w, qac4, qac5, sl 6 (I x6), sl 8 (I x8), qac3 g, qac2 g, sl 38 (I x38), qac14, sl 89 (I x38), qac12 g w m1_4 e.fTo x8 x6, sl 95 (I (((stampX (qac1 e.fFrom x8 x6) m2_4 es_2 ck_2) : Nat) : Int))], [.box (qac6 g) 37 false, mapI St170.enc intT (mput (qac1 e.fFrom x8 x6) (if 1099511627775 < (wr ((rowC g w m1_4 e.fTo x8 (qac17 x8 x6)).1 + 1)) then 1099511627775 else (wr ((rowC g w m1_4 e.fTo x8 (qac17 x8 x6)).1 + 1))) (mput (qac1 e.fFrom x8 x6) ((mget (qac1 e.fFrom x8 x6) m1_4).getD (0 : Int)) m1_4)), mapB St170.enc GramChoice.ty (mput (qac1 e.fFrom x8 x6) ((mget (qac1 e.fFrom x8 x6) m2_4).getD qac8) m2_4) (qac1 e.fFrom x8 x6) (stampX (qac1 e.fFrom x8 x6) m2_4 es_2 ck_2), qac0 g w]⟩ ?_ (fun rd28 => ?_)
 refine RD.succ [15] (by kernel_rfl) rfl ⟨⟨_, _, _, rfl, ?_, rfl, rd29⟩, trivial⟩
 exact WL.rI ht hn
 refine XsOk.have 2 #[tt, tt, tt, tt, tt, tt, tt, tt, tt, tt, tt, tt, tt, tt, tt, tt, tt, tt, tt, tt, ff, ff] ⟨[qac9 w, qac4, qac5, sl 6 (I x6), sl 8 (I x8), qac3 g, qac2 g, sl 38 (I x38), qac14, (91, .sv (.agg [I x38, LS intT (rowC g w m1_4 e.fTo x8 (qac17 x8 x6)).2])), (94, .tup [.agg (GramChoice.cl ((mget (qac1 e.fFrom x8 x6) m2_4).getD qac8)), .one (I (((stampX (qac1 e.fFrom x8 x6) m2_4 es_2 ck_2) : Nat) : Int))])], [.box (qac6 g) 37 false, mapI St170.enc intT (mput (qac1 e.fFrom x8 x6) (if 1099511627775 < (wr ((rowC g w m1_4 e.fTo x8 (qac17 x8 x6)).1 + 1)) then 1099511627775 else (wr ((rowC g w m1_4 e.fTo x8 (qac17 x8 x6)).1 + 1))) (mput (qac1 e.fFrom x8 x6) ((mget (qac1 e.fFrom x8 x6) m1_4).getD (0 : Int)) m1_4)), mapB St170.enc GramChoice.ty (mput (qac1 e.fFrom x8 x6) ((mget (qac1 e.fFrom x8 x6) m2_4).getD qac8) m2_4) (qac1 e.fFrom x8 x6) (stampX (qac1 e.fFrom x8 x6) m2_4 es_2 ck_2), qac0 g w]⟩ ?_ (fun rd27 => ?_)
 refine RD.succ [20] (by kernel_rfl) rfl ⟨⟨_, _, _, rfl, ?_, rfl, rd29⟩, trivial⟩
 exact WL.rI ht hn
 refine XsOk.have 3 #[tt, tt, tt, tt, tt, tt, tt, tt, tt, tt, tt, tt, tt, tt, ff, ff, tt, tt, tt, tt, tt, ff] ⟨[qac9 w, qac4, qac5, sl 6 (I x6), sl 8 (I x8), qac7 g w m1_4 e.fTo x8 x6, qac3 g, qac2 g, sl 38 (I x38), qac14, sl 89 (I x38), sl 95 (I (((stampX (qac1 e.fFrom x8 x6) m2_4 es_2 ck_2) : Nat) : Int))], [.box (qac6 g) 37 false, mapI St170.enc intT (mput (qac1 e.fFrom x8 x6) (if 1099511627775 < (wr ((rowC g w m1_4 e.fTo x8 (qac17 x8 x6)).1 + 1)) then 1099511627775 else (wr ((rowC g w m1_4 e.fTo x8 (qac17 x8 x6)).1 + 1))) (mput (qac1 e.fFrom x8 x6) ((mget (qac1 e.fFrom x8 x6) m1_4).getD (0 : Int)) m1_4)), mapB St170.enc GramChoice.ty (mput (qac1 e.fFrom x8 x6) ((mget (qac1 e.fFrom x8 x6) m2_4).getD qac8) m2_4) (qac1 e.fFrom x8 x6) (stampX (qac1 e.fFrom x8 x6) m2_4 es_2 ck_2), qac0 g w]⟩ ?_ (fun rd26 => ?_)
 refine RD.succ [14] (by kernel_rfl) rfl ⟨⟨_, _, _, rfl, ?_, rfl, rd28⟩, trivial⟩
 exact WL.rI ht hn
 refine XsOk.have 3 #[tt, tt, tt, tt, tt, tt, tt, tt, tt, tt, tt, tt, tt, ff, tt, ff, tt, tt, tt, tt, tt, ff] ⟨[qac9 w, qac4, qac5, sl 6 (I x6), sl 8 (I x8), sl 9 (I x38), qac3 g, qac2 g, sl 38 (I x38), qac14, qac12 g w m1_4 e.fTo x8 x6, sl 95 (I (((stampX (qac1 e.fFrom x8 x6) m2_4 es_2 ck_2) : Nat) : Int))], [.box (qac6 g) 37 false, mapI St170.enc intT (mput (qac1 e.fFrom x8 x6) (if 1099511627775 < (wr ((rowC g w m1_4 e.fTo x8 (qac17 x8 x6)).1 + 1)) then 1099511627775 else (wr ((rowC g w m1_4 e.fTo x8 (qac17 x8 x6)).1 + 1))) (mput (qac1 e.fFrom x8 x6) ((mget (qac1 e.fFrom x8 x6) m1_4).getD (0 : Int)) m1_4)), mapB St170.enc GramChoice.ty (mput (qac1 e.fFrom x8 x6) ((mget (qac1 e.fFrom x8 x6) m2_4).getD qac8) m2_4) (qac1 e.fFrom x8 x6) (stampX (qac1 e.fFrom x8 x6) m2_4 es_2 ck_2), qac0 g w]⟩ ?_ (fun rd25 => ?_)
 refine RD.succ [13] (by kernel_rfl) rfl ⟨⟨_, _, _, rfl, ?_, rfl, rd28⟩, trivial⟩
 exact WL.rI ht hn
 refine XsOk.have 3 #[tt, tt, tt, tt, tt, tt, tt, tt, tt, tt, tt, tt, tt, tt, tt, ff, tt, tt, tt, tt, ff, ff] ⟨[qac9 w, qac4, qac5, sl 6 (I x6), sl 8 (I x8), qac3 g, qac2 g, sl 38 (I x38), qac14, sl 89 (I x38), qac12 g w m1_4 e.fTo x8 x6, (94, .tup [.agg (GramChoice.cl ((mget (qac1 e.fFrom x8 x6) m2_4).getD qac8)), .one (I (((stampX (qac1 e.fFrom x8 x6) m2_4 es_2 ck_2) : Nat) : Int))])], [.box (qac6 g) 37 false, mapI St170.enc intT (mput (qac1 e.fFrom x8 x6) (if 1099511627775 < (wr ((rowC g w m1_4 e.fTo x8 (qac17 x8 x6)).1 + 1)) then 1099511627775 else (wr ((rowC g w m1_4 e.fTo x8 (qac17 x8 x6)).1 + 1))) (mput (qac1 e.fFrom x8 x6) ((mget (qac1 e.fFrom x8 x6) m1_4).getD (0 : Int)) m1_4)), mapB St170.enc GramChoice.ty (mput (qac1 e.fFrom x8 x6) ((mget (qac1 e.fFrom x8 x6) m2_4).getD qac8) m2_4) (qac1 e.fFrom x8 x6) (stampX (qac1 e.fFrom x8 x6) m2_4 es_2 ck_2), qac0 g w]⟩ ?_ (fun rd24 => ?_)
 refine RD.succ [15, 20] (by kernel_rfl) rfl ⟨⟨_, _, _, rfl, ?_, rfl, rd27⟩, ⟨_, _, _, rfl, ?_, rfl, rd28⟩, trivial⟩
 exact WL.rI ht hn
 exact WL.rI ht hn
 refine XsOk.have 3 #[tt, tt, tt, tt, tt, tt, tt, tt, tt, tt, tt, tt, tt, tt, tt, tt, tt, tt, tt, ff, ff, ff] ⟨[qac9 w, qac4, qac5, sl 6 (I x6), sl 8 (I x8), qac3 g, qac2 g, sl 38 (I x38), qac14, (85, .sv (.agg [I e.fFrom, I x8, I (qac17 x8 x6)])), (91, .sv (.agg [I x38, LS intT (rowC g w m1_4 e.fTo x8 (qac17 x8 x6)).2]))], [.box (qac6 g) 37 false, mapI St170.enc intT (mput (qac1 e.fFrom x8 x6) (if 1099511627775 < (wr ((rowC g w m1_4 e.fTo x8 (qac17 x8 x6)).1 + 1)) then 1099511627775 else (wr ((rowC g w m1_4 e.fTo x8 (qac17 x8 x6)).1 + 1))) (mput (qac1 e.fFrom x8 x6) ((mget (qac1 e.fFrom x8 x6) m1_4).getD (0 : Int)) m1_4)), mapX St170.enc GramChoice.ty m2_4 es_2 ck_2, qac0 g w]⟩ ?_ (fun rd23 => ?_)
 refine RD.succ [19] (by kernel_rfl) rfl ⟨⟨_, _, _, rfl, ?_, rfl, rd27⟩, trivial⟩
 refine WL.me hn (by rfl) (me_mapEntry (T := GramChoice.ty) (D := m2_4) (es := es_2) (ck := ck_2) St170.keyLaw (k := (qac1 e.fFrom x8 x6)) qac8 (zv := (.agg #[.int .i64 0, .slice none 0 0])) rfl Try.underlying171 (fun _ => by kernel_rfl) (fun _ => ⟨_, rfl, ⟨rfl, trivial⟩, trivial, ls_nil, trivial, trivial⟩) (by rfl) (by rfl) (by rfl) (fun _ => rfl)) (by rfl) rfl rfl (by rfl) ?_
 refine WL.sub ⟨[qac9 w, qac4, qac5, sl 6 (I x6), sl 8 (I x8), qac3 g, qac2 g, sl 38 (I x38), qac14, (85, .sv (.agg [I e.fFrom, I x8, I (qac17 x8 x6)])), (91, .sv (.agg [I x38, LS intT (rowC g w m1_4 e.fTo x8 (qac17 x8 x6)).2])), (94, .tup [.agg (GramChoice.cl ((mget (qac1 e.fFrom x8 x6) m2_4).getD qac8)), .one (I (((stampX (qac1 e.fFrom x8 x6) m2_4 es_2 ck_2) : Nat) : Int))])], [.box (qac6 g) 37 false, mapI St170.enc intT (mput (qac1 e.fFrom x8 x6) (if 1099511627775 < (wr ((rowC g w m1_4 e.fTo x8 (qac17 x8 x6)).1 + 1)) then 1099511627775 else (wr ((rowC g w m1_4 e.fTo x8 (qac17 x8 x6)).1 + 1))) (mput (qac1 e.fFrom x8 x6) ((mget (qac1 e.fFrom x8 x6) m1_4).getD (0 : Int)) m1_4)), mapB St170.enc GramChoice.ty (mput (qac1 e.fFrom x8 x6) ((mget (qac1 e.fFrom x8 x6) m2_4).getD qac8) m2_4) (qac1 e.fFrom x8 x6) (stampX (qac1 e.fFrom x8 x6) m2_4 es_2 ck_2), qac0 g w]⟩ (by kernel_rfl) ?_
 refine WL.nil ?_
 exact sub_ok (by kernel_rfl)
 refine XsOk.have 4 #[tt, tt, tt, tt, tt, tt, tt, tt, tt, tt, tt, tt, tt, ff, ff, ff, tt, tt, tt, tt, tt, ff] ⟨[qac9 w, qac4, qac5, sl 6 (I x6), sl 8 (I x8), sl 9 (I x38), qac7 g w m1_4 e.fTo x8 x6, qac3 g, qac2 g, sl 38 (I x38), qac14, sl 95 (I (((stampX (qac1 e.fFrom x8 x6) m2_4 es_2 ck_2) : Nat) : Int))], [.box (qac6 g) 37 false, mapI St170.enc intT (mput (qac1 e.fFrom x8 x6) (if 1099511627775 < (wr ((rowC g w m1_4 e.fTo x8 (qac17 x8 x6)).1 + 1)) then 1099511627775 else (wr ((rowC g w m1_4 e.fTo x8 (qac17 x8 x6)).1 + 1))) (mput (qac1 e.fFrom x8 x6) ((mget (qac1 e.fFrom x8 x6) m1_4).getD (0 : Int)) m1_4)), mapB St170.enc GramChoice.ty (mput (qac1 e.fFrom x8 x6) ((mget (qac1 e.fFrom x8 x6) m2_4).getD qac8) m2_4) (qac1 e.fFrom x8 x6) (stampX (qac1 e.fFrom x8 x6) m2_4 es_2 ck_2), qac0 g w]⟩ ?_ (fun rd22 => ?_)
 refine RD.succ [13, 14] (by kernel_rfl) rfl ⟨⟨_, _, _, rfl, ?_, rfl, rd26⟩, ⟨_, _, _, rfl, ?_, rfl, rd25⟩, trivial⟩
 exact WL.rI ht hn
 exact WL.rI ht hn
 refine XsOk.have 4 #[tt, tt, tt, tt, tt, tt, tt, tt, tt, tt, tt, tt, tt, tt, ff, ff, tt, tt, tt, tt, ff, ff] ⟨[qac9 w, qac4, qac5, sl 6 (I x6), sl 8 (I x8), qac7 g w m1_4 e.fTo x8 x6, qac3 g, qac2 g, sl 38 (I x38), qac14, sl 89 (I x38), (94, .tup [.agg (GramChoice.cl ((mget (qac1 e.fFrom x8 x6) m2_4).getD qac8)), .one (I (((stampX (qac1 e.fFrom x8 x6) m2_4 es_2 ck_2) : Nat) : Int))])], [.box (qac6 g) 37 false, mapI St170.enc intT (mput (qac1 e.fFrom x8 x6) (if 1099511627775 < (wr ((rowC g w m1_4 e.fTo x8 (qac17 x8 x6)).1 + 1)) then 1099511627775 else (wr ((rowC g w m1_4 e.fTo x8 (qac17 x8 x6)).1 + 1))) (mput (qac1 e.fFrom x8 x6) ((mget (qac1 e.fFrom x8 x6) m1_4).getD (0 : Int)) m1_4)), mapB St170.enc GramChoice.ty (mput (qac1 e.fFrom x8 x6) ((mget (qac1 e.fFrom x8 x6) m2_4).getD qac8) m2_4) (qac1 e.fFrom x8 x6) (stampX (qac1 e.fFrom x8 x6) m2_4 es_2 ck_2), qac0 g w]⟩ ?_ (fun rd21 => ?_)
 refine RD.succ [14, 20] (by kernel_rfl) rfl ⟨⟨_, _, _, rfl, ?_, rfl, rd24⟩, ⟨_, _, _, rfl, ?_, rfl, rd26⟩, trivial⟩
 exact WL.rI ht hn
 exact WL.rI ht hn
 refine XsOk.have 4 #[tt, tt, tt, tt, tt, tt, tt, tt, tt, tt, tt, tt, tt, ff, tt, ff, tt, tt, tt, tt, ff, ff] ⟨[qac9 w, qac4, qac5, sl 6 (I x6), sl 8 (I x8), sl 9 (I x38), qac3 g, qac2 g, sl 38 (I x38), qac14, qac12 g w m1_4 e.fTo x8 x6, (94, .tup [.agg (GramChoice.cl ((mget (qac1 e.fFrom x8 x6) m2_4).getD qac8)), .one (I (((stampX (qac1 e.fFrom x8 x6) m2_4 es_2 ck_2) : Nat) : Int))])], [.box (qac6 g) 37 false, mapI St170.enc intT (mput (qac1 e.fFrom x8 x6) (if 1099511627775 < (wr ((rowC g w m1_4 e.fTo x8 (qac17 x8 x6)).1 + 1)) then 1099511627775 else (wr ((rowC g w m1_4 e.fTo x8 (qac17 x8 x6)).1 + 1))) (mput (qac1 e.fFrom x8 x6) ((mget (qac1 e.fFrom x8 x6) m1_4).getD (0 : Int)) m1_4)), mapB St170.enc GramChoice.ty (mput (qac1 e.fFrom x8 x6) ((mget (qac1 e.fFrom x8 x6) m2_4).getD qac8) m2_4) (qac1 e.fFrom x8 x6) (stampX (qac1 e.fFrom x8 x6) m2_4 es_2 ck_2), qac0 g w]⟩ ?_ (fun rd20 => ?_)
 refine RD.succ [13, 20] (by kernel_rfl) rfl ⟨⟨_, _, _, rfl, ?_, rfl, rd24⟩, ⟨_, _, _, rfl, ?_, rfl, rd25⟩, trivial⟩
 exact WL.rI ht hn
 exact WL.rI ht hn
 refine XsOk.have 4 #[tt, tt, tt, tt, tt, tt, tt, tt, tt, tt, tt, tt, tt, tt, tt, ff, tt, tt, tt, ff, ff, ff] ⟨[qac9 w, qac4, qac5, sl 6 (I x6), sl 8 (I x8), qac3 g, qac2 g, sl 38 (I x38), qac14, (85, .sv (.agg [I e.fFrom, I x8, I (qac17 x8 x6)])), sl 89 (I x38), qac12 g w m1_4 e.fTo x8 x6], [.box (qac6 g) 37 false, mapI St170.enc intT (mput (qac1 e.fFrom x8 x6) (if 1099511627775 < (wr ((rowC g w m1_4 e.fTo x8 (qac17 x8 x6)).1 + 1)) then 1099511627775 else (wr ((rowC g w m1_4 e.fTo x8 (qac17 x8 x6)).1 + 1))) (mput (qac1 e.fFrom x8 x6) ((mget (qac1 e.fFrom x8 x6) m1_4).getD (0 : Int)) m1_4)), mapX St170.enc GramChoice.ty m2_4 es_2 ck_2, qac0 g w]⟩ ?_ (fun rd19 => ?_)
 refine RD.succ [15, 19] (by kernel_rfl) rfl ⟨⟨_, _, _, rfl, ?_, rfl, rd23⟩, ⟨_, _, _, rfl, ?_, rfl, rd24⟩, trivial⟩
 exact WL.rI ht hn
 refine WL.me hn (by rfl) (me_mapEntry (T := GramChoice.ty) (D := m2_4) (es := es_2) (ck := ck_2) St170.keyLaw (k := (qac1 e.fFrom x8 x6)) qac8 (zv := (.agg #[.int .i64 0, .slice none 0 0])) rfl Try.underlying171 (fun _ => by kernel_rfl) (fun _ => ⟨_, rfl, ⟨rfl, trivial⟩, trivial, ls_nil, trivial, trivial⟩) (by rfl) (by rfl) (by rfl) (fun _ => rfl)) (by rfl) rfl rfl (by rfl) ?_
 refine WL.sub ⟨[qac9 w, qac4, qac5, sl 6 (I x6), sl 8 (I x8), qac3 g, qac2 g, sl 38 (I x38), qac14, (85, .sv (.agg [I e.fFrom, I x8, I (qac17 x8 x6)])), sl 89 (I x38), qac12 g w m1_4 e.fTo x8 x6, (94, .tup [.agg (GramChoice.cl ((mget (qac1 e.fFrom x8 x6) m2_4).getD qac8)), .one (I (((stampX (qac1 e.fFrom x8 x6) m2_4 es_2 ck_2) : Nat) : Int))])], [.box (qac6 g) 37 false, mapI St170.enc intT (mput (qac1 e.fFrom x8 x6) (if 1099511627775 < (wr ((rowC g w m1_4 e.fTo x8 (qac17 x8 x6)).1 + 1)) then 1099511627775 else (wr ((rowC g w m1_4 e.fTo x8 (qac17 x8 x6)).1 + 1))) (mput (qac1 e.fFrom x8 x6) ((mget (qac1 e.fFrom x8 x6) m1_4).getD (0 : Int)) m1_4)), mapB St170.enc GramChoice.ty (mput (qac1 e.fFrom x8 x6) ((mget (qac1 e.fFrom x8 x6) m2_4).getD qac8) m2_4) (qac1 e.fFrom x8 x6) (stampX (qac1 e.fFrom x8 x6) m2_4 es_2 ck_2), qac0 g w]⟩ (by kernel_rfl) ?_
 refine WL.nil ?_
 exact sub_ok (by kernel_rfl)
 refine XsOk.have 4 #[tt, tt, tt, tt, tt, tt, tt, tt, tt, ff, tt, tt, tt, tt, tt, tt, tt, tt, tt, ff, ff, ff] ⟨[qac9 w, qac4, qac5, sl 6 (I x6), sl 8 (I x8), qac16, qac3 g, qac2 g, sl 38 (I x38), qac14, (91, .sv (.agg [I x38, LS intT (rowC g w m1_4 e.fTo x8 (qac17 x8 x6)).2]))], [.box (qac6 g) 37 false, mapI St170.enc intT (mput (qac1 e.fFrom x8 x6) (if 1099511627775 < (wr ((rowC g w m1_4 e.fTo x8 (qac17 x8 x6)).1 + 1)) then 1099511627775 else (wr ((rowC g w m1_4 e.fTo x8 (qac17 x8 x6)).1 + 1))) (mput (qac1 e.fFrom x8 x6) ((mget (qac1 e.fFrom x8 x6) m1_4).getD (0 : Int)) m1_4)), mapX St170.enc GramChoice.ty m2_4 es_2 ck_2, qac0 g w, .gone, qac10 e.fFrom x8 x6]⟩ ?_ (fun rd18 => ?_)
 refine RD.succ [9] (by kernel_rfl) rfl ⟨⟨_, _, _, rfl, ?_, rfl, rd23⟩, trivial⟩
 exact WL.rI ht hn
 refine XsOk.have 4 #[tt, tt, tt, tt, tt, tt, tt, tt, tt, tt, tt, tt, tt, tt, tt, tt, tt, tt, ff, ff, ff, ff] ⟨[qac9 w, qac4, qac5, sl 6 (I x6), sl 8 (I x8), qac3 g, qac2 g, sl 38 (I x38), qac21, qac14, (85, .sv (.agg [I e.fFrom, I x8, I (qac17 x8 x6)])), sl 88 (I (if 1099511627775 < (wr ((rowC g w m1_4 e.fTo x8 (qac17 x8 x6)).1 + 1)) then 1099511627775 else (wr ((rowC g w m1_4 e.fTo x8 (qac17 x8 x6)).1 + 1)))), (91, .sv (.agg [I x38, LS intT (rowC g w m1_4 e.fTo x8 (qac17 x8 x6)).2])), sl 93 (I (((stampX (qac1 e.fFrom x8 x6) m1_4 es ck) : Nat) : Int))], [.box (qac6 g) 37 false, mapB St170.enc intT (mput (qac1 e.fFrom x8 x6) ((mget (qac1 e.fFrom x8 x6) m1_4).getD (0 : Int)) m1_4) (qac1 e.fFrom x8 x6) (stampX (qac1 e.fFrom x8 x6) m1_4 es ck), mapX St170.enc GramChoice.ty m2_4 es_2 ck_2, qac0 g w]⟩ ?_ (fun rd17 => ?_)
 refine RD.succ [18] (by kernel_rfl) rfl ⟨⟨_, _, _, rfl, ?_, rfl, rd23⟩, trivial⟩
 refine WL.entryStore (T := intT) (k := (qac1 e.fFrom x8 x6)) (y := (if 1099511627775 < (wr ((rowC g w m1_4 e.fTo x8 (qac17 x8 x6)).1 + 1)) then 1099511627775 else (wr ((rowC g w m1_4 e.fTo x8 (qac17 x8 x6)).1 + 1)))) hn (by rfl) rfl (by rfl) (by rfl) (by rfl) (by rfl) (by rfl) (by rfl) ?_
 refine WL.nil ?_
 exact sub_ok (by kernel_rfl)
 refine XsOk.have 5 #[tt, tt, tt, tt, tt, tt, tt, tt, tt, tt, tt, tt, tt, ff, ff, ff, tt, tt, tt, tt, ff, ff] ⟨[qac9 w, qac4, qac5, sl 6 (I x6), sl 8 (I x8), sl 9 (I x38), qac7 g w m1_4 e.fTo x8 x6, qac3 g, qac2 g, sl 38 (I x38), qac14, (94, .tup [.agg (GramChoice.cl ((mget (qac1 e.fFrom x8 x6) m2_4).getD qac8)), .one (I (((stampX (qac1 e.fFrom x8 x6) m2_4 es_2 ck_2) : Nat) : Int))])], [.box (qac6 g) 37 false, mapI St170.enc intT (mput (qac1 e.fFrom x8 x6) (if 1099511627775 < (wr ((rowC g w m1_4 e.fTo x8 (qac17 x8 x6)).1 + 1)) then 1099511627775 else (wr ((rowC g w m1_4 e.fTo x8 (qac17 x8 x6)).1 + 1))) (mput (qac1 e.fFrom x8 x6) ((mget (qac1 e.fFrom x8 x6) m1_4).getD (0 : Int)) m1_4)), mapB St170.enc GramChoice.ty (mput (qac1 e.fFrom x8 x6) ((mget (qac1 e.fFrom x8 x6) m2_4).getD qac8) m2_4) (qac1 e.fFrom x8 x6) (stampX (qac1 e.fFrom x8 x6) m2_4 es_2 ck_2), qac0 g w]⟩ ?_ (fun rd16 => ?_)
 refine RD.succ [13, 14, 20] (by kernel_rfl) rfl ⟨⟨_, _, _, rfl, ?_, rfl, rd21⟩, ⟨_, _, _, rfl, ?_, rfl, rd20⟩, ⟨_, _, _, rfl, ?_, rfl, rd22⟩, trivial⟩
 exact WL.rI ht hn
 exact WL.rI ht hn
 exact WL.rI ht hn
 refine XsOk.have 5 #[tt, tt, tt, tt, tt, tt, tt, tt, tt, tt, tt, tt, tt, tt, ff, ff, tt, tt, tt, ff, ff, ff] ⟨[qac9 w, qac4, qac5, sl 6 (I x6), sl 8 (I x8), qac7 g w m1_4 e.fTo x8 x6, qac3 g, qac2 g, sl 38 (I x38), qac14, (85, .sv (.agg [I e.fFrom, I x8, I (qac17 x8 x6)])), sl 89 (I x38)], [.box (qac6 g) 37 false, mapI St170.enc intT (mput (qac1 e.fFrom x8 x6) (if 1099511627775 < (wr ((rowC g w m1_4 e.fTo x8 (qac17 x8 x6)).1 + 1)) then 1099511627775 else (wr ((rowC g w m1_4 e.fTo x8 (qac17 x8 x6)).1 + 1))) (mput (qac1 e.fFrom x8 x6) ((mget (qac1 e.fFrom x8 x6) m1_4).getD (0 : Int)) m1_4)), mapX St170.enc GramChoice.ty m2_4 es_2 ck_2, qac0 g w]⟩ ?_ (fun rd15 => ?_)
 refine RD.succ [14, 19] (by kernel_rfl) rfl ⟨⟨_, _, _, rfl, ?_, rfl, rd19⟩, ⟨_, _, _, rfl, ?_, rfl, rd21⟩, trivial⟩
 exact WL.rI ht hn
 refine WL.me hn (by rfl) (me_mapEntry (T := GramChoice.ty) (D := m2_4) (es := es_2) (ck := ck_2) St170.keyLaw (k := (qac1 e.fFrom x8 x6)) qac8 (zv := (.agg #[.int .i64 0, .slice none 0 0])) rfl Try.underlying171 (fun _ => by kernel_rfl) (fun _ => ⟨_, rfl, ⟨rfl, trivial⟩, trivial, ls_nil, trivial, trivial⟩) (by rfl) (by rfl) (by rfl) (fun _ => rfl)) (by rfl) rfl rfl (by rfl) ?_
 refine WL.sub ⟨[qac9 w, qac4, qac5, sl 6 (I x6), sl 8 (I x8), qac7 g w m1_4 e.fTo x8 x6, qac3 g, qac2 g, sl 38 (I x38), qac14, (85, .sv (.agg [I e.fFrom, I x8, I (qac17 x8 x6)])), sl 89 (I x38), (94, .tup [.agg (GramChoice.cl ((mget (qac1 e.fFrom x8 x6) m2_4).getD qac8)), .one (I (((stampX (qac1 e.fFrom x8 x6) m2_4 es_2 ck_2) : Nat) : Int))])], [.box (qac6 g) 37 false, mapI St170.enc intT (mput (qac1 e.fFrom x8 x6) (if 1099511627775 < (wr ((rowC g w m1_4 e.fTo x8 (qac17 x8 x6)).1 + 1)) then 1099511627775 else (wr ((rowC g w m1_4 e.fTo x8 (qac17 x8 x6)).1 + 1))) (mput (qac1 e.fFrom x8 x6) ((mget (qac1 e.fFrom x8 x6) m1_4).getD (0 : Int)) m1_4)), mapB St170.enc GramChoice.ty (mput (qac1 e.fFrom x8 x6) ((mget (qac1 e.fFrom x8 x6) m2_4).getD qac8) m2_4) (qac1 e.fFrom x8 x6) (stampX (qac1 e.fFrom x8 x6) m2_4 es_2 ck_2), qac0 g w]⟩ (by kernel_rfl) ?_
 refine WL.nil ?_
 exact sub_ok (by kernel_rfl)
 refine XsOk.have 5 #[tt, tt, tt, tt, tt, tt, tt, tt, tt, tt, tt, tt, tt, ff, tt, ff, tt, tt, tt, ff, ff, ff] ⟨[qac9 w, qac4, qac5, sl 6 (I x6), sl 8 (I x8), sl 9 (I x38), qac3 g, qac2 g, sl 38 (I x38), qac14, (85, .sv (.agg [I e.fFrom, I x8, I (qac17 x8 x6)])), qac12 g w m1_4 e.fTo x8 x6], [.box (qac6 g) 37 false, mapI St170.enc intT (mput (qac1 e.fFrom x8 x6) (if 1099511627775 < (wr ((rowC g w m1_4 e.fTo x8 (qac17 x8 x6)).1 + 1)) then 1099511627775 else (wr ((rowC g w m1_4 e.fTo x8 (qac17 x8 x6)).1 + 1))) (mput (qac1 e.fFrom x8 x6) ((mget (qac1 e.fFrom x8 x6) m1_4).getD (0 : Int)) m1_4)), mapX St170.enc GramChoice.ty m2_4 es_2 ck_2, qac0 g w]⟩ ?_ (fun rd14 => ?_)
 refine RD.succ [13, 19] (by kernel_rfl) rfl ⟨⟨_, _, _, rfl, ?_, rfl, rd19⟩, ⟨_, _, _, rfl, ?_, rfl, rd20⟩, trivial⟩
 exact WL.rI ht hn
 refine WL.me hn (by rfl) (me_mapEntry (T := GramChoice.ty) (D := m2_4) (es := es_2) (ck := ck_2) St170.keyLaw (k := (qac1 e.fFrom x8 x6)) qac8 (zv := (.agg #[.int .i64 0, .slice none 0 0])) rfl Try.underlying171 (fun _ => by kernel_rfl) (fun _ => ⟨_, rfl, ⟨rfl, trivial⟩, trivial, ls_nil, trivial, trivial⟩) (by rfl) (by rfl) (by rfl) (fun _ => rfl)) (by rfl) rfl rfl (by rfl) ?_
 refine WL.sub ⟨[qac9 w, qac4, qac5, sl 6 (I x6), sl 8 (I x8), sl 9 (I x38), qac3 g, qac2 g, sl 38 (I x38), qac14, (85, .sv (.agg [I e.fFrom, I x8, I (qac17 x8 x6)])), qac12 g w m1_4 e.fTo x8 x6, (94, .tup [.agg (GramChoice.cl ((mget (qac1 e.fFrom x8 x6) m2_4).getD qac8)), .one (I (((stampX (qac1 e.fFrom x8 x6) m2_4 es_2 ck_2) : Nat) : Int))])], [.box (qac6 g) 37 false, mapI St170.enc intT (mput (qac1 e.fFrom x8 x6) (if 1099511627775 < (wr ((rowC g w m1_4 e.fTo x8 (qac17 x8 x6)).1 + 1)) then 1099511627775 else (wr ((rowC g w m1_4 e.fTo x8 (qac17 x8 x6)).1 + 1))) (mput (qac1 e.fFrom x8 x6) ((mget (qac1 e.fFrom x8 x6) m1_4).getD (0 : Int)) m1_4)), mapB St170.enc GramChoice.ty (mput (qac1 e.fFrom x8 x6) ((mget (qac1 e.fFrom x8 x6) m2_4).getD qac8) m2_4) (qac1 e.fFrom x8 x6) (stampX (qac1 e.fFrom x8 x6) m2_4 es_2 ck_2), qac0 g w]⟩ (by kernel_rfl) ?_
 refine WL.nil ?_
 exact sub_ok (by kernel_rfl)
 refine XsOk.have 5 #[tt, tt, tt, tt, tt, tt, tt, tt, tt, ff, tt, tt, tt, tt, tt, ff, tt, tt, tt, ff, ff, ff] ⟨[qac9 w, qac4, qac5, sl 6 (I x6), sl 8 (I x8), qac16, qac3 g, qac2 g, sl 38 (I x38), qac14, sl 89 (I x38), qac12 g w m1_4 e.fTo x8 x6], [.box (qac6 g) 37 false, mapI St170.enc intT (mput (qac1 e.fFrom x8 x6) (if 1099511627775 < (wr ((rowC g w m1_4 e.fTo x8 (qac17 x8 x6)).1 + 1)) then 1099511627775 else (wr ((rowC g w m1_4 e.fTo x8 (qac17 x8 x6)).1 + 1))) (mput (qac1 e.fFrom x8 x6) ((mget (qac1 e.fFrom x8 x6) m1_4).getD (0 : Int)) m1_4)), mapX St170.enc GramChoice.ty m2_4 es_2 ck_2, qac0 g w, .gone, qac10 e.fFrom x8 x6]⟩ ?_ (fun rd13 => ?_)
 refine RD.succ [9, 15] (by kernel_rfl) rfl ⟨⟨_, _, _, rfl, ?_, rfl, rd19⟩, ⟨_, _, _, rfl, ?_, rfl, rd18⟩, trivial⟩
 exact WL.rI ht hn
 exact WL.rI ht hn
 refine XsOk.have 5 #[tt, tt, tt, tt, tt, tt, tt, tt, tt, tt, tt, tt, tt, tt, tt, ff, tt, tt, ff, ff, ff, ff] ⟨[qac9 w, qac4, qac5, sl 6 (I x6), sl 8 (I x8), qac3 g, qac2 g, sl 38 (I x38), qac21, qac14, (85, .sv (.agg [I e.fFrom, I x8, I (qac17 x8 x6)])), sl 88 (I (if 1099511627775 < (wr ((rowC g w m1_4 e.fTo x8 (qac17 x8 x6)).1 + 1)) then 1099511627775 else (wr ((rowC g w m1_4 e.fTo x8 (qac17 x8 x6)).1 + 1)))), sl 89 (I x38), qac12 g w m1_4 e.fTo x8 x6, sl 93 (I (((stampX (qac1 e.fFrom x8 x6) m1_4 es ck) : Nat) : Int))], [.box (qac6 g) 37 false, mapB St170.enc intT (mput (qac1 e.fFrom x8 x6) ((mget (qac1 e.fFrom x8 x6) m1_4).getD (0 : Int)) m1_4) (qac1 e.fFrom x8 x6) (stampX (qac1 e.fFrom x8 x6) m1_4 es ck), mapX St170.enc GramChoice.ty m2_4 es_2 ck_2, qac0 g w]⟩ ?_ (fun rd12 => ?_)
 refine RD.succ [15, 18] (by kernel_rfl) rfl ⟨⟨_, _, _, rfl, ?_, rfl, rd17⟩, ⟨_, _, _, rfl, ?_, rfl, rd19⟩, trivial⟩
 exact WL.rI ht hn
 refine WL.entryStore (T := intT) (k := (qac1 e.fFrom x8 x6)) (y := (if 1099511627775 < (wr ((rowC g w m1_4 e.fTo x8 (qac17 x8 x6)).1 + 1)) then 1099511627775 else (wr ((rowC g w m1_4 e.fTo x8 (qac17 x8 x6)).1 + 1)))) hn (by rfl) rfl (by rfl) (by rfl) (by rfl) (by rfl) (by rfl) (by rfl) ?_
 refine WL.nil ?_
 exact sub_ok (by kernel_rfl)
 refine XsOk.have 5 #[tt, tt, tt, tt, tt, tt, tt, tt, tt, ff, tt, tt, tt, tt, tt, tt, tt, tt, ff, ff, ff, ff] ⟨[qac9 w, qac4, qac5, sl 6 (I x6), sl 8 (I x8), qac16, qac3 g, qac2 g, sl 38 (I x38), qac21, qac14, sl 88 (I (if 1099511627775 < (wr ((rowC g w m1_4 e.fTo x8 (qac17 x8 x6)).1 + 1)) then 1099511627775 else (wr ((rowC g w m1_4 e.fTo x8 (qac17 x8 x6)).1 + 1)))), (91, .sv (.agg [I x38, LS intT (rowC g w m1_4 e.fTo x8 (qac17 x8 x6)).2])), sl 93 (I (((stampX (qac1 e.fFrom x8 x6) m1_4 es ck) : Nat) : Int))], [.box (qac6 g) 37 false, mapB St170.enc intT (mput (qac1 e.fFrom x8 x6) ((mget (qac1 e.fFrom x8 x6) m1_4).getD (0 : Int)) m1_4) (qac1 e.fFrom x8 x6) (stampX (qac1 e.fFrom x8 x6) m1_4 es ck), mapX St170.enc GramChoice.ty m2_4 es_2 ck_2, qac0 g w, .gone, qac10 e.fFrom x8 x6]⟩ ?_ (fun rd11 => ?_)
 refine RD.succ [9, 18] (by kernel_rfl) rfl ⟨⟨_, _, _, rfl, ?_, rfl, rd17⟩, ⟨_, _, _, rfl, ?_, rfl, rd18⟩, trivial⟩
 exact WL.rI ht hn
 refine WL.entryStore (T := intT) (k := (qac1 e.fFrom x8 x6)) (y := (if 1099511627775 < (wr ((rowC g w m1_4 e.fTo x8 (qac17 x8 x6)).1 + 1)) then 1099511627775 else (wr ((rowC g w m1_4 e.fTo x8 (qac17 x8 x6)).1 + 1)))) hn (by rfl) rfl (by rfl) (by rfl) (by rfl) (by rfl) (by rfl) (by rfl) ?_
 refine WL.nil ?_
 exact sub_ok (by kernel_rfl)
 refine XsOk.have 6 #[tt, tt, tt, tt, tt, tt, tt, tt, tt, tt, tt, tt, tt, ff, ff, ff, tt, tt, tt, ff, ff, ff] ⟨[qac9 w, qac4, qac5, sl 6 (I x6), sl 8 (I x8), sl 9 (I x38), qac7 g w m1_4 e.fTo x8 x6, qac3 g, qac2 g, sl 38 (I x38), qac14, (85, .sv (.agg [I e.fFrom, I x8, I (qac17 x8 x6)]))], [.box (qac6 g) 37 false, mapI St170.enc intT (mput (qac1 e.fFrom x8 x6) (if 1099511627775 < (wr ((rowC g w m1_4 e.fTo x8 (qac17 x8 x6)).1 + 1)) then 1099511627775 else (wr ((rowC g w m1_4 e.fTo x8 (qac17 x8 x6)).1 + 1))) (mput (qac1 e.fFrom x8 x6) ((mget (qac1 e.fFrom x8 x6) m1_4).getD (0 : Int)) m1_4)), mapX St170.enc GramChoice.ty m2_4 es_2 ck_2, qac0 g w]⟩ ?_ (fun rd10 => ?_)
 refine RD.succ [13, 14, 19] (by kernel_rfl) rfl ⟨⟨_, _, _, rfl, ?_, rfl, rd15⟩, ⟨_, _, _, rfl, ?_, rfl, rd14⟩, ⟨_, _, _, rfl, ?_, rfl, rd16⟩, trivial⟩
 exact WL.rI ht hn
 exact WL.rI ht hn
 refine WL.me hn (by rfl) (me_mapEntry (T := GramChoice.ty) (D := m2_4) (es := es_2) (ck := ck_2) St170.keyLaw (k := (qac1 e.fFrom x8 x6)) qac8 (zv := (.agg #[.int .i64 0, .slice none 0 0])) rfl Try.underlying171 (fun _ => by kernel_rfl) (fun _ => ⟨_, rfl, ⟨rfl, trivial⟩, trivial, ls_nil, trivial, trivial⟩) (by rfl) (by rfl) (by rfl) (fun _ => rfl)) (by rfl) rfl rfl (by rfl) ?_
 refine WL.sub ⟨[qac9 w, qac4, qac5, sl 6 (I x6), sl 8 (I x8), sl 9 (I x38), qac7 g w m1_4 e.fTo x8 x6, qac3 g, qac2 g, sl 38 (I x38), qac14, (85, .sv (.agg [I e.fFrom, I x8, I (qac17 x8 x6)])), (94, .tup [.agg (GramChoice.cl ((mget (qac1 e.fFrom x8 x6) m2_4).getD qac8)), .one (I (((stampX (qac1 e.fFrom x8 x6) m2_4 es_2 ck_2) : Nat) : Int))])], [.box (qac6 g) 37 false, mapI St170.enc intT (mput (qac1 e.fFrom x8 x6) (if 1099511627775 < (wr ((rowC g w m1_4 e.fTo x8 (qac17 x8 x6)).1 + 1)) then 1099511627775 else (wr ((rowC g w m1_4 e.fTo x8 (qac17 x8 x6)).1 + 1))) (mput (qac1 e.fFrom x8 x6) ((mget (qac1 e.fFrom x8 x6) m1_4).getD (0 : Int)) m1_4)), mapB St170.enc GramChoice.ty (mput (qac1 e.fFrom x8 x6) ((mget (qac1 e.fFrom x8 x6) m2_4).getD qac8) m2_4) (qac1 e.fFrom x8 x6) (stampX (qac1 e.fFrom x8 x6) m2_4 es_2 ck_2), qac0 g w]⟩ (by kernel_rfl) ?_
 refine WL.nil ?_
 exact sub_ok (by kernel_rfl)
 refine XsOk.have 6 #[tt, tt, tt, tt, tt, tt, tt, tt, tt, ff, tt, tt, tt, tt, ff, ff, tt, tt, tt, ff, ff, ff] ⟨[qac9 w, qac4, qac5, sl 6 (I x6), sl 8 (I x8), qac7 g w m1_4 e.fTo x8 x6, qac16, qac3 g, qac2 g, sl 38 (I x38), qac14, sl 89 (I x38)], [.box (qac6 g) 37 false, mapI St170.enc intT (mput (qac1 e.fFrom x8 x6) (if 1099511627775 < (wr ((rowC g w m1_4 e.fTo x8 (qac17 x8 x6)).1 + 1)) then 1099511627775 else (wr ((rowC g w m1_4 e.fTo x8 (qac17 x8 x6)).1 + 1))) (mput (qac1 e.fFrom x8 x6) ((mget (qac1 e.fFrom x8 x6) m1_4).getD (0 : Int)) m1_4)), mapX St170.enc GramChoice.ty m2_4 es_2 ck_2, qac0 g w, .gone, qac10 e.fFrom x8 x6]⟩ ?_ (fun rd9 => ?_)
 refine RD.succ [9, 14] (by kernel_rfl) rfl ⟨⟨_, _, _, rfl, ?_, rfl, rd15⟩, ⟨_, _, _, rfl, ?_, rfl, rd13⟩, trivial⟩
 exact WL.rI ht hn
 exact WL.rI ht hn
 refine XsOk.have 6 #[tt, tt, tt, tt, tt, tt, tt, tt, tt, ff, tt, tt, tt, ff, tt, ff, tt, tt, tt, ff, ff, ff] ⟨[qac9 w, qac4, qac5, sl 6 (I x6), sl 8 (I x8), sl 9 (I x38), qac16, qac3 g, qac2 g, sl 38 (I x38), qac14, qac12 g w m1_4 e.fTo x8 x6], [.box (qac6 g) 37 false, mapI St170.enc intT (mput (qac1 e.fFrom x8 x6) (if 1099511627775 < (wr ((rowC g w m1_4 e.fTo x8 (qac17 x8 x6)).1 + 1)) then 1099511627775 else (wr ((rowC g w m1_4 e.fTo x8 (qac17 x8 x6)).1 + 1))) (mput (qac1 e.fFrom x8 x6) ((mget (qac1 e.fFrom x8 x6) m1_4).getD (0 : Int)) m1_4)), mapX St170.enc GramChoice.ty m2_4 es_2 ck_2, qac0 g w, .gone, qac10 e.fFrom x8 x6]⟩ ?_ (fun rd8 => ?_)
 refine RD.succ [9, 13] (by kernel_rfl) rfl ⟨⟨_, _, _, rfl, ?_, rfl, rd14⟩, ⟨_, _, _, rfl, ?_, rfl, rd13⟩, trivial⟩
 exact WL.rI ht hn
 exact WL.rI ht hn
 refine XsOk.have 6 #[tt, tt, tt, tt, tt, tt, tt, tt, tt, tt, tt, tt, tt, tt, ff, ff, tt, tt, ff, ff, ff, ff] ⟨[qac9 w, qac4, qac5, sl 6 (I x6), sl 8 (I x8), qac7 g w m1_4 e.fTo x8 x6, qac3 g, qac2 g, sl 38 (I x38), qac21, qac14, (85, .sv (.agg [I e.fFrom, I x8, I (qac17 x8 x6)])), sl 88 (I (if 1099511627775 < (wr ((rowC g w m1_4 e.fTo x8 (qac17 x8 x6)).1 + 1)) then 1099511627775 else (wr ((rowC g w m1_4 e.fTo x8 (qac17 x8 x6)).1 + 1)))), sl 89 (I x38), sl 93 (I (((stampX (qac1 e.fFrom x8 x6) m1_4 es ck) : Nat) : Int))], [.box (qac6 g) 37 false, mapB St170.enc intT (mput (qac1 e.fFrom x8 x6) ((mget (qac1 e.fFrom x8 x6) m1_4).getD (0 : Int)) m1_4) (qac1 e.fFrom x8 x6) (stampX (qac1 e.fFrom x8 x6) m1_4 es ck), mapX St170.enc GramChoice.ty m2_4 es_2 ck_2, qac0 g w]⟩ ?_ (fun rd7 => ?_)
 refine RD.succ [14, 18] (by kernel_rfl) rfl ⟨⟨_, _, _, rfl, ?_, rfl, rd12⟩, ⟨_, _, _, rfl, ?_, rfl, rd15⟩, trivial⟩
 exact WL.rI ht hn
 refine WL.entryStore (T := intT) (k := (qac1 e.fFrom x8 x6)) (y := (if 1099511627775 < (wr ((rowC g w m1_4 e.fTo x8 (qac17 x8 x6)).1 + 1)) then 1099511627775 else (wr ((rowC g w m1_4 e.fTo x8 (qac17 x8 x6)).1 + 1)))) hn (by rfl) rfl (by rfl) (by rfl) (by rfl) (by rfl) (by rfl) (by rfl) ?_
 refine WL.nil ?_
 exact sub_ok (by kernel_rfl)
 refine XsOk.have 6 #[tt, tt, tt, tt, tt, tt, tt, tt, tt, tt, tt, tt, tt, ff, tt, ff, tt, tt, ff, ff, ff, ff] ⟨[qac9 w, qac4, qac5, sl 6 (I x6), sl 8 (I x8), sl 9 (I x38), qac3 g, qac2 g, sl 38 (I x38), qac21, qac14, (85, .sv (.agg [I e.fFrom, I x8, I (qac17 x8 x6)])), sl 88 (I (if 1099511627775 < (wr ((rowC g w m1_4 e.fTo x8 (qac17 x8 x6)).1 + 1)) then 1099511627775 else (wr ((rowC g w m1_4 e.fTo x8 (qac17 x8 x6)).1 + 1)))), qac12 g w m1_4 e.fTo x8 x6, sl 93 (I (((stampX (qac1 e.fFrom x8 x6) m1_4 es ck) : Nat) : Int))], [.box (qac6 g) 37 false, mapB St170.enc intT (mput (qac1 e.fFrom x8 x6) ((mget (qac1 e.fFrom x8 x6) m1_4).getD (0 : Int)) m1_4) (qac1 e.fFrom x8 x6) (stampX (qac1 e.fFrom x8 x6) m1_4 es ck), mapX St170.enc GramChoice.ty m2_4 es_2 ck_2, qac0 g w]⟩ ?_ (fun rd6 => ?_)
 refine RD.succ [13, 18] (by kernel_rfl) rfl ⟨⟨_, _, _, rfl, ?_, rfl, rd12⟩, ⟨_, _, _, rfl, ?_, rfl, rd14⟩, trivial⟩
 exact WL.rI ht hn
 refine WL.entryStore (T := intT) (k := (qac1 e.fFrom x8 x6)) (y := (if 1099511627775 < (wr ((rowC g w m1_4 e.fTo x8 (qac17 x8 x6)).1 + 1)) then 1099511627775 else (wr ((rowC g w m1_4 e.fTo x8 (qac17 x8 x6)).1 + 1)))) hn (by rfl) rfl (by rfl) (by rfl) (by rfl) (by rfl) (by rfl) (by rfl) ?_
 refine WL.nil ?_
 exact sub_ok (by kernel_rfl)
 refine XsOk.have 6 #[tt, tt, tt, tt, tt, tt, tt, tt, tt, ff, tt, tt, tt, tt, tt, ff, tt, tt, ff, ff, ff, ff] ⟨[qac9 w, qac4, qac5, sl 6 (I x6), sl 8 (I x8), qac16, qac3 g, qac2 g, sl 38 (I x38), qac21, qac14, sl 88 (I (if 1099511627775 < (wr ((rowC g w m1_4 e.fTo x8 (qac17 x8 x6)).1 + 1)) then 1099511627775 else (wr ((rowC g w m1_4 e.fTo x8 (qac17 x8 x6)).1 + 1)))), sl 89 (I x38), qac12 g w m1_4 e.fTo x8 x6, sl 93 (I (((stampX (qac1 e.fFrom x8 x6) m1_4 es ck) : Nat) : Int))], [.box (qac6 g) 37 false, mapB St170.enc intT (mput (qac1 e.fFrom x8 x6) ((mget (qac1 e.fFrom x8 x6) m1_4).getD (0 : Int)) m1_4) (qac1 e.fFrom x8 x6) (stampX (qac1 e.fFrom x8 x6) m1_4 es ck), mapX St170.enc GramChoice.ty m2_4 es_2 ck_2, qac0 g w, .gone, qac10 e.fFrom x8 x6]⟩ ?_ (fun rd5 => ?_)
 refine RD.succ [9, 15, 18] (by kernel_rfl) rfl ⟨⟨_, _, _, rfl, ?_, rfl, rd12⟩, ⟨_, _, _, rfl, ?_, rfl, rd11⟩, ⟨_, _, _, rfl, ?_, rfl, rd13⟩, trivial⟩
 exact WL.rI ht hn
 exact WL.rI ht hn
 refine WL.entryStore (T := intT) (k := (qac1 e.fFrom x8 x6)) (y := (if 1099511627775 < (wr ((rowC g w m1_4 e.fTo x8 (qac17 x8 x6)).1 + 1)) then 1099511627775 else (wr ((rowC g w m1_4 e.fTo x8 (qac17 x8 x6)).1 + 1)))) hn (by rfl) rfl (by rfl) (by rfl) (by rfl) (by rfl) (by rfl) (by rfl) ?_
 refine WL.nil ?_
 exact sub_ok (by kernel_rfl)
 refine XsOk.have 7 #[tt, tt, tt, tt, tt, tt, tt, tt, tt, ff, tt, tt, tt, ff, ff, ff, tt, tt, tt, ff, ff, ff] ⟨[qac9 w, qac4, qac5, sl 6 (I x6), sl 8 (I x8), sl 9 (I x38), qac7 g w m1_4 e.fTo x8 x6, qac16, qac3 g, qac2 g, sl 38 (I x38), qac14], [.box (qac6 g) 37 false, mapI St170.enc intT (mput (qac1 e.fFrom x8 x6) (if 1099511627775 < (wr ((rowC g w m1_4 e.fTo x8 (qac17 x8 x6)).1 + 1)) then 1099511627775 else (wr ((rowC g w m1_4 e.fTo x8 (qac17 x8 x6)).1 + 1))) (mput (qac1 e.fFrom x8 x6) ((mget (qac1 e.fFrom x8 x6) m1_4).getD (0 : Int)) m1_4)), mapX St170.enc GramChoice.ty m2_4 es_2 ck_2, qac0 g w, .gone, qac10 e.fFrom x8 x6]⟩ ?_ (fun rd4 => ?_)
 refine RD.succ [9, 13, 14] (by kernel_rfl) rfl ⟨⟨_, _, _, rfl, ?_, rfl, rd10⟩, ⟨_, _, _, rfl, ?_, rfl, rd9⟩, ⟨_, _, _, rfl, ?_, rfl, rd8⟩, trivial⟩
 exact WL.rI ht hn
 exact WL.rI ht hn
 exact WL.rI ht hn
 refine XsOk.have 7 #[tt, tt, tt, tt, tt, tt, tt, tt, tt, tt, tt, tt, tt, ff, ff, ff, tt, tt, ff, ff, ff, ff] ⟨[qac9 w, qac4, qac5, sl 6 (I x6), sl 8 (I x8), sl 9 (I x38), qac7 g w m1_4 e.fTo x8 x6, qac3 g, qac2 g, sl 38 (I x38), qac21, qac14, (85, .sv (.agg [I e.fFrom, I x8, I (qac17 x8 x6)])), sl 88 (I (if 1099511627775 < (wr ((rowC g w m1_4 e.fTo x8 (qac17 x8 x6)).1 + 1)) then 1099511627775 else (wr ((rowC g w m1_4 e.fTo x8 (qac17 x8 x6)).1 + 1)))), sl 93 (I (((stampX (qac1 e.fFrom x8 x6) m1_4 es ck) : Nat) : Int))], [.box (qac6 g) 37 false, mapB St170.enc intT (mput (qac1 e.fFrom x8 x6) ((mget (qac1 e.fFrom x8 x6) m1_4).getD (0 : Int)) m1_4) (qac1 e.fFrom x8 x6) (stampX (qac1 e.fFrom x8 x6) m1_4 es ck), mapX St170.enc GramChoice.ty m2_4 es_2 ck_2, qac0 g w]⟩ ?_ (fun rd3 => ?_)
 refine RD.succ [13, 14, 18] (by kernel_rfl) rfl ⟨⟨_, _, _, rfl, ?_, rfl, rd7⟩, ⟨_, _, _, rfl, ?_, rfl, rd6⟩, ⟨_, _, _, rfl, ?_, rfl, rd10⟩, trivial⟩
 exact WL.rI ht hn
 exact WL.rI ht hn
 refine WL.entryStore (T := intT) (k := (qac1 e.fFrom x8 x6)) (y := (if 1099511627775 < (wr ((rowC g w m1_4 e.fTo x8 (qac17 x8 x6)).1 + 1)) then 1099511627775 else (wr ((rowC g w m1_4 e.fTo x8 (qac17 x8 x6)).1 + 1)))) hn (by rfl) rfl (by rfl) (by rfl) (by rfl) (by rfl) (by rfl) (by rfl) ?_
 refine WL.nil ?_
 exact sub_ok (by kernel_rfl)
 refine XsOk.have 7 #[tt, tt, tt, tt, tt, tt, tt, tt, tt, ff, tt, tt, tt, tt, ff, ff, tt, tt, ff, ff, ff, ff] ⟨[qac9 w, qac4, qac5, sl 6 (I x6), sl 8 (I x8), qac7 g w m1_4 e.fTo x8 x6, qac16, qac3 g, qac2 g, sl 38 (I x38), qac21, qac14, sl 88 (I (if 1099511627775 < (wr ((rowC g w m1_4 e.fTo x8 (qac17 x8 x6)).1 + 1)) then 1099511627775 else (wr ((rowC g w m1_4 e.fTo x8 (qac17 x8 x6)).1 + 1)))), sl 89 (I x38), sl 93 (I (((stampX (qac1 e.fFrom x8 x6) m1_4 es ck) : Nat) : Int))], [.box (qac6 g) 37 false, mapB St170.enc intT (mput (qac1 e.fFrom x8 x6) ((mget (qac1 e.fFrom x8 x6) m1_4).getD (0 : Int)) m1_4) (qac1 e.fFrom x8 x6) (stampX (qac1 e.fFrom x8 x6) m1_4 es ck), mapX St170.enc GramChoice.ty m2_4 es_2 ck_2, qac0 g w, .gone, qac10 e.fFrom x8 x6]⟩ ?_ (fun rd2 => ?_)
 refine RD.succ [9, 14, 18] (by kernel_rfl) rfl ⟨⟨_, _, _, rfl, ?_, rfl, rd7⟩, ⟨_, _, _, rfl, ?_, rfl, rd5⟩, ⟨_, _, _, rfl, ?_, rfl, rd9⟩, trivial⟩
 exact WL.rI ht hn
 exact WL.rI ht hn
 refine WL.entryStore (T := intT) (k := (qac1 e.fFrom x8 x6)) (y := (if 1099511627775 < (wr ((rowC g w m1_4 e.fTo x8 (qac17 x8 x6)).1 + 1)) then 1099511627775 else (wr ((rowC g w m1_4 e.fTo x8 (qac17 x8 x6)).1 + 1)))) hn (by rfl) rfl (by rfl) (by rfl) (by rfl) (by rfl) (by rfl) (by rfl) ?_
 refine WL.nil ?_
 exact sub_ok (by kernel_rfl)
 refine XsOk.have 7 #[tt, tt, tt, tt, tt, tt, tt, tt, tt, ff, tt, tt, tt, ff, tt, ff, tt, tt, ff, ff, ff, ff] ⟨[qac9 w, qac4, qac5, sl 6 (I x6), sl 8 (I x8), sl 9 (I x38), qac16, qac3 g, qac2 g, sl 38 (I x38), qac21, qac14, sl 88 (I (if 1099511627775 < (wr ((rowC g w m1_4 e.fTo x8 (qac17 x8 x6)).1 + 1)) then 1099511627775 else (wr ((rowC g w m1_4 e.fTo x8 (qac17 x8 x6)).1 + 1)))), qac12 g w m1_4 e.fTo x8 x6, sl 93 (I (((stampX (qac1 e.fFrom x8 x6) m1_4 es ck) : Nat) : Int))], [.box (qac6 g) 37 false, mapB St170.enc intT (mput (qac1 e.fFrom x8 x6) ((mget (qac1 e.fFrom x8 x6) m1_4).getD (0 : Int)) m1_4) (qac1 e.fFrom x8 x6) (stampX (qac1 e.fFrom x8 x6) m1_4 es ck), mapX St170.enc GramChoice.ty m2_4 es_2 ck_2, qac0 g w, .gone, qac10 e.fFrom x8 x6]⟩ ?_ (fun rd1 => ?_)
 refine RD.succ [9, 13, 18] (by kernel_rfl) rfl ⟨⟨_, _, _, rfl, ?_, rfl, rd6⟩, ⟨_, _, _, rfl, ?_, rfl, rd5⟩, ⟨_, _, _, rfl, ?_, rfl, rd8⟩, trivial⟩
 exact WL.rI ht hn
 exact WL.rI ht hn
 refine WL.entryStore (T := intT) (k := (qac1 e.fFrom x8 x6)) (y := (if 1099511627775 < (wr ((rowC g w m1_4 e.fTo x8 (qac17 x8 x6)).1 + 1)) then 1099511627775 else (wr ((rowC g w m1_4 e.fTo x8 (qac17 x8 x6)).1 + 1)))) hn (by rfl) rfl (by rfl) (by rfl) (by rfl) (by rfl) (by rfl) (by rfl) ?_
 refine WL.nil ?_
 exact sub_ok (by kernel_rfl)
 refine XsOk.have 8 #[tt, tt, tt, tt, tt, tt, tt, tt, tt, ff, tt, tt, tt, ff, ff, ff, tt, tt, ff, ff, ff, ff] ⟨[qac9 w, qac4, qac5, sl 6 (I x6), sl 8 (I x8), sl 9 (I x38), qac7 g w m1_4 e.fTo x8 x6, qac16, qac3 g, qac2 g, sl 38 (I x38), qac21, qac14, sl 88 (I (if 1099511627775 < (wr ((rowC g w m1_4 e.fTo x8 (qac17 x8 x6)).1 + 1)) then 1099511627775 else (wr ((rowC g w m1_4 e.fTo x8 (qac17 x8 x6)).1 + 1)))), sl 93 (I (((stampX (qac1 e.fFrom x8 x6) m1_4 es ck) : Nat) : Int))], [.box (qac6 g) 37 false, mapB St170.enc intT (mput (qac1 e.fFrom x8 x6) ((mget (qac1 e.fFrom x8 x6) m1_4).getD (0 : Int)) m1_4) (qac1 e.fFrom x8 x6) (stampX (qac1 e.fFrom x8 x6) m1_4 es ck), mapX St170.enc GramChoice.ty m2_4 es_2 ck_2, qac0 g w, .gone, qac10 e.fFrom x8 x6]⟩ ?_ (fun rd0 => ?_)
 refine RD.succ [9, 13, 14, 18] (by kernel_rfl) rfl ⟨⟨_, _, _, rfl, ?_, rfl, rd3⟩, ⟨_, _, _, rfl, ?_, rfl, rd2⟩, ⟨_, _, _, rfl, ?_, rfl, rd1⟩, ⟨_, _, _, rfl, ?_, rfl, rd4⟩, trivial⟩
 exact WL.rI ht hn
 exact WL.rI ht hn
 exact WL.rI ht hn
 refine WL.entryStore (T := intT) (k := (qac1 e.fFrom x8 x6)) (y := (if 1099511627775 < (wr ((rowC g w m1_4 e.fTo x8 (qac17 x8 x6)).1 + 1)) then 1099511627775 else (wr ((rowC g w m1_4 e.fTo x8 (qac17 x8 x6)).1 + 1)))) hn (by rfl) rfl (by rfl) (by rfl) (by rfl) (by rfl) (by rfl) (by rfl) ?_
 refine WL.nil ?_
 exact sub_ok (by kernel_rfl)
 exact ⟨⟨⟨[qac9 w, qac4, qac5, sl 6 (I x6), sl 8 (I x8), sl 9 (I x38), qac7 g w m1_4 e.fTo x8 x6, qac16, qac3 g, qac2 g, sl 38 (I x38), qac21, qac14, sl 88 (I (if 1099511627775 < (wr ((rowC g w m1_4 e.fTo x8 (qac17 x8 x6)).1 + 1)) then 1099511627775 else (wr ((rowC g w m1_4 e.fTo x8 (qac17 x8 x6)).1 + 1)))), sl 93 (I (((stampX (qac1 e.fFrom x8 x6) m1_4 es ck) : Nat) : Int))], [.box (qac6 g) 37 false, mapB St170.enc intT (mput (qac1 e.fFrom x8 x6) ((mget (qac1 e.fFrom x8 x6) m1_4).getD (0 : Int)) m1_4) (qac1 e.fFrom x8 x6) (stampX (qac1 e.fFrom x8 x6) m1_4 es ck), mapX St170.enc GramChoice.ty m2_4 es_2 ck_2, qac0 g w, .gone, qac10 e.fFrom x8 x6]⟩, 8, by kernel_rfl, by rfl, rd0⟩, ⟨⟨[qac9 w, qac4, qac5, sl 6 (I x6), sl 8 (I x8), sl 9 (I x38), qac16, qac3 g, qac2 g, sl 38 (I x38), qac21, qac14, sl 88 (I (if 1099511627775 < (wr ((rowC g w m1_4 e.fTo x8 (qac17 x8 x6)).1 + 1)) then 1099511627775 else (wr ((rowC g w m1_4 e.fTo x8 (qac17 x8 x6)).1 + 1)))), qac12 g w m1_4 e.fTo x8 x6, sl 93 (I (((stampX (qac1 e.fFrom x8 x6) m1_4 es ck) : Nat) : Int))], [.box (qac6 g) 37 false, mapB St170.enc intT (mput (qac1 e.fFrom x8 x6) ((mget (qac1 e.fFrom x8 x6) m1_4).getD (0 : Int)) m1_4) (qac1 e.fFrom x8 x6) (stampX (qac1 e.fFrom x8 x6) m1_4 es ck), mapX St170.enc GramChoice.ty m2_4 es_2 ck_2, qac0 g w, .gone, qac10 e.fFrom x8 x6]⟩, 7, by kernel_rfl, by rfl, rd1⟩, ⟨⟨[qac9 w, qac4, qac5, sl 6 (I x6), sl 8 (I x8), qac7 g w m1_4 e.fTo x8 x6, qac16, qac3 g, qac2 g, sl 38 (I x38), qac21, qac14, sl 88 (I (if 1099511627775 < (wr ((rowC g w m1_4 e.fTo x8 (qac17 x8 x6)).1 + 1)) then 1099511627775 else (wr ((rowC g w m1_4 e.fTo x8 (qac17 x8 x6)).1 + 1)))), sl 89 (I x38), sl 93 (I (((stampX (qac1 e.fFrom x8 x6) m1_4 es ck) : Nat) : Int))], [.box (qac6 g) 37 false, mapB St170.enc intT (mput (qac1 e.fFrom x8 x6) ((mget (qac1 e.fFrom x8 x6) m1_4).getD (0 : Int)) m1_4) (qac1 e.fFrom x8 x6) (stampX (qac1 e.fFrom x8 x6) m1_4 es ck), mapX St170.enc GramChoice.ty m2_4 es_2 ck_2, qac0 g w, .gone, qac10 e.fFrom x8 x6]⟩, 7, by kernel_rfl, by rfl, rd2⟩, ⟨⟨[qac9 w, qac4, qac5, sl 6 (I x6), sl 8 (I x8), qac16, qac3 g, qac2 g, sl 38 (I x38), qac21, qac14, sl 88 (I (if 1099511627775 < (wr ((rowC g w m1_4 e.fTo x8 (qac17 x8 x6)).1 + 1)) then 1099511627775 else (wr ((rowC g w m1_4 e.fTo x8 (qac17 x8 x6)).1 + 1)))), sl 89 (I x38), qac12 g w m1_4 e.fTo x8 x6, sl 93 (I (((stampX (qac1 e.fFrom x8 x6) m1_4 es ck) : Nat) : Int))], [.box (qac6 g) 37 false, mapB St170.enc intT (mput (qac1 e.fFrom x8 x6) ((mget (qac1 e.fFrom x8 x6) m1_4).getD (0 : Int)) m1_4) (qac1 e.fFrom x8 x6) (stampX (qac1 e.fFrom x8 x6) m1_4 es ck), mapX St170.enc GramChoice.ty m2_4 es_2 ck_2, qac0 g w, .gone, qac10 e.fFrom x8 x6]⟩, 6, by kernel_rfl, by rfl, rd5⟩, ⟨⟨[qac9 w, qac4, qac5, sl 6 (I x6), sl 8 (I x8), qac16, qac3 g, qac2 g, sl 38 (I x38), qac21, qac14, sl 88 (I (if 1099511627775 < (wr ((rowC g w m1_4 e.fTo x8 (qac17 x8 x6)).1 + 1)) then 1099511627775 else (wr ((rowC g w m1_4 e.fTo x8 (qac17 x8 x6)).1 + 1)))), (91, .sv (.agg [I x38, LS intT (rowC g w m1_4 e.fTo x8 (qac17 x8 x6)).2])), sl 93 (I (((stampX (qac1 e.fFrom x8 x6) m1_4 es ck) : Nat) : Int))], [.box (qac6 g) 37 false, mapB St170.enc intT (mput (qac1 e.fFrom x8 x6) ((mget (qac1 e.fFrom x8 x6) m1_4).getD (0 : Int)) m1_4) (qac1 e.fFrom x8 x6) (stampX (qac1 e.fFrom x8 x6) m1_4 es ck), mapX St170.enc GramChoice.ty m2_4 es_2 ck_2, qac0 g w, .gone, qac10 e.fFrom x8 x6]⟩, 5, by kernel_rfl, by rfl, rd11⟩, ⟨⟨[qac9 w, qac4, qac5, sl 6 (I x6), sl 8 (I x8), sl 9 (I x38), qac7 g w m1_4 e.fTo x8 x6, qac3 g, qac2 g, sl 38 (I x38), qac21, qac14, (85, .sv (.agg [I e.fFrom, I x8, I (qac17 x8 x6)])), sl 88 (I (if 1099511627775 < (wr ((rowC g w m1_4 e.fTo x8 (qac17 x8 x6)).1 + 1)) then 1099511627775 else (wr ((rowC g w m1_4 e.fTo x8 (qac17 x8 x6)).1 + 1)))), sl 93 (I (((stampX (qac1 e.fFrom x8 x6) m1_4 es ck) : Nat) : Int))], [.box (qac6 g) 37 false, mapB St170.enc intT (mput (qac1 e.fFrom x8 x6) ((mget (qac1 e.fFrom x8 x6) m1_4).getD (0 : Int)) m1_4) (qac1 e.fFrom x8 x6) (stampX (qac1 e.fFrom x8 x6) m1_4 es ck), mapX St170.enc GramChoice.ty m2_4 es_2 ck_2, qac0 g w]⟩, 7, by kernel_rfl, by rfl, rd3⟩, ⟨⟨[qac9 w, qac4, qac5, sl 6 (I x6), sl 8 (I x8), sl 9 (I x38), qac3 g, qac2 g, sl 38 (I x38), qac21, qac14, (85, .sv (.agg [I e.fFrom, I x8, I (qac17 x8 x6)])), sl 88 (I (if 1099511627775 < (wr ((rowC g w m1_4 e.fTo x8 (qac17 x8 x6)).1 + 1)) then 1099511627775 else (wr ((rowC g w m1_4 e.fTo x8 (qac17 x8 x6)).1 + 1)))), qac12 g w m1_4 e.fTo x8 x6, sl 93 (I (((stampX (qac1 e.fFrom x8 x6) m1_4 es ck) : Nat) : Int))], [.box (qac6 g) 37 false, mapB St170.enc intT (mput (qac1 e.fFrom x8 x6) ((mget (qac1 e.fFrom x8 x6) m1_4).getD (0 : Int)) m1_4) (qac1 e.fFrom x8 x6) (stampX (qac1 e.fFrom x8 x6) m1_4 es ck), mapX St170.enc GramChoice.ty m2_4 es_2 ck_2, qac0 g w]⟩, 6, by kernel_rfl, by rfl, rd6⟩, ⟨⟨[qac9 w, qac4, qac5, sl 6 (I x6), sl 8 (I x8), qac7 g w m1_4 e.fTo x8 x6, qac3 g, qac2 g, sl 38 (I x38), qac21, qac14, (85, .sv (.agg [I e.fFrom, I x8, I (qac17 x8 x6)])), sl 88 (I (if 1099511627775 < (wr ((rowC g w m1_4 e.fTo x8 (qac17 x8 x6)).1 + 1)) then 1099511627775 else (wr ((rowC g w m1_4 e.fTo x8 (qac17 x8 x6)).1 + 1)))), sl 89 (I x38), sl 93 (I (((stampX (qac1 e.fFrom x8 x6) m1_4 es ck) : Nat) : Int))], [.box (qac6 g) 37 false, mapB St170.enc intT (mput (qac1 e.fFrom x8 x6) ((mget (qac1 e.fFrom x8 x6) m1_4).getD (0 : Int)) m1_4) (qac1 e.fFrom x8 x6) (stampX (qac1 e.fFrom x8 x6) m1_4 es ck), mapX St170.enc GramChoice.ty m2_4 es_2 ck_2, qac0 g w]⟩, 6, by kernel_rfl, by rfl, rd7⟩, ⟨⟨[qac9 w, qac4, qac5, sl 6 (I x6), sl 8 (I x8), qac3 g, qac2 g, sl 38 (I x38), qac21, qac14, (85, .sv (.agg [I e.fFrom, I x8, I (qac17 x8 x6)])), sl 88 (I (if 1099511627775 < (wr ((rowC g w m1_4 e.fTo x8 (qac17 x8 x6)).1 + 1)) then 1099511627775 else (wr ((rowC g w m1_4 e.fTo x8 (qac17 x8 x6)).1 + 1)))), sl 89 (I x38), qac12 g w m1_4 e.fTo x8 x6, sl 93 (I (((stampX (qac1 e.fFrom x8 x6) m1_4 es ck) : Nat) : Int))], [.box (qac6 g) 37 false, mapB St170.enc intT (mput (qac1 e.fFrom x8 x6) ((mget (qac1 e.fFrom x8 x6) m1_4).getD (0 : Int)) m1_4) (qac1 e.fFrom x8 x6) (stampX (qac1 e.fFrom x8 x6) m1_4 es ck), mapX St170.enc GramChoice.ty m2_4 es_2 ck_2, qac0 g w]⟩, 5, by kernel_rfl, by rfl, rd12⟩, ⟨⟨[qac9 w, qac4, qac5, sl 6 (I x6), sl 8 (I x8), qac3 g, qac2 g, sl 38 (I x38), qac21, qac14, (85, .sv (.agg [I e.fFrom, I x8, I (qac17 x8 x6)])), sl 88 (I (if 1099511627775 < (wr ((rowC g w m1_4 e.fTo x8 (qac17 x8 x6)).1 + 1)) then 1099511627775 else (wr ((rowC g w m1_4 e.fTo x8 (qac17 x8 x6)).1 + 1)))), (91, .sv (.agg [I x38, LS intT (rowC g w m1_4 e.fTo x8 (qac17 x8 x6)).2])), sl 93 (I (((stampX (qac1 e.fFrom x8 x6) m1_4 es ck) : Nat) : Int))], [.box (qac6 g) 37 false, mapB St170.enc intT (mput (qac1 e.fFrom x8 x6) ((mget (qac1 e.fFrom x8 x6) m1_4).getD (0 : Int)) m1_4) (qac1 e.fFrom x8 x6) (stampX (qac1 e.fFrom x8 x6) m1_4 es ck), mapX St170.enc GramChoice.ty m2_4 es_2 ck_2, qac0 g w]⟩, 4, by kernel_rfl, by rfl, rd17⟩, trivial⟩
 refine En.region ?_
 refine WL.rn ht hn 1 ⟨[qac9 w, qac4, qac5, sl 6 (I x6), sl 7 (B true), sl 8 (I x8), qac3 g, qac2 g, sl 38 (I x38)], [.box (qac6 g) 37 false, mapI St170.enc intT (mput (qac1 e.fFrom x8 x6) (if 1099511627775 < (wr ((rowC g w m1_4 e.fTo x8 (qac17 x8 x6)).1 + 1)) then 1099511627775 else (wr ((rowC g w m1_4 e.fTo x8 (qac17 x8 x6)).1 + 1))) (mput (qac1 e.fFrom x8 x6) ((mget (qac1 e.fFrom x8 x6) m1_4).getD (0 : Int)) m1_4)), mapI St170.enc GramChoice.ty (mput (qac1 e.fFrom x8 x6) (GramChoice.mk x38 (rowC g w m1_4 e.fTo x8 (qac17 x8 x6)).2) (mput (qac1 e.fFrom x8 x6) ((mget (qac1 e.fFrom x8 x6) m2_4).getD qac8) m2_4)), qac0 g w]⟩ ?_
 exact En.at (I := fun zz => J zz.1 zz.2.1 zz.2.2) (T := fun zz => ⟨[qac9 w, qac4, qac5, sl 6 (I x6), sl 7 (B zz.1), sl 8 (I x8), qac3 g, qac2 g, sl 38 (I x38)], (qac13 g w zz.2.1 zz.2.2)⟩) (true, (mput (qac1 e.fFrom x8 x6) (if 1099511627775 < (wr ((rowC g w m1_4 e.fTo x8 (qac17 x8 x6)).1 + 1)) then 1099511627775 else (wr ((rowC g w m1_4 e.fTo x8 (qac17 x8 x6)).1 + 1))) (mput (qac1 e.fFrom x8 x6) ((mget (qac1 e.fFrom x8 x6) m1_4).getD (0 : Int)) m1_4)), (mput (qac1 e.fFrom x8 x6) (GramChoice.mk x38 (rowC g w m1_4 e.fTo x8 (qac17 x8 x6)).2) (mput (qac1 e.fFrom x8 x6) ((mget (qac1 e.fFrom x8 x6) m2_4).getD qac8) m2_4))) h (by kernel_rfl)
 refine En.skip ?_
 exact En.at (I := fun zz => J zz.1 zz.2.1 zz.2.2) (T := fun zz => ⟨[qac9 w, qac4, qac5, sl 6 (I x6), sl 7 (B zz.1), sl 8 (I x8), qac3 g, qac2 g, sl 38 (I x38)], (qac13 g w zz.2.1 zz.2.2)⟩) (x7_3, m1_4, m2_4) h (by kernel_rfl)
 rintro ⟨x7_4, m1_5, m2_5⟩ h
 replace h := hJ _ _ _ h
 show En c ⟨[qac9 w, qac4, qac5, sl 6 (I x6), sl 7 (B x7_4), sl 8 (I x8), qac3 g, qac2 g, sl 38 (I x38)], [.box (qac6 g) 37 false, mapI St170.enc intT m1_5, mapI St170.enc GramChoice.ty m2_5, qac0 g w]⟩ _
 refine En.region ?_
 refine WL.rn ht hn 2 ⟨[qac9 w, qac4, qac5, sl 6 (I x6), sl 7 (B x7_4), sl 8 (I x8), qac3 g, qac2 g, sl 38 (I (wr (x38 + 1)))], [.box (qac6 g) 37 false, mapI St170.enc intT m1_5, mapI St170.enc GramChoice.ty m2_5, qac0 g w]⟩ ?_
 exact En.at (I := fun zz => Inv_4 zz.1 zz.2.1 zz.2.2.1 zz.2.2.2 ∧ mu_4 zz.1 zz.2.1 zz.2.2.1 zz.2.2.2 < mu_4 x7_3 x38 m1_4 m2_4) (T := fun zz => ⟨[qac9 w, qac4, qac5, sl 6 (I x6), sl 7 (B zz.1), sl 8 (I x8), qac3 g, qac2 g, sl 38 (I zz.2.1)], (qac20 g w zz.2.2.1 zz.2.2.2)⟩) (x7_4, (wr (x38 + 1)), m1_5, m2_5) h (by kernel_rfl)
 refine En.exit rfl ?_
 refine En.region ?_
 refine WL.rn ht hn 3 ⟨[qac9 w, qac4, qac5, sl 6 (I x6), sl 7 (B x7_3), sl 8 (I (wr (x8 + 1)))], (qac18 g w m1_4 m2_4)⟩ ?_
 exact En.at (I := fun zz => Inv_3 zz.1 zz.2.1 zz.2.2.1 zz.2.2.2 ∧ mu_3 zz.1 zz.2.1 zz.2.2.1 zz.2.2.2 < mu_3 x7_2 x8 m1_3 m2_3) (T := fun zz => ⟨[qac9 w, qac4, qac5, sl 6 (I x6), sl 7 (B zz.1), sl 8 (I zz.2.1)], (qac20 g w zz.2.2.1 zz.2.2.2)⟩) (x7_3, (wr (x8 + 1)), m1_4, m2_4) h (by kernel_rfl)
 refine En.exit rfl ?_
 exact En.at (I := fun zz => Inv_2 zz.1 zz.2.1 zz.2.2 ∧ mu_2 zz.1 zz.2.1 zz.2.2 < mu_2 x7 m1_2 m2_2) (T := fun zz => ⟨[qac9 w, qac4, qac5, sl 6 (I x6), sl 7 (B zz.1)], (qac13 g w zz.2.1 zz.2.2)⟩) (x7_2, m1_3, m2_3) h (by kernel_rfl)
 refine En.exit rfl ?_
 refine En.region ?_
 refine WL.rn ht hn 3 ⟨[qac9 w, qac4, qac5, sl 6 (I (wr (x6 + 1)))], (qac15 g w m1_2 m2_2)⟩ ?_
 exact En.at (I := fun zz => Inv zz.1 zz.2.1 zz.2.2 ∧ mu zz.1 zz.2.1 zz.2.2 < mu x6 m1 m2) (T := fun zz => ⟨[qac9 w, qac4, qac5, sl 6 (I zz.1)], (qac13 g w zz.2.1 zz.2.2)⟩) ((wr (x6 + 1)), m1_2, m2_2) h (by kernel_rfl)
 refine En.exit rfl ?_
 refine En.sr ?_
 refine WL.rn ht hn 2 ⟨[sl 4 (.ptr 3 0)], [.gone, mapI St170.enc intT m1, mapI St170.enc GramChoice.ty m2, qac0 g w]⟩ ?_
 refine En.ret ?_
 refine En.move 3 0 (by rfl) (by rfl) ?_
 exact En.backE [] ht (m1, m2) h (by kernel_rfl) (by rfl) rfl
theorem en45 : ∀ args w, (callFunc 45 args).run Try.prog w = .ok (.enter 45 args) w := enters_of Try.func45 (by kernel_rfl) rfl
def CtdPre (g : ApiGrammar) (w : List Int) : Prop := GrmOk g ∧ w.length ≤ 12
def CtdQ (g : ApiGrammar) (w : List Int) (r : IMap × YMap) : Prop := CInv g r.1 r.2 ∧ ClosedS g w r.1 (w.length + 1)
def ClosedP (g : ApiGrammar) (w : List Int) (E : IMap) (s : Nat) (k : Nat) : Prop := ∀ i : Nat, i < k → i + s ≤ w.length → ∀ m ∈ g.fMakes, ClosedA g w E m i ((i : Int) + (s : Int))
theorem cTed_ok {g : ApiGrammar} {w : List Int} (hp : CtdPre g w) : cTed_vc g w (CtdQ g w) := by
 obtain ⟨hg, hw⟩ := hp
 have hnm := hg.names
 have hmk := hg.makes
 unfold cTed_vc CtdQ
 intro _ _
 refine ⟨fun x E Y => ∃ s : Nat, x = s ∧ s ≤ w.length + 1 ∧ CInv g E Y ∧ ClosedS g w E s, fun x _ _ => w.length + 1 - x.toNat, ⟨0, rfl, Nat.zero_le _, CInv.start, fun z hz => absurd hz (Nat.not_lt_zero _)⟩, ?_⟩
 rintro x E1 Y1 ⟨s, rfl, hs, hI1, hC1⟩
 refine ⟨fun hb => ?_, fun hb => ?_⟩
 rotate_left
 ·have hb := of_decide_eq_false hb
  obtain rfl : s = w.length + 1 := by omega
  exact ⟨hI1, hC1⟩
 have hb := of_decide_eq_true hb
 refine ⟨fun ag E Y => CInv g E Y ∧ ClosedS g w E s ∧ (ag = false → ClosedP g w E s (w.length + 1)), fun ag E _ => 2 * muC E + (if ag = true then 1 else 0), ⟨hI1, hC1, fun e => (by cases e)⟩, ?_⟩
 rintro ag E2 Y2 ⟨hI2, hC2, hD2⟩
 refine ⟨fun ha => ?_, fun ha => ?_⟩
 rotate_left
 ·refine ⟨⟨s + 1, wsucc (by omega), by omega, hI2, hC2.next fun i hi => hD2 ha i (by omega) hi⟩, ?_⟩
  show w.length + 1 - (wr ((s : Int) + 1)).toNat < w.length + 1 - (s : Int).toNat
  rw [wsucc (by omega)]
  omega
 subst ha
 refine ⟨fun a x E Y => ∃ i : Nat, x = i ∧ i ≤ w.length + 1 ∧ CInv g E Y ∧ ClosedS g w E s ∧ muC E ≤ muC E2 ∧ (a = true → muC E < muC E2) ∧ (a = false → E = E2 ∧ ClosedP g w E2 s i), fun _ x _ _ => w.length + 1 - x.toNat, ⟨0, rfl, Nat.zero_le _, hI2, hC2, Nat.le_refl _, fun e => (by cases e), fun _ => ⟨rfl, fun i hi => absurd hi (Nat.not_lt_zero _)⟩⟩, ?_⟩
 rintro a3 x E3 Y3 ⟨i, rfl, hi, hI3, hC3, hle3, hlt3, hD3⟩
 have hwr : wr ((i : Int) + (s : Int)) = (i : Int) + (s : Int) := wr_in (by omega) (by omega)
 rw [hwr]
 refine ⟨fun hb3 => ?_, fun hb3 => ?_⟩
 rotate_left
 ·have hb3 := of_decide_eq_false hb3
  refine ⟨⟨hI3, hC3, fun e => ?_⟩, ?_⟩
  ·obtain ⟨rfl, h2⟩ := hD3 e
   exact fun i' _ hs' => h2 i' (by omega) hs'
  ·show 2 * muC E3 + (if a3 = true then 1 else 0) < 2 * muC E2 + 1
   by_cases e : a3 = true
   ·have := hlt3 e
    rw [if_pos e]
    omega
   ·rw [if_neg e]
    omega
 have hb3 := of_decide_eq_true hb3
 refine ⟨fun a x E Y => ∃ k : Nat, x = k ∧ k ≤ g.fMakes.length ∧ CInv g E Y ∧ ClosedS g w E s ∧ muC E ≤ muC E2 ∧ (a = true → muC E < muC E2) ∧ (a = false → E = E2 ∧ ClosedP g w E2 s i ∧ ∀ k', k' < k → ∀ m, g.fMakes[k']? = some m → ClosedA g w E2 m i ((i : Int) + (s : Int))), fun _ x _ _ => g.fMakes.length - x.toNat, ⟨0, rfl, Nat.zero_le _, hI3, hC3, hle3, hlt3, fun e => ⟨(hD3 e).1, (hD3 e).2, fun k' hk' => absurd hk' (Nat.not_lt_zero _)⟩⟩, ?_⟩
 rintro a4 x E4 Y4 ⟨k, rfl, hk, hI4, hC4, hle4, hlt4, hD4⟩
 refine ⟨fun hb4 => ?_, fun hb4 => ?_⟩
 rotate_left
 ·obtain rfl : k = g.fMakes.length := by have := dge hb4; omega
  refine ⟨⟨i + 1, wsucc (by omega), by omega, hI4, hC4, hle4, hlt4, fun e => ?_⟩, ?_⟩
  ·obtain ⟨h1, h2, h3⟩ := hD4 e
   refine ⟨h1, fun i' hi' hs' m hm => ?_⟩
   rcases Nat.lt_succ_iff_lt_or_eq.1 hi' with h | rfl
   ·exact h2 i' h hs' m hm
   ·obtain ⟨q, hq, rfl⟩ := List.mem_iff_getElem.1 hm
    exact h3 q hq _ (List.getElem?_eq_getElem hq)
  ·show w.length + 1 - (wr ((i : Int) + 1)).toNat < w.length + 1 - (i : Int).toNat
   rw [wsucc (by omega)]
   omega
 have hlt := dlt hb4
 have hm : g.fMakes[k] ∈ g.fMakes := List.getElem_mem hlt
 have hfr := hg.from_ _ hm
 have hlen := hg.len _ hm
 have hto := hg.tos _ hm
 obtain ⟨m, hme⟩ : ∃ m, m = g.fMakes[k] := ⟨_, rfl⟩
 rw [← hme] at hm hfr hlen hto
 have hr := rowC_le (g := g) (w := w) hI4.cost m.fTo (i : Int) ((i : Int) + (s : Int))
 refine ⟨fun a E Y => CInv g E Y ∧ ClosedS g w E s ∧ muC E ≤ muC E2 ∧ (a = true → muC E < muC E2) ∧ (a = false → E = E2 ∧ ClosedP g w E2 s i ∧ ∀ k', k' < k + 1 → ∀ m, g.fMakes[k']? = some m → ClosedA g w E2 m i ((i : Int) + (s : Int))), ⟨m, by rw [hme]; exact idx_at hlt, ⟨by omega, by omega, by omega, hb3, hw, hI4.cost, hg.lets, fun s hs => by have := hto s hs; have := hg.lets; omega, hlen⟩, fun b => b = decide ((rowC g w E4 m.fTo (i : Int) ((i : Int) + (s : Int))).1 < 1099511627776 ∧ (rowC g w E4 m.fTo (i : Int) ((i : Int) + (s : Int))).1 + 1 < ofC E4 m.fFrom (i : Int) ((i : Int) + (s : Int))), ⟨fun h => ?_, fun h => ?_⟩, ?_⟩, ?_⟩
 ·have h := of_decide_eq_true h
  rw [wr_in (by omega) (by omega)]
  exact decide_eq_decide.2 ⟨fun h2 => ⟨h, h2⟩, fun h2 => h2.2⟩
 ·have h := of_decide_eq_false h
  exact (decide_eq_false fun h2 => h h2.1).symm
 ·rintro _ rfl
  refine ⟨fun h => ?_, fun h => ?_⟩
  ·obtain ⟨h1, h2⟩ := of_decide_eq_true h
   rw [wr_in (by omega) (by omega), mput_put, mput_put]
   obtain ⟨p1, p2⟩ := hI4.put (w := w) hlt hme.symm h1 h2 rfl
   have p3 := muC_put hI4.cost (mem_allC ⟨hfr.1, by omega⟩ ⟨by omega, by omega⟩ ⟨by omega, by omega⟩) p2
   have p4 : muC _ < muC E2 := Nat.lt_of_lt_of_le p3 hle4
   exact ⟨p1, hC4.put, Nat.le_of_lt p4, fun _ => p4, fun e => (by cases e)⟩
  ·have h := of_decide_eq_false h
   refine ⟨hI4, hC4, hle4, hlt4, fun e => ?_⟩
   obtain ⟨h1, h2, h3⟩ := hD4 e
   refine ⟨h1, h2, fun k' hk' m' hm' => ?_⟩
   rcases Nat.lt_succ_iff_lt_or_eq.1 hk' with h4 | rfl
   ·exact h3 k' h4 m' hm'
   ·rw [List.getElem?_eq_getElem hlt, ← hme] at hm'
    cases hm'
    rw [h1] at h
    intro h5
    refine Int.not_lt.1 fun h6 => h ⟨h5, h6⟩
 ·rintro a5 E5 Y5 ⟨h1, h2, h3, h4, h5⟩
  exact ⟨⟨k + 1, wsucc (by omega), hlt, h1, h2, h3, h4, h5⟩, mu_up hlt (by omega)⟩
theorem cTed_ct (g : ApiGrammar) (w : List Int) (hp : CtdPre g w) : CtE 45 [.sv (.agg [I g.fLetters, I g.fNames, LS ApiMake.ty g.fMakes]), .sv (.one (LS intT w))] [] [] (CtdQ g w) (fun (r : (List (St170 × Int)) × (List (St170 × GramChoice))) => .sv (.one (.ptr 0 0))) (fun (r : (List (St170 × Int)) × (List (St170 × GramChoice))) => [.box [I g.fLetters, I g.fNames, LS ApiMake.ty g.fMakes, LS intT w, .own 1, .own 2] 173 false, mapI St170.enc intT r.1, mapI St170.enc GramChoice.ty r.2]) := cTed_walk g w (CtdQ g w) (cTed_ok hp)
theorem en47 : ∀ args w, (callFunc 47 args).run Try.prog w = .ok (.enter 47 args) w := enters_of Try.func47 (by kernel_rfl) rfl
structure MkPre (g : ApiGrammar) (E : IMap) (Y : YMap) (R : List Int) (a i j : Int) (n : Nat) : Prop where
 grm : GrmOk g
 inv : CInv g E Y
 few : ofC E a i j ≤ 2000
 fuel : ofC E a i j < n
 room : (R.length : Int) + ofC E a i j ≤ 100000
def MkPost (E : IMap) (R : List Int) (a i j : Int) (r : List Int) : Prop := (r.length : Int) ≤ R.length + ofC E a i j
def MkC (g : ApiGrammar) (w : List Int) (E : List (St170 × Int)) (Y : List (St170 × GramChoice)) (n : Nat) : Prop := ∀ (R : List Int) (a i j : Int), MkPre g E Y R a i j n → CtE 47 [.sv (.one (.ptr 0 0)), .sv (.one (I a)), .sv (.one (I i)), .sv (.one (I j)), .sv (.one (.own 3))] [.box [I g.fLetters, I g.fNames, LS ApiMake.ty g.fMakes, LS intT w, .own 1, .own 2] 173 false, mapI St170.enc intT E, mapI St170.enc GramChoice.ty Y, rowI 3 intT R] [0] (MkPost E R a i j) (fun (r : List Int) => .sv (.one (.own 3))) (fun (r : List Int) => [.box [I g.fLetters, I g.fNames, LS ApiMake.ty g.fMakes, LS intT w, .own 1, .own 2] 173 false, mapI St170.enc intT E, mapI St170.enc GramChoice.ty Y, rowI 3 intT r])
def cMk_vc (g : ApiGrammar) (w : List Int) (E : List (St170 × Int)) (Y : List (St170 × GramChoice)) (R : List Int) (a : Int) (i : Int) (j : Int) (n : Nat) (Q : (List Int) → Prop) : Prop :=
 capOk R.length (([((mget (St170.mk a i j) Y).getD (GramChoice.mk (0 : Int) [])).fMake] : List Int) : List Int).length 8 ∧
 ∃ e, idx g.fMakes ((mget (St170.mk a i j) Y).getD (GramChoice.mk (0 : Int) [])).fMake = some e ∧
 ∃ (Inv : Int → Int → (List Int) → Prop) (mu : Int → Int → (List Int) → Nat), Inv i 0 (R ++ ([((mget (St170.mk a i j) Y).getD (GramChoice.mk (0 : Int) [])).fMake] : List Int)) ∧
 ∀ (x2 : Int) (x39 : Int) (l3 : List Int) , Inv x2 x39 l3 → (IfP (decide (x39 < (e.fTo.length : Int))) (∃ e_2, idx e.fTo x39 = some e_2 ∧
 ∃ J : (List Int) → Prop, (IfP (decide (e_2 ≥ g.fLetters)) (∃ e_3, idx ((mget (St170.mk a i j) Y).getD (GramChoice.mk (0 : Int) [])).fEnds x39 = some e_3 ∧
 (MkPre g E Y l3 (wr (e_2 - g.fLetters)) x2 e_3 n) ∧
 ∀ r : (List Int), (MkPost E l3 (wr (e_2 - g.fLetters)) x2 e_3) r →
 (J r)) (J l3)) ∧
 (∀ (l3_2 : List Int), J l3_2 → ∃ e_4, idx ((mget (St170.mk a i j) Y).getD (GramChoice.mk (0 : Int) [])).fEnds x39 = some e_4 ∧
 (Inv e_4 (wr (x39 + 1)) l3_2 ∧ mu e_4 (wr (x39 + 1)) l3_2 < mu x2 x39 l3))) (Q l3))
noncomputable abbrev qad0 (g : ApiGrammar) (w : List Int) := (.box [I g.fLetters, I g.fNames, LS ApiMake.ty g.fMakes, LS intT w, .own 1, .own 2] 173 false : Item)
noncomputable abbrev qad1 (a : Int) (i : Int) (j : Int) (Y : List (St170 × GramChoice)) := (GramChoice.cl ((mget (St170.mk a i j) Y).getD (GramChoice.mk (0 : Int) [])))
noncomputable abbrev qad2 := (GramChoice.mk (0 : Int) [])
noncomputable abbrev qad3 (y0 : Nat → Nat) := sl 0 (.pptr 0 0 (y0 0))
noncomputable abbrev qad4 := sl 11 (.ptr 4 0)
noncomputable abbrev qad5 (a : Int) (i : Int) (j : Int) (Y : List (St170 × GramChoice)) := (mget (St170.mk a i j) Y)
noncomputable abbrev qad6 (y0) := sl 37 (LS intT y0)
theorem cMk_walk (g : ApiGrammar) (w : List Int) (E : List (St170 × Int)) (Y : List (St170 × GramChoice)) (R : List Int) (a : Int) (i : Int) (j : Int) (n : Nat) (ih : MkC g w E Y n) (Q : (List Int) → Prop) (h : cMk_vc g w E Y R a i j n Q) : CtE 47 [.sv (.one (.ptr 0 0)), .sv (.one (I a)), .sv (.one (I i)), .sv (.one (I j)), .sv (.one (.own 3))] [.box [I g.fLetters, I g.fNames, LS ApiMake.ty g.fMakes, LS intT w, .own 1, .own 2] 173 false, mapI St170.enc intT E, mapI St170.enc GramChoice.ty Y, rowI 3 intT R] [0] Q (fun (r : List Int) => .sv (.one (.own 3))) (fun (r : List Int) => [.box [I g.fLetters, I g.fNames, LS ApiMake.ty g.fMakes, LS intT w, .own 1, .own 2] 173 false, mapI St170.enc intT E, mapI St170.enc GramChoice.ty Y, rowI 3 intT r]) := by
 have ht := tab_ok
 refine CtE.body Try.func47 rfl rfl rfl (by kernel_rfl) (by kernel_rfl) (fun c Bk hn => ?_)
 unfold cMk_vc at h
 show En c ⟨[qad3 Bk, sl 1 (I a), sl 2 (I i), sl 3 (I j), sl 4 (.own 3)], [qad0 g w, mapI St170.enc intT E, mapI St170.enc GramChoice.ty Y, rowI 3 intT R]⟩ _
 refine En.sr ?_
 refine WL.rn ht hn 1 ⟨[qad3 Bk, sl 1 (I a), sl 2 (I i), sl 3 (I j), sl 4 (.own 3)], [qad0 g w, mapI St170.enc intT E, mapI St170.enc GramChoice.ty Y, rowI 3 intT R]⟩ ?_
 refine En.sr ?_
 refine WL.r ht hn 8 ⟨[qad3 Bk, sl 2 (I i), sl 4 (.own 3), sl 17 (.own 2), (21, .sv (.agg [I a, I i, I j]))], [qad0 g w, mapI St170.enc intT E, mapI St170.enc GramChoice.ty Y, rowI 3 intT R]⟩ ?_
 refine WL.v hn (val_lookup (T := GramChoice.ty) (D := Y) St170.keyLaw (k := (St170.mk a i j)) (ok := false) qad2 (zv := (.agg #[.int .i64 0, .slice none 0 0])) rfl Try.underlying171 (fun _ => by kernel_rfl) (fun _ => ⟨_, rfl, ⟨rfl, trivial⟩, trivial, ls_nil, trivial, trivial⟩) (mapAs St170.enc GramChoice.ty Y) (by rfl) (by rfl) (by rfl) (fun _ => rfl)) ?_
 refine WL.rn ht hn 2 ⟨[qad3 Bk, sl 2 (I i), sl 4 (.own 3), qad4], [qad0 g w, mapI St170.enc intT E, mapI St170.enc GramChoice.ty Y, rowI 3 intT R, .box (qad1 a i j Y) 177 false]⟩ ?_
 refine En.sr ?_
 refine WL.r ht hn 3 ⟨[qad3 Bk, sl 2 (I i), qad4, sl 23 (.own 3), sl 25 (I ((qad5 a i j Y).getD qad2).fMake)], [qad0 g w, mapI St170.enc intT E, mapI St170.enc GramChoice.ty Y, rowI 3 intT R, .box (qad1 a i j Y) 177 false]⟩ ?_
 refine WL.mt0 (K := []) (p := some (5, rowI 3 intT ([((qad5 a i j Y).getD qad2).fMake] : List Int))) hn (by rfl) (mt_lit (T := intT) ([((qad5 a i j Y).getD qad2).fMake] : List Int) (mt_bsl 5 (r := cellsOf intT ([((qad5 a i j Y).getD qad2).fMake] : List Int)) ht rfl (by rfl) (by rfl) (by rfl) (by kernel_rfl) (by rfl)) (fun _ h => by cases h) (fun _ => rfl) (fun _ => rfl) (by rfl) (Nat.le_of_ble_eq_true rfl)) (by rfl) (by rfl) (by rfl) ?_
 refine WL.seal (T := intT) (l := ([((qad5 a i j Y).getD qad2).fMake] : List Int)) (e := 3) 5 rfl ?_
 refine WL.r ht hn 0 ⟨[qad3 Bk, sl 2 (I i), qad4, sl 23 (.own 3), sl 25 (I ((qad5 a i j Y).getD qad2).fMake), sl 26 (LS intT ([((qad5 a i j Y).getD qad2).fMake] : List Int))], [qad0 g w, mapI St170.enc intT E, mapI St170.enc GramChoice.ty Y, rowI 3 intT R, .box (qad1 a i j Y) 177 false, .gone]⟩ ?_
 obtain ⟨hp, h⟩ := h
 refine WL.mt (S2 := ⟨[qad3 Bk, sl 2 (I i), qad4, sl 25 (I ((qad5 a i j Y).getD qad2).fMake), sl 26 (LS intT ([((qad5 a i j Y).getD qad2).fMake] : List Int))], [qad0 g w, mapI St170.enc intT E, mapI St170.enc GramChoice.ty Y, rowI 3 intT R, .box (qad1 a i j Y) 177 false, .gone]⟩) (K := [3]) (p := some (3, rowI 3 intT (R ++ ([((qad5 a i j Y).getD qad2).fMake] : List Int)))) hn (by rfl) (mt_append (T := intT) (l := R) (es := ([((qad5 a i j Y).getD qad2).fMake] : List Int)) ht rfl (by rfl) (by rfl) (by rfl) (by rfl) (by decide) (by rfl) (by rfl) (srcLS (T := intT) (es := ([((qad5 a i j Y).getD qad2).fMake] : List Int)) (fun _ h => by cases h) (by decide) (by rfl)) (by exact hp) (by exact hp.le (by decide))) (by kernel_rfl) (by rfl) (by rfl) (by rfl) ?_
 refine WL.rn ht hn 1 ⟨[qad3 Bk, sl 2 (I i), sl 4 (.own 3), qad4], [qad0 g w, mapI St170.enc intT E, mapI St170.enc GramChoice.ty Y, rowI 3 intT (R ++ ([((qad5 a i j Y).getD qad2).fMake] : List Int)), .box (qad1 a i j Y) 177 false, .gone]⟩ ?_
 refine En.seq ?_
 refine En.seq ?_
 refine En.regionS (by kernel_rfl) (by kernel_rfl) ?_
 refine SL.run ht hn 7 ⟨[qad3 Bk, sl 2 (I i), sl 4 (.own 3), qad4, sl 28 (.ptr 0 0), sl 29 (.ptr 0 0), sl 30 (.ptr 0 0), sl 31 (.ptr 0 2), sl 32 (LS ApiMake.ty g.fMakes), sl 33 (.ptr 4 0), sl 34 (I ((qad5 a i j Y).getD qad2).fMake)], [qad0 g w, mapI St170.enc intT E, mapI St170.enc GramChoice.ty Y, rowI 3 intT (R ++ ([((qad5 a i j Y).getD qad2).fMake] : List Int)), .box (qad1 a i j Y) 177 false, .gone]⟩ (by kernel_rfl) ?_
 obtain ⟨e, he, h⟩ := h
 refine SL.val hn (by rfl) (val_ix (T := ApiMake.ty) (l := g.fMakes) (i := ((qad5 a i j Y).getD qad2).fMake) ht rfl he) (by rfl) ?_
 refine SL.val hn (by rfl) (val_fd (l := (ApiMake.cl e)) (r := .one (LS intT e.fTo)) ht rfl) (by rfl) ?_
 refine SL.val hn (by rfl) (val_ld (s := .one (LS intT e.fTo)) ht rfl) (by rfl) ?_
 refine SL.run ht hn 2 ⟨[qad3 Bk, sl 2 (I i), sl 4 (.own 3), qad4, sl 28 (.ptr 0 0), sl 29 (.ptr 0 0), sl 30 (.ptr 0 0), sl 31 (.ptr 0 2), sl 32 (LS ApiMake.ty g.fMakes), sl 33 (.ptr 4 0), sl 34 (I ((qad5 a i j Y).getD qad2).fMake), sl 35 (.pe (svR (.agg (ApiMake.cl e))) 2), sl 36 (.pe (svR (.one (LS intT e.fTo))) 1), qad6 e.fTo, sl 38 (I (e.fTo.length : Int)), sl 39 (I 0)], [qad0 g w, mapI St170.enc intT E, mapI St170.enc GramChoice.ty Y, rowI 3 intT (R ++ ([((qad5 a i j Y).getD qad2).fMake] : List Int)), .box (qad1 a i j Y) 177 false, .gone]⟩ (by kernel_rfl) ?_
 refine SL.nil ⟨by kernel_rfl, ?_⟩
 refine En.block ?_
 obtain ⟨Inv, mu, h0, hI⟩ := h
 refine En.loop (σ := Int × Int × (List Int)) (fun zz => Inv zz.1 zz.2.1 zz.2.2) (fun zz => mu zz.1 zz.2.1 zz.2.2) (fun zz => ⟨[qad3 Bk, sl 2 (I zz.1), sl 4 (.own 3), qad4, qad6 e.fTo, sl 38 (I (e.fTo.length : Int)), sl 39 (I zz.2.1)], [qad0 g w, mapI St170.enc intT E, mapI St170.enc GramChoice.ty Y, rowI 3 intT zz.2.2, .box (qad1 a i j Y) 177 false, .gone]⟩) (i, 0, (R ++ ([((qad5 a i j Y).getD qad2).fMake] : List Int))) h0 (sub_ok (by kernel_rfl)) ?_
 rintro ⟨x2, x39, l3⟩ h
 replace h := hI _ _ _ h
 show En c ⟨[qad3 Bk, sl 2 (I x2), sl 4 (.own 3), qad4, qad6 e.fTo, sl 38 (I (e.fTo.length : Int)), sl 39 (I x39)], [qad0 g w, mapI St170.enc intT E, mapI St170.enc GramChoice.ty Y, rowI 3 intT l3, .box (qad1 a i j Y) 177 false, .gone]⟩ _
 refine En.sr ?_
 refine WL.rn ht hn 1 ⟨[qad3 Bk, sl 2 (I x2), sl 4 (.own 3), qad4, qad6 e.fTo, sl 38 (I (e.fTo.length : Int)), sl 39 (I x39), sl 40 (B (decide (x39 < (e.fTo.length : Int))))], [qad0 g w, mapI St170.enc intT E, mapI St170.enc GramChoice.ty Y, rowI 3 intT l3, .box (qad1 a i j Y) 177 false, .gone]⟩ ?_
 refine En.seq ?_
 refine En.ch h (fun h => ?_) (fun h => ?_)
 refine En.skip ?_
 refine En.seq ?_
 refine En.block ?_
 refine En.sr ?_
 refine WL.r ht hn 1 ⟨[qad3 Bk, sl 2 (I x2), sl 4 (.own 3), qad4, qad6 e.fTo, sl 38 (I (e.fTo.length : Int)), sl 39 (I x39), sl 41 (I x39)], [qad0 g w, mapI St170.enc intT E, mapI St170.enc GramChoice.ty Y, rowI 3 intT l3, .box (qad1 a i j Y) 177 false, .gone]⟩ ?_
 obtain ⟨e_2, he_2, h⟩ := h
 refine WL.v hn (val_ix (T := intT) (l := e.fTo) (i := x39) ht rfl he_2) ?_
 refine WL.v hn (val_ld (s := .one (I e_2)) ht rfl) ?_
 refine WL.rn ht hn 2 ⟨[qad3 Bk, sl 2 (I x2), sl 4 (.own 3), qad4, sl 12 (I x39), sl 13 (I e_2), qad6 e.fTo, sl 38 (I (e.fTo.length : Int)), sl 39 (I x39)], [qad0 g w, mapI St170.enc intT E, mapI St170.enc GramChoice.ty Y, rowI 3 intT l3, .box (qad1 a i j Y) 177 false, .gone]⟩ ?_
 obtain ⟨J, h, hJ⟩ := h
 refine En.seqJ (σ := (List Int)) (fun zz => J zz) (fun zz => ⟨[qad3 Bk, sl 4 (.own 3), qad4, sl 12 (I x39), qad6 e.fTo, sl 38 (I (e.fTo.length : Int)), sl 39 (I x39)], [qad0 g w, mapI St170.enc intT E, mapI St170.enc GramChoice.ty Y, rowI 3 intT zz, .box (qad1 a i j Y) 177 false, .gone]⟩) ?_ ?_
 refine En.sr ?_
 refine WL.rn ht hn 7 ⟨[qad3 Bk, sl 2 (I x2), sl 4 (.own 3), qad4, sl 12 (I x39), sl 13 (I e_2), qad6 e.fTo, sl 38 (I (e.fTo.length : Int)), sl 39 (I x39), sl 50 (B (decide (e_2 ≥ g.fLetters)))], [qad0 g w, mapI St170.enc intT E, mapI St170.enc GramChoice.ty Y, rowI 3 intT l3, .box (qad1 a i j Y) 177 false, .gone]⟩ ?_
 refine En.ch h (fun h => ?_) (fun h => ?_)
 obtain ⟨e_3, he_3, h⟩ := h
 refine En.regionT ⟨[qad3 Bk, sl 2 (I x2), sl 4 (.own 3), qad4, sl 12 (I x39), sl 13 (I e_2), qad6 e.fTo, sl 38 (I (e.fTo.length : Int)), sl 39 (I x39)], [.sv (.one (.ptr 0 0)), .sv (.one (I e_2)), .sv (.one (.ptr 0 0)), .sv (.one (.ptr 0 0)), .sv (.one (.ptr 0 0)), .sv (.one (.ptr 0 0)), .sv (.one (I g.fLetters)), .sv (.one (I (wr (e_2 - g.fLetters)))), .sv (.one (I x2)), .sv (.one (.ptr 4 1)), .sv (.one (LS intT ((qad5 a i j Y).getD qad2).fEnds)), .sv (.one (I x39)), .sv (.one (.pe (svR (.one (I e_3))) 1)), .sv (.one (I e_3)), .sv (.one (.own 3))], [⟨(qad0 g w), none, none, none⟩, ⟨mapI St170.enc intT E, none, none, none⟩, ⟨mapI St170.enc GramChoice.ty Y, none, none, none⟩, ⟨rowI 3 intT l3, none, none, none⟩, ⟨.box (qad1 a i j Y) 177 false, none, none, none⟩, ⟨.gone, none, none, none⟩]⟩ 15 ⟨[qad3 Bk, qad4, sl 12 (I x39), qad6 e.fTo, sl 38 (I (e.fTo.length : Int)), sl 39 (I x39), sl 51 (.ptr 0 0), sl 58 (I (wr (e_2 - g.fLetters))), sl 59 (I x2), sl 64 (I e_3), sl 65 (.own 3)], [qad0 g w, mapI St170.enc intT E, mapI St170.enc GramChoice.ty Y, rowI 3 intT l3, .box (qad1 a i j Y) 177 false, .gone]⟩ (by kernel_rfl) hn (by kernel_rfl) (by kernel_rfl) (by kernel_rfl) (by rfl) (by kernel_rfl) ?_ (by kernel_rfl) ?_
 exact ⟨.ev ⟨[qad3 Bk], []⟩ ht,
 .ev ⟨[sl 13 (I e_2)], []⟩ ht,
 .ev ⟨[qad3 Bk], []⟩ ht,
 .ev ⟨[sl 53 (.ptr 0 0)], []⟩ ht,
 .ev ⟨[sl 54 (.ptr 0 0)], []⟩ ht,
 .ev ⟨[sl 55 (.ptr 0 0)], []⟩ ht,
 .ev ⟨[sl 56 (.ptr 0 0)], [qad0 g w]⟩ ht,
 .ev ⟨[sl 52 (I e_2), sl 57 (I g.fLetters)], []⟩ ht,
 .ev ⟨[sl 2 (I x2)], []⟩ ht,
 .ev ⟨[qad4], []⟩ ht,
 .ev ⟨[sl 60 (.ptr 4 1)], [.gone, .gone, .gone, .gone, .box (qad1 a i j Y) 177 false]⟩ ht,
 .ev ⟨[sl 12 (I x39)], []⟩ ht,
 .vl ⟨[sl 61 (LS intT ((qad5 a i j Y).getD qad2).fEnds), sl 62 (I x39)], []⟩ (mt_val (val_ix (T := intT) (l := ((qad5 a i j Y).getD qad2).fEnds) (i := x39) ht rfl he_3)),
 .vl ⟨[sl 63 (.pe (svR (.one (I e_3))) 1)], []⟩ (mt_val (val_ld (s := .one (I e_3)) ht rfl)),
 .ev ⟨[sl 4 (.own 3)], []⟩ ht,
 trivial⟩
 obtain ⟨hp, h⟩ := h
 refine WL.callQ [qad3 Bk, qad4, sl 12 (I x39), qad6 e.fTo, sl 38 (I (e.fTo.length : Int)), sl 39 (I x39), sl 51 (.ptr 0 0), sl 58 (I (wr (e_2 - g.fLetters))), sl 59 (I x2), sl 64 (I e_3)] (ih l3 (wr (e_2 - g.fLetters)) x2 e_3 hp) en47 (caps := []) [0, 1, 2, 3] hn (by rfl) rfl (by rfl) (argsAs (by kernel_rfl) (by rfl)) (by kernel_rfl) (by decide) (by kernel_rfl) (by rfl) (by rfl) (fun r hr_2 => ⟨by rfl, _, by rfl, ?_⟩)
 replace h := h r hr_2
 refine WL.rn ht hn 1 ⟨[qad3 Bk, sl 4 (.own 3), qad4, sl 12 (I x39), qad6 e.fTo, sl 38 (I (e.fTo.length : Int)), sl 39 (I x39)], [qad0 g w, mapI St170.enc intT E, mapI St170.enc GramChoice.ty Y, rowI 3 intT r, .box (qad1 a i j Y) 177 false, .gone]⟩ ?_
 exact En.at (I := fun zz => J zz) (T := fun zz => ⟨[qad3 Bk, sl 4 (.own 3), qad4, sl 12 (I x39), qad6 e.fTo, sl 38 (I (e.fTo.length : Int)), sl 39 (I x39)], [qad0 g w, mapI St170.enc intT E, mapI St170.enc GramChoice.ty Y, rowI 3 intT zz, .box (qad1 a i j Y) 177 false, .gone]⟩) r h (by kernel_rfl)
 refine En.skip ?_
 exact En.at (I := fun zz => J zz) (T := fun zz => ⟨[qad3 Bk, sl 4 (.own 3), qad4, sl 12 (I x39), qad6 e.fTo, sl 38 (I (e.fTo.length : Int)), sl 39 (I x39)], [qad0 g w, mapI St170.enc intT E, mapI St170.enc GramChoice.ty Y, rowI 3 intT zz, .box (qad1 a i j Y) 177 false, .gone]⟩) l3 h (by kernel_rfl)
 intro l3_2 h
 replace h := hJ _ h
 show En c ⟨[qad3 Bk, sl 4 (.own 3), qad4, sl 12 (I x39), qad6 e.fTo, sl 38 (I (e.fTo.length : Int)), sl 39 (I x39)], [qad0 g w, mapI St170.enc intT E, mapI St170.enc GramChoice.ty Y, rowI 3 intT l3_2, .box (qad1 a i j Y) 177 false, .gone]⟩ _
 refine En.region ?_
 refine WL.r ht hn 3 ⟨[qad3 Bk, sl 4 (.own 3), qad4, qad6 e.fTo, sl 38 (I (e.fTo.length : Int)), sl 39 (I x39), sl 68 (LS intT ((qad5 a i j Y).getD qad2).fEnds), sl 69 (I x39)], [qad0 g w, mapI St170.enc intT E, mapI St170.enc GramChoice.ty Y, rowI 3 intT l3_2, .box (qad1 a i j Y) 177 false, .gone]⟩ ?_
 obtain ⟨e_4, he_4, h⟩ := h
 refine WL.v hn (val_ix (T := intT) (l := ((qad5 a i j Y).getD qad2).fEnds) (i := x39) ht rfl he_4) ?_
 refine WL.v hn (val_ld (s := .one (I e_4)) ht rfl) ?_
 refine WL.rn ht hn 1 ⟨[qad3 Bk, sl 2 (I e_4), sl 4 (.own 3), qad4, qad6 e.fTo, sl 38 (I (e.fTo.length : Int)), sl 39 (I x39)], [qad0 g w, mapI St170.enc intT E, mapI St170.enc GramChoice.ty Y, rowI 3 intT l3_2, .box (qad1 a i j Y) 177 false, .gone]⟩ ?_
 refine En.region ?_
 refine WL.rn ht hn 2 ⟨[qad3 Bk, sl 2 (I e_4), sl 4 (.own 3), qad4, qad6 e.fTo, sl 38 (I (e.fTo.length : Int)), sl 39 (I (wr (x39 + 1)))], [qad0 g w, mapI St170.enc intT E, mapI St170.enc GramChoice.ty Y, rowI 3 intT l3_2, .box (qad1 a i j Y) 177 false, .gone]⟩ ?_
 exact En.at (I := fun zz => Inv zz.1 zz.2.1 zz.2.2 ∧ mu zz.1 zz.2.1 zz.2.2 < mu x2 x39 l3) (T := fun zz => ⟨[qad3 Bk, sl 2 (I zz.1), sl 4 (.own 3), qad4, qad6 e.fTo, sl 38 (I (e.fTo.length : Int)), sl 39 (I zz.2.1)], [qad0 g w, mapI St170.enc intT E, mapI St170.enc GramChoice.ty Y, rowI 3 intT zz.2.2, .box (qad1 a i j Y) 177 false, .gone]⟩) (e_4, (wr (x39 + 1)), l3_2) h (by kernel_rfl)
 refine En.exit rfl ?_
 refine En.sr ?_
 refine WL.rn ht hn 2 ⟨[qad3 Bk, sl 10 (.own 3)], [qad0 g w, mapI St170.enc intT E, mapI St170.enc GramChoice.ty Y, rowI 3 intT l3, .gone, .gone]⟩ ?_
 refine En.ret ?_
 exact En.backE [0] ht l3 h (by kernel_rfl) (by rfl) rfl
theorem cMk_ok {g : ApiGrammar} {w : List Int} {E : (List (St170 × Int))} {Y : (List (St170 × GramChoice))} {R : List Int} {a i j : Int} {n : Nat} (hp : MkPre g E Y R a i j (n + 1)) : cMk_vc g w E Y R a i j n (MkPost E R a i j) := by
 obtain ⟨hg, hI, h2, hf, hroom⟩ := hp
 have hgl := hg.lets
 have hgn := hg.names
 have hc0 := ofC_le hI.cost a i j
 obtain ⟨c, hc⟩ : ∃ c, mget (key3 a i j) E = some c := by
  cases e : mget (key3 a i j) E with
  | some c => exact ⟨c, rfl⟩
  | none =>
   unfold ofC at h2
   rw [e] at h2
   exact absurd h2 (by decide)
 have hce : ofC E a i j = c := by unfold ofC; rw [hc]; rfl
 obtain ⟨b, hb, m, hm, hbl, hk⟩ := hI.by_ a i j c hc
 unfold cMk_vc MkPost
 rw [show mget (St170.mk a i j) Y = some b from hb]
 simp only [Option.getD_some]
 rw [hce] at h2 hf hroom hc0 ⊢
 have hk := hk (by omega)
 have hm2 : m ∈ g.fMakes := by
  exact List.mem_of_getElem? (idx_some hm).2.2
 have hlen := hg.len m hm2
 have hto := hg.tos m hm2
 refine ⟨capOk_of (by simp only [List.length_cons, List.length_nil]; omega), m, hm, fun x y l => ∃ t : Nat, y = t ∧ t ≤ m.fTo.length ∧ (l.length : Int) + kidsC g E (m.fTo.drop t) x (b.fEnds.drop t) ≤ R.length + c ∧ kidsC g E (m.fTo.drop t) x (b.fEnds.drop t) + 1 ≤ c, fun _ y _ => m.fTo.length - y.toNat, ⟨0, rfl, Nat.zero_le _, ?_, hk⟩, ?_⟩
 ·simp only [List.length_append, List.length_cons, List.length_nil, List.drop_zero]
  omega
 rintro x y l ⟨t, rfl, ht, hl, hkt⟩
 refine ⟨fun hb => ?_, fun hb => ?_⟩
 ·have hlt := dlt hb
  have hlt2 : t < b.fEnds.length := by omega
  have hs := hto _ (List.getElem_mem hlt)
  have hkd : kidsC g E (m.fTo.drop t) x (b.fEnds.drop t) = (if m.fTo[t] ≥ g.fLetters then ofC E (m.fTo[t] - g.fLetters) x b.fEnds[t] else 0) + kidsC g E (m.fTo.drop (t + 1)) b.fEnds[t] (b.fEnds.drop (t + 1)) := by
   rw [List.drop_eq_getElem_cons hlt, List.drop_eq_getElem_cons hlt2, kidsC]
  have hnn := kids_nn (g := g) hI.cost (m.fTo.drop (t + 1)) b.fEnds[t] (b.fEnds.drop (t + 1))
  rw [hkd] at hl hkt
  refine ⟨_, idx_at hlt, fun l' => (l'.length : Int) + kidsC g E (m.fTo.drop (t + 1)) b.fEnds[t] (b.fEnds.drop (t + 1)) ≤ R.length + c, ⟨fun h => ?_, fun h => ?_⟩, fun l' hl' => ?_⟩
  ·have h := of_decide_eq_true h
   rw [if_pos h] at hl hkt
   have hwr : wr (m.fTo[t] - g.fLetters) = m.fTo[t] - g.fLetters := wr_in (by omega) (by omega)
   rw [hwr]
   refine ⟨_, idx_at hlt2, ⟨hg, hI, by omega, by omega, by omega⟩, fun r hr => ?_⟩
   have hr : (r.length : Int) ≤ l.length + ofC E (m.fTo[t] - g.fLetters) x b.fEnds[t] := hr
   omega
  ·have h := of_decide_eq_false h
   rw [if_neg h] at hl
   omega
  ·have hnn2 : 0 ≤ (if m.fTo[t] ≥ g.fLetters then ofC E (m.fTo[t] - g.fLetters) x b.fEnds[t] else 0) := by
    have := ofC_le hI.cost (m.fTo[t] - g.fLetters) x b.fEnds[t]
    split <;> omega
   exact ⟨_, idx_at hlt2, ⟨t + 1, wsucc (by omega), hlt, hl', by omega⟩, mu_up hlt (by omega)⟩
 ·obtain rfl : t = m.fTo.length := by have := dge hb; omega
  have hnn := kids_nn (g := g) hI.cost (m.fTo.drop m.fTo.length) x (b.fEnds.drop m.fTo.length)
  omega
theorem mkAll (g : ApiGrammar) (w : List Int) (E : List (St170 × Int)) (Y : List (St170 × GramChoice)) : ∀ n, MkC g w E Y n
 | 0 => fun _ a i j h => by
  have h1 := ofC_le h.inv.cost a i j
  have h2 := h.fuel
  exact absurd h2 (by omega)
 | n + 1 => fun R a i j h => cMk_walk g w E Y R a i j n (mkAll g w E Y n) _ (cMk_ok h)
theorem cMk_ct (g : ApiGrammar) (w : List Int) (E : List (St170 × Int)) (Y : List (St170 × GramChoice)) (R : List Int) (a i j : Int) (hp : MkPre g E Y R a i j 2001) : CtE 47 [.sv (.one (.ptr 0 0)), .sv (.one (I a)), .sv (.one (I i)), .sv (.one (I j)), .sv (.one (.own 3))] [.box [I g.fLetters, I g.fNames, LS ApiMake.ty g.fMakes, LS intT w, .own 1, .own 2] 173 false, mapI St170.enc intT E, mapI St170.enc GramChoice.ty Y, rowI 3 intT R] [0] (MkPost E R a i j) (fun (r : List Int) => .sv (.one (.own 3))) (fun (r : List Int) => [.box [I g.fLetters, I g.fNames, LS ApiMake.ty g.fMakes, LS intT w, .own 1, .own 2] 173 false, mapI St170.enc intT E, mapI St170.enc GramChoice.ty Y, rowI 3 intT r]) := mkAll g w E Y 2001 R a i j hp
def cTel_vc (g : ApiGrammar) (w : List Int) (Q : ((List Int) × Bool × Int) → Prop) : Prop :=
 g.fMakes.length ≤ 9223372036854775807 →
 w.length ≤ 9223372036854775807 →
 (IfP ((grmErr g) != 0) (Q ([], false, (grmErr g))) (IfP ((mayE g.fLetters w) != 0) (Q ([], false, (mayE g.fLetters w))) (IfP (decide ((w.length : Int) > 12)) (Q ([], false, 1)) ((CtdPre g w) ∧
 ∀ r : (List (St170 × Int)) × (List (St170 × GramChoice)), (CtdQ g w) r →
 (IfP ((ofC r.1 0 0 (w.length : Int)) == 1099511627776) (Q ([], false, 0)) (IfP (decide ((ofC r.1 0 0 (w.length : Int)) > 2000)) (Q ([], false, 7)) ((MkPre g r.1 r.2 ([] : List Int) 0 0 (w.length : Int) 2001) ∧
 ∀ r_2 : (List Int), (MkPost r.1 ([] : List Int) 0 0 (w.length : Int)) r_2 →
 (Q (r_2, true, 0)))))))))
noncomputable abbrev qae0 (g : ApiGrammar) (w : List Int) (y0) (y1) := ([.gone, .box [I g.fLetters, I g.fNames, LS ApiMake.ty g.fMakes, LS intT w, .own 2, .own 3] 173 false, mapI St170.enc intT y0, mapI St170.enc GramChoice.ty y1] : List Item)
noncomputable abbrev qae1 (g : ApiGrammar) := ([.box (ApiGrammar.cl g) 37 false] : List Item)
theorem cTel_walk (g : ApiGrammar) (w : List Int) (Q : ((List Int) × Bool × Int) → Prop) (h : cTel_vc g w Q) : Ct 16 [.sv (.agg [I g.fLetters, I g.fNames, LS ApiMake.ty g.fMakes]), .sv (.one (LS intT w))] [] Q (fun (r : ((List Int) × Bool × Int)) => .tup [.one (LS intT r.1), .one (B r.2.1), .one (I r.2.2)]) := by
 have ht := tab_ok
 refine Ct.body Try.func16 rfl rfl rfl rfl (fun c hn => ?_)
 unfold cTel_vc at h
 refine En.lenA 0 2 (by rfl) (by rfl) (fun hl => ?_)
 replace h := h hl
 clear hl
 refine En.lenL 1 (by rfl) (fun hl => ?_)
 replace h := h hl
 clear hl
 refine En.sr ?_
 refine WL.rn ht hn 4 ⟨[sl 1 (LS intT w), sl 2 (.ptr 0 0)], (qae1 g)⟩ ?_
 refine En.seq ?_
 refine En.sr ?_
 refine WL.r ht hn 1 ⟨[sl 1 (LS intT w), sl 2 (.ptr 0 0), (11, .sv (.agg (ApiGrammar.cl g)))], (qae1 g)⟩ ?_
 refine WL.m0 hn (mt_c (gChk_ct g) en38 rfl) ?_
 refine WL.rn ht hn 1 ⟨[sl 1 (LS intT w), sl 2 (.ptr 0 0), sl 7 (I (grmErr g))], (qae1 g)⟩ ?_
 refine En.sr ?_
 refine WL.rn ht hn 2 ⟨[sl 1 (LS intT w), sl 2 (.ptr 0 0), sl 7 (I (grmErr g)), sl 14 (B ((grmErr g) != 0))], (qae1 g)⟩ ?_
 refine En.ch h (fun h => ?_) (fun h => ?_)
 refine En.sr ?_
 refine WL.rn ht hn 4 ⟨[sl 4 (.v (.slice none 0 0)), sl 5 (B false), sl 6 (I (grmErr g))], [.gone]⟩ ?_
 refine En.ret ?_
 refine En.nilLS 4 intT (by rfl) ?_
 exact En.back ht ([], false, (grmErr g)) h (by kernel_rfl) rfl
 refine En.skip ?_
 refine En.seq ?_
 refine En.sr ?_
 refine WL.r ht hn 3 ⟨[sl 1 (LS intT w), sl 2 (.ptr 0 0), sl 17 (I g.fLetters), sl 18 (LS intT w)], (qae1 g)⟩ ?_
 refine WL.m0 hn (mt_c (mayW_ct g.fLetters w) en44 rfl) ?_
 refine WL.rn ht hn 1 ⟨[sl 1 (LS intT w), sl 2 (.ptr 0 0), sl 8 (I (mayE g.fLetters w))], (qae1 g)⟩ ?_
 refine En.sr ?_
 refine WL.rn ht hn 2 ⟨[sl 1 (LS intT w), sl 2 (.ptr 0 0), sl 8 (I (mayE g.fLetters w)), sl 21 (B ((mayE g.fLetters w) != 0))], (qae1 g)⟩ ?_
 refine En.ch h (fun h => ?_) (fun h => ?_)
 refine En.sr ?_
 refine WL.rn ht hn 4 ⟨[sl 4 (.v (.slice none 0 0)), sl 5 (B false), sl 6 (I (mayE g.fLetters w))], [.gone]⟩ ?_
 refine En.ret ?_
 refine En.nilLS 4 intT (by rfl) ?_
 exact En.back ht ([], false, (mayE g.fLetters w)) h (by kernel_rfl) rfl
 refine En.skip ?_
 refine En.seq ?_
 refine En.sr ?_
 refine WL.rn ht hn 3 ⟨[sl 1 (LS intT w), sl 2 (.ptr 0 0), sl 25 (B (decide ((w.length : Int) > 12)))], (qae1 g)⟩ ?_
 refine En.ch h (fun h => ?_) (fun h => ?_)
 refine En.sr ?_
 refine WL.rn ht hn 3 ⟨[sl 4 (.v (.slice none 0 0)), sl 5 (B false), sl 6 (I 1)], [.gone]⟩ ?_
 refine En.ret ?_
 refine En.nilLS 4 intT (by rfl) ?_
 exact En.back ht ([], false, 1) h (by kernel_rfl) rfl
 refine En.skip ?_
 refine En.sr ?_
 refine WL.r ht hn 2 ⟨[sl 1 (LS intT w), (26, .sv (.agg (ApiGrammar.cl g))), sl 27 (LS intT w)], [.gone]⟩ ?_
 obtain ⟨hp, h⟩ := h
 refine WL.callQ [sl 1 (LS intT w), (26, .sv (.agg (ApiGrammar.cl g))), sl 27 (LS intT w)] (cTed_ct g w hp) en45 (caps := []) [] hn (by rfl) rfl (by rfl) (argsAs (by kernel_rfl) (by rfl)) (by kernel_rfl) (by decide) (by kernel_rfl) (by rfl) (by rfl) (fun r hr_2 => ⟨by rfl, _, by rfl, ?_⟩)
 replace h := h r hr_2
 refine WL.rn ht hn 1 ⟨[sl 1 (LS intT w), sl 9 (.ptr 1 0)], (qae0 g w r.1 r.2)⟩ ?_
 refine En.seq ?_
 refine En.sr ?_
 refine WL.r ht hn 3 ⟨[sl 1 (LS intT w), sl 9 (.ptr 1 0), sl 29 (.ptr 1 0), sl 31 (I (w.length : Int))], (qae0 g w r.1 r.2)⟩ ?_
 refine WL.cE (cOf_ct g w r.1 r.2 0 0 (w.length : Int)) en46 [1, 2, 3] hn rfl ?_
 refine WL.rn ht hn 1 ⟨[sl 1 (LS intT w), sl 9 (.ptr 1 0), sl 10 (I (ofC r.1 0 0 (w.length : Int)))], (qae0 g w r.1 r.2)⟩ ?_
 refine En.block ?_
 refine En.sr ?_
 refine WL.rn ht hn 3 ⟨[sl 1 (LS intT w), sl 9 (.ptr 1 0), sl 10 (I (ofC r.1 0 0 (w.length : Int))), sl 33 (B ((ofC r.1 0 0 (w.length : Int)) == 1099511627776))], (qae0 g w r.1 r.2)⟩ ?_
 refine En.ch h (fun h => ?_) (fun h => ?_)
 refine En.sr ?_
 refine WL.rn ht hn 3 ⟨[sl 4 (.v (.slice none 0 0)), sl 5 (B false), sl 6 (I 0)], [.gone, .gone, .gone, .gone]⟩ ?_
 refine En.ret ?_
 refine En.nilLS 4 intT (by rfl) ?_
 exact En.back ht ([], false, 0) h (by kernel_rfl) rfl
 refine En.sr ?_
 refine WL.rn ht hn 3 ⟨[sl 1 (LS intT w), sl 9 (.ptr 1 0), sl 36 (B (decide ((ofC r.1 0 0 (w.length : Int)) > 2000)))], (qae0 g w r.1 r.2)⟩ ?_
 refine En.ch h (fun h => ?_) (fun h => ?_)
 refine En.sr ?_
 refine WL.rn ht hn 3 ⟨[sl 4 (.v (.slice none 0 0)), sl 5 (B false), sl 6 (I 7)], [.gone, .gone, .gone, .gone]⟩ ?_
 refine En.ret ?_
 refine En.nilLS 4 intT (by rfl) ?_
 exact En.back ht ([], false, 7) h (by kernel_rfl) rfl
 refine En.skip ?_
 refine En.sr ?_
 refine WL.r ht hn 3 ⟨[sl 39 (.ptr 1 0), sl 41 (I (w.length : Int))], (qae0 g w r.1 r.2)⟩ ?_
 obtain ⟨hp, h⟩ := h
 refine WL.callQ [sl 39 (.ptr 1 0), sl 41 (I (w.length : Int))] (CtE.nilOwn (e := 3) (T := intT) (k := 3) (M := [.box [I g.fLetters, I g.fNames, LS ApiMake.ty g.fMakes, LS intT w, .own 1, .own 2] 173 false, mapI St170.enc intT r.1, mapI St170.enc GramChoice.ty r.2]) (cMk_ct g w r.1 r.2 ([] : List Int) 0 0 (w.length : Int) hp) rfl (by kernel_rfl)) en47 (caps := []) [1, 2, 3] hn (by rfl) rfl (by rfl) (argsAs (by kernel_rfl) (by rfl)) (by kernel_rfl) (by decide) (by kernel_rfl) (by rfl) (by rfl) (fun r_2 hr_2_2 => ⟨by rfl, _, by rfl, ?_⟩)
 replace h := h r_2 hr_2_2
 refine WL.rn ht hn 3 ⟨[sl 4 (.own 4), sl 5 (B true), sl 6 (I 0)], [.gone, .gone, .gone, .gone, rowI 3 intT r_2]⟩ ?_
 refine En.ret ?_
 refine En.seal (T := intT) (l := r_2) (e := 3) 4 rfl ?_
 exact En.back ht (r_2, true, 0) h (by kernel_rfl) rfl
theorem en16 : ∀ args w, (callFunc 16 args).run Try.prog w = .ok (.enter 16 args) w := enters_of Try.func16 (by kernel_rfl) rfl
theorem mayE_of {n : Int} {w : List Int} (hn : 1 ≤ n ∧ n ≤ 4) (h : w.length ≤ 60) (hw : ∀ a ∈ w, 0 ≤ a ∧ a < n) : mayE n w = 0 := by
 unfold mayE
 rw [if_neg (by simp; omega), if_neg (by omega), if_neg]
 intro hc
 obtain ⟨a, ha, h2⟩ := List.any_eq_true.1 hc
 have := hw a ha
 simp at h2
 omega
def TelQ (g : ApiGrammar) (w : List Int) (r : List Int × Bool × Int) : Prop := grmErr g = 0 → (∀ a ∈ w, 0 ≤ a ∧ a < g.fLetters) → w.length ≤ 12 → SDer g [g.fLetters] w → r.2.2 = 7 ∨ (r.2.2 = 0 ∧ r.2.1 = true)
theorem cTel_ct (g : ApiGrammar) (w : List Int)  : Ct 16 [.sv (.agg [I g.fLetters, I g.fNames, LS ApiMake.ty g.fMakes]), .sv (.one (LS intT w))] [] (TelQ g w) (fun (r : ((List Int) × Bool × Int)) => .tup [.one (LS intT r.1), .one (B r.2.1), .one (I r.2.2)]) := by
 refine cTel_walk g w (TelQ g w) ?_
 unfold cTel_vc
 intro _ _
 refine ⟨fun h e => absurd e (bne_iff_ne.1 h), fun h => ⟨fun h2 e hw hl _ => ?_, fun h2 => ⟨fun h3 _ _ hl _ => ?_, fun h3 => ?_⟩⟩⟩
 ·have hg := grmErr_ok e
  exact absurd (mayE_of hg.lets (by omega) hw) (bne_iff_ne.1 h2)
 ·have h3 := of_decide_eq_true h3
  omega
 have hg := grmErr_ok (by simpa using h)
 have h3 := of_decide_eq_false h3
 refine ⟨⟨hg, by omega⟩, fun r hr => ?_⟩
 obtain ⟨E, Y⟩ := r
 obtain ⟨hI, hC⟩ : CInv g E Y ∧ ClosedS g w E (w.length + 1) := hr
 refine ⟨fun h4 => ?_, fun h4 => ⟨fun h5 => ?_, fun h5 => ?_⟩⟩
 ·exact fun _ _ hl hd => absurd (by simpa using h4) (told_found hg hI.cost hC hl hd)
 ·exact fun _ _ _ _ => .inl rfl
 ·have h5 : ¬ ofC E 0 0 (w.length : Int) > 2000 := of_decide_eq_false h5
  have := ofC_le hI.cost 0 0 (w.length : Int)
  refine ⟨⟨hg, hI, (by omega : ofC E 0 0 (w.length : Int) ≤ 2000), (by omega : ofC E 0 0 (w.length : Int) < (2001 : Nat)), (by simp only [List.length_nil]; omega : ((([] : List Int).length : Nat) : Int) + ofC E 0 0 (w.length : Int) ≤ 100000)⟩, fun _ _ _ _ _ _ => .inr ⟨rfl, rfl⟩⟩
def gLet_vc (s : ByteArray) (Q : (List Int) → Prop) : Prop :=
 s.size ≤ 140737488355328 ∧
 ∃ (Inv : Int → (List Int) → Prop) (mu : Int → (List Int) → Nat), Inv 0 ([] : List Int) ∧
 ∀ (x9 : Int) (l1 : List Int) , Inv x9 l1 → (IfP (decide (x9 < ((bytesL s).length : Int))) (∃ e, idx (bytesL s) x9 = some e ∧
 capOk l1.length (([(wr e)] : List Int) : List Int).length 8 ∧
 (Inv (wr (x9 + 1)) (l1 ++ ([(wr e)] : List Int)) ∧ mu (wr (x9 + 1)) (l1 ++ ([(wr e)] : List Int)) < mu x9 l1)) (Q l1))
noncomputable abbrev qaf0 (s : ByteArray) := sl 8 (I ((bytesL s).length : Int))
noncomputable abbrev qaf1 (s : ByteArray) := sl 7 (LS (intKT .u8) (bytesL s))
theorem gLet_walk (s : ByteArray) (Q : (List Int) → Prop) (h : gLet_vc s Q) : CtJ 49 [.sv (.one (.v (.string s)))] [] Q (fun (r : List Int) => rowI 3 intT r) := by
 have ht := tab_ok
 refine CtJ.body Try.func49 rfl rfl rfl rfl (fun c hn hmay => ?_)
 unfold gLet_vc at h
 refine En.sr ?_
 refine WL.rn ht hn 1 ⟨[sl 0 (.v (.string s))], []⟩ ?_
 refine En.sr ?_
 refine WL.rn ht hn 1 ⟨[sl 0 (.v (.string s)), sl 3 (.v (.slice none 0 0))], []⟩ ?_
 refine En.seq ?_
 refine En.sr ?_
 refine WL.r ht hn 1 ⟨[sl 3 (.v (.slice none 0 0)), sl 6 (.v (.string s))], []⟩ ?_
 obtain ⟨hp, h⟩ := h
 refine WL.m0 hn (mt_strBytes rfl Try.underlying9 Try.underlying178 Try.underlying5 (by rfl) hp) ?_
 refine WL.rn ht hn 2 ⟨[sl 3 (.v (.slice none 0 0)), qaf1 s, qaf0 s, sl 9 (I 0)], []⟩ ?_
 refine En.block ?_
 refine En.rowNil 3 1 3 intT (by rfl) (by rfl) ?_
 obtain ⟨Inv, mu, h0, hI⟩ := h
 refine En.loop (σ := Int × (List Int)) (fun zz => Inv zz.1 zz.2) (fun zz => mu zz.1 zz.2) (fun zz => ⟨[sl 3 (.own 1), qaf1 s, qaf0 s, sl 9 (I zz.1)], [.gone, rowI 3 intT zz.2]⟩) (0, ([] : List Int)) h0 (sub_ok (by kernel_rfl)) ?_
 rintro ⟨x9, l1⟩ h
 replace h := hI _ _ h
 show En c ⟨[sl 3 (.own 1), qaf1 s, qaf0 s, sl 9 (I x9)], [.gone, rowI 3 intT l1]⟩ _
 refine En.sr ?_
 refine WL.rn ht hn 1 ⟨[sl 3 (.own 1), qaf1 s, qaf0 s, sl 9 (I x9), sl 10 (B (decide (x9 < ((bytesL s).length : Int))))], [.gone, rowI 3 intT l1]⟩ ?_
 refine En.seq ?_
 refine En.ch h (fun h => ?_) (fun h => ?_)
 refine En.skip ?_
 refine En.seq ?_
 refine En.block ?_
 refine En.sr ?_
 obtain ⟨e, he, h⟩ := h
 refine WL.v hn (val_ix (T := (intKT .u8)) (l := (bytesL s)) (i := x9) ht rfl he) ?_
 refine WL.v hn (val_ld (s := .one (.v (.int .u8 e))) ht rfl) ?_
 refine WL.rn ht hn 1 ⟨[sl 3 (.own 1), sl 5 (.v (.int .u8 e)), qaf1 s, qaf0 s, sl 9 (I x9)], [.gone, rowI 3 intT l1]⟩ ?_
 refine En.region ?_
 refine WL.r ht hn 3 ⟨[qaf1 s, qaf0 s, sl 9 (I x9), sl 13 (.own 1), sl 15 (I (wr e))], [.gone, rowI 3 intT l1]⟩ ?_
 refine WL.mt0 (K := []) (p := some (2, rowI 3 intT ([wr e] : List Int))) hn (by rfl) (mt_lit (T := intT) ([wr e] : List Int) (mt_bsl 2 (r := cellsOf intT ([wr e] : List Int)) ht rfl (by rfl) (by rfl) (by rfl) (by kernel_rfl) (by rfl)) (fun _ h => by cases h) (fun _ => rfl) (fun _ => rfl) (by rfl) (Nat.le_of_ble_eq_true rfl)) (by rfl) (by rfl) (by rfl) ?_
 refine WL.seal (T := intT) (l := ([wr e] : List Int)) (e := 3) 2 rfl ?_
 refine WL.r ht hn 0 ⟨[qaf1 s, qaf0 s, sl 9 (I x9), sl 13 (.own 1), sl 15 (I (wr e)), sl 16 (LS intT ([wr e] : List Int))], [.gone, rowI 3 intT l1, .gone]⟩ ?_
 obtain ⟨hp, h⟩ := h
 refine WL.mt (S2 := ⟨[qaf1 s, qaf0 s, sl 9 (I x9), sl 15 (I (wr e)), sl 16 (LS intT ([wr e] : List Int))], [.gone, rowI 3 intT l1, .gone]⟩) (K := [1]) (p := some (1, rowI 3 intT (l1 ++ ([wr e] : List Int)))) hn (by rfl) (mt_append (T := intT) (l := l1) (es := ([wr e] : List Int)) ht rfl (by rfl) (by rfl) (by rfl) (by rfl) (by decide) (by rfl) (by rfl) (srcLS (T := intT) (es := ([wr e] : List Int)) (fun _ h => by cases h) (by decide) (by rfl)) (by exact hp) (by exact hp.le (by decide))) (by kernel_rfl) (by rfl) (by rfl) (by rfl) ?_
 refine WL.rn ht hn 1 ⟨[sl 3 (.own 1), qaf1 s, qaf0 s, sl 9 (I x9)], [.gone, rowI 3 intT (l1 ++ ([wr e] : List Int)), .gone]⟩ ?_
 refine En.region ?_
 refine WL.rn ht hn 2 ⟨[sl 3 (.own 1), qaf1 s, qaf0 s, sl 9 (I (wr (x9 + 1)))], [.gone, rowI 3 intT (l1 ++ ([wr e] : List Int)), .gone]⟩ ?_
 exact En.at (I := fun zz => Inv zz.1 zz.2 ∧ mu zz.1 zz.2 < mu x9 l1) (T := fun zz => ⟨[sl 3 (.own 1), qaf1 s, qaf0 s, sl 9 (I zz.1)], [.gone, rowI 3 intT zz.2]⟩) ((wr (x9 + 1)), (l1 ++ ([wr e] : List Int))) h (by kernel_rfl)
 refine En.exit rfl ?_
 refine En.sr ?_
 refine WL.rn ht hn 2 ⟨[sl 2 (.own 1)], [.gone, rowI 3 intT l1]⟩ ?_
 refine En.ret ?_
 exact En.backJ (itf := fun l => rowI 3 intT l) hmay (by rfl) (by rfl) rfl rfl h
theorem en49 : ∀ args w, (callFunc 49 args).run Try.prog w = .ok (.enter 49 args) w := enters_of Try.func49 (by kernel_rfl) rfl
theorem bytesL_len {s : ByteArray} : (bytesL s).length = s.size := by unfold bytesL; rw [List.length_map]; rfl
theorem bytesL_in {s : ByteArray} : ∀ x ∈ bytesL s, 0 ≤ x ∧ x < 256 := fun x hx => by
 obtain ⟨b, _, rfl⟩ := List.mem_map.1 hx
 have := b.toNat_lt
 omega
theorem gLet_ct (s : ByteArray) (hp : s.size ≤ 1000)  : CtI 49 [.sv (.one (.v (.string s)))] [] (rowI 3 intT (bytesL s)) := by
 refine (gLet_walk s (fun res_ => res_ = (bytesL s)) ?_).fun
 have hl := bytesL_len (s := s)
 refine ⟨by omega, fun i l => ∃ k : Nat, i = k ∧ k ≤ (bytesL s).length ∧ l = (bytesL s).take k, fun i _ => (bytesL s).length - i.toNat, ⟨0, rfl, Nat.zero_le _, rfl⟩, ?_⟩
 rintro i l ⟨k, rfl, hk, rfl⟩
 refine ⟨fun hb => ?_, fun hb => ?_⟩
 ·have hlt := dlt hb
  have hin := bytesL_in _ (List.getElem_mem hlt)
  refine ⟨_, idx_at hlt, capOk_of (by simp only [List.length_take, List.length_cons, List.length_nil]; omega), ⟨k + 1, wsucc (by omega), hlt, ?_⟩, mu_up hlt (by omega)⟩
  rw [wr_in (by omega) (by omega), List.take_add_one, List.getElem?_eq_getElem hlt]
  rfl
 ·exact List.take_of_length_le (dge hb)
def gTxt_vc (w : List Int) (Q : ByteArray → Prop) : Prop :=
 w.length ≤ 9223372036854775807 →
 (∃ (Inv : Int → (List Int) → Prop) (mu : Int → (List Int) → Nat), Inv 0 ([] : List Int) ∧
 ∀ (x8 : Int) (l1 : List Int) , Inv x8 l1 → (IfP (decide (x8 < (w.length : Int))) (∃ e, idx w x8 = some e ∧
 capOk l1.length (([(IntKind.wrap .u8 e)] : List Int) : List Int).length 1 ∧
 (Inv (wr (x8 + 1)) (l1 ++ ([(IntKind.wrap .u8 e)] : List Int)) ∧ mu (wr (x8 + 1)) (l1 ++ ([(IntKind.wrap .u8 e)] : List Int)) < mu x8 l1)) (Q (bytesOf l1))))
noncomputable abbrev qag0 (y0) := (IntKind.wrap .u8 y0)
noncomputable abbrev qag1 (w : List Int) := sl 7 (I (w.length : Int))
theorem gTxt_walk (w : List Int) (Q : ByteArray → Prop) (h : gTxt_vc w Q) : Ct 51 [.sv (.one (LS intT w))] [] Q (fun (r : ByteArray) => .sv (.one (.v (.string r)))) := by
 have ht := tab_ok
 refine Ct.body Try.func51 rfl rfl rfl rfl (fun c hn => ?_)
 unfold gTxt_vc at h
 refine En.lenL 0 (by rfl) (fun hl => ?_)
 replace h := h hl
 clear hl
 refine En.sr ?_
 refine WL.rn ht hn 1 ⟨[sl 0 (LS intT w)], []⟩ ?_
 refine En.sr ?_
 refine WL.rn ht hn 1 ⟨[sl 0 (LS intT w), sl 3 (.v (.slice none 0 0))], []⟩ ?_
 refine En.seq ?_
 refine En.sr ?_
 refine WL.rn ht hn 3 ⟨[sl 3 (.v (.slice none 0 0)), sl 6 (LS intT w), qag1 w, sl 8 (I 0)], []⟩ ?_
 refine En.block ?_
 refine En.rowNil 3 1 5 (intKT .u8) (by rfl) (by rfl) ?_
 obtain ⟨Inv, mu, h0, hI⟩ := h
 refine En.loop (σ := Int × (List Int)) (fun zz => Inv zz.1 zz.2) (fun zz => mu zz.1 zz.2) (fun zz => ⟨[sl 3 (.own 1), sl 6 (LS intT w), qag1 w, sl 8 (I zz.1)], [.gone, rowI 5 (intKT .u8) zz.2]⟩) (0, ([] : List Int)) h0 (sub_ok (by kernel_rfl)) ?_
 rintro ⟨x8, l1⟩ h
 replace h := hI _ _ h
 show En c ⟨[sl 3 (.own 1), sl 6 (LS intT w), qag1 w, sl 8 (I x8)], [.gone, rowI 5 (intKT .u8) l1]⟩ _
 refine En.sr ?_
 refine WL.rn ht hn 1 ⟨[sl 3 (.own 1), sl 6 (LS intT w), qag1 w, sl 8 (I x8), sl 9 (B (decide (x8 < (w.length : Int))))], [.gone, rowI 5 (intKT .u8) l1]⟩ ?_
 refine En.seq ?_
 refine En.ch h (fun h => ?_) (fun h => ?_)
 refine En.skip ?_
 refine En.seq ?_
 refine En.block ?_
 refine En.sr ?_
 obtain ⟨e, he, h⟩ := h
 refine WL.v hn (val_ix (T := intT) (l := w) (i := x8) ht rfl he) ?_
 refine WL.v hn (val_ld (s := .one (I e)) ht rfl) ?_
 refine WL.rn ht hn 1 ⟨[sl 3 (.own 1), sl 5 (I e), sl 6 (LS intT w), qag1 w, sl 8 (I x8)], [.gone, rowI 5 (intKT .u8) l1]⟩ ?_
 refine En.region ?_
 refine WL.r ht hn 3 ⟨[sl 6 (LS intT w), qag1 w, sl 8 (I x8), sl 12 (.own 1), sl 14 (.v (.int .u8 (qag0 e)))], [.gone, rowI 5 (intKT .u8) l1]⟩ ?_
 refine WL.mt0 (K := []) (p := some (2, rowI 5 (intKT .u8) ([qag0 e] : List Int))) hn (by rfl) (mt_lit (T := (intKT .u8)) ([qag0 e] : List Int) (mt_bsl 2 (r := cellsOf (intKT .u8) ([qag0 e] : List Int)) ht rfl (by rfl) (by rfl) (by rfl) (by kernel_rfl) (by rfl)) (fun _ h => by cases h) (fun _ => rfl) (fun _ => rfl) (by rfl) (Nat.le_of_ble_eq_true rfl)) (by rfl) (by rfl) (by rfl) ?_
 refine WL.seal (T := (intKT .u8)) (l := ([qag0 e] : List Int)) (e := 5) 2 rfl ?_
 refine WL.r ht hn 0 ⟨[sl 6 (LS intT w), qag1 w, sl 8 (I x8), sl 12 (.own 1), sl 14 (.v (.int .u8 (qag0 e))), sl 15 (LS (intKT .u8) ([qag0 e] : List Int))], [.gone, rowI 5 (intKT .u8) l1, .gone]⟩ ?_
 obtain ⟨hp, h⟩ := h
 refine WL.mt (S2 := ⟨[sl 6 (LS intT w), qag1 w, sl 8 (I x8), sl 14 (.v (.int .u8 (qag0 e))), sl 15 (LS (intKT .u8) ([qag0 e] : List Int))], [.gone, rowI 5 (intKT .u8) l1, .gone]⟩) (K := [1]) (p := some (1, rowI 5 (intKT .u8) (l1 ++ ([qag0 e] : List Int)))) hn (by rfl) (mt_append (T := (intKT .u8)) (l := l1) (es := ([qag0 e] : List Int)) ht rfl (by rfl) (by rfl) (by rfl) (by rfl) (by decide) (by rfl) (by rfl) (srcLS (T := (intKT .u8)) (es := ([qag0 e] : List Int)) (fun _ h => by cases h) (by decide) (by rfl)) (by exact hp) (by exact hp.le (by decide))) (by kernel_rfl) (by rfl) (by rfl) (by rfl) ?_
 refine WL.rn ht hn 1 ⟨[sl 3 (.own 1), sl 6 (LS intT w), qag1 w, sl 8 (I x8)], [.gone, rowI 5 (intKT .u8) (l1 ++ ([qag0 e] : List Int)), .gone]⟩ ?_
 refine En.region ?_
 refine WL.rn ht hn 2 ⟨[sl 3 (.own 1), sl 6 (LS intT w), qag1 w, sl 8 (I (wr (x8 + 1)))], [.gone, rowI 5 (intKT .u8) (l1 ++ ([qag0 e] : List Int)), .gone]⟩ ?_
 exact En.at (I := fun zz => Inv zz.1 zz.2 ∧ mu zz.1 zz.2 < mu x8 l1) (T := fun zz => ⟨[sl 3 (.own 1), sl 6 (LS intT w), qag1 w, sl 8 (I zz.1)], [.gone, rowI 5 (intKT .u8) zz.2]⟩) ((wr (x8 + 1)), (l1 ++ ([qag0 e] : List Int))) h (by kernel_rfl)
 refine En.exit rfl ?_
 refine En.sr ?_
 refine WL.r ht hn 1 ⟨[sl 18 (.own 1)], [.gone, rowI 5 (intKT .u8) l1]⟩ ?_
 refine WL.v hn (val_str rfl Try.underlying178 Try.underlying5 Try.underlying9 (srcOwn (T := intKT .u8) (es := l1) (fun _ h => by cases h) (by rfl) (by rfl))) ?_
 refine WL.rn ht hn 1 ⟨[sl 2 (.v (.string (bytesOf l1)))], [.gone, .gone]⟩ ?_
 exact En.rb ht (bytesOf l1) h
theorem en51 : ∀ args w, (callFunc 51 args).run Try.prog w = .ok (.enter 51 args) w := enters_of Try.func51 (by kernel_rfl) rfl
def TxtPre (w : List Int) : Prop := w.length ≤ 1000 ∧ ∀ x ∈ w, 0 ≤ x ∧ x < 256
theorem bytesL_of {w : List Int} (h : ∀ x ∈ w, 0 ≤ x ∧ x < 256) : bytesL (bytesOf w) = w := by
 unfold bytesL
 rw [show (bytesOf w).data.toList = w.map fun n => UInt8.ofNat n.toNat by unfold bytesOf; rw [push_toList]; rfl, List.map_map]
 refine (List.map_congr_left fun x hx => ?_).trans (List.map_id w)
 have := h x hx
 show (((UInt8.ofNat x.toNat).toNat : Nat) : Int) = x
 rw [UInt8.toNat_ofNat']
 omega
theorem wr8 {x : Int} (h : 0 ≤ x ∧ x < 256) : IntKind.wrap .u8 x = x := by
 unfold IntKind.wrap
 simp [IntKind.bits, IntKind.signed]
 omega
theorem gTxt_ct (w : List Int) (hp : TxtPre w)  : Ct 51 [.sv (.one (LS intT w))] [] (fun (_ : Unit) => True) (fun _ => .sv (.one (.v (.string (bytesOf w))))) := by
 refine (gTxt_walk w (fun res_ => res_ = (bytesOf w)) ?_).fun
 intro _
 obtain ⟨hl, hw⟩ := hp
 refine ⟨fun i l => ∃ k : Nat, i = k ∧ k ≤ w.length ∧ l = w.take k, fun i _ => w.length - i.toNat, ⟨0, rfl, Nat.zero_le _, rfl⟩, ?_⟩
 rintro i l ⟨k, rfl, hk, rfl⟩
 refine ⟨fun hb => ?_, fun hb => ?_⟩
 ·have hlt := dlt hb
  refine ⟨_, idx_at hlt, capOk_of (by simp only [List.length_take, List.length_cons, List.length_nil]; omega), ⟨k + 1, wsucc (by omega), hlt, ?_⟩, mu_up hlt (by omega)⟩
  rw [wr8 (hw _ (List.getElem_mem hlt)), List.take_add_one, List.getElem?_eq_getElem hlt]
  rfl
 ·rw [List.take_of_length_le (dge hb)]
abbrev FList := List (FamE ByteArray Int)
def FamAt (fl : FList) (r : Value) (D : List (ByteArray × Int)) : Prop := ∃ (k : Nat) (es : Array MapEntry) (ck : Nat), fl[k]? = some (r, D, es, ck)
inductive Cmb (g : ApiGrammar) (SS : List (List Value)) (fl : FList) : List Int → Int → List Int → Prop where
 | nil {left : Int} : Cmb g SS fl [] left []
 | lett {s left : Int} {rest x : List Int} : s < g.fLetters → 0 < left → Cmb g SS fl rest (left - 1) x → Cmb g SS fl (s :: rest) left (s :: x)
 | name {s left : Int} {rest x : List Int} {n : Nat} {row : List Value} {r : Value} {D : List (ByteArray × Int)} {y : ByteArray × Int} : g.fLetters ≤ s → (n : Int) ≤ left → idx SS (s - g.fLetters) = some row → row[n]? = some r → FamAt fl r D → y ∈ D → Cmb g SS fl rest (left - n) x → Cmb g SS fl (s :: rest) left (bytesL y.1 ++ x)
structure EntOk (g : ApiGrammar) (d : Nat) (D : List (ByteArray × Int)) : Prop where
 nodup : (D.map (·.1)).Nodup
 words : ∀ y ∈ D, (bytesL y.1).length = d ∧ ∀ a ∈ bytesL y.1, 0 ≤ a ∧ a < g.fLetters
 ones : ∀ y ∈ D, y.2 = 1
structure SetsOk (g : ApiGrammar) (W : Nat) (SS : List (List Value)) (fl : FList) : Prop where
 names : (SS.length : Int) = g.fNames
 sizes : ∀ row ∈ SS, row.length = W
 refs : (famRefs fl).Nodup
 at_ : ∀ (a n : Nat) (row : List Value) (r : Value), SS[a]? = some row → row[n]? = some r → ∃ D es ck, fl[a * W + n]? = some (r, D, es, ck)
 ents : ∀ (k : Nat) r D es ck, fl[k]? = some (r, D, es, ck) → EntOk g (k % W) D
structure RwsPre (g : ApiGrammar) (SS : List (List Value)) (fl : FList) (fd : List (List Int)) (signs : List Int) (left : Int) (u : List Int) (n : Nat) : Prop where
 fuel : signs.length < n
 sl : signs.length ≤ 3
 sg : ∀ s ∈ signs, 0 ≤ s ∧ s < g.fLetters + g.fNames
 lets : 1 ≤ g.fLetters ∧ g.fLetters ≤ 4
 nms : 1 ≤ g.fNames ∧ g.fNames ≤ 6
 lo : 0 ≤ left
 sets : ∃ W : Nat, left < W ∧ W ≤ 6 ∧ SetsOk g W SS fl
 ul : (u.length : Int) + left ≤ 5
 room : fd.length + 10000 ^ signs.length ≤ 1000000000000
structure RwsQ (g : ApiGrammar) (SS : List (List Value)) (fl : FList) (fd : List (List Int)) (signs : List Int) (left : Int) (u : List Int) (fd' : List (List Int)) : Prop where
 all : ∀ x, Cmb g SS fl signs left x → u ++ x ∈ fd'
 keep : ∀ v ∈ fd, v ∈ fd'
 only : ∀ v ∈ fd', v ∈ fd ∨ ∃ x, Cmb g SS fl signs left x ∧ v = u ++ x
 len : fd'.length ≤ fd.length + 10000 ^ signs.length
def lw (L : Nat) : Nat → List (List Int)
 | 0 => [[]]
 | d + 1 => (List.range L).flatMap fun (a : Nat) => (lw L d).map fun w => (a : Int) :: w
theorem lw_len (L : Nat) : ∀ d, (lw L d).length = L ^ d
 | 0 => rfl
 | d + 1 => by
  rw [lw, List.length_flatMap]
  simp only [List.length_map, lw_len L d]
  rw [List.map_const', List.sum_replicate_nat, List.length_range, Nat.pow_succ, Nat.mul_comm]
theorem lw_mem {L : Nat} : ∀ {w : List Int}, (∀ a ∈ w, 0 ≤ a ∧ a < (L : Int)) → w ∈ lw L w.length
 | [], _ => List.mem_singleton.2 rfl
 | a :: w, h => by
  have h1 := h a (List.mem_cons_self ..)
  rw [List.length_cons, lw, List.mem_flatMap]
  refine ⟨a.toNat, List.mem_range.2 (by omega), ?_⟩
  rw [Int.toNat_of_nonneg h1.1]
  exact List.mem_map.2 ⟨w, lw_mem fun b hb => h b (List.mem_cons_of_mem _ hb), rfl⟩
theorem bytesL_inj {s t : ByteArray} (h : bytesL s = bytesL t) : s = t := by
 unfold bytesL at h
 have h2 : s.data.toList = t.data.toList := by
  refine List.ext_getElem? fun i => ?_
  have := congrArg (fun l => l[i]?) h
  simp only [List.getElem?_map] at this
  cases e1 : s.data.toList[i]? with
  | none =>
   cases e2 : t.data.toList[i]? with
   | none => rfl
   | some b => rw [e1, e2] at this; cases this
  | some a =>
   cases e2 : t.data.toList[i]? with
   | none => rw [e1, e2] at this; cases this
   | some b =>
    rw [e1, e2] at this
    have h3 : ((a.toNat : Int)) = (b.toNat : Int) := Option.some.inj this
    exact congrArg some (UInt8.toNat_inj.1 (by omega))
 cases s
 cases t
 exact congrArg _ (Array.toList_inj.1 h2)
theorem EntOk.few {g : ApiGrammar} {d : Nat} {D : List (ByteArray × Int)} (h : EntOk g d D) (hl : g.fLetters ≤ 4) (hd : d ≤ 5) : D.length ≤ 1024 := by
 have h1 : (D.map (·.1)).length ≤ (lw 4 d).length := by
  have h2 : ((D.map (·.1)).map bytesL).Nodup := by
   refine List.Pairwise.map _ (fun a b hab => ?_) h.nodup
   exact fun e => hab (bytesL_inj e)
  have := nodup_le h2 (m := lw 4 d) fun x hx => by
   obtain ⟨s, hs, rfl⟩ := List.mem_map.1 hx
   obtain ⟨y, hy, rfl⟩ := List.mem_map.1 hs
   obtain ⟨k1, k2⟩ := h.words y hy
   rw [← k1]
   exact lw_mem fun a ha => by have := k2 a ha; omega
  simpa using this
 rw [lw_len, List.length_map] at h1
 have h3 : 4 ^ d ≤ 4 ^ 5 := Nat.pow_le_pow_right (by decide) hd
 exact Nat.le_trans h1 h3
section
variable {g : ApiGrammar} {W : Nat} {SS : List (List Value)} {fl : FList}
theorem SetsOk.uniq (h : SetsOk g W SS fl) {r : Value} {D D' : List (ByteArray × Int)} {k : Nat} {es : Array MapEntry} {ck : Nat} (h1 : fl[k]? = some (r, D, es, ck)) (h2 : FamAt fl r D') : D' = D := by
 obtain ⟨k', es', ck', h2⟩ := h2
 have g1 : (famRefs fl)[k]? = some r := by unfold famRefs; rw [List.getElem?_map, h1]; rfl
 have g2 : (famRefs fl)[k']? = some r := by unfold famRefs; rw [List.getElem?_map, h2]; rfl
 have hl := (List.getElem?_eq_some_iff.1 g1).1
 have e : k = k' := (List.getElem?_inj hl h.refs).1 (g1.trans g2.symm)
 subst e
 rw [h1] at h2
 cases h2
 rfl
theorem SetsOk.known (h : SetsOk g W SS fl) (hg : g.fLetters ≤ 4) (hW : W ≤ 6) {row : List Value} (hr : row ∈ SS) {n : Nat} {r : Value} (hn : row[n]? = some r) : ∃ (k : Nat) (D : List (ByteArray × Int)) (es : Array MapEntry) (ck : Nat), fl[k]? = some (r, D, es, ck) ∧ n < W ∧ EntOk g n D ∧ D.length ≤ 1024 := by
 obtain ⟨a, ha⟩ := List.mem_iff_getElem?.1 hr
 obtain ⟨D, es, ck, h1⟩ := h.at_ a n row r ha hn
 have h2 := (List.getElem?_eq_some_iff.1 hn).1
 rw [h.sizes row hr] at h2
 have h3 := h.ents _ _ _ _ _ h1
 rw [Nat.mul_comm, Nat.mul_add_mod, Nat.mod_eq_of_lt h2] at h3
 exact ⟨_, D, es, ck, h1, h2, h3, h3.few hg (by omega)⟩
theorem cmb_ok (h : SetsOk g W SS fl) (hg : g.fLetters ≤ 4) (hW : W ≤ 6) {signs : List Int} {left : Int} {x : List Int} (hc : Cmb g SS fl signs left x) : (∀ s ∈ signs, 0 ≤ s) → 0 ≤ left → (x.length : Int) ≤ left ∧ ∀ a ∈ x, 0 ≤ a ∧ a < g.fLetters := by
 induction hc with
 | nil => exact fun _ hl => ⟨hl, fun a ha => by cases ha⟩
 | lett h1 h2 _ ih =>
  intro hs hl
  obtain ⟨k1, k2⟩ := ih (fun s hs' => hs s (List.mem_cons_of_mem _ hs')) (by omega)
  refine ⟨by rw [List.length_cons]; omega, fun a ha => ?_⟩
  rcases List.mem_cons.1 ha with rfl | ha
  ·exact ⟨hs _ (List.mem_cons_self ..), h1⟩
  ·exact k2 a ha
 | name h1 h2 h3 h4 h5 h6 _ ih =>
  intro hs hl
  obtain ⟨k1, k2⟩ := ih (fun s hs' => hs s (List.mem_cons_of_mem _ hs')) (by omega)
  obtain ⟨k, D, es, ck, e1, _, e3, _⟩ := h.known hg hW (List.mem_of_getElem? (idx_some h3).2.2) h4
  obtain rfl := h.uniq e1 h5
  obtain ⟨w1, w2⟩ := e3.words _ h6
  refine ⟨by rw [List.length_append, w1]; omega, fun a ha => ?_⟩
  rcases List.mem_append.1 ha with ha | ha
  ·exact w2 a ha
  ·exact k2 a ha
structure EtsQ (g : ApiGrammar) (SS : List (List Value)) (fl : FList) (fd : List (List Int)) (rest : List Int) (left : Int) (u : List Int) (l : List (ByteArray × Int)) (fd' : List (List Int)) : Prop where
 all : ∀ y ∈ l, ∀ x, Cmb g SS fl rest left x → (u ++ bytesL y.1) ++ x ∈ fd'
 keep : ∀ v ∈ fd, v ∈ fd'
 only : ∀ v ∈ fd', v ∈ fd ∨ ∃ y ∈ l, ∃ x, Cmb g SS fl rest left x ∧ v = (u ++ bytesL y.1) ++ x
 len : fd'.length ≤ fd.length + l.length * 10000 ^ rest.length
theorem EtsQ.nil {fd : List (List Int)} {rest : List Int} {left : Int} {u : List Int} : EtsQ g SS fl fd rest left u [] fd := ⟨fun y hy => (by cases hy), fun v hv => hv, fun v hv => .inl hv, by simp⟩
theorem EtsQ.snoc {fd fd1 fd2 : List (List Int)} {rest : List Int} {left : Int} {u : List Int} {l : List (ByteArray × Int)} {y : ByteArray × Int} (h : EtsQ g SS fl fd rest left u l fd1) (k : RwsQ g SS fl fd1 rest left (u ++ bytesL y.1) fd2) : EtsQ g SS fl fd rest left u (l ++ [y]) fd2 := by
 refine ⟨fun z hz x hx => ?_, fun v hv => k.keep v (h.keep v hv), fun v hv => ?_, ?_⟩
 ·rcases List.mem_append.1 hz with hz | hz
  ·exact k.keep _ (h.all z hz x hx)
  ·obtain rfl := List.mem_singleton.1 hz
   exact k.all x hx
 ·rcases k.only v hv with hv | ⟨x, hx, e⟩
  ·rcases h.only v hv with hv | ⟨z, hz, x, hx, e⟩
   ·exact .inl hv
   ·exact .inr ⟨z, List.mem_append_left _ hz, x, hx, e⟩
  ·exact .inr ⟨y, List.mem_append_right _ (List.mem_singleton.2 rfl), x, hx, e⟩
 ·have h1 := h.len
  have h2 := k.len
  rw [List.length_append, Nat.add_mul]
  simp only [List.length_cons, List.length_nil, Nat.zero_add, Nat.one_mul]
  omega
theorem EtsQ.perm {fd fd' : List (List Int)} {rest : List Int} {left : Int} {u : List Int} {l l' : List (ByteArray × Int)} (h : EtsQ g SS fl fd rest left u l fd') (hp : l.Perm l') : EtsQ g SS fl fd rest left u l' fd' :=
 ⟨fun y hy => h.all y (hp.mem_iff.2 hy), h.keep, fun v hv => (h.only v hv).imp id fun ⟨y, hy, k⟩ => ⟨y, hp.mem_iff.1 hy, k⟩, by rw [← hp.length_eq]; exact h.len⟩
structure RowsQ (g : ApiGrammar) (SS : List (List Value)) (fl : FList) (fd : List (List Int)) (row : List Value) (rest : List Int) (left : Int) (u : List Int) (j : Nat) (fd' : List (List Int)) : Prop where
 all : ∀ n, n < j → ∀ r D, row[n]? = some r → FamAt fl r D → ∀ y ∈ D, ∀ x, Cmb g SS fl rest (left - n) x → (u ++ bytesL y.1) ++ x ∈ fd'
 keep : ∀ v ∈ fd, v ∈ fd'
 only : ∀ v ∈ fd', v ∈ fd ∨ ∃ n r D y x, n < j ∧ row[n]? = some r ∧ FamAt fl r D ∧ y ∈ D ∧ Cmb g SS fl rest (left - (n : Nat)) x ∧ v = (u ++ bytesL y.1) ++ x
 len : fd'.length ≤ fd.length + j * (1500 * 10000 ^ rest.length)
theorem RowsQ.zero {fd : List (List Int)} {row : List Value} {rest : List Int} {left : Int} {u : List Int} : RowsQ g SS fl fd row rest left u 0 fd := ⟨fun n hn => absurd hn (Nat.not_lt_zero _), fun v hv => hv, fun v hv => .inl hv, by simp⟩
theorem RowsQ.succ (hs : SetsOk g W SS fl) {fd fd1 fd2 : List (List Int)} {row : List Value} {rest : List Int} {left : Int} {u : List Int} {j k : Nat} {r : Value} {D : List (ByteArray × Int)} {es : Array MapEntry} {ck : Nat} (h : RowsQ g SS fl fd row rest left u j fd1) (hr : row[j]? = some r) (hk : fl[k]? = some (r, D, es, ck)) (hl : D.length ≤ 1500) (q : EtsQ g SS fl fd1 rest (left - j) u D fd2) : RowsQ g SS fl fd row rest left u (j + 1) fd2 := by
 refine ⟨fun n hn r' D' hr' hD' y hy x hx => ?_, fun v hv => q.keep v (h.keep v hv), fun v hv => ?_, ?_⟩
 ·rcases Nat.lt_succ_iff_lt_or_eq.1 hn with hn | rfl
  ·exact q.keep _ (h.all n hn r' D' hr' hD' y hy x hx)
  ·rw [hr] at hr'
   cases hr'
   obtain rfl := hs.uniq hk hD'
   exact q.all y hy x hx
 ·rcases q.only v hv with hv | ⟨y, hy, x, hx, e⟩
  ·rcases h.only v hv with hv | ⟨n, r', D', y, x, h1, h2⟩
   ·exact .inl hv
   ·exact .inr ⟨n, r', D', y, x, Nat.lt_succ_of_lt h1, h2⟩
  ·exact .inr ⟨j, r, D, y, x, Nat.lt_succ_self _, hr, ⟨k, es, ck, hk⟩, hy, hx, e⟩
 ·have h1 := h.len
  have h2 := q.len
  have h3 : D.length * 10000 ^ rest.length ≤ 1500 * 10000 ^ rest.length := Nat.mul_le_mul_right _ hl
  rw [Nat.succ_mul]
  omega
theorem RowsQ.done {fd fd2 : List (List Int)} {row : List Value} {s : Int} {rest : List Int} {left : Int} {u : List Int} {j : Nat} (hs : g.fLetters ≤ s) (hr : idx SS (s - g.fLetters) = some row) (hj : (j : Int) = left + 1) (hj6 : j ≤ 6) (h : RowsQ g SS fl fd row rest left u j fd2) : RwsQ g SS fl fd (s :: rest) left u fd2 := by
 refine ⟨fun x hx => ?_, h.keep, fun v hv => ?_, ?_⟩
 ·cases hx with
  | lett h1 => omega
  | name h1 h2 h3 h4 h5 h6 h7 =>
   rw [hr] at h3
   cases h3
   rw [← List.append_assoc]
   exact h.all _ (by omega) _ _ h4 h5 _ h6 _ h7
 ·rcases h.only v hv with hv | ⟨n, r, D, y, x, h1, h2, h3, h4, h5, rfl⟩
  ·exact .inl hv
  ·exact .inr ⟨_, .name hs (by omega) hr h2 h3 h4 h5, List.append_assoc ..⟩
 ·have h1 := h.len
  have h2 : j * (1500 * 10000 ^ rest.length) ≤ 6 * (1500 * 10000 ^ rest.length) := Nat.mul_le_mul_right _ hj6
  rw [List.length_cons, Nat.pow_succ]
  omega
theorem RwsQ.nil {fd : List (List Int)} {left : Int} {u : List Int} : RwsQ g SS fl fd [] left u (fd ++ [u]) := by
 refine ⟨fun x hx => ?_, fun v hv => List.mem_append_left _ hv, fun v hv => ?_, by simp⟩
 ·cases hx
  rw [List.append_nil]
  exact List.mem_append_right _ (List.mem_singleton.2 rfl)
 ·rcases List.mem_append.1 hv with hv | hv
  ·exact .inl hv
  ·obtain rfl := List.mem_singleton.1 hv
   exact .inr ⟨[], .nil, (List.append_nil _).symm⟩
theorem RwsQ.none {fd : List (List Int)} {s left : Int} {rest u : List Int} (hs : s < g.fLetters) (hl : left ≤ 0) : RwsQ g SS fl fd (s :: rest) left u fd := by
 refine ⟨fun x hx => ?_, fun v hv => hv, fun v hv => .inl hv, Nat.le_add_right _ _⟩
 cases hx with
 | lett h1 h2 => omega
 | name h1 => omega
theorem RwsQ.lett {fd fd' : List (List Int)} {s left : Int} {rest u : List Int} (hs : s < g.fLetters) (hl : 0 < left) (h : RwsQ g SS fl fd rest (left - 1) (u ++ [s]) fd') : RwsQ g SS fl fd (s :: rest) left u fd' := by
 refine ⟨fun x hx => ?_, h.keep, fun v hv => ?_, ?_⟩
 ·cases hx with
  | lett h1 h2 h3 =>
   have := h.all _ h3
   simpa using this
  | name h1 => omega
 ·rcases h.only v hv with hv | ⟨x, hx, rfl⟩
  ·exact .inl hv
  ·exact .inr ⟨s :: x, .lett hs hl hx, by simp⟩
 ·have h1 := h.len
  have h2 : 10000 ^ rest.length ≤ 10000 ^ (s :: rest).length := Nat.pow_le_pow_right (by decide) (by simp)
  omega
end
def Has (SS : List (List Value)) (fl : FList) (a : Int) (w : List Int) : Prop := ∃ row r D, idx SS a = some row ∧ row[w.length]? = some r ∧ FamAt fl r D ∧ ∃ y ∈ D, bytesL y.1 = w
def ClosedM (g : ApiGrammar) (SS : List (List Value)) (fl : FList) (n : Int) (m : ApiMake) : Prop := ∀ x, Cmb g SS fl m.fTo n x → Has SS fl m.fFrom x
def ManQ (g : ApiGrammar) (n : Int) (cnt : Int) : Prop := ∀ w, SDer g [g.fLetters] w → (w.length : Int) = n → 1 ≤ cnt
theorem cmb_all {g : ApiGrammar} {SS : List (List Value)} {fl : FList} {n : Int} (h : ∀ m ∈ g.fMakes, ClosedM g SS fl n m) (hn : 0 ≤ n) {signs u : List Int} (hd : SDer g signs u) : ∀ left : Int, left ≤ n → (u.length : Int) ≤ left → Cmb g SS fl signs left u := by
 induction hd with
 | nil => exact fun _ _ _ => .nil
 | lett h1 _ ih =>
  intro left hl hu
  rw [List.length_cons] at hu
  exact .lett h1 (by omega) (ih _ (by omega) (by omega))
 | @name s rest u v m h1 h2 h3 _ _ ih1 ih2 =>
  intro left hl hu
  rw [List.length_append] at hu
  obtain ⟨row, r, D, e1, e2, e3, y, hy, e4⟩ := h m h2 u (ih1 n (Int.le_refl _) (by omega))
  subst e4
  rw [h3] at e1
  exact .name h1 (by omega) e1 e2 e3 hy (ih2 _ (by omega) (by omega))
theorem man_of {g : ApiGrammar} {SS : List (List Value)} {fl : FList} {n : Int} (h : ∀ m ∈ g.fMakes, ClosedM g SS fl n m) (hn : 0 ≤ n) {W : Nat} (hs : SetsOk g W SS fl) {row : List Value} {r : Value} {k : Nat} {D : List (ByteArray × Int)} {es : Array MapEntry} {ck : Nat} (h1 : idx SS 0 = some row) (h2 : idx row n = some r) (h3 : fl[k]? = some (r, D, es, ck)) : ManQ g n (D.length : Int) := fun w hd hw => by
 cases hd with
 | lett h => omega
 | @name _ _ u v m e1 e2 e3 e4 e5 =>
  cases e5
  rw [List.append_nil] at hw
  have e3 : m.fFrom = 0 := by omega
  obtain ⟨row', r', D', f1, f2, f3, y, hy, f4⟩ := h m e2 u (cmb_all h hn e4 n (Int.le_refl _) (by omega))
  rw [e3, h1] at f1
  cases f1
  rw [← hw] at h2
  have h4 : row[u.length]? = some r := by simpa using (idx_some h2).2.2
  rw [f2] at h4
  cases h4
  obtain rfl := hs.uniq h3 f3
  have := List.length_pos_of_mem hy
  omega
def muS (fl : FList) : Nat := (fl.map fun e => 1024 - e.2.1.length).sum
theorem sum_set {α : Type} (f : α → Nat) (e' : α) : ∀ (l : List α) (k : Nat) (e : α), l[k]? = some e → ((l.set k e').map f).sum + f e = (l.map f).sum + f e'
 | x :: l, 0, e, h => by
  cases h
  simp only [List.set_cons_zero, List.map_cons, List.sum_cons]
  omega
 | x :: l, k + 1, e, h => by
  have := sum_set f e' l k e h
  simp only [List.set_cons_succ, List.map_cons, List.sum_cons]
  omega
section
variable {g : ApiGrammar} {W : Nat} {SS : List (List Value)} {fl : FList}
theorem SetsOk.place (h : SetsOk g W SS fl) {a n : Int} (ha : 0 ≤ a ∧ a < g.fNames) (hn : 0 ≤ n ∧ n < W) : ∃ row r D es ck, idx SS a = some row ∧ idx row n = some r ∧ fl[a.toNat * W + n.toNat]? = some (r, D, es, ck) ∧ EntOk g n.toNat D := by
 have h1 : a.toNat < SS.length := by have := h.names; omega
 have h2 := h.sizes _ (List.getElem_mem h1)
 have h3 : n.toNat < (SS[a.toNat]).length := by omega
 obtain ⟨D, es, ck, h4⟩ := h.at_ a.toNat n.toNat _ _ (List.getElem?_eq_getElem h1) (List.getElem?_eq_getElem h3)
 have h5 := h.ents _ _ _ _ _ h4
 rw [Nat.mul_comm, Nat.mul_add_mod, Nat.mod_eq_of_lt (by omega)] at h5
 have e1 := idx_at h1
 have e2 := idx_at h3
 rw [Int.toNat_of_nonneg ha.1] at e1
 rw [Int.toNat_of_nonneg hn.1] at e2
 exact ⟨_, _, D, es, ck, e1, e2, h4, h5⟩
theorem EntOk.put {d : Nat} {D : List (ByteArray × Int)} (h : EntOk g d D) (hg : g.fLetters ≤ 4) {w : List Int} (hw : w.length = d) (hl : ∀ a ∈ w, 0 ≤ a ∧ a < g.fLetters) : EntOk g d (mput (bytesOf w) 1 D) := by
 have hb : bytesL (bytesOf w) = w := bytesL_of fun x hx => by have := hl x hx; omega
 have hm : ∀ y ∈ mput (bytesOf w) (1 : Int) D, y = (bytesOf w, 1) ∨ y ∈ D := fun y hy => by
  have hy2 : (y.1, y.2) ∈ mput (bytesOf w) (1 : Int) D := hy
  rw [← mget_mem (mput_nodup h.nodup), mget_put] at hy2
  split at hy2
  ·rename_i e
   have e2 : (1 : Int) = y.2 := Option.some.inj hy2
   exact .inl (Prod.ext e e2.symm)
  ·exact .inr ((mget_mem h.nodup).1 hy2)
 refine ⟨mput_nodup h.nodup, fun y hy => ?_, fun y hy => ?_⟩
 ·rcases hm y hy with rfl | hy
  ·show (bytesL (bytesOf w)).length = d ∧ ∀ a ∈ bytesL (bytesOf w), _
   rw [hb]
   exact ⟨hw, hl⟩
  ·exact h.words y hy
 ·rcases hm y hy with rfl | hy
  ·rfl
  ·exact h.ones y hy
theorem SetsOk.set (h : SetsOk g W SS fl) {k : Nat} {r : Value} {D D' : List (ByteArray × Int)} {es es' : Array MapEntry} {ck ck' : Nat} (hk : fl[k]? = some (r, D, es, ck)) (hD : EntOk g (k % W) D') : SetsOk g W SS (fl.set k (r, D', es', ck')) := by
 refine ⟨h.names, h.sizes, by rw [famRefs_set hk]; exact h.refs, fun a n row r' ha hn => ?_, fun q r' D2 es2 ck2 hq => ?_⟩
 ·obtain ⟨D2, es2, ck2, h1⟩ := h.at_ a n row r' ha hn
  by_cases e : k = a * W + n
  ·subst e
   rw [hk] at h1
   cases h1
   exact ⟨D', es', ck', by rw [List.getElem?_set_self (List.getElem?_eq_some_iff.1 hk).1]⟩
  ·exact ⟨D2, es2, ck2, by rw [List.getElem?_set_ne e]; exact h1⟩
 ·by_cases e : k = q
  ·subst e
   rw [List.getElem?_set_self (List.getElem?_eq_some_iff.1 hk).1] at hq
   cases hq
   exact hD
  ·rw [List.getElem?_set_ne e] at hq
   exact h.ents _ _ _ _ _ hq
theorem EntOk.zero {d : Nat} {D : List (ByteArray × Int)} (h : EntOk g d D) {s : ByteArray} : (mget s D).getD 0 = 0 ↔ mget s D = none := by
 cases e : mget s D with
 | none => exact ⟨fun _ => rfl, fun _ => rfl⟩
 | some v =>
  have := h.ones _ ((mget_mem h.nodup).1 e)
  refine ⟨fun h0 => ?_, fun h0 => (by cases h0)⟩
  have h0 : v = 0 := h0
  have this : v = 1 := this
  omega
theorem muS_put {k : Nat} {r : Value} {D : List (ByteArray × Int)} {es es' : Array MapEntry} {ck ck' : Nat} (hk : fl[k]? = some (r, D, es, ck)) {s : ByteArray} (h0 : mget s D = none) (hf : (mput s (1 : Int) D).length ≤ 1024) : muS (fl.set k (r, mput s 1 D, es', ck')) < muS fl := by
 have h1 := sum_set (fun e : FamE ByteArray Int => 1024 - e.2.1.length) (r, mput s 1 D, es', ck') fl k _ hk
 have h2 := mput_length (v := 1) h0
 have h1 : muS (fl.set k (r, mput s 1 D, es', ck')) + (1024 - D.length) = muS fl + (1024 - (mput s 1 D).length) := h1
 rw [h2] at h1 hf
 omega
theorem SetsOk.word (h : SetsOk g W SS fl) (hg : g.fLetters ≤ 4) (hW : W ≤ 6) {r : Value} {D : List (ByteArray × Int)} {es : Array MapEntry} {ck : Nat} {a : Int} {w : List Int} (hw : w.length < W) (hk : fl[a.toNat * W + w.length]? = some (r, D, es, ck)) (hl : ∀ x ∈ w, 0 ≤ x ∧ x < g.fLetters) (h0 : mget (bytesOf w) D = none) (es' : Array MapEntry) (ck' : Nat) :
  SetsOk g W SS (fl.set (a.toNat * W + w.length) (r, mput (bytesOf w) 1 D, es', ck')) ∧ muS (fl.set (a.toNat * W + w.length) (r, mput (bytesOf w) 1 D, es', ck')) < muS fl := by
 have h1 := h.ents _ _ _ _ _ hk
 have h2 : (a.toNat * W + w.length) % W = w.length := by rw [Nat.mul_comm, Nat.mul_add_mod, Nat.mod_eq_of_lt hw]
 have h3 := h1.put hg (w := w) h2.symm hl
 refine ⟨h.set hk h3, muS_put hk h0 (h3.few hg ?_)⟩
 rw [h2]
 omega
theorem has_of {k : Nat} {r : Value} {D : List (ByteArray × Int)} {es : Array MapEntry} {ck : Nat} {a : Int} {w : List Int} {row : List Value} (h1 : idx SS a = some row) (h2 : idx row (w.length : Int) = some r) (hk : fl[k]? = some (r, D, es, ck)) {d : Nat} (hD : EntOk g d D) (hg : g.fLetters ≤ 4) (hl : ∀ x ∈ w, 0 ≤ x ∧ x < g.fLetters) (h0 : mget (bytesOf w) D ≠ none) : Has SS fl a w := by
 cases e : mget (bytesOf w) D with
 | none => exact absurd e h0
 | some v => exact ⟨row, r, D, h1, by simpa using (idx_some h2).2.2, ⟨k, es, ck, hk⟩, _, (mget_mem hD.nodup).1 e, bytesL_of fun x hx => by have := hl x hx; omega⟩
end
structure Crt (N W a j : Nat) (fl : FList) (SS : List (List Value)) : Prop where
 len : SS.length = N
 full : ∀ (b : Nat) (row : List Value), SS[b]? = some row → row.length = if b < a then W else if b = a then j else 0
 size : fl.length = a * W + j
 refs : (famRefs fl).Nodup
 at_ : ∀ (b n : Nat) (row : List Value) (r : Value), SS[b]? = some row → row[n]? = some r → ∃ D es ck, fl[b * W + n]? = some (r, D, es, ck)
 nils : ∀ (k : Nat) r D es ck, fl[k]? = some (r, D, es, ck) → D = []
theorem Crt.start {N W : Nat} : Crt N W 0 0 [] (List.replicate N []) := by
 have hr : ∀ (b : Nat) (row : List Value), (List.replicate N ([] : List Value))[b]? = some row → row = [] := fun b row h => by
  rw [List.getElem?_replicate] at h
  split at h
  ·exact (Option.some.inj h).symm
  ·cases h
 refine ⟨List.length_replicate, fun b row h => ?_, by simp, List.nodup_nil, fun b n row r h h2 => ?_, fun k r D es ck h => by simp at h⟩
 ·rw [hr b row h]
  split
  ·omega
  ·split <;> rfl
 ·rw [hr b row h] at h2
  simp at h2
theorem Crt.push {N W a j : Nat} {fl : FList} {SS : List (List Value)} (h : Crt N W a j fl SS) {e : List Value} (he : SS[a]? = some e) {r : Value} (hr : r ∉ famRefs fl) (es : Array MapEntry) (ck : Nat) : Crt N W a (j + 1) (fl ++ [(r, [], es, ck)]) (SS.set a (e ++ [r])) := by
 have ha := (List.getElem?_eq_some_iff.1 he).1
 have hel : e.length = j := by have := h.full a e he; rw [if_neg (Nat.lt_irrefl a), if_pos rfl] at this; exact this
 refine ⟨by rw [List.length_set]; exact h.len, fun b row hb => ?_, by rw [List.length_append, h.size]; simp; omega, ?_, fun b n row r' hb hn => ?_, fun k r' D es' ck' hk => ?_⟩
 ·by_cases c : a = b
  ·subst c
   rw [List.getElem?_set_self ha] at hb
   obtain rfl := Option.some.inj hb
   rw [if_neg (Nat.lt_irrefl a), if_pos rfl, List.length_append, hel]
   rfl
  ·rw [List.getElem?_set_ne c] at hb
   have := h.full b row hb
   rw [this]
   split
   ·rfl
   ·rw [if_neg (Ne.symm c), if_neg (Ne.symm c)]
 ·unfold famRefs
  rw [List.map_append, List.nodup_append]
  refine ⟨h.refs, by simp, fun x hx y hy e => ?_⟩
  have hy : y = r := by simpa using hy
  subst hy
  subst e
  exact hr hx
 ·by_cases c : a = b
  ·subst c
   rw [List.getElem?_set_self ha] at hb
   obtain rfl := Option.some.inj hb
   rcases Nat.lt_or_ge n e.length with hlt | hge
   ·rw [List.getElem?_append_left hlt] at hn
    obtain ⟨D, es', ck', h1⟩ := h.at_ a n e r' he hn
    exact ⟨D, es', ck', by rw [List.getElem?_append_left (List.getElem?_eq_some_iff.1 h1).1]; exact h1⟩
   ·have hn2 := (List.getElem?_eq_some_iff.1 hn).1
    rw [List.length_append] at hn2
    obtain rfl : n = e.length := by simp at hn2; omega
    have hn3 : r = r' := by simpa using hn
    subst hn3
    refine ⟨[], es, ck, ?_⟩
    rw [show a * W + e.length = fl.length by rw [h.size, hel]]
    simp
  ·rw [List.getElem?_set_ne c] at hb
   obtain ⟨D, es', ck', h1⟩ := h.at_ b n row r' hb hn
   exact ⟨D, es', ck', by rw [List.getElem?_append_left (List.getElem?_eq_some_iff.1 h1).1]; exact h1⟩
 ·rcases Nat.lt_or_ge k fl.length with hlt | hge
  ·rw [List.getElem?_append_left hlt] at hk
   exact h.nils k r' D es' ck' hk
  ·have hk2 := (List.getElem?_eq_some_iff.1 hk).1
   rw [List.length_append] at hk2
   obtain rfl : k = fl.length := by simp at hk2; omega
   simp at hk
   first | exact hk.2.1 | exact hk.2.1.symm
theorem Crt.next {N W a : Nat} {fl : FList} {SS : List (List Value)} (h : Crt N W a W fl SS) : Crt N W (a + 1) 0 fl SS := by
 refine ⟨h.len, fun b row hb => ?_, by rw [h.size, Nat.succ_mul]; rfl, h.refs, h.at_, h.nils⟩
 have := h.full b row hb
 rw [this]
 by_cases c1 : b < a
 ·rw [if_pos c1, if_pos (by omega)]
 ·rw [if_neg c1]
  by_cases c2 : b = a
  ·rw [if_pos c2, if_pos (by omega)]
  ·rw [if_neg c2, if_neg (by omega)]
   split <;> rfl
theorem Crt.done {g : ApiGrammar} {N W : Nat} {fl : FList} {SS : List (List Value)} (h : Crt N W N 0 fl SS) (hN : (N : Int) = g.fNames) : SetsOk g W SS fl := by
 refine ⟨by rw [h.len]; exact hN, fun row hr => ?_, h.refs, h.at_, fun k r D es ck hk => ?_⟩
 ·obtain ⟨b, hb, rfl⟩ := List.mem_iff_getElem.1 hr
  have := h.full b _ (List.getElem?_eq_getElem hb)
  rw [h.len] at hb
  rw [if_pos hb] at this
  exact this
 ·obtain rfl := h.nils k r D es ck hk
  exact ⟨List.nodup_nil, fun y hy => (by cases hy), fun y hy => (by cases hy)⟩
def mTel_vc (fd : List (List Int)) (w : List Int) (Q : (List (List Int)) → Prop) : Prop :=
 w.length ≤ 9223372036854775807 →
 (capOk fd.length (([w] : List (List Int)) : List (List Int)).length 24 ∧
 Q (fd ++ ([w] : List (List Int))))
noncomputable abbrev qah0 := (List (List Int))
theorem mTel_walk (fd : List (List Int)) (w : List Int) (Q : (List (List Int)) → Prop) (h : mTel_vc fd w Q) : CtE 50 [.sv (.one (LS intT w)), .sv (.one (.ptr 0 0))] [.box [.own 1] 22 false, rowI 23 (lsT intT) fd] [0] Q (fun (r : List (List Int)) => .tup []) (fun (r : List (List Int)) => [.box [.own 1] 22 false, rowI 23 (lsT intT) r]) := by
 have ht := tab_ok
 refine CtE.body Try.func50 rfl rfl rfl (by kernel_rfl) (by kernel_rfl) (fun c Bk hn => ?_)
 unfold mTel_vc at h
 show En c ⟨[sl 0 (LS intT w), sl 1 (.pptr 0 0 (Bk 0))], [.box [.own 1] 22 false, rowI 23 (lsT intT) fd]⟩ _
 refine En.lenL 0 (by rfl) (fun hl => ?_)
 replace h := h hl
 clear hl
 refine En.region ?_
 refine WL.r ht hn 2 ⟨[sl 1 (.pptr 0 0 (Bk 0)), sl 3 (.own 1), sl 4 (LS intT w)], [.box [.own 1] 22 false, rowI 23 (lsT intT) fd]⟩ ?_
 refine WL.mt0 (K := []) (p := some (2, rowI 23 (lsT intT) ([w] : qah0))) hn (by rfl) (mt_lit (T := (lsT intT)) ([w] : qah0) (mt_bsl 2 (r := cellsOf (lsT intT) ([w] : qah0)) ht rfl (by rfl) (by rfl) (by rfl) (by kernel_rfl) (by rfl)) (fun _ h => by cases h) (fun _ => rfl) (fun _ => rfl) (by rfl) (Nat.le_of_ble_eq_true rfl)) (by rfl) (by rfl) (by rfl) ?_
 refine WL.seal (T := (lsT intT)) (l := ([w] : qah0)) (e := 23) 2 rfl ?_
 refine WL.r ht hn 0 ⟨[sl 1 (.pptr 0 0 (Bk 0)), sl 3 (.own 1), sl 4 (LS intT w), sl 5 (LS (lsT intT) ([w] : qah0))], [.box [.own 1] 22 false, rowI 23 (lsT intT) fd, .gone]⟩ ?_
 refine WL.junk 0 0 (by rfl) ?_
 obtain ⟨hp, h⟩ := h
 refine WL.mt (S2 := ⟨[sl 1 (.pptr 0 0 (Bk 0)), sl 4 (LS intT w), sl 5 (LS (lsT intT) ([w] : qah0))], [.box [.junk] 22 false, rowI 23 (lsT intT) fd, .gone]⟩) (K := [1]) (p := some (1, rowI 23 (lsT intT) (fd ++ ([w] : qah0)))) hn (by rfl) (mt_append (T := (lsT intT)) (l := fd) (es := ([w] : qah0)) ht rfl (by rfl) (by rfl) (by rfl) (by rfl) (by decide) (by rfl) (by rfl) (srcLS (T := (lsT intT)) (es := ([w] : qah0)) (fun _ h => by cases h) (by decide) (by rfl)) (by exact hp) (by exact hp.le (by decide))) (by kernel_rfl) (by rfl) (by rfl) (by rfl) ?_
 refine WL.rn ht hn 1 ⟨[sl 1 (.pptr 0 0 (Bk 0))], [.box [.own 1] 22 false, rowI 23 (lsT intT) (fd ++ ([w] : qah0)), .gone]⟩ ?_
 exact En.backE [1] ht (fd ++ ([w] : qah0)) h (by kernel_rfl) (by rfl) rfl
theorem en50 : ∀ args w, (callFunc 50 args).run Try.prog w = .ok (.enter 50 args) w := enters_of Try.func50 (by kernel_rfl) rfl
theorem mTel_ct (fd : List (List Int)) (w : List Int) (hp : fd.length ≤ 1000000000000)  : CtE 50 [.sv (.one (LS intT w)), .sv (.one (.ptr 0 0))] [.box [.own 1] 22 false, rowI 23 (lsT intT) fd] [0] (fun (_ : Unit) => True) (fun _ => .tup []) (fun _ => [.box [.own 1] 22 false, rowI 23 (lsT intT) (fd ++ [w])]) := by
 refine (mTel_walk fd w (fun res_ => res_ = fd ++ [w]) ?_).imp (fun r hr => ⟨(), trivial, by subst hr; rfl, by subst hr; rfl⟩)
 intro _
 exact ⟨capOk_of (by simp only [List.length_cons, List.length_nil]; omega), rfl⟩
theorem en48 : ∀ args w, (callFunc 48 args).run Try.prog w = .ok (.enter 48 args) w := enters_of Try.func48 (by kernel_rfl) rfl
def MRwC (g : ApiGrammar) (SS : List (List Value)) (fl : FList) (n : Nat) : Prop := ∀ (fd : List (List Int)) (signs : List Int) (left : Int) (u : List Int), RwsPre g SS fl fd signs left u n → CtE 48 [.sv (.one (LS intT signs)), .sv (.one (I left)), .sv (.one (LS intT u)), .sv (.one (.fn 50 [4])), .sv (.one (.ptr 0 0)), .sv (.one (.ptr 1 0)), .sv (.one (.ptr 2 0))] [.box [I g.fLetters, I g.fNames, LS ApiMake.ty g.fMakes] 37 false, .box [.fn 48 [0, 1, 2]] 102 false, .box [LS (lsT valT) SS] 100 false, famI encS intT fl none, .box [.own 5] 22 false, rowI 23 (lsT intT) fd] [0, 1, 2, 4] (RwsQ g SS fl fd signs left u) (fun (_ : List (List Int)) => .tup []) (fun (r : List (List Int)) => [.box [I g.fLetters, I g.fNames, LS ApiMake.ty g.fMakes] 37 false, .box [.fn 48 [0, 1, 2]] 102 false, .box [LS (lsT valT) SS] 100 false, famI encS intT fl none, .box [.own 5] 22 false, rowI 23 (lsT intT) r])
def mRow_vc (g : ApiGrammar) (SS : List (List Value)) (fl : List (FamE ByteArray Int)) (fd : List (List Int)) (signs : List Int) (left : Int) (u : List Int) (n : Nat) (Q : (List (List Int)) → Prop) : Prop :=
 signs.length ≤ 9223372036854775807 →
 u.length ≤ 9223372036854775807 →
 (IfP ((signs.length : Int) == 0) (((fd).length ≤ 1000000000000) ∧
 Q (fd ++ [u])) (∃ e, idx signs 0 = some e ∧
 IfP (decide (e < g.fLetters)) (∃ J : (List (List Int)) → Prop, (IfP (decide (left > 0)) (partOk 1 (signs.length : Int) signs.length ∧
 (u.length * 8 ≤ 140737488355328) ∧
 capOk (u).length (([e] : List Int) : List Int).length 8 ∧
 (RwsPre g SS fl fd ((signs.take ((signs.length : Int) : Int).toNat).drop (1 : Int).toNat) (wr (left - 1)) ((u) ++ ([e] : List Int)) n) ∧
 ∀ r : (List (List Int)), (RwsQ g SS fl fd ((signs.take ((signs.length : Int) : Int).toNat).drop (1 : Int).toNat) (wr (left - 1)) ((u) ++ ([e] : List Int))) r →
 (J r)) (J fd)) ∧
 (∀ (l5 : List (List Int)), J l5 → Q l5)) (∃ e_2, idx signs 0 = some e_2 ∧
 ∃ e_3, idx SS (wr (e_2 - g.fLetters)) = some e_3 ∧
 partOk 0 (wr (left + 1)) e_3.length ∧
 ∃ (Inv : Int → (List (List Int)) → Prop) (mu : Int → (List (List Int)) → Nat), Inv 0 fd ∧
 ∀ (x55 : Int) (l5_2 : List (List Int)) , Inv x55 l5_2 → (IfP (decide (x55 < (((e_3.take ((wr (left + 1)) : Int).toNat).drop (0 : Int).toNat).length : Int))) (∃ e_4, idx ((e_3.take ((wr (left + 1)) : Int).toNat).drop (0 : Int).toNat) x55 = some e_4 ∧
 ∃ (k : Nat) (D : List (ByteArray × Int)) (es : Array MapEntry) (ck : Nat), fl[k]? = some (e_4, D, es, ck) ∧
 (∃ (Inv_2 : (List (List Int)) → (List (ByteArray × Int)) → (Option (ByteArray × Int)) → Prop) (mu_2 : (List (List Int)) → (List (ByteArray × Int)) → (Option (ByteArray × Int)) → Nat), Inv_2 l5_2 D none ∧
 ∀ (l5_3 : List (List Int)) (left_2 : List (ByteArray × Int)) (cur : (Option (ByteArray × Int))) , Inv_2 l5_3 left_2 cur → ((left_2 = [] → ((Inv (wr (x55 + 1)) l5_3 ∧ mu (wr (x55 + 1)) l5_3 < mu x55 l5_2))) ∧ ∀ (l1 : List (ByteArray × Int)) (y : (ByteArray × Int)) (l2 : List (ByteArray × Int)), left_2 = l1 ++ y :: l2 →
 (partOk 1 (signs.length : Int) signs.length ∧
 (u.length * 8 ≤ 140737488355328) ∧
 (y.1.size ≤ 1000) ∧
 capOk (u).length ((bytesL y.1) : List Int).length 8 ∧
 (RwsPre g SS fl l5_3 ((signs.take ((signs.length : Int) : Int).toNat).drop (1 : Int).toNat) (wr (left - x55)) ((u) ++ (bytesL y.1)) n) ∧
 ∀ r_2 : (List (List Int)), (RwsQ g SS fl l5_3 ((signs.take ((signs.length : Int) : Int).toNat).drop (1 : Int).toNat) (wr (left - x55)) ((u) ++ (bytesL y.1))) r_2 →
 ((Inv_2 r_2 (l1 ++ l2) (some y) ∧ mu_2 r_2 (l1 ++ l2) (some y) < mu_2 l5_3 left_2 cur)))))) (Q l5_2)))))
noncomputable abbrev qai0 (g : ApiGrammar) (SS : List (List Value)) (fl : List (FamE ByteArray Int)) (fd : List (List Int)) := ([.box (ApiGrammar.cl g) 37 false, .box [.fn 48 [0, 1, 2]] 102 false, .box [LS (lsT valT) SS] 100 false, famI encS intT fl none, .box [.own 5] 22 false, rowI 23 (lsT intT) fd] : List Item)
noncomputable abbrev qai1 (y0 : Nat → Nat) := sl 3 (.pfn 50 [(4, y0 4)])
noncomputable abbrev qai2 := (.box [.fn 48 [0, 1, 2]] 102 false : Item)
noncomputable abbrev qai3 (y0 : Nat → Nat) := sl 5 (.pptr 1 0 (y0 1))
noncomputable abbrev qai4 (y0 : Nat → Nat) := sl 4 (.pptr 0 0 (y0 0))
noncomputable abbrev qai5 (y0 : Nat → Nat) := sl 6 (.pptr 2 0 (y0 2))
noncomputable abbrev qai6 (SS : List (List Value)) := (.box [LS (lsT valT) SS] 100 false : Item)
noncomputable abbrev qai7 (g : ApiGrammar) (SS : List (List Value)) (fl : List (FamE ByteArray Int)) (y0) := ([.box (ApiGrammar.cl g) 37 false, (qai2), (qai6 SS), famI encS intT fl none, .box [.own 5] 22 false, rowI 23 (lsT intT) y0] : List Item)
noncomputable abbrev qai8 (signs : List Int) := (LS intT ((signs.take ((signs.length : Int) : Int).toNat).drop (1 : Int).toNat))
noncomputable abbrev qai9 := (.box [.own 5] 22 false : Item)
noncomputable abbrev qai10 (u : List Int) := sl 2 (LS intT u)
noncomputable abbrev qai11 (signs : List Int) := sl 0 (LS intT signs)
noncomputable abbrev qai12 (g : ApiGrammar) := (ApiGrammar.cl g)
noncomputable abbrev qai13 (left : Int) := (wr (left + 1))
theorem mRow_walk (g : ApiGrammar) (SS : List (List Value)) (fl : List (FamE ByteArray Int)) (fd : List (List Int)) (signs : List Int) (left : Int) (u : List Int) (n : Nat) (ih : MRwC g SS fl n) (Q : (List (List Int)) → Prop) (h : mRow_vc g SS fl fd signs left u n Q) : CtE 48 [.sv (.one (LS intT signs)), .sv (.one (I left)), .sv (.one (LS intT u)), .sv (.one (.fn 50 [4])), .sv (.one (.ptr 0 0)), .sv (.one (.ptr 1 0)), .sv (.one (.ptr 2 0))] [.box [I g.fLetters, I g.fNames, LS ApiMake.ty g.fMakes] 37 false, .box [.fn 48 [0, 1, 2]] 102 false, .box [LS (lsT valT) SS] 100 false, famI encS intT fl none, .box [.own 5] 22 false, rowI 23 (lsT intT) fd] [0, 1, 2, 4] Q (fun (r : List (List Int)) => .tup []) (fun (r : List (List Int)) => [.box [I g.fLetters, I g.fNames, LS ApiMake.ty g.fMakes] 37 false, .box [.fn 48 [0, 1, 2]] 102 false, .box [LS (lsT valT) SS] 100 false, famI encS intT fl none, .box [.own 5] 22 false, rowI 23 (lsT intT) r]) := by
 have ht := tab_ok
 refine CtE.bodyP [0, 1, 2, 4] [] Try.func48 rfl rfl rfl (by kernel_rfl) (by kernel_rfl) (fun c Bk Vk hn => ?_)
 unfold mRow_vc at h
 show En c ⟨[qai11 signs, sl 1 (I left), qai10 u, qai1 Bk, qai4 Bk, qai3 Bk, qai5 Bk], (qai0 g SS fl fd)⟩ _
 refine En.lenL 0 (by rfl) (fun hl => ?_)
 replace h := h hl
 clear hl
 refine En.lenL 2 (by rfl) (fun hl => ?_)
 replace h := h hl
 clear hl
 refine En.seq ?_
 refine En.sr ?_
 refine WL.rn ht hn 3 ⟨[qai11 signs, sl 1 (I left), qai10 u, qai1 Bk, qai4 Bk, qai3 Bk, qai5 Bk, sl 17 (B ((signs.length : Int) == 0))], (qai0 g SS fl fd)⟩ ?_
 refine En.ch h (fun h => ?_) (fun h => ?_)
 refine En.sr ?_
 refine WL.r ht hn 2 ⟨[qai1 Bk, qai4 Bk, qai3 Bk, qai5 Bk, sl 18 (.fn 50 [4]), sl 19 (LS intT u)], (qai0 g SS fl fd)⟩ ?_
 obtain ⟨hp, h⟩ := h
 refine WL.callE (mTel_ct fd u hp) en50 (caps := [4]) [4, 5] hn (by rfl) rfl (by rfl) (argsAs (by kernel_rfl) (by rfl)) (by kernel_rfl) (by decide) (by rfl) (by rfl) (fun _ _ => ⟨by rfl, _, by rfl, ?_⟩)
 refine WL.nil ?_
 refine En.ret ?_
 exact En.backP [.slot 4, .slot 5, .slot 6, .cap 3 0] [] ht (fd ++ [u]) h (by kernel_rfl) (by rfl) rfl rfl
 refine En.skip ?_
 refine En.seq ?_
 refine En.sr ?_
 refine WL.r ht hn 1 ⟨[qai11 signs, sl 1 (I left), qai10 u, qai1 Bk, qai4 Bk, qai3 Bk, qai5 Bk, sl 21 (LS intT signs)], (qai0 g SS fl fd)⟩ ?_
 obtain ⟨e, he, h⟩ := h
 refine WL.v hn (val_ix (T := intT) (l := signs) (i := 0) ht rfl he) ?_
 refine WL.v hn (val_ld (s := .one (I e)) ht rfl) ?_
 refine WL.rn ht hn 1 ⟨[qai11 signs, sl 1 (I left), qai10 u, qai1 Bk, qai4 Bk, qai3 Bk, qai5 Bk, sl 11 (I e)], (qai0 g SS fl fd)⟩ ?_
 refine En.sr ?_
 refine WL.rn ht hn 4 ⟨[qai11 signs, sl 1 (I left), qai10 u, qai1 Bk, qai4 Bk, qai3 Bk, qai5 Bk, sl 11 (I e), sl 27 (B (decide (e < g.fLetters)))], (qai0 g SS fl fd)⟩ ?_
 refine En.ch h (fun h => ?_) (fun h => ?_)
 obtain ⟨J, h, hJ⟩ := h
 refine En.seqJ (σ := (List (List Int))) (fun zz => J zz) (fun zz => ⟨[qai1 Bk, qai4 Bk, qai3 Bk, qai5 Bk], [.box (qai12 g) 37 false, qai2, qai6 SS, famI encS intT fl none, qai9, rowI 23 (lsT intT) zz]⟩) ?_ ?_
 refine En.sr ?_
 refine WL.rn ht hn 2 ⟨[qai11 signs, sl 1 (I left), qai10 u, qai1 Bk, qai4 Bk, qai3 Bk, qai5 Bk, sl 11 (I e), sl 29 (B (decide (left > 0)))], (qai0 g SS fl fd)⟩ ?_
 refine En.ch h (fun h => ?_) (fun h => ?_)
 obtain ⟨hp_2, h⟩ := h
 obtain ⟨hp_3, h⟩ := h
 obtain ⟨hp_4, h⟩ := h
 refine En.regionT ⟨[qai11 signs, sl 1 (I left), qai10 u, qai1 Bk, qai4 Bk, qai3 Bk, qai5 Bk, sl 11 (I e)], [.sv (.one (.fn 48 [0, 1, 2])), .sv (.one (LS intT signs)), .sv (.one (qai8 signs)), .sv (.one (I left)), .sv (.one (I (wr (left - 1)))), .sv (.one (LS intT u)), .sv (.one (.own 6)), .sv (.one (I e)), .sv (.one (LS intT ([e] : List Int))), .sv (.one (LS intT (u ++ ([e] : List Int)))), .sv (.one (.fn 50 [4]))], [⟨.box (qai12 g) 37 false, none, none, none⟩, ⟨(qai2), none, none, none⟩, ⟨(qai6 SS), none, none, none⟩, ⟨famI encS intT fl none, none, none, none⟩, ⟨(qai9), none, none, none⟩, ⟨rowI 23 (lsT intT) fd, none, none, none⟩, ⟨rowI 3 intT u, some 6, some 9, none⟩]⟩ 11 ⟨[qai1 Bk, qai4 Bk, qai3 Bk, qai5 Bk, sl 30 (.fn 48 [0, 1, 2]), sl 32 (qai8 signs), sl 34 (I (wr (left - 1))), sl 39 (LS intT (u ++ ([e] : List Int))), sl 40 (.fn 50 [4])], [.box (qai12 g) 37 false, qai2, qai6 SS, famI encS intT fl none, qai9, rowI 23 (lsT intT) fd, .gone]⟩ (by kernel_rfl) hn (by kernel_rfl) (by kernel_rfl) (by kernel_rfl) (by rfl) (by kernel_rfl) ?_ (by kernel_rfl) ?_
 exact ⟨.ev ⟨[qai3 Bk], [.gone, qai2]⟩ ht,
 .ev ⟨[qai11 signs], []⟩ ht,
 .vl ⟨[sl 31 (LS intT signs)], []⟩ (mt_val (val_slice (T := intT) (l := signs) (lv := 1) (hv := (signs.length : Int)) ht rfl (by rfl) (by rfl) (by rfl) (by rfl) (by rfl) (by rfl) (by rfl) hp_2)),
 .ev ⟨[sl 1 (I left)], []⟩ ht,
 .ev ⟨[sl 33 (I left)], []⟩ ht,
 .ev ⟨[qai10 u], []⟩ ht,
 .mt ⟨[sl 35 (LS intT u)], []⟩ [] (some 6) (by kernel_rfl) (by rfl) (mt_callI 6 (cloneInt_ct u hp_3) en37 (caps := []) [] rfl rfl (by rfl) (by kernel_rfl) (by kernel_rfl) (by rfl) (by rfl)) rfl rfl rfl rfl,
 .ev ⟨[sl 11 (I e)], []⟩ ht,
 .mt ⟨[sl 37 (I e)], []⟩ [] none (by kernel_rfl) (by rfl) (mt_seal (q := 7) (e := 3) (mt_lit (T := intT) ([e] : List Int) (mt_bsl 7 (r := cellsOf intT ([e] : List Int)) ht rfl (by rfl) (by rfl) (by rfl) (by kernel_rfl) (by rfl)) (fun _ h => by cases h) (fun _ => rfl) (fun _ => rfl) (by rfl) (Nat.le_of_ble_eq_true rfl))) rfl rfl rfl rfl,
 .mt ⟨[sl 36 (.own 6), sl 38 (LS intT ([e] : List Int))], [.gone, .gone, .gone, .gone, .gone, .gone, rowI 3 intT u]⟩ [6] none (by kernel_rfl) (by rfl) (mt_seal (q := 7) (e := 3) (mt_append (T := intT) (l := u) (es := ([e] : List Int)) (p := 7) ht rfl (by rfl) (by rfl) (by rfl) (by rfl) (by decide) (by rfl) (by rfl) (srcLS (T := intT) (es := ([e] : List Int)) (fun _ h => by cases h) (by decide) (by rfl)) (by exact hp_4) (by exact hp_4.le (by decide)))) rfl rfl rfl rfl,
 .ev ⟨[qai1 Bk], []⟩ ht,
 trivial⟩
 obtain ⟨hp, h⟩ := h
 refine WL.callQ [qai1 Bk, qai4 Bk, qai3 Bk, qai5 Bk, sl 30 (.fn 48 [0, 1, 2]), sl 32 (qai8 signs), sl 34 (I (wr (left - 1))), sl 39 (LS intT (u ++ ([e] : List Int))), sl 40 (.fn 50 [4])] (ih fd ((signs.take ((signs.length : Int) : Int).toNat).drop (1 : Int).toNat) (wr (left - 1)) (u ++ ([e] : List Int)) hp) en48 (caps := [0, 1, 2]) [0, 1, 2, 3, 4, 5] hn (by rfl) rfl (by rfl) (argsAs (by kernel_rfl) (by rfl)) (by kernel_rfl) (by decide) (by kernel_rfl) (by rfl) (by rfl) (fun r hr_2 => ⟨by rfl, _, by rfl, ?_⟩)
 replace h := h r hr_2
 refine WL.nil ?_
 exact En.at (I := fun zz => J zz) (T := fun zz => ⟨[qai1 Bk, qai4 Bk, qai3 Bk, qai5 Bk], [.box (qai12 g) 37 false, qai2, qai6 SS, famI encS intT fl none, qai9, rowI 23 (lsT intT) zz]⟩) r h (by kernel_rfl)
 refine En.skip ?_
 exact En.at (I := fun zz => J zz) (T := fun zz => ⟨[qai1 Bk, qai4 Bk, qai3 Bk, qai5 Bk], [.box (qai12 g) 37 false, qai2, qai6 SS, famI encS intT fl none, qai9, rowI 23 (lsT intT) zz]⟩) fd h (by kernel_rfl)
 intro l5 h
 replace h := hJ _ h
 show En c ⟨[qai1 Bk, qai4 Bk, qai3 Bk, qai5 Bk], [.box (qai12 g) 37 false, qai2, qai6 SS, famI encS intT fl none, qai9, rowI 23 (lsT intT) l5]⟩ _
 refine En.ret ?_
 exact En.backP [.slot 4, .slot 5, .slot 6, .cap 3 0] [] ht l5 h (by kernel_rfl) (by rfl) rfl rfl
 refine En.skip ?_
 refine En.seq ?_
 obtain ⟨e_2, he_2, h⟩ := h
 obtain ⟨e_3, he_3, h⟩ := h
 obtain ⟨hp_5, h⟩ := h
 refine En.regionA ⟨[qai11 signs, sl 1 (I left), qai10 u, qai1 Bk, qai4 Bk, qai3 Bk, qai5 Bk], [.sv (.one (LS (lsT valT) SS)), .sv (.one (LS intT signs)), .sv (.one (.pe (svR (.one (I e_2))) 1)), .sv (.one (I e_2)), .sv (.one (.ptr 0 0)), .sv (.one (I g.fLetters)), .sv (.one (I (wr (e_2 - g.fLetters)))), .sv (.one (.pe (svR (.one (LS valT e_3))) 1)), .sv (.one (LS valT e_3)), .sv (.one (I left)), .sv (.one (I (qai13 left))), .sv (.one (LS valT ((e_3.take ((qai13 left) : Int).toNat).drop (0 : Int).toNat))), .sv (.one (I (((e_3.take ((qai13 left) : Int).toNat).drop (0 : Int).toNat).length : Int))), .sv (.one (I 0))], [⟨.box (qai12 g) 37 false, none, none, none⟩, ⟨(qai2), none, none, none⟩, ⟨(qai6 SS), none, none, none⟩, ⟨famI encS intT fl none, none, none, none⟩, ⟨(qai9), none, none, none⟩, ⟨rowI 23 (lsT intT) fd, none, none, none⟩]⟩ ⟨[qai11 signs, sl 1 (I left), qai10 u, qai1 Bk, qai4 Bk, qai3 Bk, qai5 Bk, sl 53 (LS valT ((e_3.take ((qai13 left) : Int).toNat).drop (0 : Int).toNat)), sl 54 (I (((e_3.take ((qai13 left) : Int).toNat).drop (0 : Int).toNat).length : Int)), sl 55 (I 0)], (qai0 g SS fl fd)⟩ (by kernel_rfl) hn (by kernel_rfl) (by rfl) (by kernel_rfl) ?_ (by kernel_rfl) ?_
 exact ⟨.ev ⟨[qai5 Bk], [.gone, .gone, qai6 SS]⟩ ht,
 .ev ⟨[qai11 signs], []⟩ ht,
 .vl ⟨[sl 43 (LS intT signs)], []⟩ (mt_val (val_ix (T := intT) (l := signs) (i := 0) ht rfl he_2)),
 .vl ⟨[sl 44 (.pe (svR (.one (I e_2))) 1)], []⟩ (mt_val (val_ld (s := .one (I e_2)) ht rfl)),
 .ev ⟨[qai4 Bk], []⟩ ht,
 .ev ⟨[sl 46 (.ptr 0 0)], [.box (qai12 g) 37 false]⟩ ht,
 .ev ⟨[sl 45 (I e_2), sl 47 (I g.fLetters)], []⟩ ht,
 .vl ⟨[sl 42 (LS (lsT valT) SS), sl 48 (I (wr (e_2 - g.fLetters)))], []⟩ (mt_val (val_ix (T := (lsT valT)) (l := SS) (i := (wr (e_2 - g.fLetters))) ht rfl he_3)),
 .vl ⟨[sl 49 (.pe (svR (.one (LS valT e_3))) 1)], []⟩ (mt_val (val_ld (s := .one (LS valT e_3)) ht rfl)),
 .ev ⟨[sl 1 (I left)], []⟩ ht,
 .ev ⟨[sl 51 (I left)], []⟩ ht,
 .vl ⟨[sl 50 (LS valT e_3), sl 52 (I (qai13 left))], []⟩ (mt_val (val_slice (T := valT) (l := e_3) (lv := 0) (hv := (qai13 left)) ht rfl (by rfl) (by rfl) (by rfl) (by rfl) (by rfl) (by rfl) (by rfl) hp_5)),
 .ev ⟨[sl 53 (LS valT ((e_3.take ((qai13 left) : Int).toNat).drop (0 : Int).toNat))], []⟩ ht,
 .ev ⟨[], []⟩ ht,
 trivial⟩
 refine En.block ?_
 obtain ⟨Inv, mu, h0_2, hI_2⟩ := h
 refine En.loop (σ := Int × (List (List Int))) (fun zz => Inv zz.1 zz.2) (fun zz => mu zz.1 zz.2) (fun zz => ⟨[qai11 signs, sl 1 (I left), qai10 u, qai1 Bk, qai4 Bk, qai3 Bk, qai5 Bk, sl 53 (LS valT ((e_3.take ((qai13 left) : Int).toNat).drop (0 : Int).toNat)), sl 54 (I (((e_3.take ((qai13 left) : Int).toNat).drop (0 : Int).toNat).length : Int)), sl 55 (I zz.1)], [.box (qai12 g) 37 false, qai2, qai6 SS, famI encS intT fl none, qai9, rowI 23 (lsT intT) zz.2]⟩) (0, fd) h0_2 (sub_ok (by kernel_rfl)) ?_
 rintro ⟨x55, l5_2⟩ h
 replace h := hI_2 _ _ h
 show En c ⟨[qai11 signs, sl 1 (I left), qai10 u, qai1 Bk, qai4 Bk, qai3 Bk, qai5 Bk, sl 53 (LS valT ((e_3.take ((qai13 left) : Int).toNat).drop (0 : Int).toNat)), sl 54 (I (((e_3.take ((qai13 left) : Int).toNat).drop (0 : Int).toNat).length : Int)), sl 55 (I x55)], (qai7 g SS fl l5_2)⟩ _
 refine En.sr ?_
 refine WL.rn ht hn 1 ⟨[qai11 signs, sl 1 (I left), qai10 u, qai1 Bk, qai4 Bk, qai3 Bk, qai5 Bk, sl 53 (LS valT ((e_3.take ((qai13 left) : Int).toNat).drop (0 : Int).toNat)), sl 54 (I (((e_3.take ((qai13 left) : Int).toNat).drop (0 : Int).toNat).length : Int)), sl 55 (I x55), sl 56 (B (decide (x55 < (((e_3.take ((qai13 left) : Int).toNat).drop (0 : Int).toNat).length : Int))))], (qai7 g SS fl l5_2)⟩ ?_
 refine En.seq ?_
 refine En.ch h (fun h => ?_) (fun h => ?_)
 refine En.skip ?_
 refine En.seq ?_
 refine En.block ?_
 refine En.sr ?_
 refine WL.r ht hn 1 ⟨[qai11 signs, sl 1 (I left), qai10 u, qai1 Bk, qai4 Bk, qai3 Bk, qai5 Bk, sl 53 (LS valT ((e_3.take ((qai13 left) : Int).toNat).drop (0 : Int).toNat)), sl 54 (I (((e_3.take ((qai13 left) : Int).toNat).drop (0 : Int).toNat).length : Int)), sl 55 (I x55), sl 57 (I x55)], (qai7 g SS fl l5_2)⟩ ?_
 obtain ⟨e_4, he_4, h⟩ := h
 refine WL.v hn (val_ix (T := valT) (l := ((e_3.take ((qai13 left) : Int).toNat).drop (0 : Int).toNat)) (i := x55) ht rfl he_4) ?_
 refine WL.v hn (val_ld (s := .one (.v e_4)) ht rfl) ?_
 refine WL.rn ht hn 2 ⟨[qai11 signs, sl 1 (I left), qai10 u, qai1 Bk, qai4 Bk, qai3 Bk, qai5 Bk, sl 12 (I x55), sl 13 (.v e_4), sl 53 (LS valT ((e_3.take ((qai13 left) : Int).toNat).drop (0 : Int).toNat)), sl 54 (I (((e_3.take ((qai13 left) : Int).toNat).drop (0 : Int).toNat).length : Int)), sl 55 (I x55)], (qai7 g SS fl l5_2)⟩ ?_
 refine En.sr ?_
 refine WL.r ht hn 1 ⟨[qai11 signs, sl 1 (I left), qai10 u, qai1 Bk, qai4 Bk, qai3 Bk, qai5 Bk, sl 12 (I x55), sl 53 (LS valT ((e_3.take ((qai13 left) : Int).toNat).drop (0 : Int).toNat)), sl 54 (I (((e_3.take ((qai13 left) : Int).toNat).drop (0 : Int).toNat).length : Int)), sl 55 (I x55), sl 60 (.v e_4)], (qai7 g SS fl l5_2)⟩ ?_
 obtain ⟨k, D, es, ck, hk, h⟩ := h
 refine WL.famTake 60 3 6 k (by rfl) (by rfl) (by rfl) hk (by rfl) ?_
 refine WL.mt0 (K := []) (p := some (7, iterX 6 D es ck D none)) hn (by rfl) (mt_range (enc := encS) (T := intT) 7 rfl Try.underlying79 (by rfl) (by rfl) (by rfl)) (by rfl) (by rfl) (by rfl) ?_
 refine WL.nil ?_
 refine En.block ?_
 obtain ⟨Inv_2, mu_2, h0, hI⟩ := h
 refine En.loop (σ := (List (List Int)) × (List (ByteArray × Int)) × (Option (ByteArray × Int))) (fun zz => Inv_2 zz.1 zz.2.1 zz.2.2) (fun zz => mu_2 zz.1 zz.2.1 zz.2.2) (fun zz => ⟨[qai11 signs, sl 1 (I left), qai10 u, qai1 Bk, qai4 Bk, qai3 Bk, qai5 Bk, sl 12 (I x55), sl 53 (LS valT ((e_3.take ((qai13 left) : Int).toNat).drop (0 : Int).toNat)), sl 54 (I (((e_3.take ((qai13 left) : Int).toNat).drop (0 : Int).toNat).length : Int)), sl 55 (I x55), sl 60 (.pown 6 e_4), sl 61 (.own 7)], [.box (qai12 g) 37 false, qai2, qai6 SS, famI encS intT fl (some k), qai9, rowI 23 (lsT intT) zz.1, mapX encS intT D es ck, iterX 6 D es ck zz.2.1 zz.2.2]⟩) (l5_2, D, none) h0 (sub_ok (by kernel_rfl)) ?_
 rintro ⟨l5_3, left_2, cur⟩ h
 replace h := hI _ _ _ h
 show En c ⟨[qai11 signs, sl 1 (I left), qai10 u, qai1 Bk, qai4 Bk, qai3 Bk, qai5 Bk, sl 12 (I x55), sl 53 (LS valT ((e_3.take ((qai13 left) : Int).toNat).drop (0 : Int).toNat)), sl 54 (I (((e_3.take ((qai13 left) : Int).toNat).drop (0 : Int).toNat).length : Int)), sl 55 (I x55), sl 60 (.pown 6 e_4), sl 61 (.own 7)], [.box (qai12 g) 37 false, qai2, qai6 SS, famI encS intT fl (some k), qai9, rowI 23 (lsT intT) l5_3, mapX encS intT D es ck, iterX 6 D es ck left_2 cur]⟩ _
 refine En.sr ?_
 refine WL.nextM (enc := encS) (T := intT) (Tk := strT) (i := 6) (r := 7) hn (by rfl) rfl (by rfl) (by rfl) (by rfl) encSOk (fun _ => rfl) (by rfl) (fun hl => ?_) (fun l1 y l2 hl => ⟨_, by rfl, ?_⟩)
 replace h := h.1 hl
 refine WL.famPut0 60 3 6 k (by rfl) (by rfl) (by rfl) (by rfl) hk (by rfl) ?_
 refine WL.ghost 60 (o1 (.v e_4)) (by rfl) own_v ?_
 refine WL.rn ht hn 1 ⟨[qai11 signs, sl 1 (I left), qai10 u, qai1 Bk, qai4 Bk, qai3 Bk, qai5 Bk, sl 12 (I x55), sl 53 (LS valT ((e_3.take ((qai13 left) : Int).toNat).drop (0 : Int).toNat)), sl 54 (I (((e_3.take ((qai13 left) : Int).toNat).drop (0 : Int).toNat).length : Int)), sl 55 (I x55), sl 63 (B false)], [.box (qai12 g) 37 false, qai2, qai6 SS, famI encS intT fl none, qai9, rowI 23 (lsT intT) l5_3, .gone, .gone]⟩ ?_
 refine En.seq ?_
 refine En.cd (b := false) (fun hb => ?_) (fun hb => ?_)
 cases hb
 refine En.exit rfl ?_
 refine En.region ?_
 refine WL.rn ht hn 2 ⟨[qai11 signs, sl 1 (I left), qai10 u, qai1 Bk, qai4 Bk, qai3 Bk, qai5 Bk, sl 53 (LS valT ((e_3.take ((qai13 left) : Int).toNat).drop (0 : Int).toNat)), sl 54 (I (((e_3.take ((qai13 left) : Int).toNat).drop (0 : Int).toNat).length : Int)), sl 55 (I (wr (x55 + 1)))], [.box (qai12 g) 37 false, qai2, qai6 SS, famI encS intT fl none, qai9, rowI 23 (lsT intT) l5_3, .gone, .gone]⟩ ?_
 exact En.at (I := fun zz => Inv zz.1 zz.2 ∧ mu zz.1 zz.2 < mu x55 l5_2) (T := fun zz => ⟨[qai11 signs, sl 1 (I left), qai10 u, qai1 Bk, qai4 Bk, qai3 Bk, qai5 Bk, sl 53 (LS valT ((e_3.take ((qai13 left) : Int).toNat).drop (0 : Int).toNat)), sl 54 (I (((e_3.take ((qai13 left) : Int).toNat).drop (0 : Int).toNat).length : Int)), sl 55 (I zz.1)], [.box (qai12 g) 37 false, qai2, qai6 SS, famI encS intT fl none, qai9, rowI 23 (lsT intT) zz.2]⟩) ((wr (x55 + 1)), l5_3) h (by kernel_rfl)
 replace h := h.2 l1 y l2 hl
 refine WL.rn ht hn 1 ⟨[qai11 signs, sl 1 (I left), qai10 u, qai1 Bk, qai4 Bk, qai3 Bk, qai5 Bk, sl 12 (I x55), sl 53 (LS valT ((e_3.take ((qai13 left) : Int).toNat).drop (0 : Int).toNat)), sl 54 (I (((e_3.take ((qai13 left) : Int).toNat).drop (0 : Int).toNat).length : Int)), sl 55 (I x55), sl 60 (.pown 6 e_4), sl 61 (.own 7), sl 63 (B true)], [.box (qai12 g) 37 false, qai2, qai6 SS, famI encS intT fl (some k), qai9, rowI 23 (lsT intT) l5_3, mapX encS intT D es ck, iterX 6 D es ck (l1 ++ l2) (some y)]⟩ ?_
 refine En.seq ?_
 refine En.cd (b := true) (fun hb => ?_) (fun hb => ?_)
 refine En.skip ?_
 refine En.block ?_
 refine En.sr ?_
 refine WL.v hn (val_entryM (enc := encS) (T := intT) (Tk := strT) (y := y) (i := 6) (r := 7) rfl (by rfl) (by rfl) (by rfl) encSOk (fun _ => rfl)) ?_
 refine WL.rn ht hn 2 ⟨[qai11 signs, sl 1 (I left), qai10 u, qai1 Bk, qai4 Bk, qai3 Bk, qai5 Bk, sl 12 (I x55), sl 14 (.v (.string y.1)), sl 53 (LS valT ((e_3.take ((qai13 left) : Int).toNat).drop (0 : Int).toNat)), sl 54 (I (((e_3.take ((qai13 left) : Int).toNat).drop (0 : Int).toNat).length : Int)), sl 55 (I x55), sl 60 (.pown 6 e_4), sl 61 (.own 7)], [.box (qai12 g) 37 false, qai2, qai6 SS, famI encS intT fl (some k), qai9, rowI 23 (lsT intT) l5_3, mapX encS intT D es ck, iterX 6 D es ck (l1 ++ l2) (some y)]⟩ ?_
 obtain ⟨hp_6, h⟩ := h
 obtain ⟨hp_7, h⟩ := h
 obtain ⟨hp_8, h⟩ := h
 obtain ⟨hp_9, h⟩ := h
 refine En.regionT ⟨[qai11 signs, sl 1 (I left), qai10 u, qai1 Bk, qai4 Bk, qai3 Bk, qai5 Bk, sl 12 (I x55), sl 14 (.v (.string y.1)), sl 53 (LS valT ((e_3.take ((qai13 left) : Int).toNat).drop (0 : Int).toNat)), sl 54 (I (((e_3.take ((qai13 left) : Int).toNat).drop (0 : Int).toNat).length : Int)), sl 55 (I x55), sl 60 (.pown 6 e_4), sl 61 (.own 7)], [.sv (.one (.fn 48 [0, 1, 2])), .sv (.one (LS intT signs)), .sv (.one (qai8 signs)), .sv (.one (I left)), .sv (.one (I x55)), .sv (.one (I (wr (left - x55)))), .sv (.one (LS intT u)), .sv (.one (.own 8)), .sv (.one (.v (.string y.1))), .sv (.one (LS intT (bytesL y.1))), .sv (.one (LS intT (u ++ (bytesL y.1)))), .sv (.one (.fn 50 [4]))], [⟨.box (qai12 g) 37 false, none, none, none⟩, ⟨(qai2), none, none, none⟩, ⟨(qai6 SS), none, none, none⟩, ⟨famI encS intT fl (some k), none, none, none⟩, ⟨(qai9), none, none, none⟩, ⟨rowI 23 (lsT intT) l5_3, none, none, none⟩, ⟨mapX encS intT D es ck, none, none, none⟩, ⟨iterX 6 D es ck (l1 ++ l2) (some y), none, none, none⟩, ⟨rowI 3 intT u, some 7, some 10, none⟩]⟩ 12 ⟨[qai11 signs, sl 1 (I left), qai10 u, qai1 Bk, qai4 Bk, qai3 Bk, qai5 Bk, sl 12 (I x55), sl 53 (LS valT ((e_3.take ((qai13 left) : Int).toNat).drop (0 : Int).toNat)), sl 54 (I (((e_3.take ((qai13 left) : Int).toNat).drop (0 : Int).toNat).length : Int)), sl 55 (I x55), sl 60 (.pown 6 e_4), sl 61 (.own 7), sl 66 (.fn 48 [0, 1, 2]), sl 68 (qai8 signs), sl 71 (I (wr (left - x55))), sl 76 (LS intT (u ++ (bytesL y.1))), sl 77 (.fn 50 [4])], [.box (qai12 g) 37 false, qai2, qai6 SS, famI encS intT fl (some k), qai9, rowI 23 (lsT intT) l5_3, mapX encS intT D es ck, iterX 6 D es ck (l1 ++ l2) (some y), .gone]⟩ (by kernel_rfl) hn (by kernel_rfl) (by kernel_rfl) (by kernel_rfl) (by rfl) (by kernel_rfl) ?_ (by kernel_rfl) ?_
 exact ⟨.ev ⟨[qai3 Bk], [.gone, qai2]⟩ ht,
 .ev ⟨[qai11 signs], []⟩ ht,
 .vl ⟨[sl 67 (LS intT signs)], []⟩ (mt_val (val_slice (T := intT) (l := signs) (lv := 1) (hv := (signs.length : Int)) ht rfl (by rfl) (by rfl) (by rfl) (by rfl) (by rfl) (by rfl) (by rfl) hp_6)),
 .ev ⟨[sl 1 (I left)], []⟩ ht,
 .ev ⟨[sl 12 (I x55)], []⟩ ht,
 .ev ⟨[sl 69 (I left), sl 70 (I x55)], []⟩ ht,
 .ev ⟨[qai10 u], []⟩ ht,
 .mt ⟨[sl 72 (LS intT u)], []⟩ [] (some 8) (by kernel_rfl) (by rfl) (mt_callI 8 (cloneInt_ct u hp_7) en37 (caps := []) [] rfl rfl (by rfl) (by kernel_rfl) (by kernel_rfl) (by rfl) (by rfl)) rfl rfl rfl rfl,
 .ev ⟨[sl 14 (.v (.string y.1))], []⟩ ht,
 .mt ⟨[sl 74 (.v (.string y.1))], []⟩ [] none (by kernel_rfl) (by rfl) (mt_seal (q := 9) (e := 3) (mt_callI 9 (gLet_ct y.1 hp_8) en49 (caps := []) [] rfl rfl (by rfl) (by kernel_rfl) (by kernel_rfl) (by rfl) (by rfl))) rfl rfl rfl rfl,
 .mt ⟨[sl 73 (.own 8), sl 75 (LS intT (bytesL y.1))], [.gone, .gone, .gone, .gone, .gone, .gone, .gone, .gone, rowI 3 intT u]⟩ [8] none (by kernel_rfl) (by rfl) (mt_seal (q := 9) (e := 3) (mt_append (T := intT) (l := u) (es := (bytesL y.1)) (p := 9) ht rfl (by rfl) (by rfl) (by rfl) (by rfl) (by decide) (by rfl) (by rfl) (srcLS (T := intT) (es := (bytesL y.1)) (fun _ h => by cases h) (by decide) (by rfl)) (by exact hp_9) (by exact hp_9.le (by decide)))) rfl rfl rfl rfl,
 .ev ⟨[qai1 Bk], []⟩ ht,
 trivial⟩
 refine WL.famPut0 60 3 6 k (by rfl) (by rfl) (by rfl) (by rfl) hk (by rfl) ?_
 obtain ⟨hp, h⟩ := h
 refine WL.callQ [qai11 signs, sl 1 (I left), qai10 u, qai1 Bk, qai4 Bk, qai3 Bk, qai5 Bk, sl 12 (I x55), sl 53 (LS valT ((e_3.take ((qai13 left) : Int).toNat).drop (0 : Int).toNat)), sl 54 (I (((e_3.take ((qai13 left) : Int).toNat).drop (0 : Int).toNat).length : Int)), sl 55 (I x55), sl 60 (.pown 6 e_4), sl 61 (.own 7), sl 66 (.fn 48 [0, 1, 2]), sl 68 (qai8 signs), sl 71 (I (wr (left - x55))), sl 76 (LS intT (u ++ (bytesL y.1))), sl 77 (.fn 50 [4])] (ih l5_3 ((signs.take ((signs.length : Int) : Int).toNat).drop (1 : Int).toNat) (wr (left - x55)) (u ++ (bytesL y.1)) hp) en48 (caps := [0, 1, 2]) [0, 1, 2, 3, 4, 5] hn (by rfl) rfl (by rfl) (argsAs (by kernel_rfl) (by rfl)) (by kernel_rfl) (by decide) (by kernel_rfl) (by rfl) (by rfl) (fun r_2 hr_2_2 => ⟨by rfl, _, by rfl, ?_⟩)
 replace h := h r_2 hr_2_2
 refine WL.famRetake 60 3 6 k (by rfl) (by rfl) (by rfl) (by rfl) hk (by rfl) ?_
 refine WL.nil ?_
 exact En.at (I := fun zz => Inv_2 zz.1 zz.2.1 zz.2.2 ∧ mu_2 zz.1 zz.2.1 zz.2.2 < mu_2 l5_3 left_2 cur) (T := fun zz => ⟨[qai11 signs, sl 1 (I left), qai10 u, qai1 Bk, qai4 Bk, qai3 Bk, qai5 Bk, sl 12 (I x55), sl 53 (LS valT ((e_3.take ((qai13 left) : Int).toNat).drop (0 : Int).toNat)), sl 54 (I (((e_3.take ((qai13 left) : Int).toNat).drop (0 : Int).toNat).length : Int)), sl 55 (I x55), sl 60 (.pown 6 e_4), sl 61 (.own 7)], [.box (qai12 g) 37 false, qai2, qai6 SS, famI encS intT fl (some k), qai9, rowI 23 (lsT intT) zz.1, mapX encS intT D es ck, iterX 6 D es ck zz.2.1 zz.2.2]⟩) (r_2, (l1 ++ l2), (some y)) h (by kernel_rfl)
 cases hb
 refine En.exit rfl ?_
 exact En.backP [.slot 4, .slot 5, .slot 6, .cap 3 0] [] ht l5_2 h (by kernel_rfl) (by rfl) rfl rfl
theorem mRow_ok {g : ApiGrammar} {SS : List (List Value)} {fl : FList} {fd : List (List Int)} {signs : List Int} {left : Int} {u : List Int} {n : Nat} (hp : RwsPre g SS fl fd signs left u (n + 1)) : mRow_vc g SS fl fd signs left u n (RwsQ g SS fl fd signs left u) := by
 obtain ⟨hf, hsl, hsg, hl, hnm, hlo, ⟨W, hlW, hW, hS⟩, hul, hroom⟩ := hp
 unfold mRow_vc
 intro _ _
 cases signs with
 | nil => exact ⟨fun _ => ⟨by simp only [List.length_nil, Nat.pow_zero] at hroom; omega, RwsQ.nil⟩, fun h => (by simp at h)⟩
 | cons s rest =>
 have hs := hsg s (List.mem_cons_self ..)
 have hrg : ∀ t ∈ rest, 0 ≤ t ∧ t < g.fLetters + g.fNames := fun t ht => hsg t (List.mem_cons_of_mem _ ht)
 have hlen : (s :: rest).length = rest.length + 1 := List.length_cons ..
 have htl : (((s :: rest).take (((s :: rest).length : Int) : Int).toNat).drop (1 : Int).toNat) = rest := by
  rw [Int.toNat_natCast, List.take_length]
  rfl
 have hpart : partOk 1 ((s :: rest).length : Int) (s :: rest).length := ⟨by omega, by omega, by omega⟩
 have hpw : 10000 ^ (s :: rest).length = 10000 ^ rest.length * 10000 := by rw [hlen, Nat.pow_succ]
 have hpos : 1 ≤ 10000 ^ rest.length := Nat.one_le_pow _ _ (by decide)
 rw [htl]
 refine ⟨fun h => (by simp at h; omega), fun _ => ⟨s, rfl, fun h => ?_, fun h => ?_⟩⟩
 ·have h := of_decide_eq_true h
  refine ⟨RwsQ g SS fl fd (s :: rest) left u, ⟨fun h2 => ?_, fun h2 => ?_⟩, fun _ hq => hq⟩
  ·have h2 := of_decide_eq_true h2
   have hw : wr (left - 1) = left - 1 := wr_in (by omega) (by omega)
   rw [hw]
   refine ⟨hpart, by omega, capOk_of (by simp only [List.length_cons, List.length_nil]; omega), ⟨by omega, by omega, hrg, hl, hnm, by omega, ⟨W, by omega, hW, hS⟩, ?_, by rw [hpw] at hroom; omega⟩, fun r hr => RwsQ.lett h h2 hr⟩
   simp only [List.length_append, List.length_cons, List.length_nil]
   omega
  ·have h2 := of_decide_eq_false h2
   exact RwsQ.none h (by omega)
 ·have h := of_decide_eq_false h
  have hw1 : wr (s - g.fLetters) = s - g.fLetters := wr_in (by omega) (by omega)
  have hw2 : wr (left + 1) = left + 1 := wr_in (by omega) (by omega)
  refine ⟨s, rfl, ?_⟩
  rw [hw1, hw2]
  obtain ⟨row, _, _, _, _, hrow, _, _, _⟩ := hS.place (a := s - g.fLetters) (n := 0) ⟨by omega, by omega⟩ ⟨Int.le_refl _, by omega⟩
  have hmem : row ∈ SS := List.mem_of_getElem? (idx_some hrow).2.2
  have hrl := hS.sizes row hmem
  have htk : ((row.take ((left + 1) : Int).toNat).drop (0 : Int).toNat) = row.take (left + 1).toNat := rfl
  have htl2 : (row.take (left + 1).toNat).length = (left + 1).toNat := by rw [List.length_take]; omega
  refine ⟨row, hrow, ?_⟩
  rw [htk]
  refine ⟨ ⟨Int.le_refl _, by omega, by omega⟩, fun x f => ∃ j : Nat, x = j ∧ j ≤ (left + 1).toNat ∧ RowsQ g SS fl fd row rest left u j f, fun x _ => (left + 1).toNat - x.toNat, ⟨0, rfl, Nat.zero_le _, RowsQ.zero⟩, ?_⟩
  rintro x f ⟨j, rfl, hj, hq⟩
  refine ⟨fun hb => ?_, fun hb => ?_⟩
  rotate_left
  ·have hb := dge hb
   rw [htl2] at hb
   obtain rfl : j = (left + 1).toNat := by omega
   exact RowsQ.done (by omega) hrow (by omega) (by omega) hq
  have hlt := dlt hb
  have hlt2 : j < (left + 1).toNat := by rw [htl2] at hlt; exact hlt
  have hjr : j < row.length := by omega
  have he : (row.take (left + 1).toNat)[j] = row[j] := List.getElem_take ..
  obtain ⟨k, D, es, ck, hk, hjW, hent, hfew⟩ := hS.known hl.2 hW hmem (List.getElem?_eq_getElem hjr)
  have hw3 : wr (left - (j : Int)) = left - (j : Int) := wr_in (by omega) (by omega)
  rw [hw3]
  refine ⟨_, idx_at hlt, k, D, es, ck, by rw [he]; exact hk, fun f' lf _ => ∃ dn, (dn ++ lf).Perm D ∧ EtsQ g SS fl f rest (left - j) u dn f', fun _ lf _ => lf.length, ⟨[], List.Perm.refl _, EtsQ.nil⟩, ?_⟩
  rintro f' lf cur ⟨dn, hdn, hq2⟩
  refine ⟨fun e => ?_, fun l1 y l2 e => ?_⟩
  ·subst e
   rw [List.append_nil] at hdn
   refine ⟨⟨j + 1, wsucc (by omega), by omega, RowsQ.succ hS hq (List.getElem?_eq_getElem hjr) hk (by omega) (hq2.perm hdn)⟩, ?_⟩
   exact mu_up hlt2 (by omega)
  ·subst e
   have hyD : y ∈ D := hdn.mem_iff.1 (List.mem_append_right _ (List.mem_append_right _ (List.mem_cons_self ..)))
   have hyl := (hent.words y hyD).1
   have hys := bytesL_len (s := y.1)
   have hdl : dn.length ≤ 1024 := by
    have := hdn.length_eq
    rw [List.length_append] at this
    omega
   have h1 := hq.len
   have h2 := hq2.len
   have h3 : dn.length * 10000 ^ rest.length ≤ 1024 * 10000 ^ rest.length := Nat.mul_le_mul_right _ hdl
   have h4 : j * (1500 * 10000 ^ rest.length) ≤ 5 * (1500 * 10000 ^ rest.length) := Nat.mul_le_mul_right _ (by omega)
   have hdl2 : (dn ++ [y]).length * 10000 ^ rest.length = dn.length * 10000 ^ rest.length + 10000 ^ rest.length := by rw [List.length_append, Nat.add_mul]; simp
   refine ⟨hpart, by omega, by omega, capOk_of (by omega), ⟨by omega, by omega, hrg, hl, hnm, by omega, ⟨W, by omega, hW, hS⟩, by rw [List.length_append, hyl]; omega, by rw [hpw] at hroom; omega⟩, fun r hr => ⟨⟨dn ++ [y], ?_, hq2.snoc hr⟩, ?_⟩⟩
   ·refine List.Perm.trans ?_ hdn
    rw [List.append_assoc]
    refine List.Perm.append_left _ ?_
    show (y :: (l1 ++ l2)).Perm _
    exact List.perm_middle.symm
   ·simp only [List.length_append, List.length_cons]
    omega
theorem mrAll (g : ApiGrammar) (SS : List (List Value)) (fl : FList) : ∀ n, MRwC g SS fl n
 | 0 => fun _ _ _ _ h => absurd h.fuel (Nat.not_lt_zero _)
 | n + 1 => fun fd signs left u h => mRow_walk g SS fl fd signs left u n (mrAll g SS fl n) _ (mRow_ok h)
theorem mRow_ct (g : ApiGrammar) (SS : List (List Value)) (fl : FList) (fd : List (List Int)) (signs : List Int) (left : Int) (u : List Int) (hp : RwsPre g SS fl fd signs left u 4) : CtE 48 [.sv (.one (LS intT signs)), .sv (.one (I left)), .sv (.one (LS intT u)), .sv (.one (.fn 50 [4])), .sv (.one (.ptr 0 0)), .sv (.one (.ptr 1 0)), .sv (.one (.ptr 2 0))] [.box [I g.fLetters, I g.fNames, LS ApiMake.ty g.fMakes] 37 false, .box [.fn 48 [0, 1, 2]] 102 false, .box [LS (lsT valT) SS] 100 false, famI encS intT fl none, .box [.own 5] 22 false, rowI 23 (lsT intT) fd] [0, 1, 2, 4] (RwsQ g SS fl fd signs left u) (fun (_ : List (List Int)) => .tup []) (fun (r : List (List Int)) => [.box [I g.fLetters, I g.fNames, LS ApiMake.ty g.fMakes] 37 false, .box [.fn 48 [0, 1, 2]] 102 false, .box [LS (lsT valT) SS] 100 false, famI encS intT fl none, .box [.own 5] 22 false, rowI 23 (lsT intT) r]) := mrAll g SS fl 4 fd signs left u hp
end Go.Proofs.Ytobenjahlicnoaa
