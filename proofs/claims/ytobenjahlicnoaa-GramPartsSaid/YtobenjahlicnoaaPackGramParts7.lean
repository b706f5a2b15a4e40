/- Lemmas towards the statement: mirrors of functions, and plain laws. No condition. -/
import Derived.Test.YtobenjahlicnoaaPackGramParts6
namespace Go.Proofs.Ytobenjahlicnoaa
open Go.RowKit Go.MapKept
set_option linter.unusedSimpArgs false
set_option linter.unusedVariables false
set_option maxRecDepth 100000
def gMan_vc (g : ApiGrammar) (n : Int) (Q : (Int × Int) → Prop) : Prop :=
 g.fMakes.length ≤ 9223372036854775807 →
 (IfP ((grmErr g) != 0) (Q (0, (grmErr g))) (IfP ((decide (n < 0)) || (decide (n > 5))) (Q (0, 2)) (makeOk g.fNames g.fNames 24 ∧
 ∃ (Inv : Int → (List (FamE ByteArray Int)) → (List (List Value)) → Prop) (mu : Int → (List (FamE ByteArray Int)) → (List (List Value)) → Nat), Inv 0 ([] : List (FamE ByteArray Int)) (List.replicate (g.fNames).toNat ([] : List Value)) ∧
 ∀ (x33 : Int) (fl : List (FamE ByteArray Int)) (g2 : List (List Value)) , Inv x33 fl g2 → (IfP (decide (x33 < ((List.replicate (g.fNames).toNat ([] : List Value)).length : Int))) (∃ (Inv_2 : Int → (List (FamE ByteArray Int)) → (List (List Value)) → Prop) (mu_2 : Int → (List (FamE ByteArray Int)) → (List (List Value)) → Nat), Inv_2 0 fl g2 ∧
 ∀ (x38 : Int) (fl_2 : List (FamE ByteArray Int)) (g2_2 : List (List Value)) , Inv_2 x38 fl_2 g2_2 → (IfP (decide (x38 < (wr (n + 1)))) (∃ e, idx g2_2 x33 = some e ∧
 ∀ (es : Array MapEntry) (ck : Nat) (r : Value), r ∉ famRefs fl_2 →
 (capOk e.length ([r] : List Value).length 8 ∧
 ∃ e_2, idx g2_2 x33 = some e_2 ∧
 (Inv_2 (wr (x38 + 1)) (fl_2 ++ [(r, ([] : List (ByteArray × Int)), es, ck)]) (g2_2.set (x33).toNat (e ++ [r])) ∧ mu_2 (wr (x38 + 1)) (fl_2 ++ [(r, ([] : List (ByteArray × Int)), es, ck)]) (g2_2.set (x33).toNat (e ++ [r])) < mu_2 x38 fl_2 g2_2))) ((Inv (wr (x33 + 1)) fl_2 g2_2 ∧ mu (wr (x33 + 1)) fl_2 g2_2 < mu x33 fl g2)))) (∃ (Inv_3 : Bool → (List (FamE ByteArray Int)) → Prop) (mu_3 : Bool → (List (FamE ByteArray Int)) → Nat), Inv_3 true fl ∧
 ∀ (x10 : Bool) (fl_3 : List (FamE ByteArray Int)) , Inv_3 x10 fl_3 → (IfP x10 (∃ (Inv_4 : Bool → Int → (List (FamE ByteArray Int)) → Prop) (mu_4 : Bool → Int → (List (FamE ByteArray Int)) → Nat), Inv_4 false 0 fl_3 ∧
 ∀ (x10_2 : Bool) (x57 : Int) (fl_4 : List (FamE ByteArray Int)) , Inv_4 x10_2 x57 fl_4 → (IfP (decide (x57 < (g.fMakes.length : Int))) (∃ e_3, idx g.fMakes x57 = some e_3 ∧
 (RwsPre g g2 fl_4 ([] : List (List Int)) e_3.fTo n ([] : List Int) 4) ∧
 ∀ r_2 : (List (List Int)), (RwsQ g g2 fl_4 ([] : List (List Int)) e_3.fTo n ([] : List Int)) r_2 →
 (∃ (Inv_5 : Bool → Int → (List (FamE ByteArray Int)) → Prop) (mu_5 : Bool → Int → (List (FamE ByteArray Int)) → Nat), Inv_5 x10_2 0 fl_4 ∧
 ∀ (x10_3 : Bool) (x69 : Int) (fl_5 : List (FamE ByteArray Int)) , Inv_5 x10_3 x69 fl_5 → (IfP (decide (x69 < (r_2.length : Int))) (∃ J : Bool → (List (FamE ByteArray Int)) → Prop, (∃ e_4, idx r_2 x69 = some e_4 ∧
 ∃ e_5, idx g2 e_3.fFrom = some e_5 ∧
 ∃ e_6, idx e_5 (e_4.length : Int) = some e_6 ∧
 (TxtPre e_4) ∧
 ∃ (k : Nat) (D : List (ByteArray × Int)) (es_2 : Array MapEntry) (ck_2 : Nat), fl_5[k]? = some (e_6, D, es_2, ck_2) ∧
 (IfP (((mget (bytesOf e_4) D).getD (0 : Int)) == 0) ((TxtPre e_4) ∧
 ∃ (k_2 : Nat) (D_2 : List (ByteArray × Int)) (es_3 : Array MapEntry) (ck_3 : Nat), fl_5[k_2]? = some (e_6, D_2, es_3, ck_3) ∧
 (∀ (es_4 : Array MapEntry) (ck_4 : Nat),
 (J true (fl_5.set k_2 (e_6, (mput (bytesOf e_4) 1 (mput (bytesOf e_4) ((mget (bytesOf e_4) D_2).getD (0 : Int)) D_2)), es_4, ck_4))))) (J x10_3 fl_5))) ∧
 (∀ (x10_4 : Bool) (fl_6 : List (FamE ByteArray Int)), J x10_4 fl_6 → (Inv_5 x10_4 (wr (x69 + 1)) fl_6 ∧ mu_5 x10_4 (wr (x69 + 1)) fl_6 < mu_5 x10_3 x69 fl_5))) ((Inv_4 x10_3 (wr (x57 + 1)) fl_5 ∧ mu_4 x10_3 (wr (x57 + 1)) fl_5 < mu_4 x10_2 x57 fl_4))))) ((Inv_3 x10_2 fl_4 ∧ mu_3 x10_2 fl_4 < mu_3 x10 fl_3)))) (∃ e_7, idx g2 0 = some e_7 ∧
 ∃ e_8, idx e_7 n = some e_8 ∧
 ∃ (k_3 : Nat) (D_3 : List (ByteArray × Int)) (es_5 : Array MapEntry) (ck_5 : Nat), fl_3[k_3]? = some (e_8, D_3, es_5, ck_5) ∧
 (Q ((D_3.length : Int), 0)))))))))
noncomputable abbrev qaj0 (g : ApiGrammar) := sl 32 (I ((List.replicate (g.fNames).toNat ([] : List Value)).length : Int))
noncomputable abbrev qaj1 := (.box [.gs 2 0] 100 false : Item)
noncomputable abbrev qaj2 := (.box [.fn 48 [1, 4, 3]] 102 false : Item)
noncomputable abbrev qaj3 := sl 2 (.ptr 1 0)
noncomputable abbrev qaj4 (g : ApiGrammar) := (ApiGrammar.cl g)
noncomputable abbrev qaj5 := sl 7 (.ptr 3 0)
noncomputable abbrev qaj6 (y0) := (.box [LS (lsT valT) y0] 100 false : Item)
noncomputable abbrev qaj7 (g : ApiGrammar) := sl 56 (I (g.fMakes.length : Int))
noncomputable abbrev qaj8 (g : ApiGrammar) := sl 55 (LS ApiMake.ty g.fMakes)
noncomputable abbrev qaj9 (n : Int) := sl 37 (I (wr (n + 1)))
noncomputable abbrev qaj10 := (ByteArray × Int)
noncomputable abbrev qaj11 (n : Int) (g : ApiGrammar) (y0 : Int) (y1 : Int) := ([sl 1 (I n), (qaj3), (qaj5), sl 8 (I y0), (qaj0 g), sl 33 (I y0), (qaj9 n), sl 38 (I y1), sl 40 (.gs 2 0), sl 41 (I y0), sl 45 (.gs 2 ((y0).toNat + 1)), sl 47 (.bsl 5 1)] : List (Nat × SC))
noncomputable abbrev qaj12 := sl 9 (.ptr 4 0)
noncomputable abbrev qaj13 (g : ApiGrammar) := (List.replicate (g.fNames).toNat ([] : List Value))
noncomputable abbrev qaj14 := (FamE ByteArray Int)
noncomputable abbrev qaj15 (n : Int) (g : ApiGrammar) (y0) (y1) := ([sl 1 (I n), (qaj3), (qaj5), sl 8 (I y0), (qaj0 g), sl 33 (I y0), (qaj9 n), sl 38 (I y1)] : List (Nat × SC))
noncomputable abbrev qaj16 (n : Int) (g : ApiGrammar) (y0 : Int) (y1 : Int) := ([sl 1 (I n), (qaj3), (qaj5), sl 8 (I y0), (qaj0 g), sl 33 (I y0), (qaj9 n), sl 38 (I y1), sl 40 (.gs 2 0), sl 45 (.gs 2 ((y0).toNat + 1)), sl 47 (.bsl 5 1)] : List (Nat × SC))
noncomputable abbrev qaj17 := (.box [.own 4] 79 false : Item)
noncomputable abbrev qaj18 (n : Int) (g : ApiGrammar) (y0 : Int) (y1 : Int) := ([sl 1 (I n), (qaj3), (qaj5), sl 8 (I y0), (qaj0 g), sl 33 (I y0), (qaj9 n), sl 38 (I y1), sl 41 (I y0), sl 45 (.gs 2 ((y0).toNat + 1)), sl 47 (.bsl 5 1)] : List (Nat × SC))
noncomputable abbrev qaj19 := sl 12 (.ptr 5 0)
noncomputable abbrev qaj20 (n : Int) (g : ApiGrammar) (y0) (y1) := ([sl 1 (I n), (qaj3), (qaj5), sl 8 (I y0), (qaj0 g), sl 33 (I y0), (qaj9 n), sl 38 (I y1), sl 40 (.gs 2 0), sl 41 (I y0), sl 48 (.own 38)] : List (Nat × SC))
noncomputable abbrev qaj21 := sl 67 (.own 7)
noncomputable abbrev qaj22 := sl 47 (.bsl 5 1)
set_option maxHeartbeats 2000000 in
theorem gMan_walk (g : ApiGrammar) (n : Int) (Q : (Int × Int) → Prop) (h : gMan_vc g n Q) : Ct 17 [.sv (.agg [I g.fLetters, I g.fNames, LS ApiMake.ty g.fMakes]), .sv (.one (I n))] [] Q (fun (r : (Int × Int)) => .tup [.one (I r.1), .one (I r.2)]) := by
 have ht := tab_ok
 refine Ct.body Try.func17 rfl rfl rfl rfl (fun c hn => ?_)
 unfold gMan_vc at h
 refine En.famNew encS intT 0 (by rfl) ?_
 show En c ⟨[(0, .sv (.agg (qaj4 g))), sl 1 (I n)], [famI encS intT ([] : List qaj14) none]⟩ _
 refine En.lenA 0 2 (by rfl) (by rfl) (fun hl => ?_)
 replace h := h hl
 clear hl
 refine En.sr ?_
 refine WL.rn ht hn 3 ⟨[sl 1 (I n), qaj3], [famI encS intT ([] : List qaj14) none, .box (qaj4 g) 37 false]⟩ ?_
 refine En.seq ?_
 refine En.sr ?_
 refine WL.r ht hn 1 ⟨[sl 1 (I n), qaj3, (17, .sv (.agg (qaj4 g)))], [famI encS intT ([] : List qaj14) none, .box (qaj4 g) 37 false]⟩ ?_
 refine WL.m0 hn (mt_c (gChk_ct g) en38 rfl) ?_
 refine WL.rn ht hn 1 ⟨[sl 1 (I n), qaj3, sl 6 (I (grmErr g))], [famI encS intT ([] : List qaj14) none, .box (qaj4 g) 37 false]⟩ ?_
 refine En.sr ?_
 refine WL.rn ht hn 2 ⟨[sl 1 (I n), qaj3, sl 6 (I (grmErr g)), sl 20 (B ((grmErr g) != 0))], [famI encS intT ([] : List qaj14) none, .box (qaj4 g) 37 false]⟩ ?_
 refine En.ch h (fun h => ?_) (fun h => ?_)
 refine En.sr ?_
 refine WL.rn ht hn 3 ⟨[sl 4 (I 0), sl 5 (I (grmErr g))], [famI encS intT ([] : List qaj14) none, .gone]⟩ ?_
 exact En.rb ht (0, (grmErr g)) h
 refine En.skip ?_
 refine En.seq ?_
 refine En.sr ?_
 refine WL.r ht hn 3 ⟨[sl 1 (I n), qaj3, sl 24 (B (decide (n < 0)))], [famI encS intT ([] : List qaj14) none, .box (qaj4 g) 37 false]⟩ ?_
 refine WL.thru ⟨[sl 1 (I n), qaj3, sl 27 (B ((decide (n < 0)) || (decide (n > 5))))], [famI encS intT ([] : List qaj14) none, .box (qaj4 g) 37 false]⟩ ?_ ?_
 refine splitB (decide (n < 0)) (fun hb0 => ?_) (fun hb0 => ?_)
 refine WL.sB 24 hb0 ?_
 refine WL.r ht hn 3 ⟨[sl 1 (I n), qaj3, sl 27 (B true)], [famI encS intT ([] : List qaj14) none, .box (qaj4 g) 37 false]⟩ ?_
 exact WL.nil (sub_ok (by simp only [hb0]; kernel_rfl))
 refine WL.sB 24 hb0 ?_
 refine WL.r ht hn 3 ⟨[sl 1 (I n), qaj3, sl 27 (B (decide (n > 5)))], [famI encS intT ([] : List qaj14) none, .box (qaj4 g) 37 false]⟩ ?_
 exact WL.nil (sub_ok (by simp only [hb0]; kernel_rfl))
 refine En.ch h (fun h => ?_) (fun h => ?_)
 refine En.sr ?_
 refine WL.rn ht hn 2 ⟨[sl 4 (I 0), sl 5 (I 2)], [famI encS intT ([] : List qaj14) none, .gone]⟩ ?_
 exact En.rb ht (0, 2) h
 refine En.skip ?_
 refine En.sr ?_
 refine WL.r ht hn 2 ⟨[sl 1 (I n), qaj3, sl 29 (I g.fNames)], [famI encS intT ([] : List qaj14) none, .box (qaj4 g) 37 false]⟩ ?_
 obtain ⟨hp, h⟩ := h
 refine WL.mt0 (K := []) (p := some (2, gridI 101 79 valT (qaj13 g))) hn (by rfl) (mt_makeG valT 79 (zv := .slice none 0 0) 2 (l := g.fNames) (cp := g.fNames) ht rfl (by rfl) (by rfl) (by rfl) (by rfl) (by rfl) (by rfl) hp.1 hp.2.1 hp.2.2 (hp.le (by decide)) rfl rfl) (by rfl) (by rfl) (by rfl) ?_
 refine WL.rn ht hn 2 ⟨[sl 1 (I n), qaj3, qaj5], [famI encS intT ([] : List qaj14) none, .box (qaj4 g) 37 false, gridI 101 79 valT (qaj13 g), qaj1]⟩ ?_
 refine En.seq ?_
 refine En.sr ?_
 refine WL.r ht hn 1 ⟨[sl 1 (I n), qaj3, qaj5, sl 31 (.gs 2 0)], [famI encS intT ([] : List qaj14) none, .box (qaj4 g) 37 false, gridI 101 79 valT (qaj13 g), qaj1]⟩ ?_
 refine WL.v hn (val_lenG0 (T := valT) (L := (qaj13 g)) ht rfl (by rfl) (by rfl) (by rfl) (by rfl)) ?_
 refine WL.rn ht hn 1 ⟨[sl 1 (I n), qaj3, qaj5, qaj0 g, sl 33 (I 0)], [famI encS intT ([] : List qaj14) none, .box (qaj4 g) 37 false, gridI 101 79 valT (qaj13 g), qaj1]⟩ ?_
 refine En.block ?_
 obtain ⟨Inv, mu, h0_5, hI_5⟩ := h
 refine En.loop (σ := Int × (List qaj14) × (List (List Value))) (fun zz => Inv zz.1 zz.2.1 zz.2.2) (fun zz => mu zz.1 zz.2.1 zz.2.2) (fun zz => ⟨[sl 1 (I n), qaj3, qaj5, qaj0 g, sl 33 (I zz.1)], [famI encS intT zz.2.1 none, .box (qaj4 g) 37 false, gridI 101 79 valT zz.2.2, qaj1]⟩) (0, ([] : List qaj14), (qaj13 g)) h0_5 (sub_ok (by kernel_rfl)) ?_
 rintro ⟨x33, fl, g2⟩ h
 replace h := hI_5 _ _ _ h
 show En c ⟨[sl 1 (I n), qaj3, qaj5, qaj0 g, sl 33 (I x33)], [famI encS intT fl none, .box (qaj4 g) 37 false, gridI 101 79 valT g2, qaj1]⟩ _
 refine En.sr ?_
 refine WL.rn ht hn 1 ⟨[sl 1 (I n), qaj3, qaj5, qaj0 g, sl 33 (I x33), sl 34 (B (decide (x33 < ((qaj13 g).length : Int))))], [famI encS intT fl none, .box (qaj4 g) 37 false, gridI 101 79 valT g2, qaj1]⟩ ?_
 refine En.seq ?_
 refine En.ch h (fun h => ?_) (fun h => ?_)
 refine En.skip ?_
 refine En.seq ?_
 refine En.block ?_
 refine En.sr ?_
 refine WL.rn ht hn 2 ⟨[sl 1 (I n), qaj3, qaj5, sl 8 (I x33), qaj0 g, sl 33 (I x33)], [famI encS intT fl none, .box (qaj4 g) 37 false, gridI 101 79 valT g2, qaj1]⟩ ?_
 refine En.sr ?_
 refine WL.rn ht hn 3 ⟨[sl 1 (I n), qaj3, qaj5, sl 8 (I x33), qaj0 g, sl 33 (I x33), qaj9 n, sl 38 (I 0)], [famI encS intT fl none, .box (qaj4 g) 37 false, gridI 101 79 valT g2, qaj1]⟩ ?_
 refine En.block ?_
 obtain ⟨Inv_2, mu_2, h0, hI⟩ := h
 refine En.loop (σ := Int × (List qaj14) × (List (List Value))) (fun zz => Inv_2 zz.1 zz.2.1 zz.2.2) (fun zz => mu_2 zz.1 zz.2.1 zz.2.2) (fun zz => ⟨[sl 1 (I n), qaj3, qaj5, sl 8 (I x33), qaj0 g, sl 33 (I x33), qaj9 n, sl 38 (I zz.1)], [famI encS intT zz.2.1 none, .box (qaj4 g) 37 false, gridI 101 79 valT zz.2.2, qaj1]⟩) (0, fl, g2) h0 (sub_ok (by kernel_rfl)) ?_
 rintro ⟨x38, fl_2, g2_2⟩ h
 replace h := hI _ _ _ h
 show En c ⟨(qaj15 n g x33 x38), [famI encS intT fl_2 none, .box (qaj4 g) 37 false, gridI 101 79 valT g2_2, qaj1]⟩ _
 refine En.sr ?_
 refine WL.rn ht hn 1 ⟨[sl 1 (I n), qaj3, qaj5, sl 8 (I x33), qaj0 g, sl 33 (I x33), qaj9 n, sl 38 (I x38), sl 39 (B (decide (x38 < (wr (n + 1)))))], [famI encS intT fl_2 none, .box (qaj4 g) 37 false, gridI 101 79 valT g2_2, qaj1]⟩ ?_
 refine En.seq ?_
 refine En.ch h (fun h => ?_) (fun h => ?_)
 refine En.skip ?_
 refine En.seq ?_
 refine En.block ?_
 obtain ⟨e, he, h⟩ := h
 refine En.regionXP (fun N' => ∀ (es : Array MapEntry) (ck : Nat) (r : Value), r ∉ famRefs fl_2 → En c ⟨(qaj15 n g x33 x38), [famI encS intT (fl_2 ++ [(r, ([] : List qaj10), es, ck)]) none, .box (qaj4 g) 37 false, gridI 101 79 valT (g2_2.set (x33).toNat (e ++ [r])), qaj1]⟩ N') ⟨(qaj15 n g x33 x38), [.sv (.one (.gs 2 0)), .sv (.one (I x33)), .sv (.one (.gs 2 0)), .sv (.one (I x33)), .sv (.one (.ge 2 0 (x33).toNat 1)), .sv (.one (.gs 2 ((x33).toNat + 1))), .sv (.one (.own 4)), .sv (.one (.bsl 5 1))], [⟨famI encS intT fl_2 none, none, none, none⟩, ⟨.box (qaj4 g) 37 false, none, none, none⟩, ⟨gridI 101 79 valT g2_2, none, none, none⟩, ⟨(qaj1), none, none, none⟩, ⟨mapI encS intT ([] : List qaj10), some 6, none, none⟩, ⟨(qaj17), some 7, none, none⟩]⟩ 8 [2, 3, 4, 5, 6, 7] [#[ff, ff, tt, tt, tt, tt, tt, tt, ff, ff, ff], #[ff, tt, tt, tt, tt, tt, tt, tt, ff, ff, ff], #[tt, ff, tt, tt, tt, tt, tt, tt, ff, ff, ff], #[tt, tt, tt, tt, tt, tt, tt, tt, ff, ff, ff]] (by kernel_rfl) hn (by kernel_rfl) (by kernel_rfl) (by kernel_rfl) (by kernel_rfl) (by rfl) (by kernel_rfl) (by kernel_rfl) ?_ ?_ ?_
 exact ⟨.ev ⟨[qaj5], [.gone, .gone, .gone, qaj1]⟩ ht,
 .ev ⟨[sl 8 (I x33)], []⟩ ht,
 .ev ⟨[qaj5], [.gone, .gone, .gone, qaj1]⟩ ht,
 .ev ⟨[sl 8 (I x33)], []⟩ ht,
 .vl ⟨[sl 42 (.gs 2 0), sl 43 (I x33)], [.gone, .gone, gridI 101 79 valT g2_2]⟩ (mt_val (val_indexG0 (T := valT) (L := g2_2) (k := x33) ht rfl (by rfl) (by rfl) (by rfl) (by rfl) (by rfl) (by rfl) (by rfl) ⟨(idx_some he).1, (idx_some he).2.1⟩)),
 .vl ⟨[sl 44 (.ge 2 0 (x33).toNat 1)], [.gone, .gone, gridI 101 79 valT g2_2]⟩ (mt_val (val_loadG0 (T := valT) (L := g2_2) ht rfl (by rfl) (by rfl) (by rfl) (by rfl) (idx_lt he))),
 .mt ⟨[], []⟩ [] (some 4) (by kernel_rfl) (by rfl) (mt_makeMap encS intT 4 rfl) rfl rfl rfl rfl,
 .mt ⟨[sl 46 (.own 4)], []⟩ [] (some 5) (by kernel_rfl) (by rfl) (mt_bsl 5 (r := [.own 4]) ht rfl (by rfl) (by rfl) (by rfl) (by kernel_rfl) (by rfl)) rfl rfl rfl rfl,
 trivial⟩
 intro N' hF
 refine XsOk.haveV (fun r => r ∉ famRefs fl_2) 0 #[tt, tt, tt, tt, tt, tt, tt, tt, tt, tt, tt] (fun es ck r => ⟨(qaj15 n g x33 x38), [famI encS intT (fl_2 ++ [(r, ([] : List qaj10), es, ck)]) none, .box (qaj4 g) 37 false, gridI 101 79 valT (g2_2.set (x33).toNat (e ++ [r])), qaj1]⟩) (fun es ck r hr_2 => ?_) (fun rd9 => ?_)
 replace h := h es ck r hr_2
 obtain ⟨hp_r8, h⟩ := h
 obtain ⟨e_2, he_2, h⟩ := h
 exact RD.nil (by kernel_rfl) (hF es ck r hr_2)
 refine XsOk.haveV (fun r => r ∉ famRefs fl_2) 1 #[tt, tt, tt, tt, tt, tt, tt, tt, tt, tt, ff] (fun es ck r => ⟨[sl 1 (I n), qaj3, qaj5, sl 8 (I x33), qaj0 g, sl 33 (I x33), qaj9 n, sl 38 (I x38), sl 48 (.own 38), sl 49 (.ge 2 0 (x33).toNat 1)], [famI encS intT (fl_2 ++ [(r, ([] : List qaj10), es, ck)]) none, .box (qaj4 g) 37 false, gridH 101 79 valT g2_2 (x33).toNat none, qaj1, .gone, .gone, .gone, .gone, .gone, .gone, .gone, .gone, .gone, .gone, .gone, .gone, .gone, .gone, .gone, .gone, .gone, .gone, .gone, .gone, .gone, .gone, .gone, .gone, .gone, .gone, .gone, .gone, .gone, .gone, .gone, .gone, .gone, .gone, rowI 79 valT (e ++ [r])]⟩) (fun es ck r hr_2 => ?_) (fun rd8 => ?_)
 replace h := h es ck r hr_2
 obtain ⟨hp_r8, h⟩ := h
 obtain ⟨e_2, he_2, h⟩ := h
 refine RD.succQ [10] (by kernel_rfl) rfl ⟨⟨_, #[tt, tt, tt, tt, tt, tt, tt, tt, tt, tt, tt], rfl, rfl, ?_⟩, trivial⟩
 refine WL.putGH (T := valT) (L := g2_2) (l := (e ++ [r])) ht hn (by rfl) rfl (by rfl) (by rfl) (by rfl) (by rfl) (by rfl) (by rfl) (idx_lt he_2) (by rfl) (by rfl) ?_
 refine WL.sub ⟨(qaj15 n g x33 x38), [famI encS intT (fl_2 ++ [(r, ([] : List qaj10), es, ck)]) none, .box (qaj4 g) 37 false, gridI 101 79 valT (g2_2.set (x33).toNat (e ++ [r])), qaj1, .gone, .gone, .gone, .gone, .gone, .gone, .gone, .gone, .gone, .gone, .gone, .gone, .gone, .gone, .gone, .gone, .gone, .gone, .gone, .gone, .gone, .gone, .gone, .gone, .gone, .gone, .gone, .gone, .gone, .gone, .gone, .gone, .gone, .gone, .gone]⟩ (by kernel_rfl) ?_
 refine WL.nil ?_
 exact RD.last (rd9 es ck r hr_2) (sub_ok (by kernel_rfl))
 refine XsOk.haveV (fun r => r ∉ famRefs fl_2) 2 #[tt, tt, tt, tt, tt, tt, tt, tt, tt, ff, ff] (fun es ck r => ⟨(qaj20 n g x33 x38), [famI encS intT (fl_2 ++ [(r, ([] : List qaj10), es, ck)]) none, .box (qaj4 g) 37 false, gridH 101 79 valT g2_2 (x33).toNat none, qaj1, .gone, .gone, .gone, .gone, .gone, .gone, .gone, .gone, .gone, .gone, .gone, .gone, .gone, .gone, .gone, .gone, .gone, .gone, .gone, .gone, .gone, .gone, .gone, .gone, .gone, .gone, .gone, .gone, .gone, .gone, .gone, .gone, .gone, .gone, rowI 79 valT (e ++ [r])]⟩) (fun es ck r hr_2 => ?_) (fun rd7 => ?_)
 replace h := h es ck r hr_2
 obtain ⟨hp_r8, h⟩ := h
 obtain ⟨e_2, he_2, h⟩ := h
 refine RD.succQ [9] (by kernel_rfl) rfl ⟨⟨_, #[tt, tt, tt, tt, tt, tt, tt, tt, tt, tt, ff], rfl, rfl, ?_⟩, trivial⟩
 refine WL.v hn (val_indexGH (T := valT) (L := g2_2) (k := x33) ht rfl (by rfl) (by rfl) (by rfl) (by rfl) (by rfl) (by rfl) (by rfl) ⟨(idx_some he_2).1, (idx_some he_2).2.1⟩) ?_
 refine WL.nil ?_
 exact RD.last (rd8 es ck r hr_2) (sub_ok (by kernel_rfl))
 refine XsOk.haveV (fun r => r ∉ famRefs fl_2) 3 #[tt, ff, tt, tt, tt, tt, tt, tt, tt, ff, ff] (fun es ck r => ⟨[sl 1 (I n), qaj3, qaj5, sl 8 (I x33), qaj0 g, sl 33 (I x33), qaj9 n, sl 38 (I x38), sl 40 (.gs 2 0), sl 48 (.own 38)], [famI encS intT (fl_2 ++ [(r, ([] : List qaj10), es, ck)]) none, .box (qaj4 g) 37 false, gridH 101 79 valT g2_2 (x33).toNat none, qaj1, .gone, .gone, .gone, .gone, .gone, .gone, .gone, .gone, .gone, .gone, .gone, .gone, .gone, .gone, .gone, .gone, .gone, .gone, .gone, .gone, .gone, .gone, .gone, .gone, .gone, .gone, .gone, .gone, .gone, .gone, .gone, .gone, .gone, .gone, rowI 79 valT (e ++ [r])]⟩) (fun es ck r hr_2 => ?_) (fun rd6 => ?_)
 replace h := h es ck r hr_2
 obtain ⟨hp_r8, h⟩ := h
 obtain ⟨e_2, he_2, h⟩ := h
 refine RD.succQ [1] (by kernel_rfl) rfl ⟨⟨_, #[tt, tt, tt, tt, tt, tt, tt, tt, tt, ff, ff], rfl, rfl, ?_⟩, trivial⟩
 refine WL.rn ht hn 1 ⟨(qaj20 n g x33 x38), [famI encS intT (fl_2 ++ [(r, ([] : List qaj10), es, ck)]) none, .box (qaj4 g) 37 false, gridH 101 79 valT g2_2 (x33).toNat none, qaj1, .gone, .gone, .gone, .gone, .gone, .gone, .gone, .gone, .gone, .gone, .gone, .gone, .gone, .gone, .gone, .gone, .gone, .gone, .gone, .gone, .gone, .gone, .gone, .gone, .gone, .gone, .gone, .gone, .gone, .gone, .gone, .gone, .gone, .gone, rowI 79 valT (e ++ [r])]⟩ ?_
 exact RD.last (rd7 es ck r hr_2) (sub_ok (by kernel_rfl))
 refine XsOk.haveV (fun r => r ∉ famRefs fl_2) 3 #[ff, tt, tt, tt, tt, tt, tt, tt, tt, ff, ff] (fun es ck r => ⟨[sl 1 (I n), qaj3, qaj5, sl 8 (I x33), qaj0 g, sl 33 (I x33), qaj9 n, sl 38 (I x38), sl 41 (I x33), sl 48 (.own 38)], [famI encS intT (fl_2 ++ [(r, ([] : List qaj10), es, ck)]) none, .box (qaj4 g) 37 false, gridH 101 79 valT g2_2 (x33).toNat none, qaj1, .gone, .gone, .gone, .gone, .gone, .gone, .gone, .gone, .gone, .gone, .gone, .gone, .gone, .gone, .gone, .gone, .gone, .gone, .gone, .gone, .gone, .gone, .gone, .gone, .gone, .gone, .gone, .gone, .gone, .gone, .gone, .gone, .gone, .gone, rowI 79 valT (e ++ [r])]⟩) (fun es ck r hr_2 => ?_) (fun rd5 => ?_)
 replace h := h es ck r hr_2
 obtain ⟨hp_r8, h⟩ := h
 obtain ⟨e_2, he_2, h⟩ := h
 refine RD.succQ [0] (by kernel_rfl) rfl ⟨⟨_, #[tt, tt, tt, tt, tt, tt, tt, tt, tt, ff, ff], rfl, rfl, ?_⟩, trivial⟩
 refine WL.rn ht hn 1 ⟨(qaj20 n g x33 x38), [famI encS intT (fl_2 ++ [(r, ([] : List qaj10), es, ck)]) none, .box (qaj4 g) 37 false, gridH 101 79 valT g2_2 (x33).toNat none, qaj1, .gone, .gone, .gone, .gone, .gone, .gone, .gone, .gone, .gone, .gone, .gone, .gone, .gone, .gone, .gone, .gone, .gone, .gone, .gone, .gone, .gone, .gone, .gone, .gone, .gone, .gone, .gone, .gone, .gone, .gone, .gone, .gone, .gone, .gone, rowI 79 valT (e ++ [r])]⟩ ?_
 exact RD.last (rd7 es ck r hr_2) (sub_ok (by kernel_rfl))
 refine XsOk.have 3 #[tt, tt, tt, tt, tt, tt, tt, tt, ff, ff, ff] ⟨(qaj11 n g x33 x38), [famI encS intT fl_2 none, .box (qaj4 g) 37 false, gridI 101 79 valT g2_2, qaj1, mapI encS intT ([] : List qaj10), qaj17]⟩ ?_ (fun rd4 => ?_)
 refine RD.succQ [8] (by kernel_rfl) rfl ⟨⟨_, #[tt, tt, tt, tt, tt, tt, tt, tt, tt, ff, ff], rfl, rfl, ?_⟩, trivial⟩
 refine WL.takeG (T := valT) (L := g2_2) (l := e) (i := 2) 45 (by rfl) (idx_some he).2.2 (by rfl) (by rfl) (by rfl) ?_
 refine WL.sub ⟨[sl 1 (I n), qaj3, qaj5, sl 8 (I x33), qaj0 g, sl 33 (I x33), qaj9 n, sl 38 (I x38), sl 40 (.gs 2 0), sl 41 (I x33), sl 45 (.own 6), qaj22], [famI encS intT fl_2 none, .box (qaj4 g) 37 false, gridH 101 79 valT g2_2 (x33).toNat none, qaj1, mapI encS intT ([] : List qaj10), qaj17, rowI 79 valT e]⟩ (by kernel_rfl) ?_
 refine WL.openM 4 (by rfl) (fun es ck => ?_)
 refine WL.famAddB 5 0 0 4 (by rfl) (by rfl) (by rfl) (by rfl) (by rfl) (by rfl) (by rfl) (by rfl) (fun r hr_2 => ?_)
 replace h := h es ck r hr_2
 refine WL.sub ⟨[sl 1 (I n), qaj3, qaj5, sl 8 (I x33), qaj0 g, sl 33 (I x33), qaj9 n, sl 38 (I x38), sl 40 (.gs 2 0), sl 41 (I x33), sl 45 (.own 6), qaj22], [famI encS intT (fl_2 ++ [(r, ([] : List qaj10), es, ck)]) none, .box (qaj4 g) 37 false, gridH 101 79 valT g2_2 (x33).toNat none, qaj1, .gone, .box [.v r] 79 false, rowI 79 valT e]⟩ (by kernel_rfl) ?_
 obtain ⟨hp_r8, h⟩ := h
 refine WL.mt (S2 := ⟨[sl 1 (I n), qaj3, qaj5, sl 8 (I x33), qaj0 g, sl 33 (I x33), qaj9 n, sl 38 (I x38), sl 40 (.gs 2 0), sl 41 (I x33), qaj22], [famI encS intT (fl_2 ++ [(r, ([] : List qaj10), es, ck)]) none, .box (qaj4 g) 37 false, gridH 101 79 valT g2_2 (x33).toNat none, qaj1, .gone, .box [.v r] 79 false, rowI 79 valT e]⟩) (K := [6]) (p := some (6, rowI 79 valT (e ++ [r]))) hn (by rfl) (mt_append (T := valT) (l := e) (es := [r]) ht rfl (by rfl) (by rfl) (by rfl) (by rfl) (by decide) (by rfl) (by rfl) (srcBsl (T := valT) ([r] : List Value) (fun _ h => by cases h) (fun _ => rfl) (fun _ => rfl) (by rfl) (by rfl) (by rfl) (by rfl)) (by exact hp_r8) (by exact hp_r8.le (by decide))) (by kernel_rfl) (by rfl) (by rfl) (by rfl) ?_
 refine WL.nil ?_
 refine En.move 6 38 (by rfl) (by rfl) ?_
 exact RD.last (rd7 es ck r hr_2) (sub_ok (by kernel_rfl))
 refine XsOk.haveV (fun r => r ∉ famRefs fl_2) 4 #[ff, ff, tt, tt, tt, tt, tt, tt, tt, ff, ff] (fun es ck r => ⟨[sl 1 (I n), qaj3, qaj5, sl 8 (I x33), qaj0 g, sl 33 (I x33), qaj9 n, sl 38 (I x38), sl 48 (.own 38)], [famI encS intT (fl_2 ++ [(r, ([] : List qaj10), es, ck)]) none, .box (qaj4 g) 37 false, gridH 101 79 valT g2_2 (x33).toNat none, qaj1, .gone, .gone, .gone, .gone, .gone, .gone, .gone, .gone, .gone, .gone, .gone, .gone, .gone, .gone, .gone, .gone, .gone, .gone, .gone, .gone, .gone, .gone, .gone, .gone, .gone, .gone, .gone, .gone, .gone, .gone, .gone, .gone, .gone, .gone, rowI 79 valT (e ++ [r])]⟩) (fun es ck r hr_2 => ?_) (fun rd3 => ?_)
 replace h := h es ck r hr_2
 obtain ⟨hp_r8, h⟩ := h
 obtain ⟨e_2, he_2, h⟩ := h
 refine RD.succQ [0, 1] (by kernel_rfl) rfl ⟨⟨_, #[tt, ff, tt, tt, tt, tt, tt, tt, tt, ff, ff], rfl, rfl, ?_⟩, ⟨_, #[ff, tt, tt, tt, tt, tt, tt, tt, tt, ff, ff], rfl, rfl, ?_⟩, trivial⟩
 refine WL.rn ht hn 1 ⟨[sl 1 (I n), qaj3, qaj5, sl 8 (I x33), qaj0 g, sl 33 (I x33), qaj9 n, sl 38 (I x38), sl 40 (.gs 2 0), sl 48 (.own 38)], [famI encS intT (fl_2 ++ [(r, ([] : List qaj10), es, ck)]) none, .box (qaj4 g) 37 false, gridH 101 79 valT g2_2 (x33).toNat none, qaj1, .gone, .gone, .gone, .gone, .gone, .gone, .gone, .gone, .gone, .gone, .gone, .gone, .gone, .gone, .gone, .gone, .gone, .gone, .gone, .gone, .gone, .gone, .gone, .gone, .gone, .gone, .gone, .gone, .gone, .gone, .gone, .gone, .gone, .gone, rowI 79 valT (e ++ [r])]⟩ ?_
 exact RD.last (rd6 es ck r hr_2) (sub_ok (by kernel_rfl))
 refine WL.rn ht hn 1 ⟨[sl 1 (I n), qaj3, qaj5, sl 8 (I x33), qaj0 g, sl 33 (I x33), qaj9 n, sl 38 (I x38), sl 41 (I x33), sl 48 (.own 38)], [famI encS intT (fl_2 ++ [(r, ([] : List qaj10), es, ck)]) none, .box (qaj4 g) 37 false, gridH 101 79 valT g2_2 (x33).toNat none, qaj1, .gone, .gone, .gone, .gone, .gone, .gone, .gone, .gone, .gone, .gone, .gone, .gone, .gone, .gone, .gone, .gone, .gone, .gone, .gone, .gone, .gone, .gone, .gone, .gone, .gone, .gone, .gone, .gone, .gone, .gone, .gone, .gone, .gone, .gone, rowI 79 valT (e ++ [r])]⟩ ?_
 exact RD.last (rd5 es ck r hr_2) (sub_ok (by kernel_rfl))
 refine XsOk.have 4 #[tt, ff, tt, tt, tt, tt, tt, tt, ff, ff, ff] ⟨(qaj16 n g x33 x38), [famI encS intT fl_2 none, .box (qaj4 g) 37 false, gridI 101 79 valT g2_2, qaj1, mapI encS intT ([] : List qaj10), qaj17]⟩ ?_ (fun rd2 => ?_)
 refine RD.succQ [1, 8] (by kernel_rfl) rfl ⟨⟨_, #[tt, tt, tt, tt, tt, tt, tt, tt, ff, ff, ff], rfl, rfl, ?_⟩, ⟨_, #[tt, ff, tt, tt, tt, tt, tt, tt, tt, ff, ff], rfl, rfl, ?_⟩, trivial⟩
 refine WL.rn ht hn 1 ⟨(qaj11 n g x33 x38), [famI encS intT fl_2 none, .box (qaj4 g) 37 false, gridI 101 79 valT g2_2, qaj1, mapI encS intT ([] : List qaj10), qaj17]⟩ ?_
 exact RD.last rd4 (sub_ok (by kernel_rfl))
 refine WL.takeG (T := valT) (L := g2_2) (l := e) (i := 2) 45 (by rfl) (idx_some he).2.2 (by rfl) (by rfl) (by rfl) ?_
 refine WL.sub ⟨[sl 1 (I n), qaj3, qaj5, sl 8 (I x33), qaj0 g, sl 33 (I x33), qaj9 n, sl 38 (I x38), sl 40 (.gs 2 0), sl 45 (.own 6), qaj22], [famI encS intT fl_2 none, .box (qaj4 g) 37 false, gridH 101 79 valT g2_2 (x33).toNat none, qaj1, mapI encS intT ([] : List qaj10), qaj17, rowI 79 valT e]⟩ (by kernel_rfl) ?_
 refine WL.openM 4 (by rfl) (fun es ck => ?_)
 refine WL.famAddB 5 0 0 4 (by rfl) (by rfl) (by rfl) (by rfl) (by rfl) (by rfl) (by rfl) (by rfl) (fun r hr_2 => ?_)
 replace h := h es ck r hr_2
 refine WL.sub ⟨[sl 1 (I n), qaj3, qaj5, sl 8 (I x33), qaj0 g, sl 33 (I x33), qaj9 n, sl 38 (I x38), sl 40 (.gs 2 0), sl 45 (.own 6), qaj22], [famI encS intT (fl_2 ++ [(r, ([] : List qaj10), es, ck)]) none, .box (qaj4 g) 37 false, gridH 101 79 valT g2_2 (x33).toNat none, qaj1, .gone, .box [.v r] 79 false, rowI 79 valT e]⟩ (by kernel_rfl) ?_
 obtain ⟨hp_r8, h⟩ := h
 refine WL.mt (S2 := ⟨[sl 1 (I n), qaj3, qaj5, sl 8 (I x33), qaj0 g, sl 33 (I x33), qaj9 n, sl 38 (I x38), sl 40 (.gs 2 0), qaj22], [famI encS intT (fl_2 ++ [(r, ([] : List qaj10), es, ck)]) none, .box (qaj4 g) 37 false, gridH 101 79 valT g2_2 (x33).toNat none, qaj1, .gone, .box [.v r] 79 false, rowI 79 valT e]⟩) (K := [6]) (p := some (6, rowI 79 valT (e ++ [r]))) hn (by rfl) (mt_append (T := valT) (l := e) (es := [r]) ht rfl (by rfl) (by rfl) (by rfl) (by rfl) (by decide) (by rfl) (by rfl) (srcBsl (T := valT) ([r] : List Value) (fun _ h => by cases h) (fun _ => rfl) (fun _ => rfl) (by rfl) (by rfl) (by rfl) (by rfl)) (by exact hp_r8) (by exact hp_r8.le (by decide))) (by kernel_rfl) (by rfl) (by rfl) (by rfl) ?_
 refine WL.nil ?_
 refine En.move 6 38 (by rfl) (by rfl) ?_
 exact RD.last (rd6 es ck r hr_2) (sub_ok (by kernel_rfl))
 refine XsOk.have 4 #[ff, tt, tt, tt, tt, tt, tt, tt, ff, ff, ff] ⟨(qaj18 n g x33 x38), [famI encS intT fl_2 none, .box (qaj4 g) 37 false, gridI 101 79 valT g2_2, qaj1, mapI encS intT ([] : List qaj10), qaj17]⟩ ?_ (fun rd1 => ?_)
 refine RD.succQ [0, 8] (by kernel_rfl) rfl ⟨⟨_, #[tt, tt, tt, tt, tt, tt, tt, tt, ff, ff, ff], rfl, rfl, ?_⟩, ⟨_, #[ff, tt, tt, tt, tt, tt, tt, tt, tt, ff, ff], rfl, rfl, ?_⟩, trivial⟩
 refine WL.rn ht hn 1 ⟨(qaj11 n g x33 x38), [famI encS intT fl_2 none, .box (qaj4 g) 37 false, gridI 101 79 valT g2_2, qaj1, mapI encS intT ([] : List qaj10), qaj17]⟩ ?_
 exact RD.last rd4 (sub_ok (by kernel_rfl))
 refine WL.takeG (T := valT) (L := g2_2) (l := e) (i := 2) 45 (by rfl) (idx_some he).2.2 (by rfl) (by rfl) (by rfl) ?_
 refine WL.sub ⟨[sl 1 (I n), qaj3, qaj5, sl 8 (I x33), qaj0 g, sl 33 (I x33), qaj9 n, sl 38 (I x38), sl 41 (I x33), sl 45 (.own 6), qaj22], [famI encS intT fl_2 none, .box (qaj4 g) 37 false, gridH 101 79 valT g2_2 (x33).toNat none, qaj1, mapI encS intT ([] : List qaj10), qaj17, rowI 79 valT e]⟩ (by kernel_rfl) ?_
 refine WL.openM 4 (by rfl) (fun es ck => ?_)
 refine WL.famAddB 5 0 0 4 (by rfl) (by rfl) (by rfl) (by rfl) (by rfl) (by rfl) (by rfl) (by rfl) (fun r hr_2 => ?_)
 replace h := h es ck r hr_2
 refine WL.sub ⟨[sl 1 (I n), qaj3, qaj5, sl 8 (I x33), qaj0 g, sl 33 (I x33), qaj9 n, sl 38 (I x38), sl 41 (I x33), sl 45 (.own 6), qaj22], [famI encS intT (fl_2 ++ [(r, ([] : List qaj10), es, ck)]) none, .box (qaj4 g) 37 false, gridH 101 79 valT g2_2 (x33).toNat none, qaj1, .gone, .box [.v r] 79 false, rowI 79 valT e]⟩ (by kernel_rfl) ?_
 obtain ⟨hp_r8, h⟩ := h
 refine WL.mt (S2 := ⟨[sl 1 (I n), qaj3, qaj5, sl 8 (I x33), qaj0 g, sl 33 (I x33), qaj9 n, sl 38 (I x38), sl 41 (I x33), qaj22], [famI encS intT (fl_2 ++ [(r, ([] : List qaj10), es, ck)]) none, .box (qaj4 g) 37 false, gridH 101 79 valT g2_2 (x33).toNat none, qaj1, .gone, .box [.v r] 79 false, rowI 79 valT e]⟩) (K := [6]) (p := some (6, rowI 79 valT (e ++ [r]))) hn (by rfl) (mt_append (T := valT) (l := e) (es := [r]) ht rfl (by rfl) (by rfl) (by rfl) (by rfl) (by decide) (by rfl) (by rfl) (srcBsl (T := valT) ([r] : List Value) (fun _ h => by cases h) (fun _ => rfl) (fun _ => rfl) (by rfl) (by rfl) (by rfl) (by rfl)) (by exact hp_r8) (by exact hp_r8.le (by decide))) (by kernel_rfl) (by rfl) (by rfl) (by rfl) ?_
 refine WL.nil ?_
 refine En.move 6 38 (by rfl) (by rfl) ?_
 exact RD.last (rd5 es ck r hr_2) (sub_ok (by kernel_rfl))
 refine XsOk.have 5 #[ff, ff, tt, tt, tt, tt, tt, tt, ff, ff, ff] ⟨[sl 1 (I n), qaj3, qaj5, sl 8 (I x33), qaj0 g, sl 33 (I x33), qaj9 n, sl 38 (I x38), sl 45 (.gs 2 ((x33).toNat + 1)), qaj22], [famI encS intT fl_2 none, .box (qaj4 g) 37 false, gridI 101 79 valT g2_2, qaj1, mapI encS intT ([] : List qaj10), qaj17]⟩ ?_ (fun rd0 => ?_)
 refine RD.succQ [0, 1, 8] (by kernel_rfl) rfl ⟨⟨_, #[tt, ff, tt, tt, tt, tt, tt, tt, ff, ff, ff], rfl, rfl, ?_⟩, ⟨_, #[ff, tt, tt, tt, tt, tt, tt, tt, ff, ff, ff], rfl, rfl, ?_⟩, ⟨_, #[ff, ff, tt, tt, tt, tt, tt, tt, tt, ff, ff], rfl, rfl, ?_⟩, trivial⟩
 refine WL.rn ht hn 1 ⟨(qaj16 n g x33 x38), [famI encS intT fl_2 none, .box (qaj4 g) 37 false, gridI 101 79 valT g2_2, qaj1, mapI encS intT ([] : List qaj10), qaj17]⟩ ?_
 exact RD.last rd2 (sub_ok (by kernel_rfl))
 refine WL.rn ht hn 1 ⟨(qaj18 n g x33 x38), [famI encS intT fl_2 none, .box (qaj4 g) 37 false, gridI 101 79 valT g2_2, qaj1, mapI encS intT ([] : List qaj10), qaj17]⟩ ?_
 exact RD.last rd1 (sub_ok (by kernel_rfl))
 refine WL.takeG (T := valT) (L := g2_2) (l := e) (i := 2) 45 (by rfl) (idx_some he).2.2 (by rfl) (by rfl) (by rfl) ?_
 refine WL.sub ⟨[sl 1 (I n), qaj3, qaj5, sl 8 (I x33), qaj0 g, sl 33 (I x33), qaj9 n, sl 38 (I x38), sl 45 (.own 6), qaj22], [famI encS intT fl_2 none, .box (qaj4 g) 37 false, gridH 101 79 valT g2_2 (x33).toNat none, qaj1, mapI encS intT ([] : List qaj10), qaj17, rowI 79 valT e]⟩ (by kernel_rfl) ?_
 refine WL.openM 4 (by rfl) (fun es ck => ?_)
 refine WL.famAddB 5 0 0 4 (by rfl) (by rfl) (by rfl) (by rfl) (by rfl) (by rfl) (by rfl) (by rfl) (fun r hr_2 => ?_)
 replace h := h es ck r hr_2
 refine WL.sub ⟨[sl 1 (I n), qaj3, qaj5, sl 8 (I x33), qaj0 g, sl 33 (I x33), qaj9 n, sl 38 (I x38), sl 45 (.own 6), qaj22], [famI encS intT (fl_2 ++ [(r, ([] : List qaj10), es, ck)]) none, .box (qaj4 g) 37 false, gridH 101 79 valT g2_2 (x33).toNat none, qaj1, .gone, .box [.v r] 79 false, rowI 79 valT e]⟩ (by kernel_rfl) ?_
 obtain ⟨hp_r8, h⟩ := h
 refine WL.mt (S2 := ⟨[sl 1 (I n), qaj3, qaj5, sl 8 (I x33), qaj0 g, sl 33 (I x33), qaj9 n, sl 38 (I x38), qaj22], [famI encS intT (fl_2 ++ [(r, ([] : List qaj10), es, ck)]) none, .box (qaj4 g) 37 false, gridH 101 79 valT g2_2 (x33).toNat none, qaj1, .gone, .box [.v r] 79 false, rowI 79 valT e]⟩) (K := [6]) (p := some (6, rowI 79 valT (e ++ [r]))) hn (by rfl) (mt_append (T := valT) (l := e) (es := [r]) ht rfl (by rfl) (by rfl) (by rfl) (by rfl) (by decide) (by rfl) (by rfl) (srcBsl (T := valT) ([r] : List Value) (fun _ h => by cases h) (fun _ => rfl) (fun _ => rfl) (by rfl) (by rfl) (by rfl) (by rfl)) (by exact hp_r8) (by exact hp_r8.le (by decide))) (by kernel_rfl) (by rfl) (by rfl) (by rfl) ?_
 refine WL.nil ?_
 refine En.move 6 38 (by rfl) (by rfl) ?_
 exact RD.last (rd3 es ck r hr_2) (sub_ok (by kernel_rfl))
 exact ⟨⟨⟨[sl 1 (I n), qaj3, qaj5, sl 8 (I x33), qaj0 g, sl 33 (I x33), qaj9 n, sl 38 (I x38), sl 45 (.gs 2 ((x33).toNat + 1)), qaj22], [famI encS intT fl_2 none, .box (qaj4 g) 37 false, gridI 101 79 valT g2_2, qaj1, mapI encS intT ([] : List qaj10), qaj17]⟩, 5, by kernel_rfl, by rfl, rd0⟩, ⟨⟨(qaj18 n g x33 x38), [famI encS intT fl_2 none, .box (qaj4 g) 37 false, gridI 101 79 valT g2_2, qaj1, mapI encS intT ([] : List qaj10), qaj17]⟩, 4, by kernel_rfl, by rfl, rd1⟩, ⟨⟨(qaj16 n g x33 x38), [famI encS intT fl_2 none, .box (qaj4 g) 37 false, gridI 101 79 valT g2_2, qaj1, mapI encS intT ([] : List qaj10), qaj17]⟩, 4, by kernel_rfl, by rfl, rd2⟩, ⟨⟨(qaj11 n g x33 x38), [famI encS intT fl_2 none, .box (qaj4 g) 37 false, gridI 101 79 valT g2_2, qaj1, mapI encS intT ([] : List qaj10), qaj17]⟩, 3, by kernel_rfl, by rfl, rd4⟩, trivial⟩
 intro es ck r hr_2
 replace h := h es ck r hr_2
 obtain ⟨hp_r8, h⟩ := h
 obtain ⟨e_2, he_2, h⟩ := h
 refine En.region ?_
 refine WL.rn ht hn 2 ⟨[sl 1 (I n), qaj3, qaj5, sl 8 (I x33), qaj0 g, sl 33 (I x33), qaj9 n, sl 38 (I (wr (x38 + 1)))], [famI encS intT (fl_2 ++ [(r, ([] : List qaj10), es, ck)]) none, .box (qaj4 g) 37 false, gridI 101 79 valT (g2_2.set (x33).toNat (e ++ [r])), qaj1]⟩ ?_
 exact En.at (I := fun zz => Inv_2 zz.1 zz.2.1 zz.2.2 ∧ mu_2 zz.1 zz.2.1 zz.2.2 < mu_2 x38 fl_2 g2_2) (T := fun zz => ⟨[sl 1 (I n), qaj3, qaj5, sl 8 (I x33), qaj0 g, sl 33 (I x33), qaj9 n, sl 38 (I zz.1)], [famI encS intT zz.2.1 none, .box (qaj4 g) 37 false, gridI 101 79 valT zz.2.2, qaj1]⟩) ((wr (x38 + 1)), (fl_2 ++ [(r, ([] : List qaj10), es, ck)]), (g2_2.set (x33).toNat (e ++ [r]))) h (by kernel_rfl)
 refine En.exit rfl ?_
 refine En.region ?_
 refine WL.rn ht hn 2 ⟨[sl 1 (I n), qaj3, qaj5, qaj0 g, sl 33 (I (wr (x33 + 1)))], [famI encS intT fl_2 none, .box (qaj4 g) 37 false, gridI 101 79 valT g2_2, qaj1]⟩ ?_
 exact En.at (I := fun zz => Inv zz.1 zz.2.1 zz.2.2 ∧ mu zz.1 zz.2.1 zz.2.2 < mu x33 fl g2) (T := fun zz => ⟨[sl 1 (I n), qaj3, qaj5, qaj0 g, sl 33 (I zz.1)], [famI encS intT zz.2.1 none, .box (qaj4 g) 37 false, gridI 101 79 valT zz.2.2, qaj1]⟩) ((wr (x33 + 1)), fl_2, g2_2) h (by kernel_rfl)
 refine En.exit rfl ?_
 refine En.sr ?_
 refine WL.rn ht hn 1 ⟨[sl 1 (I n), qaj3, qaj5, qaj12], [famI encS intT fl none, .box (qaj4 g) 37 false, gridI 101 79 valT g2, qaj1, .box [.v (.nilFunc)] 102 false]⟩ ?_
 refine En.sr ?_
 refine WL.rn ht hn 2 ⟨[sl 1 (I n), qaj3, qaj5, qaj12], [famI encS intT fl none, .box (qaj4 g) 37 false, gridI 101 79 valT g2, qaj1, qaj2]⟩ ?_
 refine En.seq ?_
 refine En.sr ?_
 refine WL.rn ht hn 1 ⟨[sl 1 (I n), qaj3, qaj5, qaj12, sl 10 (B true)], [famI encS intT fl none, .box (qaj4 g) 37 false, gridI 101 79 valT g2, qaj1, qaj2]⟩ ?_
 refine En.block ?_
 refine En.sub' ⟨[sl 1 (I n), qaj3, qaj5, qaj12, sl 10 (B true)], [famI encS intT fl none, .box (qaj4 g) 37 false, gridI 101 79 valT g2, qaj1, qaj2]⟩ (by kernel_rfl) ?_
 refine En.sealG (T := valT) (L' := g2) 2 (by rfl) ?_
 obtain ⟨Inv_3, mu_3, h0_4, hI_4⟩ := h
 refine En.loop (σ := Bool × (List qaj14)) (fun zz => Inv_3 zz.1 zz.2) (fun zz => mu_3 zz.1 zz.2) (fun zz => ⟨[sl 1 (I n), qaj3, qaj5, qaj12, sl 10 (B zz.1)], [famI encS intT zz.2 none, .box (qaj4 g) 37 false, .gone, qaj6 g2, qaj2]⟩) (true, fl) h0_4 (sub_ok (by kernel_rfl)) ?_
 rintro ⟨x10, fl_3⟩ h
 replace h := hI_4 _ _ h
 show En c ⟨[sl 1 (I n), qaj3, qaj5, qaj12, sl 10 (B x10)], [famI encS intT fl_3 none, .box (qaj4 g) 37 false, .gone, qaj6 g2, qaj2]⟩ _
 refine En.seq ?_
 refine En.sr ?_
 refine WL.rn ht hn 1 ⟨[sl 1 (I n), qaj3, qaj5, qaj12, sl 53 (B x10)], [famI encS intT fl_3 none, .box (qaj4 g) 37 false, .gone, qaj6 g2, qaj2]⟩ ?_
 refine En.ch h (fun h => ?_) (fun h => ?_)
 refine En.skip ?_
 refine En.block ?_
 refine En.sr ?_
 refine WL.rn ht hn 1 ⟨[sl 1 (I n), qaj3, qaj5, qaj12, sl 10 (B false)], [famI encS intT fl_3 none, .box (qaj4 g) 37 false, .gone, qaj6 g2, qaj2]⟩ ?_
 refine En.sr ?_
 refine WL.rn ht hn 4 ⟨[sl 1 (I n), qaj3, qaj5, qaj12, sl 10 (B false), qaj8 g, qaj7 g, sl 57 (I 0)], [famI encS intT fl_3 none, .box (qaj4 g) 37 false, .gone, qaj6 g2, qaj2]⟩ ?_
 refine En.block ?_
 obtain ⟨Inv_4, mu_4, h0_3, hI_3⟩ := h
 refine En.loop (σ := Bool × Int × (List qaj14)) (fun zz => Inv_4 zz.1 zz.2.1 zz.2.2) (fun zz => mu_4 zz.1 zz.2.1 zz.2.2) (fun zz => ⟨[sl 1 (I n), qaj3, qaj5, qaj12, sl 10 (B zz.1), qaj8 g, qaj7 g, sl 57 (I zz.2.1)], [famI encS intT zz.2.2 none, .box (qaj4 g) 37 false, .gone, qaj6 g2, qaj2]⟩) (false, 0, fl_3) h0_3 (sub_ok (by kernel_rfl)) ?_
 rintro ⟨x10_2, x57, fl_4⟩ h
 replace h := hI_3 _ _ _ h
 show En c ⟨[sl 1 (I n), qaj3, qaj5, qaj12, sl 10 (B x10_2), qaj8 g, qaj7 g, sl 57 (I x57)], [famI encS intT fl_4 none, .box (qaj4 g) 37 false, .gone, qaj6 g2, qaj2]⟩ _
 refine En.sr ?_
 refine WL.rn ht hn 1 ⟨[sl 1 (I n), qaj3, qaj5, qaj12, sl 10 (B x10_2), qaj8 g, qaj7 g, sl 57 (I x57), sl 58 (B (decide (x57 < (g.fMakes.length : Int))))], [famI encS intT fl_4 none, .box (qaj4 g) 37 false, .gone, qaj6 g2, qaj2]⟩ ?_
 refine En.seq ?_
 refine En.ch h (fun h => ?_) (fun h => ?_)
 refine En.skip ?_
 refine En.seq ?_
 refine En.block ?_
 refine En.sr ?_
 obtain ⟨e_3, he_3, h⟩ := h
 refine WL.v hn (val_ix (T := ApiMake.ty) (l := g.fMakes) (i := x57) ht rfl he_3) ?_
 refine WL.v hn (val_ld (s := .agg (ApiMake.cl e_3)) ht rfl) ?_
 refine WL.rn ht hn 2 ⟨[sl 1 (I n), qaj3, qaj5, qaj12, sl 10 (B x10_2), qaj19, qaj8 g, qaj7 g, sl 57 (I x57)], [famI encS intT fl_4 none, .box (qaj4 g) 37 false, .gone, qaj6 g2, qaj2, .box (ApiMake.cl e_3) 39 false]⟩ ?_
 refine En.sr ?_
 refine WL.rn ht hn 1 ⟨[sl 1 (I n), qaj3, qaj5, qaj12, sl 10 (B x10_2), qaj19, sl 13 (.ptr 6 0), qaj8 g, qaj7 g, sl 57 (I x57)], [famI encS intT fl_4 none, .box (qaj4 g) 37 false, .gone, qaj6 g2, qaj2, .box (ApiMake.cl e_3) 39 false, .box [.v (.slice none 0 0)] 22 false]⟩ ?_
 refine En.sr ?_
 refine WL.r ht hn 5 ⟨[sl 1 (I n), qaj3, qaj5, qaj12, sl 10 (B x10_2), qaj19, sl 13 (.ptr 6 0), qaj8 g, qaj7 g, sl 57 (I x57), sl 61 (.fn 48 [1, 4, 3]), sl 63 (LS intT e_3.fTo), sl 64 (I n), sl 65 (.fn 50 [6])], [famI encS intT fl_4 none, .box (qaj4 g) 37 false, .gone, qaj6 g2, qaj2, .box (ApiMake.cl e_3) 39 false, .box [.v (.slice none 0 0)] 22 false]⟩ ?_
 refine WL.nilBoxO (T := (lsT intT)) 6 0 7 23 (by rfl) (by rfl) (by rfl) (by rfl) ?_
 obtain ⟨hp, h⟩ := h
 refine WL.callQ [sl 1 (I n), qaj3, qaj5, qaj12, sl 10 (B x10_2), qaj19, sl 13 (.ptr 6 0), qaj8 g, qaj7 g, sl 57 (I x57), sl 61 (.fn 48 [1, 4, 3]), sl 63 (LS intT e_3.fTo), sl 64 (I n), sl 65 (.fn 50 [6])] (CtE.args (mRow_ct g g2 fl_4 ([] : List (List Int)) e_3.fTo n ([] : List Int) hp) (argLe_same (argLe_same (argLe_to (nil_LS (T := intT)) (argLe_same (argLe_same (argLe_same (argLe_same argLe_nil)))))))) en48 (caps := [1, 4, 3]) [1, 4, 3, 0, 6, 7] hn (by rfl) rfl (by rfl) (argsAs (by kernel_rfl) (by rfl)) (by kernel_rfl) (by decide) (by kernel_rfl) (by rfl) (by rfl) (fun r_2 hr_2_2 => ⟨by rfl, _, by rfl, ?_⟩)
 replace h := h r_2 hr_2_2
 refine WL.nil ?_
 refine En.sr ?_
 refine WL.rn ht hn 3 ⟨[sl 1 (I n), qaj3, qaj5, qaj12, sl 10 (B x10_2), qaj19, qaj8 g, qaj7 g, sl 57 (I x57), qaj21, sl 68 (I (r_2.length : Int)), sl 69 (I 0)], [famI encS intT fl_4 none, .box (qaj4 g) 37 false, .gone, qaj6 g2, qaj2, .box (ApiMake.cl e_3) 39 false, .gone, rowI 23 (lsT intT) r_2]⟩ ?_
 refine En.block ?_
 obtain ⟨Inv_5, mu_5, h0_2, hI_2⟩ := h
 refine En.loop (σ := Bool × Int × (List qaj14)) (fun zz => Inv_5 zz.1 zz.2.1 zz.2.2) (fun zz => mu_5 zz.1 zz.2.1 zz.2.2) (fun zz => ⟨[sl 1 (I n), qaj3, qaj5, qaj12, sl 10 (B zz.1), qaj19, qaj8 g, qaj7 g, sl 57 (I x57), qaj21, sl 68 (I (r_2.length : Int)), sl 69 (I zz.2.1)], [famI encS intT zz.2.2 none, .box (qaj4 g) 37 false, .gone, qaj6 g2, qaj2, .box (ApiMake.cl e_3) 39 false, .gone, rowI 23 (lsT intT) r_2]⟩) (x10_2, 0, fl_4) h0_2 (sub_ok (by kernel_rfl)) ?_
 rintro ⟨x10_3, x69, fl_5⟩ h
 replace h := hI_2 _ _ _ h
 show En c ⟨[sl 1 (I n), qaj3, qaj5, qaj12, sl 10 (B x10_3), qaj19, qaj8 g, qaj7 g, sl 57 (I x57), qaj21, sl 68 (I (r_2.length : Int)), sl 69 (I x69)], [famI encS intT fl_5 none, .box (qaj4 g) 37 false, .gone, qaj6 g2, qaj2, .box (ApiMake.cl e_3) 39 false, .gone, rowI 23 (lsT intT) r_2]⟩ _
 refine En.sr ?_
 refine WL.rn ht hn 1 ⟨[sl 1 (I n), qaj3, qaj5, qaj12, sl 10 (B x10_3), qaj19, qaj8 g, qaj7 g, sl 57 (I x57), qaj21, sl 68 (I (r_2.length : Int)), sl 69 (I x69), sl 70 (B (decide (x69 < (r_2.length : Int))))], [famI encS intT fl_5 none, .box (qaj4 g) 37 false, .gone, qaj6 g2, qaj2, .box (ApiMake.cl e_3) 39 false, .gone, rowI 23 (lsT intT) r_2]⟩ ?_
 refine En.seq ?_
 refine En.ch h (fun h => ?_) (fun h => ?_)
 refine En.skip ?_
 obtain ⟨J, h, hJ⟩ := h
 refine En.seqJ (σ := Bool × (List qaj14)) (fun zz => J zz.1 zz.2) (fun zz => ⟨[sl 1 (I n), qaj3, qaj5, qaj12, sl 10 (B zz.1), qaj19, qaj8 g, qaj7 g, sl 57 (I x57), qaj21, sl 68 (I (r_2.length : Int)), sl 69 (I x69)], [famI encS intT zz.2 none, .box (qaj4 g) 37 false, .gone, qaj6 g2, qaj2, .box (ApiMake.cl e_3) 39 false, .gone, rowI 23 (lsT intT) r_2, .gone]⟩) ?_ ?_
 refine En.block ?_
 refine En.sr ?_
 obtain ⟨e_4, he_4, h⟩ := h
 refine WL.v hn (val_indexO (T := (lsT intT)) (l := r_2) (k := x69) ht rfl (by rfl) (by rfl) (by rfl) (by rfl) (by decide) (by rfl) (by rfl) (by rfl) he_4) ?_
 refine WL.v hn (val_loadO (T := (lsT intT)) (l := r_2) (y := e_4) ht rfl (by rfl) (by rfl) (by rfl) (by rfl) (by rfl) (idx_some he_4).2.2 (by rfl)) ?_
 refine WL.rn ht hn 1 ⟨[sl 1 (I n), qaj3, qaj5, qaj12, sl 10 (B x10_3), qaj19, sl 15 (LS intT e_4), qaj8 g, qaj7 g, sl 57 (I x57), qaj21, sl 68 (I (r_2.length : Int)), sl 69 (I x69)], [famI encS intT fl_5 none, .box (qaj4 g) 37 false, .gone, qaj6 g2, qaj2, .box (ApiMake.cl e_3) 39 false, .gone, rowI 23 (lsT intT) r_2]⟩ ?_
 refine En.sr ?_
 refine WL.r ht hn 3 ⟨[sl 1 (I n), qaj3, qaj5, qaj12, sl 10 (B x10_3), qaj19, sl 15 (LS intT e_4), qaj8 g, qaj7 g, sl 57 (I x57), qaj21, sl 68 (I (r_2.length : Int)), sl 69 (I x69), sl 73 (LS (lsT valT) g2), sl 75 (I e_3.fFrom)], [famI encS intT fl_5 none, .box (qaj4 g) 37 false, .gone, qaj6 g2, qaj2, .box (ApiMake.cl e_3) 39 false, .gone, rowI 23 (lsT intT) r_2]⟩ ?_
 obtain ⟨e_5, he_5, h⟩ := h
 refine WL.v hn (val_ix (T := (lsT valT)) (l := g2) (i := e_3.fFrom) ht rfl he_5) ?_
 refine WL.v hn (val_ld (s := .one (LS valT e_5)) ht rfl) ?_
 refine WL.r ht hn 2 ⟨[sl 1 (I n), qaj3, qaj5, qaj12, sl 10 (B x10_3), qaj19, sl 15 (LS intT e_4), qaj8 g, qaj7 g, sl 57 (I x57), qaj21, sl 68 (I (r_2.length : Int)), sl 69 (I x69), sl 77 (LS valT e_5), sl 79 (I (e_4.length : Int))], [famI encS intT fl_5 none, .box (qaj4 g) 37 false, .gone, qaj6 g2, qaj2, .box (ApiMake.cl e_3) 39 false, .gone, rowI 23 (lsT intT) r_2]⟩ ?_
 obtain ⟨e_6, he_6, h⟩ := h
 refine WL.v hn (val_ix (T := valT) (l := e_5) (i := (e_4.length : Int)) ht rfl he_6) ?_
 refine WL.v hn (val_ld (s := .one (.v e_6)) ht rfl) ?_
 refine WL.rn ht hn 1 ⟨[sl 1 (I n), qaj3, qaj5, qaj12, sl 10 (B x10_3), qaj19, sl 15 (LS intT e_4), sl 16 (.v e_6), qaj8 g, qaj7 g, sl 57 (I x57), qaj21, sl 68 (I (r_2.length : Int)), sl 69 (I x69)], [famI encS intT fl_5 none, .box (qaj4 g) 37 false, .gone, qaj6 g2, qaj2, .box (ApiMake.cl e_3) 39 false, .gone, rowI 23 (lsT intT) r_2]⟩ ?_
 refine En.sr ?_
 refine WL.r ht hn 2 ⟨[sl 1 (I n), qaj3, qaj5, qaj12, sl 10 (B x10_3), qaj19, sl 15 (LS intT e_4), sl 16 (.v e_6), qaj8 g, qaj7 g, sl 57 (I x57), qaj21, sl 68 (I (r_2.length : Int)), sl 69 (I x69), sl 82 (.v e_6), sl 83 (LS intT e_4)], [famI encS intT fl_5 none, .box (qaj4 g) 37 false, .gone, qaj6 g2, qaj2, .box (ApiMake.cl e_3) 39 false, .gone, rowI 23 (lsT intT) r_2]⟩ ?_
 obtain ⟨hp, h⟩ := h
 refine WL.m0 hn (mt_c (gTxt_ct e_4 hp) en51 rfl) ?_
 obtain ⟨k, D, es_2, ck_2, hk, h⟩ := h
 refine WL.famTake 82 0 8 k (by rfl) (by rfl) (by rfl) hk (by rfl) ?_
 refine WL.v hn (val_lookup (T := intT) (D := D) keyS9 (k := (bytesOf e_4)) (ok := false) (0 : Int) (zv := (.int .i64 0)) rfl Try.underlying79 (fun _ => by kernel_rfl) (fun _ => ⟨rfl, trivial⟩) (mapXAs encS intT D es_2 ck_2) (by rfl) (by rfl) (by rfl) (fun _ => rfl)) ?_
 refine WL.famPut0 82 0 8 k (by rfl) (by rfl) (by rfl) (by rfl) hk (by rfl) ?_
 refine WL.ghost 82 (o1 (.v e_6)) (by rfl) own_v ?_
 refine WL.rn ht hn 1 ⟨[sl 1 (I n), qaj3, qaj5, qaj12, sl 10 (B x10_3), qaj19, sl 15 (LS intT e_4), sl 16 (.v e_6), qaj8 g, qaj7 g, sl 57 (I x57), qaj21, sl 68 (I (r_2.length : Int)), sl 69 (I x69), sl 86 (B (((mget (bytesOf e_4) D).getD (0 : Int)) == 0))], [famI encS intT fl_5 none, .box (qaj4 g) 37 false, .gone, qaj6 g2, qaj2, .box (ApiMake.cl e_3) 39 false, .gone, rowI 23 (lsT intT) r_2, .gone]⟩ ?_
 refine En.ch h (fun h => ?_) (fun h => ?_)
 refine En.region ?_
 refine WL.r ht hn 2 ⟨[sl 1 (I n), qaj3, qaj5, qaj12, qaj19, qaj8 g, qaj7 g, sl 57 (I x57), qaj21, sl 68 (I (r_2.length : Int)), sl 69 (I x69), sl 87 (.v e_6), sl 88 (LS intT e_4)], [famI encS intT fl_5 none, .box (qaj4 g) 37 false, .gone, qaj6 g2, qaj2, .box (ApiMake.cl e_3) 39 false, .gone, rowI 23 (lsT intT) r_2, .gone]⟩ ?_
 obtain ⟨hp, h⟩ := h
 refine WL.m0 hn (mt_c (gTxt_ct e_4 hp) en51 rfl) ?_
 obtain ⟨k_2, D_2, es_3, ck_3, hk_2, h⟩ := h
 refine WL.famTake 87 0 9 k_2 (by rfl) (by rfl) (by rfl) hk_2 (by rfl) ?_
 refine WL.me hn (by rfl) (me_mapEntry (T := intT) (D := D_2) (es := es_3) (ck := ck_3) keyS9 (k := (bytesOf e_4)) (0 : Int) (zv := (.int .i64 0)) rfl Try.underlying79 (fun _ => by kernel_rfl) (fun _ => ⟨rfl, trivial⟩) (by rfl) (by rfl) (by rfl) (fun _ => rfl)) (by rfl) rfl rfl (by rfl) ?_
 refine WL.sub ⟨[sl 1 (I n), qaj3, qaj5, qaj12, qaj19, qaj8 g, qaj7 g, sl 57 (I x57), qaj21, sl 68 (I (r_2.length : Int)), sl 69 (I x69), sl 87 (.pown 9 e_6), sl 88 (LS intT e_4), sl 89 (.v (.string (bytesOf e_4))), (90, .tup [.one (I ((mget (bytesOf e_4) D_2).getD (0 : Int))), .one (I (((stampX (bytesOf e_4) D_2 es_3 ck_3) : Nat) : Int))])], [famI encS intT fl_5 (some k_2), .box (qaj4 g) 37 false, .gone, qaj6 g2, qaj2, .box (ApiMake.cl e_3) 39 false, .gone, rowI 23 (lsT intT) r_2, .gone, mapB encS intT (mput (bytesOf e_4) ((mget (bytesOf e_4) D_2).getD (0 : Int)) D_2) (bytesOf e_4) (stampX (bytesOf e_4) D_2 es_3 ck_3)]⟩ (by kernel_rfl) ?_
 refine WL.r ht hn 1 ⟨[sl 1 (I n), qaj3, qaj5, qaj12, qaj19, qaj8 g, qaj7 g, sl 57 (I x57), qaj21, sl 68 (I (r_2.length : Int)), sl 69 (I x69), sl 87 (.pown 9 e_6), sl 91 (I (((stampX (bytesOf e_4) D_2 es_3 ck_3) : Nat) : Int))], [famI encS intT fl_5 (some k_2), .box (qaj4 g) 37 false, .gone, qaj6 g2, qaj2, .box (ApiMake.cl e_3) 39 false, .gone, rowI 23 (lsT intT) r_2, .gone, mapB encS intT (mput (bytesOf e_4) ((mget (bytesOf e_4) D_2).getD (0 : Int)) D_2) (bytesOf e_4) (stampX (bytesOf e_4) D_2 es_3 ck_3)]⟩ ?_
 refine WL.entryStore (T := intT) (k := (bytesOf e_4)) (y := 1) hn (by rfl) rfl (by rfl) (by rfl) (by rfl) (by rfl) (by rfl) (by rfl) ?_
 refine WL.openM 9 (by rfl) (fun es_4 ck_4 => ?_)
 replace h := h es_4 ck_4
 refine WL.famPut 87 0 9 k_2 (by rfl) (by rfl) (by rfl) (by rfl) hk_2 (by rfl) ?_
 refine WL.ghost 87 (o1 (.v e_6)) (by rfl) own_v ?_
 refine WL.rn ht hn 1 ⟨[sl 1 (I n), qaj3, qaj5, qaj12, sl 10 (B true), qaj19, qaj8 g, qaj7 g, sl 57 (I x57), qaj21, sl 68 (I (r_2.length : Int)), sl 69 (I x69)], [famI encS intT (fl_5.set k_2 (e_6, (mput (bytesOf e_4) 1 (mput (bytesOf e_4) ((mget (bytesOf e_4) D_2).getD (0 : Int)) D_2)), es_4, ck_4)) none, .box (qaj4 g) 37 false, .gone, qaj6 g2, qaj2, .box (ApiMake.cl e_3) 39 false, .gone, rowI 23 (lsT intT) r_2, .gone, .gone]⟩ ?_
 exact En.at (I := fun zz => J zz.1 zz.2) (T := fun zz => ⟨[sl 1 (I n), qaj3, qaj5, qaj12, sl 10 (B zz.1), qaj19, qaj8 g, qaj7 g, sl 57 (I x57), qaj21, sl 68 (I (r_2.length : Int)), sl 69 (I x69)], [famI encS intT zz.2 none, .box (qaj4 g) 37 false, .gone, qaj6 g2, qaj2, .box (ApiMake.cl e_3) 39 false, .gone, rowI 23 (lsT intT) r_2, .gone]⟩) (true, (fl_5.set k_2 (e_6, (mput (bytesOf e_4) 1 (mput (bytesOf e_4) ((mget (bytesOf e_4) D_2).getD (0 : Int)) D_2)), es_4, ck_4))) h (by kernel_rfl)
 refine En.skip ?_
 exact En.at (I := fun zz => J zz.1 zz.2) (T := fun zz => ⟨[sl 1 (I n), qaj3, qaj5, qaj12, sl 10 (B zz.1), qaj19, qaj8 g, qaj7 g, sl 57 (I x57), qaj21, sl 68 (I (r_2.length : Int)), sl 69 (I x69)], [famI encS intT zz.2 none, .box (qaj4 g) 37 false, .gone, qaj6 g2, qaj2, .box (ApiMake.cl e_3) 39 false, .gone, rowI 23 (lsT intT) r_2, .gone]⟩) (x10_3, fl_5) h (by kernel_rfl)
 rintro ⟨x10_4, fl_6⟩ h
 replace h := hJ _ _ h
 show En c ⟨[sl 1 (I n), qaj3, qaj5, qaj12, sl 10 (B x10_4), qaj19, qaj8 g, qaj7 g, sl 57 (I x57), qaj21, sl 68 (I (r_2.length : Int)), sl 69 (I x69)], [famI encS intT fl_6 none, .box (qaj4 g) 37 false, .gone, qaj6 g2, qaj2, .box (ApiMake.cl e_3) 39 false, .gone, rowI 23 (lsT intT) r_2, .gone]⟩ _
 refine En.region ?_
 refine WL.rn ht hn 2 ⟨[sl 1 (I n), qaj3, qaj5, qaj12, sl 10 (B x10_4), qaj19, qaj8 g, qaj7 g, sl 57 (I x57), qaj21, sl 68 (I (r_2.length : Int)), sl 69 (I (wr (x69 + 1)))], [famI encS intT fl_6 none, .box (qaj4 g) 37 false, .gone, qaj6 g2, qaj2, .box (ApiMake.cl e_3) 39 false, .gone, rowI 23 (lsT intT) r_2, .gone]⟩ ?_
 exact En.at (I := fun zz => Inv_5 zz.1 zz.2.1 zz.2.2 ∧ mu_5 zz.1 zz.2.1 zz.2.2 < mu_5 x10_3 x69 fl_5) (T := fun zz => ⟨[sl 1 (I n), qaj3, qaj5, qaj12, sl 10 (B zz.1), qaj19, qaj8 g, qaj7 g, sl 57 (I x57), qaj21, sl 68 (I (r_2.length : Int)), sl 69 (I zz.2.1)], [famI encS intT zz.2.2 none, .box (qaj4 g) 37 false, .gone, qaj6 g2, qaj2, .box (ApiMake.cl e_3) 39 false, .gone, rowI 23 (lsT intT) r_2]⟩) (x10_4, (wr (x69 + 1)), fl_6) h (by kernel_rfl)
 refine En.exit rfl ?_
 refine En.region ?_
 refine WL.rn ht hn 2 ⟨[sl 1 (I n), qaj3, qaj5, qaj12, sl 10 (B x10_3), qaj8 g, qaj7 g, sl 57 (I (wr (x57 + 1)))], [famI encS intT fl_5 none, .box (qaj4 g) 37 false, .gone, qaj6 g2, qaj2, .gone, .gone, .gone]⟩ ?_
 exact En.at (I := fun zz => Inv_4 zz.1 zz.2.1 zz.2.2 ∧ mu_4 zz.1 zz.2.1 zz.2.2 < mu_4 x10_2 x57 fl_4) (T := fun zz => ⟨[sl 1 (I n), qaj3, qaj5, qaj12, sl 10 (B zz.1), qaj8 g, qaj7 g, sl 57 (I zz.2.1)], [famI encS intT zz.2.2 none, .box (qaj4 g) 37 false, .gone, qaj6 g2, qaj2]⟩) (x10_3, (wr (x57 + 1)), fl_5) h (by kernel_rfl)
 refine En.exit rfl ?_
 exact En.at (I := fun zz => Inv_3 zz.1 zz.2 ∧ mu_3 zz.1 zz.2 < mu_3 x10 fl_3) (T := fun zz => ⟨[sl 1 (I n), qaj3, qaj5, qaj12, sl 10 (B zz.1)], [famI encS intT zz.2 none, .box (qaj4 g) 37 false, .gone, qaj6 g2, qaj2]⟩) (x10_2, fl_4) h (by kernel_rfl)
 refine En.exit rfl ?_
 refine En.sr ?_
 refine WL.r ht hn 1 ⟨[sl 1 (I n), sl 94 (LS (lsT valT) g2)], [famI encS intT fl_3 none, .gone, .gone, .gone, .gone]⟩ ?_
 obtain ⟨e_7, he_7, h⟩ := h
 refine WL.v hn (val_ix (T := (lsT valT)) (l := g2) (i := 0) ht rfl he_7) ?_
 refine WL.v hn (val_ld (s := .one (LS valT e_7)) ht rfl) ?_
 refine WL.r ht hn 1 ⟨[sl 96 (LS valT e_7), sl 97 (I n)], [famI encS intT fl_3 none, .gone, .gone, .gone, .gone]⟩ ?_
 obtain ⟨e_8, he_8, h⟩ := h
 refine WL.v hn (val_ix (T := valT) (l := e_7) (i := n) ht rfl he_8) ?_
 refine WL.v hn (val_ld (s := .one (.v e_8)) ht rfl) ?_
 obtain ⟨k_3, D_3, es_5, ck_5, hk_3, h⟩ := h
 refine WL.famTake 99 0 5 k_3 (by rfl) (by rfl) (by rfl) hk_3 (by rfl) ?_
 refine WL.v hn (val_lenM (enc := encS) (T := intT) (D := D_3) rfl Try.underlying79 (by rfl) (by rfl) (mapXAs _ _ _ _ _)) ?_
 refine WL.rn ht hn 2 ⟨[sl 4 (I (D_3.length : Int)), sl 5 (I 0), sl 99 (.pown 5 e_8)], [famI encS intT fl_3 (some k_3), .gone, .gone, .gone, .gone, mapX encS intT D_3 es_5 ck_5]⟩ ?_
 exact En.rb ht ((D_3.length : Int), 0) h
theorem en17 : ∀ args w, (callFunc 17 args).run Try.prog w = .ok (.enter 17 args) w := enters_of Try.func17 (by kernel_rfl) rfl
def MnyQ (g : ApiGrammar) (n : Int) (r : Int × Int) : Prop := grmErr g = 0 → 0 ≤ n ∧ n ≤ 5 → r.2 = 0 ∧ ManQ g n r.1
structure PsI (g : ApiGrammar) (n : Int) (W : Nat) (SS : List (List Value)) (fl0 : FList) (b : Bool) (fl : FList) : Prop where
 sets : SetsOk g W SS fl
 le : muS fl ≤ muS fl0
 lt : b = true → muS fl < muS fl0
 same : b = false → fl = fl0
theorem gMan_ct (g : ApiGrammar) (n : Int)  : Ct 17 [.sv (.agg [I g.fLetters, I g.fNames, LS ApiMake.ty g.fMakes]), .sv (.one (I n))] [] (MnyQ g n) (fun (r : (Int × Int)) => .tup [.one (I r.1), .one (I r.2)]) := by
 refine gMan_walk g n (MnyQ g n) ?_
 unfold gMan_vc
 intro _
 refine ⟨fun h e => absurd e (bne_iff_ne.1 h), fun h => ⟨fun h2 _ h3 => ?_, fun h2 => ?_⟩⟩
 ·rw [Bool.or_eq_true, decide_eq_true_eq, decide_eq_true_eq] at h2
  omega
 have hg := grmErr_ok (by simpa using h)
 have hgl := hg.lets
 have hgn := hg.names
 rw [Bool.or_eq_false_iff, decide_eq_false_iff_not, decide_eq_false_iff_not] at h2
 have hw : wr (n + 1) = n + 1 := wr_in (by omega) (by omega)
 rw [hw]
 obtain ⟨N, hN⟩ : ∃ N : Nat, N = g.fNames.toNat := ⟨_, rfl⟩
 obtain ⟨W, hW⟩ : ∃ W : Nat, W = (n + 1).toNat := ⟨_, rfl⟩
 rw [← hN]
 refine ⟨⟨by omega, by omega, by omega⟩, fun x fl SS => ∃ a : Nat, x = a ∧ a ≤ N ∧ Crt N W a 0 fl SS, fun x _ _ => N - x.toNat, ⟨0, rfl, Nat.zero_le _, Crt.start⟩, ?_⟩
 rintro x fl SS ⟨a, rfl, ha, hC⟩
 refine ⟨fun hb => ?_, fun hb => ?_⟩
 ·have hlt := dlt hb
  rw [List.length_replicate] at hlt
  refine ⟨fun y f S => ∃ j : Nat, y = j ∧ j ≤ W ∧ Crt N W a j f S, fun y _ _ => W - y.toNat, ⟨0, rfl, Nat.zero_le _, hC⟩, ?_⟩
  rintro y f S ⟨j, rfl, hj, hC2⟩
  refine ⟨fun hb2 => ?_, fun hb2 => ?_⟩
  ·have hb2 := of_decide_eq_true hb2
   have hl : a < S.length := by rw [hC2.len]; exact hlt
   have hel : (S[a]).length = j := by
    have := hC2.full a _ (List.getElem?_eq_getElem hl)
    rw [if_neg (Nat.lt_irrefl a), if_pos rfl] at this
    exact this
   refine ⟨_, idx_at hl, fun es ck r hr => ⟨capOk_of (by simp only [List.length_cons, List.length_nil]; omega), _, idx_at hl, ⟨j + 1, wsucc (by omega), by omega, ?_⟩, mu_up (by omega) (by omega)⟩⟩
   rw [Int.toNat_natCast]
   exact hC2.push (List.getElem?_eq_getElem hl) hr es ck
  ·have hb2 := of_decide_eq_false hb2
   obtain rfl : j = W := by omega
   exact ⟨⟨a + 1, wsucc (by omega), hlt, hC2.next⟩, mu_up hlt (by omega)⟩
 have hge := dge hb
 rw [List.length_replicate] at hge
 obtain rfl : a = N := by omega
 have hS0 : SetsOk g W SS fl := hC.done (by omega)
 clear hC hb hge
 refine ⟨fun b f => SetsOk g W SS f ∧ (b = false → ∀ m ∈ g.fMakes, ClosedM g SS f n m), fun b f => 2 * muS f + (if b = true then 1 else 0), ⟨hS0, fun e => (by cases e)⟩, ?_⟩
 rintro b fl1 ⟨hS1, hC1⟩
 refine ⟨fun hb => ?_, fun hb => ?_⟩
 rotate_left
 ·subst hb
  obtain ⟨row, r, D, es, ck, e1, e2, e3, _⟩ := hS1.place (a := 0) (n := n) ⟨Int.le_refl _, by omega⟩ ⟨by omega, by omega⟩
  exact ⟨row, e1, r, e2, _, D, es, ck, e3, fun _ _ => ⟨rfl, man_of (hC1 rfl) (by omega) hS1 e1 e2 e3⟩⟩
 subst hb
 refine ⟨fun b x f => ∃ k : Nat, x = k ∧ k ≤ g.fMakes.length ∧ PsI g n W SS fl1 b f ∧ (b = false → ∀ k', k' < k → ∀ m, g.fMakes[k']? = some m → ClosedM g SS fl1 n m), fun _ x _ => g.fMakes.length - x.toNat, ⟨0, rfl, Nat.zero_le _, ⟨hS1, Nat.le_refl _, fun e => (by cases e), fun _ => rfl⟩, fun _ k' hk' => absurd hk' (Nat.not_lt_zero _)⟩, ?_⟩
 rintro b2 x fl2 ⟨k, rfl, hk, hP2, hC2⟩
 have hm20 := hg.makes
 refine ⟨fun hb => ?_, fun hb => ?_⟩
 rotate_left
 ·obtain rfl : k = g.fMakes.length := by have := dge hb; omega
  refine ⟨⟨hP2.sets, fun e m hm => ?_⟩, ?_⟩
  ·obtain ⟨q, hq, rfl⟩ := List.mem_iff_getElem.1 hm
   rw [hP2.same e]
   exact hC2 e q hq _ (List.getElem?_eq_getElem hq)
  ·have h1 := hP2.le
   show 2 * muS fl2 + (if b2 = true then 1 else 0) < 2 * muS fl1 + (if true = true then 1 else 0)
   by_cases e : b2 = true
   ·have := hP2.lt e
    rw [if_pos e, if_pos rfl]
    omega
   ·rw [if_neg e, if_pos rfl]
    omega
 have hlt := dlt hb
 have hm : g.fMakes[k] ∈ g.fMakes := List.getElem_mem hlt
 have hfr := hg.from_ _ hm
 have hlen := hg.len _ hm
 have hto := hg.tos _ hm
 obtain ⟨m, hme⟩ : ∃ m, m = g.fMakes[k] := ⟨_, rfl⟩
 rw [← hme] at hm hfr hlen hto
 have hroom : 10000 ^ m.fTo.length ≤ 10000 ^ 3 := Nat.pow_le_pow_right (by decide) hlen
 refine ⟨m, by rw [hme]; exact idx_at hlt, ⟨by omega, hlen, hto, hgl, hgn, by omega, ⟨W, by omega, by omega, hP2.sets⟩, by simp only [List.length_nil]; omega, by simp only [List.length_nil]; omega⟩, fun fd hfd => ?_⟩
 have hfl := hfd.len
 simp only [List.length_nil] at hfl
 refine ⟨fun b x f => ∃ t : Nat, x = t ∧ t ≤ fd.length ∧ PsI g n W SS fl1 b f ∧ (b = false → fl2 = fl1 ∧ (∀ k', k' < k → ∀ m, g.fMakes[k']? = some m → ClosedM g SS fl1 n m) ∧ ∀ t', t' < t → ∀ w, fd[t']? = some w → Has SS fl1 m.fFrom w), fun _ x _ => fd.length - x.toNat, ⟨0, rfl, Nat.zero_le _, hP2, fun e => ⟨hP2.same e, hC2 e, fun t' ht' => absurd ht' (Nat.not_lt_zero _)⟩⟩, ?_⟩
 rintro b3 x fl3 ⟨t, rfl, ht, hP3, hC3⟩
 refine ⟨fun hb3 => ?_, fun hb3 => ?_⟩
 rotate_left
 ·obtain rfl : t = fd.length := by have := dge hb3; omega
  refine ⟨⟨k + 1, wsucc (by omega), hlt, hP3, fun e k' hk' m' hm' => ?_⟩, mu_up hlt (by omega)⟩
  obtain ⟨e1, e2, e3⟩ := hC3 e
  rcases Nat.lt_succ_iff_lt_or_eq.1 hk' with h4 | rfl
  ·exact e2 k' h4 m' hm'
  ·rw [List.getElem?_eq_getElem hlt, ← hme] at hm'
   cases hm'
   intro x hx
   rw [← e1] at hx
   have := hfd.all x hx
   rw [List.nil_append] at this
   obtain ⟨q, hq, rfl⟩ := List.mem_iff_getElem.1 this
   exact e3 q hq _ (List.getElem?_eq_getElem hq)
 have hlt3 := dlt hb3
 obtain ⟨w, hwe⟩ : ∃ w, w = fd[t] := ⟨_, rfl⟩
 have hwo : ((w.length : Int) ≤ n) ∧ ∀ a ∈ w, 0 ≤ a ∧ a < g.fLetters := by
  rcases hfd.only _ (List.getElem_mem hlt3) with hv | ⟨x, hx, e⟩
  ·cases hv
  ·rw [← hwe, List.nil_append] at e
   subst e
   exact cmb_ok hP2.sets hgl.2 (by omega) hx (fun s hs => (hto s hs).1) (by omega)
 obtain ⟨hwl, hwa⟩ := hwo
 obtain ⟨row, r, D, es, ck, e1, e2, e3, e4⟩ := hP3.sets.place (a := m.fFrom) (n := (w.length : Int)) ⟨hfr.1, hfr.2⟩ ⟨by omega, by omega⟩
 rw [Int.toNat_natCast] at e3 e4
 have htx : TxtPre w := ⟨by omega, fun x hx => by have := hwa x hx; omega⟩
 refine ⟨fun b f => PsI g n W SS fl1 b f ∧ (b = false → fl2 = fl1 ∧ (∀ k', k' < k → ∀ m, g.fMakes[k']? = some m → ClosedM g SS fl1 n m) ∧ ∀ t', t' < t + 1 → ∀ w, fd[t']? = some w → Has SS fl1 m.fFrom w), ⟨w, by rw [hwe]; exact idx_at hlt3, row, e1, r, e2, htx, _, D, es, ck, e3, fun h0 => ⟨htx, _, D, es, ck, e3, fun es' ck' => ?_⟩, fun h0 => ?_⟩, ?_⟩
 ·have h0 := e4.zero.1 (by simpa using h0)
  rw [mput_put]
  obtain ⟨k1, k2⟩ := hP3.sets.word (a := m.fFrom) hgl.2 (by omega) (by omega) e3 hwa h0 es' ck'
  have k3 := hP3.le
  exact ⟨⟨k1, by omega, fun _ => by omega, fun e => (by cases e)⟩, fun e => (by cases e)⟩
 ·refine ⟨hP3, fun e => ?_⟩
  obtain ⟨f1, f2, f3⟩ := hC3 e
  refine ⟨f1, f2, fun t' ht' w' hw' => ?_⟩
  rcases Nat.lt_succ_iff_lt_or_eq.1 ht' with h4 | rfl
  ·exact f3 t' h4 w' hw'
  ·rw [List.getElem?_eq_getElem hlt3, ← hwe] at hw'
   cases hw'
   rw [← hP3.same e]
   exact has_of e1 e2 e3 e4 hgl.2 hwa fun hn => by rw [e4.zero.2 hn] at h0; simp at h0
 ·rintro b4 fl4 ⟨hP4, hC4⟩
  exact ⟨⟨t + 1, wsucc (by omega), hlt3, hP4, hC4⟩, mu_up hlt3 (by omega)⟩
def flipD (d : ApiDet) : ApiDet := ApiDet.mk d.fLetters d.fStart d.fNext (d.fMark.map fun m => 1 - m)
section
variable {g : ApiGrammar} {d : ApiDet}
theorem top_sg (hg : GrmOk g) : SgOk g [0 + g.fLetters] := fun s hs => by
 have hgl := hg.lets
 have hgn := hg.names
 rw [List.mem_singleton.1 hs]
 omega
theorem mark_flip (hg : GrmOk g) (hd : DetOk d) (hl : d.fLetters = g.fLetters) {u : List Int} (hu : SDer g [0 + g.fLetters] u) : markW (flipD d) u ≠ 0 ↔ markW d u = 0 := by
 have hq := aftI_in hd u _ (hu.inA hg hl (top_sg hg)) hd.start
 have h1 : (aftI d d.fStart u).toNat < d.fMark.length := by
  have := hd.marks
  have := hq.1
  have := hq.2
  omega
 have e1 : markW d u = d.fMark[(aftI d d.fStart u).toNat] := by
  unfold markW
  rw [List.getD_eq_getElem?_getD, List.getElem?_eq_getElem h1]
  rfl
 have e2 : markW (flipD d) u = 1 - d.fMark[(aftI d d.fStart u).toNat] := by
  show (d.fMark.map fun m => 1 - m).getD (aftI d d.fStart u).toNat 0 = _
  rw [List.getD_eq_getElem?_getD, List.getElem?_map, List.getElem?_eq_getElem h1]
  rfl
 rw [e1, e2]
 rcases hd.mark _ (List.getElem_mem h1) with h | h <;> rw [h] <;> decide
theorem aft_one (hg : GrmOk g) : ∀ (u : List Int), aftI (one1 g) 0 u = 0
 | [] => rfl
 | a :: u => by
  have h : stepI (one1 g) 0 a = 0 := by
   show (List.replicate g.fLetters.toNat (0 : Int)).getD a.toNat 0 = 0
   rw [List.getD_eq_getElem?_getD, List.getElem?_replicate]
   split <;> rfl
  show aftI (one1 g) (stepI (one1 g) 0 a) u = 0
  rw [h]
  exact aft_one hg u
theorem mark_one (hg : GrmOk g) (u : List Int) : markW (one1 g) u ≠ 0 := by
 have : markW (one1 g) u = 1 := by
  show [(1 : Int)].getD (aftI (one1 g) 0 u).toNat 0 = 1
  rw [aft_one hg]
  rfl
 rw [this]
 decide
theorem min_one (hg : GrmOk g) {d' : ApiDet} {v w : List Int} (hv : SDer g [0 + g.fLetters] v) (hw : SDer g [0 + g.fLetters] w) (h1 : valW v ≤ valW w) (h2 : valW w ≤ valW v) : v = w :=
 before_total (hv.in4 hg (top_sg hg)) (hw.in4 hg (top_sg hg)) (Nat.le_antisymm h1 h2)
theorem law_none (hg : GrmOk g) {d' : ApiDet} {w a : List Int} {one : Bool} (hs : FQ g (one1 g) w false) (ha : FQ g d' a one) : one = false := by
 cases one with
 | false => rfl
 | true =>
  obtain ⟨h1, _⟩ := ha.yes rfl
  exact absurd (hs.no rfl a h1) (mark_one hg a)
theorem law_in (hg : GrmOk g) {d' : ApiDet} {w a : List Int} {one : Bool} (hs : FQ g (one1 g) w true) (ha : FQ g d' a one) (hm : markW d' w ≠ 0) : one = true ∧ a = w := by
 obtain ⟨h1, _, _, h2⟩ := hs.yes rfl
 cases one with
 | false => exact absurd (ha.no rfl w h1) hm
 | true =>
  obtain ⟨k1, k2, _, k3⟩ := ha.yes rfl
  exact ⟨rfl, min_one hg (d' := d') k1 h1 (k3 w h1 hm) (h2 a k1 (mark_one hg a))⟩
theorem law_out {d' : ApiDet} {w a : List Int} {one : Bool} (ha : FQ g d' a one) (hm : markW d' w = 0) : (one && decide (a = w)) = false := by
 cases one with
 | false => rfl
 | true =>
  obtain ⟨_, k2, _, _⟩ := ha.yes rfl
  have : ¬ a = w := fun e => k2 (by rw [e]; exact hm)
  simp [this]
theorem law_both (hg : GrmOk g) (hd : DetOk d) (hl : d.fLetters = g.fLetters) {w a b : List Int} {one two : Bool} (hs : FQ g (one1 g) w true) (ha : FQ g d a one) (hb : FQ g (flipD d) b two) : ((one && decide (a = w)) != (two && decide (b = w))) = true := by
 obtain ⟨h1, _, _, h2⟩ := hs.yes rfl
 by_cases c : markW d w = 0
 ·rw [law_out ha c]
  obtain ⟨e1, e2⟩ := law_in hg hs hb ((mark_flip hg hd hl h1).2 c)
  rw [e1, e2]
  simp
 ·obtain ⟨e1, e2⟩ := law_in hg hs ha c
  have c2 : markW (flipD d) w = 0 := Decidable.byContradiction fun h => c ((mark_flip hg hd hl h1).1 h)
  rw [law_out hb c2, e1, e2]
  simp
end
def equalI_vc (a : List Int) (b : List Int) (Q : Bool → Prop) : Prop :=
 a.length ≤ 9223372036854775807 →
 b.length ≤ 9223372036854775807 →
 (IfP ((a.length : Int) != (b.length : Int)) (Q false) (∃ (Inv : Int → Prop) (mu : Int → Nat), Inv 0 ∧
 ∀ (x13 : Int) , Inv x13 → (IfP (decide (x13 < (a.length : Int))) (∃ e, idx a x13 = some e ∧
 ∃ e_2, idx b x13 = some e_2 ∧
 IfP (e != e_2) (Q false) ((Inv (wr (x13 + 1)) ∧ mu (wr (x13 + 1)) < mu x13))) (Q true))))
noncomputable abbrev qak0 (a : List Int) := sl 12 (I (a.length : Int))
theorem equalI_walk (a : List Int) (b : List Int) (Q : Bool → Prop) (h : equalI_vc a b Q) : Ct 36 [.sv (.one (LS intT a)), .sv (.one (LS intT b))] [] Q (fun (r : Bool) => .sv (.one (B r))) := by
 have ht := tab_ok
 refine Ct.body Try.func36 rfl rfl rfl rfl (fun c hn => ?_)
 unfold equalI_vc at h
 refine En.lenL 0 (by rfl) (fun hl => ?_)
 replace h := h hl
 clear hl
 refine En.lenL 1 (by rfl) (fun hl => ?_)
 replace h := h hl
 clear hl
 refine En.sr ?_
 refine WL.rn ht hn 1 ⟨[sl 0 (LS intT a), sl 1 (LS intT b)], []⟩ ?_
 refine En.seq ?_
 refine En.sr ?_
 refine WL.rn ht hn 5 ⟨[sl 0 (LS intT a), sl 1 (LS intT b), sl 10 (B ((a.length : Int) != (b.length : Int)))], []⟩ ?_
 refine En.ch h (fun h => ?_) (fun h => ?_)
 refine En.sr ?_
 refine WL.rn ht hn 1 ⟨[sl 4 (B false)], []⟩ ?_
 exact En.rb ht false h
 refine En.skip ?_
 refine En.seq ?_
 refine En.sr ?_
 refine WL.rn ht hn 3 ⟨[sl 0 (LS intT a), sl 1 (LS intT b), qak0 a, sl 13 (I 0)], []⟩ ?_
 refine En.block ?_
 obtain ⟨Inv, mu, h0, hI⟩ := h
 refine En.loop (σ := Int) (fun zz => Inv zz) (fun zz => mu zz) (fun zz => ⟨[sl 0 (LS intT a), sl 1 (LS intT b), qak0 a, sl 13 (I zz)], []⟩) 0 h0 (sub_ok (by kernel_rfl)) ?_
 intro x13 h
 replace h := hI _ h
 show En c ⟨[sl 0 (LS intT a), sl 1 (LS intT b), qak0 a, sl 13 (I x13)], []⟩ _
 refine En.sr ?_
 refine WL.rn ht hn 1 ⟨[sl 0 (LS intT a), sl 1 (LS intT b), qak0 a, sl 13 (I x13), sl 14 (B (decide (x13 < (a.length : Int))))], []⟩ ?_
 refine En.seq ?_
 refine En.ch h (fun h => ?_) (fun h => ?_)
 refine En.skip ?_
 refine En.seq ?_
 refine En.block ?_
 refine En.sr ?_
 refine WL.rn ht hn 2 ⟨[sl 0 (LS intT a), sl 1 (LS intT b), sl 5 (I x13), qak0 a, sl 13 (I x13)], []⟩ ?_
 refine En.seq ?_
 refine En.regionS (by kernel_rfl) (by kernel_rfl) ?_
 refine SL.run ht hn 2 ⟨[sl 0 (LS intT a), sl 1 (LS intT b), sl 5 (I x13), qak0 a, sl 13 (I x13), sl 16 (LS intT a), sl 17 (I x13)], []⟩ (by kernel_rfl) ?_
 obtain ⟨e, he, h⟩ := h
 refine SL.val hn (by rfl) (val_ix (T := intT) (l := a) (i := x13) ht rfl he) (by rfl) ?_
 refine SL.val hn (by rfl) (val_ld (s := .one (I e)) ht rfl) (by rfl) ?_
 refine SL.run ht hn 2 ⟨[sl 0 (LS intT a), sl 1 (LS intT b), sl 5 (I x13), qak0 a, sl 13 (I x13), sl 16 (LS intT a), sl 17 (I x13), sl 18 (.pe (svR (.one (I e))) 1), sl 19 (I e), sl 20 (LS intT b), sl 21 (I x13)], []⟩ (by kernel_rfl) ?_
 obtain ⟨e_2, he_2, h⟩ := h
 refine SL.val hn (by rfl) (val_ix (T := intT) (l := b) (i := x13) ht rfl he_2) (by rfl) ?_
 refine SL.val hn (by rfl) (val_ld (s := .one (I e_2)) ht rfl) (by rfl) ?_
 refine SL.run ht hn 1 ⟨[sl 0 (LS intT a), sl 1 (LS intT b), sl 5 (I x13), qak0 a, sl 13 (I x13), sl 16 (LS intT a), sl 17 (I x13), sl 18 (.pe (svR (.one (I e))) 1), sl 19 (I e), sl 20 (LS intT b), sl 21 (I x13), sl 22 (.pe (svR (.one (I e_2))) 1), sl 23 (I e_2), sl 24 (B (e != e_2))], []⟩ (by kernel_rfl) ?_
 refine SL.nil ⟨by kernel_rfl, ?_⟩
 refine En.ch h (fun h => ?_) (fun h => ?_)
 refine En.sr ?_
 refine WL.rn ht hn 1 ⟨[sl 4 (B false)], []⟩ ?_
 exact En.rb ht false h
 refine En.skip ?_
 refine En.region ?_
 refine WL.rn ht hn 2 ⟨[sl 0 (LS intT a), sl 1 (LS intT b), qak0 a, sl 13 (I (wr (x13 + 1)))], []⟩ ?_
 exact En.at (I := fun zz => Inv zz ∧ mu zz < mu x13) (T := fun zz => ⟨[sl 0 (LS intT a), sl 1 (LS intT b), qak0 a, sl 13 (I zz)], []⟩) (wr (x13 + 1)) h (by kernel_rfl)
 refine En.exit rfl ?_
 refine En.sr ?_
 refine WL.rn ht hn 1 ⟨[sl 4 (B true)], []⟩ ?_
 exact En.rb ht true h
theorem equalI_ct (a : List Int) (b : List Int)  : Ct 36 [.sv (.one (LS intT a)), .sv (.one (LS intT b))] [] (fun (_ : Unit) => True) (fun _ => .sv (.one (B (decide (a = b))))) := by
 refine (equalI_walk a b (fun res_ => res_ = (decide (a = b))) ?_).fun
 intro ha hb
 refine ⟨fun h => ?_, fun h => ?_⟩
 ·show false = decide (a = b)
  rw [eq_comm, decide_eq_false_iff_not]
  rintro rfl
  simp at h
 have hl : a.length = b.length := by have := h; simp only [bne_eq_false_iff_eq] at this; omega
 refine ⟨fun i => ∃ k : Nat, i = k ∧ k ≤ a.length ∧ a.take k = b.take k, fun i => a.length - i.toNat, ⟨0, rfl, Nat.zero_le _, by simp⟩, ?_⟩
 rintro i ⟨k, rfl, hk, ht⟩
 refine ⟨fun hb1 => ?_, fun hb1 => ?_⟩
 ·have hlt := dlt hb1
  have hlt2 : k < b.length := by omega
  refine ⟨_, idx_at hlt, _, idx_at hlt2, fun hne => ?_, fun he => ⟨⟨k + 1, wsucc (by omega), hlt, ?_⟩, mu_up hlt (by omega)⟩⟩
  ·show false = decide (a = b)
   rw [eq_comm, decide_eq_false_iff_not]
   rintro rfl
   simp at hne
  ·have he : a[k] = b[k] := by simpa using he
   rw [List.take_add_one, List.take_add_one, ht, List.getElem?_eq_getElem hlt, List.getElem?_eq_getElem hlt2, he]
 ·have hge := dge hb1
  rw [List.take_of_length_le hge, List.take_of_length_le (by omega)] at ht
  show true = decide (a = b)
  rw [ht]
  simp
def alikeW_vc (a : List Int) (b : List Int) (Q : Bool → Prop) : Prop :=
 a.length ≤ 9223372036854775807 →
 b.length ≤ 9223372036854775807 →
 (IfP ((a.length : Int) != (b.length : Int)) (Q false) (∃ (Inv : Int → Prop) (mu : Int → Nat), Inv 0 ∧
 ∀ (x5 : Int) , Inv x5 → (IfP (decide (x5 < (a.length : Int))) (∃ e, idx a x5 = some e ∧
 ∃ e_2, idx b x5 = some e_2 ∧
 IfP (e != e_2) (Q false) ((Inv (wr (x5 + 1)) ∧ mu (wr (x5 + 1)) < mu x5))) (Q true))))
theorem alikeW_walk (a : List Int) (b : List Int) (Q : Bool → Prop) (h : alikeW_vc a b Q) : Ct 19 [.sv (.one (LS intT a)), .sv (.one (LS intT b))] [] Q (fun (r : Bool) => .sv (.one (B r))) := by
 have ht := tab_ok
 refine Ct.body Try.func19 rfl rfl rfl rfl (fun c hn => ?_)
 unfold alikeW_vc at h
 refine En.lenL 0 (by rfl) (fun hl => ?_)
 replace h := h hl
 clear hl
 refine En.lenL 1 (by rfl) (fun hl => ?_)
 replace h := h hl
 clear hl
 refine En.sr ?_
 refine WL.rn ht hn 1 ⟨[sl 0 (LS intT a), sl 1 (LS intT b)], []⟩ ?_
 refine En.seq ?_
 refine En.sr ?_
 refine WL.rn ht hn 5 ⟨[sl 0 (LS intT a), sl 1 (LS intT b), sl 10 (B ((a.length : Int) != (b.length : Int)))], []⟩ ?_
 refine En.ch h (fun h => ?_) (fun h => ?_)
 refine En.sr ?_
 refine WL.rn ht hn 1 ⟨[sl 4 (B false)], []⟩ ?_
 exact En.rb ht false h
 refine En.skip ?_
 refine En.seq ?_
 refine En.sr ?_
 refine WL.rn ht hn 1 ⟨[sl 0 (LS intT a), sl 1 (LS intT b), sl 5 (I 0)], []⟩ ?_
 refine En.block ?_
 obtain ⟨Inv, mu, h0, hI⟩ := h
 refine En.loop (σ := Int) (fun zz => Inv zz) (fun zz => mu zz) (fun zz => ⟨[sl 0 (LS intT a), sl 1 (LS intT b), sl 5 (I zz)], []⟩) 0 h0 (sub_ok (by kernel_rfl)) ?_
 intro x5 h
 replace h := hI _ h
 show En c ⟨[sl 0 (LS intT a), sl 1 (LS intT b), sl 5 (I x5)], []⟩ _
 refine En.seq ?_
 refine En.sr ?_
 refine WL.rn ht hn 4 ⟨[sl 0 (LS intT a), sl 1 (LS intT b), sl 5 (I x5), sl 14 (B (decide (x5 < (a.length : Int))))], []⟩ ?_
 refine En.ch h (fun h => ?_) (fun h => ?_)
 refine En.skip ?_
 refine En.seq ?_
 refine En.block ?_
 refine En.seq ?_
 refine En.regionS (by kernel_rfl) (by kernel_rfl) ?_
 refine SL.run ht hn 2 ⟨[sl 0 (LS intT a), sl 1 (LS intT b), sl 5 (I x5), sl 17 (LS intT a), sl 18 (I x5)], []⟩ (by kernel_rfl) ?_
 obtain ⟨e, he, h⟩ := h
 refine SL.val hn (by rfl) (val_ix (T := intT) (l := a) (i := x5) ht rfl he) (by rfl) ?_
 refine SL.val hn (by rfl) (val_ld (s := .one (I e)) ht rfl) (by rfl) ?_
 refine SL.run ht hn 2 ⟨[sl 0 (LS intT a), sl 1 (LS intT b), sl 5 (I x5), sl 17 (LS intT a), sl 18 (I x5), sl 19 (.pe (svR (.one (I e))) 1), sl 20 (I e), sl 21 (LS intT b), sl 22 (I x5)], []⟩ (by kernel_rfl) ?_
 obtain ⟨e_2, he_2, h⟩ := h
 refine SL.val hn (by rfl) (val_ix (T := intT) (l := b) (i := x5) ht rfl he_2) (by rfl) ?_
 refine SL.val hn (by rfl) (val_ld (s := .one (I e_2)) ht rfl) (by rfl) ?_
 refine SL.run ht hn 1 ⟨[sl 0 (LS intT a), sl 1 (LS intT b), sl 5 (I x5), sl 17 (LS intT a), sl 18 (I x5), sl 19 (.pe (svR (.one (I e))) 1), sl 20 (I e), sl 21 (LS intT b), sl 22 (I x5), sl 23 (.pe (svR (.one (I e_2))) 1), sl 24 (I e_2), sl 25 (B (e != e_2))], []⟩ (by kernel_rfl) ?_
 refine SL.nil ⟨by kernel_rfl, ?_⟩
 refine En.ch h (fun h => ?_) (fun h => ?_)
 refine En.sr ?_
 refine WL.rn ht hn 1 ⟨[sl 4 (B false)], []⟩ ?_
 exact En.rb ht false h
 refine En.skip ?_
 refine En.region ?_
 refine WL.rn ht hn 3 ⟨[sl 0 (LS intT a), sl 1 (LS intT b), sl 5 (I (wr (x5 + 1)))], []⟩ ?_
 exact En.at (I := fun zz => Inv zz ∧ mu zz < mu x5) (T := fun zz => ⟨[sl 0 (LS intT a), sl 1 (LS intT b), sl 5 (I zz)], []⟩) (wr (x5 + 1)) h (by kernel_rfl)
 refine En.exit rfl ?_
 refine En.sr ?_
 refine WL.rn ht hn 1 ⟨[sl 4 (B true)], []⟩ ?_
 exact En.rb ht true h
theorem en19 : ∀ args w, (callFunc 19 args).run Try.prog w = .ok (.enter 19 args) w := enters_of Try.func19 (by kernel_rfl) rfl
theorem alikeW_ct (a : List Int) (b : List Int)  : Ct 19 [.sv (.one (LS intT a)), .sv (.one (LS intT b))] [] (fun (_ : Unit) => True) (fun _ => .sv (.one (B (decide (a = b))))) := by
 refine (alikeW_walk a b (fun res_ => res_ = (decide (a = b))) ?_).fun
 intro ha hb
 refine ⟨fun h => ?_, fun h => ?_⟩
 ·show false = decide (a = b)
  rw [eq_comm, decide_eq_false_iff_not]
  rintro rfl
  simp at h
 have hl : a.length = b.length := by have := h; simp only [bne_eq_false_iff_eq] at this; omega
 refine ⟨fun i => ∃ k : Nat, i = k ∧ k ≤ a.length ∧ a.take k = b.take k, fun i => a.length - i.toNat, ⟨0, rfl, Nat.zero_le _, by simp⟩, ?_⟩
 rintro i ⟨k, rfl, hk, ht⟩
 refine ⟨fun hb1 => ?_, fun hb1 => ?_⟩
 ·have hlt := dlt hb1
  have hlt2 : k < b.length := by omega
  refine ⟨_, idx_at hlt, _, idx_at hlt2, fun hne => ?_, fun he => ⟨⟨k + 1, wsucc (by omega), hlt, ?_⟩, mu_up hlt (by omega)⟩⟩
  ·show false = decide (a = b)
   rw [eq_comm, decide_eq_false_iff_not]
   rintro rfl
   simp at hne
  ·have he : a[k] = b[k] := by simpa using he
   rw [List.take_add_one, List.take_add_one, ht, List.getElem?_eq_getElem hlt, List.getElem?_eq_getElem hlt2, he]
 ·have hge := dge hb1
  rw [List.take_of_length_le hge, List.take_of_length_le (by omega)] at ht
  show true = decide (a = b)
  rw [ht]
  simp
def gLaw_vc (g : ApiGrammar) (d : ApiDet) (Q : Bool → Prop) : Prop :=
 g.fMakes.length ≤ 9223372036854775807 →
 d.fNext.length ≤ 9223372036854775807 →
 d.fMark.length ≤ 9223372036854775807 →
 (((ApiGrammar.mk 1 1 ([(ApiMake.mk 0 ([0, 1] : List Int)), (ApiMake.mk 0 [])] : List ApiMake)) = tinyG) ∧
 IfP ((((true, (0 : Int))).2 != 0) || (!((true, (0 : Int))).1)) (Q false) (∀ r : ((List Int) × Bool × Int), (SomQ g) r →
 (IfP (r.2.2 != 0) (Q true) (∃ J : Prop, (IfP (r.2.1 && (decide ((r.1.length : Int) ≤ 12))) (∀ r_2 : ((List Int) × Bool × Int), (TelQ g r.1) r_2 →
 (IfP ((r_2.2.2 != 7) && ((r_2.2.2 != 0) || (!r_2.2.1))) (Q false) (J))) (J)) ∧
 (J → ∃ J_2 : Prop, (IfP (r.2.1 && (decide ((r.1.length : Int) ≤ 5))) (∀ r_3 : (Int × Int), (MnyQ g (r.1.length : Int)) r_3 →
 (IfP ((r_3.2 != 0) || (decide (r_3.1 < 1))) (Q false) (J_2))) (J_2)) ∧
 (J_2 → ∀ r_4 : ((List Int) × Bool × Int), (BthQ g d) r_4 →
 (IfP (r_4.2.2 != 0) (Q true) (∃ (Inv : Int → (List Int) → Prop) (mu : Int → (List Int) → Nat), Inv 0 ([] : List Int) ∧
 ∀ (x18 : Int) (l6 : List Int) , Inv x18 l6 → (IfP (decide (x18 < (d.fMark.length : Int))) (∃ e, idx d.fMark x18 = some e ∧
 capOk l6.length (([(wr (1 - e))] : List Int) : List Int).length 8 ∧
 (Inv (wr (x18 + 1)) (l6 ++ ([(wr (1 - e))] : List Int)) ∧ mu (wr (x18 + 1)) (l6 ++ ([(wr (1 - e))] : List Int)) < mu x18 l6)) (∀ r_5 : ((List Int) × Bool × Int), (BthQ g (ApiDet.mk d.fLetters d.fStart d.fNext l6)) r_5 →
 (IfP (r_5.2.2 != 0) (Q true) (IfP (!r.2.1) (Q ((!r_4.2.1) && (!r_5.2.1))) (∃ J_3 : Bool → Prop, (IfP r_4.2.1 (J_3 (decide (r_4.1 = r.1))) (J_3 false)) ∧
 (∀ (x21 : Bool), J_3 x21 → ∃ J_4 : Bool → Prop, (IfP r_5.2.1 (J_4 (decide (r_5.1 = r.1))) (J_4 false)) ∧
 (∀ (x22 : Bool), J_4 x22 → Q (x21 != x22))))))))))))))))
noncomputable abbrev qam0 (g : ApiGrammar) (d : ApiDet) := ([.box (ApiGrammar.cl g) 37 false, .box (ApiDet.cl d) 25 false, .gone, .gone, .gone] : List Item)
noncomputable abbrev qam1 := ([.gone, .gone, .gone, .gone, .gone, .gone, .gone] : List Item)
noncomputable abbrev qam2 := sl 3 (.ptr 1 0)
noncomputable abbrev qam3 := sl 2 (.ptr 0 0)
noncomputable abbrev qam4 (y0) := sl 8 (LS intT y0)
noncomputable abbrev qam5 (d : ApiDet) := (.box [I d.fLetters, I d.fStart, LS (lsT intT) d.fNext, .own 6] 25 false : Item)
noncomputable abbrev qam6 (g : ApiGrammar) := (ApiGrammar.cl g)
noncomputable abbrev qam7 := (ApiMake.mk 0 ([0, 1] : List Int))
noncomputable abbrev qam8 (y0) := sl 15 (LS intT y0)
noncomputable abbrev qam9 (g : ApiGrammar) (d : ApiDet) := ([.box (qam6 g) 37 false, .box (ApiDet.cl d) 25 false, .gone, .gone, .gone, .box [I d.fLetters, I d.fStart, LS (lsT intT) d.fNext, .v (.slice none 0 0)] 25 false] : List Item)
noncomputable abbrev qam10 := ([.gone, .gone, .gone, .gone, .gone] : List Item)
noncomputable abbrev qam11 (d : ApiDet) := (.box [I d.fLetters, I d.fStart, LS (lsT intT) d.fNext, .own 7] 25 false : Item)
set_option maxHeartbeats 2000000 in
theorem gLaw_walk (g : ApiGrammar) (d : ApiDet) (Q : Bool → Prop) (h : gLaw_vc g d Q) : Ct 4 [.sv (.agg [I g.fLetters, I g.fNames, LS ApiMake.ty g.fMakes]), .sv (.agg [I d.fLetters, I d.fStart, LS (lsT intT) d.fNext, LS intT d.fMark])] [] Q (fun (r : Bool) => .sv (.one (B r))) := by
 have ht := tab_ok
 refine Ct.body Try.func4 rfl rfl rfl rfl (fun c hn => ?_)
 unfold gLaw_vc at h
 refine En.lenA 0 2 (by rfl) (by rfl) (fun hl => ?_)
 replace h := h hl
 clear hl
 refine En.lenA 1 2 (by rfl) (by rfl) (fun hl => ?_)
 replace h := h hl
 clear hl
 refine En.lenA 1 3 (by rfl) (by rfl) (fun hl => ?_)
 replace h := h hl
 clear hl
 refine En.sr ?_
 refine WL.rn ht hn 3 ⟨[qam3, qam2], [.box (qam6 g) 37 false, .box (ApiDet.cl d) 25 false]⟩ ?_
 refine En.sr ?_
 refine WL.mt0 (K := []) (p := some (2, rowI 3 intT ([0, 1] : List Int))) hn (by rfl) (mt_lit (T := intT) ([0, 1] : List Int) (mt_bsl 2 (r := cellsOf intT ([0, 1] : List Int)) ht rfl (by rfl) (by rfl) (by rfl) (by kernel_rfl) (by rfl)) (fun _ h => by cases h) (fun _ => rfl) (fun _ => rfl) (by rfl) (Nat.le_of_ble_eq_true rfl)) (by rfl) (by rfl) (by rfl) ?_
 refine WL.r ht hn 2 ⟨[qam3, qam2, (24, .sv (.agg [I 0, .own 2])), (25, .sv (.agg [I 0, .v (.slice none 0 0)]))], [.box (qam6 g) 37 false, .box (ApiDet.cl d) 25 false, rowI 3 intT ([0, 1] : List Int)]⟩ ?_
 refine WL.seal (T := intT) (l := ([0, 1] : List Int)) (e := 3) 2 rfl ?_
 refine WL.r ht hn 0 ⟨[qam3, qam2, (24, .sv (.agg [I 0, LS intT ([0, 1] : List Int)])), (25, .sv (.agg [I 0, .v (.slice none 0 0)]))], [.box (qam6 g) 37 false, .box (ApiDet.cl d) 25 false, .gone]⟩ ?_
 refine WL.mt0 (K := []) (p := some (3, rowI 39 ApiMake.ty ([qam7, ApiMake.mk 0 []] : List ApiMake))) hn (by rfl) (mt_lit (T := ApiMake.ty) ([qam7, ApiMake.mk 0 []] : List ApiMake) (mt_nilBox (T := intT) 3 (mt_bsl 3 (r := [I 0, LS intT ([0, 1] : List Int), I 0, .v (.slice none 0 0)]) ht rfl (by rfl) (by rfl) (by rfl) (by kernel_rfl) (by rfl)) (by rfl)) (fun _ h => by cases h) (fun _ => rfl) (fun _ => rfl) (by rfl) (Nat.le_of_ble_eq_true rfl)) (by rfl) (by rfl) (by rfl) ?_
 refine WL.rn ht hn 3 ⟨[qam3, qam2, sl 5 (.ptr 4 0)], [.box (qam6 g) 37 false, .box (ApiDet.cl d) 25 false, .gone, rowI 39 ApiMake.ty ([qam7, ApiMake.mk 0 []] : List ApiMake), .box [I 1, I 1, .own 3] 37 false]⟩ ?_
 refine En.sr ?_
 refine WL.r ht hn 1 ⟨[qam3, qam2, (29, .sv (.agg [I 1, I 1, .own 3]))], [.box (qam6 g) 37 false, .box (ApiDet.cl d) 25 false, .gone, rowI 39 ApiMake.ty ([qam7, ApiMake.mk 0 []] : List ApiMake), .gone]⟩ ?_
 obtain ⟨hp, h⟩ := h
 refine WL.m0 hn (mt_lend (T := ApiMake.ty) (l := ([qam7, ApiMake.mk 0 []] : List ApiMake)) 3 (by rfl) (by rfl) (mt_c (gLes_ct (ApiGrammar.mk 1 1 ([qam7, ApiMake.mk 0 []] : List ApiMake)) hp) en14 rfl)) ?_
 refine WL.rn ht hn 5 ⟨[qam3, qam2, sl 6 (B (true, (0 : Int)).1), sl 7 (I (true, (0 : Int)).2)], (qam0 g d)⟩ ?_
 refine En.seq ?_
 refine En.sr ?_
 refine WL.r ht hn 3 ⟨[qam3, qam2, sl 6 (B (true, (0 : Int)).1), sl 35 (B ((true, (0 : Int)).2 != 0))], (qam0 g d)⟩ ?_
 refine WL.thru ⟨[qam3, qam2, sl 38 (B (((true, (0 : Int)).2 != 0) || (!(true, (0 : Int)).1)))], (qam0 g d)⟩ ?_ ?_
 refine splitB ((true, (0 : Int)).2 != 0) (fun hb0 => ?_) (fun hb0 => ?_)
 refine WL.sB 35 hb0 ?_
 refine WL.r ht hn 3 ⟨[qam3, qam2, sl 38 (B true)], (qam0 g d)⟩ ?_
 exact WL.nil (sub_ok (by simp only [hb0]; kernel_rfl))
 refine WL.sB 35 hb0 ?_
 refine WL.r ht hn 3 ⟨[qam3, qam2, sl 38 (B (!(true, (0 : Int)).1))], (qam0 g d)⟩ ?_
 exact WL.nil (sub_ok (by simp only [hb0]; kernel_rfl))
 refine En.ch h (fun h => ?_) (fun h => ?_)
 refine En.sr ?_
 refine WL.rn ht hn 1 ⟨[sl 4 (B false)], qam10⟩ ?_
 exact En.rb ht false h
 refine En.skip ?_
 refine En.sr ?_
 refine WL.r ht hn 1 ⟨[qam3, qam2, (40, .sv (.agg (qam6 g)))], (qam0 g d)⟩ ?_
 refine WL.mtQ (Q := SomQ g) (x := fun (r : ((List Int) × Bool × Int)) => .tup [.one (LS intT r.1), .one (B r.2.1), .one (I r.2.2)]) (p := fun _ => none) hn (by rfl) (mtq_call (gSom_ct g) en15 (caps := []) [] rfl (by rfl) (by kernel_rfl) (by kernel_rfl) (by rfl) (fun _ => rfl) (by rfl)) (fun r hr_2 => ⟨by rfl, _, by rfl, ?_⟩)
 replace h := h r hr_2
 refine WL.rn ht hn 7 ⟨[qam3, qam2, sl 7 (I r.2.2), qam4 r.1, sl 9 (B r.2.1)], (qam0 g d)⟩ ?_
 refine En.seq ?_
 refine En.sr ?_
 refine WL.rn ht hn 2 ⟨[qam3, qam2, qam4 r.1, sl 9 (B r.2.1), sl 46 (B (r.2.2 != 0))], (qam0 g d)⟩ ?_
 refine En.ch h (fun h => ?_) (fun h => ?_)
 refine En.sr ?_
 refine WL.rn ht hn 1 ⟨[sl 4 (B true)], qam10⟩ ?_
 exact En.rb ht true h
 refine En.skip ?_
 obtain ⟨J, h, hJ⟩ := h
 refine En.seqJ (σ := Unit) (fun _ => J) (fun _ => ⟨[qam3, qam2, qam4 r.1, sl 9 (B r.2.1)], (qam0 g d)⟩) ?_ ?_
 refine En.sr ?_
 refine WL.r ht hn 2 ⟨[qam3, qam2, qam4 r.1, sl 9 (B r.2.1), sl 48 (B r.2.1)], (qam0 g d)⟩ ?_
 refine WL.thru ⟨[qam3, qam2, qam4 r.1, sl 9 (B r.2.1), sl 52 (B (r.2.1 && (decide ((r.1.length : Int) ≤ 12))))], (qam0 g d)⟩ ?_ ?_
 refine splitB r.2.1 (fun hb0 => ?_) (fun hb0 => ?_)
 refine WL.sB 48 hb0 ?_
 refine WL.r ht hn 4 ⟨[qam3, qam2, qam4 r.1, sl 9 (B r.2.1), sl 52 (B (decide ((r.1.length : Int) ≤ 12)))], (qam0 g d)⟩ ?_
 exact WL.nil (sub_ok (by simp only [hb0]; kernel_rfl))
 refine WL.sB 48 hb0 ?_
 refine WL.r ht hn 4 ⟨[qam3, qam2, qam4 r.1, sl 9 (B r.2.1), sl 52 (B false)], (qam0 g d)⟩ ?_
 exact WL.nil (sub_ok (by simp only [hb0]; kernel_rfl))
 refine En.ch h (fun h => ?_) (fun h => ?_)
 refine En.sr ?_
 refine WL.r ht hn 2 ⟨[qam3, qam2, qam4 r.1, sl 9 (B r.2.1), (54, .sv (.agg (qam6 g))), sl 55 (LS intT r.1)], (qam0 g d)⟩ ?_
 refine WL.mtQ (Q := TelQ g r.1) (x := fun (r : ((List Int) × Bool × Int)) => .tup [.one (LS intT r.1), .one (B r.2.1), .one (I r.2.2)]) (p := fun _ => none) hn (by rfl) (mtq_call (cTel_ct g r.1) en16 (caps := []) [] rfl (by rfl) (by kernel_rfl) (by kernel_rfl) (by rfl) (fun _ => rfl) (by rfl)) (fun r_2 hr_2_2 => ⟨by rfl, _, by rfl, ?_⟩)
 replace h := h r_2 hr_2_2
 refine WL.rn ht hn 7 ⟨[qam3, qam2, qam4 r.1, sl 9 (B r.2.1), sl 11 (B r_2.2.1), sl 12 (I r_2.2.2)], (qam0 g d)⟩ ?_
 refine En.sr ?_
 refine WL.r ht hn 3 ⟨[qam3, qam2, qam4 r.1, sl 9 (B r.2.1), sl 11 (B r_2.2.1), sl 12 (I r_2.2.2), sl 62 (B (r_2.2.2 != 7))], (qam0 g d)⟩ ?_
 refine WL.thru ⟨[qam3, qam2, qam4 r.1, sl 9 (B r.2.1), sl 69 (B ((r_2.2.2 != 7) && ((r_2.2.2 != 0) || (!r_2.2.1))))], (qam0 g d)⟩ ?_ ?_
 refine splitB (r_2.2.2 != 7) (fun hb0 => ?_) (fun hb0 => ?_)
 refine WL.sB 62 hb0 ?_
 refine WL.r ht hn 3 ⟨[qam3, qam2, qam4 r.1, sl 9 (B r.2.1), sl 11 (B r_2.2.1), sl 62 (B true), sl 65 (B (r_2.2.2 != 0))], (qam0 g d)⟩ ?_
 refine splitB (r_2.2.2 != 0) (fun hb1 => ?_) (fun hb1 => ?_)
 refine WL.sB 65 hb1 ?_
 refine WL.r ht hn 4 ⟨[qam3, qam2, qam4 r.1, sl 9 (B r.2.1), sl 69 (B true)], (qam0 g d)⟩ ?_
 exact WL.nil (sub_ok (by simp only [hb0, hb1]; kernel_rfl))
 refine WL.sB 65 hb1 ?_
 refine WL.r ht hn 4 ⟨[qam3, qam2, qam4 r.1, sl 9 (B r.2.1), sl 69 (B (!r_2.2.1))], (qam0 g d)⟩ ?_
 exact WL.nil (sub_ok (by simp only [hb0, hb1]; kernel_rfl))
 refine WL.sB 62 hb0 ?_
 refine WL.r ht hn 7 ⟨[qam3, qam2, qam4 r.1, sl 9 (B r.2.1), sl 69 (B false)], (qam0 g d)⟩ ?_
 exact WL.nil (sub_ok (by simp only [hb0]; kernel_rfl))
 refine En.ch h (fun h => ?_) (fun h => ?_)
 refine En.sr ?_
 refine WL.rn ht hn 1 ⟨[sl 4 (B false)], qam10⟩ ?_
 exact En.rb ht false h
 refine En.skip ?_
 exact En.at (I := fun _ => J) (T := fun _ => ⟨[qam3, qam2, qam4 r.1, sl 9 (B r.2.1)], (qam0 g d)⟩) () h (by kernel_rfl)
 refine En.skip ?_
 exact En.at (I := fun _ => J) (T := fun _ => ⟨[qam3, qam2, qam4 r.1, sl 9 (B r.2.1)], (qam0 g d)⟩) () h (by kernel_rfl)
 intro _ h
 replace h := hJ h
 show En c ⟨[qam3, qam2, qam4 r.1, sl 9 (B r.2.1)], (qam0 g d)⟩ _
 obtain ⟨J_2, h, hJ_2⟩ := h
 refine En.seqJ (σ := Unit) (fun _ => J_2) (fun _ => ⟨[qam3, qam2, qam4 r.1, sl 9 (B r.2.1)], (qam0 g d)⟩) ?_ ?_
 refine En.sr ?_
 refine WL.r ht hn 2 ⟨[qam3, qam2, qam4 r.1, sl 9 (B r.2.1), sl 71 (B r.2.1)], (qam0 g d)⟩ ?_
 refine WL.thru ⟨[qam3, qam2, qam4 r.1, sl 9 (B r.2.1), sl 75 (B (r.2.1 && (decide ((r.1.length : Int) ≤ 5))))], (qam0 g d)⟩ ?_ ?_
 refine splitB r.2.1 (fun hb0 => ?_) (fun hb0 => ?_)
 refine WL.sB 71 hb0 ?_
 refine WL.r ht hn 4 ⟨[qam3, qam2, qam4 r.1, sl 9 (B r.2.1), sl 75 (B (decide ((r.1.length : Int) ≤ 5)))], (qam0 g d)⟩ ?_
 exact WL.nil (sub_ok (by simp only [hb0]; kernel_rfl))
 refine WL.sB 71 hb0 ?_
 refine WL.r ht hn 4 ⟨[qam3, qam2, qam4 r.1, sl 9 (B r.2.1), sl 75 (B false)], (qam0 g d)⟩ ?_
 exact WL.nil (sub_ok (by simp only [hb0]; kernel_rfl))
 refine En.ch h (fun h => ?_) (fun h => ?_)
 refine En.sr ?_
 refine WL.r ht hn 3 ⟨[qam3, qam2, qam4 r.1, sl 9 (B r.2.1), (77, .sv (.agg (qam6 g))), sl 79 (I (r.1.length : Int))], (qam0 g d)⟩ ?_
 refine WL.mtQ (Q := MnyQ g (r.1.length : Int)) (x := fun (r : (Int × Int)) => .tup [.one (I r.1), .one (I r.2)]) (p := fun _ => none) hn (by rfl) (mtq_call (gMan_ct g (r.1.length : Int)) en17 (caps := []) [] rfl (by rfl) (by kernel_rfl) (by kernel_rfl) (by rfl) (fun _ => rfl) (by rfl)) (fun r_3 hr_3 => ⟨by rfl, _, by rfl, ?_⟩)
 replace h := h r_3 hr_3
 refine WL.rn ht hn 5 ⟨[qam3, qam2, qam4 r.1, sl 9 (B r.2.1), sl 13 (I r_3.1), sl 14 (I r_3.2)], (qam0 g d)⟩ ?_
 refine En.sr ?_
 refine WL.r ht hn 3 ⟨[qam3, qam2, qam4 r.1, sl 9 (B r.2.1), sl 13 (I r_3.1), sl 85 (B (r_3.2 != 0))], (qam0 g d)⟩ ?_
 refine WL.thru ⟨[qam3, qam2, qam4 r.1, sl 9 (B r.2.1), sl 88 (B ((r_3.2 != 0) || (decide (r_3.1 < 1))))], (qam0 g d)⟩ ?_ ?_
 refine splitB (r_3.2 != 0) (fun hb0 => ?_) (fun hb0 => ?_)
 refine WL.sB 85 hb0 ?_
 refine WL.r ht hn 3 ⟨[qam3, qam2, qam4 r.1, sl 9 (B r.2.1), sl 88 (B true)], (qam0 g d)⟩ ?_
 exact WL.nil (sub_ok (by simp only [hb0]; kernel_rfl))
 refine WL.sB 85 hb0 ?_
 refine WL.r ht hn 3 ⟨[qam3, qam2, qam4 r.1, sl 9 (B r.2.1), sl 88 (B (decide (r_3.1 < 1)))], (qam0 g d)⟩ ?_
 exact WL.nil (sub_ok (by simp only [hb0]; kernel_rfl))
 refine En.ch h (fun h => ?_) (fun h => ?_)
 refine En.sr ?_
 refine WL.rn ht hn 1 ⟨[sl 4 (B false)], qam10⟩ ?_
 exact En.rb ht false h
 refine En.skip ?_
 exact En.at (I := fun _ => J_2) (T := fun _ => ⟨[qam3, qam2, qam4 r.1, sl 9 (B r.2.1)], (qam0 g d)⟩) () h (by kernel_rfl)
 refine En.skip ?_
 exact En.at (I := fun _ => J_2) (T := fun _ => ⟨[qam3, qam2, qam4 r.1, sl 9 (B r.2.1)], (qam0 g d)⟩) () h (by kernel_rfl)
 intro _ h
 replace h := hJ_2 h
 show En c ⟨[qam3, qam2, qam4 r.1, sl 9 (B r.2.1)], (qam0 g d)⟩ _
 refine En.sr ?_
 refine WL.r ht hn 2 ⟨[qam3, qam2, qam4 r.1, sl 9 (B r.2.1), (90, .sv (.agg (qam6 g))), (91, .sv (.agg (ApiDet.cl d)))], (qam0 g d)⟩ ?_
 refine WL.mtQ (Q := BthQ g d) (x := fun (r : ((List Int) × Bool × Int)) => .tup [.one (LS intT r.1), .one (B r.2.1), .one (I r.2.2)]) (p := fun _ => none) hn (by rfl) (mtq_call (gBth_ct g d) en18 (caps := []) [] rfl (by rfl) (by kernel_rfl) (by kernel_rfl) (by rfl) (fun _ => rfl) (by rfl)) (fun r_4 hr_4 => ⟨by rfl, _, by rfl, ?_⟩)
 replace h := h r_4 hr_4
 refine WL.rn ht hn 7 ⟨[qam3, qam2, sl 7 (I r_4.2.2), qam4 r.1, sl 9 (B r.2.1), qam8 r_4.1, sl 16 (B r_4.2.1)], (qam0 g d)⟩ ?_
 refine En.seq ?_
 refine En.sr ?_
 refine WL.rn ht hn 2 ⟨[qam3, qam2, qam4 r.1, sl 9 (B r.2.1), qam8 r_4.1, sl 16 (B r_4.2.1), sl 97 (B (r_4.2.2 != 0))], (qam0 g d)⟩ ?_
 refine En.ch h (fun h => ?_) (fun h => ?_)
 refine En.sr ?_
 refine WL.rn ht hn 1 ⟨[sl 4 (B true)], qam10⟩ ?_
 exact En.rb ht true h
 refine En.skip ?_
 refine En.sr ?_
 refine WL.rn ht hn 3 ⟨[qam3, qam2, qam4 r.1, sl 9 (B r.2.1), qam8 r_4.1, sl 16 (B r_4.2.1), sl 17 (.ptr 5 0)], [.box (qam6 g) 37 false, .box (ApiDet.cl d) 25 false, .gone, .gone, .gone, .box (ApiDet.cl d) 25 false]⟩ ?_
 refine En.sr ?_
 refine WL.rn ht hn 2 ⟨[qam3, qam2, qam4 r.1, sl 9 (B r.2.1), qam8 r_4.1, sl 16 (B r_4.2.1), sl 17 (.ptr 5 0)], (qam9 g d)⟩ ?_
 refine En.seq ?_
 refine En.sr ?_
 refine WL.rn ht hn 1 ⟨[qam3, qam2, qam4 r.1, sl 9 (B r.2.1), qam8 r_4.1, sl 16 (B r_4.2.1), sl 17 (.ptr 5 0), sl 18 (I 0)], (qam9 g d)⟩ ?_
 refine En.block ?_
 refine En.nilBoxO (T := intT) 5 3 6 3 (by rfl) (by rfl) (by rfl) (by rfl) ?_
 obtain ⟨Inv, mu, h0, hI⟩ := h
 refine En.loop (σ := Int × (List Int)) (fun zz => Inv zz.1 zz.2) (fun zz => mu zz.1 zz.2) (fun zz => ⟨[qam3, qam2, qam4 r.1, sl 9 (B r.2.1), qam8 r_4.1, sl 16 (B r_4.2.1), sl 17 (.ptr 5 0), sl 18 (I zz.1)], [.box (qam6 g) 37 false, .box (ApiDet.cl d) 25 false, .gone, .gone, .gone, qam5 d, rowI 3 intT zz.2]⟩) (0, ([] : List Int)) h0 (sub_ok (by kernel_rfl)) ?_
 rintro ⟨x18, l6⟩ h
 replace h := hI _ _ h
 show En c ⟨[qam3, qam2, qam4 r.1, sl 9 (B r.2.1), qam8 r_4.1, sl 16 (B r_4.2.1), sl 17 (.ptr 5 0), sl 18 (I x18)], [.box (qam6 g) 37 false, .box (ApiDet.cl d) 25 false, .gone, .gone, .gone, qam5 d, rowI 3 intT l6]⟩ _
 refine En.seq ?_
 refine En.sr ?_
 refine WL.rn ht hn 5 ⟨[qam3, qam2, qam4 r.1, sl 9 (B r.2.1), qam8 r_4.1, sl 16 (B r_4.2.1), sl 17 (.ptr 5 0), sl 18 (I x18), sl 104 (B (decide (x18 < (d.fMark.length : Int))))], [.box (qam6 g) 37 false, .box (ApiDet.cl d) 25 false, .gone, .gone, .gone, qam5 d, rowI 3 intT l6]⟩ ?_
 refine En.ch h (fun h => ?_) (fun h => ?_)
 refine En.skip ?_
 refine En.seq ?_
 refine En.block ?_
 obtain ⟨e, he, h⟩ := h
 obtain ⟨hp_2, h⟩ := h
 refine En.regionA ⟨[qam3, qam2, qam4 r.1, sl 9 (B r.2.1), qam8 r_4.1, sl 16 (B r_4.2.1), sl 17 (.ptr 5 0), sl 18 (I x18)], [.sv (.one (.ptr 5 3)), .sv (.one (.own 6)), .sv (.one (.ptr 1 3)), .sv (.one (LS intT d.fMark)), .sv (.one (I x18)), .sv (.one (.pe (svR (.one (I e))) 1)), .sv (.one (I e)), .sv (.one (I (wr (1 - e)))), .sv (.one (LS intT ([wr (1 - e)] : List Int))), .sv (.one (.own 7)), .sv (.one (.ptr 5 3)), .tup []], [⟨.box (qam6 g) 37 false, none, none, none⟩, ⟨.box (ApiDet.cl d) 25 false, none, none, none⟩, ⟨.gone, none, none, none⟩, ⟨.gone, none, none, none⟩, ⟨.gone, none, none, none⟩, ⟨(qam5 d), none, none, some (11, (qam11 d))⟩, ⟨rowI 3 intT l6, none, some 9, none⟩, ⟨rowI 3 intT (l6 ++ ([wr (1 - e)] : List Int)), some 9, none, none⟩]⟩ ⟨[qam3, qam2, qam4 r.1, sl 9 (B r.2.1), qam8 r_4.1, sl 16 (B r_4.2.1), sl 17 (.ptr 5 0), sl 18 (I x18)], [.box (qam6 g) 37 false, .box (ApiDet.cl d) 25 false, .gone, .gone, .gone, qam11 d, .gone, rowI 3 intT (l6 ++ ([wr (1 - e)] : List Int))]⟩ (by kernel_rfl) hn (by kernel_rfl) (by rfl) (by kernel_rfl) ?_ (by kernel_rfl) ?_
 exact ⟨.ev ⟨[sl 17 (.ptr 5 0)], []⟩ ht,
 .ev ⟨[sl 107 (.ptr 5 3)], [.gone, .gone, .gone, .gone, .gone, qam5 d]⟩ ht,
 .ev ⟨[qam2], []⟩ ht,
 .ev ⟨[sl 109 (.ptr 1 3)], [.gone, .box (ApiDet.cl d) 25 false]⟩ ht,
 .ev ⟨[sl 18 (I x18)], []⟩ ht,
 .vl ⟨[sl 110 (LS intT d.fMark), sl 111 (I x18)], []⟩ (mt_val (val_ix (T := intT) (l := d.fMark) (i := x18) ht rfl he)),
 .vl ⟨[sl 112 (.pe (svR (.one (I e))) 1)], []⟩ (mt_val (val_ld (s := .one (I e)) ht rfl)),
 .ev ⟨[sl 113 (I e)], []⟩ ht,
 .mt ⟨[sl 114 (I (wr (1 - e)))], []⟩ [] none (by kernel_rfl) (by rfl) (mt_seal (q := 7) (e := 3) (mt_lit (T := intT) ([wr (1 - e)] : List Int) (mt_bsl 7 (r := cellsOf intT ([wr (1 - e)] : List Int)) ht rfl (by rfl) (by rfl) (by rfl) (by kernel_rfl) (by rfl)) (fun _ h => by cases h) (fun _ => rfl) (fun _ => rfl) (by rfl) (Nat.le_of_ble_eq_true rfl))) rfl rfl rfl rfl,
 .mt ⟨[sl 108 (.own 6), sl 115 (LS intT ([wr (1 - e)] : List Int))], [.gone, .gone, .gone, .gone, .gone, .gone, rowI 3 intT l6]⟩ [6] (some 7) (by kernel_rfl) (by rfl) (mt_append (T := intT) (l := l6) (es := ([wr (1 - e)] : List Int)) (p := 7) ht rfl (by rfl) (by rfl) (by rfl) (by rfl) (by decide) (by rfl) (by rfl) (srcLS (T := intT) (es := ([wr (1 - e)] : List Int)) (fun _ h => by cases h) (by decide) (by rfl)) (by exact hp_2) (by exact hp_2.le (by decide))) rfl rfl rfl rfl,
 .ev ⟨[sl 17 (.ptr 5 0)], []⟩ ht,
 .mu ⟨[sl 116 (.own 7), sl 117 (.ptr 5 3)], [.gone, .gone, .gone, .gone, .gone, qam5 d]⟩ 5 _ _ rfl rfl (by kernel_rfl) (by rfl) (mu_store2 ht rfl (by rfl) (by rfl) (by rfl) (by rfl) (fun h => by cases h) (by rfl) (by rfl)) rfl rfl rfl rfl rfl rfl rfl,
 trivial⟩
 refine En.region ?_
 refine WL.rn ht hn 3 ⟨[qam3, qam2, qam4 r.1, sl 9 (B r.2.1), qam8 r_4.1, sl 16 (B r_4.2.1), sl 17 (.ptr 5 0), sl 18 (I (wr (x18 + 1)))], [.box (qam6 g) 37 false, .box (ApiDet.cl d) 25 false, .gone, .gone, .gone, qam11 d, .gone, rowI 3 intT (l6 ++ ([wr (1 - e)] : List Int))]⟩ ?_
 refine En.move 7 6 (by rfl) (by rfl) ?_
 exact En.at (I := fun zz => Inv zz.1 zz.2 ∧ mu zz.1 zz.2 < mu x18 l6) (T := fun zz => ⟨[qam3, qam2, qam4 r.1, sl 9 (B r.2.1), qam8 r_4.1, sl 16 (B r_4.2.1), sl 17 (.ptr 5 0), sl 18 (I zz.1)], [.box (qam6 g) 37 false, .box (ApiDet.cl d) 25 false, .gone, .gone, .gone, qam5 d, rowI 3 intT zz.2]⟩) ((wr (x18 + 1)), (l6 ++ ([wr (1 - e)] : List Int))) h (by kernel_rfl)
 refine En.exit rfl ?_
 refine En.sr ?_
 refine WL.r ht hn 2 ⟨[qam4 r.1, sl 9 (B r.2.1), qam8 r_4.1, sl 16 (B r_4.2.1), (119, .sv (.agg (qam6 g))), (120, .sv (.agg [I d.fLetters, I d.fStart, LS (lsT intT) d.fNext, .own 6]))], [.gone, .gone, .gone, .gone, .gone, .gone, rowI 3 intT l6]⟩ ?_
 refine WL.seal (T := intT) (l := l6) (e := 3) 6 rfl ?_
 refine WL.r ht hn 0 ⟨[qam4 r.1, sl 9 (B r.2.1), qam8 r_4.1, sl 16 (B r_4.2.1), (119, .sv (.agg (qam6 g))), (120, .sv (.agg [I d.fLetters, I d.fStart, LS (lsT intT) d.fNext, LS intT l6]))], qam1⟩ ?_
 refine WL.mtQ (Q := BthQ g (ApiDet.mk d.fLetters d.fStart d.fNext l6)) (x := fun (r : ((List Int) × Bool × Int)) => .tup [.one (LS intT r.1), .one (B r.2.1), .one (I r.2.2)]) (p := fun _ => none) hn (by rfl) (mtq_call (gBth_ct g (ApiDet.mk d.fLetters d.fStart d.fNext l6)) en18 (caps := []) [] rfl (by rfl) (by kernel_rfl) (by kernel_rfl) (by rfl) (fun _ => rfl) (by rfl)) (fun r_5 hr_5 => ⟨by rfl, _, by rfl, ?_⟩)
 replace h := h r_5 hr_5
 refine WL.rn ht hn 7 ⟨[sl 7 (I r_5.2.2), qam4 r.1, sl 9 (B r.2.1), qam8 r_4.1, sl 16 (B r_4.2.1), sl 19 (LS intT r_5.1), sl 20 (B r_5.2.1)], qam1⟩ ?_
 refine En.seq ?_
 refine En.sr ?_
 refine WL.rn ht hn 2 ⟨[qam4 r.1, sl 9 (B r.2.1), qam8 r_4.1, sl 16 (B r_4.2.1), sl 19 (LS intT r_5.1), sl 20 (B r_5.2.1), sl 126 (B (r_5.2.2 != 0))], qam1⟩ ?_
 refine En.ch h (fun h => ?_) (fun h => ?_)
 refine En.sr ?_
 refine WL.rn ht hn 1 ⟨[sl 4 (B true)], qam1⟩ ?_
 exact En.rb ht true h
 refine En.skip ?_
 refine En.seq ?_
 refine En.sr ?_
 refine WL.rn ht hn 2 ⟨[qam4 r.1, qam8 r_4.1, sl 16 (B r_4.2.1), sl 19 (LS intT r_5.1), sl 20 (B r_5.2.1), sl 128 (B (!r.2.1))], qam1⟩ ?_
 refine En.ch h (fun h => ?_) (fun h => ?_)
 refine En.sr ?_
 refine WL.r ht hn 3 ⟨[sl 20 (B r_5.2.1), sl 131 (B (!r_4.2.1))], qam1⟩ ?_
 refine WL.thru ⟨[sl 4 (B ((!r_4.2.1) && (!r_5.2.1)))], qam1⟩ ?_ ?_
 refine splitB (!r_4.2.1) (fun hb0 => ?_) (fun hb0 => ?_)
 refine WL.sB 131 hb0 ?_
 refine WL.r ht hn 4 ⟨[sl 4 (B (!r_5.2.1))], qam1⟩ ?_
 exact WL.nil (sub_ok (by simp only [hb0]; kernel_rfl))
 refine WL.sB 131 hb0 ?_
 refine WL.r ht hn 4 ⟨[sl 4 (B false)], qam1⟩ ?_
 exact WL.nil (sub_ok (by simp only [hb0]; kernel_rfl))
 exact En.rb ht ((!r_4.2.1) && (!r_5.2.1)) h
 refine En.skip ?_
 obtain ⟨J_3, h, hJ_3⟩ := h
 refine En.seqJ (σ := Bool) (fun zz => J_3 zz) (fun zz => ⟨[qam4 r.1, sl 19 (LS intT r_5.1), sl 20 (B r_5.2.1), sl 21 (B zz)], qam1⟩) ?_ ?_
 refine En.region ?_
 refine WL.r ht hn 2 ⟨[qam4 r.1, qam8 r_4.1, sl 19 (LS intT r_5.1), sl 20 (B r_5.2.1), sl 136 (B r_4.2.1)], qam1⟩ ?_
 refine splitB r_4.2.1 (fun hb => ?_) (fun hb => ?_)
 replace h := h.1 hb
 refine WL.sB 136 hb ?_
 refine WL.r ht hn 2 ⟨[qam4 r.1, sl 19 (LS intT r_5.1), sl 20 (B r_5.2.1), sl 136 (B true), sl 137 (LS intT r_4.1), sl 138 (LS intT r.1)], qam1⟩ ?_
 refine WL.m0 hn (mt_c (alikeW_ct r_4.1 r.1) en19 rfl) ?_
 refine WL.rn ht hn 2 ⟨[qam4 r.1, sl 19 (LS intT r_5.1), sl 20 (B r_5.2.1), sl 21 (B (decide (r_4.1 = r.1)))], qam1⟩ ?_
 exact En.at (I := fun zz => J_3 zz) (T := fun zz => ⟨[qam4 r.1, sl 19 (LS intT r_5.1), sl 20 (B r_5.2.1), sl 21 (B zz)], qam1⟩) (decide (r_4.1 = r.1)) h (by kernel_rfl)
 replace h := h.2 hb
 refine WL.sB 136 hb ?_
 refine WL.rn ht hn 5 ⟨[qam4 r.1, sl 19 (LS intT r_5.1), sl 20 (B r_5.2.1), sl 21 (B false)], qam1⟩ ?_
 exact En.at (I := fun zz => J_3 zz) (T := fun zz => ⟨[qam4 r.1, sl 19 (LS intT r_5.1), sl 20 (B r_5.2.1), sl 21 (B zz)], qam1⟩) false h (by kernel_rfl)
 intro x21 h
 replace h := hJ_3 _ h
 show En c ⟨[qam4 r.1, sl 19 (LS intT r_5.1), sl 20 (B r_5.2.1), sl 21 (B x21)], qam1⟩ _
 obtain ⟨J_4, h, hJ_4⟩ := h
 refine En.seqJ (σ := Bool) (fun zz => J_4 zz) (fun zz => ⟨[sl 21 (B x21), sl 22 (B zz)], qam1⟩) ?_ ?_
 refine En.region ?_
 refine WL.r ht hn 2 ⟨[qam4 r.1, sl 19 (LS intT r_5.1), sl 21 (B x21), sl 142 (B r_5.2.1)], qam1⟩ ?_
 refine splitB r_5.2.1 (fun hb => ?_) (fun hb => ?_)
 replace h := h.1 hb
 refine WL.sB 142 hb ?_
 refine WL.r ht hn 2 ⟨[sl 21 (B x21), sl 142 (B true), sl 143 (LS intT r_5.1), sl 144 (LS intT r.1)], qam1⟩ ?_
 refine WL.m0 hn (mt_c (alikeW_ct r_5.1 r.1) en19 rfl) ?_
 refine WL.rn ht hn 2 ⟨[sl 21 (B x21), sl 22 (B (decide (r_5.1 = r.1)))], qam1⟩ ?_
 exact En.at (I := fun zz => J_4 zz) (T := fun zz => ⟨[sl 21 (B x21), sl 22 (B zz)], qam1⟩) (decide (r_5.1 = r.1)) h (by kernel_rfl)
 replace h := h.2 hb
 refine WL.sB 142 hb ?_
 refine WL.rn ht hn 5 ⟨[sl 21 (B x21), sl 22 (B false)], qam1⟩ ?_
 exact En.at (I := fun zz => J_4 zz) (T := fun zz => ⟨[sl 21 (B x21), sl 22 (B zz)], qam1⟩) false h (by kernel_rfl)
 intro x22 h
 replace h := hJ_4 _ h
 show En c ⟨[sl 21 (B x21), sl 22 (B x22)], qam1⟩ _
 refine En.sr ?_
 refine WL.r ht hn 2 ⟨[sl 147 (B x21), sl 148 (B x22)], qam1⟩ ?_
 refine WL.v hn (val_eqB (u := x21) (v := x22) rfl Try.underlying4 (by rfl) (by rfl) (.inr ⟨rfl, rfl⟩)) ?_
 refine WL.rn ht hn 1 ⟨[sl 4 (B (x21 != x22))], qam1⟩ ?_
 exact En.rb ht (x21 != x22) h
theorem gLaw_ct (g : ApiGrammar) (d : ApiDet)  : Ct 4 [.sv (.agg [I g.fLetters, I g.fNames, LS ApiMake.ty g.fMakes]), .sv (.agg [I d.fLetters, I d.fStart, LS (lsT intT) d.fNext, LS intT d.fMark])] [] (fun (_ : Unit) => True) (fun _ => .sv (.one (B (true)))) := by
 refine (gLaw_walk g d (fun res_ => res_ = (true)) ?_).fun
 unfold gLaw_vc
 intro _ _ hml
 refine ⟨rfl, fun h => absurd h (by decide), fun _ r hr => ⟨fun _ => rfl, fun h0 => ?_⟩⟩
 obtain ⟨hge, hg, hF⟩ := hr (by simpa using h0)
 obtain ⟨w, some, e0⟩ := r
 have hF : FQ g (one1 g) w some := hF
 have der : some = true → SDer g [g.fLetters] w := fun e => by
  have := (hF.yes e).1
  rw [Int.zero_add] at this
  exact this
 refine ⟨True, ⟨fun h1 r2 h2 => ⟨fun h3 => ?_, fun _ => trivial⟩, fun _ => trivial⟩, fun _ => ⟨True, ⟨fun h1 r3 h3 => ⟨fun h4 => ?_, fun _ => trivial⟩, fun _ => trivial⟩, fun _ r4 h4 => ⟨fun _ => rfl, fun h5 => ?_⟩⟩⟩
 ·exfalso
  obtain ⟨h1a, h1b⟩ := Bool.and_eq_true_iff.1 h1
  have hl := ((hF.yes h1a).1).lets hg (top_sg hg)
  have := of_decide_eq_true h1b
  rcases h2 hge hl (by show w.length ≤ 12; have : (w.length : Int) ≤ 12 := this; omega) (der h1a) with h | ⟨h, h'⟩
  ·rw [h] at h3
   cases h3
  ·rw [h, h'] at h3
   cases h3
 ·exfalso
  obtain ⟨h1a, h1b⟩ := Bool.and_eq_true_iff.1 h1
  have := of_decide_eq_true h1b
  have hlen : (w.length : Int) ≤ 5 := this
  obtain ⟨k1, k2⟩ := h3 hge ⟨by show 0 ≤ (w.length : Int); omega, hlen⟩
  have k3 := k2 w (der h1a) rfl
  rw [Bool.or_eq_true, decide_eq_true_eq] at h4
  rcases h4 with h4 | h4
  ·rw [k1] at h4
   cases h4
  ·omega
 obtain ⟨_, hd, hl, hFd⟩ := h4 (by simpa using h5)
 refine ⟨fun x l => ∃ k : Nat, x = k ∧ k ≤ d.fMark.length ∧ l = (d.fMark.take k).map fun m => 1 - m, fun x _ => d.fMark.length - x.toNat, ⟨0, rfl, Nat.zero_le _, rfl⟩, ?_⟩
 rintro x l ⟨k, rfl, hk, rfl⟩
 have hsz := hd.size
 have hmk := hd.marks
 refine ⟨fun hb => ?_, fun hb r5 h6 => ⟨fun _ => rfl, fun h7 => ?_⟩⟩
 ·have hlt := dlt hb
  have hm := hd.mark _ (List.getElem_mem hlt)
  refine ⟨_, idx_at hlt, capOk_of (by simp only [List.length_map, List.length_take, List.length_cons, List.length_nil]; omega), ⟨k + 1, wsucc (by omega), hlt, ?_⟩, mu_up hlt (by omega)⟩
  rw [wr_in (by rcases hm with h | h <;> rw [h] <;> decide) (by rcases hm with h | h <;> rw [h] <;> decide), List.take_add_one, List.getElem?_eq_getElem hlt, List.map_append]
  rfl
 obtain rfl : k = d.fMark.length := by have := dge hb; omega
 rw [List.take_length] at h6
 obtain ⟨_, _, _, hFo⟩ := h6 (by simpa using h7)
 have hFo : FQ g (flipD d) r5.1 r5.2.1 := hFo
 refine ⟨fun h8 => ?_, fun h8 => ?_⟩
 ·have h8 : (!some) = true := h8
  obtain rfl : some = false := by simpa using h8
  have e1 := law_none hg hF hFd
  have e2 := law_none hg hF hFo
  show (!r4.2.1 && !r5.2.1) = true
  rw [e1, e2]
  rfl
 ·have h8 : (!some) = false := h8
  obtain rfl : some = true := by simpa using h8
  have hL := law_both hg hd hl hF hFd hFo
  refine ⟨fun b => b = (r4.2.1 && decide (r4.1 = w)), ⟨fun h => ?_, fun h => ?_⟩, ?_⟩
  ·show decide (r4.1 = w) = (r4.2.1 && decide (r4.1 = w))
   rw [h]
   rfl
  ·show false = (r4.2.1 && decide (r4.1 = w))
   rw [h]
   rfl
  rintro _ rfl
  refine ⟨fun b => b = (r5.2.1 && decide (r5.1 = w)), ⟨fun h => ?_, fun h => ?_⟩, ?_⟩
  ·show decide (r5.1 = w) = (r5.2.1 && decide (r5.1 = w))
   rw [h]
   rfl
  ·show false = (r5.2.1 && decide (r5.1 = w))
   rw [h]
   rfl
  rintro _ rfl
  exact hL
end Go.Proofs.Ytobenjahlicnoaa
