/- Lemmas towards the statement: mirrors of functions, and plain laws. No condition. -/
import Derived.Test.YtiinkohfldopbaaPackTransRow5

/- Contracts of package trans: the least transducer. No condition. -/
namespace Go.Proofs.Ytiinkohfldopbaa
open Go.RowKit Go.MapKept
set_option linter.unusedSimpArgs false
set_option linter.unusedVariables false
set_option maxRecDepth 100000

theorem ahead_all {t : ApiTrans} (h : TrOk t) : Ahead t (aheadL t) := by
  refine ⟨by unfold aheadL; simp, fun q hq => ?_, fun q a hq ha => ?_, fun q hq p hp => ?_⟩
  · unfold aheadL
    rw [getD_range hq]
    exact lcpF_com _ _ [] KW.nil
  · unfold aheadL
    rw [getD_range hq, getD_range (h.nx hq ha).1]
    exact com_app (fun w hw => lcpF_com _ (outT t q) (a :: w) (KW.cons ha hw))
  · unfold aheadL
    rw [getD_range hq]
    exact lcpF_max hp
theorem map_idx {α β γ : Type} [DecidableEq β] [DecidableEq γ] {f : α → β} {g : α → γ} {x : α} : ∀ {l : List α}, (∀ y ∈ l, (f y = f x ↔ g y = g x)) → (l.map f).idxOf (f x) = (l.map g).idxOf (g x)
  | [], _ => rfl
  | y :: l, h => by
    have ih := map_idx (l := l) fun z hz => h z (List.mem_cons_of_mem _ hz)
    have h0 := h y List.mem_cons_self
    rw [List.map_cons, List.map_cons, List.idxOf_cons, List.idxOf_cons]
    by_cases e : f y = f x
    · rw [show (f y == f x) = true by simpa using e, show (g y == g x) = true by simpa using h0.1 e]
      rfl
    · rw [show (f y == f x) = false by simpa using e, show (g y == g x) = false by simpa using fun e2 => e (h0.2 e2), ih]
theorem map_mem {α β γ : Type} {f : α → β} {g : α → γ} {x : α} {l : List α} (h : ∀ y ∈ l, (f y = f x ↔ g y = g x)) : f x ∈ l.map f ↔ g x ∈ l.map g := by
  rw [List.mem_map, List.mem_map]
  constructor
  · rintro ⟨y, hy, e⟩; exact ⟨y, hy, (h y hy).1 e⟩
  · rintro ⟨y, hy, e⟩; exact ⟨y, hy, (h y hy).2 e⟩
noncomputable def leastG (t : ApiTrans) : ApiTrans := canG t.fIn t.fOut (funT t)
section
variable {p : ApiTrans} {r : List Int}
noncomputable def kap (p : ApiTrans) (q : Int) : OutF := keyT p q.toNat
def cla (r : List Int) (q : Int) : Int := r.getD q.toNat 0
/-- the states that are known, and their numbers -/
structure Rows1 (p : ApiTrans) (r : List Int) (m : List (Int × Int)) (l : List Int) : Prop where
  in_ : ∀ q ∈ l, 0 ≤ q ∧ q < (p.fNext.length : Int)
  num : MapOf m (l.map (cla r))
theorem kap_iff (hr : IsCls p r) {x y : Int} (hx : 0 ≤ x ∧ x < (p.fNext.length : Int)) (hy : 0 ≤ y ∧ y < (p.fNext.length : Int)) : cla r y = cla r x ↔ kap p y = kap p x := hr.same _ _ (by omega) (by omega)
theorem Rows1.mem (hr : IsCls p r) {m : List (Int × Int)} {l : List Int} (h : Rows1 p r m l) {x : Int} (hx : 0 ≤ x ∧ x < (p.fNext.length : Int)) : cla r x ∈ l.map (cla r) ↔ kap p x ∈ l.map (kap p) := map_mem fun y hy => kap_iff hr hx (h.in_ y hy)
theorem Rows1.idx (hr : IsCls p r) {m : List (Int × Int)} {l : List Int} (h : Rows1 p r m l) {x : Int} (hx : 0 ≤ x ∧ x < (p.fNext.length : Int)) : (l.map (cla r)).idxOf (cla r x) = (l.map (kap p)).idxOf (kap p x) := map_idx fun y hy => kap_iff hr hx (h.in_ y hy)
theorem Rows1.push (hr : IsCls p r) {m : List (Int × Int)} {l : List Int} (h : Rows1 p r m l) {x : Int} (hx : 0 ≤ x ∧ x < (p.fNext.length : Int)) (hn : cla r x ∉ l.map (cla r)) : Rows1 p r (mput (cla r x) (l.length : Int) m) (l ++ [x]) := by
  refine ⟨fun q hq => ?_, ?_⟩
  · rcases List.mem_append.1 hq with hq | hq
    · exact h.in_ q hq
    · rw [List.mem_singleton.1 hq]; exact hx
  · rw [List.map_append]
    have := h.num.push hn
    rw [List.length_map] at this
    exact this
theorem says_row (h : TrOk p) (hE : AllEarly p) {q : Nat} (hq : q < p.fNext.length) : p.fSays.getD q [] = (List.range p.fIn.toNat).map (sayT p.fIn.toNat (keyT p q)) := by
  have hs := h.srow hq
  refine ext_getD [] (by rw [hs]; simp) fun a ha => ?_
  rw [hs] at ha
  rw [getD_range ha, (key_der h hE hq ha).2]
  rfl
end
def trLeast_vc (t0 : ApiTrans) (Q : ApiTrans → Prop) : Prop :=
  t0.fFirst.length ≤ 9223372036854775807 →
  t0.fNext.length ≤ 9223372036854775807 →
  t0.fSays.length ≤ 9223372036854775807 →
  t0.fLast.length ≤ 9223372036854775807 →
  ((PushPre t0) ∧
  (ClsPreT (pushedR t0)) ∧
  ∀ r : (List Int), (IsCls (pushedR t0)) r →
  (∃ e, idx r (pushedR t0).fStart = some e ∧
  ∃ (Inv : Int → (List (Int × Int)) → (List Int) → (List (List Int)) → (List (List (List Int))) → (List (List Int)) → Prop) (mu : Int → (List (Int × Int)) → (List Int) → (List (List Int)) → (List (List (List Int))) → (List (List Int)) → Nat), Inv 0 (mput e 0 ([] : List (Int × Int))) ([(pushedR t0).fStart] : (List Int)) ([] : (List (List Int))) ([] : (List (List (List Int)))) ([] : (List (List Int))) ∧
  ∀ (x7 : Int) (m2 : (List (Int × Int))) (l3 : (List Int)) (l7 : (List (List Int))) (l8 : (List (List (List Int)))) (l9 : (List (List Int))) , Inv x7 m2 l3 l7 l8 l9 → (IfP (decide (x7 < (l3.length : Int))) (∃ e_2, idx l3 x7 = some e_2 ∧
  makeOk (pushedR t0).fIn (pushedR t0).fIn 8 ∧
  ∃ e_3, idx (pushedR t0).fNext e_2 = some e_3 ∧
  ∃ (Inv_2 : Int → (List (Int × Int)) → (List Int) → (List Int) → Prop) (mu_2 : Int → (List (Int × Int)) → (List Int) → (List Int) → Nat), Inv_2 0 m2 l3 (List.replicate ((pushedR t0).fIn).toNat (0 : Int)) ∧
  ∀ (x54 : Int) (m2_2 : (List (Int × Int))) (l3_2 : (List Int)) (l10 : (List Int)) , Inv_2 x54 m2_2 l3_2 l10 → (IfP (decide (x54 < (e_3.length : Int))) (∃ e_4, idx e_3 x54 = some e_4 ∧
  ∃ e_5, idx r e_4 = some e_5 ∧
  ∃ J : Int → (List (Int × Int)) → (List Int) → Prop, (IfP (!(mget e_5 m2_2).isSome) (∃ e_6, idx r e_4 = some e_6 ∧
  capOk l3_2.length (([e_4] : (List Int)) : (List Int)).length 8 ∧
  J (l3_2.length : Int) (mput e_6 (l3_2.length : Int) m2_2) (l3_2 ++ ([e_4] : (List Int)))) (J ((mget e_5 m2_2).getD (0 : Int)) m2_2 l3_2)) ∧
  (∀ (x12 : Int) (m2_3 : (List (Int × Int))) (l3_3 : (List Int)), J x12 m2_3 l3_3 → ∃ e_7, idx l10 x54 = some e_7 ∧
  (Inv_2 (wr (x54 + 1)) m2_3 l3_3 (l10.set (x54).toNat x12) ∧ mu_2 (wr (x54 + 1)) m2_3 l3_3 (l10.set (x54).toNat x12) < mu_2 x54 m2_2 l3_2 l10))) (capOk l7.length (([l10] : (List (List Int))) : (List (List Int))).length 24 ∧
  ∃ e_8, idx (pushedR t0).fSays e_2 = some e_8 ∧
  capOk l8.length (([e_8] : (List (List (List Int)))) : (List (List (List Int)))).length 24 ∧
  ∃ e_9, idx (pushedR t0).fLast e_2 = some e_9 ∧
  capOk l9.length (([e_9] : (List (List Int))) : (List (List Int))).length 24 ∧
  (Inv (wr (x7 + 1)) m2_2 l3_2 (l7 ++ ([l10] : (List (List Int)))) (l8 ++ ([e_8] : (List (List (List Int))))) (l9 ++ ([e_9] : (List (List Int)))) ∧ mu (wr (x7 + 1)) m2_2 l3_2 (l7 ++ ([l10] : (List (List Int)))) (l8 ++ ([e_8] : (List (List (List Int))))) (l9 ++ ([e_9] : (List (List Int)))) < mu x7 m2 l3 l7 l8 l9)))) (Q (ApiTrans.mk (pushedR t0).fIn (pushedR t0).fOut 0 (pushedR t0).fFirst l7 l8 l9)))))
set_option maxHeartbeats 2000000 in
theorem trLeast_walk (t0 : ApiTrans) (Q : ApiTrans → Prop) (h : trLeast_vc t0 Q) : Ct 57 [.sv (.agg [I t0.fIn, I t0.fOut, I t0.fStart, LS intT t0.fFirst, LS (lsT intT) t0.fNext, LS (lsT (lsT intT)) t0.fSays, LS (lsT intT) t0.fLast])] [] Q (fun (r : ApiTrans) => .sv (.agg [I r.fIn, I r.fOut, I r.fStart, LS intT r.fFirst, LS (lsT intT) r.fNext, LS (lsT (lsT intT)) r.fSays, LS (lsT intT) r.fLast])) := by
  have ht := tab_ok
  refine Ct.body Try.func57 rfl rfl rfl rfl (fun c hn => ?_)
  unfold trLeast_vc at h
  refine En.lenA 0 3 (by rfl) (by rfl) (fun hl => ?_)
  replace h := h hl
  clear hl
  refine En.lenA 0 4 (by rfl) (by rfl) (fun hl => ?_)
  replace h := h hl
  clear hl
  refine En.lenA 0 5 (by rfl) (by rfl) (fun hl => ?_)
  replace h := h hl
  clear hl
  refine En.lenA 0 6 (by rfl) (by rfl) (fun hl => ?_)
  replace h := h hl
  clear hl
  refine En.seq ?_
  refine En.region ?_
  refine WL.run ht hn 2 ⟨[(1, .sv (.one (.ptr 0 0))), (2, .sv (.one (.ptr 1 0)))], [.box [I t0.fIn, I t0.fOut, I t0.fStart, LS intT t0.fFirst, LS (lsT intT) t0.fNext, LS (lsT (lsT intT)) t0.fSays, LS (lsT intT) t0.fLast] 33 false, .box [I 0, I 0, I 0, .v (.slice none 0 0), .v (.slice none 0 0), .v (.slice none 0 0), .v (.slice none 0 0)] 33 false]⟩ (by kernel_rfl) ?_
  refine WL.nil ?_
  refine En.seq ?_
  refine En.region ?_
  refine WL.run ht hn 1 ⟨[(1, .sv (.one (.ptr 0 0))), (2, .sv (.one (.ptr 1 0))), (14, .sv (.agg [I t0.fIn, I t0.fOut, I t0.fStart, LS intT t0.fFirst, LS (lsT intT) t0.fNext, LS (lsT (lsT intT)) t0.fSays, LS (lsT intT) t0.fLast]))], [.box [I t0.fIn, I t0.fOut, I t0.fStart, LS intT t0.fFirst, LS (lsT intT) t0.fNext, LS (lsT (lsT intT)) t0.fSays, LS (lsT intT) t0.fLast] 33 false, .box [I 0, I 0, I 0, .v (.slice none 0 0), .v (.slice none 0 0), .v (.slice none 0 0), .v (.slice none 0 0)] 33 false]⟩ (by kernel_rfl) ?_
  have hp := h.1
  replace h := h.2
  refine WL.mt0 (K := []) (p := none) hn (by rfl) (mt_call (trPushed_ct t0 hp) en125 (caps := []) [] rfl (by rfl) (by kernel_rfl) (by kernel_rfl) (by rfl) (by rfl) (by rfl)) (by rfl) (by rfl) (by rfl) ?_
  refine WL.run ht hn 1 ⟨[(1, .sv (.one (.ptr 0 0))), (2, .sv (.one (.ptr 1 0)))], [.box [I (pushedR t0).fIn, I (pushedR t0).fOut, I (pushedR t0).fStart, LS intT (pushedR t0).fFirst, LS (lsT intT) (pushedR t0).fNext, LS (lsT (lsT intT)) (pushedR t0).fSays, LS (lsT intT) (pushedR t0).fLast] 33 false, .box [I 0, I 0, I 0, .v (.slice none 0 0), .v (.slice none 0 0), .v (.slice none 0 0), .v (.slice none 0 0)] 33 false]⟩ (by kernel_rfl) ?_
  refine WL.nil ?_
  refine En.seq ?_
  refine En.region ?_
  refine WL.run ht hn 1 ⟨[(1, .sv (.one (.ptr 0 0))), (2, .sv (.one (.ptr 1 0))), (16, .sv (.agg [I (pushedR t0).fIn, I (pushedR t0).fOut, I (pushedR t0).fStart, LS intT (pushedR t0).fFirst, LS (lsT intT) (pushedR t0).fNext, LS (lsT (lsT intT)) (pushedR t0).fSays, LS (lsT intT) (pushedR t0).fLast]))], [.box [I (pushedR t0).fIn, I (pushedR t0).fOut, I (pushedR t0).fStart, LS intT (pushedR t0).fFirst, LS (lsT intT) (pushedR t0).fNext, LS (lsT (lsT intT)) (pushedR t0).fSays, LS (lsT intT) (pushedR t0).fLast] 33 false, .box [I 0, I 0, I 0, .v (.slice none 0 0), .v (.slice none 0 0), .v (.slice none 0 0), .v (.slice none 0 0)] 33 false]⟩ (by kernel_rfl) ?_
  have hp := h.1
  replace h := h.2
  refine WL.mtQ (Q := IsCls (pushedR t0)) (x := fun (r : (List Int)) => .sv (.one (LS intT r))) (p := fun _ => none) hn (by rfl) (mtq_call (trClasses_ct (pushedR t0) hp) en126 (caps := []) [] rfl (by rfl) (by kernel_rfl) (by kernel_rfl) (by rfl) (fun _ => rfl) (by rfl)) (fun r hr_2 => ⟨by rfl, _, by rfl, ?_⟩)
  replace h := h r hr_2
  refine WL.run ht hn 1 ⟨[(1, .sv (.one (.ptr 0 0))), (2, .sv (.one (.ptr 1 0))), (3, .sv (.one (LS intT r)))], [.box [I (pushedR t0).fIn, I (pushedR t0).fOut, I (pushedR t0).fStart, LS intT (pushedR t0).fFirst, LS (lsT intT) (pushedR t0).fNext, LS (lsT (lsT intT)) (pushedR t0).fSays, LS (lsT intT) (pushedR t0).fLast] 33 false, .box [I 0, I 0, I 0, .v (.slice none 0 0), .v (.slice none 0 0), .v (.slice none 0 0), .v (.slice none 0 0)] 33 false]⟩ (by kernel_rfl) ?_
  refine WL.nil ?_
  refine En.seq ?_
  refine En.region ?_
  refine WL.mt0 (K := []) (p := some (2, mapI encI3 intT ([] : List (Int × Int)))) hn (by rfl) (mt_makeMap encI3 intT 2 rfl) (by rfl) (by rfl) (by rfl) ?_
  refine WL.run ht hn 3 ⟨[(1, .sv (.one (.ptr 0 0))), (2, .sv (.one (.ptr 1 0))), (3, .sv (.one (LS intT r))), (18, .sv (.one (.own 2))), (19, .sv (.one (LS intT r))), (21, .sv (.one (I (pushedR t0).fStart)))], [.box [I (pushedR t0).fIn, I (pushedR t0).fOut, I (pushedR t0).fStart, LS intT (pushedR t0).fFirst, LS (lsT intT) (pushedR t0).fNext, LS (lsT (lsT intT)) (pushedR t0).fSays, LS (lsT intT) (pushedR t0).fLast] 33 false, .box [I 0, I 0, I 0, .v (.slice none 0 0), .v (.slice none 0 0), .v (.slice none 0 0), .v (.slice none 0 0)] 33 false, mapI encI3 intT ([] : List (Int × Int))]⟩ (by kernel_rfl) ?_
  obtain ⟨e, he, h⟩ := h
  refine WL.val hn (by rfl) (val_index (T := intT) (l := r) (i := (pushedR t0).fStart) ht rfl (by rfl) (by rfl) (by rfl) (by rfl) (by rfl) (by rfl) he) (by rfl) ?_
  refine WL.val hn (by rfl) (val_load (s := .one (I e)) ht rfl (by rfl) (by rfl) (by rfl) (by rfl) (by rfl)) (by rfl) ?_
  refine WL.mapPut (T := intT) keyI3 (k := e) (y := 0) hn (by rfl) (.inr rfl) Try.underlying183 (by rfl) (by rfl) (by rfl) (by rfl) (by rfl) (by rfl) ?_
  refine WL.run ht hn 2 ⟨[(1, .sv (.one (.ptr 0 0))), (2, .sv (.one (.ptr 1 0))), (3, .sv (.one (LS intT r))), (4, .sv (.one (.own 2)))], [.box [I (pushedR t0).fIn, I (pushedR t0).fOut, I (pushedR t0).fStart, LS intT (pushedR t0).fFirst, LS (lsT intT) (pushedR t0).fNext, LS (lsT (lsT intT)) (pushedR t0).fSays, LS (lsT intT) (pushedR t0).fLast] 33 false, .box [I 0, I 0, I 0, .v (.slice none 0 0), .v (.slice none 0 0), .v (.slice none 0 0), .v (.slice none 0 0)] 33 false, mapI encI3 intT (mput e 0 ([] : List (Int × Int)))]⟩ (by kernel_rfl) ?_
  refine WL.nil ?_
  refine En.seq ?_
  refine En.region ?_
  refine WL.run ht hn 2 ⟨[(1, .sv (.one (.ptr 0 0))), (2, .sv (.one (.ptr 1 0))), (3, .sv (.one (LS intT r))), (4, .sv (.one (.own 2))), (26, .sv (.one (I (pushedR t0).fStart)))], [.box [I (pushedR t0).fIn, I (pushedR t0).fOut, I (pushedR t0).fStart, LS intT (pushedR t0).fFirst, LS (lsT intT) (pushedR t0).fNext, LS (lsT (lsT intT)) (pushedR t0).fSays, LS (lsT intT) (pushedR t0).fLast] 33 false, .box [I 0, I 0, I 0, .v (.slice none 0 0), .v (.slice none 0 0), .v (.slice none 0 0), .v (.slice none 0 0)] 33 false, mapI encI3 intT (mput e 0 ([] : List (Int × Int)))]⟩ (by kernel_rfl) ?_
  refine WL.mt0 (K := []) (p := some (3, rowI 3 intT ([(pushedR t0).fStart] : (List Int)))) hn (by rfl) (mt_lit (T := intT) ([(pushedR t0).fStart] : (List Int)) (mt_bsl 3 (r := cellsOf intT ([(pushedR t0).fStart] : (List Int))) ht rfl (by rfl) (by rfl) (by rfl) (by kernel_rfl) (by rfl)) (fun _ h => by cases h) (fun _ => rfl) (fun _ => rfl) (by rfl) (Nat.le_of_ble_eq_true rfl)) (by rfl) (by rfl) (by rfl) ?_
  refine WL.run ht hn 1 ⟨[(1, .sv (.one (.ptr 0 0))), (2, .sv (.one (.ptr 1 0))), (3, .sv (.one (LS intT r))), (4, .sv (.one (.own 2))), (5, .sv (.one (.own 3)))], [.box [I (pushedR t0).fIn, I (pushedR t0).fOut, I (pushedR t0).fStart, LS intT (pushedR t0).fFirst, LS (lsT intT) (pushedR t0).fNext, LS (lsT (lsT intT)) (pushedR t0).fSays, LS (lsT intT) (pushedR t0).fLast] 33 false, .box [I 0, I 0, I 0, .v (.slice none 0 0), .v (.slice none 0 0), .v (.slice none 0 0), .v (.slice none 0 0)] 33 false, mapI encI3 intT (mput e 0 ([] : List (Int × Int))), rowI 3 intT ([(pushedR t0).fStart] : (List Int))]⟩ (by kernel_rfl) ?_
  refine WL.nil ?_
  refine En.seq ?_
  refine En.region ?_
  refine WL.run ht hn 9 ⟨[(1, .sv (.one (.ptr 0 0))), (2, .sv (.one (.ptr 1 0))), (3, .sv (.one (LS intT r))), (4, .sv (.one (.own 2))), (5, .sv (.one (.own 3))), (6, .sv (.one (.ptr 4 0)))], [.box [I (pushedR t0).fIn, I (pushedR t0).fOut, I (pushedR t0).fStart, LS intT (pushedR t0).fFirst, LS (lsT intT) (pushedR t0).fNext, LS (lsT (lsT intT)) (pushedR t0).fSays, LS (lsT intT) (pushedR t0).fLast] 33 false, .box [I 0, I 0, I 0, .v (.slice none 0 0), .v (.slice none 0 0), .v (.slice none 0 0), .v (.slice none 0 0)] 33 false, mapI encI3 intT (mput e 0 ([] : List (Int × Int))), rowI 3 intT ([(pushedR t0).fStart] : (List Int)), .box [I (pushedR t0).fIn, I (pushedR t0).fOut, I 0, LS intT (pushedR t0).fFirst, .v (.slice none 0 0), .v (.slice none 0 0), .v (.slice none 0 0)] 33 false]⟩ (by kernel_rfl) ?_
  refine WL.nil ?_
  refine En.seq ?_
  refine En.seq ?_
  refine En.region ?_
  refine WL.run ht hn 1 ⟨[(1, .sv (.one (.ptr 0 0))), (2, .sv (.one (.ptr 1 0))), (3, .sv (.one (LS intT r))), (4, .sv (.one (.own 2))), (5, .sv (.one (.own 3))), (6, .sv (.one (.ptr 4 0))), (7, .sv (.one (I 0)))], [.box [I (pushedR t0).fIn, I (pushedR t0).fOut, I (pushedR t0).fStart, LS intT (pushedR t0).fFirst, LS (lsT intT) (pushedR t0).fNext, LS (lsT (lsT intT)) (pushedR t0).fSays, LS (lsT intT) (pushedR t0).fLast] 33 false, .box [I 0, I 0, I 0, .v (.slice none 0 0), .v (.slice none 0 0), .v (.slice none 0 0), .v (.slice none 0 0)] 33 false, mapI encI3 intT (mput e 0 ([] : List (Int × Int))), rowI 3 intT ([(pushedR t0).fStart] : (List Int)), .box [I (pushedR t0).fIn, I (pushedR t0).fOut, I 0, LS intT (pushedR t0).fFirst, .v (.slice none 0 0), .v (.slice none 0 0), .v (.slice none 0 0)] 33 false]⟩ (by kernel_rfl) ?_
  refine WL.nil ?_
  refine En.block ?_
  refine En.nilBoxO (T := (lsT intT)) 4 4 7 23 (by rfl) (by rfl) (by rfl) (by rfl) ?_
  refine En.nilBoxO (T := (lsT (lsT intT))) 4 5 8 22 (by rfl) (by rfl) (by rfl) (by rfl) ?_
  refine En.nilBoxO (T := (lsT intT)) 4 6 9 23 (by rfl) (by rfl) (by rfl) (by rfl) ?_
  obtain ⟨Inv, mu, h0_2, hI_2⟩ := h
  refine En.loop (σ := Int × (List (Int × Int)) × (List Int) × (List (List Int)) × (List (List (List Int))) × (List (List Int))) (fun zz => Inv zz.1 zz.2.1 zz.2.2.1 zz.2.2.2.1 zz.2.2.2.2.1 zz.2.2.2.2.2) (fun zz => mu zz.1 zz.2.1 zz.2.2.1 zz.2.2.2.1 zz.2.2.2.2.1 zz.2.2.2.2.2) (fun zz => ⟨[(1, .sv (.one (.ptr 0 0))), (2, .sv (.one (.ptr 1 0))), (3, .sv (.one (LS intT r))), (4, .sv (.one (.own 2))), (5, .sv (.one (.own 3))), (6, .sv (.one (.ptr 4 0))), (7, .sv (.one (I zz.1)))], [.box [I (pushedR t0).fIn, I (pushedR t0).fOut, I (pushedR t0).fStart, LS intT (pushedR t0).fFirst, LS (lsT intT) (pushedR t0).fNext, LS (lsT (lsT intT)) (pushedR t0).fSays, LS (lsT intT) (pushedR t0).fLast] 33 false, .box [I 0, I 0, I 0, .v (.slice none 0 0), .v (.slice none 0 0), .v (.slice none 0 0), .v (.slice none 0 0)] 33 false, mapI encI3 intT zz.2.1, rowI 3 intT zz.2.2.1, .box [I (pushedR t0).fIn, I (pushedR t0).fOut, I 0, LS intT (pushedR t0).fFirst, .own 7, .own 8, .own 9] 33 false, .gone, .gone, rowI 23 (lsT intT) zz.2.2.2.1, rowI 22 (lsT (lsT intT)) zz.2.2.2.2.1, rowI 23 (lsT intT) zz.2.2.2.2.2]⟩) (0, (mput e 0 ([] : List (Int × Int))), ([(pushedR t0).fStart] : (List Int)), ([] : (List (List Int))), ([] : (List (List (List Int)))), ([] : (List (List Int)))) h0_2 (sub_ok (by kernel_rfl)) ?_
  rintro ⟨x7, m2, l3, l7, l8, l9⟩ h
  replace h := hI_2 _ _ _ _ _ _ h
  show En c ⟨[(1, .sv (.one (.ptr 0 0))), (2, .sv (.one (.ptr 1 0))), (3, .sv (.one (LS intT r))), (4, .sv (.one (.own 2))), (5, .sv (.one (.own 3))), (6, .sv (.one (.ptr 4 0))), (7, .sv (.one (I x7)))], [.box [I (pushedR t0).fIn, I (pushedR t0).fOut, I (pushedR t0).fStart, LS intT (pushedR t0).fFirst, LS (lsT intT) (pushedR t0).fNext, LS (lsT (lsT intT)) (pushedR t0).fSays, LS (lsT intT) (pushedR t0).fLast] 33 false, .box [I 0, I 0, I 0, .v (.slice none 0 0), .v (.slice none 0 0), .v (.slice none 0 0), .v (.slice none 0 0)] 33 false, mapI encI3 intT m2, rowI 3 intT l3, .box [I (pushedR t0).fIn, I (pushedR t0).fOut, I 0, LS intT (pushedR t0).fFirst, .own 7, .own 8, .own 9] 33 false, .gone, .gone, rowI 23 (lsT intT) l7, rowI 22 (lsT (lsT intT)) l8, rowI 23 (lsT intT) l9]⟩ _
  refine En.seq ?_
  refine En.seq ?_
  refine En.region ?_
  refine WL.run ht hn 4 ⟨[(1, .sv (.one (.ptr 0 0))), (2, .sv (.one (.ptr 1 0))), (3, .sv (.one (LS intT r))), (4, .sv (.one (.own 2))), (5, .sv (.one (.own 3))), (6, .sv (.one (.ptr 4 0))), (7, .sv (.one (I x7))), (38, .sv (.one (B (decide (x7 < (l3.length : Int))))))], [.box [I (pushedR t0).fIn, I (pushedR t0).fOut, I (pushedR t0).fStart, LS intT (pushedR t0).fFirst, LS (lsT intT) (pushedR t0).fNext, LS (lsT (lsT intT)) (pushedR t0).fSays, LS (lsT intT) (pushedR t0).fLast] 33 false, .box [I 0, I 0, I 0, .v (.slice none 0 0), .v (.slice none 0 0), .v (.slice none 0 0), .v (.slice none 0 0)] 33 false, mapI encI3 intT m2, rowI 3 intT l3, .box [I (pushedR t0).fIn, I (pushedR t0).fOut, I 0, LS intT (pushedR t0).fFirst, .own 7, .own 8, .own 9] 33 false, .gone, .gone, rowI 23 (lsT intT) l7, rowI 22 (lsT (lsT intT)) l8, rowI 23 (lsT intT) l9]⟩ (by kernel_rfl) ?_
  refine WL.nil ?_
  refine En.cond (b := (decide (x7 < (l3.length : Int)))) (by kernel_rfl) (fun hb => ?_) (fun hb => ?_)
  · replace h := h.1 hb
    refine En.skip ?_
    refine En.seq ?_
    refine En.block ?_
    refine En.seq ?_
    refine En.region ?_
    refine WL.run ht hn 2 ⟨[(1, .sv (.one (.ptr 0 0))), (2, .sv (.one (.ptr 1 0))), (3, .sv (.one (LS intT r))), (4, .sv (.one (.own 2))), (5, .sv (.one (.own 3))), (6, .sv (.one (.ptr 4 0))), (7, .sv (.one (I x7))), (41, .sv (.one (.own 3))), (42, .sv (.one (I x7)))], [.box [I (pushedR t0).fIn, I (pushedR t0).fOut, I (pushedR t0).fStart, LS intT (pushedR t0).fFirst, LS (lsT intT) (pushedR t0).fNext, LS (lsT (lsT intT)) (pushedR t0).fSays, LS (lsT intT) (pushedR t0).fLast] 33 false, .box [I 0, I 0, I 0, .v (.slice none 0 0), .v (.slice none 0 0), .v (.slice none 0 0), .v (.slice none 0 0)] 33 false, mapI encI3 intT m2, rowI 3 intT l3, .box [I (pushedR t0).fIn, I (pushedR t0).fOut, I 0, LS intT (pushedR t0).fFirst, .own 7, .own 8, .own 9] 33 false, .gone, .gone, rowI 23 (lsT intT) l7, rowI 22 (lsT (lsT intT)) l8, rowI 23 (lsT intT) l9]⟩ (by kernel_rfl) ?_
    obtain ⟨e_2, he_2, h⟩ := h
    refine WL.val hn (by rfl) (val_indexO (T := intT) (l := l3) (k := x7) ht rfl (by rfl) (by rfl) (by rfl) (by rfl) (by decide) (by rfl) (by rfl) (by rfl) he_2) (by rfl) ?_
    refine WL.val hn (by rfl) (val_loadO (T := intT) (l := l3) (y := e_2) ht rfl (by rfl) (by rfl) (by rfl) (by rfl) (by rfl) (idx_some he_2).2.2 (by rfl)) (by rfl) ?_
    refine WL.run ht hn 1 ⟨[(1, .sv (.one (.ptr 0 0))), (2, .sv (.one (.ptr 1 0))), (3, .sv (.one (LS intT r))), (4, .sv (.one (.own 2))), (5, .sv (.one (.own 3))), (6, .sv (.one (.ptr 4 0))), (7, .sv (.one (I x7))), (8, .sv (.one (I e_2)))], [.box [I (pushedR t0).fIn, I (pushedR t0).fOut, I (pushedR t0).fStart, LS intT (pushedR t0).fFirst, LS (lsT intT) (pushedR t0).fNext, LS (lsT (lsT intT)) (pushedR t0).fSays, LS (lsT intT) (pushedR t0).fLast] 33 false, .box [I 0, I 0, I 0, .v (.slice none 0 0), .v (.slice none 0 0), .v (.slice none 0 0), .v (.slice none 0 0)] 33 false, mapI encI3 intT m2, rowI 3 intT l3, .box [I (pushedR t0).fIn, I (pushedR t0).fOut, I 0, LS intT (pushedR t0).fFirst, .own 7, .own 8, .own 9] 33 false, .gone, .gone, rowI 23 (lsT intT) l7, rowI 22 (lsT (lsT intT)) l8, rowI 23 (lsT intT) l9]⟩ (by kernel_rfl) ?_
    refine WL.nil ?_
    refine En.seq ?_
    refine En.region ?_
    refine WL.run ht hn 2 ⟨[(1, .sv (.one (.ptr 0 0))), (2, .sv (.one (.ptr 1 0))), (3, .sv (.one (LS intT r))), (4, .sv (.one (.own 2))), (5, .sv (.one (.own 3))), (6, .sv (.one (.ptr 4 0))), (7, .sv (.one (I x7))), (8, .sv (.one (I e_2))), (46, .sv (.one (I (pushedR t0).fIn)))], [.box [I (pushedR t0).fIn, I (pushedR t0).fOut, I (pushedR t0).fStart, LS intT (pushedR t0).fFirst, LS (lsT intT) (pushedR t0).fNext, LS (lsT (lsT intT)) (pushedR t0).fSays, LS (lsT intT) (pushedR t0).fLast] 33 false, .box [I 0, I 0, I 0, .v (.slice none 0 0), .v (.slice none 0 0), .v (.slice none 0 0), .v (.slice none 0 0)] 33 false, mapI encI3 intT m2, rowI 3 intT l3, .box [I (pushedR t0).fIn, I (pushedR t0).fOut, I 0, LS intT (pushedR t0).fFirst, .own 7, .own 8, .own 9] 33 false, .gone, .gone, rowI 23 (lsT intT) l7, rowI 22 (lsT (lsT intT)) l8, rowI 23 (lsT intT) l9]⟩ (by kernel_rfl) ?_
    have hp := h.1
    replace h := h.2
    refine WL.mt0 (K := []) (p := some (10, rowI 3 intT (List.replicate ((pushedR t0).fIn).toNat (0 : Int)))) hn (by rfl) (mt_make (T := intT) (0 : Int) (zv := (.int .i64 0)) 10 (l := (pushedR t0).fIn) (cp := (pushedR t0).fIn) ht rfl (by rfl) (by rfl) (by rfl) (by rfl) (by decide) (by rfl) (by rfl) hp.1 hp.2.1 hp.2.2 (hp.le (by decide)) rfl (fun _ => ⟨rfl, trivial⟩)) (by rfl) (by rfl) (by rfl) ?_
    refine WL.run ht hn 1 ⟨[(1, .sv (.one (.ptr 0 0))), (2, .sv (.one (.ptr 1 0))), (3, .sv (.one (LS intT r))), (4, .sv (.one (.own 2))), (5, .sv (.one (.own 3))), (6, .sv (.one (.ptr 4 0))), (7, .sv (.one (I x7))), (8, .sv (.one (I e_2))), (9, .sv (.one (.own 10)))], [.box [I (pushedR t0).fIn, I (pushedR t0).fOut, I (pushedR t0).fStart, LS intT (pushedR t0).fFirst, LS (lsT intT) (pushedR t0).fNext, LS (lsT (lsT intT)) (pushedR t0).fSays, LS (lsT intT) (pushedR t0).fLast] 33 false, .box [I 0, I 0, I 0, .v (.slice none 0 0), .v (.slice none 0 0), .v (.slice none 0 0), .v (.slice none 0 0)] 33 false, mapI encI3 intT m2, rowI 3 intT l3, .box [I (pushedR t0).fIn, I (pushedR t0).fOut, I 0, LS intT (pushedR t0).fFirst, .own 7, .own 8, .own 9] 33 false, .gone, .gone, rowI 23 (lsT intT) l7, rowI 22 (lsT (lsT intT)) l8, rowI 23 (lsT intT) l9, rowI 3 intT (List.replicate ((pushedR t0).fIn).toNat (0 : Int))]⟩ (by kernel_rfl) ?_
    refine WL.nil ?_
    refine En.seq ?_
    refine En.seq ?_
    refine En.region ?_
    refine WL.run ht hn 3 ⟨[(1, .sv (.one (.ptr 0 0))), (2, .sv (.one (.ptr 1 0))), (3, .sv (.one (LS intT r))), (4, .sv (.one (.own 2))), (5, .sv (.one (.own 3))), (6, .sv (.one (.ptr 4 0))), (7, .sv (.one (I x7))), (8, .sv (.one (I e_2))), (9, .sv (.one (.own 10))), (49, .sv (.one (LS (lsT intT) (pushedR t0).fNext))), (50, .sv (.one (I e_2)))], [.box [I (pushedR t0).fIn, I (pushedR t0).fOut, I (pushedR t0).fStart, LS intT (pushedR t0).fFirst, LS (lsT intT) (pushedR t0).fNext, LS (lsT (lsT intT)) (pushedR t0).fSays, LS (lsT intT) (pushedR t0).fLast] 33 false, .box [I 0, I 0, I 0, .v (.slice none 0 0), .v (.slice none 0 0), .v (.slice none 0 0), .v (.slice none 0 0)] 33 false, mapI encI3 intT m2, rowI 3 intT l3, .box [I (pushedR t0).fIn, I (pushedR t0).fOut, I 0, LS intT (pushedR t0).fFirst, .own 7, .own 8, .own 9] 33 false, .gone, .gone, rowI 23 (lsT intT) l7, rowI 22 (lsT (lsT intT)) l8, rowI 23 (lsT intT) l9, rowI 3 intT (List.replicate ((pushedR t0).fIn).toNat (0 : Int))]⟩ (by kernel_rfl) ?_
    obtain ⟨e_3, he_3, h⟩ := h
    refine WL.val hn (by rfl) (val_index (T := (lsT intT)) (l := (pushedR t0).fNext) (i := e_2) ht rfl (by rfl) (by rfl) (by rfl) (by rfl) (by rfl) (by rfl) he_3) (by rfl) ?_
    refine WL.val hn (by rfl) (val_load (s := .one (LS intT e_3)) ht rfl (by rfl) (by rfl) (by rfl) (by rfl) (by rfl)) (by rfl) ?_
    refine WL.run ht hn 2 ⟨[(1, .sv (.one (.ptr 0 0))), (2, .sv (.one (.ptr 1 0))), (3, .sv (.one (LS intT r))), (4, .sv (.one (.own 2))), (5, .sv (.one (.own 3))), (6, .sv (.one (.ptr 4 0))), (7, .sv (.one (I x7))), (8, .sv (.one (I e_2))), (9, .sv (.one (.own 10))), (52, .sv (.one (LS intT e_3))), (53, .sv (.one (I (e_3.length : Int)))), (54, .sv (.one (I 0)))], [.box [I (pushedR t0).fIn, I (pushedR t0).fOut, I (pushedR t0).fStart, LS intT (pushedR t0).fFirst, LS (lsT intT) (pushedR t0).fNext, LS (lsT (lsT intT)) (pushedR t0).fSays, LS (lsT intT) (pushedR t0).fLast] 33 false, .box [I 0, I 0, I 0, .v (.slice none 0 0), .v (.slice none 0 0), .v (.slice none 0 0), .v (.slice none 0 0)] 33 false, mapI encI3 intT m2, rowI 3 intT l3, .box [I (pushedR t0).fIn, I (pushedR t0).fOut, I 0, LS intT (pushedR t0).fFirst, .own 7, .own 8, .own 9] 33 false, .gone, .gone, rowI 23 (lsT intT) l7, rowI 22 (lsT (lsT intT)) l8, rowI 23 (lsT intT) l9, rowI 3 intT (List.replicate ((pushedR t0).fIn).toNat (0 : Int))]⟩ (by kernel_rfl) ?_
    refine WL.nil ?_
    refine En.block ?_
    obtain ⟨Inv_2, mu_2, h0, hI⟩ := h
    refine En.loop (σ := Int × (List (Int × Int)) × (List Int) × (List Int)) (fun zz => Inv_2 zz.1 zz.2.1 zz.2.2.1 zz.2.2.2) (fun zz => mu_2 zz.1 zz.2.1 zz.2.2.1 zz.2.2.2) (fun zz => ⟨[(1, .sv (.one (.ptr 0 0))), (2, .sv (.one (.ptr 1 0))), (3, .sv (.one (LS intT r))), (4, .sv (.one (.own 2))), (5, .sv (.one (.own 3))), (6, .sv (.one (.ptr 4 0))), (7, .sv (.one (I x7))), (8, .sv (.one (I e_2))), (9, .sv (.one (.own 10))), (52, .sv (.one (LS intT e_3))), (53, .sv (.one (I (e_3.length : Int)))), (54, .sv (.one (I zz.1)))], [.box [I (pushedR t0).fIn, I (pushedR t0).fOut, I (pushedR t0).fStart, LS intT (pushedR t0).fFirst, LS (lsT intT) (pushedR t0).fNext, LS (lsT (lsT intT)) (pushedR t0).fSays, LS (lsT intT) (pushedR t0).fLast] 33 false, .box [I 0, I 0, I 0, .v (.slice none 0 0), .v (.slice none 0 0), .v (.slice none 0 0), .v (.slice none 0 0)] 33 false, mapI encI3 intT zz.2.1, rowI 3 intT zz.2.2.1, .box [I (pushedR t0).fIn, I (pushedR t0).fOut, I 0, LS intT (pushedR t0).fFirst, .own 7, .own 8, .own 9] 33 false, .gone, .gone, rowI 23 (lsT intT) l7, rowI 22 (lsT (lsT intT)) l8, rowI 23 (lsT intT) l9, rowI 3 intT zz.2.2.2]⟩) (0, m2, l3, (List.replicate ((pushedR t0).fIn).toNat (0 : Int))) h0 (sub_ok (by kernel_rfl)) ?_
    rintro ⟨x54, m2_2, l3_2, l10⟩ h
    replace h := hI _ _ _ _ h
    show En c ⟨[(1, .sv (.one (.ptr 0 0))), (2, .sv (.one (.ptr 1 0))), (3, .sv (.one (LS intT r))), (4, .sv (.one (.own 2))), (5, .sv (.one (.own 3))), (6, .sv (.one (.ptr 4 0))), (7, .sv (.one (I x7))), (8, .sv (.one (I e_2))), (9, .sv (.one (.own 10))), (52, .sv (.one (LS intT e_3))), (53, .sv (.one (I (e_3.length : Int)))), (54, .sv (.one (I x54)))], [.box [I (pushedR t0).fIn, I (pushedR t0).fOut, I (pushedR t0).fStart, LS intT (pushedR t0).fFirst, LS (lsT intT) (pushedR t0).fNext, LS (lsT (lsT intT)) (pushedR t0).fSays, LS (lsT intT) (pushedR t0).fLast] 33 false, .box [I 0, I 0, I 0, .v (.slice none 0 0), .v (.slice none 0 0), .v (.slice none 0 0), .v (.slice none 0 0)] 33 false, mapI encI3 intT m2_2, rowI 3 intT l3_2, .box [I (pushedR t0).fIn, I (pushedR t0).fOut, I 0, LS intT (pushedR t0).fFirst, .own 7, .own 8, .own 9] 33 false, .gone, .gone, rowI 23 (lsT intT) l7, rowI 22 (lsT (lsT intT)) l8, rowI 23 (lsT intT) l9, rowI 3 intT l10]⟩ _
    refine En.seq ?_
    refine En.region ?_
    refine WL.run ht hn 1 ⟨[(1, .sv (.one (.ptr 0 0))), (2, .sv (.one (.ptr 1 0))), (3, .sv (.one (LS intT r))), (4, .sv (.one (.own 2))), (5, .sv (.one (.own 3))), (6, .sv (.one (.ptr 4 0))), (7, .sv (.one (I x7))), (8, .sv (.one (I e_2))), (9, .sv (.one (.own 10))), (52, .sv (.one (LS intT e_3))), (53, .sv (.one (I (e_3.length : Int)))), (54, .sv (.one (I x54))), (55, .sv (.one (B (decide (x54 < (e_3.length : Int))))))], [.box [I (pushedR t0).fIn, I (pushedR t0).fOut, I (pushedR t0).fStart, LS intT (pushedR t0).fFirst, LS (lsT intT) (pushedR t0).fNext, LS (lsT (lsT intT)) (pushedR t0).fSays, LS (lsT intT) (pushedR t0).fLast] 33 false, .box [I 0, I 0, I 0, .v (.slice none 0 0), .v (.slice none 0 0), .v (.slice none 0 0), .v (.slice none 0 0)] 33 false, mapI encI3 intT m2_2, rowI 3 intT l3_2, .box [I (pushedR t0).fIn, I (pushedR t0).fOut, I 0, LS intT (pushedR t0).fFirst, .own 7, .own 8, .own 9] 33 false, .gone, .gone, rowI 23 (lsT intT) l7, rowI 22 (lsT (lsT intT)) l8, rowI 23 (lsT intT) l9, rowI 3 intT l10]⟩ (by kernel_rfl) ?_
    refine WL.nil ?_
    refine En.seq ?_
    refine En.cond (b := (decide (x54 < (e_3.length : Int)))) (by kernel_rfl) (fun hb => ?_) (fun hb => ?_)
    · replace h := h.1 hb
      refine En.skip ?_
      refine En.seq ?_
      refine En.block ?_
      refine En.seq ?_
      refine En.region ?_
      refine WL.run ht hn 1 ⟨[(1, .sv (.one (.ptr 0 0))), (2, .sv (.one (.ptr 1 0))), (3, .sv (.one (LS intT r))), (4, .sv (.one (.own 2))), (5, .sv (.one (.own 3))), (6, .sv (.one (.ptr 4 0))), (7, .sv (.one (I x7))), (8, .sv (.one (I e_2))), (9, .sv (.one (.own 10))), (52, .sv (.one (LS intT e_3))), (53, .sv (.one (I (e_3.length : Int)))), (54, .sv (.one (I x54))), (56, .sv (.one (I x54)))], [.box [I (pushedR t0).fIn, I (pushedR t0).fOut, I (pushedR t0).fStart, LS intT (pushedR t0).fFirst, LS (lsT intT) (pushedR t0).fNext, LS (lsT (lsT intT)) (pushedR t0).fSays, LS (lsT intT) (pushedR t0).fLast] 33 false, .box [I 0, I 0, I 0, .v (.slice none 0 0), .v (.slice none 0 0), .v (.slice none 0 0), .v (.slice none 0 0)] 33 false, mapI encI3 intT m2_2, rowI 3 intT l3_2, .box [I (pushedR t0).fIn, I (pushedR t0).fOut, I 0, LS intT (pushedR t0).fFirst, .own 7, .own 8, .own 9] 33 false, .gone, .gone, rowI 23 (lsT intT) l7, rowI 22 (lsT (lsT intT)) l8, rowI 23 (lsT intT) l9, rowI 3 intT l10]⟩ (by kernel_rfl) ?_
      obtain ⟨e_4, he_4, h⟩ := h
      refine WL.val hn (by rfl) (val_index (T := intT) (l := e_3) (i := x54) ht rfl (by rfl) (by rfl) (by rfl) (by rfl) (by rfl) (by rfl) he_4) (by rfl) ?_
      refine WL.val hn (by rfl) (val_load (s := .one (I e_4)) ht rfl (by rfl) (by rfl) (by rfl) (by rfl) (by rfl)) (by rfl) ?_
      refine WL.run ht hn 2 ⟨[(1, .sv (.one (.ptr 0 0))), (2, .sv (.one (.ptr 1 0))), (3, .sv (.one (LS intT r))), (4, .sv (.one (.own 2))), (5, .sv (.one (.own 3))), (6, .sv (.one (.ptr 4 0))), (7, .sv (.one (I x7))), (8, .sv (.one (I e_2))), (9, .sv (.one (.own 10))), (10, .sv (.one (I x54))), (11, .sv (.one (I e_4))), (52, .sv (.one (LS intT e_3))), (53, .sv (.one (I (e_3.length : Int)))), (54, .sv (.one (I x54)))], [.box [I (pushedR t0).fIn, I (pushedR t0).fOut, I (pushedR t0).fStart, LS intT (pushedR t0).fFirst, LS (lsT intT) (pushedR t0).fNext, LS (lsT (lsT intT)) (pushedR t0).fSays, LS (lsT intT) (pushedR t0).fLast] 33 false, .box [I 0, I 0, I 0, .v (.slice none 0 0), .v (.slice none 0 0), .v (.slice none 0 0), .v (.slice none 0 0)] 33 false, mapI encI3 intT m2_2, rowI 3 intT l3_2, .box [I (pushedR t0).fIn, I (pushedR t0).fOut, I 0, LS intT (pushedR t0).fFirst, .own 7, .own 8, .own 9] 33 false, .gone, .gone, rowI 23 (lsT intT) l7, rowI 22 (lsT (lsT intT)) l8, rowI 23 (lsT intT) l9, rowI 3 intT l10]⟩ (by kernel_rfl) ?_
      refine WL.nil ?_
      refine En.seq ?_
      refine En.region ?_
      refine WL.run ht hn 3 ⟨[(1, .sv (.one (.ptr 0 0))), (2, .sv (.one (.ptr 1 0))), (3, .sv (.one (LS intT r))), (4, .sv (.one (.own 2))), (5, .sv (.one (.own 3))), (6, .sv (.one (.ptr 4 0))), (7, .sv (.one (I x7))), (8, .sv (.one (I e_2))), (9, .sv (.one (.own 10))), (10, .sv (.one (I x54))), (11, .sv (.one (I e_4))), (52, .sv (.one (LS intT e_3))), (53, .sv (.one (I (e_3.length : Int)))), (54, .sv (.one (I x54))), (60, .sv (.one (.own 2))), (61, .sv (.one (LS intT r))), (62, .sv (.one (I e_4)))], [.box [I (pushedR t0).fIn, I (pushedR t0).fOut, I (pushedR t0).fStart, LS intT (pushedR t0).fFirst, LS (lsT intT) (pushedR t0).fNext, LS (lsT (lsT intT)) (pushedR t0).fSays, LS (lsT intT) (pushedR t0).fLast] 33 false, .box [I 0, I 0, I 0, .v (.slice none 0 0), .v (.slice none 0 0), .v (.slice none 0 0), .v (.slice none 0 0)] 33 false, mapI encI3 intT m2_2, rowI 3 intT l3_2, .box [I (pushedR t0).fIn, I (pushedR t0).fOut, I 0, LS intT (pushedR t0).fFirst, .own 7, .own 8, .own 9] 33 false, .gone, .gone, rowI 23 (lsT intT) l7, rowI 22 (lsT (lsT intT)) l8, rowI 23 (lsT intT) l9, rowI 3 intT l10]⟩ (by kernel_rfl) ?_
      obtain ⟨e_5, he_5, h⟩ := h
      refine WL.val hn (by rfl) (val_index (T := intT) (l := r) (i := e_4) ht rfl (by rfl) (by rfl) (by rfl) (by rfl) (by rfl) (by rfl) he_5) (by rfl) ?_
      refine WL.val hn (by rfl) (val_load (s := .one (I e_5)) ht rfl (by rfl) (by rfl) (by rfl) (by rfl) (by rfl)) (by rfl) ?_
      refine WL.val hn (by rfl) (val_lookup (T := intT) (D := m2_2) keyI3 (k := e_5) (ok := true) (0 : Int) (zv := (.int .i64 0)) rfl Try.underlying183 (fun _ => by kernel_rfl) (fun _ => ⟨rfl, trivial⟩) (mapAs encI3 intT m2_2) (by rfl) (by rfl) (by rfl) (fun _ => rfl)) (by rfl) ?_
      refine WL.run ht hn 5 ⟨[(1, .sv (.one (.ptr 0 0))), (2, .sv (.one (.ptr 1 0))), (3, .sv (.one (LS intT r))), (4, .sv (.one (.own 2))), (5, .sv (.one (.own 3))), (6, .sv (.one (.ptr 4 0))), (7, .sv (.one (I x7))), (8, .sv (.one (I e_2))), (9, .sv (.one (.own 10))), (10, .sv (.one (I x54))), (11, .sv (.one (I e_4))), (12, .sv (.one (I ((mget e_5 m2_2).getD (0 : Int))))), (13, .sv (.one (B (mget e_5 m2_2).isSome))), (52, .sv (.one (LS intT e_3))), (53, .sv (.one (I (e_3.length : Int)))), (54, .sv (.one (I x54)))], [.box [I (pushedR t0).fIn, I (pushedR t0).fOut, I (pushedR t0).fStart, LS intT (pushedR t0).fFirst, LS (lsT intT) (pushedR t0).fNext, LS (lsT (lsT intT)) (pushedR t0).fSays, LS (lsT intT) (pushedR t0).fLast] 33 false, .box [I 0, I 0, I 0, .v (.slice none 0 0), .v (.slice none 0 0), .v (.slice none 0 0), .v (.slice none 0 0)] 33 false, mapI encI3 intT m2_2, rowI 3 intT l3_2, .box [I (pushedR t0).fIn, I (pushedR t0).fOut, I 0, LS intT (pushedR t0).fFirst, .own 7, .own 8, .own 9] 33 false, .gone, .gone, rowI 23 (lsT intT) l7, rowI 22 (lsT (lsT intT)) l8, rowI 23 (lsT intT) l9, rowI 3 intT l10]⟩ (by kernel_rfl) ?_
      refine WL.nil ?_
      obtain ⟨J, h, hJ⟩ := h
      refine En.seqJ (σ := Int × (List (Int × Int)) × (List Int)) (fun zz => J zz.1 zz.2.1 zz.2.2) (fun zz => ⟨[(1, .sv (.one (.ptr 0 0))), (2, .sv (.one (.ptr 1 0))), (3, .sv (.one (LS intT r))), (4, .sv (.one (.own 2))), (5, .sv (.one (.own 3))), (6, .sv (.one (.ptr 4 0))), (7, .sv (.one (I x7))), (8, .sv (.one (I e_2))), (9, .sv (.one (.own 10))), (10, .sv (.one (I x54))), (12, .sv (.one (I zz.1))), (52, .sv (.one (LS intT e_3))), (53, .sv (.one (I (e_3.length : Int)))), (54, .sv (.one (I x54)))], [.box [I (pushedR t0).fIn, I (pushedR t0).fOut, I (pushedR t0).fStart, LS intT (pushedR t0).fFirst, LS (lsT intT) (pushedR t0).fNext, LS (lsT (lsT intT)) (pushedR t0).fSays, LS (lsT intT) (pushedR t0).fLast] 33 false, .box [I 0, I 0, I 0, .v (.slice none 0 0), .v (.slice none 0 0), .v (.slice none 0 0), .v (.slice none 0 0)] 33 false, mapI encI3 intT zz.2.1, rowI 3 intT zz.2.2, .box [I (pushedR t0).fIn, I (pushedR t0).fOut, I 0, LS intT (pushedR t0).fFirst, .own 7, .own 8, .own 9] 33 false, .gone, .gone, rowI 23 (lsT intT) l7, rowI 22 (lsT (lsT intT)) l8, rowI 23 (lsT intT) l9, rowI 3 intT l10]⟩) ?_ ?_
      · refine En.seq ?_
        refine En.region ?_
        refine WL.run ht hn 2 ⟨[(1, .sv (.one (.ptr 0 0))), (2, .sv (.one (.ptr 1 0))), (3, .sv (.one (LS intT r))), (4, .sv (.one (.own 2))), (5, .sv (.one (.own 3))), (6, .sv (.one (.ptr 4 0))), (7, .sv (.one (I x7))), (8, .sv (.one (I e_2))), (9, .sv (.one (.own 10))), (10, .sv (.one (I x54))), (11, .sv (.one (I e_4))), (12, .sv (.one (I ((mget e_5 m2_2).getD (0 : Int))))), (52, .sv (.one (LS intT e_3))), (53, .sv (.one (I (e_3.length : Int)))), (54, .sv (.one (I x54))), (69, .sv (.one (B (!(mget e_5 m2_2).isSome))))], [.box [I (pushedR t0).fIn, I (pushedR t0).fOut, I (pushedR t0).fStart, LS intT (pushedR t0).fFirst, LS (lsT intT) (pushedR t0).fNext, LS (lsT (lsT intT)) (pushedR t0).fSays, LS (lsT intT) (pushedR t0).fLast] 33 false, .box [I 0, I 0, I 0, .v (.slice none 0 0), .v (.slice none 0 0), .v (.slice none 0 0), .v (.slice none 0 0)] 33 false, mapI encI3 intT m2_2, rowI 3 intT l3_2, .box [I (pushedR t0).fIn, I (pushedR t0).fOut, I 0, LS intT (pushedR t0).fFirst, .own 7, .own 8, .own 9] 33 false, .gone, .gone, rowI 23 (lsT intT) l7, rowI 22 (lsT (lsT intT)) l8, rowI 23 (lsT intT) l9, rowI 3 intT l10]⟩ (by kernel_rfl) ?_
        refine WL.nil ?_
        refine En.cond (b := (!(mget e_5 m2_2).isSome)) (by kernel_rfl) (fun hb => ?_) (fun hb => ?_)
        · replace h := h.1 hb
          refine En.seq ?_
          refine En.region ?_
          refine WL.run ht hn 3 ⟨[(1, .sv (.one (.ptr 0 0))), (2, .sv (.one (.ptr 1 0))), (3, .sv (.one (LS intT r))), (4, .sv (.one (.own 2))), (5, .sv (.one (.own 3))), (6, .sv (.one (.ptr 4 0))), (7, .sv (.one (I x7))), (8, .sv (.one (I e_2))), (9, .sv (.one (.own 10))), (10, .sv (.one (I x54))), (11, .sv (.one (I e_4))), (12, .sv (.one (I (l3_2.length : Int)))), (52, .sv (.one (LS intT e_3))), (53, .sv (.one (I (e_3.length : Int)))), (54, .sv (.one (I x54)))], [.box [I (pushedR t0).fIn, I (pushedR t0).fOut, I (pushedR t0).fStart, LS intT (pushedR t0).fFirst, LS (lsT intT) (pushedR t0).fNext, LS (lsT (lsT intT)) (pushedR t0).fSays, LS (lsT intT) (pushedR t0).fLast] 33 false, .box [I 0, I 0, I 0, .v (.slice none 0 0), .v (.slice none 0 0), .v (.slice none 0 0), .v (.slice none 0 0)] 33 false, mapI encI3 intT m2_2, rowI 3 intT l3_2, .box [I (pushedR t0).fIn, I (pushedR t0).fOut, I 0, LS intT (pushedR t0).fFirst, .own 7, .own 8, .own 9] 33 false, .gone, .gone, rowI 23 (lsT intT) l7, rowI 22 (lsT (lsT intT)) l8, rowI 23 (lsT intT) l9, rowI 3 intT l10]⟩ (by kernel_rfl) ?_
          refine WL.nil ?_
          refine En.seq ?_
          refine En.region ?_
          refine WL.run ht hn 3 ⟨[(1, .sv (.one (.ptr 0 0))), (2, .sv (.one (.ptr 1 0))), (3, .sv (.one (LS intT r))), (4, .sv (.one (.own 2))), (5, .sv (.one (.own 3))), (6, .sv (.one (.ptr 4 0))), (7, .sv (.one (I x7))), (8, .sv (.one (I e_2))), (9, .sv (.one (.own 10))), (10, .sv (.one (I x54))), (11, .sv (.one (I e_4))), (12, .sv (.one (I (l3_2.length : Int)))), (52, .sv (.one (LS intT e_3))), (53, .sv (.one (I (e_3.length : Int)))), (54, .sv (.one (I x54))), (72, .sv (.one (.own 2))), (73, .sv (.one (LS intT r))), (74, .sv (.one (I e_4)))], [.box [I (pushedR t0).fIn, I (pushedR t0).fOut, I (pushedR t0).fStart, LS intT (pushedR t0).fFirst, LS (lsT intT) (pushedR t0).fNext, LS (lsT (lsT intT)) (pushedR t0).fSays, LS (lsT intT) (pushedR t0).fLast] 33 false, .box [I 0, I 0, I 0, .v (.slice none 0 0), .v (.slice none 0 0), .v (.slice none 0 0), .v (.slice none 0 0)] 33 false, mapI encI3 intT m2_2, rowI 3 intT l3_2, .box [I (pushedR t0).fIn, I (pushedR t0).fOut, I 0, LS intT (pushedR t0).fFirst, .own 7, .own 8, .own 9] 33 false, .gone, .gone, rowI 23 (lsT intT) l7, rowI 22 (lsT (lsT intT)) l8, rowI 23 (lsT intT) l9, rowI 3 intT l10]⟩ (by kernel_rfl) ?_
          obtain ⟨e_6, he_6, h⟩ := h
          refine WL.val hn (by rfl) (val_index (T := intT) (l := r) (i := e_4) ht rfl (by rfl) (by rfl) (by rfl) (by rfl) (by rfl) (by rfl) he_6) (by rfl) ?_
          refine WL.val hn (by rfl) (val_load (s := .one (I e_6)) ht rfl (by rfl) (by rfl) (by rfl) (by rfl) (by rfl)) (by rfl) ?_
          refine WL.run ht hn 1 ⟨[(1, .sv (.one (.ptr 0 0))), (2, .sv (.one (.ptr 1 0))), (3, .sv (.one (LS intT r))), (4, .sv (.one (.own 2))), (5, .sv (.one (.own 3))), (6, .sv (.one (.ptr 4 0))), (7, .sv (.one (I x7))), (8, .sv (.one (I e_2))), (9, .sv (.one (.own 10))), (10, .sv (.one (I x54))), (11, .sv (.one (I e_4))), (12, .sv (.one (I (l3_2.length : Int)))), (52, .sv (.one (LS intT e_3))), (53, .sv (.one (I (e_3.length : Int)))), (54, .sv (.one (I x54))), (72, .sv (.one (.own 2))), (76, .sv (.one (I e_6))), (77, .sv (.one (I (l3_2.length : Int))))], [.box [I (pushedR t0).fIn, I (pushedR t0).fOut, I (pushedR t0).fStart, LS intT (pushedR t0).fFirst, LS (lsT intT) (pushedR t0).fNext, LS (lsT (lsT intT)) (pushedR t0).fSays, LS (lsT intT) (pushedR t0).fLast] 33 false, .box [I 0, I 0, I 0, .v (.slice none 0 0), .v (.slice none 0 0), .v (.slice none 0 0), .v (.slice none 0 0)] 33 false, mapI encI3 intT m2_2, rowI 3 intT l3_2, .box [I (pushedR t0).fIn, I (pushedR t0).fOut, I 0, LS intT (pushedR t0).fFirst, .own 7, .own 8, .own 9] 33 false, .gone, .gone, rowI 23 (lsT intT) l7, rowI 22 (lsT (lsT intT)) l8, rowI 23 (lsT intT) l9, rowI 3 intT l10]⟩ (by kernel_rfl) ?_
          refine WL.mapPut (T := intT) keyI3 (k := e_6) (y := (l3_2.length : Int)) hn (by rfl) (.inl rfl) Try.underlying183 (by rfl) (by rfl) (by rfl) (by rfl) (by rfl) (by rfl) ?_
          refine WL.nil ?_
          refine En.region ?_
          refine WL.run ht hn 2 ⟨[(1, .sv (.one (.ptr 0 0))), (2, .sv (.one (.ptr 1 0))), (3, .sv (.one (LS intT r))), (4, .sv (.one (.own 2))), (6, .sv (.one (.ptr 4 0))), (7, .sv (.one (I x7))), (8, .sv (.one (I e_2))), (9, .sv (.one (.own 10))), (10, .sv (.one (I x54))), (12, .sv (.one (I (l3_2.length : Int)))), (52, .sv (.one (LS intT e_3))), (53, .sv (.one (I (e_3.length : Int)))), (54, .sv (.one (I x54))), (78, .sv (.one (.own 3))), (79, .sv (.one (I e_4)))], [.box [I (pushedR t0).fIn, I (pushedR t0).fOut, I (pushedR t0).fStart, LS intT (pushedR t0).fFirst, LS (lsT intT) (pushedR t0).fNext, LS (lsT (lsT intT)) (pushedR t0).fSays, LS (lsT intT) (pushedR t0).fLast] 33 false, .box [I 0, I 0, I 0, .v (.slice none 0 0), .v (.slice none 0 0), .v (.slice none 0 0), .v (.slice none 0 0)] 33 false, mapI encI3 intT (mput e_6 (l3_2.length : Int) m2_2), rowI 3 intT l3_2, .box [I (pushedR t0).fIn, I (pushedR t0).fOut, I 0, LS intT (pushedR t0).fFirst, .own 7, .own 8, .own 9] 33 false, .gone, .gone, rowI 23 (lsT intT) l7, rowI 22 (lsT (lsT intT)) l8, rowI 23 (lsT intT) l9, rowI 3 intT l10]⟩ (by kernel_rfl) ?_
          refine WL.mt0 (K := []) (p := some (11, rowI 3 intT ([e_4] : (List Int)))) hn (by rfl) (mt_lit (T := intT) ([e_4] : (List Int)) (mt_bsl 11 (r := cellsOf intT ([e_4] : (List Int))) ht rfl (by rfl) (by rfl) (by rfl) (by kernel_rfl) (by rfl)) (fun _ h => by cases h) (fun _ => rfl) (fun _ => rfl) (by rfl) (Nat.le_of_ble_eq_true rfl)) (by rfl) (by rfl) (by rfl) ?_
          refine WL.seal (T := intT) (l := ([e_4] : (List Int))) (e := 3) 11 rfl ?_
          refine WL.run ht hn 0 ⟨[(1, .sv (.one (.ptr 0 0))), (2, .sv (.one (.ptr 1 0))), (3, .sv (.one (LS intT r))), (4, .sv (.one (.own 2))), (6, .sv (.one (.ptr 4 0))), (7, .sv (.one (I x7))), (8, .sv (.one (I e_2))), (9, .sv (.one (.own 10))), (10, .sv (.one (I x54))), (12, .sv (.one (I (l3_2.length : Int)))), (52, .sv (.one (LS intT e_3))), (53, .sv (.one (I (e_3.length : Int)))), (54, .sv (.one (I x54))), (78, .sv (.one (.own 3))), (79, .sv (.one (I e_4))), (80, .sv (.one (LS intT ([e_4] : (List Int)))))], [.box [I (pushedR t0).fIn, I (pushedR t0).fOut, I (pushedR t0).fStart, LS intT (pushedR t0).fFirst, LS (lsT intT) (pushedR t0).fNext, LS (lsT (lsT intT)) (pushedR t0).fSays, LS (lsT intT) (pushedR t0).fLast] 33 false, .box [I 0, I 0, I 0, .v (.slice none 0 0), .v (.slice none 0 0), .v (.slice none 0 0), .v (.slice none 0 0)] 33 false, mapI encI3 intT (mput e_6 (l3_2.length : Int) m2_2), rowI 3 intT l3_2, .box [I (pushedR t0).fIn, I (pushedR t0).fOut, I 0, LS intT (pushedR t0).fFirst, .own 7, .own 8, .own 9] 33 false, .gone, .gone, rowI 23 (lsT intT) l7, rowI 22 (lsT (lsT intT)) l8, rowI 23 (lsT intT) l9, rowI 3 intT l10, .gone]⟩ (by kernel_rfl) ?_
          have hp := h.1
          replace h := h.2
          refine WL.mt (S2 := ⟨[(1, .sv (.one (.ptr 0 0))), (2, .sv (.one (.ptr 1 0))), (3, .sv (.one (LS intT r))), (4, .sv (.one (.own 2))), (6, .sv (.one (.ptr 4 0))), (7, .sv (.one (I x7))), (8, .sv (.one (I e_2))), (9, .sv (.one (.own 10))), (10, .sv (.one (I x54))), (12, .sv (.one (I (l3_2.length : Int)))), (52, .sv (.one (LS intT e_3))), (53, .sv (.one (I (e_3.length : Int)))), (54, .sv (.one (I x54))), (79, .sv (.one (I e_4))), (80, .sv (.one (LS intT ([e_4] : (List Int)))))], [.box [I (pushedR t0).fIn, I (pushedR t0).fOut, I (pushedR t0).fStart, LS intT (pushedR t0).fFirst, LS (lsT intT) (pushedR t0).fNext, LS (lsT (lsT intT)) (pushedR t0).fSays, LS (lsT intT) (pushedR t0).fLast] 33 false, .box [I 0, I 0, I 0, .v (.slice none 0 0), .v (.slice none 0 0), .v (.slice none 0 0), .v (.slice none 0 0)] 33 false, mapI encI3 intT (mput e_6 (l3_2.length : Int) m2_2), rowI 3 intT l3_2, .box [I (pushedR t0).fIn, I (pushedR t0).fOut, I 0, LS intT (pushedR t0).fFirst, .own 7, .own 8, .own 9] 33 false, .gone, .gone, rowI 23 (lsT intT) l7, rowI 22 (lsT (lsT intT)) l8, rowI 23 (lsT intT) l9, rowI 3 intT l10, .gone]⟩) (K := [3]) (p := some (3, rowI 3 intT (l3_2 ++ ([e_4] : (List Int))))) hn (by rfl) (mt_append (T := intT) (l := l3_2) (es := ([e_4] : (List Int))) ht rfl (by rfl) (by rfl) (by rfl) (by rfl) (by decide) (by rfl) (by rfl) (srcLS (T := intT) (es := ([e_4] : (List Int))) (fun _ h => by cases h) (by decide) (by rfl)) (by exact hp) (by exact hp.le (by decide))) (by kernel_rfl) (by rfl) (by rfl) (by rfl) ?_
          refine WL.run ht hn 1 ⟨[(1, .sv (.one (.ptr 0 0))), (2, .sv (.one (.ptr 1 0))), (3, .sv (.one (LS intT r))), (4, .sv (.one (.own 2))), (5, .sv (.one (.own 3))), (6, .sv (.one (.ptr 4 0))), (7, .sv (.one (I x7))), (8, .sv (.one (I e_2))), (9, .sv (.one (.own 10))), (10, .sv (.one (I x54))), (12, .sv (.one (I (l3_2.length : Int)))), (52, .sv (.one (LS intT e_3))), (53, .sv (.one (I (e_3.length : Int)))), (54, .sv (.one (I x54)))], [.box [I (pushedR t0).fIn, I (pushedR t0).fOut, I (pushedR t0).fStart, LS intT (pushedR t0).fFirst, LS (lsT intT) (pushedR t0).fNext, LS (lsT (lsT intT)) (pushedR t0).fSays, LS (lsT intT) (pushedR t0).fLast] 33 false, .box [I 0, I 0, I 0, .v (.slice none 0 0), .v (.slice none 0 0), .v (.slice none 0 0), .v (.slice none 0 0)] 33 false, mapI encI3 intT (mput e_6 (l3_2.length : Int) m2_2), rowI 3 intT (l3_2 ++ ([e_4] : (List Int))), .box [I (pushedR t0).fIn, I (pushedR t0).fOut, I 0, LS intT (pushedR t0).fFirst, .own 7, .own 8, .own 9] 33 false, .gone, .gone, rowI 23 (lsT intT) l7, rowI 22 (lsT (lsT intT)) l8, rowI 23 (lsT intT) l9, rowI 3 intT l10, .gone]⟩ (by kernel_rfl) ?_
          refine WL.nil ?_
          exact En.at (I := fun zz => J zz.1 zz.2.1 zz.2.2) (T := fun zz => ⟨[(1, .sv (.one (.ptr 0 0))), (2, .sv (.one (.ptr 1 0))), (3, .sv (.one (LS intT r))), (4, .sv (.one (.own 2))), (5, .sv (.one (.own 3))), (6, .sv (.one (.ptr 4 0))), (7, .sv (.one (I x7))), (8, .sv (.one (I e_2))), (9, .sv (.one (.own 10))), (10, .sv (.one (I x54))), (12, .sv (.one (I zz.1))), (52, .sv (.one (LS intT e_3))), (53, .sv (.one (I (e_3.length : Int)))), (54, .sv (.one (I x54)))], [.box [I (pushedR t0).fIn, I (pushedR t0).fOut, I (pushedR t0).fStart, LS intT (pushedR t0).fFirst, LS (lsT intT) (pushedR t0).fNext, LS (lsT (lsT intT)) (pushedR t0).fSays, LS (lsT intT) (pushedR t0).fLast] 33 false, .box [I 0, I 0, I 0, .v (.slice none 0 0), .v (.slice none 0 0), .v (.slice none 0 0), .v (.slice none 0 0)] 33 false, mapI encI3 intT zz.2.1, rowI 3 intT zz.2.2, .box [I (pushedR t0).fIn, I (pushedR t0).fOut, I 0, LS intT (pushedR t0).fFirst, .own 7, .own 8, .own 9] 33 false, .gone, .gone, rowI 23 (lsT intT) l7, rowI 22 (lsT (lsT intT)) l8, rowI 23 (lsT intT) l9, rowI 3 intT l10]⟩) ((l3_2.length : Int), (mput e_6 (l3_2.length : Int) m2_2), (l3_2 ++ ([e_4] : (List Int)))) h (by kernel_rfl)
        · replace h := h.2 hb
          refine En.skip ?_
          exact En.at (I := fun zz => J zz.1 zz.2.1 zz.2.2) (T := fun zz => ⟨[(1, .sv (.one (.ptr 0 0))), (2, .sv (.one (.ptr 1 0))), (3, .sv (.one (LS intT r))), (4, .sv (.one (.own 2))), (5, .sv (.one (.own 3))), (6, .sv (.one (.ptr 4 0))), (7, .sv (.one (I x7))), (8, .sv (.one (I e_2))), (9, .sv (.one (.own 10))), (10, .sv (.one (I x54))), (12, .sv (.one (I zz.1))), (52, .sv (.one (LS intT e_3))), (53, .sv (.one (I (e_3.length : Int)))), (54, .sv (.one (I x54)))], [.box [I (pushedR t0).fIn, I (pushedR t0).fOut, I (pushedR t0).fStart, LS intT (pushedR t0).fFirst, LS (lsT intT) (pushedR t0).fNext, LS (lsT (lsT intT)) (pushedR t0).fSays, LS (lsT intT) (pushedR t0).fLast] 33 false, .box [I 0, I 0, I 0, .v (.slice none 0 0), .v (.slice none 0 0), .v (.slice none 0 0), .v (.slice none 0 0)] 33 false, mapI encI3 intT zz.2.1, rowI 3 intT zz.2.2, .box [I (pushedR t0).fIn, I (pushedR t0).fOut, I 0, LS intT (pushedR t0).fFirst, .own 7, .own 8, .own 9] 33 false, .gone, .gone, rowI 23 (lsT intT) l7, rowI 22 (lsT (lsT intT)) l8, rowI 23 (lsT intT) l9, rowI 3 intT l10]⟩) (((mget e_5 m2_2).getD (0 : Int)), m2_2, l3_2) h (by kernel_rfl)
      · rintro ⟨x12, m2_3, l3_3⟩ h
        replace h := hJ _ _ _ h
        show En c ⟨[(1, .sv (.one (.ptr 0 0))), (2, .sv (.one (.ptr 1 0))), (3, .sv (.one (LS intT r))), (4, .sv (.one (.own 2))), (5, .sv (.one (.own 3))), (6, .sv (.one (.ptr 4 0))), (7, .sv (.one (I x7))), (8, .sv (.one (I e_2))), (9, .sv (.one (.own 10))), (10, .sv (.one (I x54))), (12, .sv (.one (I x12))), (52, .sv (.one (LS intT e_3))), (53, .sv (.one (I (e_3.length : Int)))), (54, .sv (.one (I x54)))], [.box [I (pushedR t0).fIn, I (pushedR t0).fOut, I (pushedR t0).fStart, LS intT (pushedR t0).fFirst, LS (lsT intT) (pushedR t0).fNext, LS (lsT (lsT intT)) (pushedR t0).fSays, LS (lsT intT) (pushedR t0).fLast] 33 false, .box [I 0, I 0, I 0, .v (.slice none 0 0), .v (.slice none 0 0), .v (.slice none 0 0), .v (.slice none 0 0)] 33 false, mapI encI3 intT m2_3, rowI 3 intT l3_3, .box [I (pushedR t0).fIn, I (pushedR t0).fOut, I 0, LS intT (pushedR t0).fFirst, .own 7, .own 8, .own 9] 33 false, .gone, .gone, rowI 23 (lsT intT) l7, rowI 22 (lsT (lsT intT)) l8, rowI 23 (lsT intT) l9, rowI 3 intT l10]⟩ _
        refine En.region ?_
        refine WL.run ht hn 3 ⟨[(1, .sv (.one (.ptr 0 0))), (2, .sv (.one (.ptr 1 0))), (3, .sv (.one (LS intT r))), (4, .sv (.one (.own 2))), (5, .sv (.one (.own 3))), (6, .sv (.one (.ptr 4 0))), (7, .sv (.one (I x7))), (8, .sv (.one (I e_2))), (9, .sv (.one (.own 10))), (52, .sv (.one (LS intT e_3))), (53, .sv (.one (I (e_3.length : Int)))), (54, .sv (.one (I x54))), (82, .sv (.one (.own 10))), (83, .sv (.one (I x54))), (84, .sv (.one (I x12)))], [.box [I (pushedR t0).fIn, I (pushedR t0).fOut, I (pushedR t0).fStart, LS intT (pushedR t0).fFirst, LS (lsT intT) (pushedR t0).fNext, LS (lsT (lsT intT)) (pushedR t0).fSays, LS (lsT intT) (pushedR t0).fLast] 33 false, .box [I 0, I 0, I 0, .v (.slice none 0 0), .v (.slice none 0 0), .v (.slice none 0 0), .v (.slice none 0 0)] 33 false, mapI encI3 intT m2_3, rowI 3 intT l3_3, .box [I (pushedR t0).fIn, I (pushedR t0).fOut, I 0, LS intT (pushedR t0).fFirst, .own 7, .own 8, .own 9] 33 false, .gone, .gone, rowI 23 (lsT intT) l7, rowI 22 (lsT (lsT intT)) l8, rowI 23 (lsT intT) l9, rowI 3 intT l10]⟩ (by kernel_rfl) ?_
        obtain ⟨e_7, he_7, h⟩ := h
        refine WL.val hn (by rfl) (val_indexO (T := intT) (l := l10) (k := x54) ht rfl (by rfl) (by rfl) (by rfl) (by rfl) (by decide) (by rfl) (by rfl) (by rfl) he_7) (by rfl) ?_
        refine WL.storeO (T := intT) (l := l10) (y := x12) ht hn (by rfl) rfl (by rfl) (by rfl) (fun _ h => by cases h) (by rfl) (by rfl) (idx_lt he_7) (by rfl) (by rfl) (by rfl) (by rfl) ?_
        refine WL.nil ?_
        refine En.region ?_
        refine WL.run ht hn 2 ⟨[(1, .sv (.one (.ptr 0 0))), (2, .sv (.one (.ptr 1 0))), (3, .sv (.one (LS intT r))), (4, .sv (.one (.own 2))), (5, .sv (.one (.own 3))), (6, .sv (.one (.ptr 4 0))), (7, .sv (.one (I x7))), (8, .sv (.one (I e_2))), (9, .sv (.one (.own 10))), (52, .sv (.one (LS intT e_3))), (53, .sv (.one (I (e_3.length : Int)))), (54, .sv (.one (I (wr (x54 + 1)))))], [.box [I (pushedR t0).fIn, I (pushedR t0).fOut, I (pushedR t0).fStart, LS intT (pushedR t0).fFirst, LS (lsT intT) (pushedR t0).fNext, LS (lsT (lsT intT)) (pushedR t0).fSays, LS (lsT intT) (pushedR t0).fLast] 33 false, .box [I 0, I 0, I 0, .v (.slice none 0 0), .v (.slice none 0 0), .v (.slice none 0 0), .v (.slice none 0 0)] 33 false, mapI encI3 intT m2_3, rowI 3 intT l3_3, .box [I (pushedR t0).fIn, I (pushedR t0).fOut, I 0, LS intT (pushedR t0).fFirst, .own 7, .own 8, .own 9] 33 false, .gone, .gone, rowI 23 (lsT intT) l7, rowI 22 (lsT (lsT intT)) l8, rowI 23 (lsT intT) l9, rowI 3 intT (l10.set (x54).toNat x12)]⟩ (by kernel_rfl) ?_
        refine WL.nil ?_
        exact En.at (I := fun zz => Inv_2 zz.1 zz.2.1 zz.2.2.1 zz.2.2.2 ∧ mu_2 zz.1 zz.2.1 zz.2.2.1 zz.2.2.2 < mu_2 x54 m2_2 l3_2 l10) (T := fun zz => ⟨[(1, .sv (.one (.ptr 0 0))), (2, .sv (.one (.ptr 1 0))), (3, .sv (.one (LS intT r))), (4, .sv (.one (.own 2))), (5, .sv (.one (.own 3))), (6, .sv (.one (.ptr 4 0))), (7, .sv (.one (I x7))), (8, .sv (.one (I e_2))), (9, .sv (.one (.own 10))), (52, .sv (.one (LS intT e_3))), (53, .sv (.one (I (e_3.length : Int)))), (54, .sv (.one (I zz.1)))], [.box [I (pushedR t0).fIn, I (pushedR t0).fOut, I (pushedR t0).fStart, LS intT (pushedR t0).fFirst, LS (lsT intT) (pushedR t0).fNext, LS (lsT (lsT intT)) (pushedR t0).fSays, LS (lsT intT) (pushedR t0).fLast] 33 false, .box [I 0, I 0, I 0, .v (.slice none 0 0), .v (.slice none 0 0), .v (.slice none 0 0), .v (.slice none 0 0)] 33 false, mapI encI3 intT zz.2.1, rowI 3 intT zz.2.2.1, .box [I (pushedR t0).fIn, I (pushedR t0).fOut, I 0, LS intT (pushedR t0).fFirst, .own 7, .own 8, .own 9] 33 false, .gone, .gone, rowI 23 (lsT intT) l7, rowI 22 (lsT (lsT intT)) l8, rowI 23 (lsT intT) l9, rowI 3 intT zz.2.2.2]⟩) ((wr (x54 + 1)), m2_3, l3_3, (l10.set (x54).toNat x12)) h (by kernel_rfl)
    · replace h := h.2 hb
      refine En.exit rfl ?_
      refine En.seq ?_
      refine En.region ?_
      refine WL.run ht hn 3 ⟨[(1, .sv (.one (.ptr 0 0))), (2, .sv (.one (.ptr 1 0))), (3, .sv (.one (LS intT r))), (4, .sv (.one (.own 2))), (5, .sv (.one (.own 3))), (6, .sv (.one (.ptr 4 0))), (7, .sv (.one (I x7))), (8, .sv (.one (I e_2))), (88, .sv (.one (.own 7))), (89, .sv (.one (.own 10)))], [.box [I (pushedR t0).fIn, I (pushedR t0).fOut, I (pushedR t0).fStart, LS intT (pushedR t0).fFirst, LS (lsT intT) (pushedR t0).fNext, LS (lsT (lsT intT)) (pushedR t0).fSays, LS (lsT intT) (pushedR t0).fLast] 33 false, .box [I 0, I 0, I 0, .v (.slice none 0 0), .v (.slice none 0 0), .v (.slice none 0 0), .v (.slice none 0 0)] 33 false, mapI encI3 intT m2_2, rowI 3 intT l3_2, .box [I (pushedR t0).fIn, I (pushedR t0).fOut, I 0, LS intT (pushedR t0).fFirst, .own 7, .own 8, .own 9] 33 false, .gone, .gone, rowI 23 (lsT intT) l7, rowI 22 (lsT (lsT intT)) l8, rowI 23 (lsT intT) l9, rowI 3 intT l10]⟩ (by kernel_rfl) ?_
      refine WL.seal (T := intT) (l := l10) (e := 3) 10 rfl ?_
      refine WL.run ht hn 0 ⟨[(1, .sv (.one (.ptr 0 0))), (2, .sv (.one (.ptr 1 0))), (3, .sv (.one (LS intT r))), (4, .sv (.one (.own 2))), (5, .sv (.one (.own 3))), (6, .sv (.one (.ptr 4 0))), (7, .sv (.one (I x7))), (8, .sv (.one (I e_2))), (88, .sv (.one (.own 7))), (89, .sv (.one (LS intT l10)))], [.box [I (pushedR t0).fIn, I (pushedR t0).fOut, I (pushedR t0).fStart, LS intT (pushedR t0).fFirst, LS (lsT intT) (pushedR t0).fNext, LS (lsT (lsT intT)) (pushedR t0).fSays, LS (lsT intT) (pushedR t0).fLast] 33 false, .box [I 0, I 0, I 0, .v (.slice none 0 0), .v (.slice none 0 0), .v (.slice none 0 0), .v (.slice none 0 0)] 33 false, mapI encI3 intT m2_2, rowI 3 intT l3_2, .box [I (pushedR t0).fIn, I (pushedR t0).fOut, I 0, LS intT (pushedR t0).fFirst, .own 7, .own 8, .own 9] 33 false, .gone, .gone, rowI 23 (lsT intT) l7, rowI 22 (lsT (lsT intT)) l8, rowI 23 (lsT intT) l9, .gone]⟩ (by kernel_rfl) ?_
      refine WL.mt0 (K := []) (p := some (11, rowI 23 (lsT intT) ([l10] : (List (List Int))))) hn (by rfl) (mt_lit (T := (lsT intT)) ([l10] : (List (List Int))) (mt_bsl 11 (r := cellsOf (lsT intT) ([l10] : (List (List Int)))) ht rfl (by rfl) (by rfl) (by rfl) (by kernel_rfl) (by rfl)) (fun _ h => by cases h) (fun _ => rfl) (fun _ => rfl) (by rfl) (Nat.le_of_ble_eq_true rfl)) (by rfl) (by rfl) (by rfl) ?_
      refine WL.seal (T := (lsT intT)) (l := ([l10] : (List (List Int)))) (e := 23) 11 rfl ?_
      refine WL.run ht hn 0 ⟨[(1, .sv (.one (.ptr 0 0))), (2, .sv (.one (.ptr 1 0))), (3, .sv (.one (LS intT r))), (4, .sv (.one (.own 2))), (5, .sv (.one (.own 3))), (6, .sv (.one (.ptr 4 0))), (7, .sv (.one (I x7))), (8, .sv (.one (I e_2))), (88, .sv (.one (.own 7))), (89, .sv (.one (LS intT l10))), (90, .sv (.one (LS (lsT intT) ([l10] : (List (List Int))))))], [.box [I (pushedR t0).fIn, I (pushedR t0).fOut, I (pushedR t0).fStart, LS intT (pushedR t0).fFirst, LS (lsT intT) (pushedR t0).fNext, LS (lsT (lsT intT)) (pushedR t0).fSays, LS (lsT intT) (pushedR t0).fLast] 33 false, .box [I 0, I 0, I 0, .v (.slice none 0 0), .v (.slice none 0 0), .v (.slice none 0 0), .v (.slice none 0 0)] 33 false, mapI encI3 intT m2_2, rowI 3 intT l3_2, .box [I (pushedR t0).fIn, I (pushedR t0).fOut, I 0, LS intT (pushedR t0).fFirst, .own 7, .own 8, .own 9] 33 false, .gone, .gone, rowI 23 (lsT intT) l7, rowI 22 (lsT (lsT intT)) l8, rowI 23 (lsT intT) l9, .gone, .gone]⟩ (by kernel_rfl) ?_
      refine WL.junk 4 4 (by rfl) ?_
      have hp := h.1
      replace h := h.2
      refine WL.mt (S2 := ⟨[(1, .sv (.one (.ptr 0 0))), (2, .sv (.one (.ptr 1 0))), (3, .sv (.one (LS intT r))), (4, .sv (.one (.own 2))), (5, .sv (.one (.own 3))), (6, .sv (.one (.ptr 4 0))), (7, .sv (.one (I x7))), (8, .sv (.one (I e_2))), (89, .sv (.one (LS intT l10))), (90, .sv (.one (LS (lsT intT) ([l10] : (List (List Int))))))], [.box [I (pushedR t0).fIn, I (pushedR t0).fOut, I (pushedR t0).fStart, LS intT (pushedR t0).fFirst, LS (lsT intT) (pushedR t0).fNext, LS (lsT (lsT intT)) (pushedR t0).fSays, LS (lsT intT) (pushedR t0).fLast] 33 false, .box [I 0, I 0, I 0, .v (.slice none 0 0), .v (.slice none 0 0), .v (.slice none 0 0), .v (.slice none 0 0)] 33 false, mapI encI3 intT m2_2, rowI 3 intT l3_2, .box [I (pushedR t0).fIn, I (pushedR t0).fOut, I 0, LS intT (pushedR t0).fFirst, .junk, .own 8, .own 9] 33 false, .gone, .gone, rowI 23 (lsT intT) l7, rowI 22 (lsT (lsT intT)) l8, rowI 23 (lsT intT) l9, .gone, .gone]⟩) (K := [7]) (p := some (7, rowI 23 (lsT intT) (l7 ++ ([l10] : (List (List Int)))))) hn (by rfl) (mt_append (T := (lsT intT)) (l := l7) (es := ([l10] : (List (List Int)))) ht rfl (by rfl) (by rfl) (by rfl) (by rfl) (by decide) (by rfl) (by rfl) (srcLS (T := (lsT intT)) (es := ([l10] : (List (List Int)))) (fun _ h => by cases h) (by decide) (by rfl)) (by exact hp) (by exact hp.le (by decide))) (by kernel_rfl) (by rfl) (by rfl) (by rfl) ?_
      refine WL.run ht hn 2 ⟨[(1, .sv (.one (.ptr 0 0))), (2, .sv (.one (.ptr 1 0))), (3, .sv (.one (LS intT r))), (4, .sv (.one (.own 2))), (5, .sv (.one (.own 3))), (6, .sv (.one (.ptr 4 0))), (7, .sv (.one (I x7))), (8, .sv (.one (I e_2)))], [.box [I (pushedR t0).fIn, I (pushedR t0).fOut, I (pushedR t0).fStart, LS intT (pushedR t0).fFirst, LS (lsT intT) (pushedR t0).fNext, LS (lsT (lsT intT)) (pushedR t0).fSays, LS (lsT intT) (pushedR t0).fLast] 33 false, .box [I 0, I 0, I 0, .v (.slice none 0 0), .v (.slice none 0 0), .v (.slice none 0 0), .v (.slice none 0 0)] 33 false, mapI encI3 intT m2_2, rowI 3 intT l3_2, .box [I (pushedR t0).fIn, I (pushedR t0).fOut, I 0, LS intT (pushedR t0).fFirst, .own 7, .own 8, .own 9] 33 false, .gone, .gone, rowI 23 (lsT intT) (l7 ++ ([l10] : (List (List Int)))), rowI 22 (lsT (lsT intT)) l8, rowI 23 (lsT intT) l9, .gone, .gone]⟩ (by kernel_rfl) ?_
      refine WL.nil ?_
      refine En.seq ?_
      obtain ⟨e_8, he_8, h⟩ := h
      have hp_2 := h.1
      replace h := h.2
      refine En.regionA ⟨[(1, .sv (.one (.ptr 0 0))), (2, .sv (.one (.ptr 1 0))), (3, .sv (.one (LS intT r))), (4, .sv (.one (.own 2))), (5, .sv (.one (.own 3))), (6, .sv (.one (.ptr 4 0))), (7, .sv (.one (I x7))), (8, .sv (.one (I e_2)))], [.sv (.one (.ptr 4 5)), .sv (.one (.own 8)), .sv (.one (.ptr 0 5)), .sv (.one (LS (lsT (lsT intT)) (pushedR t0).fSays)), .sv (.one (I e_2)), .sv (.one (.pe (svR (.one (LS (lsT intT) e_8))) 1)), .sv (.one (LS (lsT intT) e_8)), .sv (.one (LS (lsT (lsT intT)) ([e_8] : (List (List (List Int)))))), .sv (.one (.own 12)), .sv (.one (.ptr 4 5)), .tup []], [⟨.box [I (pushedR t0).fIn, I (pushedR t0).fOut, I (pushedR t0).fStart, LS intT (pushedR t0).fFirst, LS (lsT intT) (pushedR t0).fNext, LS (lsT (lsT intT)) (pushedR t0).fSays, LS (lsT intT) (pushedR t0).fLast] 33 false, none, none, none⟩, ⟨.box [I 0, I 0, I 0, .v (.slice none 0 0), .v (.slice none 0 0), .v (.slice none 0 0), .v (.slice none 0 0)] 33 false, none, none, none⟩, ⟨mapI encI3 intT m2_2, none, none, none⟩, ⟨rowI 3 intT l3_2, none, none, none⟩, ⟨.box [I (pushedR t0).fIn, I (pushedR t0).fOut, I 0, LS intT (pushedR t0).fFirst, .own 7, .own 8, .own 9] 33 false, none, none, some (10, .box [I (pushedR t0).fIn, I (pushedR t0).fOut, I 0, LS intT (pushedR t0).fFirst, .own 7, .own 12, .own 9] 33 false)⟩, ⟨.gone, none, none, none⟩, ⟨.gone, none, none, none⟩, ⟨rowI 23 (lsT intT) (l7 ++ ([l10] : (List (List Int)))), none, none, none⟩, ⟨rowI 22 (lsT (lsT intT)) l8, none, some 8, none⟩, ⟨rowI 23 (lsT intT) l9, none, none, none⟩, ⟨.gone, none, none, none⟩, ⟨.gone, none, none, none⟩, ⟨rowI 22 (lsT (lsT intT)) (l8 ++ ([e_8] : (List (List (List Int))))), some 8, none, none⟩]⟩ ⟨[(1, .sv (.one (.ptr 0 0))), (2, .sv (.one (.ptr 1 0))), (3, .sv (.one (LS intT r))), (4, .sv (.one (.own 2))), (5, .sv (.one (.own 3))), (6, .sv (.one (.ptr 4 0))), (7, .sv (.one (I x7))), (8, .sv (.one (I e_2)))], [.box [I (pushedR t0).fIn, I (pushedR t0).fOut, I (pushedR t0).fStart, LS intT (pushedR t0).fFirst, LS (lsT intT) (pushedR t0).fNext, LS (lsT (lsT intT)) (pushedR t0).fSays, LS (lsT intT) (pushedR t0).fLast] 33 false, .box [I 0, I 0, I 0, .v (.slice none 0 0), .v (.slice none 0 0), .v (.slice none 0 0), .v (.slice none 0 0)] 33 false, mapI encI3 intT m2_2, rowI 3 intT l3_2, .box [I (pushedR t0).fIn, I (pushedR t0).fOut, I 0, LS intT (pushedR t0).fFirst, .own 7, .own 12, .own 9] 33 false, .gone, .gone, rowI 23 (lsT intT) (l7 ++ ([l10] : (List (List Int)))), .gone, rowI 23 (lsT intT) l9, .gone, .gone, rowI 22 (lsT (lsT intT)) (l8 ++ ([e_8] : (List (List (List Int)))))]⟩ (by kernel_rfl) hn (by kernel_rfl) (by rfl) (by kernel_rfl) ?_ (by kernel_rfl) ?_
      · exact ⟨.mt ⟨[(6, .sv (.one (.ptr 4 0)))], []⟩ [] none (by kernel_rfl) (by rfl) (mt_ev ht (by kernel_rfl)) rfl rfl rfl rfl,
    .mt ⟨[(93, .sv (.one (.ptr 4 5)))], [.gone, .gone, .gone, .gone, .box [I (pushedR t0).fIn, I (pushedR t0).fOut, I 0, LS intT (pushedR t0).fFirst, .own 7, .own 8, .own 9] 33 false]⟩ [] none (by kernel_rfl) (by rfl) (mt_ev ht (by kernel_rfl)) rfl rfl rfl rfl,
    .mt ⟨[(1, .sv (.one (.ptr 0 0)))], []⟩ [] none (by kernel_rfl) (by rfl) (mt_ev ht (by kernel_rfl)) rfl rfl rfl rfl,
    .mt ⟨[(95, .sv (.one (.ptr 0 5)))], [.box [I (pushedR t0).fIn, I (pushedR t0).fOut, I (pushedR t0).fStart, LS intT (pushedR t0).fFirst, LS (lsT intT) (pushedR t0).fNext, LS (lsT (lsT intT)) (pushedR t0).fSays, LS (lsT intT) (pushedR t0).fLast] 33 false]⟩ [] none (by kernel_rfl) (by rfl) (mt_ev ht (by kernel_rfl)) rfl rfl rfl rfl,
    .mt ⟨[(8, .sv (.one (I e_2)))], []⟩ [] none (by kernel_rfl) (by rfl) (mt_ev ht (by kernel_rfl)) rfl rfl rfl rfl,
    .mt ⟨[(96, .sv (.one (LS (lsT (lsT intT)) (pushedR t0).fSays))), (97, .sv (.one (I e_2)))], []⟩ [] none (by kernel_rfl) (by rfl) (mt_val (val_index (T := (lsT (lsT intT))) (l := (pushedR t0).fSays) (i := e_2) ht rfl (by rfl) (by rfl) (by rfl) (by rfl) (by rfl) (by rfl) he_8)) rfl rfl rfl rfl,
    .mt ⟨[(98, .sv (.one (.pe (svR (.one (LS (lsT intT) e_8))) 1)))], []⟩ [] none (by kernel_rfl) (by rfl) (mt_val (val_load (s := .one (LS (lsT intT) e_8)) ht rfl (by rfl) (by rfl) (by rfl) (by rfl) (by rfl))) rfl rfl rfl rfl,
    .mt ⟨[(99, .sv (.one (LS (lsT intT) e_8)))], []⟩ [] none (by kernel_rfl) (by rfl) (mt_seal (q := 12) (e := 22) (mt_lit (T := (lsT (lsT intT))) ([e_8] : (List (List (List Int)))) (mt_bsl 12 (r := cellsOf (lsT (lsT intT)) ([e_8] : (List (List (List Int))))) ht rfl (by rfl) (by rfl) (by rfl) (by kernel_rfl) (by rfl)) (fun _ h => by cases h) (fun _ => rfl) (fun _ => rfl) (by rfl) (Nat.le_of_ble_eq_true rfl))) rfl rfl rfl rfl,
    .mt ⟨[(94, .sv (.one (.own 8))), (100, .sv (.one (LS (lsT (lsT intT)) ([e_8] : (List (List (List Int)))))))], [.gone, .gone, .gone, .gone, .gone, .gone, .gone, .gone, rowI 22 (lsT (lsT intT)) l8]⟩ [8] (some 12) (by kernel_rfl) (by rfl) (mt_append (T := (lsT (lsT intT))) (l := l8) (es := ([e_8] : (List (List (List Int))))) (p := 12) ht rfl (by rfl) (by rfl) (by rfl) (by rfl) (by decide) (by rfl) (by rfl) (srcLS (T := (lsT (lsT intT))) (es := ([e_8] : (List (List (List Int))))) (fun _ h => by cases h) (by decide) (by rfl)) (by exact hp_2) (by exact hp_2.le (by decide))) rfl rfl rfl rfl,
    .mt ⟨[(6, .sv (.one (.ptr 4 0)))], []⟩ [] none (by kernel_rfl) (by rfl) (mt_ev ht (by kernel_rfl)) rfl rfl rfl rfl,
    .mu ⟨[(101, .sv (.one (.own 12))), (102, .sv (.one (.ptr 4 5)))], [.gone, .gone, .gone, .gone, .box [I (pushedR t0).fIn, I (pushedR t0).fOut, I 0, LS intT (pushedR t0).fFirst, .own 7, .own 8, .own 9] 33 false]⟩ 4 _ _ rfl rfl (by kernel_rfl) (by rfl) (mu_store2 ht rfl (by rfl) (by rfl) (by rfl) (by rfl) (fun h => by cases h) (by rfl) (by rfl)) rfl rfl rfl rfl rfl rfl rfl,
    trivial⟩
      · obtain ⟨e_9, he_9, h⟩ := h
        have hp_3 := h.1
        replace h := h.2
        refine En.regionA ⟨[(1, .sv (.one (.ptr 0 0))), (2, .sv (.one (.ptr 1 0))), (3, .sv (.one (LS intT r))), (4, .sv (.one (.own 2))), (5, .sv (.one (.own 3))), (6, .sv (.one (.ptr 4 0))), (7, .sv (.one (I x7))), (8, .sv (.one (I e_2)))], [.sv (.one (.ptr 4 6)), .sv (.one (.own 9)), .sv (.one (.ptr 0 6)), .sv (.one (LS (lsT intT) (pushedR t0).fLast)), .sv (.one (I e_2)), .sv (.one (.pe (svR (.one (LS intT e_9))) 1)), .sv (.one (LS intT e_9)), .sv (.one (LS (lsT intT) ([e_9] : (List (List Int))))), .sv (.one (.own 13)), .sv (.one (.ptr 4 6)), .tup []], [⟨.box [I (pushedR t0).fIn, I (pushedR t0).fOut, I (pushedR t0).fStart, LS intT (pushedR t0).fFirst, LS (lsT intT) (pushedR t0).fNext, LS (lsT (lsT intT)) (pushedR t0).fSays, LS (lsT intT) (pushedR t0).fLast] 33 false, none, none, none⟩, ⟨.box [I 0, I 0, I 0, .v (.slice none 0 0), .v (.slice none 0 0), .v (.slice none 0 0), .v (.slice none 0 0)] 33 false, none, none, none⟩, ⟨mapI encI3 intT m2_2, none, none, none⟩, ⟨rowI 3 intT l3_2, none, none, none⟩, ⟨.box [I (pushedR t0).fIn, I (pushedR t0).fOut, I 0, LS intT (pushedR t0).fFirst, .own 7, .own 12, .own 9] 33 false, none, none, some (10, .box [I (pushedR t0).fIn, I (pushedR t0).fOut, I 0, LS intT (pushedR t0).fFirst, .own 7, .own 12, .own 13] 33 false)⟩, ⟨.gone, none, none, none⟩, ⟨.gone, none, none, none⟩, ⟨rowI 23 (lsT intT) (l7 ++ ([l10] : (List (List Int)))), none, none, none⟩, ⟨.gone, none, none, none⟩, ⟨rowI 23 (lsT intT) l9, none, some 8, none⟩, ⟨.gone, none, none, none⟩, ⟨.gone, none, none, none⟩, ⟨rowI 22 (lsT (lsT intT)) (l8 ++ ([e_8] : (List (List (List Int))))), none, none, none⟩, ⟨rowI 23 (lsT intT) (l9 ++ ([e_9] : (List (List Int)))), some 8, none, none⟩]⟩ ⟨[(1, .sv (.one (.ptr 0 0))), (2, .sv (.one (.ptr 1 0))), (3, .sv (.one (LS intT r))), (4, .sv (.one (.own 2))), (5, .sv (.one (.own 3))), (6, .sv (.one (.ptr 4 0))), (7, .sv (.one (I x7)))], [.box [I (pushedR t0).fIn, I (pushedR t0).fOut, I (pushedR t0).fStart, LS intT (pushedR t0).fFirst, LS (lsT intT) (pushedR t0).fNext, LS (lsT (lsT intT)) (pushedR t0).fSays, LS (lsT intT) (pushedR t0).fLast] 33 false, .box [I 0, I 0, I 0, .v (.slice none 0 0), .v (.slice none 0 0), .v (.slice none 0 0), .v (.slice none 0 0)] 33 false, mapI encI3 intT m2_2, rowI 3 intT l3_2, .box [I (pushedR t0).fIn, I (pushedR t0).fOut, I 0, LS intT (pushedR t0).fFirst, .own 7, .own 12, .own 13] 33 false, .gone, .gone, rowI 23 (lsT intT) (l7 ++ ([l10] : (List (List Int)))), .gone, .gone, .gone, .gone, rowI 22 (lsT (lsT intT)) (l8 ++ ([e_8] : (List (List (List Int))))), rowI 23 (lsT intT) (l9 ++ ([e_9] : (List (List Int))))]⟩ (by kernel_rfl) hn (by kernel_rfl) (by rfl) (by kernel_rfl) ?_ (by kernel_rfl) ?_
        · exact ⟨.mt ⟨[(6, .sv (.one (.ptr 4 0)))], []⟩ [] none (by kernel_rfl) (by rfl) (mt_ev ht (by kernel_rfl)) rfl rfl rfl rfl,
    .mt ⟨[(103, .sv (.one (.ptr 4 6)))], [.gone, .gone, .gone, .gone, .box [I (pushedR t0).fIn, I (pushedR t0).fOut, I 0, LS intT (pushedR t0).fFirst, .own 7, .own 12, .own 9] 33 false]⟩ [] none (by kernel_rfl) (by rfl) (mt_ev ht (by kernel_rfl)) rfl rfl rfl rfl,
    .mt ⟨[(1, .sv (.one (.ptr 0 0)))], []⟩ [] none (by kernel_rfl) (by rfl) (mt_ev ht (by kernel_rfl)) rfl rfl rfl rfl,
    .mt ⟨[(105, .sv (.one (.ptr 0 6)))], [.box [I (pushedR t0).fIn, I (pushedR t0).fOut, I (pushedR t0).fStart, LS intT (pushedR t0).fFirst, LS (lsT intT) (pushedR t0).fNext, LS (lsT (lsT intT)) (pushedR t0).fSays, LS (lsT intT) (pushedR t0).fLast] 33 false]⟩ [] none (by kernel_rfl) (by rfl) (mt_ev ht (by kernel_rfl)) rfl rfl rfl rfl,
    .mt ⟨[(8, .sv (.one (I e_2)))], []⟩ [] none (by kernel_rfl) (by rfl) (mt_ev ht (by kernel_rfl)) rfl rfl rfl rfl,
    .mt ⟨[(106, .sv (.one (LS (lsT intT) (pushedR t0).fLast))), (107, .sv (.one (I e_2)))], []⟩ [] none (by kernel_rfl) (by rfl) (mt_val (val_index (T := (lsT intT)) (l := (pushedR t0).fLast) (i := e_2) ht rfl (by rfl) (by rfl) (by rfl) (by rfl) (by rfl) (by rfl) he_9)) rfl rfl rfl rfl,
    .mt ⟨[(108, .sv (.one (.pe (svR (.one (LS intT e_9))) 1)))], []⟩ [] none (by kernel_rfl) (by rfl) (mt_val (val_load (s := .one (LS intT e_9)) ht rfl (by rfl) (by rfl) (by rfl) (by rfl) (by rfl))) rfl rfl rfl rfl,
    .mt ⟨[(109, .sv (.one (LS intT e_9)))], []⟩ [] none (by kernel_rfl) (by rfl) (mt_seal (q := 13) (e := 23) (mt_lit (T := (lsT intT)) ([e_9] : (List (List Int))) (mt_bsl 13 (r := cellsOf (lsT intT) ([e_9] : (List (List Int)))) ht rfl (by rfl) (by rfl) (by rfl) (by kernel_rfl) (by rfl)) (fun _ h => by cases h) (fun _ => rfl) (fun _ => rfl) (by rfl) (Nat.le_of_ble_eq_true rfl))) rfl rfl rfl rfl,
    .mt ⟨[(104, .sv (.one (.own 9))), (110, .sv (.one (LS (lsT intT) ([e_9] : (List (List Int))))))], [.gone, .gone, .gone, .gone, .gone, .gone, .gone, .gone, .gone, rowI 23 (lsT intT) l9]⟩ [9] (some 13) (by kernel_rfl) (by rfl) (mt_append (T := (lsT intT)) (l := l9) (es := ([e_9] : (List (List Int)))) (p := 13) ht rfl (by rfl) (by rfl) (by rfl) (by rfl) (by decide) (by rfl) (by rfl) (srcLS (T := (lsT intT)) (es := ([e_9] : (List (List Int)))) (fun _ h => by cases h) (by decide) (by rfl)) (by exact hp_3) (by exact hp_3.le (by decide))) rfl rfl rfl rfl,
    .mt ⟨[(6, .sv (.one (.ptr 4 0)))], []⟩ [] none (by kernel_rfl) (by rfl) (mt_ev ht (by kernel_rfl)) rfl rfl rfl rfl,
    .mu ⟨[(111, .sv (.one (.own 13))), (112, .sv (.one (.ptr 4 6)))], [.gone, .gone, .gone, .gone, .box [I (pushedR t0).fIn, I (pushedR t0).fOut, I 0, LS intT (pushedR t0).fFirst, .own 7, .own 12, .own 9] 33 false]⟩ 4 _ _ rfl rfl (by kernel_rfl) (by rfl) (mu_store2 ht rfl (by rfl) (by rfl) (by rfl) (by rfl) (fun h => by cases h) (by rfl) (by rfl)) rfl rfl rfl rfl rfl rfl rfl,
    trivial⟩
        · refine En.region ?_
          refine WL.run ht hn 3 ⟨[(1, .sv (.one (.ptr 0 0))), (2, .sv (.one (.ptr 1 0))), (3, .sv (.one (LS intT r))), (4, .sv (.one (.own 2))), (5, .sv (.one (.own 3))), (6, .sv (.one (.ptr 4 0))), (7, .sv (.one (I (wr (x7 + 1)))))], [.box [I (pushedR t0).fIn, I (pushedR t0).fOut, I (pushedR t0).fStart, LS intT (pushedR t0).fFirst, LS (lsT intT) (pushedR t0).fNext, LS (lsT (lsT intT)) (pushedR t0).fSays, LS (lsT intT) (pushedR t0).fLast] 33 false, .box [I 0, I 0, I 0, .v (.slice none 0 0), .v (.slice none 0 0), .v (.slice none 0 0), .v (.slice none 0 0)] 33 false, mapI encI3 intT m2_2, rowI 3 intT l3_2, .box [I (pushedR t0).fIn, I (pushedR t0).fOut, I 0, LS intT (pushedR t0).fFirst, .own 7, .own 12, .own 13] 33 false, .gone, .gone, rowI 23 (lsT intT) (l7 ++ ([l10] : (List (List Int)))), .gone, .gone, .gone, .gone, rowI 22 (lsT (lsT intT)) (l8 ++ ([e_8] : (List (List (List Int))))), rowI 23 (lsT intT) (l9 ++ ([e_9] : (List (List Int))))]⟩ (by kernel_rfl) ?_
          refine WL.nil ?_
          refine En.move 12 8 (by rfl) (by rfl) ?_
          refine En.move 13 9 (by rfl) (by rfl) ?_
          exact En.at (I := fun zz => Inv zz.1 zz.2.1 zz.2.2.1 zz.2.2.2.1 zz.2.2.2.2.1 zz.2.2.2.2.2 ∧ mu zz.1 zz.2.1 zz.2.2.1 zz.2.2.2.1 zz.2.2.2.2.1 zz.2.2.2.2.2 < mu x7 m2 l3 l7 l8 l9) (T := fun zz => ⟨[(1, .sv (.one (.ptr 0 0))), (2, .sv (.one (.ptr 1 0))), (3, .sv (.one (LS intT r))), (4, .sv (.one (.own 2))), (5, .sv (.one (.own 3))), (6, .sv (.one (.ptr 4 0))), (7, .sv (.one (I zz.1)))], [.box [I (pushedR t0).fIn, I (pushedR t0).fOut, I (pushedR t0).fStart, LS intT (pushedR t0).fFirst, LS (lsT intT) (pushedR t0).fNext, LS (lsT (lsT intT)) (pushedR t0).fSays, LS (lsT intT) (pushedR t0).fLast] 33 false, .box [I 0, I 0, I 0, .v (.slice none 0 0), .v (.slice none 0 0), .v (.slice none 0 0), .v (.slice none 0 0)] 33 false, mapI encI3 intT zz.2.1, rowI 3 intT zz.2.2.1, .box [I (pushedR t0).fIn, I (pushedR t0).fOut, I 0, LS intT (pushedR t0).fFirst, .own 7, .own 8, .own 9] 33 false, .gone, .gone, rowI 23 (lsT intT) zz.2.2.2.1, rowI 22 (lsT (lsT intT)) zz.2.2.2.2.1, rowI 23 (lsT intT) zz.2.2.2.2.2]⟩) ((wr (x7 + 1)), m2_2, l3_2, (l7 ++ ([l10] : (List (List Int)))), (l8 ++ ([e_8] : (List (List (List Int))))), (l9 ++ ([e_9] : (List (List Int))))) h (by kernel_rfl)
  · replace h := h.2 hb
    refine En.exit rfl ?_
    refine En.seq ?_
    refine En.region ?_
    refine WL.run ht hn 2 ⟨[(2, .sv (.one (.ptr 1 0)))], [.gone, .box [I (pushedR t0).fIn, I (pushedR t0).fOut, I 0, LS intT (pushedR t0).fFirst, .own 7, .own 8, .own 9] 33 false, .gone, .gone, .gone, .gone, .gone, rowI 23 (lsT intT) l7, rowI 22 (lsT (lsT intT)) l8, rowI 23 (lsT intT) l9]⟩ (by kernel_rfl) ?_
    refine WL.nil ?_
    refine En.ret ?_
    refine En.seal (T := (lsT intT)) (l := l7) (e := 23) 7 rfl ?_
    refine En.seal (T := (lsT (lsT intT))) (l := l8) (e := 22) 8 rfl ?_
    refine En.seal (T := (lsT intT)) (l := l9) (e := 23) 9 rfl ?_
    exact En.back ht (ApiTrans.mk (pushedR t0).fIn (pushedR t0).fOut 0 (pushedR t0).fFirst l7 l8 l9) h (by kernel_rfl) rfl
theorem en57 : ∀ args w, (callFunc 57 args).run Try.prog w = .ok (.enter 57 args) w := enters_of Try.func57 (by kernel_rfl) rfl
theorem trLeast_ok (t0 : ApiTrans) (hp : PushPre t0) : trLeast_vc t0 (fun res_ => res_ = leastG t0) := by
  intro _ _ _ _
  have hok0 := hp.1
  have hAL := ahead_all hok0
  have hPu := pushedR_is hok0
  have hcan := pushed_canG hok0 hAL hPu
  have hE0 : AllEarly (pushedR t0) := fun q hq => hPu.early hok0 hAL hq
  have hok := pushedR_ok hok0
  refine ⟨hp, ⟨hok, hE0⟩, fun r hr => ?_⟩
  show ∃ e, _
  unfold leastG
  rw [hcan]
  have hE := hE0
  generalize pushedR t0 = p at hok hE hr ⊢
  clear hcan hPu hAL hok0 hp hE0
  have hst := hok.start
  have hsz := hok.size
  have hin := hok.in_
  have hll := hok.last
  have hsl := hok.says
  have hrl := hr.len
  obtain ⟨L, hL⟩ : ∃ L : Nat, p.fIn.toNat = L := ⟨_, rfl⟩
  obtain ⟨n, hn⟩ : ∃ n : Nat, p.fNext.length = n := ⟨_, rfl⟩
  have hgo : ∀ q a, q < n → a < L → derT L (keyT p q) a = keyT p (nxT p q a) := fun q a hq ha => by
    rw [← hL]; exact (key_der hok hE (by omega) (by omega)).1
  have hall : ∀ i, (expl (derT L) L (keyT p p.fStart.toNat) i).length ≤ n := fun i => by
    have := nodup_le (l := expl (derT L) L (keyT p p.fStart.toNat) i) (m := keysT p) expl_nodup fun x hx => expl_in (P := fun k => k ∈ keysT p) (keysT_mem.2 ⟨_, by omega, rfl⟩) (fun k a hk ha => by rw [← hL]; exact keysT_der hok hE k a hk (by omega)) hx
    unfold keysT at this
    simp at this
    omega
  refine ⟨_, idx_of 0 hst.1 (by omega), fun x m l l7 l8 l9 => ∃ i : Nat, x = i ∧ Rows1 p r m l ∧ l.map (kap p) = expl (derT L) L (keyT p p.fStart.toNat) i ∧ i ≤ l.length ∧ l7 = ((l.map (kap p)).take i).map (rowOf (derT L) L (l.map (kap p))) ∧ l8 = ((l.map (kap p)).take i).map (fun k => (List.range L).map (sayT L k)) ∧ l9 = ((l.map (kap p)).take i).map (fun k => k []) ∧ ∀ k ∈ (l.map (kap p)).take i, ∀ a, a < L → derT L k a ∈ l.map (kap p),
    fun x _ _ _ _ _ => n + 1 - x.toNat, ⟨0, rfl, ⟨fun q hq => by rw [List.mem_singleton.1 hq]; omega, MapOf.one⟩, rfl, by simp, rfl, rfl, rfl, fun k hk => by simp at hk⟩, ?_⟩
  rintro x m l l7 l8 l9 ⟨i, rfl, hR, hk, hi, hl7, hl8, hl9, hcl⟩
  have hlen : l.length ≤ n := by
    have := hall i
    rw [← hk, List.length_map] at this
    exact this
  have hi7 : l7.length = i := by rw [hl7]; simp; omega
  have hi8 : l8.length = i := by rw [hl8]; simp; omega
  have hi9 : l9.length = i := by rw [hl9]; simp; omega
  refine ⟨fun hb => ?_, fun hb => ?_⟩
  · have hlt := dlt hb
    have hq := hR.in_ _ (List.getElem_mem hlt)
    obtain ⟨q, hqe⟩ := Int.eq_ofNat_of_zero_le hq.1
    have hqn : q < n := by omega
    have hrow := hok.row (q := q) (by omega)
    have hei : (l.map (kap p))[i]? = some (keyT p q) := by
      rw [List.getElem?_map, List.getElem?_eq_getElem hlt, Option.map_some]
      unfold kap
      rw [hqe, Int.toNat_natCast]
    refine ⟨_, idx_at hlt, ⟨by omega, by omega, by omega⟩, p.fNext.getD q [], by rw [hqe]; exact idx_nat [] (by omega), fun x m l' row => ∃ a : Nat, x = a ∧ a ≤ L ∧ Rows1 p r m l' ∧ l'.map (kap p) = growTo (derT L) (keyT p q) a (l.map (kap p)) ∧ l'.length ≤ n ∧ row = (List.range a).map (fun c => ((l'.map (kap p)).idxOf (derT L (keyT p q) c) : Int)) ++ List.replicate (L - a) 0, fun x _ _ _ => L - x.toNat,
      ⟨0, rfl, Nat.zero_le _, hR, rfl, hlen, by rw [hL]; simp⟩, ?_⟩
    rintro x m' l' row ⟨a, rfl, ha, hR', hk', hln', hrw⟩
    have hrl' : row.length = L := by rw [hrw]; simp; omega
    refine ⟨fun hb => ?_, fun hb => ?_⟩
    · have haL : a < L := by have := dlt hb; omega
      have hnx := hok.nx (q := q) (a := a) (by omega) (by omega)
      have hxin : 0 ≤ ((nxT p q a : Nat) : Int) ∧ ((nxT p q a : Nat) : Int) < (p.fNext.length : Int) := ⟨by omega, by omega⟩
      have hkx : kap p ((nxT p q a : Nat) : Int) = derT L (keyT p q) a := by
        unfold kap
        rw [Int.toNat_natCast, hgo q a hqn haL]
      have hcx : idx r ((nxT p q a : Nat) : Int) = some (cla r ((nxT p q a : Nat) : Int)) := by
        unfold cla
        rw [Int.toNat_natCast]
        exact idx_nat 0 (by omega)
      have hmem := hR'.mem hr hxin
      rw [hkx] at hmem
      have hidx := hR'.idx hr hxin
      rw [hkx] at hidx
      have hgrow : ∀ l2 : List Int, l2.map (kap p) = growTo (derT L) (keyT p q) (a + 1) (l.map (kap p)) → l2.length ≤ n := fun l2 h2 => by
        have h3 : ∃ s, expl (derT L) L (keyT p p.fStart.toNat) (i + 1) = growTo (derT L) (keyT p q) (a + 1) (l.map (kap p)) ++ s := by
          rw [expl, ← hk, hei]
          exact growTo_mono (by omega)
        obtain ⟨s, hs⟩ := h3
        have h4 := hall (i + 1)
        rw [hs, ← h2, List.length_append, List.length_map] at h4
        omega
      refine ⟨((nxT p q a : Nat) : Int), by rw [← hnx.2]; exact idx_nat 0 (by omega), _, hcx, fun x12 m3 l4 => Rows1 p r m3 l4 ∧ l4.map (kap p) = growTo (derT L) (keyT p q) (a + 1) (l.map (kap p)) ∧ x12 = ((l4.map (kap p)).idxOf (derT L (keyT p q) a) : Int) ∧ ∃ s, l4 = l' ++ s, ?_, ?_⟩
      · by_cases hm : cla r ((nxT p q a : Nat) : Int) ∈ l'.map (cla r)
        · have h1 : mget (cla r ((nxT p q a : Nat) : Int)) m' = some ((l'.map (cla r)).idxOf (cla r ((nxT p q a : Nat) : Int)) : Int) := by rw [hR'.num, if_pos hm]
          rw [h1]
          refine ⟨fun h => (by cases h), fun _ => ⟨hR', ?_, ?_, [], by simp⟩⟩
          · rw [growTo, ← hk', if_pos (hmem.1 hm)]
          · show _ = _
            rw [← hidx]
            rfl
        · have h1 : mget (cla r ((nxT p q a : Nat) : Int)) m' = none := by rw [hR'.num, if_neg hm]
          have hnm : derT L (keyT p q) a ∉ l'.map (kap p) := fun e => hm (hmem.2 e)
          rw [h1]
          refine ⟨fun _ => ⟨_, hcx, capOk_of (by simp only [List.length_cons, List.length_nil]; omega), hR'.push hr hxin hm, ?_, ?_, [_], rfl⟩, fun h => (by cases h)⟩
          · rw [List.map_append, growTo, ← hk', if_neg hnm, List.map_cons, List.map_nil, hkx]
          · rw [List.map_append, List.map_cons, List.map_nil, hkx, idxOf_last hnm, List.length_map]
      · rintro x12 m3 l4 ⟨h1, h2, rfl, s, hs⟩
        refine ⟨_, idx_nat 0 (by omega), ⟨a + 1, wsucc (by omega), haL, h1, h2, hgrow l4 h2, ?_⟩, mu_up haL (by omega)⟩
        rw [Int.toNat_natCast]
        have hst2 : ∀ c, c < a → (l4.map (kap p)).idxOf (derT L (keyT p q) c) = (l'.map (kap p)).idxOf (derT L (keyT p q) c) := fun c hc => by
          rw [hs, List.map_append, idxOf_left]
          rw [hk']
          exact growTo_mem.2 (.inr ⟨c, hc, rfl⟩)
        have : row = (List.range a).map (fun c => ((l4.map (kap p)).idxOf (derT L (keyT p q) c) : Int)) ++ List.replicate (L - a) 0 := by
          rw [hrw]
          congr 1
          refine List.map_congr_left fun c hc => ?_
          rw [hst2 c (List.mem_range.1 hc)]
        rw [this]
        exact set_row (fun c => ((l4.map (kap p)).idxOf (derT L (keyT p q) c) : Int)) 0 haL
    · have haL : a = L := by have := dge hb; omega
      subst haL
      have hnext : l'.map (kap p) = expl (derT a) a (keyT p p.fStart.toNat) (i + 1) := by rw [expl, ← hk, hei, hk']
      obtain ⟨s, hs⟩ := growTo_app (go := derT a) (keyT p q) a (l.map (kap p))
      rw [← hk'] at hs
      have hml : (l.map (kap p)).length = l.length := List.length_map _
      have htake : (l'.map (kap p)).take (i + 1) = (l.map (kap p)).take i ++ [keyT p q] := by
        rw [hs, List.take_append_of_le_length (by omega), List.take_add_one, hei]
        rfl
      have hge : i + 1 ≤ l'.length := by
        have := congrArg List.length hs
        rw [List.length_append, List.length_map, List.length_map] at this
        omega
      have hcl' : ∀ k ∈ (l'.map (kap p)).take (i + 1), ∀ c, c < a → derT a k c ∈ l'.map (kap p) := fun k hk2 c hc => by
        rw [htake, List.mem_append, List.mem_singleton] at hk2
        rcases hk2 with hk2 | rfl
        · rw [hs]
          exact List.mem_append_left _ (hcl k hk2 c hc)
        · rw [hk']
          exact growTo_mem.2 (.inr ⟨c, hc, rfl⟩)
      have hls : p.fSays.getD q [] = (List.range a).map (sayT a (keyT p q)) := by
        have := says_row hok hE (q := q) (by omega)
        rwa [hL] at this
      refine ⟨capOk_of (by simp only [List.length_cons, List.length_nil]; omega), p.fSays.getD q [], by rw [hqe]; exact idx_nat [] (by omega), capOk_of (by simp only [List.length_cons, List.length_nil]; omega), laT p q, by rw [hqe]; exact idx_nat [] (by omega), capOk_of (by simp only [List.length_cons, List.length_nil]; omega), ⟨i + 1, wsucc (by omega), hR', hnext, hge, ?_, ?_, ?_, hcl'⟩, ?_⟩
      · rw [htake, List.map_append, hl7, List.map_cons, List.map_nil]
        congr 1
        · refine List.map_congr_left fun k hk2 => ?_
          rw [hs]
          exact (rowOf_left (hcl k hk2)).symm
        · rw [hrw]
          simp [rowOf]
      · rw [htake, List.map_append, hl8, hls]
        rfl
      · rw [htake, List.map_append, hl9, ← key_nil (p := p)]
        rfl
      · show n + 1 - (wr ((i : Int) + 1)).toNat < n + 1 - ((i : Nat) : Int).toNat
        rw [show wr ((i : Int) + 1) = ((i + 1 : Nat) : Int) from wsucc (by omega)]
        omega
  · have hge : l.length = i := by have := dge hb; omega
    have hdone : (expl (derT L) L (keyT p p.fStart.toNat) i).length = i := by rw [← hk, List.length_map]; exact hge
    show _ = canT p.fIn.toNat p.fIn p.fOut p.fFirst (keyT p p.fStart.toNat)
    unfold canT
    rw [hL, explL_eq hdone, ← hk]
    have ht : (l.map (kap p)).take i = l.map (kap p) := by rw [← hge, ← List.length_map (kap p)]; exact List.take_length
    rw [ht] at hl7 hl8 hl9
    rw [hl7, hl8, hl9]
theorem trLeast_ct (t0 : ApiTrans) (hp : PushPre t0) : Ct 57 [.sv (.agg [I t0.fIn, I t0.fOut, I t0.fStart, LS intT t0.fFirst, LS (lsT intT) t0.fNext, LS (lsT (lsT intT)) t0.fSays, LS (lsT intT) t0.fLast])] [] (fun (_ : Unit) => True) (fun _ => .sv (.agg [I (leastG t0).fIn, I (leastG t0).fOut, I (leastG t0).fStart, LS intT (leastG t0).fFirst, LS (lsT intT) (leastG t0).fNext, LS (lsT (lsT intT)) (leastG t0).fSays, LS (lsT intT) (leastG t0).fLast])) := (trLeast_walk t0 _ (trLeast_ok t0 hp)).fun
def trTold_vc (t : ApiTrans) (Q : (ApiTrans × Int) → Prop) : Prop :=
  t.fFirst.length ≤ 9223372036854775807 →
  t.fNext.length ≤ 9223372036854775807 →
  t.fSays.length ≤ 9223372036854775807 →
  t.fLast.length ≤ 9223372036854775807 →
  (∃ J : Bool → Prop, (IfP (decide ((t.fNext.length : Int) > 6)) (J true) ((SaidPre t) ∧
  J (longR t))) ∧
  (∀ (x11 : Bool), J x11 → IfP x11 (Q ((ApiTrans.mk 0 0 0 [] [] [] []), 7)) (Q (t, 0))))
theorem trTold_walk (t : ApiTrans) (Q : (ApiTrans × Int) → Prop) (h : trTold_vc t Q) : Ct 56 [.sv (.agg [I t.fIn, I t.fOut, I t.fStart, LS intT t.fFirst, LS (lsT intT) t.fNext, LS (lsT (lsT intT)) t.fSays, LS (lsT intT) t.fLast])] [] Q (fun (r : (ApiTrans × Int)) => .tup [.agg [I r.1.fIn, I r.1.fOut, I r.1.fStart, LS intT r.1.fFirst, LS (lsT intT) r.1.fNext, LS (lsT (lsT intT)) r.1.fSays, LS (lsT intT) r.1.fLast], .one (I r.2)]) := by
  have ht := tab_ok
  refine Ct.body Try.func56 rfl rfl rfl rfl (fun c hn => ?_)
  unfold trTold_vc at h
  refine En.lenA 0 3 (by rfl) (by rfl) (fun hl => ?_)
  replace h := h hl
  clear hl
  refine En.lenA 0 4 (by rfl) (by rfl) (fun hl => ?_)
  replace h := h hl
  clear hl
  refine En.lenA 0 5 (by rfl) (by rfl) (fun hl => ?_)
  replace h := h hl
  clear hl
  refine En.lenA 0 6 (by rfl) (by rfl) (fun hl => ?_)
  replace h := h hl
  clear hl
  refine En.seq ?_
  refine En.region ?_
  refine WL.run ht hn 3 ⟨[(1, .sv (.one (.ptr 0 0))), (2, .sv (.one (.ptr 1 0)))], [.box [I t.fIn, I t.fOut, I t.fStart, LS intT t.fFirst, LS (lsT intT) t.fNext, LS (lsT (lsT intT)) t.fSays, LS (lsT intT) t.fLast] 33 false, .box [I 0, I 0, I 0, .v (.slice none 0 0), .v (.slice none 0 0), .v (.slice none 0 0), .v (.slice none 0 0)] 33 false]⟩ (by kernel_rfl) ?_
  refine WL.nil ?_
  refine En.seq ?_
  obtain ⟨J, h, hJ⟩ := h
  refine En.seqJ (σ := Bool) (fun zz => J zz) (fun zz => ⟨[(1, .sv (.one (.ptr 0 0))), (2, .sv (.one (.ptr 1 0))), (11, .sv (.one (B zz)))], [.box [I t.fIn, I t.fOut, I t.fStart, LS intT t.fFirst, LS (lsT intT) t.fNext, LS (lsT (lsT intT)) t.fSays, LS (lsT intT) t.fLast] 33 false, .box [I 0, I 0, I 0, .v (.slice none 0 0), .v (.slice none 0 0), .v (.slice none 0 0), .v (.slice none 0 0)] 33 false]⟩) ?_ ?_
  · refine En.region ?_
    refine WL.run ht hn 5 ⟨[(1, .sv (.one (.ptr 0 0))), (2, .sv (.one (.ptr 1 0))), (8, .sv (.one (B (decide ((t.fNext.length : Int) > 6)))))], [.box [I t.fIn, I t.fOut, I t.fStart, LS intT t.fFirst, LS (lsT intT) t.fNext, LS (lsT (lsT intT)) t.fSays, LS (lsT intT) t.fLast] 33 false, .box [I 0, I 0, I 0, .v (.slice none 0 0), .v (.slice none 0 0), .v (.slice none 0 0), .v (.slice none 0 0)] 33 false]⟩ (by kernel_rfl) ?_
    refine splitB (decide ((t.fNext.length : Int) > 6)) (fun hb => ?_) (fun hb => ?_)
    · replace h := h.1 hb
      refine WL.setB 8 hb (by kernel_rfl) ?_
      refine WL.run ht hn 3 ⟨[(1, .sv (.one (.ptr 0 0))), (2, .sv (.one (.ptr 1 0))), (11, .sv (.one (B true)))], [.box [I t.fIn, I t.fOut, I t.fStart, LS intT t.fFirst, LS (lsT intT) t.fNext, LS (lsT (lsT intT)) t.fSays, LS (lsT intT) t.fLast] 33 false, .box [I 0, I 0, I 0, .v (.slice none 0 0), .v (.slice none 0 0), .v (.slice none 0 0), .v (.slice none 0 0)] 33 false]⟩ (by kernel_rfl) ?_
      refine WL.nil ?_
      exact En.at (I := fun zz => J zz) (T := fun zz => ⟨[(1, .sv (.one (.ptr 0 0))), (2, .sv (.one (.ptr 1 0))), (11, .sv (.one (B zz)))], [.box [I t.fIn, I t.fOut, I t.fStart, LS intT t.fFirst, LS (lsT intT) t.fNext, LS (lsT (lsT intT)) t.fSays, LS (lsT intT) t.fLast] 33 false, .box [I 0, I 0, I 0, .v (.slice none 0 0), .v (.slice none 0 0), .v (.slice none 0 0), .v (.slice none 0 0)] 33 false]⟩) true h (by kernel_rfl)
    · replace h := h.2 hb
      refine WL.setB 8 hb (by kernel_rfl) ?_
      refine WL.run ht hn 1 ⟨[(1, .sv (.one (.ptr 0 0))), (2, .sv (.one (.ptr 1 0))), (8, .sv (.one (B false))), (9, .sv (.agg [I t.fIn, I t.fOut, I t.fStart, LS intT t.fFirst, LS (lsT intT) t.fNext, LS (lsT (lsT intT)) t.fSays, LS (lsT intT) t.fLast]))], [.box [I t.fIn, I t.fOut, I t.fStart, LS intT t.fFirst, LS (lsT intT) t.fNext, LS (lsT (lsT intT)) t.fSays, LS (lsT intT) t.fLast] 33 false, .box [I 0, I 0, I 0, .v (.slice none 0 0), .v (.slice none 0 0), .v (.slice none 0 0), .v (.slice none 0 0)] 33 false]⟩ (by kernel_rfl) ?_
      have hp := h.1
      replace h := h.2
      refine WL.mt0 (K := []) (p := none) hn (by rfl) (mt_call (trLong_ct t hp) en122 (caps := []) [] rfl (by rfl) (by kernel_rfl) (by kernel_rfl) (by rfl) (by rfl) (by rfl)) (by rfl) (by rfl) (by rfl) ?_
      refine WL.run ht hn 1 ⟨[(1, .sv (.one (.ptr 0 0))), (2, .sv (.one (.ptr 1 0))), (11, .sv (.one (B (longR t))))], [.box [I t.fIn, I t.fOut, I t.fStart, LS intT t.fFirst, LS (lsT intT) t.fNext, LS (lsT (lsT intT)) t.fSays, LS (lsT intT) t.fLast] 33 false, .box [I 0, I 0, I 0, .v (.slice none 0 0), .v (.slice none 0 0), .v (.slice none 0 0), .v (.slice none 0 0)] 33 false]⟩ (by kernel_rfl) ?_
      refine WL.nil ?_
      exact En.at (I := fun zz => J zz) (T := fun zz => ⟨[(1, .sv (.one (.ptr 0 0))), (2, .sv (.one (.ptr 1 0))), (11, .sv (.one (B zz)))], [.box [I t.fIn, I t.fOut, I t.fStart, LS intT t.fFirst, LS (lsT intT) t.fNext, LS (lsT (lsT intT)) t.fSays, LS (lsT intT) t.fLast] 33 false, .box [I 0, I 0, I 0, .v (.slice none 0 0), .v (.slice none 0 0), .v (.slice none 0 0), .v (.slice none 0 0)] 33 false]⟩) (longR t) h (by kernel_rfl)
  · intro x11 h
    replace h := hJ _ h
    show En c ⟨[(1, .sv (.one (.ptr 0 0))), (2, .sv (.one (.ptr 1 0))), (11, .sv (.one (B x11)))], [.box [I t.fIn, I t.fOut, I t.fStart, LS intT t.fFirst, LS (lsT intT) t.fNext, LS (lsT (lsT intT)) t.fSays, LS (lsT intT) t.fLast] 33 false, .box [I 0, I 0, I 0, .v (.slice none 0 0), .v (.slice none 0 0), .v (.slice none 0 0), .v (.slice none 0 0)] 33 false]⟩ _
    refine En.cond (b := x11) (by kernel_rfl) (fun hb => ?_) (fun hb => ?_)
    · replace h := h.1 hb
      refine En.seq ?_
      refine En.region ?_
      refine WL.run ht hn 3 ⟨[(2, .sv (.one (.ptr 1 0))), (3, .sv (.one (I 7)))], [.gone, .box [I 0, I 0, I 0, .v (.slice none 0 0), .v (.slice none 0 0), .v (.slice none 0 0), .v (.slice none 0 0)] 33 false]⟩ (by kernel_rfl) ?_
      refine WL.nil ?_
      refine En.ret ?_
      refine En.nilBox (T := intT) 1 3 (by rfl) (by rfl) ?_
      refine En.nilBox (T := (lsT intT)) 1 4 (by rfl) (by rfl) ?_
      refine En.nilBox (T := (lsT (lsT intT))) 1 5 (by rfl) (by rfl) ?_
      refine En.nilBox (T := (lsT intT)) 1 6 (by rfl) (by rfl) ?_
      exact En.back ht ((ApiTrans.mk 0 0 0 [] [] [] []), 7) h (by kernel_rfl) rfl
    · replace h := h.2 hb
      refine En.skip ?_
      refine En.seq ?_
      refine En.region ?_
      refine WL.run ht hn 3 ⟨[(2, .sv (.one (.ptr 1 0))), (3, .sv (.one (I 0)))], [.gone, .box [I t.fIn, I t.fOut, I t.fStart, LS intT t.fFirst, LS (lsT intT) t.fNext, LS (lsT (lsT intT)) t.fSays, LS (lsT intT) t.fLast] 33 false]⟩ (by kernel_rfl) ?_
      refine WL.nil ?_
      refine En.ret ?_
      exact En.back ht (t, 0) h (by kernel_rfl) rfl
theorem en56 : ∀ args w, (callFunc 56 args).run Try.prog w = .ok (.enter 56 args) w := enters_of Try.func56 (by kernel_rfl) rfl
def zeroT : ApiTrans := ⟨0, 0, 0, [], [], [], []⟩
def toldR (t : ApiTrans) : ApiTrans × Int := if t.fNext.length > 6 ∨ longR t = true then (zeroT, 7) else (t, 0)
theorem trTold_ct (t : ApiTrans) (hp : t.fNext.length ≤ 6 → SaidPre t)  : Ct 56 [.sv (.agg [I t.fIn, I t.fOut, I t.fStart, LS intT t.fFirst, LS (lsT intT) t.fNext, LS (lsT (lsT intT)) t.fSays, LS (lsT intT) t.fLast])] [] (fun (_ : Unit) => True) (fun _ => .tup [.agg [I (toldR t).1.fIn, I (toldR t).1.fOut, I (toldR t).1.fStart, LS intT (toldR t).1.fFirst, LS (lsT intT) (toldR t).1.fNext, LS (lsT (lsT intT)) (toldR t).1.fSays, LS (lsT intT) (toldR t).1.fLast], .one (I (toldR t).2)]) := by
  refine (trTold_walk t (fun res_ => res_ = (toldR t)) ?_).fun
  intro _ _ _ _
  refine ⟨fun b => b = decide (t.fNext.length > 6 ∨ longR t = true), ⟨fun h => ?_, fun h => ⟨hp (by have := of_decide_eq_false h; omega), ?_⟩⟩, ?_⟩
  · have := of_decide_eq_true h
    exact (decide_eq_true (.inl (by omega))).symm
  · have := of_decide_eq_false h
    cases hl : longR t with
    | true => exact (decide_eq_true (.inr rfl)).symm
    | false => exact (decide_eq_false (fun c => by rcases c with c | c; · omega
                                                   · cases c)).symm
  · rintro b rfl
    refine ⟨fun h => ?_, fun h => ?_⟩
    · show _ = toldR t
      unfold toldR
      rw [if_pos (of_decide_eq_true h)]
      rfl
    · show _ = toldR t
      unfold toldR
      rw [if_neg (of_decide_eq_false h)]
theorem canT_lens (L : Nat) (I O : Int) (first : List Int) (F : OutF) : (canT L I O first F).fSays.length = (canT L I O first F).fNext.length ∧ (canT L I O first F).fLast.length = (canT L I O first F).fNext.length ∧ (∀ r ∈ (canT L I O first F).fSays, r.length = L) ∧ ∀ r ∈ (canT L I O first F).fNext, r.length = L := by
  refine ⟨by simp [canT], by simp [canT], fun r hr => ?_, fun r hr => ?_⟩
  · obtain ⟨k, _, rfl⟩ := List.mem_map.1 hr
    simp
  · obtain ⟨k, _, rfl⟩ := List.mem_map.1 hr
    simp [rowOf]
theorem canG_said {I O : Int} {G : OutF} (hI : I ≤ 4) (h : (canG I O G).fNext.length ≤ 6) : SaidPre (canG I O G) := by
  obtain ⟨h1, h2, h3, _⟩ := canT_lens I.toNat I O (lcpF I.toNat G) (strip I.toNat G)
  unfold canG at h ⊢
  exact ⟨by omega, by omega, fun r hr => by rw [h3 r hr]; omega⟩
noncomputable def leastE (t : ApiTrans) : ApiTrans × Int := if trErr t ≠ 0 then (zeroT, trErr t) else toldR (canG t.fIn t.fOut (funT t))
theorem TrChk.push {t : ApiTrans} (h : TrChk t) : PushPre t := ⟨h.ok, h.shortT.mono (by decide)⟩
def trLeastE_vc (t : ApiTrans) (Q : (ApiTrans × Int) → Prop) : Prop :=
  t.fFirst.length ≤ 9223372036854775807 →
  t.fNext.length ≤ 9223372036854775807 →
  t.fSays.length ≤ 9223372036854775807 →
  t.fLast.length ≤ 9223372036854775807 →
  (IfP ((trErr t) != 0) (Q ((ApiTrans.mk 0 0 0 [] [] [] []), (trErr t))) ((PushPre t) ∧
  (((leastG t)).fNext.length ≤ 6 → SaidPre (leastG t)) ∧
  Q ((toldR (leastG t)).1, (toldR (leastG t)).2)))
theorem trLeastE_walk (t : ApiTrans) (Q : (ApiTrans × Int) → Prop) (h : trLeastE_vc t Q) : Ct 19 [.sv (.agg [I t.fIn, I t.fOut, I t.fStart, LS intT t.fFirst, LS (lsT intT) t.fNext, LS (lsT (lsT intT)) t.fSays, LS (lsT intT) t.fLast])] [] Q (fun (r : (ApiTrans × Int)) => .tup [.agg [I r.1.fIn, I r.1.fOut, I r.1.fStart, LS intT r.1.fFirst, LS (lsT intT) r.1.fNext, LS (lsT (lsT intT)) r.1.fSays, LS (lsT intT) r.1.fLast], .one (I r.2)]) := by
  have ht := tab_ok
  refine Ct.body Try.func19 rfl rfl rfl rfl (fun c hn => ?_)
  unfold trLeastE_vc at h
  refine En.lenA 0 3 (by rfl) (by rfl) (fun hl => ?_)
  replace h := h hl
  clear hl
  refine En.lenA 0 4 (by rfl) (by rfl) (fun hl => ?_)
  replace h := h hl
  clear hl
  refine En.lenA 0 5 (by rfl) (by rfl) (fun hl => ?_)
  replace h := h hl
  clear hl
  refine En.lenA 0 6 (by rfl) (by rfl) (fun hl => ?_)
  replace h := h hl
  clear hl
  refine En.seq ?_
  refine En.region ?_
  refine WL.run ht hn 3 ⟨[(1, .sv (.one (.ptr 0 0))), (2, .sv (.one (.ptr 1 0)))], [.box [I t.fIn, I t.fOut, I t.fStart, LS intT t.fFirst, LS (lsT intT) t.fNext, LS (lsT (lsT intT)) t.fSays, LS (lsT intT) t.fLast] 33 false, .box [I 0, I 0, I 0, .v (.slice none 0 0), .v (.slice none 0 0), .v (.slice none 0 0), .v (.slice none 0 0)] 33 false]⟩ (by kernel_rfl) ?_
  refine WL.nil ?_
  refine En.seq ?_
  refine En.seq ?_
  refine En.region ?_
  refine WL.run ht hn 1 ⟨[(1, .sv (.one (.ptr 0 0))), (2, .sv (.one (.ptr 1 0))), (5, .sv (.agg [I t.fIn, I t.fOut, I t.fStart, LS intT t.fFirst, LS (lsT intT) t.fNext, LS (lsT (lsT intT)) t.fSays, LS (lsT intT) t.fLast]))], [.box [I t.fIn, I t.fOut, I t.fStart, LS intT t.fFirst, LS (lsT intT) t.fNext, LS (lsT (lsT intT)) t.fSays, LS (lsT intT) t.fLast] 33 false, .box [I 0, I 0, I 0, .v (.slice none 0 0), .v (.slice none 0 0), .v (.slice none 0 0), .v (.slice none 0 0)] 33 false]⟩ (by kernel_rfl) ?_
  refine WL.mt0 (K := []) (p := none) hn (by rfl) (mt_call (trCheck_ct t) en55 (caps := []) [] rfl (by rfl) (by kernel_rfl) (by kernel_rfl) (by rfl) (by rfl) (by rfl)) (by rfl) (by rfl) (by rfl) ?_
  refine WL.run ht hn 1 ⟨[(1, .sv (.one (.ptr 0 0))), (2, .sv (.one (.ptr 1 0))), (4, .sv (.one (I (trErr t))))], [.box [I t.fIn, I t.fOut, I t.fStart, LS intT t.fFirst, LS (lsT intT) t.fNext, LS (lsT (lsT intT)) t.fSays, LS (lsT intT) t.fLast] 33 false, .box [I 0, I 0, I 0, .v (.slice none 0 0), .v (.slice none 0 0), .v (.slice none 0 0), .v (.slice none 0 0)] 33 false]⟩ (by kernel_rfl) ?_
  refine WL.nil ?_
  refine En.seq ?_
  refine En.region ?_
  refine WL.run ht hn 2 ⟨[(1, .sv (.one (.ptr 0 0))), (2, .sv (.one (.ptr 1 0))), (4, .sv (.one (I (trErr t)))), (8, .sv (.one (B ((trErr t) != 0))))], [.box [I t.fIn, I t.fOut, I t.fStart, LS intT t.fFirst, LS (lsT intT) t.fNext, LS (lsT (lsT intT)) t.fSays, LS (lsT intT) t.fLast] 33 false, .box [I 0, I 0, I 0, .v (.slice none 0 0), .v (.slice none 0 0), .v (.slice none 0 0), .v (.slice none 0 0)] 33 false]⟩ (by kernel_rfl) ?_
  refine WL.nil ?_
  refine En.cond (b := ((trErr t) != 0)) (by kernel_rfl) (fun hb => ?_) (fun hb => ?_)
  · replace h := h.1 hb
    refine En.seq ?_
    refine En.region ?_
    refine WL.run ht hn 4 ⟨[(2, .sv (.one (.ptr 1 0))), (3, .sv (.one (I (trErr t))))], [.gone, .box [I 0, I 0, I 0, .v (.slice none 0 0), .v (.slice none 0 0), .v (.slice none 0 0), .v (.slice none 0 0)] 33 false]⟩ (by kernel_rfl) ?_
    refine WL.nil ?_
    refine En.ret ?_
    refine En.nilBox (T := intT) 1 3 (by rfl) (by rfl) ?_
    refine En.nilBox (T := (lsT intT)) 1 4 (by rfl) (by rfl) ?_
    refine En.nilBox (T := (lsT (lsT intT))) 1 5 (by rfl) (by rfl) ?_
    refine En.nilBox (T := (lsT intT)) 1 6 (by rfl) (by rfl) ?_
    exact En.back ht ((ApiTrans.mk 0 0 0 [] [] [] []), (trErr t)) h (by kernel_rfl) rfl
  · replace h := h.2 hb
    refine En.skip ?_
    refine En.seq ?_
    refine En.region ?_
    refine WL.run ht hn 1 ⟨[(2, .sv (.one (.ptr 1 0))), (11, .sv (.agg [I t.fIn, I t.fOut, I t.fStart, LS intT t.fFirst, LS (lsT intT) t.fNext, LS (lsT (lsT intT)) t.fSays, LS (lsT intT) t.fLast]))], [.gone, .box [I 0, I 0, I 0, .v (.slice none 0 0), .v (.slice none 0 0), .v (.slice none 0 0), .v (.slice none 0 0)] 33 false]⟩ (by kernel_rfl) ?_
    have hp := h.1
    replace h := h.2
    refine WL.mt0 (K := []) (p := none) hn (by rfl) (mt_call (trLeast_ct t hp) en57 (caps := []) [] rfl (by rfl) (by kernel_rfl) (by kernel_rfl) (by rfl) (by rfl) (by rfl)) (by rfl) (by rfl) (by rfl) ?_
    have hp := h.1
    replace h := h.2
    refine WL.mt0 (K := []) (p := none) hn (by rfl) (mt_call (trTold_ct (leastG t) hp) en56 (caps := []) [] rfl (by rfl) (by kernel_rfl) (by kernel_rfl) (by rfl) (by rfl) (by rfl)) (by rfl) (by rfl) (by rfl) ?_
    refine WL.run ht hn 4 ⟨[(2, .sv (.one (.ptr 1 0))), (3, .sv (.one (I (toldR (leastG t)).2)))], [.gone, .box [I (toldR (leastG t)).1.fIn, I (toldR (leastG t)).1.fOut, I (toldR (leastG t)).1.fStart, LS intT (toldR (leastG t)).1.fFirst, LS (lsT intT) (toldR (leastG t)).1.fNext, LS (lsT (lsT intT)) (toldR (leastG t)).1.fSays, LS (lsT intT) (toldR (leastG t)).1.fLast] 33 false]⟩ (by kernel_rfl) ?_
    refine WL.nil ?_
    refine En.ret ?_
    exact En.back ht ((toldR (leastG t)).1, (toldR (leastG t)).2) h (by kernel_rfl) rfl
theorem en19 : ∀ args w, (callFunc 19 args).run Try.prog w = .ok (.enter 19 args) w := enters_of Try.func19 (by kernel_rfl) rfl
theorem trLeastE_ct (t : ApiTrans)  : Ct 19 [.sv (.agg [I t.fIn, I t.fOut, I t.fStart, LS intT t.fFirst, LS (lsT intT) t.fNext, LS (lsT (lsT intT)) t.fSays, LS (lsT intT) t.fLast])] [] (fun (_ : Unit) => True) (fun _ => .tup [.agg [I (leastE t).1.fIn, I (leastE t).1.fOut, I (leastE t).1.fStart, LS intT (leastE t).1.fFirst, LS (lsT intT) (leastE t).1.fNext, LS (lsT (lsT intT)) (leastE t).1.fSays, LS (lsT intT) (leastE t).1.fLast], .one (I (leastE t).2)]) := by
  refine (trLeastE_walk t (fun res_ => res_ = (leastE t)) ?_).fun
  intro _ _ _ _
  refine ⟨fun h => ?_, fun h => ?_⟩
  · show _ = leastE t
    unfold leastE
    rw [if_pos (by simpa using h)]
    rfl
  · have h : trErr t = 0 := by simpa using h
    have hc := (trErr_iff t).1 h
    refine ⟨hc.push, canG_said hc.in_.2, ?_⟩
    show _ = leastE t
    unfold leastE
    rw [if_neg (by simp [h])]
    rfl
end Go.Proofs.Ytiinkohfldopbaa

/- Contracts of package trans: one behind another. No condition. -/
namespace Go.Proofs.Ytiinkohfldopbaa
open Go.RowKit Go.MapKept
set_option linter.unusedSimpArgs false
set_option linter.unusedVariables false
set_option maxRecDepth 100000

noncomputable def compT (t u : ApiTrans) : OutF := fun w => funT u (nats (funT t w))
noncomputable def behindR (t u : ApiTrans) : ApiTrans × Int :=
  if trErr t ≠ 0 then (zeroT, trErr t) else if trErr u ≠ 0 then (zeroT, trErr u) else if t.fOut ≠ u.fIn then (zeroT, 3) else toldR (canG t.fIn u.fOut (compT t u))
def prodRow (t u : ApiTrans) (i : Nat) : List Int := (List.range t.fIn.toNat).map fun a => ((nxT t (i / u.fNext.length) a * u.fNext.length + (runT u (i % u.fNext.length) (syT t (i / u.fNext.length) a)).2 : Nat) : Int)
def prodSay (t u : ApiTrans) (i : Nat) : List (List Int) := (List.range t.fIn.toNat).map fun a => (runT u (i % u.fNext.length) (syT t (i / u.fNext.length) a)).1
def prodLast (t u : ApiTrans) (i : Nat) : List Int := (runT u (i % u.fNext.length) (laT t (i / u.fNext.length))).1 ++ laT u (runT u (i % u.fNext.length) (laT t (i / u.fNext.length))).2
def prodT (t u : ApiTrans) : ApiTrans :=
  ⟨t.fIn, u.fOut, ((t.fStart.toNat * u.fNext.length + (runT u u.fStart.toNat t.fFirst).2 : Nat) : Int), u.fFirst ++ (runT u u.fStart.toNat t.fFirst).1,
    (List.range (t.fNext.length * u.fNext.length)).map (prodRow t u), (List.range (t.fNext.length * u.fNext.length)).map (prodSay t u), (List.range (t.fNext.length * u.fNext.length)).map (prodLast t u)⟩
theorem pair_div {p r n : Nat} (h : r < n) : (p * n + r) / n = p ∧ (p * n + r) % n = r := by
  rw [Nat.add_comm]
  exact ⟨by rw [Nat.add_mul_div_right _ _ (by omega), Nat.div_eq_of_lt h, Nat.zero_add], by rw [Nat.add_mul_mod_self_right, Nat.mod_eq_of_lt h]⟩
theorem pair_lt {p r m n : Nat} (hp : p < m) (hr : r < n) : p * n + r < m * n := by
  have : (p + 1) * n ≤ m * n := Nat.mul_le_mul_right _ hp
  rw [Nat.succ_mul] at this
  omega
theorem div_in {i m n : Nat} (h : i < m * n) : i / n < m ∧ i % n < n := by
  have hn : 0 < n := by
    rcases Nat.eq_zero_or_pos n with e | e
    · rw [e] at h; simp at h
    · exact e
  exact ⟨Nat.div_lt_of_lt_mul (by rw [Nat.mul_comm]; exact h), Nat.mod_lt _ hn⟩
section
variable {t u : ApiTrans} (ht : TrChk t) (hu : TrChk u) (hio : t.fOut = u.fIn)
include ht hu hio
theorem prod_sy {p r a : Nat} (hp : p < t.fNext.length) (hr : r < u.fNext.length) (ha : a < t.fIn.toNat) : (runT u r (syT t p a)).2 < u.fNext.length ∧ (runT u r (syT t p a)).1.length ≤ 64 := by
  have hl := ht.lok.says p a hp ha
  rw [hio] at hl
  refine ⟨runT_in hu.ok hr hl, ?_⟩
  have h1 := runT_len hu.ok hu.shortT hr hl
  have h2 := ht.shortT.says p a hp ha
  omega
theorem prod_la {p r : Nat} (hp : p < t.fNext.length) (hr : r < u.fNext.length) : (runT u r (laT t p)).2 < u.fNext.length ∧ (runT u r (laT t p)).1.length ≤ 64 := by
  have hl := ht.lok.last p hp
  rw [hio] at hl
  refine ⟨runT_in hu.ok hr hl, ?_⟩
  have h1 := runT_len hu.ok hu.shortT hr hl
  have h2 := ht.shortT.last p hp
  omega
theorem prod_first : (runT u u.fStart.toNat t.fFirst).2 < u.fNext.length ∧ (runT u u.fStart.toNat t.fFirst).1.length ≤ 64 := by
  have hl := ht.lok.first
  rw [hio] at hl
  have hs := hu.start
  refine ⟨runT_in hu.ok (by omega) hl, ?_⟩
  have h1 := runT_len hu.ok hu.shortT (q := u.fStart.toNat) (by omega) hl
  have h2 := ht.shortT.first
  omega
theorem prodT_ok : TrOk (prodT t u) := by
  have hs := ht.start
  have hin := ht.in_
  have h1 := ht.size
  have h2 := hu.size
  have hp1 : 1 * 1 ≤ t.fNext.length * u.fNext.length := Nat.mul_le_mul h1.1 h2.1
  have hp2 : t.fNext.length * u.fNext.length ≤ 6 * 6 := Nat.mul_le_mul h1.2 h2.2
  have hst := pair_lt (p := t.fStart.toNat) (m := t.fNext.length) (by omega) (prod_first ht hu hio).1
  refine ⟨ht.in_, hu.out, by simp only [prodT, List.length_map, List.length_range]; omega, by simp [prodT], by simp [prodT], fun r hr => ?_, fun r hr => ?_, by simp only [prodT, List.length_map, List.length_range]; omega, fun r hr x hx => ?_⟩
  · obtain ⟨i, _, rfl⟩ := List.mem_map.1 hr
    show ((prodRow t u i).length : Int) = t.fIn
    unfold prodRow
    simp
    omega
  · obtain ⟨i, _, rfl⟩ := List.mem_map.1 hr
    show ((prodSay t u i).length : Int) = t.fIn
    unfold prodSay
    simp
    omega
  · obtain ⟨i, hi, rfl⟩ := List.mem_map.1 hr
    obtain ⟨a, ha, rfl⟩ := List.mem_map.1 hx
    obtain ⟨d1, d2⟩ := div_in (List.mem_range.1 hi)
    have ha := List.mem_range.1 ha
    have := pair_lt (ht.ok.nx d1 ha).1 (prod_sy ht hu hio d1 d2 ha).1
    simp only [prodT, List.length_map, List.length_range]
    omega
theorem prodT_is : ProdT t u (prodT t u) := by
  refine ⟨rfl, rfl, by simp [prodT], rfl, Int.toNat_natCast _, fun p r a hp hr ha => ?_, fun p r a hp hr ha => ?_, fun p r hp hr => ?_, prodT_ok ht hu hio⟩
  · show ((((List.range _).map (prodRow t u)).getD _ []).getD a 0).toNat = _
    rw [getD_range (pair_lt hp hr)]
    unfold prodRow
    rw [getD_range ha, (pair_div hr).1, (pair_div hr).2, Int.toNat_natCast]
  · show (((List.range _).map (prodSay t u)).getD _ []).getD a [] = _
    rw [getD_range (pair_lt hp hr)]
    unfold prodSay
    rw [getD_range ha, (pair_div hr).1, (pair_div hr).2]
  · show ((List.range _).map (prodLast t u)).getD _ [] = _
    rw [getD_range (pair_lt hp hr)]
    unfold prodLast
    rw [(pair_div hr).1, (pair_div hr).2]
theorem prodT_push : PushPre (prodT t u) := by
  refine ⟨prodT_ok ht hu hio, ?_, fun q hq => ?_, fun q a hq ha => ?_⟩
  · have h1 := (prod_first ht hu hio).2
    have h2 := hu.shortT.first
    show (u.fFirst ++ _).length ≤ 200
    rw [List.length_append]
    omega
  · have hq : q < t.fNext.length * u.fNext.length := by simpa [prodT] using hq
    obtain ⟨d1, d2⟩ := div_in hq
    have h1 := prod_la ht hu hio d1 d2
    have h2 := hu.shortT.last _ h1.1
    show (((List.range _).map (prodLast t u)).getD q []).length ≤ 200
    rw [getD_range hq]
    unfold prodLast
    rw [List.length_append]
    omega
  · have hq : q < t.fNext.length * u.fNext.length := by simpa [prodT] using hq
    have ha : a < t.fIn.toNat := ha
    obtain ⟨d1, d2⟩ := div_in hq
    have h1 := prod_sy ht hu hio d1 d2 ha
    show ((((List.range _).map (prodSay t u)).getD q []).getD a []).length ≤ 200
    rw [getD_range hq]
    unfold prodSay
    rw [getD_range ha]
    omega
theorem prodT_least : leastG (prodT t u) = canG t.fIn u.fOut (compT t u) := by
  unfold leastG
  exact canG_congr fun w hw => (prodT_is ht hu hio).fun_ ht.ok hu.ok ht.lok hio hw
end
theorem wr_pair {a n s : Nat} (ha : a ≤ 36) (hn : n ≤ 36) (hs : s ≤ 36) : wr ((wr ((a : Int) * (n : Int))) + (s : Int)) = ((a * n + s : Nat) : Int) := by
  have h : a * n ≤ 36 * 36 := Nat.mul_le_mul ha hn
  have e : (a : Int) * (n : Int) = ((a * n : Nat) : Int) := (Int.natCast_mul a n).symm
  rw [e]
  generalize a * n = m at h ⊢
  rw [wr_in (n := ((m : Nat) : Int)) (by omega) (by omega), wr_in (by omega) (by omega)]
  omega
def trBehind_vc (t : ApiTrans) (u : ApiTrans) (Q : (ApiTrans × Int) → Prop) : Prop :=
  t.fFirst.length ≤ 9223372036854775807 →
  t.fNext.length ≤ 9223372036854775807 →
  t.fSays.length ≤ 9223372036854775807 →
  t.fLast.length ≤ 9223372036854775807 →
  u.fFirst.length ≤ 9223372036854775807 →
  u.fNext.length ≤ 9223372036854775807 →
  u.fSays.length ≤ 9223372036854775807 →
  u.fLast.length ≤ 9223372036854775807 →
  (∃ (Inv : Int → Prop) (mu : Int → Nat), Inv 0 ∧
  ∀ (x27 : Int) , Inv x27 → (IfP (decide (x27 < (([t, u] : (List ApiTrans)).length : Int))) (∃ e, idx ([t, u] : (List ApiTrans)) x27 = some e ∧
  IfP ((trErr e) != 0) (Q ((ApiTrans.mk 0 0 0 [] [] [] []), (trErr e))) ((Inv (wr (x27 + 1)) ∧ mu (wr (x27 + 1)) < mu x27))) (IfP (t.fOut != u.fIn) (Q ((ApiTrans.mk 0 0 0 [] [] [] []), 3)) ((RunPre u u.fStart t.fFirst) ∧
  (([u.fFirst, (runI u u.fStart t.fFirst).1] : (List (List Int))).length ≤ 1000000 ∧ ([u.fFirst, (runI u u.fStart t.fFirst).1] : (List (List Int))).flatten.length ≤ 1000000) ∧
  ∃ (Inv_2 : Int → (List (List Int)) → (List (List (List Int))) → (List (List Int)) → Prop) (mu_2 : Int → (List (List Int)) → (List (List (List Int))) → (List (List Int)) → Nat), Inv_2 0 ([] : (List (List Int))) ([] : (List (List (List Int)))) ([] : (List (List Int))) ∧
  ∀ (x75 : Int) (l9 : (List (List Int))) (l10 : (List (List (List Int)))) (l12 : (List (List Int))) , Inv_2 x75 l9 l10 l12 → (IfP (decide (x75 < (t.fNext.length : Int))) (∃ (Inv_3 : Int → (List (List Int)) → (List (List (List Int))) → (List (List Int)) → Prop) (mu_3 : Int → (List (List Int)) → (List (List (List Int))) → (List (List Int)) → Nat), Inv_3 0 l9 l10 l12 ∧
  ∀ (x79 : Int) (l9_2 : (List (List Int))) (l10_2 : (List (List (List Int)))) (l12_2 : (List (List Int))) , Inv_3 x79 l9_2 l10_2 l12_2 → (IfP (decide (x79 < (u.fNext.length : Int))) (makeOk t.fIn t.fIn 8 ∧
  makeOk t.fIn t.fIn 24 ∧
  ∃ e_2, idx t.fNext x75 = some e_2 ∧
  ∃ (Inv_4 : Int → (List Int) → (List (List Int)) → Prop) (mu_4 : Int → (List Int) → (List (List Int)) → Nat), Inv_4 0 (List.replicate (t.fIn).toNat (0 : Int)) (List.replicate (t.fIn).toNat []) ∧
  ∀ (x94 : Int) (l13 : (List Int)) (l14 : (List (List Int))) , Inv_4 x94 l13 l14 → (IfP (decide (x94 < (e_2.length : Int))) (∃ e_3, idx e_2 x94 = some e_3 ∧
  ∃ e_4, idx t.fSays x75 = some e_4 ∧
  ∃ e_5, idx e_4 x94 = some e_5 ∧
  (RunPre u x79 e_5) ∧
  ∃ e_6, idx l13 x94 = some e_6 ∧
  ∃ e_7, idx l14 x94 = some e_7 ∧
  (Inv_4 (wr (x94 + 1)) (l13.set (x94).toNat (wr ((wr (e_3 * (u.fNext.length : Int))) + (runI u x79 e_5).2))) (l14.set (x94).toNat (runI u x79 e_5).1) ∧ mu_4 (wr (x94 + 1)) (l13.set (x94).toNat (wr ((wr (e_3 * (u.fNext.length : Int))) + (runI u x79 e_5).2))) (l14.set (x94).toNat (runI u x79 e_5).1) < mu_4 x94 l13 l14)) (∃ e_8, idx t.fLast x75 = some e_8 ∧
  (RunPre u x79 e_8) ∧
  capOk l9_2.length (([l13] : (List (List Int))) : (List (List Int))).length 24 ∧
  capOk l10_2.length (([l14] : (List (List (List Int)))) : (List (List (List Int)))).length 24 ∧
  ∃ e_9, idx u.fLast (runI u x79 e_8).2 = some e_9 ∧
  (([(runI u x79 e_8).1, e_9] : (List (List Int))).length ≤ 1000000 ∧ ([(runI u x79 e_8).1, e_9] : (List (List Int))).flatten.length ≤ 1000000) ∧
  capOk l12_2.length (([(([(runI u x79 e_8).1, e_9] : (List (List Int))).flatten)] : (List (List Int))) : (List (List Int))).length 24 ∧
  (Inv_3 (wr (x79 + 1)) (l9_2 ++ ([l13] : (List (List Int)))) (l10_2 ++ ([l14] : (List (List (List Int))))) (l12_2 ++ ([(([(runI u x79 e_8).1, e_9] : (List (List Int))).flatten)] : (List (List Int)))) ∧ mu_3 (wr (x79 + 1)) (l9_2 ++ ([l13] : (List (List Int)))) (l10_2 ++ ([l14] : (List (List (List Int))))) (l12_2 ++ ([(([(runI u x79 e_8).1, e_9] : (List (List Int))).flatten)] : (List (List Int)))) < mu_3 x79 l9_2 l10_2 l12_2)))) ((Inv_2 (wr (x75 + 1)) l9_2 l10_2 l12_2 ∧ mu_2 (wr (x75 + 1)) l9_2 l10_2 l12_2 < mu_2 x75 l9 l10 l12)))) ((PushPre (ApiTrans.mk t.fIn u.fOut (wr ((wr (t.fStart * (u.fNext.length : Int))) + (runI u u.fStart t.fFirst).2)) (([u.fFirst, (runI u u.fStart t.fFirst).1] : (List (List Int))).flatten) l9 l10 l12)) ∧
  (((leastG (ApiTrans.mk t.fIn u.fOut (wr ((wr (t.fStart * (u.fNext.length : Int))) + (runI u u.fStart t.fFirst).2)) (([u.fFirst, (runI u u.fStart t.fFirst).1] : (List (List Int))).flatten) l9 l10 l12))).fNext.length ≤ 6 → SaidPre (leastG (ApiTrans.mk t.fIn u.fOut (wr ((wr (t.fStart * (u.fNext.length : Int))) + (runI u u.fStart t.fFirst).2)) (([u.fFirst, (runI u u.fStart t.fFirst).1] : (List (List Int))).flatten) l9 l10 l12))) ∧
  Q ((toldR (leastG (ApiTrans.mk t.fIn u.fOut (wr ((wr (t.fStart * (u.fNext.length : Int))) + (runI u u.fStart t.fFirst).2)) (([u.fFirst, (runI u u.fStart t.fFirst).1] : (List (List Int))).flatten) l9 l10 l12))).1, (toldR (leastG (ApiTrans.mk t.fIn u.fOut (wr ((wr (t.fStart * (u.fNext.length : Int))) + (runI u u.fStart t.fFirst).2)) (([u.fFirst, (runI u u.fStart t.fFirst).1] : (List (List Int))).flatten) l9 l10 l12))).2)))))))
set_option maxHeartbeats 2000000 in
theorem trBehind_walk (t : ApiTrans) (u : ApiTrans) (Q : (ApiTrans × Int) → Prop) (h : trBehind_vc t u Q) : Ct 20 [.sv (.agg [I t.fIn, I t.fOut, I t.fStart, LS intT t.fFirst, LS (lsT intT) t.fNext, LS (lsT (lsT intT)) t.fSays, LS (lsT intT) t.fLast]), .sv (.agg [I u.fIn, I u.fOut, I u.fStart, LS intT u.fFirst, LS (lsT intT) u.fNext, LS (lsT (lsT intT)) u.fSays, LS (lsT intT) u.fLast])] [] Q (fun (r : (ApiTrans × Int)) => .tup [.agg [I r.1.fIn, I r.1.fOut, I r.1.fStart, LS intT r.1.fFirst, LS (lsT intT) r.1.fNext, LS (lsT (lsT intT)) r.1.fSays, LS (lsT intT) r.1.fLast], .one (I r.2)]) := by
  have ht := tab_ok
  refine Ct.body Try.func20 rfl rfl rfl rfl (fun c hn => ?_)
  unfold trBehind_vc at h
  refine En.lenA 0 3 (by rfl) (by rfl) (fun hl => ?_)
  replace h := h hl
  clear hl
  refine En.lenA 0 4 (by rfl) (by rfl) (fun hl => ?_)
  replace h := h hl
  clear hl
  refine En.lenA 0 5 (by rfl) (by rfl) (fun hl => ?_)
  replace h := h hl
  clear hl
  refine En.lenA 0 6 (by rfl) (by rfl) (fun hl => ?_)
  replace h := h hl
  clear hl
  refine En.lenA 1 3 (by rfl) (by rfl) (fun hl => ?_)
  replace h := h hl
  clear hl
  refine En.lenA 1 4 (by rfl) (by rfl) (fun hl => ?_)
  replace h := h hl
  clear hl
  refine En.lenA 1 5 (by rfl) (by rfl) (fun hl => ?_)
  replace h := h hl
  clear hl
  refine En.lenA 1 6 (by rfl) (by rfl) (fun hl => ?_)
  replace h := h hl
  clear hl
  refine En.seq ?_
  refine En.region ?_
  refine WL.run ht hn 4 ⟨[(2, .sv (.one (.ptr 0 0))), (3, .sv (.one (.ptr 1 0))), (4, .sv (.one (.ptr 2 0)))], [.box [I t.fIn, I t.fOut, I t.fStart, LS intT t.fFirst, LS (lsT intT) t.fNext, LS (lsT (lsT intT)) t.fSays, LS (lsT intT) t.fLast] 33 false, .box [I u.fIn, I u.fOut, I u.fStart, LS intT u.fFirst, LS (lsT intT) u.fNext, LS (lsT (lsT intT)) u.fSays, LS (lsT intT) u.fLast] 33 false, .box [I 0, I 0, I 0, .v (.slice none 0 0), .v (.slice none 0 0), .v (.slice none 0 0), .v (.slice none 0 0)] 33 false]⟩ (by kernel_rfl) ?_
  refine WL.nil ?_
  refine En.seq ?_
  refine En.seq ?_
  refine En.region ?_
  refine WL.run ht hn 2 ⟨[(2, .sv (.one (.ptr 0 0))), (3, .sv (.one (.ptr 1 0))), (4, .sv (.one (.ptr 2 0))), (23, .sv (.agg [I t.fIn, I t.fOut, I t.fStart, LS intT t.fFirst, LS (lsT intT) t.fNext, LS (lsT (lsT intT)) t.fSays, LS (lsT intT) t.fLast])), (24, .sv (.agg [I u.fIn, I u.fOut, I u.fStart, LS intT u.fFirst, LS (lsT intT) u.fNext, LS (lsT (lsT intT)) u.fSays, LS (lsT intT) u.fLast]))], [.box [I t.fIn, I t.fOut, I t.fStart, LS intT t.fFirst, LS (lsT intT) t.fNext, LS (lsT (lsT intT)) t.fSays, LS (lsT intT) t.fLast] 33 false, .box [I u.fIn, I u.fOut, I u.fStart, LS intT u.fFirst, LS (lsT intT) u.fNext, LS (lsT (lsT intT)) u.fSays, LS (lsT intT) u.fLast] 33 false, .box [I 0, I 0, I 0, .v (.slice none 0 0), .v (.slice none 0 0), .v (.slice none 0 0), .v (.slice none 0 0)] 33 false]⟩ (by kernel_rfl) ?_
  refine WL.mt0 (K := []) (p := some (3, rowI 33 ApiTrans.ty ([t, u] : (List ApiTrans)))) hn (by rfl) (mt_lit (T := ApiTrans.ty) ([t, u] : (List ApiTrans)) (mt_bsl 3 (r := cellsOf ApiTrans.ty ([t, u] : (List ApiTrans))) ht rfl (by rfl) (by rfl) (by rfl) (by kernel_rfl) (by rfl)) (fun _ h => by cases h) (fun _ => rfl) (fun _ => rfl) (by rfl) (Nat.le_of_ble_eq_true rfl)) (by rfl) (by rfl) (by rfl) ?_
  refine WL.run ht hn 2 ⟨[(2, .sv (.one (.ptr 0 0))), (3, .sv (.one (.ptr 1 0))), (4, .sv (.one (.ptr 2 0))), (25, .sv (.one (.own 3))), (26, .sv (.one (I (([t, u] : (List ApiTrans)).length : Int)))), (27, .sv (.one (I 0)))], [.box [I t.fIn, I t.fOut, I t.fStart, LS intT t.fFirst, LS (lsT intT) t.fNext, LS (lsT (lsT intT)) t.fSays, LS (lsT intT) t.fLast] 33 false, .box [I u.fIn, I u.fOut, I u.fStart, LS intT u.fFirst, LS (lsT intT) u.fNext, LS (lsT (lsT intT)) u.fSays, LS (lsT intT) u.fLast] 33 false, .box [I 0, I 0, I 0, .v (.slice none 0 0), .v (.slice none 0 0), .v (.slice none 0 0), .v (.slice none 0 0)] 33 false, rowI 33 ApiTrans.ty ([t, u] : (List ApiTrans))]⟩ (by kernel_rfl) ?_
  refine WL.nil ?_
  refine En.block ?_
  obtain ⟨Inv, mu, h0_4, hI_4⟩ := h
  refine En.loop (σ := Int) (fun zz => Inv zz) (fun zz => mu zz) (fun zz => ⟨[(2, .sv (.one (.ptr 0 0))), (3, .sv (.one (.ptr 1 0))), (4, .sv (.one (.ptr 2 0))), (25, .sv (.one (.own 3))), (26, .sv (.one (I (([t, u] : (List ApiTrans)).length : Int)))), (27, .sv (.one (I zz)))], [.box [I t.fIn, I t.fOut, I t.fStart, LS intT t.fFirst, LS (lsT intT) t.fNext, LS (lsT (lsT intT)) t.fSays, LS (lsT intT) t.fLast] 33 false, .box [I u.fIn, I u.fOut, I u.fStart, LS intT u.fFirst, LS (lsT intT) u.fNext, LS (lsT (lsT intT)) u.fSays, LS (lsT intT) u.fLast] 33 false, .box [I 0, I 0, I 0, .v (.slice none 0 0), .v (.slice none 0 0), .v (.slice none 0 0), .v (.slice none 0 0)] 33 false, rowI 33 ApiTrans.ty ([t, u] : (List ApiTrans))]⟩) 0 h0_4 (sub_ok (by kernel_rfl)) ?_
  intro x27 h
  replace h := hI_4 _ h
  show En c ⟨[(2, .sv (.one (.ptr 0 0))), (3, .sv (.one (.ptr 1 0))), (4, .sv (.one (.ptr 2 0))), (25, .sv (.one (.own 3))), (26, .sv (.one (I (([t, u] : (List ApiTrans)).length : Int)))), (27, .sv (.one (I x27)))], [.box [I t.fIn, I t.fOut, I t.fStart, LS intT t.fFirst, LS (lsT intT) t.fNext, LS (lsT (lsT intT)) t.fSays, LS (lsT intT) t.fLast] 33 false, .box [I u.fIn, I u.fOut, I u.fStart, LS intT u.fFirst, LS (lsT intT) u.fNext, LS (lsT (lsT intT)) u.fSays, LS (lsT intT) u.fLast] 33 false, .box [I 0, I 0, I 0, .v (.slice none 0 0), .v (.slice none 0 0), .v (.slice none 0 0), .v (.slice none 0 0)] 33 false, rowI 33 ApiTrans.ty ([t, u] : (List ApiTrans))]⟩ _
  refine En.seq ?_
  refine En.region ?_
  refine WL.run ht hn 1 ⟨[(2, .sv (.one (.ptr 0 0))), (3, .sv (.one (.ptr 1 0))), (4, .sv (.one (.ptr 2 0))), (25, .sv (.one (.own 3))), (26, .sv (.one (I (([t, u] : (List ApiTrans)).length : Int)))), (27, .sv (.one (I x27))), (28, .sv (.one (B (decide (x27 < (([t, u] : (List ApiTrans)).length : Int))))))], [.box [I t.fIn, I t.fOut, I t.fStart, LS intT t.fFirst, LS (lsT intT) t.fNext, LS (lsT (lsT intT)) t.fSays, LS (lsT intT) t.fLast] 33 false, .box [I u.fIn, I u.fOut, I u.fStart, LS intT u.fFirst, LS (lsT intT) u.fNext, LS (lsT (lsT intT)) u.fSays, LS (lsT intT) u.fLast] 33 false, .box [I 0, I 0, I 0, .v (.slice none 0 0), .v (.slice none 0 0), .v (.slice none 0 0), .v (.slice none 0 0)] 33 false, rowI 33 ApiTrans.ty ([t, u] : (List ApiTrans))]⟩ (by kernel_rfl) ?_
  refine WL.nil ?_
  refine En.seq ?_
  refine En.cond (b := (decide (x27 < (([t, u] : (List ApiTrans)).length : Int)))) (by kernel_rfl) (fun hb => ?_) (fun hb => ?_)
  · replace h := h.1 hb
    refine En.skip ?_
    refine En.seq ?_
    refine En.block ?_
    refine En.seq ?_
    refine En.region ?_
    obtain ⟨e, he, h⟩ := h
    refine WL.val hn (by rfl) (val_indexO (T := ApiTrans.ty) (l := ([t, u] : (List ApiTrans))) (k := x27) ht rfl (by rfl) (by rfl) (by rfl) (by rfl) (by decide) (by rfl) (by rfl) (by rfl) he) (by rfl) ?_
    refine WL.val hn (by rfl) (val_loadO (T := ApiTrans.ty) (l := ([t, u] : (List ApiTrans))) (y := e) ht rfl (by rfl) (by rfl) (by rfl) (by rfl) (by rfl) (idx_some he).2.2 (by rfl)) (by rfl) ?_
    refine WL.run ht hn 2 ⟨[(2, .sv (.one (.ptr 0 0))), (3, .sv (.one (.ptr 1 0))), (4, .sv (.one (.ptr 2 0))), (7, .sv (.one (.ptr 4 0))), (25, .sv (.one (.own 3))), (26, .sv (.one (I (([t, u] : (List ApiTrans)).length : Int)))), (27, .sv (.one (I x27)))], [.box [I t.fIn, I t.fOut, I t.fStart, LS intT t.fFirst, LS (lsT intT) t.fNext, LS (lsT (lsT intT)) t.fSays, LS (lsT intT) t.fLast] 33 false, .box [I u.fIn, I u.fOut, I u.fStart, LS intT u.fFirst, LS (lsT intT) u.fNext, LS (lsT (lsT intT)) u.fSays, LS (lsT intT) u.fLast] 33 false, .box [I 0, I 0, I 0, .v (.slice none 0 0), .v (.slice none 0 0), .v (.slice none 0 0), .v (.slice none 0 0)] 33 false, rowI 33 ApiTrans.ty ([t, u] : (List ApiTrans)), .box [I e.fIn, I e.fOut, I e.fStart, LS intT e.fFirst, LS (lsT intT) e.fNext, LS (lsT (lsT intT)) e.fSays, LS (lsT intT) e.fLast] 33 false]⟩ (by kernel_rfl) ?_
    refine WL.nil ?_
    refine En.seq ?_
    refine En.region ?_
    refine WL.run ht hn 1 ⟨[(2, .sv (.one (.ptr 0 0))), (3, .sv (.one (.ptr 1 0))), (4, .sv (.one (.ptr 2 0))), (25, .sv (.one (.own 3))), (26, .sv (.one (I (([t, u] : (List ApiTrans)).length : Int)))), (27, .sv (.one (I x27))), (31, .sv (.agg [I e.fIn, I e.fOut, I e.fStart, LS intT e.fFirst, LS (lsT intT) e.fNext, LS (lsT (lsT intT)) e.fSays, LS (lsT intT) e.fLast]))], [.box [I t.fIn, I t.fOut, I t.fStart, LS intT t.fFirst, LS (lsT intT) t.fNext, LS (lsT (lsT intT)) t.fSays, LS (lsT intT) t.fLast] 33 false, .box [I u.fIn, I u.fOut, I u.fStart, LS intT u.fFirst, LS (lsT intT) u.fNext, LS (lsT (lsT intT)) u.fSays, LS (lsT intT) u.fLast] 33 false, .box [I 0, I 0, I 0, .v (.slice none 0 0), .v (.slice none 0 0), .v (.slice none 0 0), .v (.slice none 0 0)] 33 false, rowI 33 ApiTrans.ty ([t, u] : (List ApiTrans)), .gone]⟩ (by kernel_rfl) ?_
    refine WL.mt0 (K := []) (p := none) hn (by rfl) (mt_call (trCheck_ct e) en55 (caps := []) [] rfl (by rfl) (by kernel_rfl) (by kernel_rfl) (by rfl) (by rfl) (by rfl)) (by rfl) (by rfl) (by rfl) ?_
    refine WL.run ht hn 1 ⟨[(2, .sv (.one (.ptr 0 0))), (3, .sv (.one (.ptr 1 0))), (4, .sv (.one (.ptr 2 0))), (8, .sv (.one (I (trErr e)))), (25, .sv (.one (.own 3))), (26, .sv (.one (I (([t, u] : (List ApiTrans)).length : Int)))), (27, .sv (.one (I x27)))], [.box [I t.fIn, I t.fOut, I t.fStart, LS intT t.fFirst, LS (lsT intT) t.fNext, LS (lsT (lsT intT)) t.fSays, LS (lsT intT) t.fLast] 33 false, .box [I u.fIn, I u.fOut, I u.fStart, LS intT u.fFirst, LS (lsT intT) u.fNext, LS (lsT (lsT intT)) u.fSays, LS (lsT intT) u.fLast] 33 false, .box [I 0, I 0, I 0, .v (.slice none 0 0), .v (.slice none 0 0), .v (.slice none 0 0), .v (.slice none 0 0)] 33 false, rowI 33 ApiTrans.ty ([t, u] : (List ApiTrans)), .gone]⟩ (by kernel_rfl) ?_
    refine WL.nil ?_
    refine En.seq ?_
    refine En.region ?_
    refine WL.run ht hn 2 ⟨[(2, .sv (.one (.ptr 0 0))), (3, .sv (.one (.ptr 1 0))), (4, .sv (.one (.ptr 2 0))), (8, .sv (.one (I (trErr e)))), (25, .sv (.one (.own 3))), (26, .sv (.one (I (([t, u] : (List ApiTrans)).length : Int)))), (27, .sv (.one (I x27))), (34, .sv (.one (B ((trErr e) != 0))))], [.box [I t.fIn, I t.fOut, I t.fStart, LS intT t.fFirst, LS (lsT intT) t.fNext, LS (lsT (lsT intT)) t.fSays, LS (lsT intT) t.fLast] 33 false, .box [I u.fIn, I u.fOut, I u.fStart, LS intT u.fFirst, LS (lsT intT) u.fNext, LS (lsT (lsT intT)) u.fSays, LS (lsT intT) u.fLast] 33 false, .box [I 0, I 0, I 0, .v (.slice none 0 0), .v (.slice none 0 0), .v (.slice none 0 0), .v (.slice none 0 0)] 33 false, rowI 33 ApiTrans.ty ([t, u] : (List ApiTrans)), .gone]⟩ (by kernel_rfl) ?_
    refine WL.nil ?_
    refine En.cond (b := ((trErr e) != 0)) (by kernel_rfl) (fun hb => ?_) (fun hb => ?_)
    · replace h := h.1 hb
      refine En.seq ?_
      refine En.region ?_
      refine WL.run ht hn 4 ⟨[(4, .sv (.one (.ptr 2 0))), (5, .sv (.one (I (trErr e))))], [.gone, .gone, .box [I 0, I 0, I 0, .v (.slice none 0 0), .v (.slice none 0 0), .v (.slice none 0 0), .v (.slice none 0 0)] 33 false, .gone, .gone]⟩ (by kernel_rfl) ?_
      refine WL.nil ?_
      refine En.ret ?_
      refine En.nilBox (T := intT) 2 3 (by rfl) (by rfl) ?_
      refine En.nilBox (T := (lsT intT)) 2 4 (by rfl) (by rfl) ?_
      refine En.nilBox (T := (lsT (lsT intT))) 2 5 (by rfl) (by rfl) ?_
      refine En.nilBox (T := (lsT intT)) 2 6 (by rfl) (by rfl) ?_
      exact En.back ht ((ApiTrans.mk 0 0 0 [] [] [] []), (trErr e)) h (by kernel_rfl) rfl
    · replace h := h.2 hb
      refine En.skip ?_
      refine En.region ?_
      refine WL.run ht hn 2 ⟨[(2, .sv (.one (.ptr 0 0))), (3, .sv (.one (.ptr 1 0))), (4, .sv (.one (.ptr 2 0))), (25, .sv (.one (.own 3))), (26, .sv (.one (I (([t, u] : (List ApiTrans)).length : Int)))), (27, .sv (.one (I (wr (x27 + 1)))))], [.box [I t.fIn, I t.fOut, I t.fStart, LS intT t.fFirst, LS (lsT intT) t.fNext, LS (lsT (lsT intT)) t.fSays, LS (lsT intT) t.fLast] 33 false, .box [I u.fIn, I u.fOut, I u.fStart, LS intT u.fFirst, LS (lsT intT) u.fNext, LS (lsT (lsT intT)) u.fSays, LS (lsT intT) u.fLast] 33 false, .box [I 0, I 0, I 0, .v (.slice none 0 0), .v (.slice none 0 0), .v (.slice none 0 0), .v (.slice none 0 0)] 33 false, rowI 33 ApiTrans.ty ([t, u] : (List ApiTrans)), .gone]⟩ (by kernel_rfl) ?_
      refine WL.nil ?_
      exact En.at (I := fun zz => Inv zz ∧ mu zz < mu x27) (T := fun zz => ⟨[(2, .sv (.one (.ptr 0 0))), (3, .sv (.one (.ptr 1 0))), (4, .sv (.one (.ptr 2 0))), (25, .sv (.one (.own 3))), (26, .sv (.one (I (([t, u] : (List ApiTrans)).length : Int)))), (27, .sv (.one (I zz)))], [.box [I t.fIn, I t.fOut, I t.fStart, LS intT t.fFirst, LS (lsT intT) t.fNext, LS (lsT (lsT intT)) t.fSays, LS (lsT intT) t.fLast] 33 false, .box [I u.fIn, I u.fOut, I u.fStart, LS intT u.fFirst, LS (lsT intT) u.fNext, LS (lsT (lsT intT)) u.fSays, LS (lsT intT) u.fLast] 33 false, .box [I 0, I 0, I 0, .v (.slice none 0 0), .v (.slice none 0 0), .v (.slice none 0 0), .v (.slice none 0 0)] 33 false, rowI 33 ApiTrans.ty ([t, u] : (List ApiTrans))]⟩) (wr (x27 + 1)) h (by kernel_rfl)
  · replace h := h.2 hb
    refine En.exit rfl ?_
    refine En.seq ?_
    refine En.seq ?_
    refine En.region ?_
    refine WL.run ht hn 5 ⟨[(2, .sv (.one (.ptr 0 0))), (3, .sv (.one (.ptr 1 0))), (4, .sv (.one (.ptr 2 0))), (42, .sv (.one (B (t.fOut != u.fIn))))], [.box [I t.fIn, I t.fOut, I t.fStart, LS intT t.fFirst, LS (lsT intT) t.fNext, LS (lsT (lsT intT)) t.fSays, LS (lsT intT) t.fLast] 33 false, .box [I u.fIn, I u.fOut, I u.fStart, LS intT u.fFirst, LS (lsT intT) u.fNext, LS (lsT (lsT intT)) u.fSays, LS (lsT intT) u.fLast] 33 false, .box [I 0, I 0, I 0, .v (.slice none 0 0), .v (.slice none 0 0), .v (.slice none 0 0), .v (.slice none 0 0)] 33 false, .gone]⟩ (by kernel_rfl) ?_
    refine WL.nil ?_
    refine En.cond (b := (t.fOut != u.fIn)) (by kernel_rfl) (fun hb => ?_) (fun hb => ?_)
    · replace h := h.1 hb
      refine En.seq ?_
      refine En.region ?_
      refine WL.run ht hn 3 ⟨[(4, .sv (.one (.ptr 2 0))), (5, .sv (.one (I 3)))], [.gone, .gone, .box [I 0, I 0, I 0, .v (.slice none 0 0), .v (.slice none 0 0), .v (.slice none 0 0), .v (.slice none 0 0)] 33 false, .gone]⟩ (by kernel_rfl) ?_
      refine WL.nil ?_
      refine En.ret ?_
      refine En.nilBox (T := intT) 2 3 (by rfl) (by rfl) ?_
      refine En.nilBox (T := (lsT intT)) 2 4 (by rfl) (by rfl) ?_
      refine En.nilBox (T := (lsT (lsT intT))) 2 5 (by rfl) (by rfl) ?_
      refine En.nilBox (T := (lsT intT)) 2 6 (by rfl) (by rfl) ?_
      exact En.back ht ((ApiTrans.mk 0 0 0 [] [] [] []), 3) h (by kernel_rfl) rfl
    · replace h := h.2 hb
      refine En.skip ?_
      refine En.seq ?_
      refine En.region ?_
      refine WL.run ht hn 4 ⟨[(2, .sv (.one (.ptr 0 0))), (3, .sv (.one (.ptr 1 0))), (4, .sv (.one (.ptr 2 0))), (9, .sv (.one (I (u.fNext.length : Int))))], [.box [I t.fIn, I t.fOut, I t.fStart, LS intT t.fFirst, LS (lsT intT) t.fNext, LS (lsT (lsT intT)) t.fSays, LS (lsT intT) t.fLast] 33 false, .box [I u.fIn, I u.fOut, I u.fStart, LS intT u.fFirst, LS (lsT intT) u.fNext, LS (lsT (lsT intT)) u.fSays, LS (lsT intT) u.fLast] 33 false, .box [I 0, I 0, I 0, .v (.slice none 0 0), .v (.slice none 0 0), .v (.slice none 0 0), .v (.slice none 0 0)] 33 false, .gone]⟩ (by kernel_rfl) ?_
      refine WL.nil ?_
      refine En.seq ?_
      refine En.region ?_
      refine WL.run ht hn 5 ⟨[(2, .sv (.one (.ptr 0 0))), (3, .sv (.one (.ptr 1 0))), (4, .sv (.one (.ptr 2 0))), (9, .sv (.one (I (u.fNext.length : Int)))), (48, .sv (.agg [I u.fIn, I u.fOut, I u.fStart, LS intT u.fFirst, LS (lsT intT) u.fNext, LS (lsT (lsT intT)) u.fSays, LS (lsT intT) u.fLast])), (50, .sv (.one (I u.fStart))), (52, .sv (.one (LS intT t.fFirst)))], [.box [I t.fIn, I t.fOut, I t.fStart, LS intT t.fFirst, LS (lsT intT) t.fNext, LS (lsT (lsT intT)) t.fSays, LS (lsT intT) t.fLast] 33 false, .box [I u.fIn, I u.fOut, I u.fStart, LS intT u.fFirst, LS (lsT intT) u.fNext, LS (lsT (lsT intT)) u.fSays, LS (lsT intT) u.fLast] 33 false, .box [I 0, I 0, I 0, .v (.slice none 0 0), .v (.slice none 0 0), .v (.slice none 0 0), .v (.slice none 0 0)] 33 false, .gone]⟩ (by kernel_rfl) ?_
      have hp := h.1
      replace h := h.2
      refine WL.mt0 (K := []) (p := none) hn (by rfl) (mt_call (trRun_ct u u.fStart t.fFirst hp) en58 (caps := []) [] rfl (by rfl) (by kernel_rfl) (by kernel_rfl) (by rfl) (by rfl) (by rfl)) (by rfl) (by rfl) (by rfl) ?_
      refine WL.run ht hn 5 ⟨[(2, .sv (.one (.ptr 0 0))), (3, .sv (.one (.ptr 1 0))), (4, .sv (.one (.ptr 2 0))), (9, .sv (.one (I (u.fNext.length : Int)))), (10, .sv (.one (LS intT (runI u u.fStart t.fFirst).1))), (11, .sv (.one (I (runI u u.fStart t.fFirst).2)))], [.box [I t.fIn, I t.fOut, I t.fStart, LS intT t.fFirst, LS (lsT intT) t.fNext, LS (lsT (lsT intT)) t.fSays, LS (lsT intT) t.fLast] 33 false, .box [I u.fIn, I u.fOut, I u.fStart, LS intT u.fFirst, LS (lsT intT) u.fNext, LS (lsT (lsT intT)) u.fSays, LS (lsT intT) u.fLast] 33 false, .box [I 0, I 0, I 0, .v (.slice none 0 0), .v (.slice none 0 0), .v (.slice none 0 0), .v (.slice none 0 0)] 33 false, .gone]⟩ (by kernel_rfl) ?_
      refine WL.nil ?_
      refine En.seq ?_
      have hp_2 := h.1
      replace h := h.2
      refine En.regionA ⟨[(2, .sv (.one (.ptr 0 0))), (3, .sv (.one (.ptr 1 0))), (4, .sv (.one (.ptr 2 0))), (9, .sv (.one (I (u.fNext.length : Int)))), (10, .sv (.one (LS intT (runI u u.fStart t.fFirst).1))), (11, .sv (.one (I (runI u u.fStart t.fFirst).2)))], [.sv (.one (.ptr 0 0)), .sv (.one (I t.fIn)), .sv (.one (.ptr 1 1)), .sv (.one (I u.fOut)), .sv (.one (.ptr 0 2)), .sv (.one (I t.fStart)), .sv (.one (I (u.fNext.length : Int))), .sv (.one (I (wr (t.fStart * (u.fNext.length : Int))))), .sv (.one (I (runI u u.fStart t.fFirst).2)), .sv (.one (I (wr ((wr (t.fStart * (u.fNext.length : Int))) + (runI u u.fStart t.fFirst).2)))), .sv (.one (.ptr 1 3)), .sv (.one (LS intT u.fFirst)), .sv (.one (LS intT (runI u u.fStart t.fFirst).1)), .sv (.one (.own 4)), .sv (.one (.own 5)), .sv (.agg [I t.fIn, I u.fOut, I (wr ((wr (t.fStart * (u.fNext.length : Int))) + (runI u u.fStart t.fFirst).2)), .own 5, .v (.slice none 0 0), .v (.slice none 0 0), .v (.slice none 0 0)]), .sv (.one (.ptr 6 0)), .tup []], [⟨.box [I t.fIn, I t.fOut, I t.fStart, LS intT t.fFirst, LS (lsT intT) t.fNext, LS (lsT (lsT intT)) t.fSays, LS (lsT intT) t.fLast] 33 false, none, none, none⟩, ⟨.box [I u.fIn, I u.fOut, I u.fStart, LS intT u.fFirst, LS (lsT intT) u.fNext, LS (lsT (lsT intT)) u.fSays, LS (lsT intT) u.fLast] 33 false, none, none, none⟩, ⟨.box [I 0, I 0, I 0, .v (.slice none 0 0), .v (.slice none 0 0), .v (.slice none 0 0), .v (.slice none 0 0)] 33 false, none, none, none⟩, ⟨.gone, none, none, none⟩, ⟨rowI 23 (lsT intT) ([u.fFirst, (runI u u.fStart t.fFirst).1] : (List (List Int))), some 13, none, none⟩, ⟨rowI 3 intT (([u.fFirst, (runI u u.fStart t.fFirst).1] : (List (List Int))).flatten), some 14, none, none⟩, ⟨.box [I 0, I 0, I 0, .v (.slice none 0 0), .v (.slice none 0 0), .v (.slice none 0 0), .v (.slice none 0 0)] 33 false, some 16, none, some (17, .box [I t.fIn, I u.fOut, I (wr ((wr (t.fStart * (u.fNext.length : Int))) + (runI u u.fStart t.fFirst).2)), .own 5, .v (.slice none 0 0), .v (.slice none 0 0), .v (.slice none 0 0)] 33 false)⟩]⟩ ⟨[(2, .sv (.one (.ptr 0 0))), (3, .sv (.one (.ptr 1 0))), (4, .sv (.one (.ptr 2 0))), (9, .sv (.one (I (u.fNext.length : Int)))), (12, .sv (.one (.ptr 6 0)))], [.box [I t.fIn, I t.fOut, I t.fStart, LS intT t.fFirst, LS (lsT intT) t.fNext, LS (lsT (lsT intT)) t.fSays, LS (lsT intT) t.fLast] 33 false, .box [I u.fIn, I u.fOut, I u.fStart, LS intT u.fFirst, LS (lsT intT) u.fNext, LS (lsT (lsT intT)) u.fSays, LS (lsT intT) u.fLast] 33 false, .box [I 0, I 0, I 0, .v (.slice none 0 0), .v (.slice none 0 0), .v (.slice none 0 0), .v (.slice none 0 0)] 33 false, .gone, .gone, rowI 3 intT (([u.fFirst, (runI u u.fStart t.fFirst).1] : (List (List Int))).flatten), .box [I t.fIn, I u.fOut, I (wr ((wr (t.fStart * (u.fNext.length : Int))) + (runI u u.fStart t.fFirst).2)), .own 5, .v (.slice none 0 0), .v (.slice none 0 0), .v (.slice none 0 0)] 33 false]⟩ (by kernel_rfl) hn (by kernel_rfl) (by rfl) (by kernel_rfl) ?_ (by kernel_rfl) ?_
      · exact ⟨.mt ⟨[(2, .sv (.one (.ptr 0 0)))], []⟩ [] none (by kernel_rfl) (by rfl) (mt_ev ht (by kernel_rfl)) rfl rfl rfl rfl,
    .mt ⟨[(56, .sv (.one (.ptr 0 0)))], [.box [I t.fIn, I t.fOut, I t.fStart, LS intT t.fFirst, LS (lsT intT) t.fNext, LS (lsT (lsT intT)) t.fSays, LS (lsT intT) t.fLast] 33 false]⟩ [] none (by kernel_rfl) (by rfl) (mt_ev ht (by kernel_rfl)) rfl rfl rfl rfl,
    .mt ⟨[(3, .sv (.one (.ptr 1 0)))], []⟩ [] none (by kernel_rfl) (by rfl) (mt_ev ht (by kernel_rfl)) rfl rfl rfl rfl,
    .mt ⟨[(58, .sv (.one (.ptr 1 1)))], [.gone, .box [I u.fIn, I u.fOut, I u.fStart, LS intT u.fFirst, LS (lsT intT) u.fNext, LS (lsT (lsT intT)) u.fSays, LS (lsT intT) u.fLast] 33 false]⟩ [] none (by kernel_rfl) (by rfl) (mt_ev ht (by kernel_rfl)) rfl rfl rfl rfl,
    .mt ⟨[(2, .sv (.one (.ptr 0 0)))], []⟩ [] none (by kernel_rfl) (by rfl) (mt_ev ht (by kernel_rfl)) rfl rfl rfl rfl,
    .mt ⟨[(60, .sv (.one (.ptr 0 2)))], [.box [I t.fIn, I t.fOut, I t.fStart, LS intT t.fFirst, LS (lsT intT) t.fNext, LS (lsT (lsT intT)) t.fSays, LS (lsT intT) t.fLast] 33 false]⟩ [] none (by kernel_rfl) (by rfl) (mt_ev ht (by kernel_rfl)) rfl rfl rfl rfl,
    .mt ⟨[(9, .sv (.one (I (u.fNext.length : Int))))], []⟩ [] none (by kernel_rfl) (by rfl) (mt_ev ht (by kernel_rfl)) rfl rfl rfl rfl,
    .mt ⟨[(61, .sv (.one (I t.fStart))), (62, .sv (.one (I (u.fNext.length : Int))))], []⟩ [] none (by kernel_rfl) (by rfl) (mt_ev ht (by kernel_rfl)) rfl rfl rfl rfl,
    .mt ⟨[(11, .sv (.one (I (runI u u.fStart t.fFirst).2)))], []⟩ [] none (by kernel_rfl) (by rfl) (mt_ev ht (by kernel_rfl)) rfl rfl rfl rfl,
    .mt ⟨[(63, .sv (.one (I (wr (t.fStart * (u.fNext.length : Int)))))), (64, .sv (.one (I (runI u u.fStart t.fFirst).2)))], []⟩ [] none (by kernel_rfl) (by rfl) (mt_ev ht (by kernel_rfl)) rfl rfl rfl rfl,
    .mt ⟨[(3, .sv (.one (.ptr 1 0)))], []⟩ [] none (by kernel_rfl) (by rfl) (mt_ev ht (by kernel_rfl)) rfl rfl rfl rfl,
    .mt ⟨[(66, .sv (.one (.ptr 1 3)))], [.gone, .box [I u.fIn, I u.fOut, I u.fStart, LS intT u.fFirst, LS (lsT intT) u.fNext, LS (lsT (lsT intT)) u.fSays, LS (lsT intT) u.fLast] 33 false]⟩ [] none (by kernel_rfl) (by rfl) (mt_ev ht (by kernel_rfl)) rfl rfl rfl rfl,
    .mt ⟨[(10, .sv (.one (LS intT (runI u u.fStart t.fFirst).1)))], []⟩ [] none (by kernel_rfl) (by rfl) (mt_ev ht (by kernel_rfl)) rfl rfl rfl rfl,
    .mt ⟨[(67, .sv (.one (LS intT u.fFirst))), (68, .sv (.one (LS intT (runI u u.fStart t.fFirst).1)))], []⟩ [] (some 4) (by kernel_rfl) (by rfl) (mt_lit (T := (lsT intT)) ([u.fFirst, (runI u u.fStart t.fFirst).1] : (List (List Int))) (mt_bsl 4 (r := cellsOf (lsT intT) ([u.fFirst, (runI u u.fStart t.fFirst).1] : (List (List Int)))) ht rfl (by rfl) (by rfl) (by rfl) (by kernel_rfl) (by rfl)) (fun _ h => by cases h) (fun _ => rfl) (fun _ => rfl) (by rfl) (Nat.le_of_ble_eq_true rfl)) rfl rfl rfl rfl,
    .mt ⟨[(69, .sv (.one (.own 4)))], [.gone, .gone, .gone, .gone, rowI 23 (lsT intT) ([u.fFirst, (runI u u.fStart t.fFirst).1] : (List (List Int)))]⟩ [] (some 5) (by kernel_rfl) (by rfl) (mt_lendI (T := (lsT intT)) (l := ([u.fFirst, (runI u u.fStart t.fFirst).1] : (List (List Int)))) 4 (by rfl) (plain_row fun _ => rfl) (mt_callI 5 (concatI_ct ([u.fFirst, (runI u u.fStart t.fFirst).1] : (List (List Int))) hp_2) en59 (caps := []) [] rfl rfl (by rfl) (by kernel_rfl) (by kernel_rfl) (by rfl) (by rfl))) rfl rfl rfl rfl,
    .mt ⟨[(57, .sv (.one (I t.fIn))), (59, .sv (.one (I u.fOut))), (65, .sv (.one (I (wr ((wr (t.fStart * (u.fNext.length : Int))) + (runI u u.fStart t.fFirst).2))))), (70, .sv (.one (.own 5)))], []⟩ [] none (by kernel_rfl) (by rfl) (mt_ev ht (by kernel_rfl)) rfl rfl rfl rfl,
    .mt ⟨[], []⟩ [] (some 6) (by kernel_rfl) (by rfl) (mt_alloc2 6 33 ht rfl (by rfl) (by rfl)) rfl rfl rfl rfl,
    .mu ⟨[(12, .sv (.one (.ptr 6 0))), (71, .sv (.agg [I t.fIn, I u.fOut, I (wr ((wr (t.fStart * (u.fNext.length : Int))) + (runI u u.fStart t.fFirst).2)), .own 5, .v (.slice none 0 0), .v (.slice none 0 0), .v (.slice none 0 0)]))], [.gone, .gone, .gone, .gone, .gone, .gone, .box [I 0, I 0, I 0, .v (.slice none 0 0), .v (.slice none 0 0), .v (.slice none 0 0), .v (.slice none 0 0)] 33 false]⟩ 6 _ _ rfl rfl (by kernel_rfl) (by rfl) (mu_store2 ht rfl (by rfl) (by rfl) (by rfl) (by rfl) (fun h => by cases h) (by rfl) (by rfl)) rfl rfl rfl rfl rfl rfl rfl,
    trivial⟩
      · refine En.seq ?_
        refine En.seq ?_
        refine En.region ?_
        refine WL.run ht hn 4 ⟨[(2, .sv (.one (.ptr 0 0))), (3, .sv (.one (.ptr 1 0))), (4, .sv (.one (.ptr 2 0))), (9, .sv (.one (I (u.fNext.length : Int)))), (12, .sv (.one (.ptr 6 0))), (74, .sv (.one (I (t.fNext.length : Int)))), (75, .sv (.one (I 0)))], [.box [I t.fIn, I t.fOut, I t.fStart, LS intT t.fFirst, LS (lsT intT) t.fNext, LS (lsT (lsT intT)) t.fSays, LS (lsT intT) t.fLast] 33 false, .box [I u.fIn, I u.fOut, I u.fStart, LS intT u.fFirst, LS (lsT intT) u.fNext, LS (lsT (lsT intT)) u.fSays, LS (lsT intT) u.fLast] 33 false, .box [I 0, I 0, I 0, .v (.slice none 0 0), .v (.slice none 0 0), .v (.slice none 0 0), .v (.slice none 0 0)] 33 false, .gone, .gone, rowI 3 intT (([u.fFirst, (runI u u.fStart t.fFirst).1] : (List (List Int))).flatten), .box [I t.fIn, I u.fOut, I (wr ((wr (t.fStart * (u.fNext.length : Int))) + (runI u u.fStart t.fFirst).2)), .own 5, .v (.slice none 0 0), .v (.slice none 0 0), .v (.slice none 0 0)] 33 false]⟩ (by kernel_rfl) ?_
        refine WL.nil ?_
        refine En.block ?_
        refine En.nilBoxO (T := (lsT intT)) 6 4 9 23 (by rfl) (by rfl) (by rfl) (by rfl) ?_
        refine En.nilBoxO (T := (lsT (lsT intT))) 6 5 10 22 (by rfl) (by rfl) (by rfl) (by rfl) ?_
        refine En.nilBoxO (T := (lsT intT)) 6 6 12 23 (by rfl) (by rfl) (by rfl) (by rfl) ?_
        obtain ⟨Inv_2, mu_2, h0_3, hI_3⟩ := h
        refine En.loop (σ := Int × (List (List Int)) × (List (List (List Int))) × (List (List Int))) (fun zz => Inv_2 zz.1 zz.2.1 zz.2.2.1 zz.2.2.2) (fun zz => mu_2 zz.1 zz.2.1 zz.2.2.1 zz.2.2.2) (fun zz => ⟨[(2, .sv (.one (.ptr 0 0))), (3, .sv (.one (.ptr 1 0))), (4, .sv (.one (.ptr 2 0))), (9, .sv (.one (I (u.fNext.length : Int)))), (12, .sv (.one (.ptr 6 0))), (74, .sv (.one (I (t.fNext.length : Int)))), (75, .sv (.one (I zz.1)))], [.box [I t.fIn, I t.fOut, I t.fStart, LS intT t.fFirst, LS (lsT intT) t.fNext, LS (lsT (lsT intT)) t.fSays, LS (lsT intT) t.fLast] 33 false, .box [I u.fIn, I u.fOut, I u.fStart, LS intT u.fFirst, LS (lsT intT) u.fNext, LS (lsT (lsT intT)) u.fSays, LS (lsT intT) u.fLast] 33 false, .box [I 0, I 0, I 0, .v (.slice none 0 0), .v (.slice none 0 0), .v (.slice none 0 0), .v (.slice none 0 0)] 33 false, .gone, .gone, rowI 3 intT (([u.fFirst, (runI u u.fStart t.fFirst).1] : (List (List Int))).flatten), .box [I t.fIn, I u.fOut, I (wr ((wr (t.fStart * (u.fNext.length : Int))) + (runI u u.fStart t.fFirst).2)), .own 5, .own 9, .own 10, .own 12] 33 false, .gone, .gone, rowI 23 (lsT intT) zz.2.1, rowI 22 (lsT (lsT intT)) zz.2.2.1, .gone, rowI 23 (lsT intT) zz.2.2.2]⟩) (0, ([] : (List (List Int))), ([] : (List (List (List Int)))), ([] : (List (List Int)))) h0_3 (sub_ok (by kernel_rfl)) ?_
        rintro ⟨x75, l9, l10, l12⟩ h
        replace h := hI_3 _ _ _ _ h
        show En c ⟨[(2, .sv (.one (.ptr 0 0))), (3, .sv (.one (.ptr 1 0))), (4, .sv (.one (.ptr 2 0))), (9, .sv (.one (I (u.fNext.length : Int)))), (12, .sv (.one (.ptr 6 0))), (74, .sv (.one (I (t.fNext.length : Int)))), (75, .sv (.one (I x75)))], [.box [I t.fIn, I t.fOut, I t.fStart, LS intT t.fFirst, LS (lsT intT) t.fNext, LS (lsT (lsT intT)) t.fSays, LS (lsT intT) t.fLast] 33 false, .box [I u.fIn, I u.fOut, I u.fStart, LS intT u.fFirst, LS (lsT intT) u.fNext, LS (lsT (lsT intT)) u.fSays, LS (lsT intT) u.fLast] 33 false, .box [I 0, I 0, I 0, .v (.slice none 0 0), .v (.slice none 0 0), .v (.slice none 0 0), .v (.slice none 0 0)] 33 false, .gone, .gone, rowI 3 intT (([u.fFirst, (runI u u.fStart t.fFirst).1] : (List (List Int))).flatten), .box [I t.fIn, I u.fOut, I (wr ((wr (t.fStart * (u.fNext.length : Int))) + (runI u u.fStart t.fFirst).2)), .own 5, .own 9, .own 10, .own 12] 33 false, .gone, .gone, rowI 23 (lsT intT) l9, rowI 22 (lsT (lsT intT)) l10, .gone, rowI 23 (lsT intT) l12]⟩ _
        refine En.seq ?_
        refine En.region ?_
        refine WL.run ht hn 1 ⟨[(2, .sv (.one (.ptr 0 0))), (3, .sv (.one (.ptr 1 0))), (4, .sv (.one (.ptr 2 0))), (9, .sv (.one (I (u.fNext.length : Int)))), (12, .sv (.one (.ptr 6 0))), (74, .sv (.one (I (t.fNext.length : Int)))), (75, .sv (.one (I x75))), (76, .sv (.one (B (decide (x75 < (t.fNext.length : Int))))))], [.box [I t.fIn, I t.fOut, I t.fStart, LS intT t.fFirst, LS (lsT intT) t.fNext, LS (lsT (lsT intT)) t.fSays, LS (lsT intT) t.fLast] 33 false, .box [I u.fIn, I u.fOut, I u.fStart, LS intT u.fFirst, LS (lsT intT) u.fNext, LS (lsT (lsT intT)) u.fSays, LS (lsT intT) u.fLast] 33 false, .box [I 0, I 0, I 0, .v (.slice none 0 0), .v (.slice none 0 0), .v (.slice none 0 0), .v (.slice none 0 0)] 33 false, .gone, .gone, rowI 3 intT (([u.fFirst, (runI u u.fStart t.fFirst).1] : (List (List Int))).flatten), .box [I t.fIn, I u.fOut, I (wr ((wr (t.fStart * (u.fNext.length : Int))) + (runI u u.fStart t.fFirst).2)), .own 5, .own 9, .own 10, .own 12] 33 false, .gone, .gone, rowI 23 (lsT intT) l9, rowI 22 (lsT (lsT intT)) l10, .gone, rowI 23 (lsT intT) l12]⟩ (by kernel_rfl) ?_
        refine WL.nil ?_
        refine En.seq ?_
        refine En.cond (b := (decide (x75 < (t.fNext.length : Int)))) (by kernel_rfl) (fun hb => ?_) (fun hb => ?_)
        · replace h := h.1 hb
          refine En.skip ?_
          refine En.seq ?_
          refine En.block ?_
          refine En.seq ?_
          refine En.region ?_
          refine WL.run ht hn 2 ⟨[(2, .sv (.one (.ptr 0 0))), (3, .sv (.one (.ptr 1 0))), (4, .sv (.one (.ptr 2 0))), (9, .sv (.one (I (u.fNext.length : Int)))), (12, .sv (.one (.ptr 6 0))), (13, .sv (.one (I x75))), (74, .sv (.one (I (t.fNext.length : Int)))), (75, .sv (.one (I x75)))], [.box [I t.fIn, I t.fOut, I t.fStart, LS intT t.fFirst, LS (lsT intT) t.fNext, LS (lsT (lsT intT)) t.fSays, LS (lsT intT) t.fLast] 33 false, .box [I u.fIn, I u.fOut, I u.fStart, LS intT u.fFirst, LS (lsT intT) u.fNext, LS (lsT (lsT intT)) u.fSays, LS (lsT intT) u.fLast] 33 false, .box [I 0, I 0, I 0, .v (.slice none 0 0), .v (.slice none 0 0), .v (.slice none 0 0), .v (.slice none 0 0)] 33 false, .gone, .gone, rowI 3 intT (([u.fFirst, (runI u u.fStart t.fFirst).1] : (List (List Int))).flatten), .box [I t.fIn, I u.fOut, I (wr ((wr (t.fStart * (u.fNext.length : Int))) + (runI u u.fStart t.fFirst).2)), .own 5, .own 9, .own 10, .own 12] 33 false, .gone, .gone, rowI 23 (lsT intT) l9, rowI 22 (lsT (lsT intT)) l10, .gone, rowI 23 (lsT intT) l12]⟩ (by kernel_rfl) ?_
          refine WL.nil ?_
          refine En.seq ?_
          refine En.region ?_
          refine WL.run ht hn 2 ⟨[(2, .sv (.one (.ptr 0 0))), (3, .sv (.one (.ptr 1 0))), (4, .sv (.one (.ptr 2 0))), (9, .sv (.one (I (u.fNext.length : Int)))), (12, .sv (.one (.ptr 6 0))), (13, .sv (.one (I x75))), (74, .sv (.one (I (t.fNext.length : Int)))), (75, .sv (.one (I x75))), (78, .sv (.one (I (u.fNext.length : Int)))), (79, .sv (.one (I 0)))], [.box [I t.fIn, I t.fOut, I t.fStart, LS intT t.fFirst, LS (lsT intT) t.fNext, LS (lsT (lsT intT)) t.fSays, LS (lsT intT) t.fLast] 33 false, .box [I u.fIn, I u.fOut, I u.fStart, LS intT u.fFirst, LS (lsT intT) u.fNext, LS (lsT (lsT intT)) u.fSays, LS (lsT intT) u.fLast] 33 false, .box [I 0, I 0, I 0, .v (.slice none 0 0), .v (.slice none 0 0), .v (.slice none 0 0), .v (.slice none 0 0)] 33 false, .gone, .gone, rowI 3 intT (([u.fFirst, (runI u u.fStart t.fFirst).1] : (List (List Int))).flatten), .box [I t.fIn, I u.fOut, I (wr ((wr (t.fStart * (u.fNext.length : Int))) + (runI u u.fStart t.fFirst).2)), .own 5, .own 9, .own 10, .own 12] 33 false, .gone, .gone, rowI 23 (lsT intT) l9, rowI 22 (lsT (lsT intT)) l10, .gone, rowI 23 (lsT intT) l12]⟩ (by kernel_rfl) ?_
          refine WL.nil ?_
          refine En.block ?_
          obtain ⟨Inv_3, mu_3, h0_2, hI_2⟩ := h
          refine En.loop (σ := Int × (List (List Int)) × (List (List (List Int))) × (List (List Int))) (fun zz => Inv_3 zz.1 zz.2.1 zz.2.2.1 zz.2.2.2) (fun zz => mu_3 zz.1 zz.2.1 zz.2.2.1 zz.2.2.2) (fun zz => ⟨[(2, .sv (.one (.ptr 0 0))), (3, .sv (.one (.ptr 1 0))), (4, .sv (.one (.ptr 2 0))), (9, .sv (.one (I (u.fNext.length : Int)))), (12, .sv (.one (.ptr 6 0))), (13, .sv (.one (I x75))), (74, .sv (.one (I (t.fNext.length : Int)))), (75, .sv (.one (I x75))), (78, .sv (.one (I (u.fNext.length : Int)))), (79, .sv (.one (I zz.1)))], [.box [I t.fIn, I t.fOut, I t.fStart, LS intT t.fFirst, LS (lsT intT) t.fNext, LS (lsT (lsT intT)) t.fSays, LS (lsT intT) t.fLast] 33 false, .box [I u.fIn, I u.fOut, I u.fStart, LS intT u.fFirst, LS (lsT intT) u.fNext, LS (lsT (lsT intT)) u.fSays, LS (lsT intT) u.fLast] 33 false, .box [I 0, I 0, I 0, .v (.slice none 0 0), .v (.slice none 0 0), .v (.slice none 0 0), .v (.slice none 0 0)] 33 false, .gone, .gone, rowI 3 intT (([u.fFirst, (runI u u.fStart t.fFirst).1] : (List (List Int))).flatten), .box [I t.fIn, I u.fOut, I (wr ((wr (t.fStart * (u.fNext.length : Int))) + (runI u u.fStart t.fFirst).2)), .own 5, .own 9, .own 10, .own 12] 33 false, .gone, .gone, rowI 23 (lsT intT) zz.2.1, rowI 22 (lsT (lsT intT)) zz.2.2.1, .gone, rowI 23 (lsT intT) zz.2.2.2]⟩) (0, l9, l10, l12) h0_2 (sub_ok (by kernel_rfl)) ?_
          rintro ⟨x79, l9_2, l10_2, l12_2⟩ h
          replace h := hI_2 _ _ _ _ h
          show En c ⟨[(2, .sv (.one (.ptr 0 0))), (3, .sv (.one (.ptr 1 0))), (4, .sv (.one (.ptr 2 0))), (9, .sv (.one (I (u.fNext.length : Int)))), (12, .sv (.one (.ptr 6 0))), (13, .sv (.one (I x75))), (74, .sv (.one (I (t.fNext.length : Int)))), (75, .sv (.one (I x75))), (78, .sv (.one (I (u.fNext.length : Int)))), (79, .sv (.one (I x79)))], [.box [I t.fIn, I t.fOut, I t.fStart, LS intT t.fFirst, LS (lsT intT) t.fNext, LS (lsT (lsT intT)) t.fSays, LS (lsT intT) t.fLast] 33 false, .box [I u.fIn, I u.fOut, I u.fStart, LS intT u.fFirst, LS (lsT intT) u.fNext, LS (lsT (lsT intT)) u.fSays, LS (lsT intT) u.fLast] 33 false, .box [I 0, I 0, I 0, .v (.slice none 0 0), .v (.slice none 0 0), .v (.slice none 0 0), .v (.slice none 0 0)] 33 false, .gone, .gone, rowI 3 intT (([u.fFirst, (runI u u.fStart t.fFirst).1] : (List (List Int))).flatten), .box [I t.fIn, I u.fOut, I (wr ((wr (t.fStart * (u.fNext.length : Int))) + (runI u u.fStart t.fFirst).2)), .own 5, .own 9, .own 10, .own 12] 33 false, .gone, .gone, rowI 23 (lsT intT) l9_2, rowI 22 (lsT (lsT intT)) l10_2, .gone, rowI 23 (lsT intT) l12_2]⟩ _
          refine En.seq ?_
          refine En.region ?_
          refine WL.run ht hn 1 ⟨[(2, .sv (.one (.ptr 0 0))), (3, .sv (.one (.ptr 1 0))), (4, .sv (.one (.ptr 2 0))), (9, .sv (.one (I (u.fNext.length : Int)))), (12, .sv (.one (.ptr 6 0))), (13, .sv (.one (I x75))), (74, .sv (.one (I (t.fNext.length : Int)))), (75, .sv (.one (I x75))), (78, .sv (.one (I (u.fNext.length : Int)))), (79, .sv (.one (I x79))), (80, .sv (.one (B (decide (x79 < (u.fNext.length : Int))))))], [.box [I t.fIn, I t.fOut, I t.fStart, LS intT t.fFirst, LS (lsT intT) t.fNext, LS (lsT (lsT intT)) t.fSays, LS (lsT intT) t.fLast] 33 false, .box [I u.fIn, I u.fOut, I u.fStart, LS intT u.fFirst, LS (lsT intT) u.fNext, LS (lsT (lsT intT)) u.fSays, LS (lsT intT) u.fLast] 33 false, .box [I 0, I 0, I 0, .v (.slice none 0 0), .v (.slice none 0 0), .v (.slice none 0 0), .v (.slice none 0 0)] 33 false, .gone, .gone, rowI 3 intT (([u.fFirst, (runI u u.fStart t.fFirst).1] : (List (List Int))).flatten), .box [I t.fIn, I u.fOut, I (wr ((wr (t.fStart * (u.fNext.length : Int))) + (runI u u.fStart t.fFirst).2)), .own 5, .own 9, .own 10, .own 12] 33 false, .gone, .gone, rowI 23 (lsT intT) l9_2, rowI 22 (lsT (lsT intT)) l10_2, .gone, rowI 23 (lsT intT) l12_2]⟩ (by kernel_rfl) ?_
          refine WL.nil ?_
          refine En.seq ?_
          refine En.cond (b := (decide (x79 < (u.fNext.length : Int)))) (by kernel_rfl) (fun hb => ?_) (fun hb => ?_)
          · replace h := h.1 hb
            refine En.skip ?_
            refine En.seq ?_
            refine En.block ?_
            refine En.seq ?_
            refine En.region ?_
            refine WL.run ht hn 2 ⟨[(2, .sv (.one (.ptr 0 0))), (3, .sv (.one (.ptr 1 0))), (4, .sv (.one (.ptr 2 0))), (9, .sv (.one (I (u.fNext.length : Int)))), (12, .sv (.one (.ptr 6 0))), (13, .sv (.one (I x75))), (14, .sv (.one (I x79))), (74, .sv (.one (I (t.fNext.length : Int)))), (75, .sv (.one (I x75))), (78, .sv (.one (I (u.fNext.length : Int)))), (79, .sv (.one (I x79)))], [.box [I t.fIn, I t.fOut, I t.fStart, LS intT t.fFirst, LS (lsT intT) t.fNext, LS (lsT (lsT intT)) t.fSays, LS (lsT intT) t.fLast] 33 false, .box [I u.fIn, I u.fOut, I u.fStart, LS intT u.fFirst, LS (lsT intT) u.fNext, LS (lsT (lsT intT)) u.fSays, LS (lsT intT) u.fLast] 33 false, .box [I 0, I 0, I 0, .v (.slice none 0 0), .v (.slice none 0 0), .v (.slice none 0 0), .v (.slice none 0 0)] 33 false, .gone, .gone, rowI 3 intT (([u.fFirst, (runI u u.fStart t.fFirst).1] : (List (List Int))).flatten), .box [I t.fIn, I u.fOut, I (wr ((wr (t.fStart * (u.fNext.length : Int))) + (runI u u.fStart t.fFirst).2)), .own 5, .own 9, .own 10, .own 12] 33 false, .gone, .gone, rowI 23 (lsT intT) l9_2, rowI 22 (lsT (lsT intT)) l10_2, .gone, rowI 23 (lsT intT) l12_2]⟩ (by kernel_rfl) ?_
            refine WL.nil ?_
            refine En.seq ?_
            have hp_3 := h.1
            replace h := h.2
            have hp_4 := h.1
            replace h := h.2
            refine En.regionA ⟨[(2, .sv (.one (.ptr 0 0))), (3, .sv (.one (.ptr 1 0))), (4, .sv (.one (.ptr 2 0))), (9, .sv (.one (I (u.fNext.length : Int)))), (12, .sv (.one (.ptr 6 0))), (13, .sv (.one (I x75))), (14, .sv (.one (I x79))), (74, .sv (.one (I (t.fNext.length : Int)))), (75, .sv (.one (I x75))), (78, .sv (.one (I (u.fNext.length : Int)))), (79, .sv (.one (I x79)))], [.sv (.one (.ptr 0 0)), .sv (.one (I t.fIn)), .sv (.one (.own 13)), .sv (.one (.ptr 0 0)), .sv (.one (I t.fIn)), .sv (.one (.own 14)), .sv (.one (.own 13)), .sv (.one (.own 14))], [⟨.box [I t.fIn, I t.fOut, I t.fStart, LS intT t.fFirst, LS (lsT intT) t.fNext, LS (lsT (lsT intT)) t.fSays, LS (lsT intT) t.fLast] 33 false, none, none, none⟩, ⟨.box [I u.fIn, I u.fOut, I u.fStart, LS intT u.fFirst, LS (lsT intT) u.fNext, LS (lsT (lsT intT)) u.fSays, LS (lsT intT) u.fLast] 33 false, none, none, none⟩, ⟨.box [I 0, I 0, I 0, .v (.slice none 0 0), .v (.slice none 0 0), .v (.slice none 0 0), .v (.slice none 0 0)] 33 false, none, none, none⟩, ⟨.gone, none, none, none⟩, ⟨.gone, none, none, none⟩, ⟨rowI 3 intT (([u.fFirst, (runI u u.fStart t.fFirst).1] : (List (List Int))).flatten), none, none, none⟩, ⟨.box [I t.fIn, I u.fOut, I (wr ((wr (t.fStart * (u.fNext.length : Int))) + (runI u u.fStart t.fFirst).2)), .own 5, .own 9, .own 10, .own 12] 33 false, none, none, none⟩, ⟨.gone, none, none, none⟩, ⟨.gone, none, none, none⟩, ⟨rowI 23 (lsT intT) l9_2, none, none, none⟩, ⟨rowI 22 (lsT (lsT intT)) l10_2, none, none, none⟩, ⟨.gone, none, none, none⟩, ⟨rowI 23 (lsT intT) l12_2, none, none, none⟩, ⟨rowI 3 intT (List.replicate (t.fIn).toNat (0 : Int)), some 2, none, none⟩, ⟨rowI 23 (lsT intT) (List.replicate (t.fIn).toNat []), some 5, none, none⟩]⟩ ⟨[(2, .sv (.one (.ptr 0 0))), (3, .sv (.one (.ptr 1 0))), (4, .sv (.one (.ptr 2 0))), (9, .sv (.one (I (u.fNext.length : Int)))), (12, .sv (.one (.ptr 6 0))), (13, .sv (.one (I x75))), (14, .sv (.one (I x79))), (15, .sv (.one (.own 13))), (16, .sv (.one (.own 14))), (74, .sv (.one (I (t.fNext.length : Int)))), (75, .sv (.one (I x75))), (78, .sv (.one (I (u.fNext.length : Int)))), (79, .sv (.one (I x79)))], [.box [I t.fIn, I t.fOut, I t.fStart, LS intT t.fFirst, LS (lsT intT) t.fNext, LS (lsT (lsT intT)) t.fSays, LS (lsT intT) t.fLast] 33 false, .box [I u.fIn, I u.fOut, I u.fStart, LS intT u.fFirst, LS (lsT intT) u.fNext, LS (lsT (lsT intT)) u.fSays, LS (lsT intT) u.fLast] 33 false, .box [I 0, I 0, I 0, .v (.slice none 0 0), .v (.slice none 0 0), .v (.slice none 0 0), .v (.slice none 0 0)] 33 false, .gone, .gone, rowI 3 intT (([u.fFirst, (runI u u.fStart t.fFirst).1] : (List (List Int))).flatten), .box [I t.fIn, I u.fOut, I (wr ((wr (t.fStart * (u.fNext.length : Int))) + (runI u u.fStart t.fFirst).2)), .own 5, .own 9, .own 10, .own 12] 33 false, .gone, .gone, rowI 23 (lsT intT) l9_2, rowI 22 (lsT (lsT intT)) l10_2, .gone, rowI 23 (lsT intT) l12_2, rowI 3 intT (List.replicate (t.fIn).toNat (0 : Int)), rowI 23 (lsT intT) (List.replicate (t.fIn).toNat [])]⟩ (by kernel_rfl) hn (by kernel_rfl) (by rfl) (by kernel_rfl) ?_ (by kernel_rfl) ?_
            · exact ⟨.mt ⟨[(2, .sv (.one (.ptr 0 0)))], []⟩ [] none (by kernel_rfl) (by rfl) (mt_ev ht (by kernel_rfl)) rfl rfl rfl rfl,
    .mt ⟨[(82, .sv (.one (.ptr 0 0)))], [.box [I t.fIn, I t.fOut, I t.fStart, LS intT t.fFirst, LS (lsT intT) t.fNext, LS (lsT (lsT intT)) t.fSays, LS (lsT intT) t.fLast] 33 false]⟩ [] none (by kernel_rfl) (by rfl) (mt_ev ht (by kernel_rfl)) rfl rfl rfl rfl,
    .mt ⟨[(83, .sv (.one (I t.fIn)))], []⟩ [] (some 13) (by kernel_rfl) (by rfl) (mt_make (T := intT) (0 : Int) (zv := (.int .i64 0)) 13 (l := t.fIn) (cp := t.fIn) ht rfl (by rfl) (by rfl) (by rfl) (by rfl) (by decide) (by rfl) (by rfl) hp_3.1 hp_3.2.1 hp_3.2.2 (hp_3.le (by decide)) rfl (fun _ => ⟨rfl, trivial⟩)) rfl rfl rfl rfl,
    .mt ⟨[(2, .sv (.one (.ptr 0 0)))], []⟩ [] none (by kernel_rfl) (by rfl) (mt_ev ht (by kernel_rfl)) rfl rfl rfl rfl,
    .mt ⟨[(85, .sv (.one (.ptr 0 0)))], [.box [I t.fIn, I t.fOut, I t.fStart, LS intT t.fFirst, LS (lsT intT) t.fNext, LS (lsT (lsT intT)) t.fSays, LS (lsT intT) t.fLast] 33 false]⟩ [] none (by kernel_rfl) (by rfl) (mt_ev ht (by kernel_rfl)) rfl rfl rfl rfl,
    .mt ⟨[(86, .sv (.one (I t.fIn)))], []⟩ [] (some 14) (by kernel_rfl) (by rfl) (mt_make (T := (lsT intT)) [] (zv := (.slice none 0 0)) 14 (l := t.fIn) (cp := t.fIn) ht rfl (by rfl) (by rfl) (by rfl) (by rfl) (by decide) (by rfl) (by rfl) hp_4.1 hp_4.2.1 hp_4.2.2 (hp_4.le (by decide)) rfl (fun _ => ls_nil)) rfl rfl rfl rfl,
    .mt ⟨[(84, .sv (.one (.own 13)))], []⟩ [] none (by kernel_rfl) (by rfl) (mt_ev ht (by kernel_rfl)) rfl rfl rfl rfl,
    .mt ⟨[(87, .sv (.one (.own 14)))], []⟩ [] none (by kernel_rfl) (by rfl) (mt_ev ht (by kernel_rfl)) rfl rfl rfl rfl,
    trivial⟩
            · refine En.seq ?_
              refine En.seq ?_
              refine En.region ?_
              refine WL.run ht hn 3 ⟨[(2, .sv (.one (.ptr 0 0))), (3, .sv (.one (.ptr 1 0))), (4, .sv (.one (.ptr 2 0))), (9, .sv (.one (I (u.fNext.length : Int)))), (12, .sv (.one (.ptr 6 0))), (13, .sv (.one (I x75))), (14, .sv (.one (I x79))), (15, .sv (.one (.own 13))), (16, .sv (.one (.own 14))), (74, .sv (.one (I (t.fNext.length : Int)))), (75, .sv (.one (I x75))), (78, .sv (.one (I (u.fNext.length : Int)))), (79, .sv (.one (I x79))), (89, .sv (.one (LS (lsT intT) t.fNext))), (90, .sv (.one (I x75)))], [.box [I t.fIn, I t.fOut, I t.fStart, LS intT t.fFirst, LS (lsT intT) t.fNext, LS (lsT (lsT intT)) t.fSays, LS (lsT intT) t.fLast] 33 false, .box [I u.fIn, I u.fOut, I u.fStart, LS intT u.fFirst, LS (lsT intT) u.fNext, LS (lsT (lsT intT)) u.fSays, LS (lsT intT) u.fLast] 33 false, .box [I 0, I 0, I 0, .v (.slice none 0 0), .v (.slice none 0 0), .v (.slice none 0 0), .v (.slice none 0 0)] 33 false, .gone, .gone, rowI 3 intT (([u.fFirst, (runI u u.fStart t.fFirst).1] : (List (List Int))).flatten), .box [I t.fIn, I u.fOut, I (wr ((wr (t.fStart * (u.fNext.length : Int))) + (runI u u.fStart t.fFirst).2)), .own 5, .own 9, .own 10, .own 12] 33 false, .gone, .gone, rowI 23 (lsT intT) l9_2, rowI 22 (lsT (lsT intT)) l10_2, .gone, rowI 23 (lsT intT) l12_2, rowI 3 intT (List.replicate (t.fIn).toNat (0 : Int)), rowI 23 (lsT intT) (List.replicate (t.fIn).toNat [])]⟩ (by kernel_rfl) ?_
              obtain ⟨e_2, he_2, h⟩ := h
              refine WL.val hn (by rfl) (val_index (T := (lsT intT)) (l := t.fNext) (i := x75) ht rfl (by rfl) (by rfl) (by rfl) (by rfl) (by rfl) (by rfl) he_2) (by rfl) ?_
              refine WL.val hn (by rfl) (val_load (s := .one (LS intT e_2)) ht rfl (by rfl) (by rfl) (by rfl) (by rfl) (by rfl)) (by rfl) ?_
              refine WL.run ht hn 2 ⟨[(2, .sv (.one (.ptr 0 0))), (3, .sv (.one (.ptr 1 0))), (4, .sv (.one (.ptr 2 0))), (9, .sv (.one (I (u.fNext.length : Int)))), (12, .sv (.one (.ptr 6 0))), (13, .sv (.one (I x75))), (14, .sv (.one (I x79))), (15, .sv (.one (.own 13))), (16, .sv (.one (.own 14))), (74, .sv (.one (I (t.fNext.length : Int)))), (75, .sv (.one (I x75))), (78, .sv (.one (I (u.fNext.length : Int)))), (79, .sv (.one (I x79))), (92, .sv (.one (LS intT e_2))), (93, .sv (.one (I (e_2.length : Int)))), (94, .sv (.one (I 0)))], [.box [I t.fIn, I t.fOut, I t.fStart, LS intT t.fFirst, LS (lsT intT) t.fNext, LS (lsT (lsT intT)) t.fSays, LS (lsT intT) t.fLast] 33 false, .box [I u.fIn, I u.fOut, I u.fStart, LS intT u.fFirst, LS (lsT intT) u.fNext, LS (lsT (lsT intT)) u.fSays, LS (lsT intT) u.fLast] 33 false, .box [I 0, I 0, I 0, .v (.slice none 0 0), .v (.slice none 0 0), .v (.slice none 0 0), .v (.slice none 0 0)] 33 false, .gone, .gone, rowI 3 intT (([u.fFirst, (runI u u.fStart t.fFirst).1] : (List (List Int))).flatten), .box [I t.fIn, I u.fOut, I (wr ((wr (t.fStart * (u.fNext.length : Int))) + (runI u u.fStart t.fFirst).2)), .own 5, .own 9, .own 10, .own 12] 33 false, .gone, .gone, rowI 23 (lsT intT) l9_2, rowI 22 (lsT (lsT intT)) l10_2, .gone, rowI 23 (lsT intT) l12_2, rowI 3 intT (List.replicate (t.fIn).toNat (0 : Int)), rowI 23 (lsT intT) (List.replicate (t.fIn).toNat [])]⟩ (by kernel_rfl) ?_
              refine WL.nil ?_
              refine En.block ?_
              obtain ⟨Inv_4, mu_4, h0, hI⟩ := h
              refine En.loop (σ := Int × (List Int) × (List (List Int))) (fun zz => Inv_4 zz.1 zz.2.1 zz.2.2) (fun zz => mu_4 zz.1 zz.2.1 zz.2.2) (fun zz => ⟨[(2, .sv (.one (.ptr 0 0))), (3, .sv (.one (.ptr 1 0))), (4, .sv (.one (.ptr 2 0))), (9, .sv (.one (I (u.fNext.length : Int)))), (12, .sv (.one (.ptr 6 0))), (13, .sv (.one (I x75))), (14, .sv (.one (I x79))), (15, .sv (.one (.own 13))), (16, .sv (.one (.own 14))), (74, .sv (.one (I (t.fNext.length : Int)))), (75, .sv (.one (I x75))), (78, .sv (.one (I (u.fNext.length : Int)))), (79, .sv (.one (I x79))), (92, .sv (.one (LS intT e_2))), (93, .sv (.one (I (e_2.length : Int)))), (94, .sv (.one (I zz.1)))], [.box [I t.fIn, I t.fOut, I t.fStart, LS intT t.fFirst, LS (lsT intT) t.fNext, LS (lsT (lsT intT)) t.fSays, LS (lsT intT) t.fLast] 33 false, .box [I u.fIn, I u.fOut, I u.fStart, LS intT u.fFirst, LS (lsT intT) u.fNext, LS (lsT (lsT intT)) u.fSays, LS (lsT intT) u.fLast] 33 false, .box [I 0, I 0, I 0, .v (.slice none 0 0), .v (.slice none 0 0), .v (.slice none 0 0), .v (.slice none 0 0)] 33 false, .gone, .gone, rowI 3 intT (([u.fFirst, (runI u u.fStart t.fFirst).1] : (List (List Int))).flatten), .box [I t.fIn, I u.fOut, I (wr ((wr (t.fStart * (u.fNext.length : Int))) + (runI u u.fStart t.fFirst).2)), .own 5, .own 9, .own 10, .own 12] 33 false, .gone, .gone, rowI 23 (lsT intT) l9_2, rowI 22 (lsT (lsT intT)) l10_2, .gone, rowI 23 (lsT intT) l12_2, rowI 3 intT zz.2.1, rowI 23 (lsT intT) zz.2.2]⟩) (0, (List.replicate (t.fIn).toNat (0 : Int)), (List.replicate (t.fIn).toNat [])) h0 (sub_ok (by kernel_rfl)) ?_
              rintro ⟨x94, l13, l14⟩ h
              replace h := hI _ _ _ h
              show En c ⟨[(2, .sv (.one (.ptr 0 0))), (3, .sv (.one (.ptr 1 0))), (4, .sv (.one (.ptr 2 0))), (9, .sv (.one (I (u.fNext.length : Int)))), (12, .sv (.one (.ptr 6 0))), (13, .sv (.one (I x75))), (14, .sv (.one (I x79))), (15, .sv (.one (.own 13))), (16, .sv (.one (.own 14))), (74, .sv (.one (I (t.fNext.length : Int)))), (75, .sv (.one (I x75))), (78, .sv (.one (I (u.fNext.length : Int)))), (79, .sv (.one (I x79))), (92, .sv (.one (LS intT e_2))), (93, .sv (.one (I (e_2.length : Int)))), (94, .sv (.one (I x94)))], [.box [I t.fIn, I t.fOut, I t.fStart, LS intT t.fFirst, LS (lsT intT) t.fNext, LS (lsT (lsT intT)) t.fSays, LS (lsT intT) t.fLast] 33 false, .box [I u.fIn, I u.fOut, I u.fStart, LS intT u.fFirst, LS (lsT intT) u.fNext, LS (lsT (lsT intT)) u.fSays, LS (lsT intT) u.fLast] 33 false, .box [I 0, I 0, I 0, .v (.slice none 0 0), .v (.slice none 0 0), .v (.slice none 0 0), .v (.slice none 0 0)] 33 false, .gone, .gone, rowI 3 intT (([u.fFirst, (runI u u.fStart t.fFirst).1] : (List (List Int))).flatten), .box [I t.fIn, I u.fOut, I (wr ((wr (t.fStart * (u.fNext.length : Int))) + (runI u u.fStart t.fFirst).2)), .own 5, .own 9, .own 10, .own 12] 33 false, .gone, .gone, rowI 23 (lsT intT) l9_2, rowI 22 (lsT (lsT intT)) l10_2, .gone, rowI 23 (lsT intT) l12_2, rowI 3 intT l13, rowI 23 (lsT intT) l14]⟩ _
              refine En.seq ?_
              refine En.region ?_
              refine WL.run ht hn 1 ⟨[(2, .sv (.one (.ptr 0 0))), (3, .sv (.one (.ptr 1 0))), (4, .sv (.one (.ptr 2 0))), (9, .sv (.one (I (u.fNext.length : Int)))), (12, .sv (.one (.ptr 6 0))), (13, .sv (.one (I x75))), (14, .sv (.one (I x79))), (15, .sv (.one (.own 13))), (16, .sv (.one (.own 14))), (74, .sv (.one (I (t.fNext.length : Int)))), (75, .sv (.one (I x75))), (78, .sv (.one (I (u.fNext.length : Int)))), (79, .sv (.one (I x79))), (92, .sv (.one (LS intT e_2))), (93, .sv (.one (I (e_2.length : Int)))), (94, .sv (.one (I x94))), (95, .sv (.one (B (decide (x94 < (e_2.length : Int))))))], [.box [I t.fIn, I t.fOut, I t.fStart, LS intT t.fFirst, LS (lsT intT) t.fNext, LS (lsT (lsT intT)) t.fSays, LS (lsT intT) t.fLast] 33 false, .box [I u.fIn, I u.fOut, I u.fStart, LS intT u.fFirst, LS (lsT intT) u.fNext, LS (lsT (lsT intT)) u.fSays, LS (lsT intT) u.fLast] 33 false, .box [I 0, I 0, I 0, .v (.slice none 0 0), .v (.slice none 0 0), .v (.slice none 0 0), .v (.slice none 0 0)] 33 false, .gone, .gone, rowI 3 intT (([u.fFirst, (runI u u.fStart t.fFirst).1] : (List (List Int))).flatten), .box [I t.fIn, I u.fOut, I (wr ((wr (t.fStart * (u.fNext.length : Int))) + (runI u u.fStart t.fFirst).2)), .own 5, .own 9, .own 10, .own 12] 33 false, .gone, .gone, rowI 23 (lsT intT) l9_2, rowI 22 (lsT (lsT intT)) l10_2, .gone, rowI 23 (lsT intT) l12_2, rowI 3 intT l13, rowI 23 (lsT intT) l14]⟩ (by kernel_rfl) ?_
              refine WL.nil ?_
              refine En.seq ?_
              refine En.cond (b := (decide (x94 < (e_2.length : Int)))) (by kernel_rfl) (fun hb => ?_) (fun hb => ?_)
              · replace h := h.1 hb
                refine En.skip ?_
                refine En.seq ?_
                refine En.block ?_
                refine En.seq ?_
                refine En.region ?_
                refine WL.run ht hn 1 ⟨[(2, .sv (.one (.ptr 0 0))), (3, .sv (.one (.ptr 1 0))), (4, .sv (.one (.ptr 2 0))), (9, .sv (.one (I (u.fNext.length : Int)))), (12, .sv (.one (.ptr 6 0))), (13, .sv (.one (I x75))), (14, .sv (.one (I x79))), (15, .sv (.one (.own 13))), (16, .sv (.one (.own 14))), (74, .sv (.one (I (t.fNext.length : Int)))), (75, .sv (.one (I x75))), (78, .sv (.one (I (u.fNext.length : Int)))), (79, .sv (.one (I x79))), (92, .sv (.one (LS intT e_2))), (93, .sv (.one (I (e_2.length : Int)))), (94, .sv (.one (I x94))), (96, .sv (.one (I x94)))], [.box [I t.fIn, I t.fOut, I t.fStart, LS intT t.fFirst, LS (lsT intT) t.fNext, LS (lsT (lsT intT)) t.fSays, LS (lsT intT) t.fLast] 33 false, .box [I u.fIn, I u.fOut, I u.fStart, LS intT u.fFirst, LS (lsT intT) u.fNext, LS (lsT (lsT intT)) u.fSays, LS (lsT intT) u.fLast] 33 false, .box [I 0, I 0, I 0, .v (.slice none 0 0), .v (.slice none 0 0), .v (.slice none 0 0), .v (.slice none 0 0)] 33 false, .gone, .gone, rowI 3 intT (([u.fFirst, (runI u u.fStart t.fFirst).1] : (List (List Int))).flatten), .box [I t.fIn, I u.fOut, I (wr ((wr (t.fStart * (u.fNext.length : Int))) + (runI u u.fStart t.fFirst).2)), .own 5, .own 9, .own 10, .own 12] 33 false, .gone, .gone, rowI 23 (lsT intT) l9_2, rowI 22 (lsT (lsT intT)) l10_2, .gone, rowI 23 (lsT intT) l12_2, rowI 3 intT l13, rowI 23 (lsT intT) l14]⟩ (by kernel_rfl) ?_
                obtain ⟨e_3, he_3, h⟩ := h
                refine WL.val hn (by rfl) (val_index (T := intT) (l := e_2) (i := x94) ht rfl (by rfl) (by rfl) (by rfl) (by rfl) (by rfl) (by rfl) he_3) (by rfl) ?_
                refine WL.val hn (by rfl) (val_load (s := .one (I e_3)) ht rfl (by rfl) (by rfl) (by rfl) (by rfl) (by rfl)) (by rfl) ?_
                refine WL.run ht hn 2 ⟨[(2, .sv (.one (.ptr 0 0))), (3, .sv (.one (.ptr 1 0))), (4, .sv (.one (.ptr 2 0))), (9, .sv (.one (I (u.fNext.length : Int)))), (12, .sv (.one (.ptr 6 0))), (13, .sv (.one (I x75))), (14, .sv (.one (I x79))), (15, .sv (.one (.own 13))), (16, .sv (.one (.own 14))), (17, .sv (.one (I x94))), (18, .sv (.one (I e_3))), (74, .sv (.one (I (t.fNext.length : Int)))), (75, .sv (.one (I x75))), (78, .sv (.one (I (u.fNext.length : Int)))), (79, .sv (.one (I x79))), (92, .sv (.one (LS intT e_2))), (93, .sv (.one (I (e_2.length : Int)))), (94, .sv (.one (I x94)))], [.box [I t.fIn, I t.fOut, I t.fStart, LS intT t.fFirst, LS (lsT intT) t.fNext, LS (lsT (lsT intT)) t.fSays, LS (lsT intT) t.fLast] 33 false, .box [I u.fIn, I u.fOut, I u.fStart, LS intT u.fFirst, LS (lsT intT) u.fNext, LS (lsT (lsT intT)) u.fSays, LS (lsT intT) u.fLast] 33 false, .box [I 0, I 0, I 0, .v (.slice none 0 0), .v (.slice none 0 0), .v (.slice none 0 0), .v (.slice none 0 0)] 33 false, .gone, .gone, rowI 3 intT (([u.fFirst, (runI u u.fStart t.fFirst).1] : (List (List Int))).flatten), .box [I t.fIn, I u.fOut, I (wr ((wr (t.fStart * (u.fNext.length : Int))) + (runI u u.fStart t.fFirst).2)), .own 5, .own 9, .own 10, .own 12] 33 false, .gone, .gone, rowI 23 (lsT intT) l9_2, rowI 22 (lsT (lsT intT)) l10_2, .gone, rowI 23 (lsT intT) l12_2, rowI 3 intT l13, rowI 23 (lsT intT) l14]⟩ (by kernel_rfl) ?_
                refine WL.nil ?_
                refine En.seq ?_
                obtain ⟨e_4, he_4, h⟩ := h
                obtain ⟨e_5, he_5, h⟩ := h
                have hp_5 := h.1
                replace h := h.2
                refine En.regionA ⟨[(2, .sv (.one (.ptr 0 0))), (3, .sv (.one (.ptr 1 0))), (4, .sv (.one (.ptr 2 0))), (9, .sv (.one (I (u.fNext.length : Int)))), (12, .sv (.one (.ptr 6 0))), (13, .sv (.one (I x75))), (14, .sv (.one (I x79))), (15, .sv (.one (.own 13))), (16, .sv (.one (.own 14))), (17, .sv (.one (I x94))), (18, .sv (.one (I e_3))), (74, .sv (.one (I (t.fNext.length : Int)))), (75, .sv (.one (I x75))), (78, .sv (.one (I (u.fNext.length : Int)))), (79, .sv (.one (I x79))), (92, .sv (.one (LS intT e_2))), (93, .sv (.one (I (e_2.length : Int)))), (94, .sv (.one (I x94)))], [.sv (.agg [I u.fIn, I u.fOut, I u.fStart, LS intT u.fFirst, LS (lsT intT) u.fNext, LS (lsT (lsT intT)) u.fSays, LS (lsT intT) u.fLast]), .sv (.one (I x79)), .sv (.one (.ptr 0 5)), .sv (.one (LS (lsT (lsT intT)) t.fSays)), .sv (.one (I x75)), .sv (.one (.pe (svR (.one (LS (lsT intT) e_4))) 1)), .sv (.one (LS (lsT intT) e_4)), .sv (.one (I x94)), .sv (.one (.pe (svR (.one (LS intT e_5))) 1)), .sv (.one (LS intT e_5)), .tup [.one (LS intT (runI u x79 e_5).1), .one (I (runI u x79 e_5).2)], .tup [.one (LS intT (runI u x79 e_5).1), .one (I (runI u x79 e_5).2)], .sv (.one (LS intT (runI u x79 e_5).1)), .sv (.one (I (runI u x79 e_5).2)), .sv (.one (LS intT (runI u x79 e_5).1)), .sv (.one (I (runI u x79 e_5).2))], [⟨.box [I t.fIn, I t.fOut, I t.fStart, LS intT t.fFirst, LS (lsT intT) t.fNext, LS (lsT (lsT intT)) t.fSays, LS (lsT intT) t.fLast] 33 false, none, none, none⟩, ⟨.box [I u.fIn, I u.fOut, I u.fStart, LS intT u.fFirst, LS (lsT intT) u.fNext, LS (lsT (lsT intT)) u.fSays, LS (lsT intT) u.fLast] 33 false, none, none, none⟩, ⟨.box [I 0, I 0, I 0, .v (.slice none 0 0), .v (.slice none 0 0), .v (.slice none 0 0), .v (.slice none 0 0)] 33 false, none, none, none⟩, ⟨.gone, none, none, none⟩, ⟨.gone, none, none, none⟩, ⟨rowI 3 intT (([u.fFirst, (runI u u.fStart t.fFirst).1] : (List (List Int))).flatten), none, none, none⟩, ⟨.box [I t.fIn, I u.fOut, I (wr ((wr (t.fStart * (u.fNext.length : Int))) + (runI u u.fStart t.fFirst).2)), .own 5, .own 9, .own 10, .own 12] 33 false, none, none, none⟩, ⟨.gone, none, none, none⟩, ⟨.gone, none, none, none⟩, ⟨rowI 23 (lsT intT) l9_2, none, none, none⟩, ⟨rowI 22 (lsT (lsT intT)) l10_2, none, none, none⟩, ⟨.gone, none, none, none⟩, ⟨rowI 23 (lsT intT) l12_2, none, none, none⟩, ⟨rowI 3 intT l13, none, none, none⟩, ⟨rowI 23 (lsT intT) l14, none, none, none⟩]⟩ ⟨[(2, .sv (.one (.ptr 0 0))), (3, .sv (.one (.ptr 1 0))), (4, .sv (.one (.ptr 2 0))), (9, .sv (.one (I (u.fNext.length : Int)))), (12, .sv (.one (.ptr 6 0))), (13, .sv (.one (I x75))), (14, .sv (.one (I x79))), (15, .sv (.one (.own 13))), (16, .sv (.one (.own 14))), (17, .sv (.one (I x94))), (18, .sv (.one (I e_3))), (19, .sv (.one (LS intT (runI u x79 e_5).1))), (20, .sv (.one (I (runI u x79 e_5).2))), (74, .sv (.one (I (t.fNext.length : Int)))), (75, .sv (.one (I x75))), (78, .sv (.one (I (u.fNext.length : Int)))), (79, .sv (.one (I x79))), (92, .sv (.one (LS intT e_2))), (93, .sv (.one (I (e_2.length : Int)))), (94, .sv (.one (I x94)))], [.box [I t.fIn, I t.fOut, I t.fStart, LS intT t.fFirst, LS (lsT intT) t.fNext, LS (lsT (lsT intT)) t.fSays, LS (lsT intT) t.fLast] 33 false, .box [I u.fIn, I u.fOut, I u.fStart, LS intT u.fFirst, LS (lsT intT) u.fNext, LS (lsT (lsT intT)) u.fSays, LS (lsT intT) u.fLast] 33 false, .box [I 0, I 0, I 0, .v (.slice none 0 0), .v (.slice none 0 0), .v (.slice none 0 0), .v (.slice none 0 0)] 33 false, .gone, .gone, rowI 3 intT (([u.fFirst, (runI u u.fStart t.fFirst).1] : (List (List Int))).flatten), .box [I t.fIn, I u.fOut, I (wr ((wr (t.fStart * (u.fNext.length : Int))) + (runI u u.fStart t.fFirst).2)), .own 5, .own 9, .own 10, .own 12] 33 false, .gone, .gone, rowI 23 (lsT intT) l9_2, rowI 22 (lsT (lsT intT)) l10_2, .gone, rowI 23 (lsT intT) l12_2, rowI 3 intT l13, rowI 23 (lsT intT) l14]⟩ (by kernel_rfl) hn (by kernel_rfl) (by rfl) (by kernel_rfl) ?_ (by kernel_rfl) ?_
                · exact ⟨.mt ⟨[(3, .sv (.one (.ptr 1 0)))], [.gone, .box [I u.fIn, I u.fOut, I u.fStart, LS intT u.fFirst, LS (lsT intT) u.fNext, LS (lsT (lsT intT)) u.fSays, LS (lsT intT) u.fLast] 33 false]⟩ [] none (by kernel_rfl) (by rfl) (mt_ev ht (by kernel_rfl)) rfl rfl rfl rfl,
    .mt ⟨[(14, .sv (.one (I x79)))], []⟩ [] none (by kernel_rfl) (by rfl) (mt_ev ht (by kernel_rfl)) rfl rfl rfl rfl,
    .mt ⟨[(2, .sv (.one (.ptr 0 0)))], []⟩ [] none (by kernel_rfl) (by rfl) (mt_ev ht (by kernel_rfl)) rfl rfl rfl rfl,
    .mt ⟨[(102, .sv (.one (.ptr 0 5)))], [.box [I t.fIn, I t.fOut, I t.fStart, LS intT t.fFirst, LS (lsT intT) t.fNext, LS (lsT (lsT intT)) t.fSays, LS (lsT intT) t.fLast] 33 false]⟩ [] none (by kernel_rfl) (by rfl) (mt_ev ht (by kernel_rfl)) rfl rfl rfl rfl,
    .mt ⟨[(13, .sv (.one (I x75)))], []⟩ [] none (by kernel_rfl) (by rfl) (mt_ev ht (by kernel_rfl)) rfl rfl rfl rfl,
    .mt ⟨[(103, .sv (.one (LS (lsT (lsT intT)) t.fSays))), (104, .sv (.one (I x75)))], []⟩ [] none (by kernel_rfl) (by rfl) (mt_val (val_index (T := (lsT (lsT intT))) (l := t.fSays) (i := x75) ht rfl (by rfl) (by rfl) (by rfl) (by rfl) (by rfl) (by rfl) he_4)) rfl rfl rfl rfl,
    .mt ⟨[(105, .sv (.one (.pe (svR (.one (LS (lsT intT) e_4))) 1)))], []⟩ [] none (by kernel_rfl) (by rfl) (mt_val (val_load (s := .one (LS (lsT intT) e_4)) ht rfl (by rfl) (by rfl) (by rfl) (by rfl) (by rfl))) rfl rfl rfl rfl,
    .mt ⟨[(17, .sv (.one (I x94)))], []⟩ [] none (by kernel_rfl) (by rfl) (mt_ev ht (by kernel_rfl)) rfl rfl rfl rfl,
    .mt ⟨[(106, .sv (.one (LS (lsT intT) e_4))), (107, .sv (.one (I x94)))], []⟩ [] none (by kernel_rfl) (by rfl) (mt_val (val_index (T := (lsT intT)) (l := e_4) (i := x94) ht rfl (by rfl) (by rfl) (by rfl) (by rfl) (by rfl) (by rfl) he_5)) rfl rfl rfl rfl,
    .mt ⟨[(108, .sv (.one (.pe (svR (.one (LS intT e_5))) 1)))], []⟩ [] none (by kernel_rfl) (by rfl) (mt_val (val_load (s := .one (LS intT e_5)) ht rfl (by rfl) (by rfl) (by rfl) (by rfl) (by rfl))) rfl rfl rfl rfl,
    .mt ⟨[(100, .sv (.agg [I u.fIn, I u.fOut, I u.fStart, LS intT u.fFirst, LS (lsT intT) u.fNext, LS (lsT (lsT intT)) u.fSays, LS (lsT intT) u.fLast])), (101, .sv (.one (I x79))), (109, .sv (.one (LS intT e_5)))], []⟩ [] none (by kernel_rfl) (by rfl) (mt_call (trRun_ct u x79 e_5 hp_5) en58 (caps := []) [] rfl (by rfl) (by kernel_rfl) (by kernel_rfl) (by rfl) (by rfl) (by rfl)) rfl rfl rfl rfl,
    .mt ⟨[(110, .tup [.one (LS intT (runI u x79 e_5).1), .one (I (runI u x79 e_5).2)])], []⟩ [] none (by kernel_rfl) (by rfl) (mt_ev ht (by kernel_rfl)) rfl rfl rfl rfl,
    .mt ⟨[(99, .tup [.one (LS intT (runI u x79 e_5).1), .one (I (runI u x79 e_5).2)])], []⟩ [] none (by kernel_rfl) (by rfl) (mt_ev ht (by kernel_rfl)) rfl rfl rfl rfl,
    .mt ⟨[(99, .tup [.one (LS intT (runI u x79 e_5).1), .one (I (runI u x79 e_5).2)])], []⟩ [] none (by kernel_rfl) (by rfl) (mt_ev ht (by kernel_rfl)) rfl rfl rfl rfl,
    .mt ⟨[(111, .sv (.one (LS intT (runI u x79 e_5).1)))], []⟩ [] none (by kernel_rfl) (by rfl) (mt_ev ht (by kernel_rfl)) rfl rfl rfl rfl,
    .mt ⟨[(112, .sv (.one (I (runI u x79 e_5).2)))], []⟩ [] none (by kernel_rfl) (by rfl) (mt_ev ht (by kernel_rfl)) rfl rfl rfl rfl,
    trivial⟩
                · refine En.region ?_
                  refine WL.run ht hn 10 ⟨[(2, .sv (.one (.ptr 0 0))), (3, .sv (.one (.ptr 1 0))), (4, .sv (.one (.ptr 2 0))), (9, .sv (.one (I (u.fNext.length : Int)))), (12, .sv (.one (.ptr 6 0))), (13, .sv (.one (I x75))), (14, .sv (.one (I x79))), (15, .sv (.one (.own 13))), (16, .sv (.one (.own 14))), (74, .sv (.one (I (t.fNext.length : Int)))), (75, .sv (.one (I x75))), (78, .sv (.one (I (u.fNext.length : Int)))), (79, .sv (.one (I x79))), (92, .sv (.one (LS intT e_2))), (93, .sv (.one (I (e_2.length : Int)))), (94, .sv (.one (I x94))), (113, .sv (.one (.own 13))), (114, .sv (.one (I x94))), (115, .sv (.one (.own 14))), (116, .sv (.one (I x94))), (121, .sv (.one (I (wr ((wr (e_3 * (u.fNext.length : Int))) + (runI u x79 e_5).2))))), (122, .sv (.one (LS intT (runI u x79 e_5).1)))], [.box [I t.fIn, I t.fOut, I t.fStart, LS intT t.fFirst, LS (lsT intT) t.fNext, LS (lsT (lsT intT)) t.fSays, LS (lsT intT) t.fLast] 33 false, .box [I u.fIn, I u.fOut, I u.fStart, LS intT u.fFirst, LS (lsT intT) u.fNext, LS (lsT (lsT intT)) u.fSays, LS (lsT intT) u.fLast] 33 false, .box [I 0, I 0, I 0, .v (.slice none 0 0), .v (.slice none 0 0), .v (.slice none 0 0), .v (.slice none 0 0)] 33 false, .gone, .gone, rowI 3 intT (([u.fFirst, (runI u u.fStart t.fFirst).1] : (List (List Int))).flatten), .box [I t.fIn, I u.fOut, I (wr ((wr (t.fStart * (u.fNext.length : Int))) + (runI u u.fStart t.fFirst).2)), .own 5, .own 9, .own 10, .own 12] 33 false, .gone, .gone, rowI 23 (lsT intT) l9_2, rowI 22 (lsT (lsT intT)) l10_2, .gone, rowI 23 (lsT intT) l12_2, rowI 3 intT l13, rowI 23 (lsT intT) l14]⟩ (by kernel_rfl) ?_
                  obtain ⟨e_6, he_6, h⟩ := h
                  refine WL.val hn (by rfl) (val_indexO (T := intT) (l := l13) (k := x94) ht rfl (by rfl) (by rfl) (by rfl) (by rfl) (by decide) (by rfl) (by rfl) (by rfl) he_6) (by rfl) ?_
                  refine WL.storeO (T := intT) (l := l13) (y := (wr ((wr (e_3 * (u.fNext.length : Int))) + (runI u x79 e_5).2))) ht hn (by rfl) rfl (by rfl) (by rfl) (fun _ h => by cases h) (by rfl) (by rfl) (idx_lt he_6) (by rfl) (by rfl) (by rfl) (by rfl) ?_
                  obtain ⟨e_7, he_7, h⟩ := h
                  refine WL.val hn (by rfl) (val_indexO (T := (lsT intT)) (l := l14) (k := x94) ht rfl (by rfl) (by rfl) (by rfl) (by rfl) (by decide) (by rfl) (by rfl) (by rfl) he_7) (by rfl) ?_
                  refine WL.storeO (T := (lsT intT)) (l := l14) (y := (runI u x79 e_5).1) ht hn (by rfl) rfl (by rfl) (by rfl) (fun _ h => by cases h) (by rfl) (by rfl) (idx_lt he_7) (by rfl) (by rfl) (by rfl) (by rfl) ?_
                  refine WL.nil ?_
                  refine En.region ?_
                  refine WL.run ht hn 2 ⟨[(2, .sv (.one (.ptr 0 0))), (3, .sv (.one (.ptr 1 0))), (4, .sv (.one (.ptr 2 0))), (9, .sv (.one (I (u.fNext.length : Int)))), (12, .sv (.one (.ptr 6 0))), (13, .sv (.one (I x75))), (14, .sv (.one (I x79))), (15, .sv (.one (.own 13))), (16, .sv (.one (.own 14))), (74, .sv (.one (I (t.fNext.length : Int)))), (75, .sv (.one (I x75))), (78, .sv (.one (I (u.fNext.length : Int)))), (79, .sv (.one (I x79))), (92, .sv (.one (LS intT e_2))), (93, .sv (.one (I (e_2.length : Int)))), (94, .sv (.one (I (wr (x94 + 1)))))], [.box [I t.fIn, I t.fOut, I t.fStart, LS intT t.fFirst, LS (lsT intT) t.fNext, LS (lsT (lsT intT)) t.fSays, LS (lsT intT) t.fLast] 33 false, .box [I u.fIn, I u.fOut, I u.fStart, LS intT u.fFirst, LS (lsT intT) u.fNext, LS (lsT (lsT intT)) u.fSays, LS (lsT intT) u.fLast] 33 false, .box [I 0, I 0, I 0, .v (.slice none 0 0), .v (.slice none 0 0), .v (.slice none 0 0), .v (.slice none 0 0)] 33 false, .gone, .gone, rowI 3 intT (([u.fFirst, (runI u u.fStart t.fFirst).1] : (List (List Int))).flatten), .box [I t.fIn, I u.fOut, I (wr ((wr (t.fStart * (u.fNext.length : Int))) + (runI u u.fStart t.fFirst).2)), .own 5, .own 9, .own 10, .own 12] 33 false, .gone, .gone, rowI 23 (lsT intT) l9_2, rowI 22 (lsT (lsT intT)) l10_2, .gone, rowI 23 (lsT intT) l12_2, rowI 3 intT (l13.set (x94).toNat (wr ((wr (e_3 * (u.fNext.length : Int))) + (runI u x79 e_5).2))), rowI 23 (lsT intT) (l14.set (x94).toNat (runI u x79 e_5).1)]⟩ (by kernel_rfl) ?_
                  refine WL.nil ?_
                  exact En.at (I := fun zz => Inv_4 zz.1 zz.2.1 zz.2.2 ∧ mu_4 zz.1 zz.2.1 zz.2.2 < mu_4 x94 l13 l14) (T := fun zz => ⟨[(2, .sv (.one (.ptr 0 0))), (3, .sv (.one (.ptr 1 0))), (4, .sv (.one (.ptr 2 0))), (9, .sv (.one (I (u.fNext.length : Int)))), (12, .sv (.one (.ptr 6 0))), (13, .sv (.one (I x75))), (14, .sv (.one (I x79))), (15, .sv (.one (.own 13))), (16, .sv (.one (.own 14))), (74, .sv (.one (I (t.fNext.length : Int)))), (75, .sv (.one (I x75))), (78, .sv (.one (I (u.fNext.length : Int)))), (79, .sv (.one (I x79))), (92, .sv (.one (LS intT e_2))), (93, .sv (.one (I (e_2.length : Int)))), (94, .sv (.one (I zz.1)))], [.box [I t.fIn, I t.fOut, I t.fStart, LS intT t.fFirst, LS (lsT intT) t.fNext, LS (lsT (lsT intT)) t.fSays, LS (lsT intT) t.fLast] 33 false, .box [I u.fIn, I u.fOut, I u.fStart, LS intT u.fFirst, LS (lsT intT) u.fNext, LS (lsT (lsT intT)) u.fSays, LS (lsT intT) u.fLast] 33 false, .box [I 0, I 0, I 0, .v (.slice none 0 0), .v (.slice none 0 0), .v (.slice none 0 0), .v (.slice none 0 0)] 33 false, .gone, .gone, rowI 3 intT (([u.fFirst, (runI u u.fStart t.fFirst).1] : (List (List Int))).flatten), .box [I t.fIn, I u.fOut, I (wr ((wr (t.fStart * (u.fNext.length : Int))) + (runI u u.fStart t.fFirst).2)), .own 5, .own 9, .own 10, .own 12] 33 false, .gone, .gone, rowI 23 (lsT intT) l9_2, rowI 22 (lsT (lsT intT)) l10_2, .gone, rowI 23 (lsT intT) l12_2, rowI 3 intT zz.2.1, rowI 23 (lsT intT) zz.2.2]⟩) ((wr (x94 + 1)), (l13.set (x94).toNat (wr ((wr (e_3 * (u.fNext.length : Int))) + (runI u x79 e_5).2))), (l14.set (x94).toNat (runI u x79 e_5).1)) h (by kernel_rfl)
              · replace h := h.2 hb
                refine En.exit rfl ?_
                refine En.seq ?_
                obtain ⟨e_8, he_8, h⟩ := h
                have hp_6 := h.1
                replace h := h.2
                refine En.regionA ⟨[(2, .sv (.one (.ptr 0 0))), (3, .sv (.one (.ptr 1 0))), (4, .sv (.one (.ptr 2 0))), (9, .sv (.one (I (u.fNext.length : Int)))), (12, .sv (.one (.ptr 6 0))), (13, .sv (.one (I x75))), (14, .sv (.one (I x79))), (15, .sv (.one (.own 13))), (16, .sv (.one (.own 14))), (74, .sv (.one (I (t.fNext.length : Int)))), (75, .sv (.one (I x75))), (78, .sv (.one (I (u.fNext.length : Int)))), (79, .sv (.one (I x79)))], [.sv (.agg [I u.fIn, I u.fOut, I u.fStart, LS intT u.fFirst, LS (lsT intT) u.fNext, LS (lsT (lsT intT)) u.fSays, LS (lsT intT) u.fLast]), .sv (.one (I x79)), .sv (.one (.ptr 0 6)), .sv (.one (LS (lsT intT) t.fLast)), .sv (.one (I x75)), .sv (.one (.pe (svR (.one (LS intT e_8))) 1)), .sv (.one (LS intT e_8)), .tup [.one (LS intT (runI u x79 e_8).1), .one (I (runI u x79 e_8).2)], .tup [.one (LS intT (runI u x79 e_8).1), .one (I (runI u x79 e_8).2)], .sv (.one (LS intT (runI u x79 e_8).1)), .sv (.one (I (runI u x79 e_8).2)), .sv (.one (LS intT (runI u x79 e_8).1)), .sv (.one (I (runI u x79 e_8).2))], [⟨.box [I t.fIn, I t.fOut, I t.fStart, LS intT t.fFirst, LS (lsT intT) t.fNext, LS (lsT (lsT intT)) t.fSays, LS (lsT intT) t.fLast] 33 false, none, none, none⟩, ⟨.box [I u.fIn, I u.fOut, I u.fStart, LS intT u.fFirst, LS (lsT intT) u.fNext, LS (lsT (lsT intT)) u.fSays, LS (lsT intT) u.fLast] 33 false, none, none, none⟩, ⟨.box [I 0, I 0, I 0, .v (.slice none 0 0), .v (.slice none 0 0), .v (.slice none 0 0), .v (.slice none 0 0)] 33 false, none, none, none⟩, ⟨.gone, none, none, none⟩, ⟨.gone, none, none, none⟩, ⟨rowI 3 intT (([u.fFirst, (runI u u.fStart t.fFirst).1] : (List (List Int))).flatten), none, none, none⟩, ⟨.box [I t.fIn, I u.fOut, I (wr ((wr (t.fStart * (u.fNext.length : Int))) + (runI u u.fStart t.fFirst).2)), .own 5, .own 9, .own 10, .own 12] 33 false, none, none, none⟩, ⟨.gone, none, none, none⟩, ⟨.gone, none, none, none⟩, ⟨rowI 23 (lsT intT) l9_2, none, none, none⟩, ⟨rowI 22 (lsT (lsT intT)) l10_2, none, none, none⟩, ⟨.gone, none, none, none⟩, ⟨rowI 23 (lsT intT) l12_2, none, none, none⟩, ⟨rowI 3 intT l13, none, none, none⟩, ⟨rowI 23 (lsT intT) l14, none, none, none⟩]⟩ ⟨[(2, .sv (.one (.ptr 0 0))), (3, .sv (.one (.ptr 1 0))), (4, .sv (.one (.ptr 2 0))), (9, .sv (.one (I (u.fNext.length : Int)))), (12, .sv (.one (.ptr 6 0))), (13, .sv (.one (I x75))), (15, .sv (.one (.own 13))), (16, .sv (.one (.own 14))), (21, .sv (.one (LS intT (runI u x79 e_8).1))), (22, .sv (.one (I (runI u x79 e_8).2))), (74, .sv (.one (I (t.fNext.length : Int)))), (75, .sv (.one (I x75))), (78, .sv (.one (I (u.fNext.length : Int)))), (79, .sv (.one (I x79)))], [.box [I t.fIn, I t.fOut, I t.fStart, LS intT t.fFirst, LS (lsT intT) t.fNext, LS (lsT (lsT intT)) t.fSays, LS (lsT intT) t.fLast] 33 false, .box [I u.fIn, I u.fOut, I u.fStart, LS intT u.fFirst, LS (lsT intT) u.fNext, LS (lsT (lsT intT)) u.fSays, LS (lsT intT) u.fLast] 33 false, .box [I 0, I 0, I 0, .v (.slice none 0 0), .v (.slice none 0 0), .v (.slice none 0 0), .v (.slice none 0 0)] 33 false, .gone, .gone, rowI 3 intT (([u.fFirst, (runI u u.fStart t.fFirst).1] : (List (List Int))).flatten), .box [I t.fIn, I u.fOut, I (wr ((wr (t.fStart * (u.fNext.length : Int))) + (runI u u.fStart t.fFirst).2)), .own 5, .own 9, .own 10, .own 12] 33 false, .gone, .gone, rowI 23 (lsT intT) l9_2, rowI 22 (lsT (lsT intT)) l10_2, .gone, rowI 23 (lsT intT) l12_2, rowI 3 intT l13, rowI 23 (lsT intT) l14]⟩ (by kernel_rfl) hn (by kernel_rfl) (by rfl) (by kernel_rfl) ?_ (by kernel_rfl) ?_
                · exact ⟨.mt ⟨[(3, .sv (.one (.ptr 1 0)))], [.gone, .box [I u.fIn, I u.fOut, I u.fStart, LS intT u.fFirst, LS (lsT intT) u.fNext, LS (lsT (lsT intT)) u.fSays, LS (lsT intT) u.fLast] 33 false]⟩ [] none (by kernel_rfl) (by rfl) (mt_ev ht (by kernel_rfl)) rfl rfl rfl rfl,
    .mt ⟨[(14, .sv (.one (I x79)))], []⟩ [] none (by kernel_rfl) (by rfl) (mt_ev ht (by kernel_rfl)) rfl rfl rfl rfl,
    .mt ⟨[(2, .sv (.one (.ptr 0 0)))], []⟩ [] none (by kernel_rfl) (by rfl) (mt_ev ht (by kernel_rfl)) rfl rfl rfl rfl,
    .mt ⟨[(129, .sv (.one (.ptr 0 6)))], [.box [I t.fIn, I t.fOut, I t.fStart, LS intT t.fFirst, LS (lsT intT) t.fNext, LS (lsT (lsT intT)) t.fSays, LS (lsT intT) t.fLast] 33 false]⟩ [] none (by kernel_rfl) (by rfl) (mt_ev ht (by kernel_rfl)) rfl rfl rfl rfl,
    .mt ⟨[(13, .sv (.one (I x75)))], []⟩ [] none (by kernel_rfl) (by rfl) (mt_ev ht (by kernel_rfl)) rfl rfl rfl rfl,
    .mt ⟨[(130, .sv (.one (LS (lsT intT) t.fLast))), (131, .sv (.one (I x75)))], []⟩ [] none (by kernel_rfl) (by rfl) (mt_val (val_index (T := (lsT intT)) (l := t.fLast) (i := x75) ht rfl (by rfl) (by rfl) (by rfl) (by rfl) (by rfl) (by rfl) he_8)) rfl rfl rfl rfl,
    .mt ⟨[(132, .sv (.one (.pe (svR (.one (LS intT e_8))) 1)))], []⟩ [] none (by kernel_rfl) (by rfl) (mt_val (val_load (s := .one (LS intT e_8)) ht rfl (by rfl) (by rfl) (by rfl) (by rfl) (by rfl))) rfl rfl rfl rfl,
    .mt ⟨[(127, .sv (.agg [I u.fIn, I u.fOut, I u.fStart, LS intT u.fFirst, LS (lsT intT) u.fNext, LS (lsT (lsT intT)) u.fSays, LS (lsT intT) u.fLast])), (128, .sv (.one (I x79))), (133, .sv (.one (LS intT e_8)))], []⟩ [] none (by kernel_rfl) (by rfl) (mt_call (trRun_ct u x79 e_8 hp_6) en58 (caps := []) [] rfl (by rfl) (by kernel_rfl) (by kernel_rfl) (by rfl) (by rfl) (by rfl)) rfl rfl rfl rfl,
    .mt ⟨[(134, .tup [.one (LS intT (runI u x79 e_8).1), .one (I (runI u x79 e_8).2)])], []⟩ [] none (by kernel_rfl) (by rfl) (mt_ev ht (by kernel_rfl)) rfl rfl rfl rfl,
    .mt ⟨[(126, .tup [.one (LS intT (runI u x79 e_8).1), .one (I (runI u x79 e_8).2)])], []⟩ [] none (by kernel_rfl) (by rfl) (mt_ev ht (by kernel_rfl)) rfl rfl rfl rfl,
    .mt ⟨[(126, .tup [.one (LS intT (runI u x79 e_8).1), .one (I (runI u x79 e_8).2)])], []⟩ [] none (by kernel_rfl) (by rfl) (mt_ev ht (by kernel_rfl)) rfl rfl rfl rfl,
    .mt ⟨[(135, .sv (.one (LS intT (runI u x79 e_8).1)))], []⟩ [] none (by kernel_rfl) (by rfl) (mt_ev ht (by kernel_rfl)) rfl rfl rfl rfl,
    .mt ⟨[(136, .sv (.one (I (runI u x79 e_8).2)))], []⟩ [] none (by kernel_rfl) (by rfl) (mt_ev ht (by kernel_rfl)) rfl rfl rfl rfl,
    trivial⟩
                · refine En.seal (T := intT) (l := l13) (e := 3) 13 rfl ?_
                  refine En.seal (T := (lsT intT)) (l := l14) (e := 23) 14 rfl ?_
                  have hp_7 := h.1
                  replace h := h.2
                  have hp_8 := h.1
                  replace h := h.2
                  obtain ⟨e_9, he_9, h⟩ := h
                  have hp_9 := h.1
                  replace h := h.2
                  have hp_10 := h.1
                  replace h := h.2
                  refine En.regionT ⟨[(2, .sv (.one (.ptr 0 0))), (3, .sv (.one (.ptr 1 0))), (4, .sv (.one (.ptr 2 0))), (9, .sv (.one (I (u.fNext.length : Int)))), (12, .sv (.one (.ptr 6 0))), (13, .sv (.one (I x75))), (15, .sv (.one (LS intT l13))), (16, .sv (.one (LS (lsT intT) l14))), (21, .sv (.one (LS intT (runI u x79 e_8).1))), (22, .sv (.one (I (runI u x79 e_8).2))), (74, .sv (.one (I (t.fNext.length : Int)))), (75, .sv (.one (I x75))), (78, .sv (.one (I (u.fNext.length : Int)))), (79, .sv (.one (I x79)))], [.sv (.one (.ptr 6 4)), .sv (.one (.own 9)), .sv (.one (LS intT l13)), .sv (.one (LS (lsT intT) ([l13] : (List (List Int))))), .sv (.one (.own 15)), .sv (.one (.ptr 6 5)), .sv (.one (.own 10)), .sv (.one (LS (lsT intT) l14)), .sv (.one (LS (lsT (lsT intT)) ([l14] : (List (List (List Int)))))), .sv (.one (.own 16)), .sv (.one (.ptr 6 6)), .sv (.one (.own 12)), .sv (.one (LS intT (runI u x79 e_8).1)), .sv (.one (.ptr 1 6)), .sv (.one (LS (lsT intT) u.fLast)), .sv (.one (I (runI u x79 e_8).2)), .sv (.one (.pe (svR (.one (LS intT e_9))) 1)), .sv (.one (LS intT e_9)), .sv (.one (.own 17)), .sv (.one (LS intT (([(runI u x79 e_8).1, e_9] : (List (List Int))).flatten))), .sv (.one (LS (lsT intT) ([(([(runI u x79 e_8).1, e_9] : (List (List Int))).flatten)] : (List (List Int))))), .sv (.one (.own 18)), .sv (.one (.ptr 6 4))], [⟨.box [I t.fIn, I t.fOut, I t.fStart, LS intT t.fFirst, LS (lsT intT) t.fNext, LS (lsT (lsT intT)) t.fSays, LS (lsT intT) t.fLast] 33 false, none, none, none⟩, ⟨.box [I u.fIn, I u.fOut, I u.fStart, LS intT u.fFirst, LS (lsT intT) u.fNext, LS (lsT (lsT intT)) u.fSays, LS (lsT intT) u.fLast] 33 false, none, none, none⟩, ⟨.box [I 0, I 0, I 0, .v (.slice none 0 0), .v (.slice none 0 0), .v (.slice none 0 0), .v (.slice none 0 0)] 33 false, none, none, none⟩, ⟨.gone, none, none, none⟩, ⟨.gone, none, none, none⟩, ⟨rowI 3 intT (([u.fFirst, (runI u u.fStart t.fFirst).1] : (List (List Int))).flatten), none, none, none⟩, ⟨.box [I t.fIn, I u.fOut, I (wr ((wr (t.fStart * (u.fNext.length : Int))) + (runI u u.fStart t.fFirst).2)), .own 5, .own 9, .own 10, .own 12] 33 false, none, none, none⟩, ⟨.gone, none, none, none⟩, ⟨.gone, none, none, none⟩, ⟨rowI 23 (lsT intT) l9_2, none, some 4, none⟩, ⟨rowI 22 (lsT (lsT intT)) l10_2, none, some 9, none⟩, ⟨.gone, none, none, none⟩, ⟨rowI 23 (lsT intT) l12_2, none, some 21, none⟩, ⟨.gone, none, none, none⟩, ⟨.gone, none, none, none⟩, ⟨rowI 23 (lsT intT) (l9_2 ++ ([l13] : (List (List Int)))), some 4, none, none⟩, ⟨rowI 22 (lsT (lsT intT)) (l10_2 ++ ([l14] : (List (List (List Int))))), some 9, none, none⟩, ⟨rowI 23 (lsT intT) ([(runI u x79 e_8).1, e_9] : (List (List Int))), some 18, none, none⟩, ⟨rowI 23 (lsT intT) (l12_2 ++ ([(([(runI u x79 e_8).1, e_9] : (List (List Int))).flatten)] : (List (List Int)))), some 21, none, none⟩]⟩ 23 ⟨[(2, .sv (.one (.ptr 0 0))), (3, .sv (.one (.ptr 1 0))), (4, .sv (.one (.ptr 2 0))), (9, .sv (.one (I (u.fNext.length : Int)))), (12, .sv (.one (.ptr 6 0))), (13, .sv (.one (I x75))), (74, .sv (.one (I (t.fNext.length : Int)))), (75, .sv (.one (I x75))), (78, .sv (.one (I (u.fNext.length : Int)))), (79, .sv (.one (I x79))), (141, .sv (.one (.own 15))), (146, .sv (.one (.own 16))), (158, .sv (.one (.own 18))), (159, .sv (.one (.ptr 6 4)))], [.box [I t.fIn, I t.fOut, I t.fStart, LS intT t.fFirst, LS (lsT intT) t.fNext, LS (lsT (lsT intT)) t.fSays, LS (lsT intT) t.fLast] 33 false, .box [I u.fIn, I u.fOut, I u.fStart, LS intT u.fFirst, LS (lsT intT) u.fNext, LS (lsT (lsT intT)) u.fSays, LS (lsT intT) u.fLast] 33 false, .box [I 0, I 0, I 0, .v (.slice none 0 0), .v (.slice none 0 0), .v (.slice none 0 0), .v (.slice none 0 0)] 33 false, .gone, .gone, rowI 3 intT (([u.fFirst, (runI u u.fStart t.fFirst).1] : (List (List Int))).flatten), .box [I t.fIn, I u.fOut, I (wr ((wr (t.fStart * (u.fNext.length : Int))) + (runI u u.fStart t.fFirst).2)), .own 5, .own 9, .own 10, .own 12] 33 false, .gone, .gone, .gone, .gone, .gone, .gone, .gone, .gone, rowI 23 (lsT intT) (l9_2 ++ ([l13] : (List (List Int)))), rowI 22 (lsT (lsT intT)) (l10_2 ++ ([l14] : (List (List (List Int))))), .gone, rowI 23 (lsT intT) (l12_2 ++ ([(([(runI u x79 e_8).1, e_9] : (List (List Int))).flatten)] : (List (List Int))))]⟩ (by kernel_rfl) hn (by kernel_rfl) (by kernel_rfl) (by kernel_rfl) (by rfl) (by kernel_rfl) ?_ (by kernel_rfl) ?_
                  · exact ⟨.mt ⟨[(12, .sv (.one (.ptr 6 0)))], []⟩ [] none (by kernel_rfl) (by rfl) (mt_ev ht (by kernel_rfl)) rfl rfl rfl rfl,
    .mt ⟨[(137, .sv (.one (.ptr 6 4)))], [.gone, .gone, .gone, .gone, .gone, .gone, .box [I t.fIn, I u.fOut, I (wr ((wr (t.fStart * (u.fNext.length : Int))) + (runI u u.fStart t.fFirst).2)), .own 5, .own 9, .own 10, .own 12] 33 false]⟩ [] none (by kernel_rfl) (by rfl) (mt_ev ht (by kernel_rfl)) rfl rfl rfl rfl,
    .mt ⟨[(15, .sv (.one (LS intT l13)))], []⟩ [] none (by kernel_rfl) (by rfl) (mt_ev ht (by kernel_rfl)) rfl rfl rfl rfl,
    .mt ⟨[(139, .sv (.one (LS intT l13)))], []⟩ [] none (by kernel_rfl) (by rfl) (mt_seal (q := 15) (e := 23) (mt_lit (T := (lsT intT)) ([l13] : (List (List Int))) (mt_bsl 15 (r := cellsOf (lsT intT) ([l13] : (List (List Int)))) ht rfl (by rfl) (by rfl) (by rfl) (by kernel_rfl) (by rfl)) (fun _ h => by cases h) (fun _ => rfl) (fun _ => rfl) (by rfl) (Nat.le_of_ble_eq_true rfl))) rfl rfl rfl rfl,
    .mt ⟨[(138, .sv (.one (.own 9))), (140, .sv (.one (LS (lsT intT) ([l13] : (List (List Int))))))], [.gone, .gone, .gone, .gone, .gone, .gone, .gone, .gone, .gone, rowI 23 (lsT intT) l9_2]⟩ [9] (some 15) (by kernel_rfl) (by rfl) (mt_append (T := (lsT intT)) (l := l9_2) (es := ([l13] : (List (List Int)))) (p := 15) ht rfl (by rfl) (by rfl) (by rfl) (by rfl) (by decide) (by rfl) (by rfl) (srcLS (T := (lsT intT)) (es := ([l13] : (List (List Int)))) (fun _ h => by cases h) (by decide) (by rfl)) (by exact hp_7) (by exact hp_7.le (by decide))) rfl rfl rfl rfl,
    .mt ⟨[(12, .sv (.one (.ptr 6 0)))], []⟩ [] none (by kernel_rfl) (by rfl) (mt_ev ht (by kernel_rfl)) rfl rfl rfl rfl,
    .mt ⟨[(142, .sv (.one (.ptr 6 5)))], [.gone, .gone, .gone, .gone, .gone, .gone, .box [I t.fIn, I u.fOut, I (wr ((wr (t.fStart * (u.fNext.length : Int))) + (runI u u.fStart t.fFirst).2)), .own 5, .own 9, .own 10, .own 12] 33 false]⟩ [] none (by kernel_rfl) (by rfl) (mt_ev ht (by kernel_rfl)) rfl rfl rfl rfl,
    .mt ⟨[(16, .sv (.one (LS (lsT intT) l14)))], []⟩ [] none (by kernel_rfl) (by rfl) (mt_ev ht (by kernel_rfl)) rfl rfl rfl rfl,
    .mt ⟨[(144, .sv (.one (LS (lsT intT) l14)))], []⟩ [] none (by kernel_rfl) (by rfl) (mt_seal (q := 16) (e := 22) (mt_lit (T := (lsT (lsT intT))) ([l14] : (List (List (List Int)))) (mt_bsl 16 (r := cellsOf (lsT (lsT intT)) ([l14] : (List (List (List Int))))) ht rfl (by rfl) (by rfl) (by rfl) (by kernel_rfl) (by rfl)) (fun _ h => by cases h) (fun _ => rfl) (fun _ => rfl) (by rfl) (Nat.le_of_ble_eq_true rfl))) rfl rfl rfl rfl,
    .mt ⟨[(143, .sv (.one (.own 10))), (145, .sv (.one (LS (lsT (lsT intT)) ([l14] : (List (List (List Int)))))))], [.gone, .gone, .gone, .gone, .gone, .gone, .gone, .gone, .gone, .gone, rowI 22 (lsT (lsT intT)) l10_2]⟩ [10] (some 16) (by kernel_rfl) (by rfl) (mt_append (T := (lsT (lsT intT))) (l := l10_2) (es := ([l14] : (List (List (List Int))))) (p := 16) ht rfl (by rfl) (by rfl) (by rfl) (by rfl) (by decide) (by rfl) (by rfl) (srcLS (T := (lsT (lsT intT))) (es := ([l14] : (List (List (List Int))))) (fun _ h => by cases h) (by decide) (by rfl)) (by exact hp_8) (by exact hp_8.le (by decide))) rfl rfl rfl rfl,
    .mt ⟨[(12, .sv (.one (.ptr 6 0)))], []⟩ [] none (by kernel_rfl) (by rfl) (mt_ev ht (by kernel_rfl)) rfl rfl rfl rfl,
    .mt ⟨[(147, .sv (.one (.ptr 6 6)))], [.gone, .gone, .gone, .gone, .gone, .gone, .box [I t.fIn, I u.fOut, I (wr ((wr (t.fStart * (u.fNext.length : Int))) + (runI u u.fStart t.fFirst).2)), .own 5, .own 9, .own 10, .own 12] 33 false]⟩ [] none (by kernel_rfl) (by rfl) (mt_ev ht (by kernel_rfl)) rfl rfl rfl rfl,
    .mt ⟨[(21, .sv (.one (LS intT (runI u x79 e_8).1)))], []⟩ [] none (by kernel_rfl) (by rfl) (mt_ev ht (by kernel_rfl)) rfl rfl rfl rfl,
    .mt ⟨[(3, .sv (.one (.ptr 1 0)))], []⟩ [] none (by kernel_rfl) (by rfl) (mt_ev ht (by kernel_rfl)) rfl rfl rfl rfl,
    .mt ⟨[(150, .sv (.one (.ptr 1 6)))], [.gone, .box [I u.fIn, I u.fOut, I u.fStart, LS intT u.fFirst, LS (lsT intT) u.fNext, LS (lsT (lsT intT)) u.fSays, LS (lsT intT) u.fLast] 33 false]⟩ [] none (by kernel_rfl) (by rfl) (mt_ev ht (by kernel_rfl)) rfl rfl rfl rfl,
    .mt ⟨[(22, .sv (.one (I (runI u x79 e_8).2)))], []⟩ [] none (by kernel_rfl) (by rfl) (mt_ev ht (by kernel_rfl)) rfl rfl rfl rfl,
    .mt ⟨[(151, .sv (.one (LS (lsT intT) u.fLast))), (152, .sv (.one (I (runI u x79 e_8).2)))], []⟩ [] none (by kernel_rfl) (by rfl) (mt_val (val_index (T := (lsT intT)) (l := u.fLast) (i := (runI u x79 e_8).2) ht rfl (by rfl) (by rfl) (by rfl) (by rfl) (by rfl) (by rfl) he_9)) rfl rfl rfl rfl,
    .mt ⟨[(153, .sv (.one (.pe (svR (.one (LS intT e_9))) 1)))], []⟩ [] none (by kernel_rfl) (by rfl) (mt_val (val_load (s := .one (LS intT e_9)) ht rfl (by rfl) (by rfl) (by rfl) (by rfl) (by rfl))) rfl rfl rfl rfl,
    .mt ⟨[(149, .sv (.one (LS intT (runI u x79 e_8).1))), (154, .sv (.one (LS intT e_9)))], []⟩ [] (some 17) (by kernel_rfl) (by rfl) (mt_lit (T := (lsT intT)) ([(runI u x79 e_8).1, e_9] : (List (List Int))) (mt_bsl 17 (r := cellsOf (lsT intT) ([(runI u x79 e_8).1, e_9] : (List (List Int)))) ht rfl (by rfl) (by rfl) (by rfl) (by kernel_rfl) (by rfl)) (fun _ h => by cases h) (fun _ => rfl) (fun _ => rfl) (by rfl) (Nat.le_of_ble_eq_true rfl)) rfl rfl rfl rfl,
    .mt ⟨[(155, .sv (.one (.own 17)))], [.gone, .gone, .gone, .gone, .gone, .gone, .gone, .gone, .gone, .gone, .gone, .gone, .gone, .gone, .gone, .gone, .gone, rowI 23 (lsT intT) ([(runI u x79 e_8).1, e_9] : (List (List Int)))]⟩ [] none (by kernel_rfl) (by rfl) (mt_seal (q := 18) (e := 3) (mt_lendI (T := (lsT intT)) (l := ([(runI u x79 e_8).1, e_9] : (List (List Int)))) 17 (by rfl) (plain_row fun _ => rfl) (mt_callI 18 (concatI_ct ([(runI u x79 e_8).1, e_9] : (List (List Int))) hp_9) en59 (caps := []) [] rfl rfl (by rfl) (by kernel_rfl) (by kernel_rfl) (by rfl) (by rfl)))) rfl rfl rfl rfl,
    .mt ⟨[(156, .sv (.one (LS intT (([(runI u x79 e_8).1, e_9] : (List (List Int))).flatten))))], []⟩ [] none (by kernel_rfl) (by rfl) (mt_seal (q := 18) (e := 23) (mt_lit (T := (lsT intT)) ([(([(runI u x79 e_8).1, e_9] : (List (List Int))).flatten)] : (List (List Int))) (mt_bsl 18 (r := cellsOf (lsT intT) ([(([(runI u x79 e_8).1, e_9] : (List (List Int))).flatten)] : (List (List Int)))) ht rfl (by rfl) (by rfl) (by rfl) (by kernel_rfl) (by rfl)) (fun _ h => by cases h) (fun _ => rfl) (fun _ => rfl) (by rfl) (Nat.le_of_ble_eq_true rfl))) rfl rfl rfl rfl,
    .mt ⟨[(148, .sv (.one (.own 12))), (157, .sv (.one (LS (lsT intT) ([(([(runI u x79 e_8).1, e_9] : (List (List Int))).flatten)] : (List (List Int))))))], [.gone, .gone, .gone, .gone, .gone, .gone, .gone, .gone, .gone, .gone, .gone, .gone, rowI 23 (lsT intT) l12_2]⟩ [12] (some 18) (by kernel_rfl) (by rfl) (mt_append (T := (lsT intT)) (l := l12_2) (es := ([(([(runI u x79 e_8).1, e_9] : (List (List Int))).flatten)] : (List (List Int)))) (p := 18) ht rfl (by rfl) (by rfl) (by rfl) (by rfl) (by decide) (by rfl) (by rfl) (srcLS (T := (lsT intT)) (es := ([(([(runI u x79 e_8).1, e_9] : (List (List Int))).flatten)] : (List (List Int)))) (fun _ h => by cases h) (by decide) (by rfl)) (by exact hp_10) (by exact hp_10.le (by decide))) rfl rfl rfl rfl,
    .mt ⟨[(12, .sv (.one (.ptr 6 0)))], []⟩ [] none (by kernel_rfl) (by rfl) (mt_ev ht (by kernel_rfl)) rfl rfl rfl rfl,
    trivial⟩
                  · refine WL.run ht hn 5 ⟨[(2, .sv (.one (.ptr 0 0))), (3, .sv (.one (.ptr 1 0))), (4, .sv (.one (.ptr 2 0))), (9, .sv (.one (I (u.fNext.length : Int)))), (12, .sv (.one (.ptr 6 0))), (13, .sv (.one (I x75))), (74, .sv (.one (I (t.fNext.length : Int)))), (75, .sv (.one (I x75))), (78, .sv (.one (I (u.fNext.length : Int)))), (79, .sv (.one (I x79)))], [.box [I t.fIn, I t.fOut, I t.fStart, LS intT t.fFirst, LS (lsT intT) t.fNext, LS (lsT (lsT intT)) t.fSays, LS (lsT intT) t.fLast] 33 false, .box [I u.fIn, I u.fOut, I u.fStart, LS intT u.fFirst, LS (lsT intT) u.fNext, LS (lsT (lsT intT)) u.fSays, LS (lsT intT) u.fLast] 33 false, .box [I 0, I 0, I 0, .v (.slice none 0 0), .v (.slice none 0 0), .v (.slice none 0 0), .v (.slice none 0 0)] 33 false, .gone, .gone, rowI 3 intT (([u.fFirst, (runI u u.fStart t.fFirst).1] : (List (List Int))).flatten), .box [I t.fIn, I u.fOut, I (wr ((wr (t.fStart * (u.fNext.length : Int))) + (runI u u.fStart t.fFirst).2)), .own 5, .own 15, .own 16, .own 18] 33 false, .gone, .gone, .gone, .gone, .gone, .gone, .gone, .gone, rowI 23 (lsT intT) (l9_2 ++ ([l13] : (List (List Int)))), rowI 22 (lsT (lsT intT)) (l10_2 ++ ([l14] : (List (List (List Int))))), .gone, rowI 23 (lsT intT) (l12_2 ++ ([(([(runI u x79 e_8).1, e_9] : (List (List Int))).flatten)] : (List (List Int))))]⟩ (by kernel_rfl) ?_
                    refine WL.nil ?_
                    refine En.region ?_
                    refine WL.run ht hn 2 ⟨[(2, .sv (.one (.ptr 0 0))), (3, .sv (.one (.ptr 1 0))), (4, .sv (.one (.ptr 2 0))), (9, .sv (.one (I (u.fNext.length : Int)))), (12, .sv (.one (.ptr 6 0))), (13, .sv (.one (I x75))), (74, .sv (.one (I (t.fNext.length : Int)))), (75, .sv (.one (I x75))), (78, .sv (.one (I (u.fNext.length : Int)))), (79, .sv (.one (I (wr (x79 + 1)))))], [.box [I t.fIn, I t.fOut, I t.fStart, LS intT t.fFirst, LS (lsT intT) t.fNext, LS (lsT (lsT intT)) t.fSays, LS (lsT intT) t.fLast] 33 false, .box [I u.fIn, I u.fOut, I u.fStart, LS intT u.fFirst, LS (lsT intT) u.fNext, LS (lsT (lsT intT)) u.fSays, LS (lsT intT) u.fLast] 33 false, .box [I 0, I 0, I 0, .v (.slice none 0 0), .v (.slice none 0 0), .v (.slice none 0 0), .v (.slice none 0 0)] 33 false, .gone, .gone, rowI 3 intT (([u.fFirst, (runI u u.fStart t.fFirst).1] : (List (List Int))).flatten), .box [I t.fIn, I u.fOut, I (wr ((wr (t.fStart * (u.fNext.length : Int))) + (runI u u.fStart t.fFirst).2)), .own 5, .own 15, .own 16, .own 18] 33 false, .gone, .gone, .gone, .gone, .gone, .gone, .gone, .gone, rowI 23 (lsT intT) (l9_2 ++ ([l13] : (List (List Int)))), rowI 22 (lsT (lsT intT)) (l10_2 ++ ([l14] : (List (List (List Int))))), .gone, rowI 23 (lsT intT) (l12_2 ++ ([(([(runI u x79 e_8).1, e_9] : (List (List Int))).flatten)] : (List (List Int))))]⟩ (by kernel_rfl) ?_
                    refine WL.nil ?_
                    refine En.move 15 9 (by rfl) (by rfl) ?_
                    refine En.move 16 10 (by rfl) (by rfl) ?_
                    refine En.move 18 12 (by rfl) (by rfl) ?_
                    exact En.at (I := fun zz => Inv_3 zz.1 zz.2.1 zz.2.2.1 zz.2.2.2 ∧ mu_3 zz.1 zz.2.1 zz.2.2.1 zz.2.2.2 < mu_3 x79 l9_2 l10_2 l12_2) (T := fun zz => ⟨[(2, .sv (.one (.ptr 0 0))), (3, .sv (.one (.ptr 1 0))), (4, .sv (.one (.ptr 2 0))), (9, .sv (.one (I (u.fNext.length : Int)))), (12, .sv (.one (.ptr 6 0))), (13, .sv (.one (I x75))), (74, .sv (.one (I (t.fNext.length : Int)))), (75, .sv (.one (I x75))), (78, .sv (.one (I (u.fNext.length : Int)))), (79, .sv (.one (I zz.1)))], [.box [I t.fIn, I t.fOut, I t.fStart, LS intT t.fFirst, LS (lsT intT) t.fNext, LS (lsT (lsT intT)) t.fSays, LS (lsT intT) t.fLast] 33 false, .box [I u.fIn, I u.fOut, I u.fStart, LS intT u.fFirst, LS (lsT intT) u.fNext, LS (lsT (lsT intT)) u.fSays, LS (lsT intT) u.fLast] 33 false, .box [I 0, I 0, I 0, .v (.slice none 0 0), .v (.slice none 0 0), .v (.slice none 0 0), .v (.slice none 0 0)] 33 false, .gone, .gone, rowI 3 intT (([u.fFirst, (runI u u.fStart t.fFirst).1] : (List (List Int))).flatten), .box [I t.fIn, I u.fOut, I (wr ((wr (t.fStart * (u.fNext.length : Int))) + (runI u u.fStart t.fFirst).2)), .own 5, .own 9, .own 10, .own 12] 33 false, .gone, .gone, rowI 23 (lsT intT) zz.2.1, rowI 22 (lsT (lsT intT)) zz.2.2.1, .gone, rowI 23 (lsT intT) zz.2.2.2]⟩) ((wr (x79 + 1)), (l9_2 ++ ([l13] : (List (List Int)))), (l10_2 ++ ([l14] : (List (List (List Int))))), (l12_2 ++ ([(([(runI u x79 e_8).1, e_9] : (List (List Int))).flatten)] : (List (List Int))))) h (by kernel_rfl)
          · replace h := h.2 hb
            refine En.exit rfl ?_
            refine En.region ?_
            refine WL.run ht hn 2 ⟨[(2, .sv (.one (.ptr 0 0))), (3, .sv (.one (.ptr 1 0))), (4, .sv (.one (.ptr 2 0))), (9, .sv (.one (I (u.fNext.length : Int)))), (12, .sv (.one (.ptr 6 0))), (74, .sv (.one (I (t.fNext.length : Int)))), (75, .sv (.one (I (wr (x75 + 1)))))], [.box [I t.fIn, I t.fOut, I t.fStart, LS intT t.fFirst, LS (lsT intT) t.fNext, LS (lsT (lsT intT)) t.fSays, LS (lsT intT) t.fLast] 33 false, .box [I u.fIn, I u.fOut, I u.fStart, LS intT u.fFirst, LS (lsT intT) u.fNext, LS (lsT (lsT intT)) u.fSays, LS (lsT intT) u.fLast] 33 false, .box [I 0, I 0, I 0, .v (.slice none 0 0), .v (.slice none 0 0), .v (.slice none 0 0), .v (.slice none 0 0)] 33 false, .gone, .gone, rowI 3 intT (([u.fFirst, (runI u u.fStart t.fFirst).1] : (List (List Int))).flatten), .box [I t.fIn, I u.fOut, I (wr ((wr (t.fStart * (u.fNext.length : Int))) + (runI u u.fStart t.fFirst).2)), .own 5, .own 9, .own 10, .own 12] 33 false, .gone, .gone, rowI 23 (lsT intT) l9_2, rowI 22 (lsT (lsT intT)) l10_2, .gone, rowI 23 (lsT intT) l12_2]⟩ (by kernel_rfl) ?_
            refine WL.nil ?_
            exact En.at (I := fun zz => Inv_2 zz.1 zz.2.1 zz.2.2.1 zz.2.2.2 ∧ mu_2 zz.1 zz.2.1 zz.2.2.1 zz.2.2.2 < mu_2 x75 l9 l10 l12) (T := fun zz => ⟨[(2, .sv (.one (.ptr 0 0))), (3, .sv (.one (.ptr 1 0))), (4, .sv (.one (.ptr 2 0))), (9, .sv (.one (I (u.fNext.length : Int)))), (12, .sv (.one (.ptr 6 0))), (74, .sv (.one (I (t.fNext.length : Int)))), (75, .sv (.one (I zz.1)))], [.box [I t.fIn, I t.fOut, I t.fStart, LS intT t.fFirst, LS (lsT intT) t.fNext, LS (lsT (lsT intT)) t.fSays, LS (lsT intT) t.fLast] 33 false, .box [I u.fIn, I u.fOut, I u.fStart, LS intT u.fFirst, LS (lsT intT) u.fNext, LS (lsT (lsT intT)) u.fSays, LS (lsT intT) u.fLast] 33 false, .box [I 0, I 0, I 0, .v (.slice none 0 0), .v (.slice none 0 0), .v (.slice none 0 0), .v (.slice none 0 0)] 33 false, .gone, .gone, rowI 3 intT (([u.fFirst, (runI u u.fStart t.fFirst).1] : (List (List Int))).flatten), .box [I t.fIn, I u.fOut, I (wr ((wr (t.fStart * (u.fNext.length : Int))) + (runI u u.fStart t.fFirst).2)), .own 5, .own 9, .own 10, .own 12] 33 false, .gone, .gone, rowI 23 (lsT intT) zz.2.1, rowI 22 (lsT (lsT intT)) zz.2.2.1, .gone, rowI 23 (lsT intT) zz.2.2.2]⟩) ((wr (x75 + 1)), l9_2, l10_2, l12_2) h (by kernel_rfl)
        · replace h := h.2 hb
          refine En.exit rfl ?_
          refine En.seq ?_
          refine En.region ?_
          refine WL.run ht hn 1 ⟨[(4, .sv (.one (.ptr 2 0))), (164, .sv (.agg [I t.fIn, I u.fOut, I (wr ((wr (t.fStart * (u.fNext.length : Int))) + (runI u u.fStart t.fFirst).2)), .own 5, .own 9, .own 10, .own 12]))], [.gone, .gone, .box [I 0, I 0, I 0, .v (.slice none 0 0), .v (.slice none 0 0), .v (.slice none 0 0), .v (.slice none 0 0)] 33 false, .gone, .gone, rowI 3 intT (([u.fFirst, (runI u u.fStart t.fFirst).1] : (List (List Int))).flatten), .gone, .gone, .gone, rowI 23 (lsT intT) l9, rowI 22 (lsT (lsT intT)) l10, .gone, rowI 23 (lsT intT) l12]⟩ (by kernel_rfl) ?_
          refine WL.seal (T := intT) (l := (([u.fFirst, (runI u u.fStart t.fFirst).1] : (List (List Int))).flatten)) (e := 3) 5 rfl ?_
          refine WL.run ht hn 0 ⟨[(4, .sv (.one (.ptr 2 0))), (164, .sv (.agg [I t.fIn, I u.fOut, I (wr ((wr (t.fStart * (u.fNext.length : Int))) + (runI u u.fStart t.fFirst).2)), LS intT (([u.fFirst, (runI u u.fStart t.fFirst).1] : (List (List Int))).flatten), .own 9, .own 10, .own 12]))], [.gone, .gone, .box [I 0, I 0, I 0, .v (.slice none 0 0), .v (.slice none 0 0), .v (.slice none 0 0), .v (.slice none 0 0)] 33 false, .gone, .gone, .gone, .gone, .gone, .gone, rowI 23 (lsT intT) l9, rowI 22 (lsT (lsT intT)) l10, .gone, rowI 23 (lsT intT) l12]⟩ (by kernel_rfl) ?_
          refine WL.seal (T := (lsT intT)) (l := l9) (e := 23) 9 rfl ?_
          refine WL.run ht hn 0 ⟨[(4, .sv (.one (.ptr 2 0))), (164, .sv (.agg [I t.fIn, I u.fOut, I (wr ((wr (t.fStart * (u.fNext.length : Int))) + (runI u u.fStart t.fFirst).2)), LS intT (([u.fFirst, (runI u u.fStart t.fFirst).1] : (List (List Int))).flatten), LS (lsT intT) l9, .own 10, .own 12]))], [.gone, .gone, .box [I 0, I 0, I 0, .v (.slice none 0 0), .v (.slice none 0 0), .v (.slice none 0 0), .v (.slice none 0 0)] 33 false, .gone, .gone, .gone, .gone, .gone, .gone, .gone, rowI 22 (lsT (lsT intT)) l10, .gone, rowI 23 (lsT intT) l12]⟩ (by kernel_rfl) ?_
          refine WL.seal (T := (lsT (lsT intT))) (l := l10) (e := 22) 10 rfl ?_
          refine WL.run ht hn 0 ⟨[(4, .sv (.one (.ptr 2 0))), (164, .sv (.agg [I t.fIn, I u.fOut, I (wr ((wr (t.fStart * (u.fNext.length : Int))) + (runI u u.fStart t.fFirst).2)), LS intT (([u.fFirst, (runI u u.fStart t.fFirst).1] : (List (List Int))).flatten), LS (lsT intT) l9, LS (lsT (lsT intT)) l10, .own 12]))], [.gone, .gone, .box [I 0, I 0, I 0, .v (.slice none 0 0), .v (.slice none 0 0), .v (.slice none 0 0), .v (.slice none 0 0)] 33 false, .gone, .gone, .gone, .gone, .gone, .gone, .gone, .gone, .gone, rowI 23 (lsT intT) l12]⟩ (by kernel_rfl) ?_
          refine WL.seal (T := (lsT intT)) (l := l12) (e := 23) 12 rfl ?_
          refine WL.run ht hn 0 ⟨[(4, .sv (.one (.ptr 2 0))), (164, .sv (.agg [I t.fIn, I u.fOut, I (wr ((wr (t.fStart * (u.fNext.length : Int))) + (runI u u.fStart t.fFirst).2)), LS intT (([u.fFirst, (runI u u.fStart t.fFirst).1] : (List (List Int))).flatten), LS (lsT intT) l9, LS (lsT (lsT intT)) l10, LS (lsT intT) l12]))], [.gone, .gone, .box [I 0, I 0, I 0, .v (.slice none 0 0), .v (.slice none 0 0), .v (.slice none 0 0), .v (.slice none 0 0)] 33 false, .gone, .gone, .gone, .gone, .gone, .gone, .gone, .gone, .gone, .gone]⟩ (by kernel_rfl) ?_
          have hp := h.1
          replace h := h.2
          refine WL.mt0 (K := []) (p := none) hn (by rfl) (mt_call (trLeast_ct (ApiTrans.mk t.fIn u.fOut (wr ((wr (t.fStart * (u.fNext.length : Int))) + (runI u u.fStart t.fFirst).2)) (([u.fFirst, (runI u u.fStart t.fFirst).1] : (List (List Int))).flatten) l9 l10 l12) hp) en57 (caps := []) [] rfl (by rfl) (by kernel_rfl) (by kernel_rfl) (by rfl) (by rfl) (by rfl)) (by rfl) (by rfl) (by rfl) ?_
          have hp := h.1
          replace h := h.2
          refine WL.mt0 (K := []) (p := none) hn (by rfl) (mt_call (trTold_ct (leastG (ApiTrans.mk t.fIn u.fOut (wr ((wr (t.fStart * (u.fNext.length : Int))) + (runI u u.fStart t.fFirst).2)) (([u.fFirst, (runI u u.fStart t.fFirst).1] : (List (List Int))).flatten) l9 l10 l12)) hp) en56 (caps := []) [] rfl (by rfl) (by kernel_rfl) (by kernel_rfl) (by rfl) (by rfl) (by rfl)) (by rfl) (by rfl) (by rfl) ?_
          refine WL.run ht hn 4 ⟨[(4, .sv (.one (.ptr 2 0))), (5, .sv (.one (I (toldR (leastG (ApiTrans.mk t.fIn u.fOut (wr ((wr (t.fStart * (u.fNext.length : Int))) + (runI u u.fStart t.fFirst).2)) (([u.fFirst, (runI u u.fStart t.fFirst).1] : (List (List Int))).flatten) l9 l10 l12))).2)))], [.gone, .gone, .box [I (toldR (leastG (ApiTrans.mk t.fIn u.fOut (wr ((wr (t.fStart * (u.fNext.length : Int))) + (runI u u.fStart t.fFirst).2)) (([u.fFirst, (runI u u.fStart t.fFirst).1] : (List (List Int))).flatten) l9 l10 l12))).1.fIn, I (toldR (leastG (ApiTrans.mk t.fIn u.fOut (wr ((wr (t.fStart * (u.fNext.length : Int))) + (runI u u.fStart t.fFirst).2)) (([u.fFirst, (runI u u.fStart t.fFirst).1] : (List (List Int))).flatten) l9 l10 l12))).1.fOut, I (toldR (leastG (ApiTrans.mk t.fIn u.fOut (wr ((wr (t.fStart * (u.fNext.length : Int))) + (runI u u.fStart t.fFirst).2)) (([u.fFirst, (runI u u.fStart t.fFirst).1] : (List (List Int))).flatten) l9 l10 l12))).1.fStart, LS intT (toldR (leastG (ApiTrans.mk t.fIn u.fOut (wr ((wr (t.fStart * (u.fNext.length : Int))) + (runI u u.fStart t.fFirst).2)) (([u.fFirst, (runI u u.fStart t.fFirst).1] : (List (List Int))).flatten) l9 l10 l12))).1.fFirst, LS (lsT intT) (toldR (leastG (ApiTrans.mk t.fIn u.fOut (wr ((wr (t.fStart * (u.fNext.length : Int))) + (runI u u.fStart t.fFirst).2)) (([u.fFirst, (runI u u.fStart t.fFirst).1] : (List (List Int))).flatten) l9 l10 l12))).1.fNext, LS (lsT (lsT intT)) (toldR (leastG (ApiTrans.mk t.fIn u.fOut (wr ((wr (t.fStart * (u.fNext.length : Int))) + (runI u u.fStart t.fFirst).2)) (([u.fFirst, (runI u u.fStart t.fFirst).1] : (List (List Int))).flatten) l9 l10 l12))).1.fSays, LS (lsT intT) (toldR (leastG (ApiTrans.mk t.fIn u.fOut (wr ((wr (t.fStart * (u.fNext.length : Int))) + (runI u u.fStart t.fFirst).2)) (([u.fFirst, (runI u u.fStart t.fFirst).1] : (List (List Int))).flatten) l9 l10 l12))).1.fLast] 33 false, .gone, .gone, .gone, .gone, .gone, .gone, .gone, .gone, .gone, .gone]⟩ (by kernel_rfl) ?_
          refine WL.nil ?_
          refine En.ret ?_
          exact En.back ht ((toldR (leastG (ApiTrans.mk t.fIn u.fOut (wr ((wr (t.fStart * (u.fNext.length : Int))) + (runI u u.fStart t.fFirst).2)) (([u.fFirst, (runI u u.fStart t.fFirst).1] : (List (List Int))).flatten) l9 l10 l12))).1, (toldR (leastG (ApiTrans.mk t.fIn u.fOut (wr ((wr (t.fStart * (u.fNext.length : Int))) + (runI u u.fStart t.fFirst).2)) (([u.fFirst, (runI u u.fStart t.fFirst).1] : (List (List Int))).flatten) l9 l10 l12))).2) h (by kernel_rfl) rfl
theorem en20 : ∀ args w, (callFunc 20 args).run Try.prog w = .ok (.enter 20 args) w := enters_of Try.func20 (by kernel_rfl) rfl
theorem runI_nat (u : ApiTrans) (r : Nat) (w : List Int) : runI u (r : Int) w = ((runT u r w).1, ((runT u r w).2 : Int)) := by
  unfold runI
  rw [Int.toNat_natCast]
theorem runPre_of {u : ApiTrans} (hu : TrChk u) {r : Nat} (hr : r < u.fNext.length) {w : List Int} (hl : LetOk u.fIn w) (hw : w.length ≤ 8) : RunPre u (r : Int) w :=
  ⟨hu.ok, hu.shortT.mono (by decide), by omega, by omega, hl, by omega⟩
theorem range_next {α : Type} {f : Nat → α} {a b : Nat} {x : α} (h : x = f (a + b)) : (List.range (a + b)).map f ++ [x] = (List.range (a + (b + 1))).map f := by
  rw [← Nat.add_assoc, List.range_succ, List.map_append, h]
  rfl
theorem trBehind_ok (t u : ApiTrans) : trBehind_vc t u (fun res_ => res_ = behindR t u) := by
  intro _ _ _ _ _ _ _ _
  refine ⟨fun i => i = 0 ∨ (i = 1 ∧ trErr t = 0) ∨ (i = 2 ∧ trErr t = 0 ∧ trErr u = 0), fun i => 2 - i.toNat, .inl rfl, ?_⟩
  intro i hi
  refine ⟨fun hb => ?_, fun hb => ?_⟩
  · rcases hi with rfl | ⟨rfl, h1⟩ | ⟨rfl, _⟩
    · refine ⟨t, rfl, fun h => ?_, fun h => ⟨.inr (.inl ⟨by decide, by simpa using h⟩), by decide⟩⟩
      show _ = behindR t u
      unfold behindR
      rw [if_pos (by simpa using h)]
      rfl
    · refine ⟨u, rfl, fun h => ?_, fun h => ⟨.inr (.inr ⟨by decide, h1, by simpa using h⟩), by decide⟩⟩
      show _ = behindR t u
      unfold behindR
      rw [if_neg (by simp [h1]), if_pos (by simpa using h)]
      rfl
    · exact absurd hb (by simp)
  have hge : ¬ i < 2 := of_decide_eq_false hb
  have h12 : trErr t = 0 ∧ trErr u = 0 := by
    rcases hi with rfl | ⟨rfl, _⟩ | ⟨rfl, h⟩
    · exact absurd (by decide) hge
    · exact absurd (by decide) hge
    · exact h
  refine ⟨fun h3 => ?_, fun h3 => ?_⟩
  · show _ = behindR t u
    unfold behindR
    rw [if_neg (by simp [h12.1]), if_neg (by simp [h12.2]), if_pos (by simpa using h3)]
    rfl
  have hio : t.fOut = u.fIn := by simpa using h3
  have ht := (trErr_iff t).1 h12.1
  have hu := (trErr_iff u).1 h12.2
  have hts := ht.start
  have hus := hu.start
  have hin := ht.in_
  have hsm := ht.size
  have hsn := hu.size
  have hlu := hu.ok.last
  have hlt0 := ht.ok.last
  have hls0 := ht.ok.says
  obtain ⟨s, hs⟩ := Int.eq_ofNat_of_zero_le hts.1
  obtain ⟨z, hz⟩ := Int.eq_ofNat_of_zero_le hus.1
  have hzn : z < u.fNext.length := by omega
  have hsm' : s < t.fNext.length := by omega
  have hmn : t.fNext.length * u.fNext.length ≤ 6 * 6 := Nat.mul_le_mul hsm.2 hsn.2
  have hfl : LetOk u.fIn t.fFirst := by have := ht.lok.first; rwa [hio] at this
  have hf := prod_first ht hu hio
  rw [hz, Int.toNat_natCast] at hf
  have hff := hu.shortT.first
  obtain ⟨L, hL⟩ : ∃ L : Nat, t.fIn.toNat = L := ⟨_, rfl⟩
  have hIL : t.fIn = (L : Int) := by omega
  rw [hz, hs, runI_nat, wr_pair (by omega) (by omega) (by omega)]
  have hP : ∀ l9 l10 l12, l9 = (List.range (t.fNext.length * u.fNext.length)).map (prodRow t u) → l10 = (List.range (t.fNext.length * u.fNext.length)).map (prodSay t u) → l12 = (List.range (t.fNext.length * u.fNext.length)).map (prodLast t u) →
      ApiTrans.mk t.fIn u.fOut (((s * u.fNext.length + (runT u z t.fFirst).2 : Nat)) : Int) [u.fFirst, (runT u z t.fFirst).1].flatten l9 l10 l12 = prodT t u := fun l9 l10 l12 h1 h2 h3 => by
    unfold prodT
    rw [hs, hz, Int.toNat_natCast, Int.toNat_natCast, h1, h2, h3]
    simp
  refine ⟨runPre_of hu hzn hfl ht.shortT.first, ⟨by simp, ?_⟩, fun i l9 l10 l12 => ∃ p : Nat, i = p ∧ p ≤ t.fNext.length ∧ l9 = (List.range (p * u.fNext.length)).map (prodRow t u) ∧ l10 = (List.range (p * u.fNext.length)).map (prodSay t u) ∧ l12 = (List.range (p * u.fNext.length)).map (prodLast t u), fun i _ _ _ => t.fNext.length - i.toNat, ⟨0, rfl, Nat.zero_le _, by simp, by simp, by simp⟩, ?_⟩
  · simp only [List.flatten_cons, List.flatten_nil, List.append_nil, List.length_append]
    omega
  rintro i l9 l10 l12 ⟨p, rfl, hp, rfl, rfl, rfl⟩
  refine ⟨fun hb => ?_, fun hb => ?_⟩
  · have hpt := dlt hb
    have hrow := ht.ok.row hpt
    have hsrow := ht.ok.srow hpt
    refine ⟨fun i l9 l10 l12 => ∃ r : Nat, i = r ∧ r ≤ u.fNext.length ∧ l9 = (List.range (p * u.fNext.length + r)).map (prodRow t u) ∧ l10 = (List.range (p * u.fNext.length + r)).map (prodSay t u) ∧ l12 = (List.range (p * u.fNext.length + r)).map (prodLast t u), fun i _ _ _ => u.fNext.length - i.toNat, ⟨0, rfl, Nat.zero_le _, rfl, rfl, rfl⟩, ?_⟩
    rintro i l9 l10 l12 ⟨r, rfl, hr, rfl, rfl, rfl⟩
    refine ⟨fun hb => ?_, fun hb => ?_⟩
    · have hru := dlt hb
      have hpr := pair_lt hpt hru
      refine ⟨⟨by omega, by omega, by omega⟩, ⟨by omega, by omega, by omega⟩, _, idx_nat [] hpt, fun i l13 l14 => ∃ c : Nat, i = c ∧ c ≤ L ∧ l13 = (List.range c).map (fun a => ((nxT t p a * u.fNext.length + (runT u r (syT t p a)).2 : Nat) : Int)) ++ List.replicate (L - c) 0 ∧ l14 = (List.range c).map (fun a => (runT u r (syT t p a)).1) ++ List.replicate (L - c) [], fun i _ _ => L - i.toNat, ⟨0, rfl, Nat.zero_le _, by rw [hL]; simp, by rw [hL]; simp⟩, ?_⟩
      rintro i l13 l14 ⟨c, rfl, hc, h13, h14⟩
      have hl13 : l13.length = L := by rw [h13]; simp; omega
      have hl14 : l14.length = L := by rw [h14]; simp; omega
      refine ⟨fun hb => ?_, fun hb => ?_⟩
      · have hca : c < L := by have := dlt hb; omega
        have hn := ht.ok.nx hpt (a := c) (by omega)
        have hsy := prod_sy ht hu hio hpt hru (a := c) (by omega)
        have hll := ht.lok.says p c hpt (by omega)
        rw [hio] at hll
        refine ⟨(nxT t p c : Int), by rw [← hn.2]; exact idx_nat 0 (by omega), _, idx_nat [] (by omega), syT t p c, idx_nat [] (by omega), runPre_of hu hru hll (ht.shortT.says p c hpt (by omega)), _, idx_nat 0 (by omega), _, idx_nat [] (by omega), ⟨c + 1, wsucc (by omega), hca, ?_, ?_⟩, mu_up hca (by omega)⟩
        · rw [runI_nat, wr_pair (by omega) (by omega) (by omega), Int.toNat_natCast, h13]
          exact set_row (fun a => ((nxT t p a * u.fNext.length + (runT u r (syT t p a)).2 : Nat) : Int)) 0 hca
        · rw [runI_nat, Int.toNat_natCast, h14]
          exact set_row (fun a => (runT u r (syT t p a)).1) [] hca
      · have hce : c = L := by have := dge hb; omega
        have hla := prod_la ht hu hio hpt hru
        have hll := ht.lok.last p hpt
        rw [hio] at hll
        have hul := hu.shortT.last _ hla.1
        have e13 : l13 = prodRow t u (p * u.fNext.length + r) := by
          rw [h13, hce]
          unfold prodRow
          rw [(pair_div hru).1, (pair_div hru).2, hL]
          simp
        have e14 : l14 = prodSay t u (p * u.fNext.length + r) := by
          rw [h14, hce]
          unfold prodSay
          rw [(pair_div hru).1, (pair_div hru).2, hL]
          simp
        refine ⟨laT t p, idx_nat [] (by omega), runPre_of hu hru hll (ht.shortT.last p hpt), capOk_of ?_, capOk_of ?_, laT u (runT u r (laT t p)).2, ?_, ⟨by simp, ?_⟩, capOk_of ?_, ⟨r + 1, wsucc (by omega), hru, range_next e13, range_next e14, range_next ?_⟩, mu_up hru (by omega)⟩
        · simp only [List.length_map, List.length_range, List.length_cons, List.length_nil]; omega
        · simp only [List.length_map, List.length_range, List.length_cons, List.length_nil]; omega
        · rw [runI_nat]; exact idx_nat [] (by omega)
        · rw [runI_nat]
          simp only [List.flatten_cons, List.flatten_nil, List.append_nil, List.length_append]
          omega
        · simp only [List.length_map, List.length_range, List.length_cons, List.length_nil]; omega
        · rw [runI_nat]
          unfold prodLast
          rw [(pair_div hru).1, (pair_div hru).2]
          simp
    · have hre : r = u.fNext.length := by have := dge hb; omega
      subst hre
      rw [← Nat.succ_mul]
      exact ⟨⟨p + 1, wsucc (by omega), hpt, rfl, rfl, rfl⟩, mu_up hpt (by omega)⟩
  · have hpe : p = t.fNext.length := by have := dge hb; omega
    subst hpe
    rw [hP _ _ _ rfl rfl rfl]
    refine ⟨prodT_push ht hu hio, ?_, ?_⟩
    · rw [prodT_least ht hu hio]
      exact canG_said hin.2
    · show _ = behindR t u
      unfold behindR
      rw [if_neg (by simp [h12.1]), if_neg (by simp [h12.2]), if_neg (by simp [hio]), prodT_least ht hu hio]
theorem trBehind_ct (t u : ApiTrans) : Ct 20 [.sv (.agg [I t.fIn, I t.fOut, I t.fStart, LS intT t.fFirst, LS (lsT intT) t.fNext, LS (lsT (lsT intT)) t.fSays, LS (lsT intT) t.fLast]), .sv (.agg [I u.fIn, I u.fOut, I u.fStart, LS intT u.fFirst, LS (lsT intT) u.fNext, LS (lsT (lsT intT)) u.fSays, LS (lsT intT) u.fLast])] [] (fun (_ : Unit) => True) (fun _ => .tup [.agg [I (behindR t u).1.fIn, I (behindR t u).1.fOut, I (behindR t u).1.fStart, LS intT (behindR t u).1.fFirst, LS (lsT intT) (behindR t u).1.fNext, LS (lsT (lsT intT)) (behindR t u).1.fSays, LS (lsT intT) (behindR t u).1.fLast], .one (I (behindR t u).2)]) := (trBehind_walk t u _ (trBehind_ok t u)).fun
end Go.Proofs.Ytiinkohfldopbaa

