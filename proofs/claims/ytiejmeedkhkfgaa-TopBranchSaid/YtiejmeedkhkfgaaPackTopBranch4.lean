/- Lemmas towards the statement: mirrors of functions, and plain laws. No condition. -/
import Derived.Test.YtiejmeedkhkfgaaPackTopBranch3
namespace Go.Proofs.Ytiejmeedkhkfgaa
open Go.RowKit Go.MapKept
set_option linter.unusedSimpArgs false
set_option linter.unusedVariables false
set_option maxRecDepth 100000
theorem en158 : ∀ args w, (callFunc 158 args).run Try.prog w = .ok (.enter 158 args) w := enters_of Try.func158 (by kernel_rfl) rfl
theorem en161 : ∀ args w, (callFunc 161 args).run Try.prog w = .ok (.enter 161 args) w := enters_of Try.func161 (by kernel_rfl) rfl
theorem fBack_ct (v5 : Value) (hv : cellV v5) : CtE 158 [.sv (.one (.v v5))] [] [] (fun (_ : Unit) => True) (fun _ => .sv (.one (.rd (bkR 161 142 v5)))) (fun _ => []) := by
 have ht := tab_ok
 refine CtE.body Try.func158 rfl rfl rfl (by kernel_rfl) (by kernel_rfl) (fun c Bk hn => ?_)
 show En c ⟨[(0, .sv (.one (.v v5)))], []⟩ _
 refine En.seq ?_
 refine En.region ?_
 refine WL.run ht hn 1 ⟨[(0, .sv (.one (.v v5))), (1, .sv (.one (.ptr 0 0)))], [.box [.v v5] 142 false]⟩ (by kernel_rfl) ?_
 refine WL.run ht hn 1 ⟨[(1, .sv (.one (.ptr 0 0)))], [.box [.v v5] 142 false]⟩ (by kernel_rfl) ?_
 refine WL.nil ?_
 refine En.seq ?_
 refine En.region ?_
 refine WL.run ht hn 2 ⟨[(2, .sv (.one (.fn 161 [0])))], [.box [.v v5] 142 false]⟩ (by kernel_rfl) ?_
 refine WL.nil ?_
 refine En.ret ?_
 refine En.freeze [0] (by rfl) ?_
 refine En.ghost 2 (.sv (.one (.rd (bkR 161 142 v5)))) (by rfl) (bk_of hv (by rfl)) ?_
 exact En.backE [] ht () trivial (by kernel_rfl) (by rfl) rfl
theorem act2 (x y : Value) {n : Nat} (h : 2 ≤ n) : (#[x, y] ++ Array.replicate (n - (#[x, y] : Array Value).size) undef).size = n ∧ (#[x, y] ++ Array.replicate (n - (#[x, y] : Array Value).size) undef).getD 0 undef = x ∧ (#[x, y] ++ Array.replicate (n - (#[x, y] : Array Value).size) undef).getD 1 undef = y := by
 refine ⟨by simp; omega, ?_, ?_⟩
 ·rw [Array.getD_eq_getD_getElem?, Array.getElem?_append_left (by simp)]
  rfl
 ·rw [Array.getD_eq_getD_getElem?, Array.getElem?_append_left (by simp)]
  rfl
set_option maxHeartbeats 2000000 in
theorem backIt {L b5 : Nat} {l : List FixName} {rec : Loop} (Iv : Nat → World → Prop) (X : World → Prop) (Y : List PanicEntry → World → Prop) (hlen : l.length ≤ 1000)
  (hI : ∀ k w w', Iv k w → Ext w w' → Iv k w') (hv : ∀ k w, Iv k w → ∃ v5, w.heap[b5]? = some (.cells #[v5] 142 (0, 0)) ∧ (LS FixName.ty l).ok w.gh hs0 v5)
  (hXx : ∀ w w', X w → Ext w w' → X w') (hL : ∀ k w, Iv k w → w.heap[L]? = some (.loop rec)) (hps : rec.params.size = 2)
  (hR : ∀ (j : Nat) (x : FixName) (u : Value) (w : World), l[j]? = some x → Iv (j + 1) w → SC.ok w.gh hs0 (.sv (FixName.sv x)) u → RoundIn Fence.wide 0 Try.prog L rec.fn ((rec.params.zip #[.int .i64 j, u]).foldl (fun t (p, v) => t.setIfInBounds p v) rec.tmps) rec.assign rec.body w (fun e w' => (e = .returned (.bool true) ∧ Iv j w') ∨ (e = .returned (.bool false) ∧ X w') ∨ ∃ ch, e = .panicked ch ∧ Y ch w'))
  (w : World) (h0 : Iv l.length w) : Calls Try.prog 161 #[.func (.yield L) #[] #[], .pointer (some ⟨b5, 0, none⟩)] w (fun e w' => (∃ v, e = .returned v ∧ (Iv 0 w' ∨ X w')) ∨ ∃ ch, e = .panicked ch ∧ Y ch w') := by
 have ht := tab_ok
 have okIt : ∀ (k : Nat) (w : World) (a : Act) (F : List (Nat × SC)), Iv k w → a.tmps.size = 19 → a.defers = [] → (∀ t x, (t, x) ∈ F → x.ok w.gh (fun _ => .pointer (some ⟨b5, 0, none⟩)) (a.tmps.getD t undef)) → Ok (cfgR 19 w) ⟨F, [.box [LS FixName.ty l] 142 true]⟩ a w := fun k w a F hk hz hd hF => by
  obtain ⟨v5, h1, h2⟩ := hv k w hk
  refine ⟨w.gh, fun _ => .pointer (some ⟨b5, 0, none⟩), hz, hd, ⟨rfl, rfl, rfl, Nat.le_refl _, fun _ _ _ => rfl, Gh.le.refl _, fun b o e => .inl e, gh_pers w⟩, hF, fun i it hi => ?_, fun i j it jt hij hi hj hf => ?_, fun i it hi hn b hb => ?_⟩
  ·rcases i with _ | i
   ·cases hi
    exact ⟨b5, [v5], rfl, ⟨At.ok_hs (fun i hi => by cases hi) h2, h2.2, trivial⟩, h1, fun _ => h1⟩
   ·cases i <;> cases hi
  ·rcases i with _ | i
   ·cases hi
    cases hf
   ·cases i <;> cases hi
  ·rcases i with _ | i
   ·cases hi
    cases hb
    exact ⟨(Array.getElem?_eq_some_iff.1 h1).1, fun h => by cases h⟩
   ·cases i <;> cases hi
 refine (callsIn_wide (n := 0)).1 (callsIn_of_wp Try.func161 rfl trivial ?_)
 have hn19 : Try.f161.ntmps = 19 := rfl
 rw [hn19]
 obtain ⟨q0, q1, q2⟩ := act2 (.func (.yield L) #[] #[]) (.pointer (some ⟨b5, 0, none⟩)) (n := 19) (by decide)
 generalize (#[Value.func (.yield L) #[] #[], Value.pointer (some ⟨b5, 0, none⟩)] ++ Array.replicate (19 - (#[Value.func (.yield L) #[] #[], Value.pointer (some ⟨b5, 0, none⟩)] : Array Value).size) undef) = T0 at q0 q1 q2 ⊢
 have pe : ∀ {F : List (Nat × SC)} {a : Act} {w w' : World}, Ok (cfgR 19 w) ⟨F, [.box [LS FixName.ty l] 142 true]⟩ a w' → a.tmps.size = 19 ∧ a.defers = [] ∧ Ext w w' ∧ (∀ t, look t F = some (.sv (.one (.pptr 0 0 b5))) → a.tmps.getD t undef = .pointer (some ⟨b5, 0, none⟩)) ∧ ∀ t y, look t F = some (.sv (.one (.v y))) → a.tmps.getD t undef = y := fun ⟨g, hs, h⟩ => ⟨h.size, h.defers, ext_of h.base, fun t ht => (h.slots t _ (look_mem ht)).1.2, fun t y ht => (h.slots t _ (look_mem ht)).1⟩
 refine wpIn_seq ?_
 refine wpIn_regionOk (ro := none) (c := cfgR 19 w) (S := ⟨[(0, .sv (.one (.v (.func (.yield L) #[] #[])))), (1, .sv (.one (.pptr 0 0 b5)))], [.box [LS FixName.ty l] 142 true]⟩) (S1 := ⟨[(0, .sv (.one (.v (.func (.yield L) #[] #[])))), (1, .sv (.one (.pptr 0 0 b5))), (3, .sv (.one (I (wr ((l.length : Int) - 1)))))], [.box [LS FixName.ty l] 142 true]⟩) (by rfl) (okIt _ w _ _ h0 q0 rfl ?_) (fun N hN => WL.run ht rfl 4 _ (by kernel_rfl) (WL.nil hN)) (fun _ _ _ h => (h : False).elim) (fun a1 w1 q => ?_)
 ·intro t x hx
  simp only [List.mem_cons, List.not_mem_nil, or_false, Prod.mk.injEq] at hx
  rcases hx with ⟨rfl, rfl⟩ | ⟨rfl, rfl⟩
  ·exact ⟨q1, by rw [q1]; trivial⟩
  ·exact ⟨⟨rfl, q2⟩, by rw [q2]; trivial⟩
 obtain ⟨z1, d1, x1, k1, m1⟩ := pe q
 have F3 : ∀ {v : Int} {a : Act} {w w' : World}, Ok (cfgR 19 w) ⟨[(0, .sv (.one (.v (.func (.yield L) #[] #[])))), (1, .sv (.one (.pptr 0 0 b5))), (3, .sv (.one (I v)))], [.box [LS FixName.ty l] 142 true]⟩ a w' → a.tmps.size = 19 ∧ a.defers = [] ∧ Ext w w' ∧ a.tmps.getD 0 undef = .func (.yield L) #[] #[] ∧ a.tmps.getD 1 undef = .pointer (some ⟨b5, 0, none⟩) ∧ a.tmps.getD 3 undef = .int .i64 v := fun h => by
  obtain ⟨z1, d1, x1, k1, m1⟩ := pe h
  exact ⟨z1, d1, x1, m1 0 _ rfl, k1 1 rfl, m1 3 _ rfl⟩
 have ok3 : ∀ (k : Nat) (w : World) (a : Act) (v : Int) (G : List (Nat × SC)), Iv k w → a.tmps.size = 19 → a.defers = [] → a.tmps.getD 0 undef = .func (.yield L) #[] #[] → a.tmps.getD 1 undef = .pointer (some ⟨b5, 0, none⟩) → a.tmps.getD 3 undef = .int .i64 v → (∀ t x, (t, x) ∈ G → x.ok w.gh (fun _ => .pointer (some ⟨b5, 0, none⟩)) (a.tmps.getD t undef)) → Ok (cfgR 19 w) ⟨[(0, .sv (.one (.v (.func (.yield L) #[] #[])))), (1, .sv (.one (.pptr 0 0 b5))), (3, .sv (.one (I v)))] ++ G, [.box [LS FixName.ty l] 142 true]⟩ a w := fun k w a v G hk hz hd e0 e1 e3 hG => okIt k w a _ hk hz hd fun t x hx => by
  rcases List.mem_append.1 hx with hx | hx
  ·simp only [List.mem_cons, List.not_mem_nil, or_false, Prod.mk.injEq] at hx
   rcases hx with ⟨rfl, rfl⟩ | ⟨rfl, rfl⟩ | ⟨rfl, rfl⟩
   ·exact ⟨e0, by rw [e0]; trivial⟩
   ·exact ⟨⟨rfl, e1⟩, by rw [e1]; trivial⟩
   ·exact ⟨e3, by rw [e3]; trivial⟩
  ·exact hG t x hx
 obtain ⟨z1, d1, x1, e0, e1, e3⟩ := F3 q
 have hres : ∀ (t : Array Value) (w : World), (results Try.f161 t).run Try.prog w = .ok (.tuple #[]) w := fun t w => by kernel_rfl
 refine wpIn_block (wpIn_loop (fun a w' => ∃ k : Nat, k ≤ l.length ∧ Iv k w' ∧ a.tmps.size = 19 ∧ a.defers = [] ∧ a.tmps.getD 0 undef = .func (.yield L) #[] #[] ∧ a.tmps.getD 1 undef = .pointer (some ⟨b5, 0, none⟩) ∧ a.tmps.getD 3 undef = .int .i64 ((k : Int) - 1)) (fun a _ => match a.tmps.getD 3 undef with | .int _ i => (i + 1).toNat | _ => 0) ⟨l.length, Nat.le_refl _, hI _ _ _ h0 x1, z1, d1, e0, e1, by rw [e3, wr_in (by omega) (by omega)]⟩ ?_)
 rintro a2 w2 ⟨k, hk, hIk, z2, d2, e0, e1, e3⟩
 refine wpIn_seq (wpIn_seq ?_)
 have o2 := ok3 k w2 a2 _ [] hIk z2 d2 e0 e1 e3 (fun t x hx => by cases hx)
 refine wpIn_regionOk (ro := none) (c := cfgR 19 w2) (S1 := ⟨[(0, .sv (.one (.v (.func (.yield L) #[] #[])))), (1, .sv (.one (.pptr 0 0 b5))), (3, .sv (.one (I ((k : Int) - 1)))), (8, .sv (.one (B (decide ((k : Int) - 1 ≥ 0)))))], [.box [LS FixName.ty l] 142 true]⟩) (by rfl) o2 (fun N hN => WL.run ht rfl 2 _ (by kernel_rfl) (WL.nil hN)) (fun _ _ _ h => (h : False).elim) (fun a3 w3 q3 => ?_)
 obtain ⟨z3, d3, x3, k3, m3⟩ := pe q3
 have e8 : a3.tmps.getD 8 undef = .bool (decide ((k : Int) - 1 ≥ 0)) := m3 8 _ rfl
 refine wpIn_cond_split (t := decide ((k : Int) - 1 ≥ 0)) (by show a3.eval (.tmp 8) = _; exact e8) (fun hb => ?_) (fun hb => ?_)
 case refine_2 =>
  have hk0 : k = 0 := by have := of_decide_eq_false hb; omega
  subst hk0
  exact wpIn_exit ⟨d3, _, hres _ _, .inl ⟨_, rfl, .inl (hI _ _ _ hIk x3)⟩⟩
 refine wpIn_skip ?_
 obtain ⟨j, rfl⟩ : ∃ j, k = j + 1 := ⟨k - 1, by have := of_decide_eq_true hb; omega⟩
 obtain ⟨x, hx⟩ : ∃ x, l[j]? = some x := ⟨l[j], List.getElem?_eq_getElem (by omega)⟩
 have ej : ((j + 1 : Nat) : Int) - 1 = j := by omega
 rw [ej] at m3 e3
 have hidx : idx l (j : Int) = some x := by
  unfold idx
  rw [if_pos (Int.natCast_nonneg _), Int.toNat_natCast, hx]
 refine wpIn_seq (wpIn_block (wpIn_seq ?_))
 have hI3 := hI _ _ _ hIk x3
 have o3 := ok3 (j + 1) w3 a3 j [] hI3 z3 d3 (m3 0 _ rfl) (k3 1 rfl) (m3 3 _ rfl) (fun t x hx => by cases hx)
 refine wpIn_regionAt 6 (ro := none) (c := cfgR 19 w3) (S1 := ⟨[(0, .sv (.one (.v (.func (.yield L) #[] #[])))), (1, .sv (.one (.pptr 0 0 b5))), (3, .sv (.one (I j))), (11, .sv (.one (.v (.func (.yield L) #[] #[])))), (12, .sv (.one (I j))), (16, .sv (FixName.sv x))], [.box [LS FixName.ty l] 142 true]⟩) (by rfl) o3 (fun N hN => WL.run ht rfl 4 ⟨[(0, .sv (.one (.v (.func (.yield L) #[] #[])))), (1, .sv (.one (.pptr 0 0 b5))), (3, .sv (.one (I j))), (11, .sv (.one (.v (.func (.yield L) #[] #[])))), (12, .sv (.one (I j))), (13, .sv (.one (LS FixName.ty l))), (14, .sv (.one (I j)))], [.box [LS FixName.ty l] 142 true]⟩ (by kernel_rfl) (WL.val rfl (by rfl) (val_index (T := FixName.ty) (l := l) (i := (j : Int)) ht rfl (by rfl) (by rfl) (by rfl) (by rfl) (by rfl) (by rfl) hidx) (by rfl) (WL.val rfl (by rfl) (val_load (s := FixName.sv x) ht rfl (by rfl) (by rfl) (by rfl) (by rfl) (by rfl)) (by rfl) (WL.run ht rfl 0 _ (by kernel_rfl) (WL.nil hN))))) (fun _ _ _ h => (h : False).elim) (fun a4 w4 q4 => ?_)
 obtain ⟨z4, d4, x4, k4, m4⟩ := pe q4
 have hI4 := hI _ _ _ hI3 x4
 obtain ⟨u, hu, hux⟩ : ∃ u, a4.tmps.getD 16 undef = u ∧ SC.ok w4.gh hs0 (.sv (FixName.sv x)) u := by
  obtain ⟨g, hs, h⟩ := q4
  have := h.slots 16 (.sv (FixName.sv x)) (look_mem rfl)
  exact ⟨_, rfl, SC.mono (fun b o e => h.base.pers b o e) (SC.ok_closed rfl this)⟩
 show wpListIn _ _ _ _ _ (_ :: _ :: []) _ _
 refine listIn_step (by rfl) (by rfl) ?_
 rw [run_yieldOp rfl (show a4.eval (.tmp 11) = _ from m4 11 _ rfl) (show a4.eval (.tmp 12) = .int .i64 j from m4 12 _ rfl) (show a4.eval (.tmp 16) = u from hu) (hL _ _ hI4) hps]
 refine ⟨fun h => (by cases h), (hR j x u w4 hx hI4 hux).mono fun e w5 q5 => ?_⟩
 rcases q5 with ⟨rfl, hI5⟩ | ⟨rfl, hX⟩ | ⟨ch, rfl, hY⟩
 ·have f17 : (a4.put (some 17) (.bool true)).tmps.getD 17 undef = .bool true := put_same (by omega)
  refine listIn_ok (c := cfgR 19 w5) (S1 := ⟨[(0, .sv (.one (.v (.func (.yield L) #[] #[])))), (1, .sv (.one (.pptr 0 0 b5))), (3, .sv (.one (I j))), (18, .sv (.one (B (!true))))], [.box [LS FixName.ty l] 142 true]⟩) (by rfl) (ok3 j w5 (a4.put (some 17) (.bool true)) j [(17, .sv (.one (B true)))] hI5 (put_size.trans z4) d4 ((put_other (by decide)).trans (m4 0 _ rfl)) ((put_other (by decide)).trans (k4 1 rfl)) ((put_other (by decide)).trans (m4 3 _ rfl)) ?_) (fun N hN => WL.run ht rfl 1 _ (by kernel_rfl) (WL.nil hN)) (fun _ _ _ h => (h : False).elim) (fun a6 w6 q6 => ?_)
  ·intro t x hx
   cases List.mem_singleton.1 hx
   exact ⟨f17, by rw [f17]; trivial⟩
  obtain ⟨z6, d6, x6, k6, m6⟩ := pe q6
  refine wpIn_cond_split (t := false) (by show a6.eval (.tmp 18) = _; exact m6 18 _ rfl) (fun h => by cases h) (fun _ => wpIn_skip ?_)
  refine wpIn_regionOk (ro := none) (c := cfgR 19 w6) (S1 := ⟨[(0, .sv (.one (.v (.func (.yield L) #[] #[])))), (1, .sv (.one (.pptr 0 0 b5))), (3, .sv (.one (I (wr ((j : Int) - 1)))))], [.box [LS FixName.ty l] 142 true]⟩) (by rfl) (ok3 j w6 a6 j [] (hI _ _ _ hI5 x6) z6 d6 (m6 0 _ rfl) (k6 1 rfl) (m6 3 _ rfl) (fun t x hx => by cases hx)) (fun N hN => WL.run ht rfl 3 _ (by kernel_rfl) (WL.nil hN)) (fun _ _ _ h => (h : False).elim) (fun a7 w7 q7 => ?_)
  obtain ⟨z7, d7, x7, g0, g1, g3⟩ := F3 q7
  rw [wr_in (by omega) (by omega)] at g3
  refine ⟨⟨j, by omega, hI _ _ _ (hI _ _ _ hI5 x6) x7, z7, d7, g0, g1, g3⟩, ?_⟩
  simp only [g3, e3]
  omega
 ·have f17 : (a4.put (some 17) (.bool false)).tmps.getD 17 undef = .bool false := put_same (by omega)
  refine listIn_ok (c := cfgR 19 w5) (S1 := ⟨[(18, .sv (.one (B (!false))))], []⟩) (by rfl) (ok_slots (F := [(17, .sv (.one (B false)))]) (put_size.trans z4) d4 ?_) (fun N hN => WL.run ht rfl 1 _ (by kernel_rfl) (WL.nil hN)) (fun _ _ _ h => (h : False).elim) (fun a6 w6 q6 => ?_)
  ·intro t x hx
   cases List.mem_singleton.1 hx
   exact ⟨f17, by rw [f17]; trivial⟩
  obtain ⟨g, hs, h6⟩ := q6
  refine wpIn_cond_split (t := true) (by show a6.eval (.tmp 18) = _; exact (h6.slots 18 _ (look_mem rfl)).1) (fun _ => wpIn_ret ?_) (fun h => by cases h)
  exact ⟨h6.defers, _, hres _ _, .inl ⟨_, rfl, .inr (hXx _ _ hX (ext_of h6.base))⟩⟩
 ·exact ⟨d4, .inr ⟨ch, rfl, hY⟩⟩
noncomputable def namRest : Code := match Try.f152.body with
 | some (.seq _ (.seq _ r)) => r
 | _ => .skip
noncomputable def namCodes : Code × Code := match Try.f152.body with
 | some (.seq _ (.seq (.seq _ (.block _ (.rangeFunc _ _ a b))) _)) => (a, b)
 | _ => (.skip, .skip)
set_option maxHeartbeats 2000000 in
theorem fNamBody {c : Cfg} {text : ByteArray} {pos deep cnt ch : Int} {ar : Nms} {b0 b2 b3 b4 : Nat} {v5 : Value} {j : Nat} {x : FixName} (L : Nat) (hn : c.n = 34) (hp : gF text ⟨pos, deep, cnt⟩ ∧ text.size ≤ 4000) (hlt : pos < text.size) (hpan : x.fSign = ch → x.fTurned = false → fcnt ⟨pos, deep, cnt⟩ = none → PanC c (psStop 140) True) :
  En c ⟨[(5, .sv (.one (I j))), (6, .sv (.one (.ptr 5 0))), (0, .sv (.one (.pptr 0 0 b0))), (2, .sv (.one (.pptr 2 0 b2))), (3, .sv (.one (.pptr 3 0 b3))), (4, .sv (.one (.pptr 4 0 b4))), (10, .sv (.one (.pown 1 v5))), (11, .sv (.one (.rd (bkR 161 142 v5))))], [.box [.v (.string text), I pos, I deep, I cnt, .own 1] 144 false, rowI 236 FixName.ty ar, .box [.ptr 0 0] 141 false, .box [.v (.int .u8 ch)] 5 false, .box [.v (.pointer none)] 83 false, .box [.v (.int .u8 x.fSign), B x.fTurned] 236 false]⟩ (cwpF (some L) namCodes.2 (PQ c (fun a w => x.fSign ≠ ch ∧ Ok c ⟨[(0, .sv (.one (.pptr 0 0 b0))), (2, .sv (.one (.pptr 2 0 b2))), (3, .sv (.one (.pptr 3 0 b3))), (4, .sv (.one (.pptr 4 0 b4))), (10, .sv (.one (.pown 1 v5))), (11, .sv (.one (.rd (bkR 161 142 v5))))], [.box [.v (.string text), I pos, I deep, I cnt, .own 1] 144 false, rowI 236 FixName.ty ar, .box [.ptr 0 0] 141 false, .box [.v (.int .u8 ch)] 5 false, .box [.v (.pointer none)] 83 false]⟩ a w) [(0, fun a w => (x.fSign = ch ∧ x.fTurned = true) ∧ Ok c ⟨[(0, .sv (.one (.pptr 0 0 b0))), (2, .sv (.one (.pptr 2 0 b2))), (3, .sv (.one (.pptr 3 0 b3))), (4, .sv (.one (.pptr 4 0 b4))), (10, .sv (.one (.pown 1 v5))), (11, .sv (.one (.rd (bkR 161 142 v5))))], [.box [.v (.string text), I pos, I deep, I cnt, .own 1] 144 false, rowI 236 FixName.ty ar, .box [.ptr 0 0] 141 false, .box [.v (.int .u8 ch)] 5 false, .box [.v (.pointer none)] 83 false]⟩ a w)] (fun a w => (x.fSign = ch ∧ x.fTurned = false ∧ cnt + 1 ≤ 30) ∧ Ok c ⟨[(0, .sv (.one (.pptr 0 0 b0))), (2, .sv (.one (.pptr 2 0 b2))), (3, .sv (.one (.pptr 3 0 b3))), (4, .sv (.one (.pptr 4 0 b4))), (11, .sv (.one (.rd (bkR 161 142 v5))))], [.box [.v (.string text), I (pos + 1), I deep, I (cnt + 1), .own 1] 144 false, rowI 236 FixName.ty ar, .box [.ptr 0 0] 141 false, .box [.v (.int .u8 ch)] 5 false, .box [.rd (trR fLab (fn 88 (j : Nat) []))] 83 false]⟩ a w))) := by
 have ht := tab_ok
 have hp0 : 0 ≤ pos := hp.1.1.1
 have hz := hp.2
 refine EnF.block ?_
 refine EnF.seq ?_
 refine EnF.seq ?_
 refine EnF.region (by rfl) ?_
 refine WL.run ht hn 4 ⟨[(5, .sv (.one (I j))), (6, .sv (.one (.ptr 5 0))), (17, .sv (.one (B (x.fSign != ch)))), (0, .sv (.one (.pptr 0 0 b0))), (2, .sv (.one (.pptr 2 0 b2))), (3, .sv (.one (.pptr 3 0 b3))), (4, .sv (.one (.pptr 4 0 b4))), (10, .sv (.one (.pown 1 v5))), (11, .sv (.one (.rd (bkR 161 142 v5))))], [.box [.v (.string text), I pos, I deep, I cnt, .own 1] 144 false, rowI 236 FixName.ty ar, .box [.ptr 0 0] 141 false, .box [.v (.int .u8 ch)] 5 false, .box [.v (.pointer none)] 83 false, .box [.v (.int .u8 x.fSign), B x.fTurned] 236 false]⟩ (by kernel_rfl) ?_
 refine WL.nil ?_
 refine EnF.cond (b := (x.fSign != ch)) (by kernel_rfl) (fun hb => ?_) (fun hb => ?_)
 ·exact EnF.exit rfl fun a w hk => ⟨bne_iff_ne.1 hb, Ok.sub (by kernel_rfl) (by kernel_rfl) a w hk⟩
 have hs : x.fSign = ch := bne_eq_false_iff_eq.1 hb
 refine EnF.skip ?_
 refine EnF.seq ?_
 refine EnF.seq ?_
 refine EnF.region (by rfl) ?_
 refine WL.run ht hn 2 ⟨[(5, .sv (.one (I j))), (6, .sv (.one (.ptr 5 0))), (19, .sv (.one (B x.fTurned))), (0, .sv (.one (.pptr 0 0 b0))), (2, .sv (.one (.pptr 2 0 b2))), (3, .sv (.one (.pptr 3 0 b3))), (4, .sv (.one (.pptr 4 0 b4))), (10, .sv (.one (.pown 1 v5))), (11, .sv (.one (.rd (bkR 161 142 v5))))], [.box [.v (.string text), I pos, I deep, I cnt, .own 1] 144 false, rowI 236 FixName.ty ar, .box [.ptr 0 0] 141 false, .box [.v (.int .u8 ch)] 5 false, .box [.v (.pointer none)] 83 false, .box [.v (.int .u8 x.fSign), B x.fTurned] 236 false]⟩ (by kernel_rfl) ?_
 refine WL.nil ?_
 refine EnF.cond (b := x.fTurned) (by kernel_rfl) (fun hb => ?_) (fun hb2 => ?_)
 ·exact EnF.exit rfl fun a w hk => ⟨⟨hs, hb⟩, Ok.sub (by kernel_rfl) (by kernel_rfl) a w hk⟩
 refine EnF.skip ?_
 refine EnF.seq ?_
 refine EnF.region (by rfl) ?_
 refine WL.run ht hn 1 ⟨[(5, .sv (.one (I j))), (20, .sv (.one (.ptr 0 0))), (0, .sv (.one (.pptr 0 0 b0))), (2, .sv (.one (.pptr 2 0 b2))), (3, .sv (.one (.pptr 3 0 b3))), (4, .sv (.one (.pptr 4 0 b4))), (11, .sv (.one (.rd (bkR 161 142 v5))))], [.box [.v (.string text), I pos, I deep, I cnt, .own 1] 144 false, rowI 236 FixName.ty ar, .box [.ptr 0 0] 141 false, .box [.v (.int .u8 ch)] 5 false, .box [.v (.pointer none)] 83 false]⟩ (by kernel_rfl) ?_
 refine splitO (fcnt ⟨pos, deep, cnt⟩) (fun hr => ?_) (fun r hr => ?_)
 ·exact WL.callX (fCnt_bad text pos deep cnt ar hp hr) en111 (caps := []) [0, 1] (by rfl) rfl (by rfl) (argsAs (by kernel_rfl) (by rfl)) (by kernel_rfl) (by decide) (leftX (hpan hs hb2 hr) trivial)
 refine WL.callE (fCnt_ok text pos deep cnt ar hp r hr) en111 (caps := []) [0, 1] hn (by rfl) rfl (by rfl) (argsAs (by kernel_rfl) (by rfl)) (by kernel_rfl) (by decide) (by rfl) (by rfl) (fun _ _ => ⟨by rfl, _, by rfl, ?_⟩)
 obtain ⟨rfl, hcn⟩ := fcnt_some hr
 refine WL.nil ?_
 refine EnF.seq ?_
 refine EnF.region (by rfl) ?_
 refine WL.run ht hn 8 ⟨[(5, .sv (.one (I j))), (0, .sv (.one (.pptr 0 0 b0))), (2, .sv (.one (.pptr 2 0 b2))), (3, .sv (.one (.pptr 3 0 b3))), (4, .sv (.one (.pptr 4 0 b4))), (11, .sv (.one (.rd (bkR 161 142 v5))))], [.box [.v (.string text), I (wr (pos + 1)), I deep, I (cnt + 1), .own 1] 144 false, rowI 236 FixName.ty ar, .box [.ptr 0 0] 141 false, .box [.v (.int .u8 ch)] 5 false, .box [.v (.pointer none)] 83 false]⟩ (by kernel_rfl) ?_
 refine WL.nil ?_
 refine EnF.seq ?_
 refine EnF.region (by rfl) ?_
 refine WL.run ht hn 4 ⟨[(0, .sv (.one (.pptr 0 0 b0))), (2, .sv (.one (.pptr 2 0 b2))), (3, .sv (.one (.pptr 3 0 b3))), (4, .sv (.one (.pptr 4 0 b4))), (11, .sv (.one (.rd (bkR 161 142 v5))))], [.box [.v (.string text), I (wr (pos + 1)), I deep, I (cnt + 1), .own 1] 144 false, rowI 236 FixName.ty ar, .box [.ptr 0 0] 141 false, .box [.v (.int .u8 ch)] 5 false, .box [.ptr 5 0] 83 false, .box [.v (.int .u8 88), I j, .v (.slice none 0 0)] 149 false]⟩ (by kernel_rfl) ?_
 refine WL.nil ?_
 refine EnF.ret ?_
 have hw : wr (pos + 1) = pos + 1 := by rw [wr_in (by omega) (by omega)]
 rw [hw]
 refine En.nilBox (T := (TT fLab)) 5 2 (by rfl) (by rfl) ?_
 refine En.freeze [5] (by rfl) ?_
 refine En.boxTurn (.rd (trR fLab (fn 88 (j : Nat) []))) 4 0 (by rfl) (by rfl) (fv_at (tree_of (lab := fLab) (x := ⟨88, (j : Nat)⟩) (kids := []) (i := 5) (by rfl) (by rfl) (by rfl))) ?_
 exact fun a w hk => ⟨⟨hs, hb2, hcn⟩, Ok.sub (by kernel_rfl) (by kernel_rfl) a w hk⟩
theorem fNamAssign {c : Cfg} {text : ByteArray} {pos deep cnt ch : Int} {ar : Nms} {b0 b2 b3 b4 : Nat} {v5 : Value} {j : Nat} {x : FixName} (L : Nat) (hn : c.n = 34) :
  En c ⟨[(12, .sv (.one (I j))), (13, .sv (FixName.sv x)), (0, .sv (.one (.pptr 0 0 b0))), (2, .sv (.one (.pptr 2 0 b2))), (3, .sv (.one (.pptr 3 0 b3))), (4, .sv (.one (.pptr 4 0 b4))), (10, .sv (.one (.pown 1 v5))), (11, .sv (.one (.rd (bkR 161 142 v5))))], [.box [.v (.string text), I pos, I deep, I cnt, .own 1] 144 false, rowI 236 FixName.ty ar, .box [.ptr 0 0] 141 false, .box [.v (.int .u8 ch)] 5 false, .box [.v (.pointer none)] 83 false]⟩ (cwpF (some L) namCodes.1 (PQ c (fun a w => Ok c ⟨[(5, .sv (.one (I j))), (6, .sv (.one (.ptr 5 0))), (0, .sv (.one (.pptr 0 0 b0))), (2, .sv (.one (.pptr 2 0 b2))), (3, .sv (.one (.pptr 3 0 b3))), (4, .sv (.one (.pptr 4 0 b4))), (10, .sv (.one (.pown 1 v5))), (11, .sv (.one (.rd (bkR 161 142 v5))))], [.box [.v (.string text), I pos, I deep, I cnt, .own 1] 144 false, rowI 236 FixName.ty ar, .box [.ptr 0 0] 141 false, .box [.v (.int .u8 ch)] 5 false, .box [.v (.pointer none)] 83 false, .box [.v (.int .u8 x.fSign), B x.fTurned] 236 false]⟩ a w) [] (fun _ _ => False))) := by
 have ht := tab_ok
 refine EnF.seq ?_
 refine EnF.region (by rfl) ?_
 refine WL.run ht hn 1 ⟨[(5, .sv (.one (I j))), (13, .sv (FixName.sv x)), (0, .sv (.one (.pptr 0 0 b0))), (2, .sv (.one (.pptr 2 0 b2))), (3, .sv (.one (.pptr 3 0 b3))), (4, .sv (.one (.pptr 4 0 b4))), (10, .sv (.one (.pown 1 v5))), (11, .sv (.one (.rd (bkR 161 142 v5))))], [.box [.v (.string text), I pos, I deep, I cnt, .own 1] 144 false, rowI 236 FixName.ty ar, .box [.ptr 0 0] 141 false, .box [.v (.int .u8 ch)] 5 false, .box [.v (.pointer none)] 83 false]⟩ (by kernel_rfl) ?_
 refine WL.nil ?_
 refine EnF.region (by rfl) ?_
 refine WL.run ht hn 2 ⟨[(5, .sv (.one (I j))), (6, .sv (.one (.ptr 5 0))), (0, .sv (.one (.pptr 0 0 b0))), (2, .sv (.one (.pptr 2 0 b2))), (3, .sv (.one (.pptr 3 0 b3))), (4, .sv (.one (.pptr 4 0 b4))), (10, .sv (.one (.pown 1 v5))), (11, .sv (.one (.rd (bkR 161 142 v5))))], [.box [.v (.string text), I pos, I deep, I cnt, .own 1] 144 false, rowI 236 FixName.ty ar, .box [.ptr 0 0] 141 false, .box [.v (.int .u8 ch)] 5 false, .box [.v (.pointer none)] 83 false, .box [.v (.int .u8 x.fSign), B x.fTurned] 236 false]⟩ (by kernel_rfl) ?_
 exact WL.nil fun a w h => h
theorem seekF_step {ar : Nms} {ch : Int} {j : Nat} {x : FixName} (hx : ar[j]? = some x) : seekF ar ch (j + 1) = if x.fSign = ch then (if x.fTurned = true then none else some j) else seekF ar ch j := by
 rw [seekF, hx]
noncomputable abbrev qfNam_ct0 (text : ByteArray) (pos : Int) (deep : Int) (cnt : Int) (ar : List FixName) (ch : Int) := ([.box [.v (.string text), I pos, I deep, I cnt, .own 1] 144 false, rowI 236 FixName.ty ar, .box [.ptr 0 0] 141 false, .box [.v (.int .u8 ch)] 5 false, .box [.v (.pointer none)] 83 false] : List Item)
noncomputable abbrev qfNam_ct1 (text : ByteArray) (pos : Int) (deep : Int) (cnt : Int) (ar : List FixName) (ch : Int) (y0) (y1) := ([.box [.v (.string text), I pos, I deep, I cnt, .own 1] 144 false, rowI 236 FixName.ty ar, .box [.ptr 0 0] 141 false, .box [.v (.int .u8 ch)] 5 false, .box [.v (.pointer none)] 83 false, .box [.v (.int .u8 y0), B y1] 236 false] : List Item)
noncomputable abbrev qfNam_ct2 (y0) (y1) (y2) (y3) (y4) := ([sl 0 (.pptr 0 0 y0), sl 2 (.pptr 2 0 y1), sl 3 (.pptr 3 0 y2), sl 4 (.pptr 4 0 y3), sl 10 (.pown 1 y4), sl 11 (.rd (bkR 161 142 y4))] : List (Nat × SC))
noncomputable abbrev qfNam_ct3 (text : ByteArray) (pos : Int) (deep : Int) (cnt : Int) (ar : List FixName) := ([.box [.v (.string text), I pos, I deep, I cnt, .own 1] 144 false, rowI 236 FixName.ty ar] : List Item)
noncomputable abbrev qfNam_ct4 (y0 : Int) (y1) (y2) (y3) (y4) (y5) := ([sl 5 (I y0), sl 6 (.ptr 5 0), sl 0 (.pptr 0 0 y1), sl 2 (.pptr 2 0 y2), sl 3 (.pptr 3 0 y3), sl 4 (.pptr 4 0 y4), sl 10 (.pown 1 y5), sl 11 (.rd (bkR 161 142 y5))] : List (Nat × SC))
noncomputable abbrev qfNam_ct5 (y0) (y1) (y2) (y3) (y4) := ([sl 0 (.pptr 0 0 y0), sl 2 (.pptr 2 0 y1), sl 3 (.pptr 3 0 y2), sl 4 (.pptr 4 0 y3), sl 11 (.rd (bkR 161 142 y4))] : List (Nat × SC))
set_option maxHeartbeats 4000000 in
theorem fNam_ct (text : ByteArray) (pos deep cnt : Int) (ar : List FixName) (ch : Int) (hp : gF text ⟨pos, deep, cnt⟩ ∧ text.size ≤ 4000 ∧ pos < text.size ∧ ar.length ≤ 1000) : CtP 152 [.sv (.one (.ptr 0 0)), .sv (.one (.v (.int .u8 ch)))] [.box [.v (.string text), I pos, I deep, I cnt, .own 1] 144 false, rowI 236 FixName.ty ar] [0] (fun (j : Nat) => seekF ar ch ar.length = some j ∧ cnt + 1 ≤ 30) (fun j => .sv (.one (.rd (trR fLab (fn 88 (j : Nat) []))))) (fun _ => [.box [.v (.string text), I (pos + 1), I deep, I (cnt + 1), .own 1] 144 false, rowI 236 FixName.ty ar]) (psStop 140) (seekF ar ch ar.length = none ∨ 30 < cnt + 1) := by
 obtain ⟨hg, hz, hlt, hlen⟩ := hp
 intro w g hs args hpers ha hm
 have ht := tab_ok
 have hargs : ∃ b0, hs 0 = .pointer (some ⟨b0, 0, none⟩) ∧ args = [.pointer (some ⟨b0, 0, none⟩), .int .u8 ch] := by
  match args, ha with
  | [u0, u1], ⟨⟨⟨b0, e0, e1⟩, _⟩, ⟨e2, _⟩, _⟩ =>
   have e1 : u0 = .pointer (some ⟨b0, 0, none⟩) := e1
   have e2 : u1 = .int .u8 ch := e2
   exact ⟨b0, e0, by rw [e1, e2]⟩
 obtain ⟨b0, e0, rfl⟩ := hargs
 refine calls_of_wpB Try.func152 rfl ?_
 have hn34 : Try.f152.ntmps = 34 := rfl
 show wpB _ _ _ { tmps := #[Value.pointer (some ⟨b0, 0, none⟩), Value.int .u8 ch] ++ Array.replicate (Try.f152.ntmps - (#[Value.pointer (some ⟨b0, 0, none⟩), Value.int .u8 ch] : Array Value).size) undef, defers := [] } w
 rw [hn34]
 obtain ⟨q0, q1, q2⟩ := act2 (.pointer (some ⟨b0, 0, none⟩)) (.int .u8 ch) (n := 34) (by decide)
 generalize (#[Value.pointer (some ⟨b0, 0, none⟩), Value.int .u8 ch] ++ Array.replicate (34 - (#[Value.pointer (some ⟨b0, 0, none⟩), Value.int .u8 ch] : Array Value).size) undef) = T0 at q0 q1 q2 ⊢
 obtain ⟨cN, hcN⟩ : ∃ cN : Cfg, cN = ⟨34, w, g, mayM (qfNam_ct3 text pos deep cnt ar) hs, [], fun _ _ _ => False⟩ := ⟨_, rfl⟩
 have ok0 : Ok cN ⟨[sl 0 (.pptr 0 0 b0), sl 1 (.v (.int .u8 ch))], (qfNam_ct3 text pos deep cnt ar)⟩ { tmps := T0, defers := [] } w := by
  subst hcN
  refine ⟨g, hs, q0, rfl, ⟨rfl, rfl, rfl, Nat.le_refl _, fun _ _ _ => rfl, Gh.le.refl g, fun b o e => .inl e, hpers⟩, fun t x hx => ?_, hm.items, hm.sep, fun i it hi hn b hb => ?_⟩
  ·simp only [List.mem_cons, List.not_mem_nil, or_false, Prod.mk.injEq] at hx
   rcases hx with ⟨rfl, rfl⟩ | ⟨rfl, rfl⟩
   ·exact ⟨⟨e0, q1⟩, by rw [show T0.getD 0 undef = _ from q1]; trivial⟩
   ·exact ⟨q2, by rw [show T0.getD 1 undef = _ from q2]; trivial⟩
  ·obtain ⟨h1, h2⟩ := hm.mine i it hi hn b hb
   exact ⟨h1, fun hf => ⟨.inl ⟨i, it, hi, hf, hb⟩, (h2 hf).2⟩⟩
 have hcn : cN.n = 34 := by rw [hcN]
 have hpanN : ∀ ch a w, cN.pan ch a w → False := by rw [hcN]; exact fun _ _ _ h => h
 refine wpB_seq ?_
 refine wpB_regionN (N := fun a w => ∃ b2 b3 b4, Ok cN ⟨[sl 0 (.pptr 0 0 b0), sl 2 (.pptr 2 0 b2), sl 3 (.pptr 3 0 b3), sl 4 (.pptr 4 0 b4)], (qfNam_ct0 text pos deep cnt ar ch)⟩ a w) ok0 (WL.run ht hcn 3 ⟨[sl 0 (.pptr 0 0 b0), sl 2 (.ptr 2 0), sl 3 (.ptr 3 0), sl 4 (.ptr 4 0)], (qfNam_ct0 text pos deep cnt ar ch)⟩ (by kernel_rfl) (WL.pinPtr 2 2 (by rfl) fun b2 => WL.pinPtr 3 3 (by rfl) fun b3 => WL.pinPtr 4 4 (by rfl) fun b4 => WL.nil fun a w hk => ⟨b2, b3, b4, Ok.sub (by kernel_rfl) (by kernel_rfl) a w hk⟩)) (fun ch a w h => (hpanN ch a w h).elim) (fun a1 w1 q => ?_)
 obtain ⟨b2, b3, b4, ok1⟩ := q
 refine wpB_seq (wpB_seq ?_)
 refine wpB_regionN (N := fun a w => ∃ v5, Ok cN ⟨(qfNam_ct2 b0 b2 b3 b4 v5), (qfNam_ct0 text pos deep cnt ar ch)⟩ a w) ok1 (WL.run ht hcn 4 ⟨[sl 0 (.pptr 0 0 b0), sl 2 (.pptr 2 0 b2), sl 3 (.pptr 3 0 b3), sl 4 (.pptr 4 0 b4), sl 10 (.own 1)], (qfNam_ct0 text pos deep cnt ar ch)⟩ (by kernel_rfl) (WL.pinOwn 10 1 (by rfl) fun v5 hv5 => WL.callE (fBack_ct v5 hv5) en158 (caps := []) [] hcn (by rfl) rfl (by rfl) (fun a w g hs hk => (by have h := hk.slots 10 (o1 (.pown 1 v5)) (look_mem rfl); exact ⟨⟨h.1.2.trans h.1.1, h.2⟩, trivial⟩)) (by kernel_rfl) (by decide) (by rfl) (by rfl) (fun _ _ => ⟨by rfl, _, by rfl, WL.nil fun a w hk => ⟨v5, Ok.sub (by kernel_rfl) (by kernel_rfl) a w hk⟩⟩))) (fun ch a w h => (hpanN ch a w h).elim) (fun a2 w2 q => ?_)
 obtain ⟨v5, g2, hs2, ok2⟩ := q
 have hd2 : a2.defers = [] := by have := ok2.defers; rw [hcN] at this; exact this
 have hz2 : a2.tmps.size = 34 := ok2.size.trans hcn
 have hw0 : cN.w0 = w := by rw [hcN]
 obtain ⟨D, hD⟩ : ∃ D, D = w2.heap.size := ⟨_, rfl⟩
 obtain ⟨L, hL⟩ : ∃ L, L = w2.heap.size + 1 := ⟨_, rfl⟩
 have hw2 : w.heap.size ≤ w2.heap.size := by have := ok2.base.grows; rw [hw0] at this; exact this
 have hDL : D ≠ L := by omega
 have hcL : cN.w0.heap.size ≤ L := by rw [hw0]; omega
 have hcD : cN.w0.heap.size ≤ D := by rw [hw0]; omega
 obtain ⟨rec, hrec⟩ : ∃ rec : LoopState → Option Code → Loop, rec = fun st pe => { state := st, pending := pe, fn := 152, tmps := a2.tmps, params := #[12, 13], assign := namCodes.1, body := namCodes.2, defers := D } := ⟨_, rfl⟩
 obtain ⟨W1, hW1⟩ : ∃ W1, W1 = (w2.alloc (.deferred (some []))).alloc (.loop (rec .ready none)) := ⟨_, rfl⟩
 obtain ⟨⟨b5, e11, hb5⟩, _⟩ := ok2.slots 11 (o1 (.rd (bkR 161 142 v5))) (look_mem rfl)
 have nl : ∀ st pe (cs : Array Value) t z, Obj.loop (rec st pe) ≠ .cells cs t z := fun _ _ _ _ _ h => by cases h
 have nd : ∀ (cs : Array Value) t z, Obj.deferred (some []) ≠ .cells cs t z := fun _ _ _ h => by cases h
 have x1 : Ext w2 W1 := by
  subst hW1
  refine ⟨rfl, rfl, rfl, by simp; omega, fun b hb => ?_⟩
  exact (Below.heap_alloc _ _ _ (by simp; omega)).trans (Below.heap_alloc _ _ _ hb)
 have sD1 : Side W1 g2 D (.deferred (some [])) := by
  refine ⟨?_, ?_⟩
  ·rw [hW1, hD]
   exact (Below.heap_alloc _ _ _ (by simp)).trans (World.alloc_heap_new w2 _)
  ·cases e : g2 D with
   | none => rfl
   | some o => have := ok2.base.pers.lt e; omega
 have sL1 : Side W1 g2 L (.loop (rec .ready none)) := by
  refine ⟨?_, ?_⟩
  ·rw [hW1, hL]
   have := World.alloc_heap_new (w2.alloc (.deferred (some []))) (.loop (rec .ready none))
   rwa [World.size_alloc] at this
  ·cases e : g2 L with
   | none => rfl
   | some o => have := ok2.base.pers.lt e; omega
 let Iv : Nat → World → Prop := fun k W => ∃ g' hs', Ok' cN ⟨(qfNam_ct2 b0 b2 b3 b4 v5), (qfNam_ct0 text pos deep cnt ar ch)⟩ a2 W g' hs' ∧ Gh.le g2 g' ∧ Side W g' L (.loop (rec .ready none)) ∧ Side W g' D (.deferred (some [])) ∧ seekF ar ch ar.length = seekF ar ch k
 let X : World → Prop := fun W => ∃ g' hs' jump, Side W g' L (.loop (rec .done (some jump))) ∧ Side W g' D (.deferred (some [])) ∧ ((jump = .exit 0 ∧ seekF ar ch ar.length = none ∧ Ok' cN ⟨(qfNam_ct2 b0 b2 b3 b4 v5), (qfNam_ct0 text pos deep cnt ar ch)⟩ a2 W g' hs') ∨ ∃ j, jump = .ret ∧ seekF ar ch ar.length = some j ∧ cnt + 1 ≤ 30 ∧ Ok' cN ⟨(qfNam_ct5 b0 b2 b3 b4 v5), [.box [.v (.string text), I (pos + 1), I deep, I (cnt + 1), .own 1] 144 false, rowI 236 FixName.ty ar, .box [.ptr 0 0] 141 false, .box [.v (.int .u8 ch)] 5 false, .box [.rd (trR fLab (fn 88 (j : Nat) []))] 83 false]⟩ a2 W g' hs')
 let Y : List PanicEntry → World → Prop := fun chn W => psStop 140 chn ∧ (seekF ar ch ar.length = none ∨ 30 < cnt + 1) ∧ ∃ g', Side W g' D (.deferred (some [])) ∧ Base cN W g'
 have hI : ∀ k w w', Iv k w → Ext w w' → Iv k w' := fun k w w' ⟨g', hs', h1, h2, h3, h4, h5⟩ e => ⟨g', hs', h1.grow e, h2, h3.grow e, h4.grow e, h5⟩
 have hX : ∀ w w', X w → Ext w w' → X w' := fun w w' ⟨g', hs', jump, h1, h2, h3⟩ e => ⟨g', hs', jump, h1.grow e, h2.grow e, by
  rcases h3 with ⟨k1, k2, k3⟩ | ⟨j, k1, k2, k3, k4⟩
  ·exact .inl ⟨k1, k2, k3.grow e⟩
  ·exact .inr ⟨j, k1, k2, k3, k4.grow e⟩⟩
 have hv : ∀ k w, Iv k w → ∃ v5, w.heap[b5]? = some (.cells #[v5] 142 (0, 0)) ∧ (LS FixName.ty ar).ok w.gh hs0 v5 := fun k w ⟨g', hs', h1, h2, h3, h4, h5⟩ => by
  refine ⟨v5, h1.base.pers b5 _ (h2 _ _ hb5), ?_⟩
  obtain ⟨cs, r1, r2⟩ := h1.items 1 _ rfl
  have e1 : hs' 1 = v5 := (h1.slots 10 (o1 (.pown 1 v5)) (look_mem rfl)).1.1
  rw [← e1]
  exact row_LS (hs := hs0) (T := FixName.ty) r1 r2 (fun b o e => h1.base.pers b o e) (fun b hb => rfl)
 have h0 : Iv ar.length W1 := ⟨g2, hs2, ok2.grow x1, Gh.le.refl _, sL1, sD1, rfl⟩
 have hpost : ∀ chn W (a : Act) g', a.defers = [⟨.collected D, #[]⟩] → psStop 140 chn → (seekF ar ch ar.length = none ∨ 30 < cnt + 1) → Side W g' D (.deferred (some [])) → Base cN W g' → LeavesInM Fence.wide 0 Try.prog Try.f152 a.tmps (fun en w' => (∃ v g' hs' r, en = .returned v ∧ (seekF ar ch ar.length = some r ∧ cnt + 1 ≤ 30) ∧ (SC.sv (.one (.rd (trR fLab (fn 88 (r : Nat) []))))).ok g' hs' v ∧ (∀ i ∈ [0], hs' i = hs i) ∧ Base (cfgM 0 w g (mayM (qfNam_ct3 text pos deep cnt ar) hs)) w' g' ∧ ItemsOk (mayM (qfNam_ct3 text pos deep cnt ar) hs) w.heap.size [.box [.v (.string text), I (pos + 1), I deep, I (cnt + 1), .own 1] 144 false, rowI 236 FixName.ty ar] g' hs' w') ∨ ∃ ch2 g', en = .panicked ch2 ∧ psStop 140 ch2 ∧ (seekF ar ch ar.length = none ∨ 30 < cnt + 1) ∧ Base (cfgM 0 w g (mayM (qfNam_ct3 text pos deep cnt ar) hs)) w' g') a.defers (.panicking chn) W := fun chn W a g' hda hps hbad sD hb => by
  rw [hda]
  refine ⟨by simp, .inl ⟨D, W.putObj D (.deferred none), rfl, run_takeDeferred sD.at_, ?_⟩⟩
  refine .inr ⟨chn, g, rfl, hps, hbad, ?_⟩
  subst hcN
  refine ⟨hb.os, hb.tape, hb.output, by rw [World.putObj_size]; exact hb.grows, fun b h1 h2 => (World.putObj_heap_other (by intro e; have h1 : b < w.heap.size := h1; omega)).trans (hb.frame b h1 h2), Gh.le.refl g, fun b o e => .inl e, fun b o e => ?_⟩
  have hlt := hpers.lt e
  exact (World.putObj_heap_other (by intro e; omega)).trans (hb.pers b o (hb.ghle b o e))
 have hR : ∀ (j : Nat) (x : FixName) (u : Value) (W : World), ar[j]? = some x → Iv (j + 1) W → SC.ok W.gh hs0 (.sv (FixName.sv x)) u → RoundIn Fence.wide 0 Try.prog L 152 ((a2.tmps.setIfInBounds 12 (.int .i64 j)).setIfInBounds 13 u) namCodes.1 namCodes.2 W (fun e w' => (e = .returned (.bool true) ∧ Iv j w') ∨ (e = .returned (.bool false) ∧ X w') ∨ ∃ ch, e = .panicked ch ∧ Y ch w') := fun j x u W hx ⟨g', hs', hk, hle, sL, sD, hsk⟩ hu => by
  obtain ⟨aR, haR⟩ : ∃ aR : Act, aR = (({ tmps := a2.tmps, defers := [] } : Act).put (some 12) (.int .i64 j)).put (some 13) u := ⟨_, rfl⟩
  have hRz : aR.tmps.size = 34 := by rw [haR]; exact put_size.trans (put_size.trans hz2)
  have g12 : aR.tmps.getD 12 undef = .int .i64 j := by rw [haR]; exact (put_other (by decide)).trans (put_same (by show 12 < a2.tmps.size; omega))
  have g13 : aR.tmps.getD 13 undef = u := by rw [haR]; exact put_same (by rw [put_size]; show 13 < a2.tmps.size; omega)
  have gO : ∀ t, t ≠ 12 → t ≠ 13 → aR.tmps.getD t undef = a2.tmps.getD t undef := fun t h1 h2 => by rw [haR]; exact (put_other h2).trans (put_other h1)
  have hcu : cellV u ∨ True := .inr trivial
  have B0 : Ok' ⟨34, W, g', mayM (qfNam_ct0 text pos deep cnt ar ch) hs', [], fun _ _ _ => False⟩ ⟨[sl 12 (I j), (13, .sv (FixName.sv x)), sl 0 (.pptr 0 0 b0), sl 2 (.pptr 2 0 b2), sl 3 (.pptr 3 0 b3), sl 4 (.pptr 4 0 b4), sl 10 (.pown 1 v5), sl 11 (.rd (bkR 161 142 v5))], (qfNam_ct0 text pos deep cnt ar ch)⟩ aR W g' hs' := hk.into hRz (by rw [haR]; rfl) fun t y hy => by
   simp only [List.mem_cons, List.not_mem_nil, or_false, Prod.mk.injEq] at hy
   rcases hy with ⟨rfl, rfl⟩ | ⟨rfl, rfl⟩ | hy
   ·rw [g12]
    exact ⟨rfl, trivial⟩
   ·rw [g13]
    exact lit2_ok hu
   ·have hm' : (t, y) ∈ (qfNam_ct2 b0 b2 b3 b4 v5) := by simpa only [List.mem_cons, List.not_mem_nil, or_false, Prod.mk.injEq] using hy
    have ht1 : t ≠ 12 ∧ t ≠ 13 := by
     rcases hy with ⟨rfl, _⟩ | ⟨rfl, _⟩ | ⟨rfl, _⟩ | ⟨rfl, _⟩ | ⟨rfl, _⟩ | ⟨rfl, _⟩ <;> exact ⟨by decide, by decide⟩
    rw [gO t ht1.1 ht1.2]
    exact hk.slots t y hm'
  have A := fNamAssign (ch := ch) (x := x) L rfl aR W ⟨g', hs', B0⟩
  have hact : ({ tmps := (a2.tmps.setIfInBounds 12 (.int .i64 j)).setIfInBounds 13 u, defers := [] } : Act) = aR := by rw [haR]; rfl
  have kM0 : kindsB (qfNam_ct0 text pos deep cnt ar ch) = true := rfl
  have kM1 : kindsB (qfNam_ct1 text pos deep cnt ar ch x.fSign x.fTurned) = true := rfl
  have hbegin : ∀ a1 W1, Ok ⟨34, W, g', mayM (qfNam_ct0 text pos deep cnt ar ch) hs', [], fun _ _ _ => False⟩ ⟨(qfNam_ct4 j b0 b2 b3 b4 v5), (qfNam_ct1 text pos deep cnt ar ch x.fSign x.fTurned)⟩ a1 W1 → ∃ w₂ g1 hs1, (Instr.beginRound L).run Try.prog W1 = .ok () w₂ ∧ Ok' cN ⟨(qfNam_ct2 b0 b2 b3 b4 v5), (qfNam_ct1 text pos deep cnt ar ch x.fSign x.fTurned)⟩ a2 w₂ g1 hs1 ∧ Gh.le g' g1 ∧ Side w₂ g1 L (.loop (rec .busy none)) ∧ Side w₂ g1 D (.deferred (some [])) ∧ a1.tmps.size = 34 ∧ a1.defers = [] ∧ ∀ t y, (t, y) ∈ (qfNam_ct4 j b0 b2 b3 b4 v5) → SC.ok g1 hs1 y (a1.tmps.getD t undef) := fun a1 W1 ⟨g1, hs1, B1⟩ => by
   have sL1 := sL.behind (nl _ _) hk kM0 B1.base
   have sD1 := sD.behind nd hk kM0 B1.base
   have A1 := hk.behind B1 (pins_ok (F2 := (qfNam_ct4 j b0 b2 b3 b4 v5)) rfl (fun e he => List.mem_cons_of_mem _ (List.mem_cons_of_mem _ he)) hk.slots B1.base.ghle B1.slots)
   refine ⟨W1.putObj L (.loop (rec .busy none)), g1, hs1, ?_, sL1.turn (nl _ _) A1 kM1 hcL, B1.base.ghle, sL1.put, sD1.other hDL, B1.size, B1.defers, B1.slots⟩
   have := run_beginRound (P := Try.prog) sL1.at_ (by rw [hrec])
   rw [hrec] at this ⊢
   exact this
  by_cases hpn : x.fSign = ch ∧ x.fTurned = false ∧ fcnt ⟨pos, deep, cnt⟩ = none
  ·obtain ⟨e1, e2, e3⟩ := hpn
   refine roundIn_panic Try.func152 ?_
   rw [hact]
   refine wpIn_mono A fun e a1 W1 q => ?_
   cases e with
   | normal =>
    obtain ⟨w₂, g1, hs1, hb, A1, hle1, sL1, sD1, z1, d1, F1s⟩ := hbegin a1 W1 q
    refine ⟨w₂, hb, wpIn_mono (fNamBody (c := ⟨34, w₂, g1, mayM (qfNam_ct1 text pos deep cnt ar ch x.fSign x.fTurned) hs1, [], fun chn a w => a.defers = [] ∧ psStop 140 chn ∧ ∃ g'', Base (cfgM 0 w₂ g1 (mayM (qfNam_ct1 text pos deep cnt ar ch x.fSign x.fTurned) hs1)) w g''⟩) (text := text) (pos := pos) (deep := deep) (cnt := cnt) (ch := ch) (ar := ar) (j := j) (x := x) L rfl ⟨hg, hz⟩ hlt (fun _ _ _ chn a w' g'' h1 h2 _ h4 => ⟨h1, h2, g'', h4.cast rfl rfl rfl⟩) a1 w₂ ⟨g1, hs1, A1.into z1 d1 F1s⟩) fun e a3 W2 q => ?_⟩
    cases e with
    | normal => exact absurd e1 q.1
    | ret =>
     have h3 : cnt + 1 ≤ 30 := q.1.2.2
     unfold fcnt at e3
     rw [if_neg (by show ¬ cnt + 1 > 30; omega)] at e3
     cases e3
    | exit i =>
     match i, q with
     | 0, q =>
      have : x.fTurned = true := q.1.2
      rw [e2] at this
      cases this
     | i + 1, q => exact (q : False).elim
    | panic chn =>
     obtain ⟨h1, h2, g'', h3⟩ := (q : a3.defers = [] ∧ psStop 140 chn ∧ ∃ g'', Base (cfgM 0 w₂ g1 (mayM (qfNam_ct1 text pos deep cnt ar ch x.fSign x.fTurned) hs1)) W2 g'')
     refine ⟨chn, rfl, h1, .inr (.inr ⟨chn, rfl, h2, .inr ?_, g'', sD1.behind nd A1 kM1 h3, A1.baseBehind h3⟩)⟩
     unfold fcnt at e3
     by_cases hc : cnt + 1 > 30
     ·exact hc
     ·rw [if_neg hc] at e3
      cases e3
    | goto i => exact (q : False).elim
    | outgrown => exact (q : False).elim
   | ret => exact (q : False).elim
   | exit i => exact (q : False).elim
   | goto i => exact (q : False).elim
   | panic i => exact (q : False).elim
   | outgrown => exact (q : False).elim
  ·refine roundIn_of_wpIn (F := Fence.wide) (n := 0) trivial ?_
   rw [hact]
   refine wpIn_mono A fun e a1 W1 q => ?_
   cases e with
   | normal =>
    obtain ⟨w₂, g1, hs1, hb, A1, hle1, sL1, sD1, z1, d1, F1s⟩ := hbegin a1 W1 q
    refine ⟨w₂, hb, wpIn_mono (fNamBody (c := ⟨34, w₂, g1, mayM (qfNam_ct1 text pos deep cnt ar ch x.fSign x.fTurned) hs1, [], fun _ _ _ => False⟩) (text := text) (pos := pos) (deep := deep) (cnt := cnt) (ch := ch) (ar := ar) (j := j) (x := x) L rfl ⟨hg, hz⟩ hlt (fun k1 k2 k3 => absurd ⟨k1, k2, k3⟩ hpn) a1 w₂ ⟨g1, hs1, A1.into z1 d1 F1s⟩) fun e a3 W2 q => ?_⟩
    cases e with
    | normal =>
     obtain ⟨hne, g3, hs3, B3⟩ := q
     have A3 := A1.behind B3 (pins_ok (F2 := (qfNam_ct2 b0 b2 b3 b4 v5)) rfl (fun e he => he) A1.slots B3.base.ghle B3.slots)
     have sL3 := sL1.behind (nl _ _) A1 kM1 B3.base
     have sD3 := sD1.behind nd A1 kM1 B3.base
     have er : (Instr.endRound L none).run Try.prog W2 = .ok (.bool true) (W2.putObj L (.loop (rec .ready none))) := by
      have := run_endRound (P := Try.prog) none sL3.at_
      rw [hrec] at this ⊢
      exact this
     exact ⟨_, _, er, .inl ⟨rfl, g3, hs3, sL3.turn (nl _ _) A3 kM0 hcL, (hle.trans hle1).trans B3.base.ghle, sL3.put, sD3.other hDL, hsk.trans (by rw [seekF_step hx, if_neg hne])⟩⟩
    | ret =>
     obtain ⟨⟨h1, h2, h3⟩, g3, hs3, B3⟩ := q
     have A1' : Ok' cN ⟨(qfNam_ct5 b0 b2 b3 b4 v5), (qfNam_ct1 text pos deep cnt ar ch x.fSign x.fTurned)⟩ a2 w₂ g1 hs1 := ⟨A1.size, A1.defers, A1.base, fun t y hy => A1.slots t y (by simp only [List.mem_cons, List.not_mem_nil, or_false, Prod.mk.injEq] at hy ⊢; rcases hy with h | h | h | h | h <;> simp [h]), A1.items, A1.sep, A1.mine⟩
     have A3 := A1'.behind B3 (pins_ok (F2 := (qfNam_ct5 b0 b2 b3 b4 v5)) rfl (fun e he => he) A1'.slots B3.base.ghle B3.slots)
     have sL3 := sL1.behind (nl _ _) A1 kM1 B3.base
     have sD3 := sD1.behind nd A1 kM1 B3.base
     have er : (Instr.endRound L (some .ret)).run Try.prog W2 = .ok (.bool false) (W2.putObj L (.loop (rec .done (some .ret)))) := by
      have := run_endRound (P := Try.prog) (some .ret) sL3.at_
      rw [hrec] at this ⊢
      exact this
     exact ⟨_, _, er, .inr (.inl ⟨rfl, g3, hs3, .ret, sL3.put, sD3.other hDL, .inr ⟨j, rfl, hsk.trans (by rw [seekF_step hx, if_pos h1, if_neg (by rw [h2]; decide)]), h3, sL3.turn (nl _ _) A3 rfl hcL⟩⟩)⟩
    | exit i =>
     match i, q with
     | 0, q =>
      obtain ⟨⟨h1, h2⟩, g3, hs3, B3⟩ := q
      have A3 := A1.behind B3 (pins_ok (F2 := (qfNam_ct2 b0 b2 b3 b4 v5)) rfl (fun e he => he) A1.slots B3.base.ghle B3.slots)
      have sL3 := sL1.behind (nl _ _) A1 kM1 B3.base
      have sD3 := sD1.behind nd A1 kM1 B3.base
      have er : (Instr.endRound L (some (.exit 0))).run Try.prog W2 = .ok (.bool false) (W2.putObj L (.loop (rec .done (some (.exit 0))))) := by
       have := run_endRound (P := Try.prog) (some (.exit 0)) sL3.at_
       rw [hrec] at this ⊢
       exact this
      exact ⟨_, _, er, .inr (.inl ⟨rfl, g3, hs3, .exit 0, sL3.put, sD3.other hDL, .inl ⟨rfl, hsk.trans (by rw [seekF_step hx, if_pos h1, if_pos h2]), sL3.turn (nl _ _) A3 kM0 hcL⟩⟩)⟩
     | i + 1, q => exact (q : False).elim
    | panic chn => exact (q : False).elim
    | goto i => exact (q : False).elim
    | outgrown => exact (q : False).elim
   | ret => exact (q : False).elim
   | exit i => exact (q : False).elim
   | goto i => exact (q : False).elim
   | panic i => exact (q : False).elim
   | outgrown => exact (q : False).elim
 have ez : ∀ (T : Array Value) (v u : Value), ((#[12, 13] : Array Nat).zip #[v, u]).foldl (fun t (p, v) => t.setIfInBounds p v) T = (T.setIfInBounds 12 v).setIfInBounds 13 u := fun T v u => by simp
 have hback := backIt (L := L) (b5 := b5) (l := ar) (rec := rec .ready none) Iv X Y hlen hI hv hX (fun k w ⟨g', hs', _, _, h3, _⟩ => h3.at_) (by rw [hrec]; rfl) (fun j x u W hx hIv hu => by
  have h := hR j x u W hx hIv hu
  rw [← ez] at h
  rw [hrec]
  exact h) W1 h0
 have hg11 : a2.eval (.tmp 11) = .func (.func 161) #[] #[.pointer (some ⟨b5, 0, none⟩)] := e11
 have hsz' : ∀ (W : World) g' hs', Ok' cN ⟨(qfNam_ct2 b0 b2 b3 b4 v5), (qfNam_ct0 text pos deep cnt ar ch)⟩ a2 W g' hs' → Side W g' D (.deferred (some [])) → seekF ar ch ar.length = none → (namRest).wp Try.prog (bodyPostM Fence.wide 0 Try.prog Try.f152 (fun en w' => (∃ v g' hs' r, en = .returned v ∧ (seekF ar ch ar.length = some r ∧ cnt + 1 ≤ 30) ∧ (SC.sv (.one (.rd (trR fLab (fn 88 (r : Nat) []))))).ok g' hs' v ∧ (∀ i ∈ [0], hs' i = hs i) ∧ Base (cfgM 0 w g (mayM (qfNam_ct3 text pos deep cnt ar) hs)) w' g' ∧ ItemsOk (mayM (qfNam_ct3 text pos deep cnt ar) hs) w.heap.size [.box [.v (.string text), I (pos + 1), I deep, I (cnt + 1), .own 1] 144 false, rowI 236 FixName.ty ar] g' hs' w') ∨ ∃ ch2 g', en = .panicked ch2 ∧ psStop 140 ch2 ∧ (seekF ar ch ar.length = none ∨ 30 < cnt + 1) ∧ Base (cfgM 0 w g (mayM (qfNam_ct3 text pos deep cnt ar) hs)) w' g')) { tmps := a2.tmps, defers := [⟨.collected D, #[]⟩] } W := fun W g' hs' hk sD hsk => by
  have hk9 : Ok' ⟨34, W, g', mayM (qfNam_ct0 text pos deep cnt ar ch) hs', [⟨.collected D, #[]⟩], fun chn a w => a.defers = [⟨.collected D, #[]⟩] ∧ psStop 140 chn ∧ ∃ g'', Base (cfgM 0 W g' (mayM (qfNam_ct0 text pos deep cnt ar ch) hs')) w g''⟩ ⟨(qfNam_ct2 b0 b2 b3 b4 v5), (qfNam_ct0 text pos deep cnt ar ch)⟩ { tmps := a2.tmps, defers := [⟨.collected D, #[]⟩] } W g' hs' := hk.into hz2 rfl hk.slots
  have hEn : En ⟨34, W, g', mayM (qfNam_ct0 text pos deep cnt ar ch) hs', [⟨.collected D, #[]⟩], fun chn a w => a.defers = [⟨.collected D, #[]⟩] ∧ psStop 140 chn ∧ ∃ g'', Base (cfgM 0 W g' (mayM (qfNam_ct0 text pos deep cnt ar ch) hs')) w g''⟩ ⟨(qfNam_ct2 b0 b2 b3 b4 v5), (qfNam_ct0 text pos deep cnt ar ch)⟩ (cwp namRest (PQ ⟨34, W, g', mayM (qfNam_ct0 text pos deep cnt ar ch) hs', [⟨.collected D, #[]⟩], fun chn a w => a.defers = [⟨.collected D, #[]⟩] ∧ psStop 140 chn ∧ ∃ g'', Base (cfgM 0 W g' (mayM (qfNam_ct0 text pos deep cnt ar ch) hs')) w g''⟩ (fun _ _ => False) [] (fun _ _ => False))) := by
   refine En.seq ?_
   refine En.region ?_
   refine WL.run ht rfl 1 ⟨[sl 32 (.ptr 0 0)], (qfNam_ct3 text pos deep cnt ar)⟩ (by kernel_rfl) ?_
   exact WL.callX (fFail_ct text pos deep cnt ar 5 (by decide)) en75 (caps := []) [0, 1] (by rfl) rfl (by rfl) (argsAs (by kernel_rfl) (by rfl)) (by kernel_rfl) (by decide) (leftX (P := True) (fun chn a w' g'' h1 h2 _ h4 => ⟨h1, h2, g'', h4.cast rfl rfl rfl⟩) trivial)
  refine Code.wp_mono (fun e a w q => ?_) (hEn _ W ⟨g', hs', hk9⟩)
  cases e with
  | panic chn =>
   obtain ⟨h1, h2, g'', h3⟩ := (q : a.defers = [⟨.collected D, #[]⟩] ∧ psStop 140 chn ∧ ∃ g'', Base (cfgM 0 W g' (mayM (qfNam_ct0 text pos deep cnt ar ch) hs')) w g'')
   exact hpost chn w a g'' h1 h2 (.inl hsk) (sD.behind nd hk rfl h3) (hk.baseBehind h3)
  | normal => exact (q : False).elim
  | ret => exact (q : False).elim
  | exit i => exact (q : False).elim
  | goto i => exact (q : False).elim
  | outgrown => exact (q : False).elim
 refine wpB_block (wpB_rangeFunc (l := L) (mark := [⟨.collected D, #[]⟩]) (w₁ := W1) (w₁' := W1) (w₂ := W1) (d := ⟨.fn (.func 161) #[.pointer (some ⟨b5, 0, none⟩)], #[.func (.yield L) #[] #[]]⟩) (f := 161) (args := #[.func (.yield L) #[] #[], .pointer (some ⟨b5, 0, none⟩)]) ?_ ?_ ?_ (Calls.mono hback fun e W h => ?_))
 ·rw [run_enterLoop_outer, hW1, hL, hrec, hD]
  rfl
 ·simp only [resolve, hg11]
  simp [go_sem]
 ·simp [invoke, go_sem, en161]
 have hda : ({ tmps := a2.tmps, defers := [⟨.collected D, #[]⟩] ++ a2.defers } : Act) = { tmps := a2.tmps, defers := [⟨.collected D, #[]⟩] } := by rw [hd2]; rfl
 rw [hda]
 rcases h with ⟨v, rfl, h⟩ | ⟨chn, rfl, h1, h2, g', sD, hb⟩
 ·rcases h with ⟨g', hs', hk, hle, sL, sD, hsk⟩ | ⟨g', hs', jump, sL, sD, hj⟩
  ·refine ⟨none, W.putObj L (.loop { rec .ready none with state := .exhausted }), ?_, ?_⟩
   ·have := run_endLoop (P := Try.prog) sL.at_ (by rw [hrec]; simp)
    rw [hrec] at this ⊢
    exact this
   ·exact wpB_of (hsz' _ g' hs' (sL.turn (nl _ _) hk rfl hcL) (sD.other hDL) hsk)
  ·refine ⟨some jump, W.putObj L (.loop { rec .done (some jump) with state := .exhausted }), ?_, ?_⟩
   ·have := run_endLoop (P := Try.prog) sL.at_ (by rw [hrec]; simp)
    rw [hrec] at this ⊢
    exact this
   ·rcases hj with ⟨rfl, hsk, hk⟩ | ⟨j, rfl, hsk, hcn, hk⟩
    ·refine wp_exit ?_
     exact wpB_of (hsz' _ g' hs' (sL.turn (nl _ _) hk rfl hcL) (sD.other hDL) hsk)
    ·refine wp_ret ?_
     have hk2 := sL.turn (o' := .loop { rec .done (some .ret) with state := .exhausted }) (nl _ _) hk rfl hcL
     have sD2 := sD.other (o' := .loop { rec .done (some .ret) with state := .exhausted }) hDL
     have hk3 := sD2.turn (o' := .deferred none) nd hk2 rfl hcD
     refine ⟨by simp, .inl ⟨D, _, rfl, run_takeDeferred sD2.at_, ?_⟩⟩
     obtain ⟨_, v, g3, hs3, r, k1, k2, k3, k4, k5, k6⟩ := En.backE (post := fun (j : Nat) => seekF ar ch ar.length = some j ∧ cnt + 1 ≤ 30) (out := fun j => .sv (.one (.rd (trR fLab (fn 88 (j : Nat) []))))) (M' := fun _ => [.box [.v (.string text), I (pos + 1), I deep, I (cnt + 1), .own 1] 144 false, rowI 236 FixName.ty ar]) (rs := Try.f152.results) (pin := [0]) (B := fun _ => b0) [0] ht j ⟨hsk, hcn⟩ (by kernel_rfl) (by rfl) rfl a2 _ ⟨g', hs', hk3⟩
     refine ⟨v, k1, .inl ⟨v, g3, hs3, r, rfl, k2, k3, fun i hi => ?_, ?_, ?_⟩⟩
     ·rw [k4 i hi]
      cases List.mem_singleton.1 hi
      exact e0.symm
     ·subst hcN
      exact k5.cast rfl rfl rfl
     ·subst hcN
      exact k6
 ·exact hpost chn W { tmps := a2.tmps, defers := [⟨.collected D, #[]⟩] } g' rfl h1 h2 sD hb
theorem CtP.okOf {β γ : Type} {f : Nat} {ins : List SC} {M : List Item} {pin : List Nat} {post : β → Prop} {out : β → SC} {M1 : β → List Item} {ps : List PanicEntry → Prop} {bad : Prop} {post' : γ → Prop} {out' : γ → SC} {M2 : γ → List Item} (h : CtP f ins M pin post out M1 ps bad) (hb : ¬ bad) (hp : ∀ r, post r → ∃ s, post' s ∧ out' s = out r ∧ M2 s = M1 r) : CtE f ins M pin post' out' M2 := fun w g hs args h1 h2 h3 =>
 (h w g hs args h1 h2 h3).mono fun e w' k => by
  rcases k with ⟨v, g', hs', r, e1, e2, e3, e4⟩ | ⟨_, _, _, _, k, _⟩
  ·obtain ⟨s, s1, s2, s3⟩ := hp r e2
   exact ⟨v, g', hs', s, e1, s1, by rw [s2]; exact e3, by rw [s3]; exact e4⟩
  ·exact absurd k hb
theorem CtP.badOf {β : Type} {f : Nat} {ins : List SC} {M : List Item} {pin : List Nat} {post : β → Prop} {out : β → SC} {M1 : β → List Item} {ps : List PanicEntry → Prop} {bad : Prop} (h : CtP f ins M pin post out M1 ps bad) (hb : ∀ r, ¬ post r) : CtX f ins M ps := fun w g hs args h1 h2 h3 =>
 (h w g hs args h1 h2 h3).mono fun e w' k => by
  rcases k with ⟨_, _, _, r, _, k, _⟩ | ⟨ch, g', e1, e2, _, e4⟩
  ·exact absurd k (hb r)
  ·exact ⟨ch, g', e1, e2, e4⟩
theorem fNam_ok (text : ByteArray) (pos deep cnt : Int) (ar : List FixName) (ch : Int) (hp : gF text ⟨pos, deep, cnt⟩ ∧ text.size ≤ 4000 ∧ pos < text.size ∧ ar.length ≤ 1000) (r : FTr × FS) (hx : namF ar ch ⟨pos, deep, cnt⟩ = some r) : CtE 152 [.sv (.one (.ptr 0 0)), .sv (.one (.v (.int .u8 ch)))] [.box [.v (.string text), I pos, I deep, I cnt, .own 1] 144 false, rowI 236 FixName.ty ar] [0] (fun (_ : Unit) => True) (fun _ => .sv (.one (.rd (trR fLab r.1)))) (fun _ => [.box [.v (.string text), I r.2.pos, I r.2.deep, I r.2.cnt, .own 1] 144 false, rowI 236 FixName.ty ar]) := by
 obtain ⟨j, hj, hx⟩ := Option.bind_eq_some_iff.1 hx
 obtain ⟨s1, h1, hx⟩ := Option.bind_eq_some_iff.1 hx
 obtain ⟨rfl, hc⟩ := fcst_some h1
 cases hx
 have hc : cnt + 1 ≤ 30 := hc
 refine (fNam_ct text pos deep cnt ar ch hp).okOf (fun h => ?_) fun k hk => ⟨(), trivial, ?_, rfl⟩
 ·rcases h with h | h
  ·rw [hj] at h
   cases h
  ·omega
 ·have hk1 := hk.1
  rw [hj] at hk1
  cases hk1
  rfl
theorem fNam_bad (text : ByteArray) (pos deep cnt : Int) (ar : List FixName) (ch : Int) (hp : gF text ⟨pos, deep, cnt⟩ ∧ text.size ≤ 4000 ∧ pos < text.size ∧ ar.length ≤ 1000) (hx : namF ar ch ⟨pos, deep, cnt⟩ = none) : CtX 152 [.sv (.one (.ptr 0 0)), .sv (.one (.v (.int .u8 ch)))] [.box [.v (.string text), I pos, I deep, I cnt, .own 1] 144 false, rowI 236 FixName.ty ar] (psStop 140) :=
 (fNam_ct text pos deep cnt ar ch hp).badOf fun j hj => by
  unfold namF fcst fcnt at hx
  rw [hj.1, if_neg (by have := hj.2; show ¬ cnt + 1 > 30; omega)] at hx
  cases hx
theorem en152 : ∀ args w, (callFunc 152 args).run Try.prog w = .ok (.enter 152 args) w := enters_of Try.func152 (by kernel_rfl) rfl
def FC (k : Nat) : Prop := ∀ (text : ByteArray) (pos deep cnt : Int) (ar : List FixName), (fOk k 0 text ar ⟨pos, deep, cnt⟩ → (∀ r, pF text k 0 ar ⟨pos, deep, cnt⟩ = some r → CtE 136 [.sv (.one (.ptr 0 0))] [.box [.v (.string text), I pos, I deep, I cnt, .own 1] 144 false, rowI 236 FixName.ty ar] [0] (fun (_ : Unit) => True) (fun _ => .sv (.one (.rd (trR fLab r.1)))) (fun _ => [.box [.v (.string text), I r.2.pos, I r.2.deep, I r.2.cnt, .own 1] 144 false, rowI 236 FixName.ty ar])) ∧ (pF text k 0 ar ⟨pos, deep, cnt⟩ = none → CtX 136 [.sv (.one (.ptr 0 0))] [.box [.v (.string text), I pos, I deep, I cnt, .own 1] 144 false, rowI 236 FixName.ty ar] (psStop 140))) ∧ (fOk k 1 text ar ⟨pos, deep, cnt⟩ → (∀ r, pF text k 1 ar ⟨pos, deep, cnt⟩ = some r → CtE 109 [.sv (.one (.ptr 0 0))] [.box [.v (.string text), I pos, I deep, I cnt, .own 1] 144 false, rowI 236 FixName.ty ar] [0] (fun (_ : Unit) => True) (fun _ => .sv (.one (.rd (trR fLab r.1)))) (fun _ => [.box [.v (.string text), I r.2.pos, I r.2.deep, I r.2.cnt, .own 1] 144 false, rowI 236 FixName.ty ar])) ∧ (pF text k 1 ar ⟨pos, deep, cnt⟩ = none → CtX 109 [.sv (.one (.ptr 0 0))] [.box [.v (.string text), I pos, I deep, I cnt, .own 1] 144 false, rowI 236 FixName.ty ar] (psStop 140))) ∧ (fOk k 2 text ar ⟨pos, deep, cnt⟩ → (∀ r, pF text k 2 ar ⟨pos, deep, cnt⟩ = some r → CtE 74 [.sv (.one (.ptr 0 0))] [.box [.v (.string text), I pos, I deep, I cnt, .own 1] 144 false, rowI 236 FixName.ty ar] [0] (fun (_ : Unit) => True) (fun _ => .sv (.one (.rd (trR fLab r.1)))) (fun _ => [.box [.v (.string text), I r.2.pos, I r.2.deep, I r.2.cnt, .own 1] 144 false, rowI 236 FixName.ty ar])) ∧ (pF text k 2 ar ⟨pos, deep, cnt⟩ = none → CtX 74 [.sv (.one (.ptr 0 0))] [.box [.v (.string text), I pos, I deep, I cnt, .own 1] 144 false, rowI 236 FixName.ty ar] (psStop 140)))
theorem fI0_ok (k : Nat) (ih : FC k) (text : ByteArray) (pos deep cnt : Int) (ar : List FixName) (hp : fOk k 0 text ar ⟨pos, deep, cnt⟩) (r : FTr × FS) (hx : pF text k 0 ar ⟨pos, deep, cnt⟩ = some r) : CtE 136 [.sv (.one (.ptr 0 0))] [.box [.v (.string text), I pos, I deep, I cnt, .own 1] 144 false, rowI 236 FixName.ty ar] [0] (fun (_ : Unit) => True) (fun _ => .sv (.one (.rd (trR fLab r.1)))) (fun _ => [.box [.v (.string text), I r.2.pos, I r.2.deep, I r.2.cnt, .own 1] 144 false, rowI 236 FixName.ty ar]) := ((ih text pos deep cnt ar).1 hp).1 r hx
theorem fI0_bad (k : Nat) (ih : FC k) (text : ByteArray) (pos deep cnt : Int) (ar : List FixName) (hp : fOk k 0 text ar ⟨pos, deep, cnt⟩) (hx : pF text k 0 ar ⟨pos, deep, cnt⟩ = none) : CtX 136 [.sv (.one (.ptr 0 0))] [.box [.v (.string text), I pos, I deep, I cnt, .own 1] 144 false, rowI 236 FixName.ty ar] (psStop 140) := ((ih text pos deep cnt ar).1 hp).2 hx
theorem en136 : ∀ args w, (callFunc 136 args).run Try.prog w = .ok (.enter 136 args) w := enters_of Try.func136 (by kernel_rfl) rfl
theorem fI1_ok (k : Nat) (ih : FC k) (text : ByteArray) (pos deep cnt : Int) (ar : List FixName) (hp : fOk k 1 text ar ⟨pos, deep, cnt⟩) (r : FTr × FS) (hx : pF text k 1 ar ⟨pos, deep, cnt⟩ = some r) : CtE 109 [.sv (.one (.ptr 0 0))] [.box [.v (.string text), I pos, I deep, I cnt, .own 1] 144 false, rowI 236 FixName.ty ar] [0] (fun (_ : Unit) => True) (fun _ => .sv (.one (.rd (trR fLab r.1)))) (fun _ => [.box [.v (.string text), I r.2.pos, I r.2.deep, I r.2.cnt, .own 1] 144 false, rowI 236 FixName.ty ar]) := ((ih text pos deep cnt ar).2.1 hp).1 r hx
theorem fI1_bad (k : Nat) (ih : FC k) (text : ByteArray) (pos deep cnt : Int) (ar : List FixName) (hp : fOk k 1 text ar ⟨pos, deep, cnt⟩) (hx : pF text k 1 ar ⟨pos, deep, cnt⟩ = none) : CtX 109 [.sv (.one (.ptr 0 0))] [.box [.v (.string text), I pos, I deep, I cnt, .own 1] 144 false, rowI 236 FixName.ty ar] (psStop 140) := ((ih text pos deep cnt ar).2.1 hp).2 hx
theorem en109 : ∀ args w, (callFunc 109 args).run Try.prog w = .ok (.enter 109 args) w := enters_of Try.func109 (by kernel_rfl) rfl
theorem fI2_ok (k : Nat) (ih : FC k) (text : ByteArray) (pos deep cnt : Int) (ar : List FixName) (hp : fOk k 2 text ar ⟨pos, deep, cnt⟩) (r : FTr × FS) (hx : pF text k 2 ar ⟨pos, deep, cnt⟩ = some r) : CtE 74 [.sv (.one (.ptr 0 0))] [.box [.v (.string text), I pos, I deep, I cnt, .own 1] 144 false, rowI 236 FixName.ty ar] [0] (fun (_ : Unit) => True) (fun _ => .sv (.one (.rd (trR fLab r.1)))) (fun _ => [.box [.v (.string text), I r.2.pos, I r.2.deep, I r.2.cnt, .own 1] 144 false, rowI 236 FixName.ty ar]) := ((ih text pos deep cnt ar).2.2 hp).1 r hx
theorem fI2_bad (k : Nat) (ih : FC k) (text : ByteArray) (pos deep cnt : Int) (ar : List FixName) (hp : fOk k 2 text ar ⟨pos, deep, cnt⟩) (hx : pF text k 2 ar ⟨pos, deep, cnt⟩ = none) : CtX 74 [.sv (.one (.ptr 0 0))] [.box [.v (.string text), I pos, I deep, I cnt, .own 1] 144 false, rowI 236 FixName.ty ar] (psStop 140) := ((ih text pos deep cnt ar).2.2 hp).2 hx
theorem en74 : ∀ args w, (callFunc 74 args).run Try.prog w = .ok (.enter 74 args) w := enters_of Try.func74 (by kernel_rfl) rfl
def fArr_vc (k : Nat) (text : ByteArray) (pos : Int) (deep : Int) (cnt : Int) (ar : (List FixName)) (ch : Int) (Q : (Tr FLab) × Int × Int × Int × (List FixName) → Prop) (P : Prop) : Prop :=
 (gF text ⟨pos, deep, cnt⟩ ∧ text.size ≤ 4000) ∧
 ((fcnt ⟨pos, deep, cnt⟩) = none → P) ∧ ∀ r, (fcnt ⟨pos, deep, cnt⟩) = some r →
 ((0 ≤ (wr ((r.pos) + 1))) ∧
 IfP ((decide ((fch text (wr ((r.pos) + 1))) < 97)) || (decide ((fch text (wr ((r.pos) + 1))) > 100))) (((4 : Int) ≠ 0) ∧
 P) (∃ J : Int → Int → Int → Prop, (IfP (ch == 60) ((gF text ⟨(wr (((wr ((r.pos) + 1))) + 1)), ((r.deep)), ((r.cnt))⟩ ∧ text.size ≤ 4000 ∧ (62 : Int) ≠ 0) ∧
 ((fwant 62 text ⟨(wr (((wr ((r.pos) + 1))) + 1)), ((r.deep)), ((r.cnt))⟩) = none → P) ∧ ∀ r_2, (fwant 62 text ⟨(wr (((wr ((r.pos) + 1))) + 1)), ((r.deep)), ((r.cnt))⟩) = some r_2 →
 (J (r_2.pos) (r_2.deep) (r_2.cnt))) ((gF text ⟨(wr (((wr ((r.pos) + 1))) + 1)), ((r.deep)), ((r.cnt))⟩ ∧ text.size ≤ 4000 ∧ (93 : Int) ≠ 0) ∧
 ((fwant 93 text ⟨(wr (((wr ((r.pos) + 1))) + 1)), ((r.deep)), ((r.cnt))⟩) = none → P) ∧ ∀ r_3, (fwant 93 text ⟨(wr (((wr ((r.pos) + 1))) + 1)), ((r.deep)), ((r.cnt))⟩) = some r_3 →
 (J (r_3.pos) (r_3.deep) (r_3.cnt)))) ∧
 (∀ (y01 : Int) (y02 : Int) (y03 : Int), J y01 y02 y03 → (fOk k 0 text (((ar))) ⟨y01, y02, y03⟩) ∧
 ((pF text k 0 (((ar))) ⟨y01, y02, y03⟩) = none → P) ∧ ∀ r_4, (pF text k 0 (((ar))) ⟨y01, y02, y03⟩) = some r_4 →
 (Q ((Tr.node (FLab.mk ch (wr (IntKind.wrap .u8 ((fch text (wr ((r.pos) + 1))) - 97)))) ([(r_4.1)] : (List (Tr FLab)))), (r_4.2.pos), (r_4.2.deep), (r_4.2.cnt), ((((ar)))))))))
noncomputable abbrev qfArr0 (y0 : Nat → Nat) := sl 0 (.pptr 0 0 (y0 0))
noncomputable abbrev qfArr1 (ch : Int) := sl 1 (.v (.int .u8 ch))
theorem fArr_walk (k : Nat) (text : ByteArray) (pos : Int) (deep : Int) (cnt : Int) (ar : (List FixName)) (ch : Int) (ih : FC k) (Q : (Tr FLab) × Int × Int × Int × (List FixName) → Prop) (P : Prop) (h : fArr_vc k text pos deep cnt ar ch Q P) : CtP 150 [.sv (.one (.ptr 0 0)), .sv (.one (.v (.int .u8 ch)))] [.box [.v (.string text), I pos, I deep, I cnt, .own 1] 144 false, rowI 236 FixName.ty ar] [0] Q (fun (r : (Tr FLab) × Int × Int × Int × (List FixName)) => .sv (.one (.rd (trR fLab r.1)))) (fun (r : (Tr FLab) × Int × Int × Int × (List FixName)) => [.box [.v (.string text), I r.2.1, I r.2.2.1, I r.2.2.2.1, .own 1] 144 false, rowI 236 FixName.ty r.2.2.2.2]) (psStop 140) P := by
 have ht := tab_ok
 refine CtP.body Try.func150 rfl rfl rfl (by kernel_rfl) (by kernel_rfl) (fun c Bk hn hpan => ?_)
 unfold fArr_vc at h
 show En c ⟨[(qfArr0 Bk), (qfArr1 ch)], [.box [.v (.string text), I pos, I deep, I cnt, .own 1] 144 false, rowI 236 FixName.ty ar]⟩ _
 refine En.sr ?_
 refine WL.rn ht hn 1 ⟨[(qfArr0 Bk), (qfArr1 ch)], [.box [.v (.string text), I pos, I deep, I cnt, .own 1] 144 false, rowI 236 FixName.ty ar]⟩ ?_
 refine En.sr ?_
 refine WL.r ht hn 1 ⟨[(qfArr0 Bk), (qfArr1 ch), sl 6 (.ptr 0 0)], [.box [.v (.string text), I pos, I deep, I cnt, .own 1] 144 false, rowI 236 FixName.ty ar]⟩ ?_
 obtain ⟨hp, h⟩ := h
 refine splitO (fcnt ⟨pos, deep, cnt⟩) (fun hr_2 => ?_) (fun r hr_2 => ?_)
 exact WL.cX (fCnt_bad text pos deep cnt ar hp hr_2) en111 [0, 1] rfl (leftX hpan (h.1 hr_2))
 replace h := h.2 r hr_2
 refine WL.cE (fCnt_ok text pos deep cnt ar hp r hr_2) en111 [0, 1] hn rfl ?_
 refine WL.nil ?_
 refine En.sr ?_
 refine WL.rn ht hn 8 ⟨[(qfArr0 Bk), (qfArr1 ch)], [.box [.v (.string text), I (wr (r.pos + 1)), I r.deep, I r.cnt, .own 1] 144 false, rowI 236 FixName.ty ar]⟩ ?_
 refine En.sr ?_
 refine WL.r ht hn 1 ⟨[(qfArr0 Bk), (qfArr1 ch), sl 15 (.ptr 0 0)], [.box [.v (.string text), I (wr (r.pos + 1)), I r.deep, I r.cnt, .own 1] 144 false, rowI 236 FixName.ty ar]⟩ ?_
 obtain ⟨hp, h⟩ := h
 refine WL.cE (fNow_ct text (wr (r.pos + 1)) r.deep r.cnt ar hp) en110 [0, 1] hn rfl ?_
 refine WL.rn ht hn 1 ⟨[(qfArr0 Bk), (qfArr1 ch), sl 5 (.v (.int .u8 (fch text (wr (r.pos + 1)))))], [.box [.v (.string text), I (wr (r.pos + 1)), I r.deep, I r.cnt, .own 1] 144 false, rowI 236 FixName.ty ar]⟩ ?_
 refine En.seq ?_
 refine En.sr ?_
 refine WL.r ht hn 3 ⟨[(qfArr0 Bk), (qfArr1 ch), sl 5 (.v (.int .u8 (fch text (wr (r.pos + 1))))), sl 19 (B (decide ((fch text (wr (r.pos + 1))) < 97)))], [.box [.v (.string text), I (wr (r.pos + 1)), I r.deep, I r.cnt, .own 1] 144 false, rowI 236 FixName.ty ar]⟩ ?_
 refine WL.thru ⟨[(qfArr0 Bk), (qfArr1 ch), sl 5 (.v (.int .u8 (fch text (wr (r.pos + 1))))), sl 22 (B ((decide ((fch text (wr (r.pos + 1))) < 97)) || (decide ((fch text (wr (r.pos + 1))) > 100))))], [.box [.v (.string text), I (wr (r.pos + 1)), I r.deep, I r.cnt, .own 1] 144 false, rowI 236 FixName.ty ar]⟩ ?_ ?_
 refine splitB (decide ((fch text (wr (r.pos + 1))) < 97)) (fun hb0 => ?_) (fun hb0 => ?_)
 refine WL.sB 19 hb0 ?_
 refine WL.r ht hn 3 ⟨[(qfArr0 Bk), (qfArr1 ch), sl 5 (.v (.int .u8 (fch text (wr (r.pos + 1))))), sl 22 (B true)], [.box [.v (.string text), I (wr (r.pos + 1)), I r.deep, I r.cnt, .own 1] 144 false, rowI 236 FixName.ty ar]⟩ ?_
 exact WL.nil (sub_ok (by simp only [hb0]; kernel_rfl))
 refine WL.sB 19 hb0 ?_
 refine WL.r ht hn 3 ⟨[(qfArr0 Bk), (qfArr1 ch), sl 5 (.v (.int .u8 (fch text (wr (r.pos + 1))))), sl 22 (B (decide ((fch text (wr (r.pos + 1))) > 100)))], [.box [.v (.string text), I (wr (r.pos + 1)), I r.deep, I r.cnt, .own 1] 144 false, rowI 236 FixName.ty ar]⟩ ?_
 exact WL.nil (sub_ok (by simp only [hb0]; kernel_rfl))
 refine En.cd (b := ((decide ((fch text (wr (r.pos + 1))) < 97)) || (decide ((fch text (wr (r.pos + 1))) > 100)))) (fun hb => ?_) (fun hb => ?_)
 replace h := h.1 hb
 refine En.region ?_
 refine WL.r ht hn 1 ⟨[(qfArr0 Bk), (qfArr1 ch), sl 5 (.v (.int .u8 (fch text (wr (r.pos + 1))))), sl 23 (.ptr 0 0)], [.box [.v (.string text), I (wr (r.pos + 1)), I r.deep, I r.cnt, .own 1] 144 false, rowI 236 FixName.ty ar]⟩ ?_
 obtain ⟨hp, h⟩ := h
 exact WL.cX (fFail_ct text (wr (r.pos + 1)) r.deep r.cnt ar 4 hp) en75 [0, 1] rfl (leftX hpan h)
 replace h := h.2 hb
 refine En.skip ?_
 refine En.sr ?_
 refine WL.rn ht hn 8 ⟨[(qfArr0 Bk), (qfArr1 ch), sl 5 (.v (.int .u8 (fch text (wr (r.pos + 1)))))], [.box [.v (.string text), I (wr ((wr (r.pos + 1)) + 1)), I r.deep, I r.cnt, .own 1] 144 false, rowI 236 FixName.ty ar]⟩ ?_
 obtain ⟨J, h, hJ⟩ := h
 refine En.seqJ (σ := Int × Int × Int) (fun zz => J zz.1 zz.2.1 zz.2.2) (fun zz => ⟨[(qfArr0 Bk), (qfArr1 ch), sl 5 (.v (.int .u8 (fch text (wr (r.pos + 1)))))], [.box [.v (.string text), I zz.1, I zz.2.1, I zz.2.2, .own 1] 144 false, rowI 236 FixName.ty ar]⟩) ?_ ?_
 refine En.sr ?_
 refine WL.rn ht hn 2 ⟨[(qfArr0 Bk), (qfArr1 ch), sl 5 (.v (.int .u8 (fch text (wr (r.pos + 1))))), sl 33 (B (ch == 60))], [.box [.v (.string text), I (wr ((wr (r.pos + 1)) + 1)), I r.deep, I r.cnt, .own 1] 144 false, rowI 236 FixName.ty ar]⟩ ?_
 refine En.cd (b := (ch == 60)) (fun hb => ?_) (fun hb => ?_)
 replace h := h.1 hb
 refine En.region ?_
 refine WL.r ht hn 1 ⟨[(qfArr0 Bk), (qfArr1 ch), sl 5 (.v (.int .u8 (fch text (wr (r.pos + 1))))), sl 34 (.ptr 0 0)], [.box [.v (.string text), I (wr ((wr (r.pos + 1)) + 1)), I r.deep, I r.cnt, .own 1] 144 false, rowI 236 FixName.ty ar]⟩ ?_
 obtain ⟨hp, h⟩ := h
 refine splitO (fwant 62 text ⟨(wr ((wr (r.pos + 1)) + 1)), r.deep, r.cnt⟩) (fun hr_3 => ?_) (fun r_2 hr_3 => ?_)
 exact WL.cX (fWnt_bad text (wr ((wr (r.pos + 1)) + 1)) r.deep r.cnt ar 62 hp hr_3) en153 [0, 1] rfl (leftX hpan (h.1 hr_3))
 replace h := h.2 r_2 hr_3
 refine WL.cE (fWnt_ok text (wr ((wr (r.pos + 1)) + 1)) r.deep r.cnt ar 62 hp r_2 hr_3) en153 [0, 1] hn rfl ?_
 refine WL.nil ?_
 exact En.at (I := fun zz => J zz.1 zz.2.1 zz.2.2) (T := fun zz => ⟨[(qfArr0 Bk), (qfArr1 ch), sl 5 (.v (.int .u8 (fch text (wr (r.pos + 1)))))], [.box [.v (.string text), I zz.1, I zz.2.1, I zz.2.2, .own 1] 144 false, rowI 236 FixName.ty ar]⟩) (r_2.pos, r_2.deep, r_2.cnt) h (by kernel_rfl)
 replace h := h.2 hb
 refine En.region ?_
 refine WL.r ht hn 1 ⟨[(qfArr0 Bk), (qfArr1 ch), sl 5 (.v (.int .u8 (fch text (wr (r.pos + 1))))), sl 36 (.ptr 0 0)], [.box [.v (.string text), I (wr ((wr (r.pos + 1)) + 1)), I r.deep, I r.cnt, .own 1] 144 false, rowI 236 FixName.ty ar]⟩ ?_
 obtain ⟨hp, h⟩ := h
 refine splitO (fwant 93 text ⟨(wr ((wr (r.pos + 1)) + 1)), r.deep, r.cnt⟩) (fun hr_4 => ?_) (fun r_3 hr_4 => ?_)
 exact WL.cX (fWnt_bad text (wr ((wr (r.pos + 1)) + 1)) r.deep r.cnt ar 93 hp hr_4) en153 [0, 1] rfl (leftX hpan (h.1 hr_4))
 replace h := h.2 r_3 hr_4
 refine WL.cE (fWnt_ok text (wr ((wr (r.pos + 1)) + 1)) r.deep r.cnt ar 93 hp r_3 hr_4) en153 [0, 1] hn rfl ?_
 refine WL.nil ?_
 exact En.at (I := fun zz => J zz.1 zz.2.1 zz.2.2) (T := fun zz => ⟨[(qfArr0 Bk), (qfArr1 ch), sl 5 (.v (.int .u8 (fch text (wr (r.pos + 1)))))], [.box [.v (.string text), I zz.1, I zz.2.1, I zz.2.2, .own 1] 144 false, rowI 236 FixName.ty ar]⟩) (r_3.pos, r_3.deep, r_3.cnt) h (by kernel_rfl)
 rintro ⟨y01, y02, y03⟩ h
 replace h := hJ _ _ _ h
 show En c ⟨[(qfArr0 Bk), (qfArr1 ch), sl 5 (.v (.int .u8 (fch text (wr (r.pos + 1)))))], [.box [.v (.string text), I y01, I y02, I y03, .own 1] 144 false, rowI 236 FixName.ty ar]⟩ _
 refine En.sr ?_
 refine WL.r ht hn 5 ⟨[(qfArr0 Bk), sl 38 (.v (.int .u8 ch)), sl 41 (I (wr (IntKind.wrap .u8 ((fch text (wr (r.pos + 1))) - 97)))), sl 42 (.ptr 0 0)], [.box [.v (.string text), I y01, I y02, I y03, .own 1] 144 false, rowI 236 FixName.ty ar]⟩ ?_
 obtain ⟨hp, h⟩ := h
 refine splitO (pF text k 0 ar ⟨y01, y02, y03⟩) (fun hr_5 => ?_) (fun r_4 hr_5 => ?_)
 exact WL.cX (fI0_bad k ih text y01 y02 y03 ar hp hr_5) en136 [0, 1] rfl (leftX hpan (h.1 hr_5))
 replace h := h.2 r_4 hr_5
 refine WL.cE (fI0_ok k ih text y01 y02 y03 ar hp r_4 hr_5) en136 [0, 1] hn rfl ?_
 refine WL.mt0 (K := []) (p := some (2, rowI 83 (TT fLab) ([r_4.1] : (List (Tr FLab))))) hn (by rfl) (mt_lit (T := (TT fLab)) ([r_4.1] : (List (Tr FLab))) (mt_bsl 2 (r := cellsOf (TT fLab) ([r_4.1] : (List (Tr FLab)))) ht rfl (by rfl) (by rfl) (by rfl) (by kernel_rfl) (by rfl)) (fun _ h => by cases h) (fun _ => rfl) (fun _ => rfl) (by rfl) (Nat.le_of_ble_eq_true rfl)) (by rfl) (by rfl) (by rfl) ?_
 refine WL.rn ht hn 3 ⟨[(qfArr0 Bk), sl 4 (.ptr 3 0)], [.box [.v (.string text), I r_4.2.pos, I r_4.2.deep, I r_4.2.cnt, .own 1] 144 false, rowI 236 FixName.ty ar, rowI 83 (TT fLab) ([r_4.1] : (List (Tr FLab))), .box [.v (.int .u8 ch), I (wr (IntKind.wrap .u8 ((fch text (wr (r.pos + 1))) - 97))), .own 2] 149 false]⟩ ?_
 refine En.ret ?_
 refine En.seal (T := (TT fLab)) (l := ([r_4.1] : (List (Tr FLab)))) (e := 83) 2 rfl ?_
 refine En.freeze [3] (by rfl) ?_
 refine En.ghost 4 (o1 (.rd (trR fLab (Tr.node (FLab.mk ch (wr (IntKind.wrap .u8 ((fch text (wr (r.pos + 1))) - 97)))) ([r_4.1] : (List (Tr FLab))))))) (by rfl) (tree_of (lab := fLab) (x := (FLab.mk ch (wr (IntKind.wrap .u8 ((fch text (wr (r.pos + 1))) - 97))))) (kids := ([r_4.1] : (List (Tr FLab)))) (i := 3) (by rfl) (by rfl) (by rfl)) ?_
 exact En.backE [0] ht ((Tr.node (FLab.mk ch (wr (IntKind.wrap .u8 ((fch text (wr (r.pos + 1))) - 97)))) ([r_4.1] : (List (Tr FLab)))), r_4.2.pos, r_4.2.deep, r_4.2.cnt, ar) h (by kernel_rfl) (by rfl) rfl
theorem en150 : ∀ args w, (callFunc 150 args).run Try.prog w = .ok (.enter 150 args) w := enters_of Try.func150 (by kernel_rfl) rfl
def fLop_vc (k : Nat) (text : ByteArray) (pos : Int) (deep : Int) (cnt : Int) (ar : (List FixName)) (ch : Int) (Q : (Tr FLab) × Int × Int × Int × (List FixName) → Prop) (P : Prop) : Prop :=
 IfP ((ar.length : Int) == 3) (((7 : Int) ≠ 0) ∧
 P) ((gF text ⟨pos, deep, cnt⟩ ∧ text.size ≤ 4000) ∧
 ((fcnt ⟨pos, deep, cnt⟩) = none → P) ∧ ∀ r, (fcnt ⟨pos, deep, cnt⟩) = some r →
 ((0 ≤ (wr ((r.pos) + 1))) ∧
 IfP ((decide ((fch text (wr ((r.pos) + 1))) < 88)) || (decide ((fch text (wr ((r.pos) + 1))) > 90))) (((4 : Int) ≠ 0) ∧
 P) ((gF text ⟨(wr (((wr ((r.pos) + 1))) + 1)), ((r.deep)), ((r.cnt))⟩ ∧ text.size ≤ 4000 ∧ (46 : Int) ≠ 0) ∧
 ((fwant 46 text ⟨(wr (((wr ((r.pos) + 1))) + 1)), ((r.deep)), ((r.cnt))⟩) = none → P) ∧ ∀ r_2, (fwant 46 text ⟨(wr (((wr ((r.pos) + 1))) + 1)), ((r.deep)), ((r.cnt))⟩) = some r_2 →
 (capOk (((ar))).length (([(FixName.mk (fch text (wr ((r.pos) + 1))) false)] : (List FixName)) : (List FixName)).length 2 ∧
 (fOk k 0 text ((((ar))) ++ ([(FixName.mk (fch text (wr ((r.pos) + 1))) false)] : (List FixName))) ⟨(r_2.pos), (r_2.deep), (r_2.cnt)⟩) ∧
 ((pF text k 0 ((((ar))) ++ ([(FixName.mk (fch text (wr ((r.pos) + 1))) false)] : (List FixName))) ⟨(r_2.pos), (r_2.deep), (r_2.cnt)⟩) = none → P) ∧ ∀ r_3, (pF text k 0 ((((ar))) ++ ([(FixName.mk (fch text (wr ((r.pos) + 1))) false)] : (List FixName))) ⟨(r_2.pos), (r_2.deep), (r_2.cnt)⟩) = some r_3 →
 ((0 ≤ (wr (((((((ar))) ++ ([(FixName.mk (fch text (wr ((r.pos) + 1))) false)] : (List FixName)))).length : Int) - 1)) ∧ (wr (((((((ar))) ++ ([(FixName.mk (fch text (wr ((r.pos) + 1))) false)] : (List FixName)))).length : Int) - 1)) ≤ ((((((ar))) ++ ([(FixName.mk (fch text (wr ((r.pos) + 1))) false)] : (List FixName)))).length : Int)) ∧
 Q ((Tr.node (FLab.mk ch (((((((ar))) ++ ([(FixName.mk (fch text (wr ((r.pos) + 1))) false)] : (List FixName)))).take ((wr (((((((ar))) ++ ([(FixName.mk (fch text (wr ((r.pos) + 1))) false)] : (List FixName)))).length : Int) - 1)) : Int).toNat).length : Int)) ([(r_3.1)] : (List (Tr FLab)))), (r_3.2.pos), (r_3.2.deep), (r_3.2.cnt), ((((((ar))) ++ ([(FixName.mk (fch text (wr ((r.pos) + 1))) false)] : (List FixName)))).take ((wr (((((((ar))) ++ ([(FixName.mk (fch text (wr ((r.pos) + 1))) false)] : (List FixName)))).length : Int) - 1)) : Int).toNat)))))))
noncomputable abbrev qfLop0 (text : ByteArray) (y0 : Int) (y1 : Int) (y2 : Int) := (.box [.v (.string text), I y0, I y1, I y2, .own 1] 144 false : Item)
noncomputable abbrev qfLop1 (y0 : Nat → Nat) := sl 0 (.pptr 0 0 (y0 0))
noncomputable abbrev qfLop2 (ch : Int) := sl 1 (.v (.int .u8 ch))
noncomputable abbrev qfLop3 (y0) := sl 6 (.rd (trR fLab y0))
noncomputable abbrev qfLop4 := (List FixName)
noncomputable abbrev qfLop5 := sl 56 (.ptr 0 0)
noncomputable abbrev qfLop6 (text : ByteArray) (pos : Int) (deep : Int) (cnt : Int) (ar : (List FixName)) := ([.box [.v (.string text), I pos, I deep, I cnt, .own 1] 144 false, rowI 236 FixName.ty ar] : List Item)
set_option maxHeartbeats 2000000 in
theorem fLop_walk (k : Nat) (text : ByteArray) (pos : Int) (deep : Int) (cnt : Int) (ar : (List FixName)) (ch : Int) (ih : FC k) (Q : (Tr FLab) × Int × Int × Int × (List FixName) → Prop) (P : Prop) (h : fLop_vc k text pos deep cnt ar ch Q P) : CtP 151 [.sv (.one (.ptr 0 0)), .sv (.one (.v (.int .u8 ch)))] [.box [.v (.string text), I pos, I deep, I cnt, .own 1] 144 false, rowI 236 FixName.ty ar] [0] Q (fun (r : (Tr FLab) × Int × Int × Int × (List FixName)) => .sv (.one (.rd (trR fLab r.1)))) (fun (r : (Tr FLab) × Int × Int × Int × (List FixName)) => [.box [.v (.string text), I r.2.1, I r.2.2.1, I r.2.2.2.1, .own 1] 144 false, rowI 236 FixName.ty r.2.2.2.2]) (psStop 140) P := by
 have ht := tab_ok
 refine CtP.body Try.func151 rfl rfl rfl (by kernel_rfl) (by kernel_rfl) (fun c Bk hn hpan => ?_)
 unfold fLop_vc at h
 show En c ⟨[(qfLop1 Bk), (qfLop2 ch)], (qfLop6 text pos deep cnt ar)⟩ _
 refine En.sr ?_
 refine WL.rn ht hn 1 ⟨[(qfLop1 Bk), (qfLop2 ch)], (qfLop6 text pos deep cnt ar)⟩ ?_
 refine En.seq ?_
 refine En.sr ?_
 refine WL.rn ht hn 6 ⟨[(qfLop1 Bk), (qfLop2 ch), sl 12 (B ((ar.length : Int) == 3))], (qfLop6 text pos deep cnt ar)⟩ ?_
 refine En.cd (b := ((ar.length : Int) == 3)) (fun hb => ?_) (fun hb => ?_)
 replace h := h.1 hb
 refine En.region ?_
 refine WL.r ht hn 1 ⟨[(qfLop1 Bk), (qfLop2 ch), sl 13 (.ptr 0 0)], (qfLop6 text pos deep cnt ar)⟩ ?_
 obtain ⟨hp, h⟩ := h
 exact WL.cX (fFail_ct text pos deep cnt ar 7 hp) en75 [0, 1] rfl (leftX hpan h)
 replace h := h.2 hb
 refine En.skip ?_
 refine En.sr ?_
 refine WL.r ht hn 1 ⟨[(qfLop1 Bk), (qfLop2 ch), sl 15 (.ptr 0 0)], (qfLop6 text pos deep cnt ar)⟩ ?_
 obtain ⟨hp, h⟩ := h
 refine splitO (fcnt ⟨pos, deep, cnt⟩) (fun hr_2 => ?_) (fun r hr_2 => ?_)
 exact WL.cX (fCnt_bad text pos deep cnt ar hp hr_2) en111 [0, 1] rfl (leftX hpan (h.1 hr_2))
 replace h := h.2 r hr_2
 refine WL.cE (fCnt_ok text pos deep cnt ar hp r hr_2) en111 [0, 1] hn rfl ?_
 refine WL.nil ?_
 refine En.sr ?_
 refine WL.rn ht hn 8 ⟨[(qfLop1 Bk), (qfLop2 ch)], [.box [.v (.string text), I (wr (r.pos + 1)), I r.deep, I r.cnt, .own 1] 144 false, rowI 236 FixName.ty ar]⟩ ?_
 refine En.sr ?_
 refine WL.r ht hn 1 ⟨[(qfLop1 Bk), (qfLop2 ch), sl 24 (.ptr 0 0)], [.box [.v (.string text), I (wr (r.pos + 1)), I r.deep, I r.cnt, .own 1] 144 false, rowI 236 FixName.ty ar]⟩ ?_
 obtain ⟨hp, h⟩ := h
 refine WL.cE (fNow_ct text (wr (r.pos + 1)) r.deep r.cnt ar hp) en110 [0, 1] hn rfl ?_
 refine WL.rn ht hn 1 ⟨[(qfLop1 Bk), (qfLop2 ch), sl 5 (.v (.int .u8 (fch text (wr (r.pos + 1)))))], [.box [.v (.string text), I (wr (r.pos + 1)), I r.deep, I r.cnt, .own 1] 144 false, rowI 236 FixName.ty ar]⟩ ?_
 refine En.seq ?_
 refine En.sr ?_
 refine WL.r ht hn 3 ⟨[(qfLop1 Bk), (qfLop2 ch), sl 5 (.v (.int .u8 (fch text (wr (r.pos + 1))))), sl 28 (B (decide ((fch text (wr (r.pos + 1))) < 88)))], [.box [.v (.string text), I (wr (r.pos + 1)), I r.deep, I r.cnt, .own 1] 144 false, rowI 236 FixName.ty ar]⟩ ?_
 refine WL.thru ⟨[(qfLop1 Bk), (qfLop2 ch), sl 5 (.v (.int .u8 (fch text (wr (r.pos + 1))))), sl 31 (B ((decide ((fch text (wr (r.pos + 1))) < 88)) || (decide ((fch text (wr (r.pos + 1))) > 90))))], [.box [.v (.string text), I (wr (r.pos + 1)), I r.deep, I r.cnt, .own 1] 144 false, rowI 236 FixName.ty ar]⟩ ?_ ?_
 refine splitB (decide ((fch text (wr (r.pos + 1))) < 88)) (fun hb0 => ?_) (fun hb0 => ?_)
 refine WL.sB 28 hb0 ?_
 refine WL.r ht hn 3 ⟨[(qfLop1 Bk), (qfLop2 ch), sl 5 (.v (.int .u8 (fch text (wr (r.pos + 1))))), sl 31 (B true)], [.box [.v (.string text), I (wr (r.pos + 1)), I r.deep, I r.cnt, .own 1] 144 false, rowI 236 FixName.ty ar]⟩ ?_
 exact WL.nil (sub_ok (by simp only [hb0]; kernel_rfl))
 refine WL.sB 28 hb0 ?_
 refine WL.r ht hn 3 ⟨[(qfLop1 Bk), (qfLop2 ch), sl 5 (.v (.int .u8 (fch text (wr (r.pos + 1))))), sl 31 (B (decide ((fch text (wr (r.pos + 1))) > 90)))], [.box [.v (.string text), I (wr (r.pos + 1)), I r.deep, I r.cnt, .own 1] 144 false, rowI 236 FixName.ty ar]⟩ ?_
 exact WL.nil (sub_ok (by simp only [hb0]; kernel_rfl))
 refine En.cd (b := ((decide ((fch text (wr (r.pos + 1))) < 88)) || (decide ((fch text (wr (r.pos + 1))) > 90)))) (fun hb => ?_) (fun hb => ?_)
 replace h := h.1 hb
 refine En.region ?_
 refine WL.r ht hn 1 ⟨[(qfLop1 Bk), (qfLop2 ch), sl 5 (.v (.int .u8 (fch text (wr (r.pos + 1))))), sl 32 (.ptr 0 0)], [.box [.v (.string text), I (wr (r.pos + 1)), I r.deep, I r.cnt, .own 1] 144 false, rowI 236 FixName.ty ar]⟩ ?_
 obtain ⟨hp, h⟩ := h
 exact WL.cX (fFail_ct text (wr (r.pos + 1)) r.deep r.cnt ar 4 hp) en75 [0, 1] rfl (leftX hpan h)
 replace h := h.2 hb
 refine En.skip ?_
 refine En.sr ?_
 refine WL.rn ht hn 8 ⟨[(qfLop1 Bk), (qfLop2 ch), sl 5 (.v (.int .u8 (fch text (wr (r.pos + 1)))))], [.box [.v (.string text), I (wr ((wr (r.pos + 1)) + 1)), I r.deep, I r.cnt, .own 1] 144 false, rowI 236 FixName.ty ar]⟩ ?_
 refine En.sr ?_
 refine WL.r ht hn 1 ⟨[(qfLop1 Bk), (qfLop2 ch), sl 5 (.v (.int .u8 (fch text (wr (r.pos + 1))))), sl 41 (.ptr 0 0)], [.box [.v (.string text), I (wr ((wr (r.pos + 1)) + 1)), I r.deep, I r.cnt, .own 1] 144 false, rowI 236 FixName.ty ar]⟩ ?_
 obtain ⟨hp, h⟩ := h
 refine splitO (fwant 46 text ⟨(wr ((wr (r.pos + 1)) + 1)), r.deep, r.cnt⟩) (fun hr_3 => ?_) (fun r_2 hr_3 => ?_)
 exact WL.cX (fWnt_bad text (wr ((wr (r.pos + 1)) + 1)) r.deep r.cnt ar 46 hp hr_3) en153 [0, 1] rfl (leftX hpan (h.1 hr_3))
 replace h := h.2 r_2 hr_3
 refine WL.cE (fWnt_ok text (wr ((wr (r.pos + 1)) + 1)) r.deep r.cnt ar 46 hp r_2 hr_3) en153 [0, 1] hn rfl ?_
 refine WL.nil ?_
 refine En.sr ?_
 refine WL.r ht hn 7 ⟨[(qfLop1 Bk), (qfLop2 ch), sl 43 (.ptr 0 0), sl 47 (.own 1), (49, .sv (.agg [.v (.int .u8 (fch text (wr (r.pos + 1)))), B false]))], [.box [.v (.string text), I r_2.pos, I r_2.deep, I r_2.cnt, .own 1] 144 false, rowI 236 FixName.ty ar]⟩ ?_
 refine WL.mt0 (K := []) (p := some (2, rowI 236 FixName.ty ([(FixName.mk (fch text (wr (r.pos + 1))) false)] : (qfLop4)))) hn (by rfl) (mt_lit (T := FixName.ty) ([(FixName.mk (fch text (wr (r.pos + 1))) false)] : (qfLop4)) (mt_bsl 2 (r := cellsOf FixName.ty ([(FixName.mk (fch text (wr (r.pos + 1))) false)] : (qfLop4))) ht rfl (by rfl) (by rfl) (by rfl) (by kernel_rfl) (by rfl)) (fun _ h => by cases h) (fun _ => rfl) (fun _ => rfl) (by rfl) (Nat.le_of_ble_eq_true rfl)) (by rfl) (by rfl) (by rfl) ?_
 refine WL.seal (T := FixName.ty) (l := ([(FixName.mk (fch text (wr (r.pos + 1))) false)] : (qfLop4))) (e := 236) 2 rfl ?_
 refine WL.r ht hn 0 ⟨[(qfLop1 Bk), (qfLop2 ch), sl 43 (.ptr 0 0), sl 47 (.own 1), (49, .sv (.agg [.v (.int .u8 (fch text (wr (r.pos + 1)))), B false])), sl 50 (LS FixName.ty ([(FixName.mk (fch text (wr (r.pos + 1))) false)] : (qfLop4)))], [.box [.v (.string text), I r_2.pos, I r_2.deep, I r_2.cnt, .own 1] 144 false, rowI 236 FixName.ty ar, .gone]⟩ ?_
 refine WL.junk 0 4 (by rfl) ?_
 obtain ⟨hp, h⟩ := h
 refine WL.mt (S2 := ⟨[(qfLop1 Bk), (qfLop2 ch), sl 43 (.ptr 0 0), (49, .sv (.agg [.v (.int .u8 (fch text (wr (r.pos + 1)))), B false])), sl 50 (LS FixName.ty ([(FixName.mk (fch text (wr (r.pos + 1))) false)] : (qfLop4)))], [.box [.v (.string text), I r_2.pos, I r_2.deep, I r_2.cnt, .junk] 144 false, rowI 236 FixName.ty ar, .gone]⟩) (K := [1]) (p := some (1, rowI 236 FixName.ty (ar ++ ([(FixName.mk (fch text (wr (r.pos + 1))) false)] : (qfLop4))))) hn (by rfl) (mt_append (T := FixName.ty) (l := ar) (es := ([(FixName.mk (fch text (wr (r.pos + 1))) false)] : (qfLop4))) ht rfl (by rfl) (by rfl) (by rfl) (by rfl) (by decide) (by rfl) (by rfl) (srcLS (T := FixName.ty) (es := ([(FixName.mk (fch text (wr (r.pos + 1))) false)] : (qfLop4))) (fun _ h => by cases h) (by decide) (by rfl)) (by exact hp) (by exact hp.le (by decide))) (by kernel_rfl) (by rfl) (by rfl) (by rfl) ?_
 refine WL.rn ht hn 3 ⟨[(qfLop1 Bk), (qfLop2 ch)], [.box [.v (.string text), I r_2.pos, I r_2.deep, I r_2.cnt, .own 1] 144 false, rowI 236 FixName.ty (ar ++ ([(FixName.mk (fch text (wr (r.pos + 1))) false)] : (qfLop4))), .gone]⟩ ?_
 refine En.sr ?_
 refine WL.r ht hn 1 ⟨[(qfLop1 Bk), (qfLop2 ch), sl 54 (.ptr 0 0)], [.box [.v (.string text), I r_2.pos, I r_2.deep, I r_2.cnt, .own 1] 144 false, rowI 236 FixName.ty (ar ++ ([(FixName.mk (fch text (wr (r.pos + 1))) false)] : (qfLop4))), .gone]⟩ ?_
 obtain ⟨hp, h⟩ := h
 refine splitO (pF text k 0 (ar ++ ([(FixName.mk (fch text (wr (r.pos + 1))) false)] : (qfLop4))) ⟨r_2.pos, r_2.deep, r_2.cnt⟩) (fun hr_4 => ?_) (fun r_3 hr_4 => ?_)
 exact WL.cX (fI0_bad k ih text r_2.pos r_2.deep r_2.cnt (ar ++ ([(FixName.mk (fch text (wr (r.pos + 1))) false)] : (qfLop4))) hp hr_4) en136 [0, 1] rfl (leftX hpan (h.1 hr_4))
 replace h := h.2 r_3 hr_4
 refine WL.cE (fI0_ok k ih text r_2.pos r_2.deep r_2.cnt (ar ++ ([(FixName.mk (fch text (wr (r.pos + 1))) false)] : (qfLop4))) hp r_3 hr_4) en136 [0, 1] hn rfl ?_
 refine WL.rn ht hn 1 ⟨[(qfLop1 Bk), (qfLop2 ch), (qfLop3 r_3.1)], [(qfLop0 text r_3.2.pos r_3.2.deep r_3.2.cnt), rowI 236 FixName.ty (ar ++ ([(FixName.mk (fch text (wr (r.pos + 1))) false)] : (qfLop4))), .gone]⟩ ?_
 refine En.seq ?_
 obtain ⟨hp_2, h⟩ := h
 refine En.regionD ⟨[(qfLop1 Bk), (qfLop2 ch), (qfLop3 r_3.1)], [(qfLop0 text r_3.2.pos r_3.2.deep r_3.2.cnt), rowI 236 FixName.ty ((ar ++ ([(FixName.mk (fch text (wr (r.pos + 1))) false)] : (qfLop4))).take ((wr (((ar ++ ([(FixName.mk (fch text (wr (r.pos + 1))) false)] : (qfLop4))).length : Int) - 1)) : Int).toNat), .gone]⟩ (by kernel_rfl) ?_ ?_
 intro N' hF
 refine RD.have 0 #[true, true, true, true, true, true, true, true, true, true, true, true, true, true, true] ⟨[(qfLop1 Bk), (qfLop2 ch), (qfLop3 r_3.1)], [(qfLop0 text r_3.2.pos r_3.2.deep r_3.2.cnt), rowI 236 FixName.ty ((ar ++ ([(FixName.mk (fch text (wr (r.pos + 1))) false)] : (qfLop4))).take ((wr (((ar ++ ([(FixName.mk (fch text (wr (r.pos + 1))) false)] : (qfLop4))).length : Int) - 1)) : Int).toNat), .gone]⟩ (RD.nil (by kernel_rfl) hF) (fun rd74 => ?_)
 refine RD.have 1 #[true, true, true, true, true, true, true, true, true, true, true, true, true, true, false] ⟨[(qfLop1 Bk), (qfLop2 ch), (qfLop3 r_3.1), sl 67 (.own 1), sl 69 (.ptr 0 4)], [.box [.v (.string text), I r_3.2.pos, I r_3.2.deep, I r_3.2.cnt, .junk] 144 false, rowI 236 FixName.ty ((ar ++ ([(FixName.mk (fch text (wr (r.pos + 1))) false)] : (qfLop4))).take ((wr (((ar ++ ([(FixName.mk (fch text (wr (r.pos + 1))) false)] : (qfLop4))).length : Int) - 1)) : Int).toNat), .gone]⟩ ?_ (fun rd73 => ?_)
 refine RD.succ [14] (by kernel_rfl) rfl ⟨⟨_, _, _, rfl, ?_, rfl, rd74⟩, trivial⟩
 exact WL.rI ht hn
 refine RD.have 2 #[true, true, true, true, true, true, true, true, true, true, true, true, true, false, false] ⟨[(qfLop1 Bk), (qfLop2 ch), (qfLop3 r_3.1), sl 67 (.own 1), sl 68 (.ptr 0 0)], [.box [.v (.string text), I r_3.2.pos, I r_3.2.deep, I r_3.2.cnt, .junk] 144 false, rowI 236 FixName.ty ((ar ++ ([(FixName.mk (fch text (wr (r.pos + 1))) false)] : (qfLop4))).take ((wr (((ar ++ ([(FixName.mk (fch text (wr (r.pos + 1))) false)] : (qfLop4))).length : Int) - 1)) : Int).toNat), .gone]⟩ ?_ (fun rd72 => ?_)
 refine RD.succ [13] (by kernel_rfl) rfl ⟨⟨_, _, _, rfl, ?_, rfl, rd73⟩, trivial⟩
 exact WL.rI ht hn
 refine RD.have 3 #[true, true, true, true, true, true, true, true, true, true, true, true, false, false, false] ⟨[(qfLop1 Bk), (qfLop2 ch), (qfLop3 r_3.1), (qfLop5), sl 67 (.own 1)], [.box [.v (.string text), I r_3.2.pos, I r_3.2.deep, I r_3.2.cnt, .junk] 144 false, rowI 236 FixName.ty ((ar ++ ([(FixName.mk (fch text (wr (r.pos + 1))) false)] : (qfLop4))).take ((wr (((ar ++ ([(FixName.mk (fch text (wr (r.pos + 1))) false)] : (qfLop4))).length : Int) - 1)) : Int).toNat), .gone]⟩ ?_ (fun rd71 => ?_)
 refine RD.succ [12] (by kernel_rfl) rfl ⟨⟨_, _, _, rfl, ?_, rfl, rd72⟩, trivial⟩
 exact WL.rI ht hn
 refine RD.have 4 #[false, true, true, true, true, true, true, true, true, true, true, true, false, false, false] ⟨[(qfLop1 Bk), (qfLop2 ch), (qfLop3 r_3.1), sl 67 (.own 1)], [.box [.v (.string text), I r_3.2.pos, I r_3.2.deep, I r_3.2.cnt, .junk] 144 false, rowI 236 FixName.ty ((ar ++ ([(FixName.mk (fch text (wr (r.pos + 1))) false)] : (qfLop4))).take ((wr (((ar ++ ([(FixName.mk (fch text (wr (r.pos + 1))) false)] : (qfLop4))).length : Int) - 1)) : Int).toNat), .gone]⟩ ?_ (fun rd70 => ?_)
 refine RD.succ [0] (by kernel_rfl) rfl ⟨⟨_, _, _, rfl, ?_, rfl, rd71⟩, trivial⟩
 exact WL.rI ht hn
 refine RD.have 4 #[true, true, true, true, true, true, true, true, true, true, true, false, false, false, false] ⟨[(qfLop1 Bk), (qfLop2 ch), (qfLop3 r_3.1), (qfLop5), sl 60 (.own 1), sl 66 (I (wr (((ar ++ ([(FixName.mk (fch text (wr (r.pos + 1))) false)] : (qfLop4))).length : Int) - 1)))], [(qfLop0 text r_3.2.pos r_3.2.deep r_3.2.cnt), rowI 236 FixName.ty (ar ++ ([(FixName.mk (fch text (wr (r.pos + 1))) false)] : (qfLop4))), .gone]⟩ ?_ (fun rd69 => ?_)
 refine RD.succ [11] (by kernel_rfl) rfl ⟨⟨_, _, _, rfl, ?_, rfl, rd71⟩, trivial⟩
 refine WL.junk 0 4 (by rfl) ?_
 refine WL.mt (S2 := ⟨[(qfLop1 Bk), (qfLop2 ch), (qfLop3 r_3.1), (qfLop5), sl 66 (I (wr (((ar ++ ([(FixName.mk (fch text (wr (r.pos + 1))) false)] : (qfLop4))).length : Int) - 1)))], [.box [.v (.string text), I r_3.2.pos, I r_3.2.deep, I r_3.2.cnt, .junk] 144 false, rowI 236 FixName.ty (ar ++ ([(FixName.mk (fch text (wr (r.pos + 1))) false)] : (qfLop4))), .gone]⟩) (K := [1]) (p := some (1, rowI 236 FixName.ty ((ar ++ ([(FixName.mk (fch text (wr (r.pos + 1))) false)] : (qfLop4))).take ((wr (((ar ++ ([(FixName.mk (fch text (wr (r.pos + 1))) false)] : (qfLop4))).length : Int) - 1)) : Int).toNat))) hn (by rfl) (mt_sliceO (T := FixName.ty) (l := (ar ++ ([(FixName.mk (fch text (wr (r.pos + 1))) false)] : (qfLop4)))) (p := 1) (hv := (wr (((ar ++ ([(FixName.mk (fch text (wr (r.pos + 1))) false)] : (qfLop4))).length : Int) - 1))) ht rfl (by rfl) (by rfl) (by rfl) (by rfl) (by rfl) (by rfl) (by rfl) hp_2) (by kernel_rfl) (by rfl) (by rfl) (by rfl) ?_
 refine WL.nil ?_
 exact sub_ok (by kernel_rfl)
 refine RD.have 5 #[false, true, true, true, true, true, true, true, true, true, true, false, false, false, false] ⟨[(qfLop1 Bk), (qfLop2 ch), (qfLop3 r_3.1), sl 60 (.own 1), sl 66 (I (wr (((ar ++ ([(FixName.mk (fch text (wr (r.pos + 1))) false)] : (qfLop4))).length : Int) - 1)))], [(qfLop0 text r_3.2.pos r_3.2.deep r_3.2.cnt), rowI 236 FixName.ty (ar ++ ([(FixName.mk (fch text (wr (r.pos + 1))) false)] : (qfLop4))), .gone]⟩ ?_ (fun rd68 => ?_)
 refine RD.succ [0, 11] (by kernel_rfl) rfl ⟨⟨_, _, _, rfl, ?_, rfl, rd69⟩, ⟨_, _, _, rfl, ?_, rfl, rd70⟩, trivial⟩
 exact WL.rI ht hn
 refine WL.junk 0 4 (by rfl) ?_
 refine WL.mt (S2 := ⟨[(qfLop1 Bk), (qfLop2 ch), (qfLop3 r_3.1), sl 66 (I (wr (((ar ++ ([(FixName.mk (fch text (wr (r.pos + 1))) false)] : (qfLop4))).length : Int) - 1)))], [.box [.v (.string text), I r_3.2.pos, I r_3.2.deep, I r_3.2.cnt, .junk] 144 false, rowI 236 FixName.ty (ar ++ ([(FixName.mk (fch text (wr (r.pos + 1))) false)] : (qfLop4))), .gone]⟩) (K := [1]) (p := some (1, rowI 236 FixName.ty ((ar ++ ([(FixName.mk (fch text (wr (r.pos + 1))) false)] : (qfLop4))).take ((wr (((ar ++ ([(FixName.mk (fch text (wr (r.pos + 1))) false)] : (qfLop4))).length : Int) - 1)) : Int).toNat))) hn (by rfl) (mt_sliceO (T := FixName.ty) (l := (ar ++ ([(FixName.mk (fch text (wr (r.pos + 1))) false)] : (qfLop4)))) (p := 1) (hv := (wr (((ar ++ ([(FixName.mk (fch text (wr (r.pos + 1))) false)] : (qfLop4))).length : Int) - 1))) ht rfl (by rfl) (by rfl) (by rfl) (by rfl) (by rfl) (by rfl) (by rfl) hp_2) (by kernel_rfl) (by rfl) (by rfl) (by rfl) ?_
 refine WL.nil ?_
 exact sub_ok (by kernel_rfl)
 refine RD.have 5 #[true, true, true, true, false, true, true, true, true, true, true, false, false, false, false] ⟨[(qfLop1 Bk), (qfLop2 ch), (qfLop3 r_3.1), (qfLop5), sl 59 (.ptr 0 4), sl 66 (I (wr (((ar ++ ([(FixName.mk (fch text (wr (r.pos + 1))) false)] : (qfLop4))).length : Int) - 1)))], [(qfLop0 text r_3.2.pos r_3.2.deep r_3.2.cnt), rowI 236 FixName.ty (ar ++ ([(FixName.mk (fch text (wr (r.pos + 1))) false)] : (qfLop4))), .gone]⟩ ?_ (fun rd67 => ?_)
 refine RD.succ [4] (by kernel_rfl) rfl ⟨⟨_, _, _, rfl, ?_, rfl, rd69⟩, trivial⟩
 exact WL.rI ht hn
 refine RD.have 5 #[true, true, true, true, true, true, true, true, true, true, false, false, false, false, false] ⟨[(qfLop1 Bk), (qfLop2 ch), (qfLop3 r_3.1), (qfLop5), sl 60 (.own 1), sl 65 (I ((ar ++ ([(FixName.mk (fch text (wr (r.pos + 1))) false)] : (qfLop4))).length : Int))], [(qfLop0 text r_3.2.pos r_3.2.deep r_3.2.cnt), rowI 236 FixName.ty (ar ++ ([(FixName.mk (fch text (wr (r.pos + 1))) false)] : (qfLop4))), .gone]⟩ ?_ (fun rd66 => ?_)
 refine RD.succ [10] (by kernel_rfl) rfl ⟨⟨_, _, _, rfl, ?_, rfl, rd69⟩, trivial⟩
 exact WL.rI ht hn
 refine RD.have 6 #[false, true, true, true, false, true, true, true, true, true, true, false, false, false, false] ⟨[(qfLop1 Bk), (qfLop2 ch), (qfLop3 r_3.1), sl 59 (.ptr 0 4), sl 66 (I (wr (((ar ++ ([(FixName.mk (fch text (wr (r.pos + 1))) false)] : (qfLop4))).length : Int) - 1)))], [(qfLop0 text r_3.2.pos r_3.2.deep r_3.2.cnt), rowI 236 FixName.ty (ar ++ ([(FixName.mk (fch text (wr (r.pos + 1))) false)] : (qfLop4))), .gone]⟩ ?_ (fun rd65 => ?_)
 refine RD.succ [0, 4] (by kernel_rfl) rfl ⟨⟨_, _, _, rfl, ?_, rfl, rd67⟩, ⟨_, _, _, rfl, ?_, rfl, rd68⟩, trivial⟩
 exact WL.rI ht hn
 exact WL.rI ht hn
 refine RD.have 6 #[false, true, true, true, true, true, true, true, true, true, false, false, false, false, false] ⟨[(qfLop1 Bk), (qfLop2 ch), (qfLop3 r_3.1), sl 60 (.own 1), sl 65 (I ((ar ++ ([(FixName.mk (fch text (wr (r.pos + 1))) false)] : (qfLop4))).length : Int))], [(qfLop0 text r_3.2.pos r_3.2.deep r_3.2.cnt), rowI 236 FixName.ty (ar ++ ([(FixName.mk (fch text (wr (r.pos + 1))) false)] : (qfLop4))), .gone]⟩ ?_ (fun rd64 => ?_)
 refine RD.succ [0, 10] (by kernel_rfl) rfl ⟨⟨_, _, _, rfl, ?_, rfl, rd66⟩, ⟨_, _, _, rfl, ?_, rfl, rd68⟩, trivial⟩
 exact WL.rI ht hn
 exact WL.rI ht hn
 refine RD.have 6 #[true, true, true, false, false, true, true, true, true, true, true, false, false, false, false] ⟨[(qfLop1 Bk), (qfLop2 ch), (qfLop3 r_3.1), (qfLop5), sl 58 (.ptr 0 0), sl 66 (I (wr (((ar ++ ([(FixName.mk (fch text (wr (r.pos + 1))) false)] : (qfLop4))).length : Int) - 1)))], [(qfLop0 text r_3.2.pos r_3.2.deep r_3.2.cnt), rowI 236 FixName.ty (ar ++ ([(FixName.mk (fch text (wr (r.pos + 1))) false)] : (qfLop4))), .gone]⟩ ?_ (fun rd63 => ?_)
 refine RD.succ [3] (by kernel_rfl) rfl ⟨⟨_, _, _, rfl, ?_, rfl, rd67⟩, trivial⟩
 exact WL.rI ht hn
 refine RD.have 6 #[true, true, true, true, false, true, true, true, true, true, false, false, false, false, false] ⟨[(qfLop1 Bk), (qfLop2 ch), (qfLop3 r_3.1), (qfLop5), sl 59 (.ptr 0 4), sl 65 (I ((ar ++ ([(FixName.mk (fch text (wr (r.pos + 1))) false)] : (qfLop4))).length : Int))], [(qfLop0 text r_3.2.pos r_3.2.deep r_3.2.cnt), rowI 236 FixName.ty (ar ++ ([(FixName.mk (fch text (wr (r.pos + 1))) false)] : (qfLop4))), .gone]⟩ ?_ (fun rd62 => ?_)
 refine RD.succ [4, 10] (by kernel_rfl) rfl ⟨⟨_, _, _, rfl, ?_, rfl, rd66⟩, ⟨_, _, _, rfl, ?_, rfl, rd67⟩, trivial⟩
 exact WL.rI ht hn
 exact WL.rI ht hn
 refine RD.have 6 #[true, true, true, true, true, true, true, true, true, false, false, false, false, false, false] ⟨[(qfLop1 Bk), (qfLop2 ch), (qfLop3 r_3.1), (qfLop5), sl 60 (.own 1), sl 64 (.own 1)], [(qfLop0 text r_3.2.pos r_3.2.deep r_3.2.cnt), rowI 236 FixName.ty (ar ++ ([(FixName.mk (fch text (wr (r.pos + 1))) false)] : (qfLop4))), .gone]⟩ ?_ (fun rd61 => ?_)
 refine RD.succ [9] (by kernel_rfl) rfl ⟨⟨_, _, _, rfl, ?_, rfl, rd66⟩, trivial⟩
 exact WL.rI ht hn
 refine RD.have 7 #[false, true, true, false, false, true, true, true, true, true, true, false, false, false, false] ⟨[(qfLop1 Bk), (qfLop2 ch), (qfLop3 r_3.1), sl 58 (.ptr 0 0), sl 66 (I (wr (((ar ++ ([(FixName.mk (fch text (wr (r.pos + 1))) false)] : (qfLop4))).length : Int) - 1)))], [(qfLop0 text r_3.2.pos r_3.2.deep r_3.2.cnt), rowI 236 FixName.ty (ar ++ ([(FixName.mk (fch text (wr (r.pos + 1))) false)] : (qfLop4))), .gone]⟩ ?_ (fun rd60 => ?_)
 refine RD.succ [0, 3] (by kernel_rfl) rfl ⟨⟨_, _, _, rfl, ?_, rfl, rd63⟩, ⟨_, _, _, rfl, ?_, rfl, rd65⟩, trivial⟩
 exact WL.rI ht hn
 exact WL.rI ht hn
 refine RD.have 7 #[false, true, true, true, false, true, true, true, true, true, false, false, false, false, false] ⟨[(qfLop1 Bk), (qfLop2 ch), (qfLop3 r_3.1), sl 59 (.ptr 0 4), sl 65 (I ((ar ++ ([(FixName.mk (fch text (wr (r.pos + 1))) false)] : (qfLop4))).length : Int))], [(qfLop0 text r_3.2.pos r_3.2.deep r_3.2.cnt), rowI 236 FixName.ty (ar ++ ([(FixName.mk (fch text (wr (r.pos + 1))) false)] : (qfLop4))), .gone]⟩ ?_ (fun rd59 => ?_)
 refine RD.succ [0, 4, 10] (by kernel_rfl) rfl ⟨⟨_, _, _, rfl, ?_, rfl, rd62⟩, ⟨_, _, _, rfl, ?_, rfl, rd64⟩, ⟨_, _, _, rfl, ?_, rfl, rd65⟩, trivial⟩
 exact WL.rI ht hn
 exact WL.rI ht hn
 exact WL.rI ht hn
 refine RD.have 7 #[false, true, true, true, true, true, true, true, true, false, false, false, false, false, false] ⟨[(qfLop1 Bk), (qfLop2 ch), (qfLop3 r_3.1), sl 60 (.own 1), sl 64 (.own 1)], [(qfLop0 text r_3.2.pos r_3.2.deep r_3.2.cnt), rowI 236 FixName.ty (ar ++ ([(FixName.mk (fch text (wr (r.pos + 1))) false)] : (qfLop4))), .gone]⟩ ?_ (fun rd58 => ?_)
 refine RD.succ [0, 9] (by kernel_rfl) rfl ⟨⟨_, _, _, rfl, ?_, rfl, rd61⟩, ⟨_, _, _, rfl, ?_, rfl, rd64⟩, trivial⟩
 exact WL.rI ht hn
 exact WL.rI ht hn
 refine RD.have 7 #[true, true, false, false, false, true, true, true, true, true, true, false, false, false, false] ⟨[(qfLop1 Bk), (qfLop2 ch), (qfLop3 r_3.1), (qfLop5), sl 57 (.ptr 0 0), sl 66 (I (wr (((ar ++ ([(FixName.mk (fch text (wr (r.pos + 1))) false)] : (qfLop4))).length : Int) - 1)))], [(qfLop0 text r_3.2.pos r_3.2.deep r_3.2.cnt), rowI 236 FixName.ty (ar ++ ([(FixName.mk (fch text (wr (r.pos + 1))) false)] : (qfLop4))), .gone]⟩ ?_ (fun rd57 => ?_)
 refine RD.succ [2] (by kernel_rfl) rfl ⟨⟨_, _, _, rfl, ?_, rfl, rd63⟩, trivial⟩
 exact WL.rI ht hn
 refine RD.have 7 #[true, true, true, false, false, true, true, true, true, true, false, false, false, false, false] ⟨[(qfLop1 Bk), (qfLop2 ch), (qfLop3 r_3.1), (qfLop5), sl 58 (.ptr 0 0), sl 65 (I ((ar ++ ([(FixName.mk (fch text (wr (r.pos + 1))) false)] : (qfLop4))).length : Int))], [(qfLop0 text r_3.2.pos r_3.2.deep r_3.2.cnt), rowI 236 FixName.ty (ar ++ ([(FixName.mk (fch text (wr (r.pos + 1))) false)] : (qfLop4))), .gone]⟩ ?_ (fun rd56 => ?_)
 refine RD.succ [3, 10] (by kernel_rfl) rfl ⟨⟨_, _, _, rfl, ?_, rfl, rd62⟩, ⟨_, _, _, rfl, ?_, rfl, rd63⟩, trivial⟩
 exact WL.rI ht hn
 exact WL.rI ht hn
 refine RD.have 7 #[true, true, true, true, false, true, true, true, true, false, false, false, false, false, false] ⟨[(qfLop1 Bk), (qfLop2 ch), (qfLop3 r_3.1), (qfLop5), sl 59 (.ptr 0 4), sl 64 (.own 1)], [(qfLop0 text r_3.2.pos r_3.2.deep r_3.2.cnt), rowI 236 FixName.ty (ar ++ ([(FixName.mk (fch text (wr (r.pos + 1))) false)] : (qfLop4))), .gone]⟩ ?_ (fun rd55 => ?_)
 refine RD.succ [4, 9] (by kernel_rfl) rfl ⟨⟨_, _, _, rfl, ?_, rfl, rd61⟩, ⟨_, _, _, rfl, ?_, rfl, rd62⟩, trivial⟩
 exact WL.rI ht hn
 exact WL.rI ht hn
 refine RD.have 7 #[true, true, true, true, true, true, true, true, false, false, false, false, false, false, false] ⟨[(qfLop1 Bk), (qfLop2 ch), (qfLop3 r_3.1), (qfLop5), sl 60 (.own 1), sl 63 (.ptr 0 4)], [(qfLop0 text r_3.2.pos r_3.2.deep r_3.2.cnt), rowI 236 FixName.ty (ar ++ ([(FixName.mk (fch text (wr (r.pos + 1))) false)] : (qfLop4))), .gone]⟩ ?_ (fun rd54 => ?_)
 refine RD.succ [8] (by kernel_rfl) rfl ⟨⟨_, _, _, rfl, ?_, rfl, rd61⟩, trivial⟩
 exact WL.rI ht hn
 refine RD.have 8 #[false, true, false, false, false, true, true, true, true, true, true, false, false, false, false] ⟨[(qfLop1 Bk), (qfLop2 ch), (qfLop3 r_3.1), sl 57 (.ptr 0 0), sl 66 (I (wr (((ar ++ ([(FixName.mk (fch text (wr (r.pos + 1))) false)] : (qfLop4))).length : Int) - 1)))], [(qfLop0 text r_3.2.pos r_3.2.deep r_3.2.cnt), rowI 236 FixName.ty (ar ++ ([(FixName.mk (fch text (wr (r.pos + 1))) false)] : (qfLop4))), .gone]⟩ ?_ (fun rd53 => ?_)
 refine RD.succ [0, 2] (by kernel_rfl) rfl ⟨⟨_, _, _, rfl, ?_, rfl, rd57⟩, ⟨_, _, _, rfl, ?_, rfl, rd60⟩, trivial⟩
 exact WL.rI ht hn
 exact WL.rI ht hn
 refine RD.have 8 #[false, true, true, false, false, true, true, true, true, true, false, false, false, false, false] ⟨[(qfLop1 Bk), (qfLop2 ch), (qfLop3 r_3.1), sl 58 (.ptr 0 0), sl 65 (I ((ar ++ ([(FixName.mk (fch text (wr (r.pos + 1))) false)] : (qfLop4))).length : Int))], [(qfLop0 text r_3.2.pos r_3.2.deep r_3.2.cnt), rowI 236 FixName.ty (ar ++ ([(FixName.mk (fch text (wr (r.pos + 1))) false)] : (qfLop4))), .gone]⟩ ?_ (fun rd52 => ?_)
 refine RD.succ [0, 3, 10] (by kernel_rfl) rfl ⟨⟨_, _, _, rfl, ?_, rfl, rd56⟩, ⟨_, _, _, rfl, ?_, rfl, rd59⟩, ⟨_, _, _, rfl, ?_, rfl, rd60⟩, trivial⟩
 exact WL.rI ht hn
 exact WL.rI ht hn
 exact WL.rI ht hn
 refine RD.have 8 #[false, true, true, true, false, true, true, true, true, false, false, false, false, false, false] ⟨[(qfLop1 Bk), (qfLop2 ch), (qfLop3 r_3.1), sl 59 (.ptr 0 4), sl 64 (.own 1)], [(qfLop0 text r_3.2.pos r_3.2.deep r_3.2.cnt), rowI 236 FixName.ty (ar ++ ([(FixName.mk (fch text (wr (r.pos + 1))) false)] : (qfLop4))), .gone]⟩ ?_ (fun rd51 => ?_)
 refine RD.succ [0, 4, 9] (by kernel_rfl) rfl ⟨⟨_, _, _, rfl, ?_, rfl, rd55⟩, ⟨_, _, _, rfl, ?_, rfl, rd58⟩, ⟨_, _, _, rfl, ?_, rfl, rd59⟩, trivial⟩
 exact WL.rI ht hn
 exact WL.rI ht hn
 exact WL.rI ht hn
 refine RD.have 8 #[false, true, true, true, true, true, true, true, false, false, false, false, false, false, false] ⟨[(qfLop1 Bk), (qfLop2 ch), (qfLop3 r_3.1), sl 60 (.own 1), sl 63 (.ptr 0 4)], [(qfLop0 text r_3.2.pos r_3.2.deep r_3.2.cnt), rowI 236 FixName.ty (ar ++ ([(FixName.mk (fch text (wr (r.pos + 1))) false)] : (qfLop4))), .gone]⟩ ?_ (fun rd50 => ?_)
 refine RD.succ [0, 8] (by kernel_rfl) rfl ⟨⟨_, _, _, rfl, ?_, rfl, rd54⟩, ⟨_, _, _, rfl, ?_, rfl, rd58⟩, trivial⟩
 exact WL.rI ht hn
 exact WL.rI ht hn
 refine RD.have 8 #[true, false, false, false, false, true, true, true, true, true, true, false, false, false, false] ⟨[(qfLop1 Bk), (qfLop2 ch), (qfLop3 r_3.1), (qfLop5), sl 66 (I (wr (((ar ++ ([(FixName.mk (fch text (wr (r.pos + 1))) false)] : (qfLop4))).length : Int) - 1)))], [(qfLop0 text r_3.2.pos r_3.2.deep r_3.2.cnt), rowI 236 FixName.ty (ar ++ ([(FixName.mk (fch text (wr (r.pos + 1))) false)] : (qfLop4))), .gone]⟩ ?_ (fun rd49 => ?_)
 refine RD.succ [1] (by kernel_rfl) rfl ⟨⟨_, _, _, rfl, ?_, rfl, rd57⟩, trivial⟩
 exact WL.rI ht hn
 refine RD.have 8 #[true, true, false, false, false, true, true, true, true, true, false, false, false, false, false] ⟨[(qfLop1 Bk), (qfLop2 ch), (qfLop3 r_3.1), (qfLop5), sl 57 (.ptr 0 0), sl 65 (I ((ar ++ ([(FixName.mk (fch text (wr (r.pos + 1))) false)] : (qfLop4))).length : Int))], [(qfLop0 text r_3.2.pos r_3.2.deep r_3.2.cnt), rowI 236 FixName.ty (ar ++ ([(FixName.mk (fch text (wr (r.pos + 1))) false)] : (qfLop4))), .gone]⟩ ?_ (fun rd48 => ?_)
 refine RD.succ [2, 10] (by kernel_rfl) rfl ⟨⟨_, _, _, rfl, ?_, rfl, rd56⟩, ⟨_, _, _, rfl, ?_, rfl, rd57⟩, trivial⟩
 exact WL.rI ht hn
 exact WL.rI ht hn
 refine RD.have 8 #[true, true, true, false, false, true, true, true, true, false, false, false, false, false, false] ⟨[(qfLop1 Bk), (qfLop2 ch), (qfLop3 r_3.1), (qfLop5), sl 58 (.ptr 0 0), sl 64 (.own 1)], [(qfLop0 text r_3.2.pos r_3.2.deep r_3.2.cnt), rowI 236 FixName.ty (ar ++ ([(FixName.mk (fch text (wr (r.pos + 1))) false)] : (qfLop4))), .gone]⟩ ?_ (fun rd47 => ?_)
 refine RD.succ [3, 9] (by kernel_rfl) rfl ⟨⟨_, _, _, rfl, ?_, rfl, rd55⟩, ⟨_, _, _, rfl, ?_, rfl, rd56⟩, trivial⟩
 exact WL.rI ht hn
 exact WL.rI ht hn
 refine RD.have 8 #[true, true, true, true, false, true, true, true, false, false, false, false, false, false, false] ⟨[(qfLop1 Bk), (qfLop2 ch), (qfLop3 r_3.1), (qfLop5), sl 59 (.ptr 0 4), sl 63 (.ptr 0 4)], [(qfLop0 text r_3.2.pos r_3.2.deep r_3.2.cnt), rowI 236 FixName.ty (ar ++ ([(FixName.mk (fch text (wr (r.pos + 1))) false)] : (qfLop4))), .gone]⟩ ?_ (fun rd46 => ?_)
 refine RD.succ [4, 8] (by kernel_rfl) rfl ⟨⟨_, _, _, rfl, ?_, rfl, rd54⟩, ⟨_, _, _, rfl, ?_, rfl, rd55⟩, trivial⟩
 exact WL.rI ht hn
 exact WL.rI ht hn
 refine RD.have 8 #[true, true, true, true, true, true, true, false, false, false, false, false, false, false, false] ⟨[(qfLop1 Bk), (qfLop2 ch), (qfLop3 r_3.1), (qfLop5), sl 60 (.own 1), sl 62 (.ptr 0 0)], [(qfLop0 text r_3.2.pos r_3.2.deep r_3.2.cnt), rowI 236 FixName.ty (ar ++ ([(FixName.mk (fch text (wr (r.pos + 1))) false)] : (qfLop4))), .gone]⟩ ?_ (fun rd45 => ?_)
 refine RD.succ [7] (by kernel_rfl) rfl ⟨⟨_, _, _, rfl, ?_, rfl, rd54⟩, trivial⟩
 exact WL.rI ht hn
 refine RD.have 9 #[false, false, false, false, false, true, true, true, true, true, true, false, false, false, false] ⟨[(qfLop1 Bk), (qfLop2 ch), (qfLop3 r_3.1), sl 66 (I (wr (((ar ++ ([(FixName.mk (fch text (wr (r.pos + 1))) false)] : (qfLop4))).length : Int) - 1)))], [(qfLop0 text r_3.2.pos r_3.2.deep r_3.2.cnt), rowI 236 FixName.ty (ar ++ ([(FixName.mk (fch text (wr (r.pos + 1))) false)] : (qfLop4))), .gone]⟩ ?_ (fun rd44 => ?_)
 refine RD.succ [0, 1] (by kernel_rfl) rfl ⟨⟨_, _, _, rfl, ?_, rfl, rd49⟩, ⟨_, _, _, rfl, ?_, rfl, rd53⟩, trivial⟩
 exact WL.rI ht hn
 exact WL.rI ht hn
 refine RD.have 9 #[false, true, false, false, false, true, true, true, true, true, false, false, false, false, false] ⟨[(qfLop1 Bk), (qfLop2 ch), (qfLop3 r_3.1), sl 57 (.ptr 0 0), sl 65 (I ((ar ++ ([(FixName.mk (fch text (wr (r.pos + 1))) false)] : (qfLop4))).length : Int))], [(qfLop0 text r_3.2.pos r_3.2.deep r_3.2.cnt), rowI 236 FixName.ty (ar ++ ([(FixName.mk (fch text (wr (r.pos + 1))) false)] : (qfLop4))), .gone]⟩ ?_ (fun rd43 => ?_)
 refine RD.succ [0, 2, 10] (by kernel_rfl) rfl ⟨⟨_, _, _, rfl, ?_, rfl, rd48⟩, ⟨_, _, _, rfl, ?_, rfl, rd52⟩, ⟨_, _, _, rfl, ?_, rfl, rd53⟩, trivial⟩
 exact WL.rI ht hn
 exact WL.rI ht hn
 exact WL.rI ht hn
 refine RD.have 9 #[false, true, true, false, false, true, true, true, true, false, false, false, false, false, false] ⟨[(qfLop1 Bk), (qfLop2 ch), (qfLop3 r_3.1), sl 58 (.ptr 0 0), sl 64 (.own 1)], [(qfLop0 text r_3.2.pos r_3.2.deep r_3.2.cnt), rowI 236 FixName.ty (ar ++ ([(FixName.mk (fch text (wr (r.pos + 1))) false)] : (qfLop4))), .gone]⟩ ?_ (fun rd42 => ?_)
 refine RD.succ [0, 3, 9] (by kernel_rfl) rfl ⟨⟨_, _, _, rfl, ?_, rfl, rd47⟩, ⟨_, _, _, rfl, ?_, rfl, rd51⟩, ⟨_, _, _, rfl, ?_, rfl, rd52⟩, trivial⟩
 exact WL.rI ht hn
 exact WL.rI ht hn
 exact WL.rI ht hn
 refine RD.have 9 #[false, true, true, true, false, true, true, true, false, false, false, false, false, false, false] ⟨[(qfLop1 Bk), (qfLop2 ch), (qfLop3 r_3.1), sl 59 (.ptr 0 4), sl 63 (.ptr 0 4)], [(qfLop0 text r_3.2.pos r_3.2.deep r_3.2.cnt), rowI 236 FixName.ty (ar ++ ([(FixName.mk (fch text (wr (r.pos + 1))) false)] : (qfLop4))), .gone]⟩ ?_ (fun rd41 => ?_)
 refine RD.succ [0, 4, 8] (by kernel_rfl) rfl ⟨⟨_, _, _, rfl, ?_, rfl, rd46⟩, ⟨_, _, _, rfl, ?_, rfl, rd50⟩, ⟨_, _, _, rfl, ?_, rfl, rd51⟩, trivial⟩
 exact WL.rI ht hn
 exact WL.rI ht hn
 exact WL.rI ht hn
 refine RD.have 9 #[false, true, true, true, true, true, true, false, false, false, false, false, false, false, false] ⟨[(qfLop1 Bk), (qfLop2 ch), (qfLop3 r_3.1), sl 60 (.own 1), sl 62 (.ptr 0 0)], [(qfLop0 text r_3.2.pos r_3.2.deep r_3.2.cnt), rowI 236 FixName.ty (ar ++ ([(FixName.mk (fch text (wr (r.pos + 1))) false)] : (qfLop4))), .gone]⟩ ?_ (fun rd40 => ?_)
 refine RD.succ [0, 7] (by kernel_rfl) rfl ⟨⟨_, _, _, rfl, ?_, rfl, rd45⟩, ⟨_, _, _, rfl, ?_, rfl, rd50⟩, trivial⟩
 exact WL.rI ht hn
 exact WL.rI ht hn
 refine RD.have 9 #[true, false, false, false, false, true, true, true, true, true, false, false, false, false, false] ⟨[(qfLop1 Bk), (qfLop2 ch), (qfLop3 r_3.1), (qfLop5), sl 65 (I ((ar ++ ([(FixName.mk (fch text (wr (r.pos + 1))) false)] : (qfLop4))).length : Int))], [(qfLop0 text r_3.2.pos r_3.2.deep r_3.2.cnt), rowI 236 FixName.ty (ar ++ ([(FixName.mk (fch text (wr (r.pos + 1))) false)] : (qfLop4))), .gone]⟩ ?_ (fun rd39 => ?_)
 refine RD.succ [1, 10] (by kernel_rfl) rfl ⟨⟨_, _, _, rfl, ?_, rfl, rd48⟩, ⟨_, _, _, rfl, ?_, rfl, rd49⟩, trivial⟩
 exact WL.rI ht hn
 exact WL.rI ht hn
 refine RD.have 9 #[true, true, false, false, false, true, true, true, true, false, false, false, false, false, false] ⟨[(qfLop1 Bk), (qfLop2 ch), (qfLop3 r_3.1), (qfLop5), sl 57 (.ptr 0 0), sl 64 (.own 1)], [(qfLop0 text r_3.2.pos r_3.2.deep r_3.2.cnt), rowI 236 FixName.ty (ar ++ ([(FixName.mk (fch text (wr (r.pos + 1))) false)] : (qfLop4))), .gone]⟩ ?_ (fun rd38 => ?_)
 refine RD.succ [2, 9] (by kernel_rfl) rfl ⟨⟨_, _, _, rfl, ?_, rfl, rd47⟩, ⟨_, _, _, rfl, ?_, rfl, rd48⟩, trivial⟩
 exact WL.rI ht hn
 exact WL.rI ht hn
 refine RD.have 9 #[true, true, true, false, false, true, true, true, false, false, false, false, false, false, false] ⟨[(qfLop1 Bk), (qfLop2 ch), (qfLop3 r_3.1), (qfLop5), sl 58 (.ptr 0 0), sl 63 (.ptr 0 4)], [(qfLop0 text r_3.2.pos r_3.2.deep r_3.2.cnt), rowI 236 FixName.ty (ar ++ ([(FixName.mk (fch text (wr (r.pos + 1))) false)] : (qfLop4))), .gone]⟩ ?_ (fun rd37 => ?_)
 refine RD.succ [3, 8] (by kernel_rfl) rfl ⟨⟨_, _, _, rfl, ?_, rfl, rd46⟩, ⟨_, _, _, rfl, ?_, rfl, rd47⟩, trivial⟩
 exact WL.rI ht hn
 exact WL.rI ht hn
 refine RD.have 9 #[true, true, true, true, false, true, true, false, false, false, false, false, false, false, false] ⟨[(qfLop1 Bk), (qfLop2 ch), (qfLop3 r_3.1), (qfLop5), sl 59 (.ptr 0 4), sl 62 (.ptr 0 0)], [(qfLop0 text r_3.2.pos r_3.2.deep r_3.2.cnt), rowI 236 FixName.ty (ar ++ ([(FixName.mk (fch text (wr (r.pos + 1))) false)] : (qfLop4))), .gone]⟩ ?_ (fun rd36 => ?_)
 refine RD.succ [4, 7] (by kernel_rfl) rfl ⟨⟨_, _, _, rfl, ?_, rfl, rd45⟩, ⟨_, _, _, rfl, ?_, rfl, rd46⟩, trivial⟩
 exact WL.rI ht hn
 exact WL.rI ht hn
 refine RD.have 9 #[true, true, true, true, true, true, false, false, false, false, false, false, false, false, false] ⟨[(qfLop1 Bk), (qfLop2 ch), (qfLop3 r_3.1), (qfLop5), sl 60 (.own 1), sl 61 (.ptr 0 0)], [(qfLop0 text r_3.2.pos r_3.2.deep r_3.2.cnt), rowI 236 FixName.ty (ar ++ ([(FixName.mk (fch text (wr (r.pos + 1))) false)] : (qfLop4))), .gone]⟩ ?_ (fun rd35 => ?_)
 refine RD.succ [6] (by kernel_rfl) rfl ⟨⟨_, _, _, rfl, ?_, rfl, rd45⟩, trivial⟩
 exact WL.rI ht hn
 refine RD.have 10 #[false, false, false, false, false, true, true, true, true, true, false, false, false, false, false] ⟨[(qfLop1 Bk), (qfLop2 ch), (qfLop3 r_3.1), sl 65 (I ((ar ++ ([(FixName.mk (fch text (wr (r.pos + 1))) false)] : (qfLop4))).length : Int))], [(qfLop0 text r_3.2.pos r_3.2.deep r_3.2.cnt), rowI 236 FixName.ty (ar ++ ([(FixName.mk (fch text (wr (r.pos + 1))) false)] : (qfLop4))), .gone]⟩ ?_ (fun rd34 => ?_)
 refine RD.succ [0, 1, 10] (by kernel_rfl) rfl ⟨⟨_, _, _, rfl, ?_, rfl, rd39⟩, ⟨_, _, _, rfl, ?_, rfl, rd43⟩, ⟨_, _, _, rfl, ?_, rfl, rd44⟩, trivial⟩
 exact WL.rI ht hn
 exact WL.rI ht hn
 exact WL.rI ht hn
 refine RD.have 10 #[false, true, false, false, false, true, true, true, true, false, false, false, false, false, false] ⟨[(qfLop1 Bk), (qfLop2 ch), (qfLop3 r_3.1), sl 57 (.ptr 0 0), sl 64 (.own 1)], [(qfLop0 text r_3.2.pos r_3.2.deep r_3.2.cnt), rowI 236 FixName.ty (ar ++ ([(FixName.mk (fch text (wr (r.pos + 1))) false)] : (qfLop4))), .gone]⟩ ?_ (fun rd33 => ?_)
 refine RD.succ [0, 2, 9] (by kernel_rfl) rfl ⟨⟨_, _, _, rfl, ?_, rfl, rd38⟩, ⟨_, _, _, rfl, ?_, rfl, rd42⟩, ⟨_, _, _, rfl, ?_, rfl, rd43⟩, trivial⟩
 exact WL.rI ht hn
 exact WL.rI ht hn
 exact WL.rI ht hn
 refine RD.have 10 #[false, true, true, false, false, true, true, true, false, false, false, false, false, false, false] ⟨[(qfLop1 Bk), (qfLop2 ch), (qfLop3 r_3.1), sl 58 (.ptr 0 0), sl 63 (.ptr 0 4)], [(qfLop0 text r_3.2.pos r_3.2.deep r_3.2.cnt), rowI 236 FixName.ty (ar ++ ([(FixName.mk (fch text (wr (r.pos + 1))) false)] : (qfLop4))), .gone]⟩ ?_ (fun rd32 => ?_)
 refine RD.succ [0, 3, 8] (by kernel_rfl) rfl ⟨⟨_, _, _, rfl, ?_, rfl, rd37⟩, ⟨_, _, _, rfl, ?_, rfl, rd41⟩, ⟨_, _, _, rfl, ?_, rfl, rd42⟩, trivial⟩
 exact WL.rI ht hn
 exact WL.rI ht hn
 exact WL.rI ht hn
 refine RD.have 10 #[false, true, true, true, false, true, true, false, false, false, false, false, false, false, false] ⟨[(qfLop1 Bk), (qfLop2 ch), (qfLop3 r_3.1), sl 59 (.ptr 0 4), sl 62 (.ptr 0 0)], [(qfLop0 text r_3.2.pos r_3.2.deep r_3.2.cnt), rowI 236 FixName.ty (ar ++ ([(FixName.mk (fch text (wr (r.pos + 1))) false)] : (qfLop4))), .gone]⟩ ?_ (fun rd31 => ?_)
 refine RD.succ [0, 4, 7] (by kernel_rfl) rfl ⟨⟨_, _, _, rfl, ?_, rfl, rd36⟩, ⟨_, _, _, rfl, ?_, rfl, rd40⟩, ⟨_, _, _, rfl, ?_, rfl, rd41⟩, trivial⟩
 exact WL.rI ht hn
 exact WL.rI ht hn
 exact WL.rI ht hn
 refine RD.have 10 #[false, true, true, true, true, true, false, false, false, false, false, false, false, false, false] ⟨[(qfLop1 Bk), (qfLop2 ch), (qfLop3 r_3.1), sl 60 (.own 1), sl 61 (.ptr 0 0)], [(qfLop0 text r_3.2.pos r_3.2.deep r_3.2.cnt), rowI 236 FixName.ty (ar ++ ([(FixName.mk (fch text (wr (r.pos + 1))) false)] : (qfLop4))), .gone]⟩ ?_ (fun rd30 => ?_)
 refine RD.succ [0, 6] (by kernel_rfl) rfl ⟨⟨_, _, _, rfl, ?_, rfl, rd35⟩, ⟨_, _, _, rfl, ?_, rfl, rd40⟩, trivial⟩
 exact WL.rI ht hn
 exact WL.rI ht hn
 refine RD.have 10 #[true, false, false, false, false, true, true, true, true, false, false, false, false, false, false] ⟨[(qfLop1 Bk), (qfLop2 ch), (qfLop3 r_3.1), (qfLop5), sl 64 (.own 1)], [(qfLop0 text r_3.2.pos r_3.2.deep r_3.2.cnt), rowI 236 FixName.ty (ar ++ ([(FixName.mk (fch text (wr (r.pos + 1))) false)] : (qfLop4))), .gone]⟩ ?_ (fun rd29 => ?_)
 refine RD.succ [1, 9] (by kernel_rfl) rfl ⟨⟨_, _, _, rfl, ?_, rfl, rd38⟩, ⟨_, _, _, rfl, ?_, rfl, rd39⟩, trivial⟩
 exact WL.rI ht hn
 exact WL.rI ht hn
 refine RD.have 10 #[true, true, false, false, false, true, true, true, false, false, false, false, false, false, false] ⟨[(qfLop1 Bk), (qfLop2 ch), (qfLop3 r_3.1), (qfLop5), sl 57 (.ptr 0 0), sl 63 (.ptr 0 4)], [(qfLop0 text r_3.2.pos r_3.2.deep r_3.2.cnt), rowI 236 FixName.ty (ar ++ ([(FixName.mk (fch text (wr (r.pos + 1))) false)] : (qfLop4))), .gone]⟩ ?_ (fun rd28 => ?_)
 refine RD.succ [2, 8] (by kernel_rfl) rfl ⟨⟨_, _, _, rfl, ?_, rfl, rd37⟩, ⟨_, _, _, rfl, ?_, rfl, rd38⟩, trivial⟩
 exact WL.rI ht hn
 exact WL.rI ht hn
 refine RD.have 10 #[true, true, true, false, false, true, true, false, false, false, false, false, false, false, false] ⟨[(qfLop1 Bk), (qfLop2 ch), (qfLop3 r_3.1), (qfLop5), sl 58 (.ptr 0 0), sl 62 (.ptr 0 0)], [(qfLop0 text r_3.2.pos r_3.2.deep r_3.2.cnt), rowI 236 FixName.ty (ar ++ ([(FixName.mk (fch text (wr (r.pos + 1))) false)] : (qfLop4))), .gone]⟩ ?_ (fun rd27 => ?_)
 refine RD.succ [3, 7] (by kernel_rfl) rfl ⟨⟨_, _, _, rfl, ?_, rfl, rd36⟩, ⟨_, _, _, rfl, ?_, rfl, rd37⟩, trivial⟩
 exact WL.rI ht hn
 exact WL.rI ht hn
 refine RD.have 10 #[true, true, true, true, false, true, false, false, false, false, false, false, false, false, false] ⟨[(qfLop1 Bk), (qfLop2 ch), (qfLop3 r_3.1), (qfLop5), sl 59 (.ptr 0 4), sl 61 (.ptr 0 0)], [(qfLop0 text r_3.2.pos r_3.2.deep r_3.2.cnt), rowI 236 FixName.ty (ar ++ ([(FixName.mk (fch text (wr (r.pos + 1))) false)] : (qfLop4))), .gone]⟩ ?_ (fun rd26 => ?_)
 refine RD.succ [4, 6] (by kernel_rfl) rfl ⟨⟨_, _, _, rfl, ?_, rfl, rd35⟩, ⟨_, _, _, rfl, ?_, rfl, rd36⟩, trivial⟩
 exact WL.rI ht hn
 exact WL.rI ht hn
 refine RD.have 10 #[true, true, true, true, true, false, false, false, false, false, false, false, false, false, false] ⟨[(qfLop1 Bk), (qfLop2 ch), (qfLop3 r_3.1), (qfLop5), sl 60 (.own 1)], [(qfLop0 text r_3.2.pos r_3.2.deep r_3.2.cnt), rowI 236 FixName.ty (ar ++ ([(FixName.mk (fch text (wr (r.pos + 1))) false)] : (qfLop4))), .gone]⟩ ?_ (fun rd25 => ?_)
 refine RD.succ [5] (by kernel_rfl) rfl ⟨⟨_, _, _, rfl, ?_, rfl, rd35⟩, trivial⟩
 exact WL.rI ht hn
 refine RD.have 11 #[false, false, false, false, false, true, true, true, true, false, false, false, false, false, false] ⟨[(qfLop1 Bk), (qfLop2 ch), (qfLop3 r_3.1), sl 64 (.own 1)], [(qfLop0 text r_3.2.pos r_3.2.deep r_3.2.cnt), rowI 236 FixName.ty (ar ++ ([(FixName.mk (fch text (wr (r.pos + 1))) false)] : (qfLop4))), .gone]⟩ ?_ (fun rd24 => ?_)
 refine RD.succ [0, 1, 9] (by kernel_rfl) rfl ⟨⟨_, _, _, rfl, ?_, rfl, rd29⟩, ⟨_, _, _, rfl, ?_, rfl, rd33⟩, ⟨_, _, _, rfl, ?_, rfl, rd34⟩, trivial⟩
 exact WL.rI ht hn
 exact WL.rI ht hn
 exact WL.rI ht hn
 refine RD.have 11 #[false, true, false, false, false, true, true, true, false, false, false, false, false, false, false] ⟨[(qfLop1 Bk), (qfLop2 ch), (qfLop3 r_3.1), sl 57 (.ptr 0 0), sl 63 (.ptr 0 4)], [(qfLop0 text r_3.2.pos r_3.2.deep r_3.2.cnt), rowI 236 FixName.ty (ar ++ ([(FixName.mk (fch text (wr (r.pos + 1))) false)] : (qfLop4))), .gone]⟩ ?_ (fun rd23 => ?_)
 refine RD.succ [0, 2, 8] (by kernel_rfl) rfl ⟨⟨_, _, _, rfl, ?_, rfl, rd28⟩, ⟨_, _, _, rfl, ?_, rfl, rd32⟩, ⟨_, _, _, rfl, ?_, rfl, rd33⟩, trivial⟩
 exact WL.rI ht hn
 exact WL.rI ht hn
 exact WL.rI ht hn
 refine RD.have 11 #[false, true, true, false, false, true, true, false, false, false, false, false, false, false, false] ⟨[(qfLop1 Bk), (qfLop2 ch), (qfLop3 r_3.1), sl 58 (.ptr 0 0), sl 62 (.ptr 0 0)], [(qfLop0 text r_3.2.pos r_3.2.deep r_3.2.cnt), rowI 236 FixName.ty (ar ++ ([(FixName.mk (fch text (wr (r.pos + 1))) false)] : (qfLop4))), .gone]⟩ ?_ (fun rd22 => ?_)
 refine RD.succ [0, 3, 7] (by kernel_rfl) rfl ⟨⟨_, _, _, rfl, ?_, rfl, rd27⟩, ⟨_, _, _, rfl, ?_, rfl, rd31⟩, ⟨_, _, _, rfl, ?_, rfl, rd32⟩, trivial⟩
 exact WL.rI ht hn
 exact WL.rI ht hn
 exact WL.rI ht hn
 refine RD.have 11 #[false, true, true, true, false, true, false, false, false, false, false, false, false, false, false] ⟨[(qfLop1 Bk), (qfLop2 ch), (qfLop3 r_3.1), sl 59 (.ptr 0 4), sl 61 (.ptr 0 0)], [(qfLop0 text r_3.2.pos r_3.2.deep r_3.2.cnt), rowI 236 FixName.ty (ar ++ ([(FixName.mk (fch text (wr (r.pos + 1))) false)] : (qfLop4))), .gone]⟩ ?_ (fun rd21 => ?_)
 refine RD.succ [0, 4, 6] (by kernel_rfl) rfl ⟨⟨_, _, _, rfl, ?_, rfl, rd26⟩, ⟨_, _, _, rfl, ?_, rfl, rd30⟩, ⟨_, _, _, rfl, ?_, rfl, rd31⟩, trivial⟩
 exact WL.rI ht hn
 exact WL.rI ht hn
 exact WL.rI ht hn
 refine RD.have 11 #[false, true, true, true, true, false, false, false, false, false, false, false, false, false, false] ⟨[(qfLop1 Bk), (qfLop2 ch), (qfLop3 r_3.1), sl 60 (.own 1)], [(qfLop0 text r_3.2.pos r_3.2.deep r_3.2.cnt), rowI 236 FixName.ty (ar ++ ([(FixName.mk (fch text (wr (r.pos + 1))) false)] : (qfLop4))), .gone]⟩ ?_ (fun rd20 => ?_)
 refine RD.succ [0, 5] (by kernel_rfl) rfl ⟨⟨_, _, _, rfl, ?_, rfl, rd25⟩, ⟨_, _, _, rfl, ?_, rfl, rd30⟩, trivial⟩
 exact WL.rI ht hn
 exact WL.rI ht hn
 refine RD.have 11 #[true, false, false, false, false, true, true, true, false, false, false, false, false, false, false] ⟨[(qfLop1 Bk), (qfLop2 ch), (qfLop3 r_3.1), (qfLop5), sl 63 (.ptr 0 4)], [(qfLop0 text r_3.2.pos r_3.2.deep r_3.2.cnt), rowI 236 FixName.ty (ar ++ ([(FixName.mk (fch text (wr (r.pos + 1))) false)] : (qfLop4))), .gone]⟩ ?_ (fun rd19 => ?_)
 refine RD.succ [1, 8] (by kernel_rfl) rfl ⟨⟨_, _, _, rfl, ?_, rfl, rd28⟩, ⟨_, _, _, rfl, ?_, rfl, rd29⟩, trivial⟩
 exact WL.rI ht hn
 exact WL.rI ht hn
 refine RD.have 11 #[true, true, false, false, false, true, true, false, false, false, false, false, false, false, false] ⟨[(qfLop1 Bk), (qfLop2 ch), (qfLop3 r_3.1), (qfLop5), sl 57 (.ptr 0 0), sl 62 (.ptr 0 0)], [(qfLop0 text r_3.2.pos r_3.2.deep r_3.2.cnt), rowI 236 FixName.ty (ar ++ ([(FixName.mk (fch text (wr (r.pos + 1))) false)] : (qfLop4))), .gone]⟩ ?_ (fun rd18 => ?_)
 refine RD.succ [2, 7] (by kernel_rfl) rfl ⟨⟨_, _, _, rfl, ?_, rfl, rd27⟩, ⟨_, _, _, rfl, ?_, rfl, rd28⟩, trivial⟩
 exact WL.rI ht hn
 exact WL.rI ht hn
 refine RD.have 11 #[true, true, true, false, false, true, false, false, false, false, false, false, false, false, false] ⟨[(qfLop1 Bk), (qfLop2 ch), (qfLop3 r_3.1), (qfLop5), sl 58 (.ptr 0 0), sl 61 (.ptr 0 0)], [(qfLop0 text r_3.2.pos r_3.2.deep r_3.2.cnt), rowI 236 FixName.ty (ar ++ ([(FixName.mk (fch text (wr (r.pos + 1))) false)] : (qfLop4))), .gone]⟩ ?_ (fun rd17 => ?_)
 refine RD.succ [3, 6] (by kernel_rfl) rfl ⟨⟨_, _, _, rfl, ?_, rfl, rd26⟩, ⟨_, _, _, rfl, ?_, rfl, rd27⟩, trivial⟩
 exact WL.rI ht hn
 exact WL.rI ht hn
 refine RD.have 11 #[true, true, true, true, false, false, false, false, false, false, false, false, false, false, false] ⟨[(qfLop1 Bk), (qfLop2 ch), (qfLop3 r_3.1), (qfLop5), sl 59 (.ptr 0 4)], [(qfLop0 text r_3.2.pos r_3.2.deep r_3.2.cnt), rowI 236 FixName.ty (ar ++ ([(FixName.mk (fch text (wr (r.pos + 1))) false)] : (qfLop4))), .gone]⟩ ?_ (fun rd16 => ?_)
 refine RD.succ [4, 5] (by kernel_rfl) rfl ⟨⟨_, _, _, rfl, ?_, rfl, rd25⟩, ⟨_, _, _, rfl, ?_, rfl, rd26⟩, trivial⟩
 exact WL.rI ht hn
 exact WL.rI ht hn
 refine RD.have 12 #[false, false, false, false, false, true, true, true, false, false, false, false, false, false, false] ⟨[(qfLop1 Bk), (qfLop2 ch), (qfLop3 r_3.1), sl 63 (.ptr 0 4)], [(qfLop0 text r_3.2.pos r_3.2.deep r_3.2.cnt), rowI 236 FixName.ty (ar ++ ([(FixName.mk (fch text (wr (r.pos + 1))) false)] : (qfLop4))), .gone]⟩ ?_ (fun rd15 => ?_)
 refine RD.succ [0, 1, 8] (by kernel_rfl) rfl ⟨⟨_, _, _, rfl, ?_, rfl, rd19⟩, ⟨_, _, _, rfl, ?_, rfl, rd23⟩, ⟨_, _, _, rfl, ?_, rfl, rd24⟩, trivial⟩
 exact WL.rI ht hn
 exact WL.rI ht hn
 exact WL.rI ht hn
 refine RD.have 12 #[false, true, false, false, false, true, true, false, false, false, false, false, false, false, false] ⟨[(qfLop1 Bk), (qfLop2 ch), (qfLop3 r_3.1), sl 57 (.ptr 0 0), sl 62 (.ptr 0 0)], [(qfLop0 text r_3.2.pos r_3.2.deep r_3.2.cnt), rowI 236 FixName.ty (ar ++ ([(FixName.mk (fch text (wr (r.pos + 1))) false)] : (qfLop4))), .gone]⟩ ?_ (fun rd14 => ?_)
 refine RD.succ [0, 2, 7] (by kernel_rfl) rfl ⟨⟨_, _, _, rfl, ?_, rfl, rd18⟩, ⟨_, _, _, rfl, ?_, rfl, rd22⟩, ⟨_, _, _, rfl, ?_, rfl, rd23⟩, trivial⟩
 exact WL.rI ht hn
 exact WL.rI ht hn
 exact WL.rI ht hn
 refine RD.have 12 #[false, true, true, false, false, true, false, false, false, false, false, false, false, false, false] ⟨[(qfLop1 Bk), (qfLop2 ch), (qfLop3 r_3.1), sl 58 (.ptr 0 0), sl 61 (.ptr 0 0)], [(qfLop0 text r_3.2.pos r_3.2.deep r_3.2.cnt), rowI 236 FixName.ty (ar ++ ([(FixName.mk (fch text (wr (r.pos + 1))) false)] : (qfLop4))), .gone]⟩ ?_ (fun rd13 => ?_)
 refine RD.succ [0, 3, 6] (by kernel_rfl) rfl ⟨⟨_, _, _, rfl, ?_, rfl, rd17⟩, ⟨_, _, _, rfl, ?_, rfl, rd21⟩, ⟨_, _, _, rfl, ?_, rfl, rd22⟩, trivial⟩
 exact WL.rI ht hn
 exact WL.rI ht hn
 exact WL.rI ht hn
 refine RD.have 12 #[false, true, true, true, false, false, false, false, false, false, false, false, false, false, false] ⟨[(qfLop1 Bk), (qfLop2 ch), (qfLop3 r_3.1), sl 59 (.ptr 0 4)], [(qfLop0 text r_3.2.pos r_3.2.deep r_3.2.cnt), rowI 236 FixName.ty (ar ++ ([(FixName.mk (fch text (wr (r.pos + 1))) false)] : (qfLop4))), .gone]⟩ ?_ (fun rd12 => ?_)
 refine RD.succ [0, 4, 5] (by kernel_rfl) rfl ⟨⟨_, _, _, rfl, ?_, rfl, rd16⟩, ⟨_, _, _, rfl, ?_, rfl, rd20⟩, ⟨_, _, _, rfl, ?_, rfl, rd21⟩, trivial⟩
 exact WL.rI ht hn
 exact WL.rI ht hn
 exact WL.rI ht hn
 refine RD.have 12 #[true, false, false, false, false, true, true, false, false, false, false, false, false, false, false] ⟨[(qfLop1 Bk), (qfLop2 ch), (qfLop3 r_3.1), (qfLop5), sl 62 (.ptr 0 0)], [(qfLop0 text r_3.2.pos r_3.2.deep r_3.2.cnt), rowI 236 FixName.ty (ar ++ ([(FixName.mk (fch text (wr (r.pos + 1))) false)] : (qfLop4))), .gone]⟩ ?_ (fun rd11 => ?_)
 refine RD.succ [1, 7] (by kernel_rfl) rfl ⟨⟨_, _, _, rfl, ?_, rfl, rd18⟩, ⟨_, _, _, rfl, ?_, rfl, rd19⟩, trivial⟩
 exact WL.rI ht hn
 exact WL.rI ht hn
 refine RD.have 12 #[true, true, false, false, false, true, false, false, false, false, false, false, false, false, false] ⟨[(qfLop1 Bk), (qfLop2 ch), (qfLop3 r_3.1), (qfLop5), sl 57 (.ptr 0 0), sl 61 (.ptr 0 0)], [(qfLop0 text r_3.2.pos r_3.2.deep r_3.2.cnt), rowI 236 FixName.ty (ar ++ ([(FixName.mk (fch text (wr (r.pos + 1))) false)] : (qfLop4))), .gone]⟩ ?_ (fun rd10 => ?_)
 refine RD.succ [2, 6] (by kernel_rfl) rfl ⟨⟨_, _, _, rfl, ?_, rfl, rd17⟩, ⟨_, _, _, rfl, ?_, rfl, rd18⟩, trivial⟩
 exact WL.rI ht hn
 exact WL.rI ht hn
 refine RD.have 12 #[true, true, true, false, false, false, false, false, false, false, false, false, false, false, false] ⟨[(qfLop1 Bk), (qfLop2 ch), (qfLop3 r_3.1), (qfLop5), sl 58 (.ptr 0 0)], [(qfLop0 text r_3.2.pos r_3.2.deep r_3.2.cnt), rowI 236 FixName.ty (ar ++ ([(FixName.mk (fch text (wr (r.pos + 1))) false)] : (qfLop4))), .gone]⟩ ?_ (fun rd9 => ?_)
 refine RD.succ [3, 5] (by kernel_rfl) rfl ⟨⟨_, _, _, rfl, ?_, rfl, rd16⟩, ⟨_, _, _, rfl, ?_, rfl, rd17⟩, trivial⟩
 exact WL.rI ht hn
 exact WL.rI ht hn
 refine RD.have 13 #[false, false, false, false, false, true, true, false, false, false, false, false, false, false, false] ⟨[(qfLop1 Bk), (qfLop2 ch), (qfLop3 r_3.1), sl 62 (.ptr 0 0)], [(qfLop0 text r_3.2.pos r_3.2.deep r_3.2.cnt), rowI 236 FixName.ty (ar ++ ([(FixName.mk (fch text (wr (r.pos + 1))) false)] : (qfLop4))), .gone]⟩ ?_ (fun rd8 => ?_)
 refine RD.succ [0, 1, 7] (by kernel_rfl) rfl ⟨⟨_, _, _, rfl, ?_, rfl, rd11⟩, ⟨_, _, _, rfl, ?_, rfl, rd14⟩, ⟨_, _, _, rfl, ?_, rfl, rd15⟩, trivial⟩
 exact WL.rI ht hn
 exact WL.rI ht hn
 exact WL.rI ht hn
 refine RD.have 13 #[false, true, false, false, false, true, false, false, false, false, false, false, false, false, false] ⟨[(qfLop1 Bk), (qfLop2 ch), (qfLop3 r_3.1), sl 57 (.ptr 0 0), sl 61 (.ptr 0 0)], [(qfLop0 text r_3.2.pos r_3.2.deep r_3.2.cnt), rowI 236 FixName.ty (ar ++ ([(FixName.mk (fch text (wr (r.pos + 1))) false)] : (qfLop4))), .gone]⟩ ?_ (fun rd7 => ?_)
 refine RD.succ [0, 2, 6] (by kernel_rfl) rfl ⟨⟨_, _, _, rfl, ?_, rfl, rd10⟩, ⟨_, _, _, rfl, ?_, rfl, rd13⟩, ⟨_, _, _, rfl, ?_, rfl, rd14⟩, trivial⟩
 exact WL.rI ht hn
 exact WL.rI ht hn
 exact WL.rI ht hn
 refine RD.have 13 #[false, true, true, false, false, false, false, false, false, false, false, false, false, false, false] ⟨[(qfLop1 Bk), (qfLop2 ch), (qfLop3 r_3.1), sl 58 (.ptr 0 0)], [(qfLop0 text r_3.2.pos r_3.2.deep r_3.2.cnt), rowI 236 FixName.ty (ar ++ ([(FixName.mk (fch text (wr (r.pos + 1))) false)] : (qfLop4))), .gone]⟩ ?_ (fun rd6 => ?_)
 refine RD.succ [0, 3, 5] (by kernel_rfl) rfl ⟨⟨_, _, _, rfl, ?_, rfl, rd9⟩, ⟨_, _, _, rfl, ?_, rfl, rd12⟩, ⟨_, _, _, rfl, ?_, rfl, rd13⟩, trivial⟩
 exact WL.rI ht hn
 exact WL.rI ht hn
 exact WL.rI ht hn
 refine RD.have 13 #[true, false, false, false, false, true, false, false, false, false, false, false, false, false, false] ⟨[(qfLop1 Bk), (qfLop2 ch), (qfLop3 r_3.1), (qfLop5), sl 61 (.ptr 0 0)], [(qfLop0 text r_3.2.pos r_3.2.deep r_3.2.cnt), rowI 236 FixName.ty (ar ++ ([(FixName.mk (fch text (wr (r.pos + 1))) false)] : (qfLop4))), .gone]⟩ ?_ (fun rd5 => ?_)
 refine RD.succ [1, 6] (by kernel_rfl) rfl ⟨⟨_, _, _, rfl, ?_, rfl, rd10⟩, ⟨_, _, _, rfl, ?_, rfl, rd11⟩, trivial⟩
 exact WL.rI ht hn
 exact WL.rI ht hn
 refine RD.have 13 #[true, true, false, false, false, false, false, false, false, false, false, false, false, false, false] ⟨[(qfLop1 Bk), (qfLop2 ch), (qfLop3 r_3.1), (qfLop5), sl 57 (.ptr 0 0)], [(qfLop0 text r_3.2.pos r_3.2.deep r_3.2.cnt), rowI 236 FixName.ty (ar ++ ([(FixName.mk (fch text (wr (r.pos + 1))) false)] : (qfLop4))), .gone]⟩ ?_ (fun rd4 => ?_)
 refine RD.succ [2, 5] (by kernel_rfl) rfl ⟨⟨_, _, _, rfl, ?_, rfl, rd9⟩, ⟨_, _, _, rfl, ?_, rfl, rd10⟩, trivial⟩
 exact WL.rI ht hn
 exact WL.rI ht hn
 refine RD.have 14 #[false, false, false, false, false, true, false, false, false, false, false, false, false, false, false] ⟨[(qfLop1 Bk), (qfLop2 ch), (qfLop3 r_3.1), sl 61 (.ptr 0 0)], [(qfLop0 text r_3.2.pos r_3.2.deep r_3.2.cnt), rowI 236 FixName.ty (ar ++ ([(FixName.mk (fch text (wr (r.pos + 1))) false)] : (qfLop4))), .gone]⟩ ?_ (fun rd3 => ?_)
 refine RD.succ [0, 1, 6] (by kernel_rfl) rfl ⟨⟨_, _, _, rfl, ?_, rfl, rd5⟩, ⟨_, _, _, rfl, ?_, rfl, rd7⟩, ⟨_, _, _, rfl, ?_, rfl, rd8⟩, trivial⟩
 exact WL.rI ht hn
 exact WL.rI ht hn
 exact WL.rI ht hn
 refine RD.have 14 #[false, true, false, false, false, false, false, false, false, false, false, false, false, false, false] ⟨[(qfLop1 Bk), (qfLop2 ch), (qfLop3 r_3.1), sl 57 (.ptr 0 0)], [(qfLop0 text r_3.2.pos r_3.2.deep r_3.2.cnt), rowI 236 FixName.ty (ar ++ ([(FixName.mk (fch text (wr (r.pos + 1))) false)] : (qfLop4))), .gone]⟩ ?_ (fun rd2 => ?_)
 refine RD.succ [0, 2, 5] (by kernel_rfl) rfl ⟨⟨_, _, _, rfl, ?_, rfl, rd4⟩, ⟨_, _, _, rfl, ?_, rfl, rd6⟩, ⟨_, _, _, rfl, ?_, rfl, rd7⟩, trivial⟩
 exact WL.rI ht hn
 exact WL.rI ht hn
 exact WL.rI ht hn
 refine RD.have 14 #[true, false, false, false, false, false, false, false, false, false, false, false, false, false, false] ⟨[(qfLop1 Bk), (qfLop2 ch), (qfLop3 r_3.1), (qfLop5)], [(qfLop0 text r_3.2.pos r_3.2.deep r_3.2.cnt), rowI 236 FixName.ty (ar ++ ([(FixName.mk (fch text (wr (r.pos + 1))) false)] : (qfLop4))), .gone]⟩ ?_ (fun rd1 => ?_)
 refine RD.succ [1, 5] (by kernel_rfl) rfl ⟨⟨_, _, _, rfl, ?_, rfl, rd4⟩, ⟨_, _, _, rfl, ?_, rfl, rd5⟩, trivial⟩
 exact WL.rI ht hn
 exact WL.rI ht hn
 refine RD.have 15 #[false, false, false, false, false, false, false, false, false, false, false, false, false, false, false] ⟨[(qfLop1 Bk), (qfLop2 ch), (qfLop3 r_3.1)], [(qfLop0 text r_3.2.pos r_3.2.deep r_3.2.cnt), rowI 236 FixName.ty (ar ++ ([(FixName.mk (fch text (wr (r.pos + 1))) false)] : (qfLop4))), .gone]⟩ ?_ (fun rd0 => ?_)
 refine RD.succ [0, 1, 5] (by kernel_rfl) rfl ⟨⟨_, _, _, rfl, ?_, rfl, rd1⟩, ⟨_, _, _, rfl, ?_, rfl, rd2⟩, ⟨_, _, _, rfl, ?_, rfl, rd3⟩, trivial⟩
 exact WL.rI ht hn
 exact WL.rI ht hn
 exact WL.rI ht hn
 exact RD.start rd0 rfl (by kernel_rfl) (sub_ok (by kernel_rfl))
 refine En.sr ?_
 refine WL.r ht hn 7 ⟨[(qfLop1 Bk), sl 70 (.v (.int .u8 ch)), sl 75 (I (((ar ++ ([(FixName.mk (fch text (wr (r.pos + 1))) false)] : (qfLop4))).take ((wr (((ar ++ ([(FixName.mk (fch text (wr (r.pos + 1))) false)] : (qfLop4))).length : Int) - 1)) : Int).toNat).length : Int)), sl 76 (.rd (trR fLab r_3.1))], [(qfLop0 text r_3.2.pos r_3.2.deep r_3.2.cnt), rowI 236 FixName.ty ((ar ++ ([(FixName.mk (fch text (wr (r.pos + 1))) false)] : (qfLop4))).take ((wr (((ar ++ ([(FixName.mk (fch text (wr (r.pos + 1))) false)] : (qfLop4))).length : Int) - 1)) : Int).toNat), .gone]⟩ ?_
 refine WL.mt0 (K := []) (p := some (3, rowI 83 (TT fLab) ([r_3.1] : (List (Tr FLab))))) hn (by rfl) (mt_lit (T := (TT fLab)) ([r_3.1] : (List (Tr FLab))) (mt_bsl 3 (r := cellsOf (TT fLab) ([r_3.1] : (List (Tr FLab)))) ht rfl (by rfl) (by rfl) (by rfl) (by kernel_rfl) (by rfl)) (fun _ h => by cases h) (fun _ => rfl) (fun _ => rfl) (by rfl) (Nat.le_of_ble_eq_true rfl)) (by rfl) (by rfl) (by rfl) ?_
 refine WL.rn ht hn 3 ⟨[(qfLop1 Bk), sl 4 (.ptr 4 0)], [(qfLop0 text r_3.2.pos r_3.2.deep r_3.2.cnt), rowI 236 FixName.ty ((ar ++ ([(FixName.mk (fch text (wr (r.pos + 1))) false)] : (qfLop4))).take ((wr (((ar ++ ([(FixName.mk (fch text (wr (r.pos + 1))) false)] : (qfLop4))).length : Int) - 1)) : Int).toNat), .gone, rowI 83 (TT fLab) ([r_3.1] : (List (Tr FLab))), .box [.v (.int .u8 ch), I (((ar ++ ([(FixName.mk (fch text (wr (r.pos + 1))) false)] : (qfLop4))).take ((wr (((ar ++ ([(FixName.mk (fch text (wr (r.pos + 1))) false)] : (qfLop4))).length : Int) - 1)) : Int).toNat).length : Int), .own 3] 149 false]⟩ ?_
 refine En.ret ?_
 refine En.seal (T := (TT fLab)) (l := ([r_3.1] : (List (Tr FLab)))) (e := 83) 3 rfl ?_
 refine En.freeze [4] (by rfl) ?_
 refine En.ghost 4 (o1 (.rd (trR fLab (Tr.node (FLab.mk ch (((ar ++ ([(FixName.mk (fch text (wr (r.pos + 1))) false)] : (qfLop4))).take ((wr (((ar ++ ([(FixName.mk (fch text (wr (r.pos + 1))) false)] : (qfLop4))).length : Int) - 1)) : Int).toNat).length : Int)) ([r_3.1] : (List (Tr FLab))))))) (by rfl) (tree_of (lab := fLab) (x := (FLab.mk ch (((ar ++ ([(FixName.mk (fch text (wr (r.pos + 1))) false)] : (qfLop4))).take ((wr (((ar ++ ([(FixName.mk (fch text (wr (r.pos + 1))) false)] : (qfLop4))).length : Int) - 1)) : Int).toNat).length : Int))) (kids := ([r_3.1] : (List (Tr FLab)))) (i := 4) (by rfl) (by rfl) (by rfl)) ?_
 exact En.backE [0] ht ((Tr.node (FLab.mk ch (((ar ++ ([(FixName.mk (fch text (wr (r.pos + 1))) false)] : (qfLop4))).take ((wr (((ar ++ ([(FixName.mk (fch text (wr (r.pos + 1))) false)] : (qfLop4))).length : Int) - 1)) : Int).toNat).length : Int)) ([r_3.1] : (List (Tr FLab)))), r_3.2.pos, r_3.2.deep, r_3.2.cnt, ((ar ++ ([(FixName.mk (fch text (wr (r.pos + 1))) false)] : (qfLop4))).take ((wr (((ar ++ ([(FixName.mk (fch text (wr (r.pos + 1))) false)] : (qfLop4))).length : Int) - 1)) : Int).toNat)) h (by kernel_rfl) (by rfl) rfl
theorem en151 : ∀ args w, (callFunc 151 args).run Try.prog w = .ok (.enter 151 args) w := enters_of Try.func151 (by kernel_rfl) rfl
theorem fcst_no {s : FS} (h : fcnt s = none) : fcst s = none := ob_none h
theorem fcst_of {s s1 : FS} (h : fcnt s = some s1) : fcst s = some (fstep s1) := ob h
theorem wr_byte {c : Int} (h0 : 97 ≤ c) (h1 : c ≤ 100) : wr (IntKind.wrap .u8 (c - 97)) = c - 97 := let_inF h0 h1
theorem fArr_all (k : Nat) (text : ByteArray) (ar : Nms) (s : FS) (ch : Int) (hp : fOk (k + 1) 0 text ar s ∧ s.pos < text.size) (Q : FTr × Int × Int × Int × List FixName → Prop) (P : Prop) (h1 : arrF (pF text k 0) text ar ch s = none → P) (h2 : ∀ r, arrF (pF text k 0) text ar ch s = some r → Q (r.1, r.2.pos, r.2.deep, r.2.cnt, ar)) : fArr_vc k text s.pos s.deep s.cnt ar ch Q P := by
 obtain ⟨⟨hz, hk, hg, ha⟩, hlt⟩ := hp
 have w0 := hg.1.1
 unfold fArr_vc
 have body : ∀ s0, fcnt s = some s0 → arrF (pF text k 0) text ar ch s = if 97 ≤ fch text (s0.pos + 1) ∧ fch text (s0.pos + 1) ≤ 100 then (fwant (if ch = 60 then 62 else 93) text ⟨s0.pos + 1 + 1, s0.deep, s0.cnt⟩).bind fun s2 => (pF text k 0 ar s2).bind fun r => some (fn ch (fch text (s0.pos + 1) - 97) [r.1], r.2) else none := fun s0 z => ob (fcst_of z)
 refine ⟨⟨hg, hz⟩, fun z => h1 (ob_none (fcst_no z)), fun s0 z0 => ?_⟩
 have e0 := body s0 z0
 obtain ⟨rfl, hc⟩ := fcnt_some z0
 dsimp only at e0
 rw [e0] at h1
 simp only [e0] at h2
 have g1 : gF text ⟨s.pos + 1, s.deep, s.cnt + 1⟩ := by
  have := fcnt_g hg z0
  exact fstep_g this.1 hlt
 have e1 : wr (s.pos + 1) = s.pos + 1 := by rw [wr_in (by omega) (by omega)]
 rw [e1]
 refine ⟨by omega, fun h => ⟨by decide, h1 (if_neg fun hh => ?_)⟩, fun h => ?_⟩
 ·have := hh.1
  have := hh.2
  rw [Bool.or_eq_true, decide_eq_true_iff, decide_eq_true_iff] at h
  omega
 have c1 : 97 ≤ fch text (s.pos + 1) ∧ fch text (s.pos + 1) ≤ 100 := by
  rw [Bool.or_eq_false_iff, decide_eq_false_iff_not, decide_eq_false_iff_not] at h
  omega
 have hl := fch_lt (text := text) (p := s.pos + 1) (by omega)
 have e2 : wr (s.pos + 1 + 1) = s.pos + 1 + 1 := by rw [wr_in (by omega) (by omega)]
 have g2 : gF text ⟨s.pos + 1 + 1, s.deep, s.cnt + 1⟩ := fstep_g g1 hl
 rw [e2, wr_byte c1.1 c1.2]
 rw [if_pos c1] at h1
 simp only [if_pos c1] at h2
 refine ⟨fun p d n => fwant (if ch = 60 then 62 else 93) text ⟨s.pos + 1 + 1, s.deep, s.cnt + 1⟩ = some ⟨p, d, n⟩, ⟨fun h => ?_, fun h => ?_⟩, fun p d n z1 => ?_⟩
 ·have c2 : ch = 60 := eq_of_beq h
  rw [if_pos c2] at h1 ⊢
  exact ⟨⟨g2, hz, by decide⟩, fun z => h1 (ob_none z), fun r z => z⟩
 ·have c2 : ¬ ch = 60 := by simpa using h
  rw [if_neg c2] at h1 ⊢
  exact ⟨⟨g2, hz, by decide⟩, fun z => h1 (ob_none z), fun r z => z⟩
 ·obtain ⟨g3, q3⟩ := fwant_g (by split <;> decide) g2 z1
  have q3 : p = s.pos + 1 + 1 + 1 := q3
  refine ⟨fOk_of (s := ⟨p, d, n⟩) hz g3 ha (by show 4 * ((text.size : Int) - p) + _ < _; omega), fun z => h1 ((ob z1).trans (ob_none z)), fun r z => h2 (fn ch (fch text (s.pos + 1) - 97) [r.1], r.2) ((ob z1).trans (ob z))⟩
theorem fLop_all (k : Nat) (text : ByteArray) (ar : Nms) (s : FS) (ch : Int) (hp : fOk (k + 1) 0 text ar s ∧ s.pos < text.size) (Q : FTr × Int × Int × Int × List FixName → Prop) (P : Prop) (h1 : lpF (pF text k 0) text ar ch s = none → P) (h2 : ∀ r, lpF (pF text k 0) text ar ch s = some r → Q (r.1, r.2.pos, r.2.deep, r.2.cnt, ar)) : fLop_vc k text s.pos s.deep s.cnt ar ch Q P := by
 obtain ⟨⟨hz, hk, hg, ha⟩, hlt⟩ := hp
 have w0 := hg.1.1
 unfold fLop_vc
 unfold lpF at h1 h2
 refine ⟨fun h => ⟨by decide, h1 (if_pos (by have := eq_of_beq h; omega))⟩, fun h => ?_⟩
 have c0 : ¬ ar.length = 3 := by
  have := beq_eq_false_iff_ne.1 h
  omega
 rw [if_neg c0] at h1
 simp only [if_neg c0] at h2
 have body : ∀ s0, fcnt s = some s0 → ((fcst s).bind fun s1 => if 88 ≤ fch text s1.pos ∧ fch text s1.pos ≤ 90 then (fwant 46 text (fstep s1)).bind fun s2 => (pF text k 0 (ar ++ [⟨fch text s1.pos, false⟩]) s2).bind fun r => some (fn ch ar.length [r.1], r.2) else none) = if 88 ≤ fch text (s0.pos + 1) ∧ fch text (s0.pos + 1) ≤ 90 then (fwant 46 text ⟨s0.pos + 1 + 1, s0.deep, s0.cnt⟩).bind fun s2 => (pF text k 0 (ar ++ [⟨fch text (s0.pos + 1), false⟩]) s2).bind fun r => some (fn ch ar.length [r.1], r.2) else none := fun s0 z => ob (fcst_of z)
 refine ⟨⟨hg, hz⟩, fun z => h1 (ob_none (fcst_no z)), fun s0 z0 => ?_⟩
 have e0 := body s0 z0
 obtain ⟨rfl, hc⟩ := fcnt_some z0
 dsimp only at e0
 rw [e0] at h1
 simp only [e0] at h2
 have g1 : gF text ⟨s.pos + 1, s.deep, s.cnt + 1⟩ := by
  have := fcnt_g hg z0
  exact fstep_g this.1 hlt
 have e1 : wr (s.pos + 1) = s.pos + 1 := by rw [wr_in (by omega) (by omega)]
 rw [e1]
 refine ⟨by omega, fun h => ⟨by decide, h1 (if_neg fun hh => ?_)⟩, fun h => ?_⟩
 ·have := hh.1
  have := hh.2
  rw [Bool.or_eq_true, decide_eq_true_iff, decide_eq_true_iff] at h
  omega
 have c1 : 88 ≤ fch text (s.pos + 1) ∧ fch text (s.pos + 1) ≤ 90 := by
  rw [Bool.or_eq_false_iff, decide_eq_false_iff_not, decide_eq_false_iff_not] at h
  omega
 have hl := fch_lt (text := text) (p := s.pos + 1) (by omega)
 have e2 : wr (s.pos + 1 + 1) = s.pos + 1 + 1 := by rw [wr_in (by omega) (by omega)]
 have g2 : gF text ⟨s.pos + 1 + 1, s.deep, s.cnt + 1⟩ := fstep_g g1 hl
 rw [e2]
 rw [if_pos c1] at h1
 simp only [if_pos c1] at h2
 refine ⟨⟨g2, hz, by decide⟩, fun z => h1 (ob_none z), fun s2 z1 => ?_⟩
 obtain ⟨g3, q3⟩ := fwant_g (by decide) g2 z1
 have q3 : s2.pos = s.pos + 1 + 1 + 1 := q3
 have hla : (ar ++ [(⟨fch text (s.pos + 1), false⟩ : FixName)]).length = ar.length + 1 := by simp
 have e3 : wr (((ar ++ [(⟨fch text (s.pos + 1), false⟩ : FixName)]).length : Int) - 1) = ar.length := by rw [hla, wr_in (by omega) (by omega)]; omega
 refine ⟨by unfold capOk; simp only [List.length_singleton]; omega, fOk_of (s := s2) hz g3 (by rw [hla]; omega) (by show 4 * ((text.size : Int) - s2.pos) + _ < _; omega), fun z => h1 ((ob z1).trans (ob_none z)), fun r z => ?_⟩
 rw [e3]
 refine ⟨⟨by omega, by rw [hla]; omega⟩, ?_⟩
 rw [Int.toNat_natCast, List.take_left]
 exact h2 (fn ch ar.length [r.1], r.2) ((ob z1).trans (ob z))
theorem fArr_ok (k : Nat) (ih : FC k) (text : ByteArray) (pos deep cnt : Int) (ar : List FixName) (ch : Int) (hp : fOk (k + 1) 0 text ar ⟨pos, deep, cnt⟩ ∧ pos < text.size) (r : FTr × FS) (hx : arrF (pF text k 0) text ar ch ⟨pos, deep, cnt⟩ = some r) : CtE 150 [.sv (.one (.ptr 0 0)), .sv (.one (.v (.int .u8 ch)))] [.box [.v (.string text), I pos, I deep, I cnt, .own 1] 144 false, rowI 236 FixName.ty ar] [0] (fun (_ : Unit) => True) (fun _ => .sv (.one (.rd (trR fLab r.1)))) (fun _ => [.box [.v (.string text), I r.2.pos, I r.2.deep, I r.2.cnt, .own 1] 144 false, rowI 236 FixName.ty ar]) :=
 (fArr_walk k text pos deep cnt ar ch ih (fun x => x = (r.1, r.2.pos, r.2.deep, r.2.cnt, ar)) False (fArr_all k text ar ⟨pos, deep, cnt⟩ ch hp _ _ (fun e => by rw [hx] at e; cases e) (fun y e => by rw [hx] at e; cases e; rfl))).toE fun x hx => ⟨(), trivial, by subst hx; rfl, by subst hx; rfl⟩
theorem fArr_bad (k : Nat) (ih : FC k) (text : ByteArray) (pos deep cnt : Int) (ar : List FixName) (ch : Int) (hp : fOk (k + 1) 0 text ar ⟨pos, deep, cnt⟩ ∧ pos < text.size) (hx : arrF (pF text k 0) text ar ch ⟨pos, deep, cnt⟩ = none) : CtX 150 [.sv (.one (.ptr 0 0)), .sv (.one (.v (.int .u8 ch)))] [.box [.v (.string text), I pos, I deep, I cnt, .own 1] 144 false, rowI 236 FixName.ty ar] (psStop 140) :=
 (fArr_walk k text pos deep cnt ar ch ih (fun _ => False) True (fArr_all k text ar ⟨pos, deep, cnt⟩ ch hp _ _ (fun _ => trivial) (fun y e => by rw [hx] at e; cases e))).toX
theorem fLop_ok (k : Nat) (ih : FC k) (text : ByteArray) (pos deep cnt : Int) (ar : List FixName) (ch : Int) (hp : fOk (k + 1) 0 text ar ⟨pos, deep, cnt⟩ ∧ pos < text.size) (r : FTr × FS) (hx : lpF (pF text k 0) text ar ch ⟨pos, deep, cnt⟩ = some r) : CtE 151 [.sv (.one (.ptr 0 0)), .sv (.one (.v (.int .u8 ch)))] [.box [.v (.string text), I pos, I deep, I cnt, .own 1] 144 false, rowI 236 FixName.ty ar] [0] (fun (_ : Unit) => True) (fun _ => .sv (.one (.rd (trR fLab r.1)))) (fun _ => [.box [.v (.string text), I r.2.pos, I r.2.deep, I r.2.cnt, .own 1] 144 false, rowI 236 FixName.ty ar]) :=
 (fLop_walk k text pos deep cnt ar ch ih (fun x => x = (r.1, r.2.pos, r.2.deep, r.2.cnt, ar)) False (fLop_all k text ar ⟨pos, deep, cnt⟩ ch hp _ _ (fun e => by rw [hx] at e; cases e) (fun y e => by rw [hx] at e; cases e; rfl))).toE fun x hx => ⟨(), trivial, by subst hx; rfl, by subst hx; rfl⟩
theorem fLop_bad (k : Nat) (ih : FC k) (text : ByteArray) (pos deep cnt : Int) (ar : List FixName) (ch : Int) (hp : fOk (k + 1) 0 text ar ⟨pos, deep, cnt⟩ ∧ pos < text.size) (hx : lpF (pF text k 0) text ar ch ⟨pos, deep, cnt⟩ = none) : CtX 151 [.sv (.one (.ptr 0 0)), .sv (.one (.v (.int .u8 ch)))] [.box [.v (.string text), I pos, I deep, I cnt, .own 1] 144 false, rowI 236 FixName.ty ar] (psStop 140) :=
 (fLop_walk k text pos deep cnt ar ch ih (fun _ => False) True (fLop_all k text ar ⟨pos, deep, cnt⟩ ch hp _ _ (fun _ => trivial) (fun y e => by rw [hx] at e; cases e))).toX
def fPar_vc (k : Nat) (text : ByteArray) (pos : Int) (deep : Int) (cnt : Int) (ar : (List FixName)) (Q : (Tr FLab) × Int × Int × Int × (List FixName) → Prop) (P : Prop) : Prop :=
 (0 ≤ pos) ∧
 IfP (((fch text pos) == 48) || ((fch text pos) == 49)) ((gF text ⟨(pos), (deep), (cnt)⟩ ∧ text.size ≤ 4000) ∧
 ((fcnt ⟨(pos), (deep), (cnt)⟩) = none → P) ∧ ∀ r, (fcnt ⟨(pos), (deep), (cnt)⟩) = some r →
 (Q ((Tr.node (FLab.mk (fch text pos) 0) []), (wr ((r.pos) + 1)), (r.deep), (r.cnt), ((ar))))) (IfP ((fch text pos) == 33) ((gF text ⟨(pos), (deep), (cnt)⟩ ∧ text.size ≤ 4000) ∧
 ((fcnt ⟨(pos), (deep), (cnt)⟩) = none → P) ∧ ∀ r_2, (fcnt ⟨(pos), (deep), (cnt)⟩) = some r_2 →
 (((((ar))).length ≤ 1000) ∧
 (fOk k 0 text ((flipA ((ar)))) ⟨((wr ((r_2.pos) + 1))), ((r_2.deep)), ((r_2.cnt))⟩) ∧
 ((pF text k 0 ((flipA ((ar)))) ⟨((wr ((r_2.pos) + 1))), ((r_2.deep)), ((r_2.cnt))⟩) = none → P) ∧ ∀ r_3, (pF text k 0 ((flipA ((ar)))) ⟨((wr ((r_2.pos) + 1))), ((r_2.deep)), ((r_2.cnt))⟩) = some r_3 →
 ((((((flipA ((ar)))))).length ≤ 1000) ∧
 Q ((Tr.node (FLab.mk 33 0) ([(r_3.1)] : (List (Tr FLab)))), ((r_3.2.pos)), ((r_3.2.deep)), ((r_3.2.cnt)), ((flipA (((flipA ((ar))))))))))) (IfP (((fch text pos) == 60) || ((fch text pos) == 91)) ((fOk (k + 1) 0 text (ar) ⟨(pos), (deep), (cnt)⟩ ∧ (pos) < text.size) ∧
 ((arrF (pF text k 0) text (ar) (fch text pos) ⟨(pos), (deep), (cnt)⟩) = none → P) ∧ ∀ r_4, (arrF (pF text k 0) text (ar) (fch text pos) ⟨(pos), (deep), (cnt)⟩) = some r_4 →
 (Q ((r_4.1), (r_4.2.pos), (r_4.2.deep), (r_4.2.cnt), ((ar))))) (IfP (((fch text pos) == 109) || ((fch text pos) == 110)) ((fOk (k + 1) 0 text (ar) ⟨(pos), (deep), (cnt)⟩ ∧ (pos) < text.size) ∧
 ((lpF (pF text k 0) text (ar) (fch text pos) ⟨(pos), (deep), (cnt)⟩) = none → P) ∧ ∀ r_5, (lpF (pF text k 0) text (ar) (fch text pos) ⟨(pos), (deep), (cnt)⟩) = some r_5 →
 (Q ((r_5.1), (r_5.2.pos), (r_5.2.deep), (r_5.2.cnt), ((ar))))) (IfP ((decide ((fch text pos) ≥ 88)) && (decide ((fch text pos) ≤ 90))) ((gF text ⟨(pos), (deep), (cnt)⟩ ∧ text.size ≤ 4000 ∧ (pos) < text.size ∧ ((ar)).length ≤ 1000) ∧
 ((namF (ar) (fch text pos) ⟨(pos), (deep), (cnt)⟩) = none → P) ∧ ∀ r_6, (namF (ar) (fch text pos) ⟨(pos), (deep), (cnt)⟩) = some r_6 →
 (Q ((r_6.1), (r_6.2.pos), (r_6.2.deep), (r_6.2.cnt), ((ar))))) (IfP ((fch text pos) != 40) (((4 : Int) ≠ 0) ∧
 P) (IfP ((deep) == 40) (((7 : Int) ≠ 0) ∧
 P) ((fOk k 2 text (ar) ⟨(wr ((pos) + 1)), (wr ((deep) + 1)), (cnt)⟩) ∧
 ((pF text k 2 (ar) ⟨(wr ((pos) + 1)), (wr ((deep) + 1)), (cnt)⟩) = none → P) ∧ ∀ r_7, (pF text k 2 (ar) ⟨(wr ((pos) + 1)), (wr ((deep) + 1)), (cnt)⟩) = some r_7 →
 ((gF text ⟨(r_7.2.pos), (r_7.2.deep), (r_7.2.cnt)⟩ ∧ text.size ≤ 4000 ∧ (41 : Int) ≠ 0) ∧
 ((fwant 41 text ⟨(r_7.2.pos), (r_7.2.deep), (r_7.2.cnt)⟩) = none → P) ∧ ∀ r_8, (fwant 41 text ⟨(r_7.2.pos), (r_7.2.deep), (r_7.2.cnt)⟩) = some r_8 →
 (Q ((r_7.1), (r_8.pos), (wr ((r_8.deep) - 1)), (r_8.cnt), (((ar)))))))))))))
noncomputable abbrev qfPar0 (text : ByteArray) (pos : Int) (deep : Int) (cnt : Int) (ar : (List FixName)) := ([.box [.v (.string text), I pos, I deep, I cnt, .own 1] 144 false, rowI 236 FixName.ty ar] : List Item)
noncomputable abbrev qfPar1 (y0 : Nat → Nat) := sl 0 (.pptr 0 0 (y0 0))
noncomputable abbrev qfPar2 (text : ByteArray) (pos : Int) := sl 3 (.v (.int .u8 (fch text pos)))
set_option maxHeartbeats 2000000 in
theorem fPar_walk (k : Nat) (text : ByteArray) (pos : Int) (deep : Int) (cnt : Int) (ar : (List FixName)) (ih : FC k) (Q : (Tr FLab) × Int × Int × Int × (List FixName) → Prop) (P : Prop) (h : fPar_vc k text pos deep cnt ar Q P) : CtP 136 [.sv (.one (.ptr 0 0))] [.box [.v (.string text), I pos, I deep, I cnt, .own 1] 144 false, rowI 236 FixName.ty ar] [0] Q (fun (r : (Tr FLab) × Int × Int × Int × (List FixName)) => .sv (.one (.rd (trR fLab r.1)))) (fun (r : (Tr FLab) × Int × Int × Int × (List FixName)) => [.box [.v (.string text), I r.2.1, I r.2.2.1, I r.2.2.2.1, .own 1] 144 false, rowI 236 FixName.ty r.2.2.2.2]) (psStop 140) P := by
 have ht := tab_ok
 refine CtP.body Try.func136 rfl rfl rfl (by kernel_rfl) (by kernel_rfl) (fun c Bk hn hpan => ?_)
 unfold fPar_vc at h
 show En c ⟨[(qfPar1 Bk)], (qfPar0 text pos deep cnt ar)⟩ _
 refine En.sr ?_
 refine WL.rn ht hn 1 ⟨[(qfPar1 Bk)], (qfPar0 text pos deep cnt ar)⟩ ?_
 refine En.sr ?_
 refine WL.r ht hn 1 ⟨[(qfPar1 Bk), sl 6 (.ptr 0 0)], (qfPar0 text pos deep cnt ar)⟩ ?_
 obtain ⟨hp, h⟩ := h
 refine WL.cE (fNow_ct text pos deep cnt ar hp) en110 [0, 1] hn rfl ?_
 refine WL.rn ht hn 1 ⟨[(qfPar1 Bk), (qfPar2 text pos)], (qfPar0 text pos deep cnt ar)⟩ ?_
 refine En.seq ?_
 refine En.block ?_
 refine En.sr ?_
 refine WL.r ht hn 3 ⟨[(qfPar1 Bk), (qfPar2 text pos), sl 11 (B ((fch text pos) == 48))], (qfPar0 text pos deep cnt ar)⟩ ?_
 refine WL.thru ⟨[(qfPar1 Bk), (qfPar2 text pos), sl 8 (B (((fch text pos) == 48) || ((fch text pos) == 49)))], (qfPar0 text pos deep cnt ar)⟩ ?_ ?_
 refine splitB ((fch text pos) == 48) (fun hb0 => ?_) (fun hb0 => ?_)
 refine WL.sB 11 hb0 ?_
 refine WL.r ht hn 4 ⟨[(qfPar1 Bk), (qfPar2 text pos), sl 8 (B true)], (qfPar0 text pos deep cnt ar)⟩ ?_
 exact WL.nil (sub_ok (by simp only [hb0]; kernel_rfl))
 refine WL.sB 11 hb0 ?_
 refine WL.r ht hn 4 ⟨[(qfPar1 Bk), (qfPar2 text pos), sl 8 (B ((fch text pos) == 49))], (qfPar0 text pos deep cnt ar)⟩ ?_
 exact WL.nil (sub_ok (by simp only [hb0]; kernel_rfl))
 refine En.cd (b := (((fch text pos) == 48) || ((fch text pos) == 49))) (fun hb => ?_) (fun hb => ?_)
 replace h := h.1 hb
 refine En.sr ?_
 refine WL.r ht hn 1 ⟨[(qfPar1 Bk), (qfPar2 text pos), sl 15 (.ptr 0 0)], (qfPar0 text pos deep cnt ar)⟩ ?_
 obtain ⟨hp, h⟩ := h
 refine splitO (fcnt ⟨pos, deep, cnt⟩) (fun hr_2 => ?_) (fun r hr_2 => ?_)
 exact WL.cX (fCnt_bad text pos deep cnt ar hp hr_2) en111 [0, 1] rfl (leftX hpan (h.1 hr_2))
 replace h := h.2 r hr_2
 refine WL.cE (fCnt_ok text pos deep cnt ar hp r hr_2) en111 [0, 1] hn rfl ?_
 refine WL.nil ?_
 refine En.sr ?_
 refine WL.rn ht hn 8 ⟨[(qfPar1 Bk), (qfPar2 text pos)], [.box [.v (.string text), I (wr (r.pos + 1)), I r.deep, I r.cnt, .own 1] 144 false, rowI 236 FixName.ty ar]⟩ ?_
 refine En.sr ?_
 refine WL.rn ht hn 4 ⟨[(qfPar1 Bk), sl 2 (.ptr 2 0)], [.box [.v (.string text), I (wr (r.pos + 1)), I r.deep, I r.cnt, .own 1] 144 false, rowI 236 FixName.ty ar, .box [.v (.int .u8 (fch text pos)), I 0, .v (.slice none 0 0)] 149 false]⟩ ?_
 refine En.ret ?_
 refine En.nilBox (T := (TT fLab)) 2 2 (by rfl) (by rfl) ?_
 refine En.freeze [2] (by rfl) ?_
 refine En.ghost 2 (o1 (.rd (trR fLab (Tr.node (FLab.mk (fch text pos) 0) [])))) (by rfl) (tree_of (lab := fLab) (x := (FLab.mk (fch text pos) 0)) (kids := []) (i := 2) (by rfl) (by rfl) (by rfl)) ?_
 exact En.backE [0] ht ((Tr.node (FLab.mk (fch text pos) 0) []), (wr (r.pos + 1)), r.deep, r.cnt, ar) h (by kernel_rfl) (by rfl) rfl
 replace h := h.2 hb
 refine En.sr ?_
 refine WL.rn ht hn 3 ⟨[(qfPar1 Bk), (qfPar2 text pos), sl 27 (B ((fch text pos) == 33))], (qfPar0 text pos deep cnt ar)⟩ ?_
 refine En.cd (b := ((fch text pos) == 33)) (fun hb => ?_) (fun hb => ?_)
 replace h := h.1 hb
 refine En.sr ?_
 refine WL.r ht hn 1 ⟨[(qfPar1 Bk), sl 30 (.ptr 0 0)], (qfPar0 text pos deep cnt ar)⟩ ?_
 obtain ⟨hp, h⟩ := h
 refine splitO (fcnt ⟨pos, deep, cnt⟩) (fun hr_3 => ?_) (fun r_2 hr_3 => ?_)
 exact WL.cX (fCnt_bad text pos deep cnt ar hp hr_3) en111 [0, 1] rfl (leftX hpan (h.1 hr_3))
 replace h := h.2 r_2 hr_3
 refine WL.cE (fCnt_ok text pos deep cnt ar hp r_2 hr_3) en111 [0, 1] hn rfl ?_
 refine WL.nil ?_
 refine En.sr ?_
 refine WL.rn ht hn 8 ⟨[(qfPar1 Bk)], [.box [.v (.string text), I (wr (r_2.pos + 1)), I r_2.deep, I r_2.cnt, .own 1] 144 false, rowI 236 FixName.ty ar]⟩ ?_
 refine En.sr ?_
 refine WL.r ht hn 1 ⟨[(qfPar1 Bk), sl 39 (.ptr 0 0)], [.box [.v (.string text), I (wr (r_2.pos + 1)), I r_2.deep, I r_2.cnt, .own 1] 144 false, rowI 236 FixName.ty ar]⟩ ?_
 obtain ⟨hp, h⟩ := h
 refine WL.cE (fTurn_ct text (wr (r_2.pos + 1)) r_2.deep r_2.cnt ar hp) en149 [0, 1] hn rfl ?_
 refine WL.nil ?_
 refine En.sr ?_
 refine WL.r ht hn 1 ⟨[(qfPar1 Bk), sl 41 (.ptr 0 0)], [.box [.v (.string text), I (wr (r_2.pos + 1)), I r_2.deep, I r_2.cnt, .own 1] 144 false, rowI 236 FixName.ty (flipA ar)]⟩ ?_
 obtain ⟨hp, h⟩ := h
 refine splitO (pF text k 0 (flipA ar) ⟨(wr (r_2.pos + 1)), r_2.deep, r_2.cnt⟩) (fun hr_4 => ?_) (fun r_3 hr_4 => ?_)
 exact WL.cX (fI0_bad k ih text (wr (r_2.pos + 1)) r_2.deep r_2.cnt (flipA ar) hp hr_4) en136 [0, 1] rfl (leftX hpan (h.1 hr_4))
 replace h := h.2 r_3 hr_4
 refine WL.cE (fI0_ok k ih text (wr (r_2.pos + 1)) r_2.deep r_2.cnt (flipA ar) hp r_3 hr_4) en136 [0, 1] hn rfl ?_
 refine WL.rn ht hn 1 ⟨[(qfPar1 Bk), sl 4 (.rd (trR fLab r_3.1))], [.box [.v (.string text), I r_3.2.pos, I r_3.2.deep, I r_3.2.cnt, .own 1] 144 false, rowI 236 FixName.ty (flipA ar)]⟩ ?_
 refine En.sr ?_
 refine WL.r ht hn 1 ⟨[(qfPar1 Bk), sl 4 (.rd (trR fLab r_3.1)), sl 43 (.ptr 0 0)], [.box [.v (.string text), I r_3.2.pos, I r_3.2.deep, I r_3.2.cnt, .own 1] 144 false, rowI 236 FixName.ty (flipA ar)]⟩ ?_
 obtain ⟨hp, h⟩ := h
 refine WL.cE (fTurn_ct text r_3.2.pos r_3.2.deep r_3.2.cnt (flipA ar) hp) en149 [0, 1] hn rfl ?_
 refine WL.nil ?_
 refine En.sr ?_
 refine WL.r ht hn 1 ⟨[(qfPar1 Bk), sl 45 (.rd (trR fLab r_3.1))], [.box [.v (.string text), I r_3.2.pos, I r_3.2.deep, I r_3.2.cnt, .own 1] 144 false, rowI 236 FixName.ty (flipA (flipA ar))]⟩ ?_
 refine WL.mt0 (K := []) (p := some (2, rowI 83 (TT fLab) ([r_3.1] : (List (Tr FLab))))) hn (by rfl) (mt_lit (T := (TT fLab)) ([r_3.1] : (List (Tr FLab))) (mt_bsl 2 (r := cellsOf (TT fLab) ([r_3.1] : (List (Tr FLab)))) ht rfl (by rfl) (by rfl) (by rfl) (by kernel_rfl) (by rfl)) (fun _ h => by cases h) (fun _ => rfl) (fun _ => rfl) (by rfl) (Nat.le_of_ble_eq_true rfl)) (by rfl) (by rfl) (by rfl) ?_
 refine WL.rn ht hn 3 ⟨[(qfPar1 Bk), sl 2 (.ptr 3 0)], [.box [.v (.string text), I r_3.2.pos, I r_3.2.deep, I r_3.2.cnt, .own 1] 144 false, rowI 236 FixName.ty (flipA (flipA ar)), rowI 83 (TT fLab) ([r_3.1] : (List (Tr FLab))), .box [.v (.int .u8 33), I 0, .own 2] 149 false]⟩ ?_
 refine En.ret ?_
 refine En.seal (T := (TT fLab)) (l := ([r_3.1] : (List (Tr FLab)))) (e := 83) 2 rfl ?_
 refine En.freeze [3] (by rfl) ?_
 refine En.ghost 2 (o1 (.rd (trR fLab (Tr.node (FLab.mk 33 0) ([r_3.1] : (List (Tr FLab))))))) (by rfl) (tree_of (lab := fLab) (x := (FLab.mk 33 0)) (kids := ([r_3.1] : (List (Tr FLab)))) (i := 3) (by rfl) (by rfl) (by rfl)) ?_
 exact En.backE [0] ht ((Tr.node (FLab.mk 33 0) ([r_3.1] : (List (Tr FLab)))), r_3.2.pos, r_3.2.deep, r_3.2.cnt, (flipA (flipA ar))) h (by kernel_rfl) (by rfl) rfl
 replace h := h.2 hb
 refine En.sr ?_
 refine WL.r ht hn 3 ⟨[(qfPar1 Bk), (qfPar2 text pos), sl 52 (B ((fch text pos) == 60))], (qfPar0 text pos deep cnt ar)⟩ ?_
 refine WL.thru ⟨[(qfPar1 Bk), (qfPar2 text pos), sl 49 (B (((fch text pos) == 60) || ((fch text pos) == 91)))], (qfPar0 text pos deep cnt ar)⟩ ?_ ?_
 refine splitB ((fch text pos) == 60) (fun hb0 => ?_) (fun hb0 => ?_)
 refine WL.sB 52 hb0 ?_
 refine WL.r ht hn 4 ⟨[(qfPar1 Bk), (qfPar2 text pos), sl 49 (B true)], (qfPar0 text pos deep cnt ar)⟩ ?_
 exact WL.nil (sub_ok (by simp only [hb0]; kernel_rfl))
 refine WL.sB 52 hb0 ?_
 refine WL.r ht hn 4 ⟨[(qfPar1 Bk), (qfPar2 text pos), sl 49 (B ((fch text pos) == 91))], (qfPar0 text pos deep cnt ar)⟩ ?_
 exact WL.nil (sub_ok (by simp only [hb0]; kernel_rfl))
 refine En.cd (b := (((fch text pos) == 60) || ((fch text pos) == 91))) (fun hb => ?_) (fun hb => ?_)
 replace h := h.1 hb
 refine En.sr ?_
 refine WL.r ht hn 2 ⟨[(qfPar1 Bk), sl 56 (.ptr 0 0), sl 57 (.v (.int .u8 (fch text pos)))], (qfPar0 text pos deep cnt ar)⟩ ?_
 obtain ⟨hp, h⟩ := h
 refine splitO (arrF (pF text k 0) text ar (fch text pos) ⟨pos, deep, cnt⟩) (fun hr_5 => ?_) (fun r_4 hr_5 => ?_)
 exact WL.cX (fArr_bad k ih text pos deep cnt ar (fch text pos) hp hr_5) en150 [0, 1] rfl (leftX hpan (h.1 hr_5))
 replace h := h.2 r_4 hr_5
 refine WL.cE (fArr_ok k ih text pos deep cnt ar (fch text pos) hp r_4 hr_5) en150 [0, 1] hn rfl ?_
 refine WL.rn ht hn 1 ⟨[(qfPar1 Bk), sl 2 (.rd (trR fLab r_4.1))], [.box [.v (.string text), I r_4.2.pos, I r_4.2.deep, I r_4.2.cnt, .own 1] 144 false, rowI 236 FixName.ty ar]⟩ ?_
 refine En.ret ?_
 exact En.backE [0] ht (r_4.1, r_4.2.pos, r_4.2.deep, r_4.2.cnt, ar) h (by kernel_rfl) (by rfl) rfl
 replace h := h.2 hb
 refine En.sr ?_
 refine WL.r ht hn 3 ⟨[(qfPar1 Bk), (qfPar2 text pos), sl 62 (B ((fch text pos) == 109))], (qfPar0 text pos deep cnt ar)⟩ ?_
 refine WL.thru ⟨[(qfPar1 Bk), (qfPar2 text pos), sl 59 (B (((fch text pos) == 109) || ((fch text pos) == 110)))], (qfPar0 text pos deep cnt ar)⟩ ?_ ?_
 refine splitB ((fch text pos) == 109) (fun hb0 => ?_) (fun hb0 => ?_)
 refine WL.sB 62 hb0 ?_
 refine WL.r ht hn 4 ⟨[(qfPar1 Bk), (qfPar2 text pos), sl 59 (B true)], (qfPar0 text pos deep cnt ar)⟩ ?_
 exact WL.nil (sub_ok (by simp only [hb0]; kernel_rfl))
 refine WL.sB 62 hb0 ?_
 refine WL.r ht hn 4 ⟨[(qfPar1 Bk), (qfPar2 text pos), sl 59 (B ((fch text pos) == 110))], (qfPar0 text pos deep cnt ar)⟩ ?_
 exact WL.nil (sub_ok (by simp only [hb0]; kernel_rfl))
 refine En.cd (b := (((fch text pos) == 109) || ((fch text pos) == 110))) (fun hb => ?_) (fun hb => ?_)
 replace h := h.1 hb
 refine En.sr ?_
 refine WL.r ht hn 2 ⟨[(qfPar1 Bk), sl 66 (.ptr 0 0), sl 67 (.v (.int .u8 (fch text pos)))], (qfPar0 text pos deep cnt ar)⟩ ?_
 obtain ⟨hp, h⟩ := h
 refine splitO (lpF (pF text k 0) text ar (fch text pos) ⟨pos, deep, cnt⟩) (fun hr_6 => ?_) (fun r_5 hr_6 => ?_)
 exact WL.cX (fLop_bad k ih text pos deep cnt ar (fch text pos) hp hr_6) en151 [0, 1] rfl (leftX hpan (h.1 hr_6))
 replace h := h.2 r_5 hr_6
 refine WL.cE (fLop_ok k ih text pos deep cnt ar (fch text pos) hp r_5 hr_6) en151 [0, 1] hn rfl ?_
 refine WL.rn ht hn 1 ⟨[(qfPar1 Bk), sl 2 (.rd (trR fLab r_5.1))], [.box [.v (.string text), I r_5.2.pos, I r_5.2.deep, I r_5.2.cnt, .own 1] 144 false, rowI 236 FixName.ty ar]⟩ ?_
 refine En.ret ?_
 exact En.backE [0] ht (r_5.1, r_5.2.pos, r_5.2.deep, r_5.2.cnt, ar) h (by kernel_rfl) (by rfl) rfl
 replace h := h.2 hb
 refine En.sr ?_
 refine WL.r ht hn 3 ⟨[(qfPar1 Bk), (qfPar2 text pos), sl 72 (B (decide ((fch text pos) ≥ 88)))], (qfPar0 text pos deep cnt ar)⟩ ?_
 refine WL.thru ⟨[(qfPar1 Bk), (qfPar2 text pos), sl 69 (B ((decide ((fch text pos) ≥ 88)) && (decide ((fch text pos) ≤ 90))))], (qfPar0 text pos deep cnt ar)⟩ ?_ ?_
 refine splitB (decide ((fch text pos) ≥ 88)) (fun hb0 => ?_) (fun hb0 => ?_)
 refine WL.sB 72 hb0 ?_
 refine WL.r ht hn 4 ⟨[(qfPar1 Bk), (qfPar2 text pos), sl 69 (B (decide ((fch text pos) ≤ 90)))], (qfPar0 text pos deep cnt ar)⟩ ?_
 exact WL.nil (sub_ok (by simp only [hb0]; kernel_rfl))
 refine WL.sB 72 hb0 ?_
 refine WL.r ht hn 4 ⟨[(qfPar1 Bk), (qfPar2 text pos), sl 69 (B false)], (qfPar0 text pos deep cnt ar)⟩ ?_
 exact WL.nil (sub_ok (by simp only [hb0]; kernel_rfl))
 refine En.cd (b := ((decide ((fch text pos) ≥ 88)) && (decide ((fch text pos) ≤ 90)))) (fun hb => ?_) (fun hb => ?_)
 replace h := h.1 hb
 refine En.sr ?_
 refine WL.r ht hn 2 ⟨[(qfPar1 Bk), sl 76 (.ptr 0 0), sl 77 (.v (.int .u8 (fch text pos)))], (qfPar0 text pos deep cnt ar)⟩ ?_
 obtain ⟨hp, h⟩ := h
 refine splitO (namF ar (fch text pos) ⟨pos, deep, cnt⟩) (fun hr_7 => ?_) (fun r_6 hr_7 => ?_)
 exact WL.cX (fNam_bad text pos deep cnt ar (fch text pos) hp hr_7) en152 [0, 1] rfl (leftX hpan (h.1 hr_7))
 replace h := h.2 r_6 hr_7
 refine WL.cE (fNam_ok text pos deep cnt ar (fch text pos) hp r_6 hr_7) en152 [0, 1] hn rfl ?_
 refine WL.rn ht hn 1 ⟨[(qfPar1 Bk), sl 2 (.rd (trR fLab r_6.1))], [.box [.v (.string text), I r_6.2.pos, I r_6.2.deep, I r_6.2.cnt, .own 1] 144 false, rowI 236 FixName.ty ar]⟩ ?_
 refine En.ret ?_
 exact En.backE [0] ht (r_6.1, r_6.2.pos, r_6.2.deep, r_6.2.cnt, ar) h (by kernel_rfl) (by rfl) rfl
 replace h := h.2 hb
 refine En.sr ?_
 refine WL.rn ht hn 3 ⟨[(qfPar1 Bk), sl 79 (B ((fch text pos) != 40))], (qfPar0 text pos deep cnt ar)⟩ ?_
 refine En.cd (b := ((fch text pos) != 40)) (fun hb => ?_) (fun hb => ?_)
 replace h := h.1 hb
 refine En.region ?_
 refine WL.r ht hn 1 ⟨[(qfPar1 Bk), sl 82 (.ptr 0 0)], (qfPar0 text pos deep cnt ar)⟩ ?_
 obtain ⟨hp, h⟩ := h
 exact WL.cX (fFail_ct text pos deep cnt ar 4 hp) en75 [0, 1] rfl (leftX hpan h)
 replace h := h.2 hb
 refine En.sr ?_
 refine WL.rn ht hn 6 ⟨[(qfPar1 Bk), sl 84 (B (deep == 40))], (qfPar0 text pos deep cnt ar)⟩ ?_
 refine En.cd (b := (deep == 40)) (fun hb => ?_) (fun hb => ?_)
 replace h := h.1 hb
 refine En.region ?_
 refine WL.r ht hn 1 ⟨[(qfPar1 Bk), sl 90 (.ptr 0 0)], (qfPar0 text pos deep cnt ar)⟩ ?_
 obtain ⟨hp, h⟩ := h
 exact WL.cX (fFail_ct text pos deep cnt ar 7 hp) en75 [0, 1] rfl (leftX hpan h)
 replace h := h.2 hb
 refine En.skip ?_
 refine En.sr ?_
 refine WL.rn ht hn 8 ⟨[(qfPar1 Bk)], [.box [.v (.string text), I pos, I (wr (deep + 1)), I cnt, .own 1] 144 false, rowI 236 FixName.ty ar]⟩ ?_
 refine En.sr ?_
 refine WL.rn ht hn 8 ⟨[(qfPar1 Bk)], [.box [.v (.string text), I (wr (pos + 1)), I (wr (deep + 1)), I cnt, .own 1] 144 false, rowI 236 FixName.ty ar]⟩ ?_
 refine En.sr ?_
 refine WL.r ht hn 1 ⟨[(qfPar1 Bk), sl 106 (.ptr 0 0)], [.box [.v (.string text), I (wr (pos + 1)), I (wr (deep + 1)), I cnt, .own 1] 144 false, rowI 236 FixName.ty ar]⟩ ?_
 obtain ⟨hp, h⟩ := h
 refine splitO (pF text k 2 ar ⟨(wr (pos + 1)), (wr (deep + 1)), cnt⟩) (fun hr_8 => ?_) (fun r_7 hr_8 => ?_)
 exact WL.cX (fI2_bad k ih text (wr (pos + 1)) (wr (deep + 1)) cnt ar hp hr_8) en74 [0, 1] rfl (leftX hpan (h.1 hr_8))
 replace h := h.2 r_7 hr_8
 refine WL.cE (fI2_ok k ih text (wr (pos + 1)) (wr (deep + 1)) cnt ar hp r_7 hr_8) en74 [0, 1] hn rfl ?_
 refine WL.rn ht hn 1 ⟨[(qfPar1 Bk), sl 5 (.rd (trR fLab r_7.1))], [.box [.v (.string text), I r_7.2.pos, I r_7.2.deep, I r_7.2.cnt, .own 1] 144 false, rowI 236 FixName.ty ar]⟩ ?_
 refine En.sr ?_
 refine WL.r ht hn 1 ⟨[(qfPar1 Bk), sl 5 (.rd (trR fLab r_7.1)), sl 108 (.ptr 0 0)], [.box [.v (.string text), I r_7.2.pos, I r_7.2.deep, I r_7.2.cnt, .own 1] 144 false, rowI 236 FixName.ty ar]⟩ ?_
 obtain ⟨hp, h⟩ := h
 refine splitO (fwant 41 text ⟨r_7.2.pos, r_7.2.deep, r_7.2.cnt⟩) (fun hr_9 => ?_) (fun r_8 hr_9 => ?_)
 exact WL.cX (fWnt_bad text r_7.2.pos r_7.2.deep r_7.2.cnt ar 41 hp hr_9) en153 [0, 1] rfl (leftX hpan (h.1 hr_9))
 replace h := h.2 r_8 hr_9
 refine WL.cE (fWnt_ok text r_7.2.pos r_7.2.deep r_7.2.cnt ar 41 hp r_8 hr_9) en153 [0, 1] hn rfl ?_
 refine WL.nil ?_
 refine En.sr ?_
 refine WL.rn ht hn 8 ⟨[(qfPar1 Bk), sl 5 (.rd (trR fLab r_7.1))], [.box [.v (.string text), I r_8.pos, I (wr (r_8.deep - 1)), I r_8.cnt, .own 1] 144 false, rowI 236 FixName.ty ar]⟩ ?_
 refine En.sr ?_
 refine WL.rn ht hn 2 ⟨[(qfPar1 Bk), sl 2 (.rd (trR fLab r_7.1))], [.box [.v (.string text), I r_8.pos, I (wr (r_8.deep - 1)), I r_8.cnt, .own 1] 144 false, rowI 236 FixName.ty ar]⟩ ?_
 refine En.ret ?_
 exact En.backE [0] ht (r_7.1, r_8.pos, (wr (r_8.deep - 1)), r_8.cnt, ar) h (by kernel_rfl) (by rfl) rfl
def fTrm_vc (k : Nat) (text : ByteArray) (pos : Int) (deep : Int) (cnt : Int) (ar : (List FixName)) (Q : (Tr FLab) × Int × Int × Int × (List FixName) → Prop) (P : Prop) : Prop :=
 (fOk k 0 text ar ⟨pos, deep, cnt⟩) ∧
 ((pF text k 0 ar ⟨pos, deep, cnt⟩) = none → P) ∧ ∀ r, (pF text k 0 ar ⟨pos, deep, cnt⟩) = some r →
 (∃ (Inv : (Tr FLab) → Int → Int → Int → (List FixName) → Prop) (mu : (Tr FLab) → Int → Int → Int → (List FixName) → Nat), Inv (r.1) (r.2.pos) (r.2.deep) (r.2.cnt) (ar) ∧
 ∀ (x3 : (Tr FLab)) (y01 : Int) (y02 : Int) (y03 : Int) (l1 : (List FixName)) , Inv x3 y01 y02 y03 l1 → ((0 ≤ y01) ∧
 IfP ((fch text y01) == 38) ((gF text ⟨(y01), (y02), (y03)⟩ ∧ text.size ≤ 4000) ∧
 ((fcnt ⟨(y01), (y02), (y03)⟩) = none → P) ∧ ∀ r_2, (fcnt ⟨(y01), (y02), (y03)⟩) = some r_2 →
 ((fOk k 0 text ((l1)) ⟨(wr ((r_2.pos) + 1)), (r_2.deep), (r_2.cnt)⟩) ∧
 ((pF text k 0 ((l1)) ⟨(wr ((r_2.pos) + 1)), (r_2.deep), (r_2.cnt)⟩) = none → P) ∧ ∀ r_3, (pF text k 0 ((l1)) ⟨(wr ((r_2.pos) + 1)), (r_2.deep), (r_2.cnt)⟩) = some r_3 →
 ((Inv (Tr.node (FLab.mk 38 0) ([x3, (r_3.1)] : (List (Tr FLab)))) (r_3.2.pos) (r_3.2.deep) (r_3.2.cnt) (((l1))) ∧ mu (Tr.node (FLab.mk 38 0) ([x3, (r_3.1)] : (List (Tr FLab)))) (r_3.2.pos) (r_3.2.deep) (r_3.2.cnt) (((l1))) < mu x3 y01 y02 y03 l1)))) (Q (x3, (y01), (y02), (y03), (l1)))))
noncomputable abbrev qfTrm0 (text : ByteArray) (y0 : Int) (y1 : Int) (y2 : Int) (y3) := ([.box [.v (.string text), I y0, I y1, I y2, .own 1] 144 false, rowI 236 FixName.ty y3] : List Item)
noncomputable abbrev qfTrm1 (y0 : Nat → Nat) := sl 0 (.pptr 0 0 (y0 0))
theorem fTrm_walk (k : Nat) (text : ByteArray) (pos : Int) (deep : Int) (cnt : Int) (ar : (List FixName)) (ih : FC k) (Q : (Tr FLab) × Int × Int × Int × (List FixName) → Prop) (P : Prop) (h : fTrm_vc k text pos deep cnt ar Q P) : CtP 109 [.sv (.one (.ptr 0 0))] [.box [.v (.string text), I pos, I deep, I cnt, .own 1] 144 false, rowI 236 FixName.ty ar] [0] Q (fun (r : (Tr FLab) × Int × Int × Int × (List FixName)) => .sv (.one (.rd (trR fLab r.1)))) (fun (r : (Tr FLab) × Int × Int × Int × (List FixName)) => [.box [.v (.string text), I r.2.1, I r.2.2.1, I r.2.2.2.1, .own 1] 144 false, rowI 236 FixName.ty r.2.2.2.2]) (psStop 140) P := by
 have ht := tab_ok
 refine CtP.body Try.func109 rfl rfl rfl (by kernel_rfl) (by kernel_rfl) (fun c Bk hn hpan => ?_)
 unfold fTrm_vc at h
 show En c ⟨[(qfTrm1 Bk)], [.box [.v (.string text), I pos, I deep, I cnt, .own 1] 144 false, rowI 236 FixName.ty ar]⟩ _
 refine En.sr ?_
 refine WL.rn ht hn 1 ⟨[(qfTrm1 Bk)], [.box [.v (.string text), I pos, I deep, I cnt, .own 1] 144 false, rowI 236 FixName.ty ar]⟩ ?_
 refine En.sr ?_
 refine WL.r ht hn 1 ⟨[(qfTrm1 Bk), sl 4 (.ptr 0 0)], [.box [.v (.string text), I pos, I deep, I cnt, .own 1] 144 false, rowI 236 FixName.ty ar]⟩ ?_
 obtain ⟨hp, h⟩ := h
 refine splitO (pF text k 0 ar ⟨pos, deep, cnt⟩) (fun hr_2 => ?_) (fun r hr_2 => ?_)
 exact WL.cX (fI0_bad k ih text pos deep cnt ar hp hr_2) en136 [0, 1] rfl (leftX hpan (h.1 hr_2))
 replace h := h.2 r hr_2
 refine WL.cE (fI0_ok k ih text pos deep cnt ar hp r hr_2) en136 [0, 1] hn rfl ?_
 refine WL.rn ht hn 1 ⟨[(qfTrm1 Bk), sl 3 (.rd (trR fLab r.1))], [.box [.v (.string text), I r.2.pos, I r.2.deep, I r.2.cnt, .own 1] 144 false, rowI 236 FixName.ty ar]⟩ ?_
 refine En.seq ?_
 refine En.block ?_
 obtain ⟨Inv, mu, h0, hI⟩ := h
 refine En.loop (σ := (Tr FLab) × Int × Int × Int × (List FixName)) (fun zz => Inv zz.1 zz.2.1 zz.2.2.1 zz.2.2.2.1 zz.2.2.2.2) (fun zz => mu zz.1 zz.2.1 zz.2.2.1 zz.2.2.2.1 zz.2.2.2.2) (fun zz => ⟨[(qfTrm1 Bk), sl 3 (.rd (trR fLab zz.1))], [.box [.v (.string text), I zz.2.1, I zz.2.2.1, I zz.2.2.2.1, .own 1] 144 false, rowI 236 FixName.ty zz.2.2.2.2]⟩) (r.1, r.2.pos, r.2.deep, r.2.cnt, ar) h0 (sub_ok (by kernel_rfl)) ?_
 rintro ⟨x3, y01, y02, y03, l1⟩ h
 replace h := hI _ _ _ _ _ h
 show En c ⟨[(qfTrm1 Bk), sl 3 (.rd (trR fLab x3))], (qfTrm0 text y01 y02 y03 l1)⟩ _
 refine En.seq ?_
 refine En.sr ?_
 refine WL.r ht hn 1 ⟨[(qfTrm1 Bk), sl 3 (.rd (trR fLab x3)), sl 6 (.ptr 0 0)], (qfTrm0 text y01 y02 y03 l1)⟩ ?_
 obtain ⟨hp, h⟩ := h
 refine WL.cE (fNow_ct text y01 y02 y03 l1 hp) en110 [0, 1] hn rfl ?_
 refine WL.rn ht hn 1 ⟨[(qfTrm1 Bk), sl 3 (.rd (trR fLab x3)), sl 8 (B ((fch text y01) == 38))], (qfTrm0 text y01 y02 y03 l1)⟩ ?_
 refine En.cd (b := ((fch text y01) == 38)) (fun hb => ?_) (fun hb => ?_)
 replace h := h.1 hb
 refine En.skip ?_
 refine En.block ?_
 refine En.sr ?_
 refine WL.r ht hn 1 ⟨[(qfTrm1 Bk), sl 3 (.rd (trR fLab x3)), sl 9 (.ptr 0 0)], (qfTrm0 text y01 y02 y03 l1)⟩ ?_
 obtain ⟨hp, h⟩ := h
 refine splitO (fcnt ⟨y01, y02, y03⟩) (fun hr_3 => ?_) (fun r_2 hr_3 => ?_)
 exact WL.cX (fCnt_bad text y01 y02 y03 l1 hp hr_3) en111 [0, 1] rfl (leftX hpan (h.1 hr_3))
 replace h := h.2 r_2 hr_3
 refine WL.cE (fCnt_ok text y01 y02 y03 l1 hp r_2 hr_3) en111 [0, 1] hn rfl ?_
 refine WL.nil ?_
 refine En.sr ?_
 refine WL.rn ht hn 8 ⟨[(qfTrm1 Bk), sl 3 (.rd (trR fLab x3))], [.box [.v (.string text), I (wr (r_2.pos + 1)), I r_2.deep, I r_2.cnt, .own 1] 144 false, rowI 236 FixName.ty l1]⟩ ?_
 refine En.region ?_
 refine WL.r ht hn 2 ⟨[(qfTrm1 Bk), sl 18 (.rd (trR fLab x3)), sl 19 (.ptr 0 0)], [.box [.v (.string text), I (wr (r_2.pos + 1)), I r_2.deep, I r_2.cnt, .own 1] 144 false, rowI 236 FixName.ty l1]⟩ ?_
 obtain ⟨hp, h⟩ := h
 refine splitO (pF text k 0 l1 ⟨(wr (r_2.pos + 1)), r_2.deep, r_2.cnt⟩) (fun hr_4 => ?_) (fun r_3 hr_4 => ?_)
 exact WL.cX (fI0_bad k ih text (wr (r_2.pos + 1)) r_2.deep r_2.cnt l1 hp hr_4) en136 [0, 1] rfl (leftX hpan (h.1 hr_4))
 replace h := h.2 r_3 hr_4
 refine WL.cE (fI0_ok k ih text (wr (r_2.pos + 1)) r_2.deep r_2.cnt l1 hp r_3 hr_4) en136 [0, 1] hn rfl ?_
 refine WL.mt0 (K := []) (p := some (2, rowI 83 (TT fLab) ([x3, r_3.1] : (List (Tr FLab))))) hn (by rfl) (mt_lit (T := (TT fLab)) ([x3, r_3.1] : (List (Tr FLab))) (mt_bsl 2 (r := cellsOf (TT fLab) ([x3, r_3.1] : (List (Tr FLab)))) ht rfl (by rfl) (by rfl) (by rfl) (by kernel_rfl) (by rfl)) (fun _ h => by cases h) (fun _ => rfl) (fun _ => rfl) (by rfl) (Nat.le_of_ble_eq_true rfl)) (by rfl) (by rfl) (by rfl) ?_
 refine WL.rn ht hn 3 ⟨[(qfTrm1 Bk), sl 3 (.ptr 3 0)], [.box [.v (.string text), I r_3.2.pos, I r_3.2.deep, I r_3.2.cnt, .own 1] 144 false, rowI 236 FixName.ty l1, rowI 83 (TT fLab) ([x3, r_3.1] : (List (Tr FLab))), .box [.v (.int .u8 38), I 0, .own 2] 149 false]⟩ ?_
 refine En.seal (T := (TT fLab)) (l := ([x3, r_3.1] : (List (Tr FLab)))) (e := 83) 2 rfl ?_
 refine En.freeze [3] (by rfl) ?_
 refine En.ghost 3 (o1 (.rd (trR fLab (Tr.node (FLab.mk 38 0) ([x3, r_3.1] : (List (Tr FLab))))))) (by rfl) (tree_of (lab := fLab) (x := (FLab.mk 38 0)) (kids := ([x3, r_3.1] : (List (Tr FLab)))) (i := 3) (by rfl) (by rfl) (by rfl)) ?_
 exact En.at (I := fun zz => Inv zz.1 zz.2.1 zz.2.2.1 zz.2.2.2.1 zz.2.2.2.2 ∧ mu zz.1 zz.2.1 zz.2.2.1 zz.2.2.2.1 zz.2.2.2.2 < mu x3 y01 y02 y03 l1) (T := fun zz => ⟨[(qfTrm1 Bk), sl 3 (.rd (trR fLab zz.1))], [.box [.v (.string text), I zz.2.1, I zz.2.2.1, I zz.2.2.2.1, .own 1] 144 false, rowI 236 FixName.ty zz.2.2.2.2]⟩) ((Tr.node (FLab.mk 38 0) ([x3, r_3.1] : (List (Tr FLab)))), r_3.2.pos, r_3.2.deep, r_3.2.cnt, l1) h (by kernel_rfl)
 replace h := h.2 hb
 refine En.exit rfl ?_
 refine En.sr ?_
 refine WL.rn ht hn 2 ⟨[(qfTrm1 Bk), sl 2 (.rd (trR fLab x3))], (qfTrm0 text y01 y02 y03 l1)⟩ ?_
 refine En.ret ?_
 exact En.backE [0] ht (x3, y01, y02, y03, l1) h (by kernel_rfl) (by rfl) rfl
def fWho_vc (k : Nat) (text : ByteArray) (pos : Int) (deep : Int) (cnt : Int) (ar : (List FixName)) (Q : (Tr FLab) × Int × Int × Int × (List FixName) → Prop) (P : Prop) : Prop :=
 (fOk k 1 text ar ⟨pos, deep, cnt⟩) ∧
 ((pF text k 1 ar ⟨pos, deep, cnt⟩) = none → P) ∧ ∀ r, (pF text k 1 ar ⟨pos, deep, cnt⟩) = some r →
 (∃ (Inv : (Tr FLab) → Int → Int → Int → (List FixName) → Prop) (mu : (Tr FLab) → Int → Int → Int → (List FixName) → Nat), Inv (r.1) (r.2.pos) (r.2.deep) (r.2.cnt) (ar) ∧
 ∀ (x3 : (Tr FLab)) (y01 : Int) (y02 : Int) (y03 : Int) (l1 : (List FixName)) , Inv x3 y01 y02 y03 l1 → ((0 ≤ y01) ∧
 IfP ((fch text y01) == 124) ((gF text ⟨(y01), (y02), (y03)⟩ ∧ text.size ≤ 4000) ∧
 ((fcnt ⟨(y01), (y02), (y03)⟩) = none → P) ∧ ∀ r_2, (fcnt ⟨(y01), (y02), (y03)⟩) = some r_2 →
 ((fOk k 1 text ((l1)) ⟨(wr ((r_2.pos) + 1)), (r_2.deep), (r_2.cnt)⟩) ∧
 ((pF text k 1 ((l1)) ⟨(wr ((r_2.pos) + 1)), (r_2.deep), (r_2.cnt)⟩) = none → P) ∧ ∀ r_3, (pF text k 1 ((l1)) ⟨(wr ((r_2.pos) + 1)), (r_2.deep), (r_2.cnt)⟩) = some r_3 →
 ((Inv (Tr.node (FLab.mk 124 0) ([x3, (r_3.1)] : (List (Tr FLab)))) (r_3.2.pos) (r_3.2.deep) (r_3.2.cnt) (((l1))) ∧ mu (Tr.node (FLab.mk 124 0) ([x3, (r_3.1)] : (List (Tr FLab)))) (r_3.2.pos) (r_3.2.deep) (r_3.2.cnt) (((l1))) < mu x3 y01 y02 y03 l1)))) (Q (x3, (y01), (y02), (y03), (l1)))))
noncomputable abbrev qfWho0 (text : ByteArray) (y0 : Int) (y1 : Int) (y2 : Int) (y3) := ([.box [.v (.string text), I y0, I y1, I y2, .own 1] 144 false, rowI 236 FixName.ty y3] : List Item)
noncomputable abbrev qfWho1 (y0 : Nat → Nat) := sl 0 (.pptr 0 0 (y0 0))
theorem fWho_walk (k : Nat) (text : ByteArray) (pos : Int) (deep : Int) (cnt : Int) (ar : (List FixName)) (ih : FC k) (Q : (Tr FLab) × Int × Int × Int × (List FixName) → Prop) (P : Prop) (h : fWho_vc k text pos deep cnt ar Q P) : CtP 74 [.sv (.one (.ptr 0 0))] [.box [.v (.string text), I pos, I deep, I cnt, .own 1] 144 false, rowI 236 FixName.ty ar] [0] Q (fun (r : (Tr FLab) × Int × Int × Int × (List FixName)) => .sv (.one (.rd (trR fLab r.1)))) (fun (r : (Tr FLab) × Int × Int × Int × (List FixName)) => [.box [.v (.string text), I r.2.1, I r.2.2.1, I r.2.2.2.1, .own 1] 144 false, rowI 236 FixName.ty r.2.2.2.2]) (psStop 140) P := by
 have ht := tab_ok
 refine CtP.body Try.func74 rfl rfl rfl (by kernel_rfl) (by kernel_rfl) (fun c Bk hn hpan => ?_)
 unfold fWho_vc at h
 show En c ⟨[(qfWho1 Bk)], [.box [.v (.string text), I pos, I deep, I cnt, .own 1] 144 false, rowI 236 FixName.ty ar]⟩ _
 refine En.sr ?_
 refine WL.rn ht hn 1 ⟨[(qfWho1 Bk)], [.box [.v (.string text), I pos, I deep, I cnt, .own 1] 144 false, rowI 236 FixName.ty ar]⟩ ?_
 refine En.sr ?_
 refine WL.r ht hn 1 ⟨[(qfWho1 Bk), sl 4 (.ptr 0 0)], [.box [.v (.string text), I pos, I deep, I cnt, .own 1] 144 false, rowI 236 FixName.ty ar]⟩ ?_
 obtain ⟨hp, h⟩ := h
 refine splitO (pF text k 1 ar ⟨pos, deep, cnt⟩) (fun hr_2 => ?_) (fun r hr_2 => ?_)
 exact WL.cX (fI1_bad k ih text pos deep cnt ar hp hr_2) en109 [0, 1] rfl (leftX hpan (h.1 hr_2))
 replace h := h.2 r hr_2
 refine WL.cE (fI1_ok k ih text pos deep cnt ar hp r hr_2) en109 [0, 1] hn rfl ?_
 refine WL.rn ht hn 1 ⟨[(qfWho1 Bk), sl 3 (.rd (trR fLab r.1))], [.box [.v (.string text), I r.2.pos, I r.2.deep, I r.2.cnt, .own 1] 144 false, rowI 236 FixName.ty ar]⟩ ?_
 refine En.seq ?_
 refine En.block ?_
 obtain ⟨Inv, mu, h0, hI⟩ := h
 refine En.loop (σ := (Tr FLab) × Int × Int × Int × (List FixName)) (fun zz => Inv zz.1 zz.2.1 zz.2.2.1 zz.2.2.2.1 zz.2.2.2.2) (fun zz => mu zz.1 zz.2.1 zz.2.2.1 zz.2.2.2.1 zz.2.2.2.2) (fun zz => ⟨[(qfWho1 Bk), sl 3 (.rd (trR fLab zz.1))], [.box [.v (.string text), I zz.2.1, I zz.2.2.1, I zz.2.2.2.1, .own 1] 144 false, rowI 236 FixName.ty zz.2.2.2.2]⟩) (r.1, r.2.pos, r.2.deep, r.2.cnt, ar) h0 (sub_ok (by kernel_rfl)) ?_
 rintro ⟨x3, y01, y02, y03, l1⟩ h
 replace h := hI _ _ _ _ _ h
 show En c ⟨[(qfWho1 Bk), sl 3 (.rd (trR fLab x3))], (qfWho0 text y01 y02 y03 l1)⟩ _
 refine En.seq ?_
 refine En.sr ?_
 refine WL.r ht hn 1 ⟨[(qfWho1 Bk), sl 3 (.rd (trR fLab x3)), sl 6 (.ptr 0 0)], (qfWho0 text y01 y02 y03 l1)⟩ ?_
 obtain ⟨hp, h⟩ := h
 refine WL.cE (fNow_ct text y01 y02 y03 l1 hp) en110 [0, 1] hn rfl ?_
 refine WL.rn ht hn 1 ⟨[(qfWho1 Bk), sl 3 (.rd (trR fLab x3)), sl 8 (B ((fch text y01) == 124))], (qfWho0 text y01 y02 y03 l1)⟩ ?_
 refine En.cd (b := ((fch text y01) == 124)) (fun hb => ?_) (fun hb => ?_)
 replace h := h.1 hb
 refine En.skip ?_
 refine En.block ?_
 refine En.sr ?_
 refine WL.r ht hn 1 ⟨[(qfWho1 Bk), sl 3 (.rd (trR fLab x3)), sl 9 (.ptr 0 0)], (qfWho0 text y01 y02 y03 l1)⟩ ?_
 obtain ⟨hp, h⟩ := h
 refine splitO (fcnt ⟨y01, y02, y03⟩) (fun hr_3 => ?_) (fun r_2 hr_3 => ?_)
 exact WL.cX (fCnt_bad text y01 y02 y03 l1 hp hr_3) en111 [0, 1] rfl (leftX hpan (h.1 hr_3))
 replace h := h.2 r_2 hr_3
 refine WL.cE (fCnt_ok text y01 y02 y03 l1 hp r_2 hr_3) en111 [0, 1] hn rfl ?_
 refine WL.nil ?_
 refine En.sr ?_
 refine WL.rn ht hn 8 ⟨[(qfWho1 Bk), sl 3 (.rd (trR fLab x3))], [.box [.v (.string text), I (wr (r_2.pos + 1)), I r_2.deep, I r_2.cnt, .own 1] 144 false, rowI 236 FixName.ty l1]⟩ ?_
 refine En.region ?_
 refine WL.r ht hn 2 ⟨[(qfWho1 Bk), sl 18 (.rd (trR fLab x3)), sl 19 (.ptr 0 0)], [.box [.v (.string text), I (wr (r_2.pos + 1)), I r_2.deep, I r_2.cnt, .own 1] 144 false, rowI 236 FixName.ty l1]⟩ ?_
 obtain ⟨hp, h⟩ := h
 refine splitO (pF text k 1 l1 ⟨(wr (r_2.pos + 1)), r_2.deep, r_2.cnt⟩) (fun hr_4 => ?_) (fun r_3 hr_4 => ?_)
 exact WL.cX (fI1_bad k ih text (wr (r_2.pos + 1)) r_2.deep r_2.cnt l1 hp hr_4) en109 [0, 1] rfl (leftX hpan (h.1 hr_4))
 replace h := h.2 r_3 hr_4
 refine WL.cE (fI1_ok k ih text (wr (r_2.pos + 1)) r_2.deep r_2.cnt l1 hp r_3 hr_4) en109 [0, 1] hn rfl ?_
 refine WL.mt0 (K := []) (p := some (2, rowI 83 (TT fLab) ([x3, r_3.1] : (List (Tr FLab))))) hn (by rfl) (mt_lit (T := (TT fLab)) ([x3, r_3.1] : (List (Tr FLab))) (mt_bsl 2 (r := cellsOf (TT fLab) ([x3, r_3.1] : (List (Tr FLab)))) ht rfl (by rfl) (by rfl) (by rfl) (by kernel_rfl) (by rfl)) (fun _ h => by cases h) (fun _ => rfl) (fun _ => rfl) (by rfl) (Nat.le_of_ble_eq_true rfl)) (by rfl) (by rfl) (by rfl) ?_
 refine WL.rn ht hn 3 ⟨[(qfWho1 Bk), sl 3 (.ptr 3 0)], [.box [.v (.string text), I r_3.2.pos, I r_3.2.deep, I r_3.2.cnt, .own 1] 144 false, rowI 236 FixName.ty l1, rowI 83 (TT fLab) ([x3, r_3.1] : (List (Tr FLab))), .box [.v (.int .u8 124), I 0, .own 2] 149 false]⟩ ?_
 refine En.seal (T := (TT fLab)) (l := ([x3, r_3.1] : (List (Tr FLab)))) (e := 83) 2 rfl ?_
 refine En.freeze [3] (by rfl) ?_
 refine En.ghost 3 (o1 (.rd (trR fLab (Tr.node (FLab.mk 124 0) ([x3, r_3.1] : (List (Tr FLab))))))) (by rfl) (tree_of (lab := fLab) (x := (FLab.mk 124 0)) (kids := ([x3, r_3.1] : (List (Tr FLab)))) (i := 3) (by rfl) (by rfl) (by rfl)) ?_
 exact En.at (I := fun zz => Inv zz.1 zz.2.1 zz.2.2.1 zz.2.2.2.1 zz.2.2.2.2 ∧ mu zz.1 zz.2.1 zz.2.2.1 zz.2.2.2.1 zz.2.2.2.2 < mu x3 y01 y02 y03 l1) (T := fun zz => ⟨[(qfWho1 Bk), sl 3 (.rd (trR fLab zz.1))], [.box [.v (.string text), I zz.2.1, I zz.2.2.1, I zz.2.2.2.1, .own 1] 144 false, rowI 236 FixName.ty zz.2.2.2.2]⟩) ((Tr.node (FLab.mk 124 0) ([x3, r_3.1] : (List (Tr FLab)))), r_3.2.pos, r_3.2.deep, r_3.2.cnt, l1) h (by kernel_rfl)
 replace h := h.2 hb
 refine En.exit rfl ?_
 refine En.sr ?_
 refine WL.rn ht hn 2 ⟨[(qfWho1 Bk), sl 2 (.rd (trR fLab x3))], (qfWho0 text y01 y02 y03 l1)⟩ ?_
 refine En.ret ?_
 exact En.backE [0] ht (x3, y01, y02, y03, l1) h (by kernel_rfl) (by rfl) rfl
theorem fPar_all (k : Nat) (text : ByteArray) (ar : Nms) (s : FS) (hp : fOk (k + 1) 0 text ar s) (Q : FTr × Int × Int × Int × List FixName → Prop) (P : Prop) (h1 : pF text (k + 1) 0 ar s = none → P) (h2 : ∀ r, pF text (k + 1) 0 ar s = some r → Q (r.1, r.2.pos, r.2.deep, r.2.cnt, ar)) : fPar_vc k text s.pos s.deep s.cnt ar Q P := by
 obtain ⟨hz, hk, hg, ha⟩ := hp
 have e0 : pF text (k + 1) 0 ar s = parF (pF text k 0) (pF text k 2) text ar s := rfl
 rw [e0] at h1
 simp only [e0] at h2
 unfold parF at h1 h2
 unfold fPar_vc
 have w0 := hg.1.1
 refine ⟨w0, fun h => ?_, fun h => ?_⟩
 ·have c : fch text s.pos = 48 ∨ fch text s.pos = 49 := by simpa using h
  have hl := fch_lt (text := text) (p := s.pos) (by omega)
  refine ⟨⟨hg, hz⟩, fun z => h1 ((if_pos c).trans (ob_none (fcst_no z))), fun s1 z => ?_⟩
  have q := fcnt_g hg z
  rw [show wr (s1.pos + 1) = s1.pos + 1 by rw [q.2.1, wr_in (by omega) (by omega)]]
  exact h2 (fn (fch text s.pos) 0 [], fstep s1) ((if_pos c).trans (ob (fcst_of z)))
 have n1 : ¬ (fch text s.pos = 48 ∨ fch text s.pos = 49) := by simpa using h
 rw [if_neg n1] at h1
 simp only [if_neg n1] at h2
 refine ⟨fun h => ?_, fun h => ?_⟩
 ·have c := eq_of_beq h
  have hl := fch_lt (text := text) (p := s.pos) (by omega)
  refine ⟨⟨hg, hz⟩, fun z => h1 ((if_pos c).trans (ob_none (fcst_no z))), fun s1 z1 => ?_⟩
  have q := fcnt_g hg z1
  rw [show wr (s1.pos + 1) = s1.pos + 1 by rw [q.2.1, wr_in (by omega) (by omega)]]
  have g1 : gF text (fstep s1) := fstep_g q.1 (by rw [q.2.1]; exact hl)
  refine ⟨by omega, fOk_of (s := fstep s1) hz g1 (by rw [flip_len]; exact ha) (by show 4 * ((text.size : Int) - (s1.pos + 1)) + _ < _; rw [q.2.1]; omega), fun z => h1 ((if_pos c).trans ((ob (fcst_of z1)).trans (ob_none z))), fun r z => ⟨by rw [flip_len]; omega, ?_⟩⟩
  rw [flip_flip]
  exact h2 (fn 33 0 [r.1], r.2) ((if_pos c).trans ((ob (fcst_of z1)).trans (ob z)))
 have n2 : ¬ fch text s.pos = 33 := by simpa using h
 rw [if_neg n2] at h1
 simp only [if_neg n2] at h2
 refine ⟨fun h => ?_, fun h => ?_⟩
 ·have c : fch text s.pos = 60 ∨ fch text s.pos = 91 := by simpa using h
  have hl := fch_lt (text := text) (p := s.pos) (by omega)
  exact ⟨⟨⟨hz, hk, hg, ha⟩, hl⟩, fun z => h1 ((if_pos c).trans z), fun r z => h2 r ((if_pos c).trans z)⟩
 have n3 : ¬ (fch text s.pos = 60 ∨ fch text s.pos = 91) := by simpa using h
 rw [if_neg n3] at h1
 simp only [if_neg n3] at h2
 refine ⟨fun h => ?_, fun h => ?_⟩
 ·have c : fch text s.pos = 109 ∨ fch text s.pos = 110 := by simpa using h
  have hl := fch_lt (text := text) (p := s.pos) (by omega)
  exact ⟨⟨⟨hz, hk, hg, ha⟩, hl⟩, fun z => h1 ((if_pos c).trans z), fun r z => h2 r ((if_pos c).trans z)⟩
 have n4 : ¬ (fch text s.pos = 109 ∨ fch text s.pos = 110) := by simpa using h
 rw [if_neg n4] at h1
 simp only [if_neg n4] at h2
 refine ⟨fun h => ?_, fun h => ?_⟩
 ·have c : 88 ≤ fch text s.pos ∧ fch text s.pos ≤ 90 := by simpa using h
  have hl := fch_lt (text := text) (p := s.pos) (by omega)
  exact ⟨⟨hg, hz, hl, by omega⟩, fun z => h1 ((if_pos c).trans z), fun r z => h2 r ((if_pos c).trans z)⟩
 have n5 : ¬ (88 ≤ fch text s.pos ∧ fch text s.pos ≤ 90) := by
  intro hh
  have := hh.1
  have := hh.2
  simp [*] at h
 rw [if_neg n5] at h1
 simp only [if_neg n5] at h2
 refine ⟨fun h => ⟨by decide, h1 (if_neg (bne_iff_ne.1 h))⟩, fun h => ?_⟩
 have c := bne_eq_false_iff_eq.1 h
 have hl := fch_lt (text := text) (p := s.pos) (by omega)
 rw [if_pos c] at h1
 simp only [if_pos c] at h2
 obtain ⟨⟨p0, p1⟩, ⟨m0, m1⟩, d0, d1⟩ := hg
 refine ⟨fun h => ⟨by decide, h1 (if_pos (eq_of_beq h))⟩, fun h => ?_⟩
 have c7 : ¬ s.deep = 40 := by simpa using h
 rw [if_neg c7] at h1
 simp only [if_neg c7] at h2
 rw [wr_in (n := s.pos + 1) (by omega) (by omega), wr_in (n := s.deep + 1) (by omega) (by omega)]
 have g1 : gF text ⟨s.pos + 1, s.deep + 1, s.cnt⟩ := ⟨⟨by show 0 ≤ s.pos + 1; omega, by show s.pos + 1 ≤ text.size; omega⟩, ⟨m0, m1⟩, by show 0 ≤ s.deep + 1; omega, by show s.deep + 1 ≤ 40; omega⟩
 refine ⟨fOk_of (s := ⟨s.pos + 1, s.deep + 1, s.cnt⟩) hz g1 ha (by show 4 * ((text.size : Int) - (s.pos + 1)) + _ < _; omega), fun z => h1 (ob_none z), fun r z => ?_⟩
 have G := pF_good k 2 ar _ r hz g1 ha z
 refine ⟨⟨G.ok, hz, by decide⟩, fun z2 => h1 ((ob z).trans (ob_none z2)), fun s2 z2 => ?_⟩
 obtain ⟨g2, _⟩ := fwant_g (by decide) G.ok z2
 obtain ⟨_, _, e1, e2⟩ := g2
 rw [wr_in (n := s2.deep - 1) (by omega) (by omega)]
 exact h2 (r.1, ⟨s2.pos, s2.deep - 1, s2.cnt⟩) ((ob z).trans (ob z2))
theorem fTrm_all (k : Nat) (text : ByteArray) (ar : Nms) (s : FS) (hp : fOk (k + 1) 1 text ar s) (Q : FTr × Int × Int × Int × List FixName → Prop) (P : Prop) (h1 : pF text (k + 1) 1 ar s = none → P) (h2 : ∀ r, pF text (k + 1) 1 ar s = some r → Q (r.1, r.2.pos, r.2.deep, r.2.cnt, ar)) : fTrm_vc k text s.pos s.deep s.cnt ar Q P := by
 obtain ⟨hz, hk, hg, ha⟩ := hp
 have e0 : pF text (k + 1) 1 ar s = (pF text k 0 ar s).bind fun r => lopFL 38 (pF text k 0 ar) text (text.size + 1) r.1 r.2 := rfl
 unfold fTrm_vc
 refine ⟨fOk_of (s := s) hz hg ha (by omega), fun z => h1 (e0.trans (ob_none z)), fun r z0 => ?_⟩
 have G0 := pF_good k 0 ar s r hz hg ha z0
 have k1 := fun e => h1 (e0.trans ((ob z0).trans e))
 have k2 := fun x e => h2 x (e0.trans ((ob z0).trans e))
 have hpos := G0.pos
 have hp0 := hg.1.1
 obtain ⟨R, hR⟩ : ∃ R, R = lopFL 38 (pF text k 0 ar) text (text.size + 1) r.1 r.2 := ⟨_, rfl⟩
 refine ⟨fun t p d n l => l = ar ∧ ∃ m : Nat, text.size - p < m ∧ gF text ⟨p, d, n⟩ ∧ s.pos < p ∧ lopFL 38 (pF text k 0 ar) text m t ⟨p, d, n⟩ = R, fun _ p _ _ _ => (text.size - p).toNat, ⟨rfl, text.size + 1, by omega, G0.ok, hpos, hR.symm⟩, ?_⟩
 rintro t p d n _ ⟨rfl, m, hm, hgp, hps, heq⟩
 have hsz : p ≤ text.size := hgp.1.2
 have hp1 : 0 ≤ p := hgp.1.1
 obtain ⟨m', rfl⟩ : ∃ m', m = m' + 1 := ⟨m - 1, by omega⟩
 rw [lopFL] at heq
 simp only at heq
 rw [hR] at heq
 refine ⟨hp1, fun hb => ?_, fun hb => ?_⟩
 ·have c : fch text p = 38 := eq_of_beq hb
  have hlt := fch_lt (text := text) (p := p) (by omega)
  rw [if_pos c] at heq
  refine ⟨⟨hgp, hz⟩, fun z => k1 (heq.symm.trans (ob_none (fcst_no z))), fun s1 z1 => ?_⟩
  have q := fcnt_g hgp z1
  have q1 : s1.pos = p := q.2.1
  have g1 : gF text (fstep s1) := fstep_g q.1 (by rw [q1]; exact hlt)
  rw [show wr (s1.pos + 1) = s1.pos + 1 by rw [q1, wr_in (by omega) (by omega)]]
  refine ⟨fOk_of (s := fstep s1) hz g1 ha (by show 4 * ((text.size : Int) - (s1.pos + 1)) + _ < _; omega), fun z => k1 (heq.symm.trans ((ob (fcst_of z1)).trans (ob_none z))), fun y z2 => ?_⟩
  have G := pF_good k 0 _ (fstep s1) y hz g1 ha z2
  have hy : s1.pos + 1 < y.2.pos := G.pos
  have hy2 := G.ok.1.2
  refine ⟨⟨rfl, m', by omega, G.ok, by omega, ?_⟩, by show ((text.size : Int) - y.2.pos).toNat < ((text.size : Int) - p).toNat; omega⟩
  rw [hR]
  exact ((ob (fcst_of z1)).trans ((ob z2).trans rfl)).symm.trans heq
 ·have c : ¬ fch text p = 38 := by simpa using hb
  rw [if_neg c] at heq
  exact k2 (t, ⟨p, d, n⟩) heq.symm
theorem fWho_all (k : Nat) (text : ByteArray) (ar : Nms) (s : FS) (hp : fOk (k + 1) 2 text ar s) (Q : FTr × Int × Int × Int × List FixName → Prop) (P : Prop) (h1 : pF text (k + 1) 2 ar s = none → P) (h2 : ∀ r, pF text (k + 1) 2 ar s = some r → Q (r.1, r.2.pos, r.2.deep, r.2.cnt, ar)) : fWho_vc k text s.pos s.deep s.cnt ar Q P := by
 obtain ⟨hz, hk, hg, ha⟩ := hp
 have e0 : pF text (k + 1) 2 ar s = (pF text k 1 ar s).bind fun r => lopFL 124 (pF text k 1 ar) text (text.size + 1) r.1 r.2 := rfl
 unfold fWho_vc
 refine ⟨fOk_of (s := s) hz hg ha (by omega), fun z => h1 (e0.trans (ob_none z)), fun r z0 => ?_⟩
 have G0 := pF_good k 1 ar s r hz hg ha z0
 have k1 := fun e => h1 (e0.trans ((ob z0).trans e))
 have k2 := fun x e => h2 x (e0.trans ((ob z0).trans e))
 have hpos := G0.pos
 have hp0 := hg.1.1
 obtain ⟨R, hR⟩ : ∃ R, R = lopFL 124 (pF text k 1 ar) text (text.size + 1) r.1 r.2 := ⟨_, rfl⟩
 refine ⟨fun t p d n l => l = ar ∧ ∃ m : Nat, text.size - p < m ∧ gF text ⟨p, d, n⟩ ∧ s.pos < p ∧ lopFL 124 (pF text k 1 ar) text m t ⟨p, d, n⟩ = R, fun _ p _ _ _ => (text.size - p).toNat, ⟨rfl, text.size + 1, by omega, G0.ok, hpos, hR.symm⟩, ?_⟩
 rintro t p d n _ ⟨rfl, m, hm, hgp, hps, heq⟩
 have hsz : p ≤ text.size := hgp.1.2
 have hp1 : 0 ≤ p := hgp.1.1
 obtain ⟨m', rfl⟩ : ∃ m', m = m' + 1 := ⟨m - 1, by omega⟩
 rw [lopFL] at heq
 simp only at heq
 rw [hR] at heq
 refine ⟨hp1, fun hb => ?_, fun hb => ?_⟩
 ·have c : fch text p = 124 := eq_of_beq hb
  have hlt := fch_lt (text := text) (p := p) (by omega)
  rw [if_pos c] at heq
  refine ⟨⟨hgp, hz⟩, fun z => k1 (heq.symm.trans (ob_none (fcst_no z))), fun s1 z1 => ?_⟩
  have q := fcnt_g hgp z1
  have q1 : s1.pos = p := q.2.1
  have g1 : gF text (fstep s1) := fstep_g q.1 (by rw [q1]; exact hlt)
  rw [show wr (s1.pos + 1) = s1.pos + 1 by rw [q1, wr_in (by omega) (by omega)]]
  refine ⟨fOk_of (s := fstep s1) hz g1 ha (by show 4 * ((text.size : Int) - (s1.pos + 1)) + _ < _; omega), fun z => k1 (heq.symm.trans ((ob (fcst_of z1)).trans (ob_none z))), fun y z2 => ?_⟩
  have G := pF_good k 1 _ (fstep s1) y hz g1 ha z2
  have hy : s1.pos + 1 < y.2.pos := G.pos
  have hy2 := G.ok.1.2
  refine ⟨⟨rfl, m', by omega, G.ok, by omega, ?_⟩, by show ((text.size : Int) - y.2.pos).toNat < ((text.size : Int) - p).toNat; omega⟩
  rw [hR]
  exact ((ob (fcst_of z1)).trans ((ob z2).trans rfl)).symm.trans heq
 ·have c : ¬ fch text p = 124 := by simpa using hb
  rw [if_neg c] at heq
  exact k2 (t, ⟨p, d, n⟩) heq.symm
theorem fPar_ok (k : Nat) (ih : FC k) (text : ByteArray) (pos deep cnt : Int) (ar : List FixName) (hp : fOk (k + 1) 0 text ar ⟨pos, deep, cnt⟩) (r : FTr × FS) (hx : pF text (k + 1) 0 ar ⟨pos, deep, cnt⟩ = some r) : CtE 136 [.sv (.one (.ptr 0 0))] [.box [.v (.string text), I pos, I deep, I cnt, .own 1] 144 false, rowI 236 FixName.ty ar] [0] (fun (_ : Unit) => True) (fun _ => .sv (.one (.rd (trR fLab r.1)))) (fun _ => [.box [.v (.string text), I r.2.pos, I r.2.deep, I r.2.cnt, .own 1] 144 false, rowI 236 FixName.ty ar]) :=
 (fPar_walk k text pos deep cnt ar  ih (fun x => x = (r.1, r.2.pos, r.2.deep, r.2.cnt, ar)) False (fPar_all k text ar ⟨pos, deep, cnt⟩  hp _ _ (fun e => by rw [hx] at e; cases e) (fun y e => by rw [hx] at e; cases e; rfl))).toE fun x hx => ⟨(), trivial, by subst hx; rfl, by subst hx; rfl⟩
theorem fPar_bad (k : Nat) (ih : FC k) (text : ByteArray) (pos deep cnt : Int) (ar : List FixName) (hp : fOk (k + 1) 0 text ar ⟨pos, deep, cnt⟩) (hx : pF text (k + 1) 0 ar ⟨pos, deep, cnt⟩ = none) : CtX 136 [.sv (.one (.ptr 0 0))] [.box [.v (.string text), I pos, I deep, I cnt, .own 1] 144 false, rowI 236 FixName.ty ar] (psStop 140) :=
 (fPar_walk k text pos deep cnt ar  ih (fun _ => False) True (fPar_all k text ar ⟨pos, deep, cnt⟩  hp _ _ (fun _ => trivial) (fun y e => by rw [hx] at e; cases e))).toX
theorem fTrm_ok (k : Nat) (ih : FC k) (text : ByteArray) (pos deep cnt : Int) (ar : List FixName) (hp : fOk (k + 1) 1 text ar ⟨pos, deep, cnt⟩) (r : FTr × FS) (hx : pF text (k + 1) 1 ar ⟨pos, deep, cnt⟩ = some r) : CtE 109 [.sv (.one (.ptr 0 0))] [.box [.v (.string text), I pos, I deep, I cnt, .own 1] 144 false, rowI 236 FixName.ty ar] [0] (fun (_ : Unit) => True) (fun _ => .sv (.one (.rd (trR fLab r.1)))) (fun _ => [.box [.v (.string text), I r.2.pos, I r.2.deep, I r.2.cnt, .own 1] 144 false, rowI 236 FixName.ty ar]) :=
 (fTrm_walk k text pos deep cnt ar  ih (fun x => x = (r.1, r.2.pos, r.2.deep, r.2.cnt, ar)) False (fTrm_all k text ar ⟨pos, deep, cnt⟩  hp _ _ (fun e => by rw [hx] at e; cases e) (fun y e => by rw [hx] at e; cases e; rfl))).toE fun x hx => ⟨(), trivial, by subst hx; rfl, by subst hx; rfl⟩
theorem fTrm_bad (k : Nat) (ih : FC k) (text : ByteArray) (pos deep cnt : Int) (ar : List FixName) (hp : fOk (k + 1) 1 text ar ⟨pos, deep, cnt⟩) (hx : pF text (k + 1) 1 ar ⟨pos, deep, cnt⟩ = none) : CtX 109 [.sv (.one (.ptr 0 0))] [.box [.v (.string text), I pos, I deep, I cnt, .own 1] 144 false, rowI 236 FixName.ty ar] (psStop 140) :=
 (fTrm_walk k text pos deep cnt ar  ih (fun _ => False) True (fTrm_all k text ar ⟨pos, deep, cnt⟩  hp _ _ (fun _ => trivial) (fun y e => by rw [hx] at e; cases e))).toX
theorem fWho_ok (k : Nat) (ih : FC k) (text : ByteArray) (pos deep cnt : Int) (ar : List FixName) (hp : fOk (k + 1) 2 text ar ⟨pos, deep, cnt⟩) (r : FTr × FS) (hx : pF text (k + 1) 2 ar ⟨pos, deep, cnt⟩ = some r) : CtE 74 [.sv (.one (.ptr 0 0))] [.box [.v (.string text), I pos, I deep, I cnt, .own 1] 144 false, rowI 236 FixName.ty ar] [0] (fun (_ : Unit) => True) (fun _ => .sv (.one (.rd (trR fLab r.1)))) (fun _ => [.box [.v (.string text), I r.2.pos, I r.2.deep, I r.2.cnt, .own 1] 144 false, rowI 236 FixName.ty ar]) :=
 (fWho_walk k text pos deep cnt ar  ih (fun x => x = (r.1, r.2.pos, r.2.deep, r.2.cnt, ar)) False (fWho_all k text ar ⟨pos, deep, cnt⟩  hp _ _ (fun e => by rw [hx] at e; cases e) (fun y e => by rw [hx] at e; cases e; rfl))).toE fun x hx => ⟨(), trivial, by subst hx; rfl, by subst hx; rfl⟩
theorem fWho_bad (k : Nat) (ih : FC k) (text : ByteArray) (pos deep cnt : Int) (ar : List FixName) (hp : fOk (k + 1) 2 text ar ⟨pos, deep, cnt⟩) (hx : pF text (k + 1) 2 ar ⟨pos, deep, cnt⟩ = none) : CtX 74 [.sv (.one (.ptr 0 0))] [.box [.v (.string text), I pos, I deep, I cnt, .own 1] 144 false, rowI 236 FixName.ty ar] (psStop 140) :=
 (fWho_walk k text pos deep cnt ar  ih (fun _ => False) True (fWho_all k text ar ⟨pos, deep, cnt⟩  hp _ _ (fun _ => trivial) (fun y e => by rw [hx] at e; cases e))).toX
theorem fixAll : ∀ k, FC k
 | 0 => fun text pos deep cnt ar => ⟨fun hp => absurd hp.2.1 (by have := hp.2.2.1.1.2; simp only at this; show ¬ (4 * ((text.size : Int) - pos) + _ < _); omega), fun hp => absurd hp.2.1 (by have := hp.2.2.1.1.2; simp only at this; show ¬ (4 * ((text.size : Int) - pos) + _ < _); omega), fun hp => absurd hp.2.1 (by have := hp.2.2.1.1.2; simp only at this; show ¬ (4 * ((text.size : Int) - pos) + _ < _); omega)⟩
 | k + 1 => fun text pos deep cnt ar => ⟨fun hp => ⟨fPar_ok k (fixAll k) text pos deep cnt ar hp, fPar_bad k (fixAll k) text pos deep cnt ar hp⟩, fun hp => ⟨fTrm_ok k (fixAll k) text pos deep cnt ar hp, fTrm_bad k (fixAll k) text pos deep cnt ar hp⟩, fun hp => ⟨fWho_ok k (fixAll k) text pos deep cnt ar hp, fWho_bad k (fixAll k) text pos deep cnt ar hp⟩⟩
theorem en73 : ∀ args w, (callFunc 73 args).run Try.prog w = .ok (.enter 73 args) w := enters_of Try.func73 (by kernel_rfl) rfl
theorem fixCatch (r0 : Rd) (c0 a0 code at_ : Int) (hc : code ≠ 0) : CtD 73 [.box [.rd r0] 83 false, .box [I c0, I a0] 32 false] [.box [.rd (optR fLab none)] 83 false, .box [I code, I at_] 32 false] (.panicking [{ v := .iface 140 (.agg #[.int .i64 code, .int .i64 at_]), recovered := false }]) (.panicking [{ v := .iface 140 (.agg #[.int .i64 code, .int .i64 at_]), recovered := true }]) := by
 have ht := tab_ok
 refine CtD.body (pv := .iface 140 (.agg #[.int .i64 code, .int .i64 at_])) (d := 5) Try.func73 rfl rfl rfl (by kernel_rfl) (by kernel_rfl) (by kernel_rfl) rfl rfl rfl (fun c₀ cs hm => by simp [recoverD, hm]) trivial (fun c Bk hn => ?_)
 have h : True := trivial
 refine En.block ?_
 refine En.seq ?_
 refine En.region ?_
 refine WL.val hn (by rfl) (val_ifNil rfl (by rfl) (by rfl) (fun w => by kernel_rfl)) (by rfl) ?_
 refine WL.nil ?_
 refine En.cond (b := false) (by kernel_rfl) (fun hb => ?_) (fun hb => ?_)
 ·cases hb
 ·refine En.seq ?_
  refine En.region ?_
  refine WL.val hn (by rfl) (val_assert (cs := [.int .i64 code, .int .i64 at_]) rfl (by rfl) rfl (by simp [cellV]) (fun w => by kernel_rfl)) (by rfl) ?_
  refine WL.run ht hn 2 ⟨[(0, .sv (.one (.pptr 0 0 (Bk 0)))), (1, .sv (.one (.pptr 1 0 (Bk 1)))), (5, .sv (.one (.v (.iface 140 (.agg #[.int .i64 code, .int .i64 at_]))))), (9, .sv (.one (B true))), (10, .sv (.agg [I code, I at_]))], [.box [.rd r0] 83 false, .box [I c0, I a0] 32 false]⟩ (by kernel_rfl) ?_
  refine WL.nil ?_
  refine En.cond (b := true) (by kernel_rfl) (fun hb => ?_) (fun hb => ?_)
  ·refine En.seq ?_
   refine En.region ?_
   refine WL.run ht hn 2 ⟨[(0, .sv (.one (.pptr 0 0 (Bk 0)))), (1, .sv (.one (.pptr 1 0 (Bk 1)))), (3, .sv (.one (.ptr 2 0)))], [.box [.rd r0] 83 false, .box [I c0, I a0] 32 false, .box [I code, I at_] 140 false]⟩ (by kernel_rfl) ?_
   refine WL.nil ?_
   refine En.regionA ⟨[(0, .sv (.one (.pptr 0 0 (Bk 0)))), (1, .sv (.one (.pptr 1 0 (Bk 1)))), (3, .sv (.one (.ptr 2 0)))], [.sv (.one (.ptr 2 0)), .sv (.agg [I code, I at_]), .tup [], .tup []], [⟨.box [.rd r0] 83 false, none, none, some (2, .box [.v (.pointer none)] 83 false)⟩, ⟨.box [I c0, I a0] 32 false, none, none, some (3, .box [I code, I at_] 32 false)⟩, ⟨.box [I code, I at_] 140 false, none, none, none⟩]⟩ ⟨[(0, .sv (.one (.pptr 0 0 (Bk 0)))), (1, .sv (.one (.pptr 1 0 (Bk 1))))], [.box [.v (.pointer none)] 83 false, .box [I code, I at_] 32 false, .gone]⟩ (by kernel_rfl) hn (by kernel_rfl) (by rfl) (by kernel_rfl) ?_ (by kernel_rfl) ?_
   ·exact ⟨.mt ⟨[(3, .sv (.one (.ptr 2 0)))], []⟩ [] none (by kernel_rfl) (by rfl) (mt_ev ht (by kernel_rfl)) rfl rfl rfl rfl,
  .mt ⟨[(11, .sv (.one (.ptr 2 0)))], [.gone, .gone, .box [I code, I at_] 140 false]⟩ [] none (by kernel_rfl) (by rfl) (mt_ev ht (by kernel_rfl)) rfl rfl rfl rfl,
  .mu ⟨[(0, .sv (.one (.pptr 0 0 (Bk 0))))], [.box [.rd r0] 83 false]⟩ 0 _ _ rfl rfl (by kernel_rfl) (by rfl) (mu_store2 ht rfl (by rfl) (by rfl) (by rfl) (by rfl) (fun h => by cases h) (by rfl) (by rfl)) rfl rfl rfl rfl rfl rfl rfl,
  .mu ⟨[(1, .sv (.one (.pptr 1 0 (Bk 1)))), (12, .sv (.agg [I code, I at_]))], [.gone, .box [I c0, I a0] 32 false]⟩ 1 _ _ rfl rfl (by kernel_rfl) (by rfl) (mu_store2 ht rfl (by rfl) (by rfl) (by rfl) (by rfl) (fun h => by cases h) (by rfl) (by rfl)) rfl rfl rfl rfl rfl rfl rfl,
  trivial⟩
   ·refine En.boxTurn (.rd (optR fLab none)) 0 0 (by rfl) (by rfl) optNil ?_
    exact En.backE [0, 1] ht () trivial (by kernel_rfl) (by rfl) rfl
  ·cases hb
theorem fixIdle (r0 : Rd) (c0 a0 : Int) : CtD 73 [.box [.rd r0] 83 false, .box [I c0, I a0] 32 false] [.box [.rd r0] 83 false, .box [I c0, I a0] 32 false] (.returning) (.returning) := by
 have ht := tab_ok
 refine CtD.body (pv := .nilIface) (d := 5) Try.func73 rfl rfl rfl (by kernel_rfl) (by kernel_rfl) (by kernel_rfl) rfl rfl rfl (fun c₀ cs hm => by simp [recoverD, hm]) trivial (fun c Bk hn => ?_)
 have h : True := trivial
 refine En.block ?_
 refine En.seq ?_
 refine En.region ?_
 refine WL.val hn (by rfl) (val_nilNil rfl (by rfl) (by rfl) (fun w => by kernel_rfl)) (by rfl) ?_
 refine WL.nil ?_
 refine En.cond (b := true) (by kernel_rfl) (fun hb => ?_) (fun hb => ?_)
 ·refine En.region ?_
  refine WL.run ht hn 1 ⟨[(0, .sv (.one (.pptr 0 0 (Bk 0)))), (1, .sv (.one (.pptr 1 0 (Bk 1))))], [.box [.rd r0] 83 false, .box [I c0, I a0] 32 false]⟩ (by kernel_rfl) ?_
  refine WL.nil ?_
  exact En.backE [0, 1] ht () trivial (by kernel_rfl) (by rfl) rfl
 ·cases hb
def fParse_vc (text : ByteArray) (Q : (Option (Tr FLab) × ApiFault) → Prop) : Prop :=
 IfP (decide ((text.size : Int) > 4000)) (Q (none, ApiFault.mk 1 0)) ((fOk (4 * text.size + 4) 2 text ([] : (List FixName)) ⟨0, 0, 0⟩) ∧
 ((pF text (4 * text.size + 4) 2 ([] : (List FixName)) ⟨0, 0, 0⟩) = none → (∀ code at_ : Int, code ≠ 0 → Q (none, ApiFault.mk code at_))) ∧ ∀ r, (pF text (4 * text.size + 4) 2 ([] : (List FixName)) ⟨0, 0, 0⟩) = some r →
 (IfP (decide ((r.2.pos) < (text.size : Int))) (((4 : Int) ≠ 0) ∧
 (∀ code at_ : Int, code ≠ 0 → Q (none, ApiFault.mk code at_))) (Q ((some (r.1)), ApiFault.mk 0 0))))
noncomputable abbrev qfParse0 := ([.box [.v (.pointer none)] 83 false, .box [I 0, I 0] 32 false] : List Item)
theorem fParse_walk (text : ByteArray) (Q : (Option (Tr FLab) × ApiFault) → Prop) (h : fParse_vc text Q) : Ct 32 [.sv (.one (.v (.string text)))] [] Q (fun (r : (Option (Tr FLab) × ApiFault)) => .tup [.one (.rd (optR fLab r.1)), .agg [I r.2.fCode, I r.2.fAt]]) := by
 have ht := tab_ok
 refine Ct.bodyD Try.func32 rfl rfl rfl (fun c R hn hdf hR hpan => ?_)
 unfold fParse_vc at h
 refine En.sr ?_
 refine WL.rn ht hn 2 ⟨[sl 0 (.v (.string text)), sl 2 (.ptr 0 0), sl 3 (.ptr 1 0)], (qfParse0)⟩ ?_
 refine En.seq ?_
 refine En.sr ?_
 refine WL.r ht hn 1 ⟨[sl 0 (.v (.string text)), sl 2 (.ptr 0 0), sl 3 (.ptr 1 0), sl 5 (.v (.string text))], (qfParse0)⟩ ?_
 refine WL.v hn (val_lenS (s := text) rfl Try.underlying9 (by rfl)) ?_
 refine WL.rn ht hn 1 ⟨[sl 0 (.v (.string text)), sl 2 (.ptr 0 0), sl 3 (.ptr 1 0), sl 7 (B (decide ((text.size : Int) > 4000)))], (qfParse0)⟩ ?_
 refine En.cd (b := (decide ((text.size : Int) > 4000))) (fun hb => ?_) (fun hb => ?_)
 replace h := h.1 hb
 refine En.sr ?_
 refine WL.rn ht hn 3 ⟨[sl 2 (.ptr 0 0), sl 3 (.ptr 1 0)], [.box [.v (.pointer none)] 83 false, .box [I 1, I 0] 32 false]⟩ ?_
 refine En.ret ?_
 refine En.boxTurn (.rd (optR fLab none)) 0 0 (by rfl) (by rfl) optNil ?_
 exact En.backD0 ht rfl hR hdf (none, ApiFault.mk 1 0) h (by kernel_rfl) rfl
 replace h := h.2 hb
 refine En.skip ?_
 refine En.sr ?_
 refine WL.r ht hn 1 ⟨[sl 0 (.v (.string text)), sl 2 (.ptr 0 0), sl 3 (.ptr 1 0), sl 9 (.fn 73 [0, 1])], (qfParse0)⟩ ?_
 refine WL.defer (F := 73) (t0 := 2) (t1 := 3) (d := 9) (i := 0) (j := 1) (by rfl) rfl rfl (by rfl) (by rfl) (by rfl) hdf (fun c' Bk hn' hw0 hg0 hm0 hpn hdf => ?_)
 replace hR := hR_cast hw0 hg0 hm0 hR
 replace hpan := hpan_cast hpn hpan
 replace hn := hn'.trans hn
 clear hn' hw0 hg0 hm0
 refine WL.sub ⟨[sl 0 (.v (.string text)), sl 2 (.pptr 0 0 (Bk 0)), sl 3 (.pptr 1 0 (Bk 1)), sl 9 (.fn 73 [0, 1])], (qfParse0)⟩ (by kernel_rfl) ?_
 refine WL.boxTurn (.rd (optR fLab none)) 0 0 (by rfl) (by rfl) optNil ?_
 refine WL.nil ?_
 refine En.cfg hpn ?_
 refine En.sr ?_
 refine WL.rn ht hn 4 ⟨[sl 0 (.v (.string text)), sl 2 (.pptr 0 0 (Bk 0)), sl 3 (.pptr 1 0 (Bk 1)), sl 4 (.ptr 2 0)], [.box [.rd (optR fLab none)] 83 false, .box [I 0, I 0] 32 false, .box [.v (.string text), I 0, I 0, I 0, .v (.slice none 0 0)] 144 false]⟩ ?_
 refine En.sr ?_
 refine WL.r ht hn 1 ⟨[sl 0 (.v (.string text)), sl 2 (.pptr 0 0 (Bk 0)), sl 3 (.pptr 1 0 (Bk 1)), sl 4 (.ptr 2 0), sl 13 (.ptr 2 0)], [.box [.rd (optR fLab none)] 83 false, .box [I 0, I 0] 32 false, .box [.v (.string text), I 0, I 0, I 0, .v (.slice none 0 0)] 144 false]⟩ ?_
 refine WL.nilBoxO (T := FixName.ty) 2 4 3 236 (by rfl) (by rfl) (by rfl) (by rfl) ?_
 obtain ⟨hp, h⟩ := h
 refine splitO (pF text (4 * text.size + 4) 2 ([] : (List FixName)) ⟨0, 0, 0⟩) (fun hr_2 => ?_) (fun r hr_2 => ?_)
 exact WL.cX (fI2_bad _ (fixAll _) text 0 0 0 ([] : (List FixName)) hp hr_2) en74 [2, 3] rfl (leftD (ty := 140) 2 3 0 1 ht rfl hR hpan hdf (by rfl) (by rfl) (fun code at_ hc => fixCatch (optR fLab none) 0 0 code at_ hc) en73 (by kernel_rfl) (by kernel_rfl) (by decide) (by rfl) (fun _ _ => by rfl) (fun _ _ => Nat.le_of_ble_eq_true rfl) (fun _ _ => by rfl) (fun _ _ => rfl) (fun code at_ => (none, ApiFault.mk code at_)) (fun code at_ hc => (h.1 hr_2) code at_ hc) (fun _ _ => by kernel_rfl) (fun _ _ => rfl))
 replace h := h.2 r hr_2
 refine WL.cE (fI2_ok _ (fixAll _) text 0 0 0 ([] : (List FixName)) hp r hr_2) en74 [2, 3] hn rfl ?_
 refine WL.rn ht hn 1 ⟨[sl 0 (.v (.string text)), sl 2 (.pptr 0 0 (Bk 0)), sl 3 (.pptr 1 0 (Bk 1)), sl 4 (.ptr 2 0)], [.box [.rd (trR fLab r.1)] 83 false, .box [I 0, I 0] 32 false, .box [.v (.string text), I r.2.pos, I r.2.deep, I r.2.cnt, .own 3] 144 false, rowI 236 FixName.ty ([] : (List FixName))]⟩ ?_
 refine En.seq ?_
 refine En.sr ?_
 refine WL.r ht hn 5 ⟨[sl 2 (.pptr 0 0 (Bk 0)), sl 3 (.pptr 1 0 (Bk 1)), sl 4 (.ptr 2 0), sl 18 (I r.2.pos), sl 19 (.v (.string text))], [.box [.rd (trR fLab r.1)] 83 false, .box [I 0, I 0] 32 false, .box [.v (.string text), I r.2.pos, I r.2.deep, I r.2.cnt, .own 3] 144 false, rowI 236 FixName.ty ([] : (List FixName))]⟩ ?_
 refine WL.v hn (val_lenS (s := text) rfl Try.underlying9 (by rfl)) ?_
 refine WL.rn ht hn 1 ⟨[sl 2 (.pptr 0 0 (Bk 0)), sl 3 (.pptr 1 0 (Bk 1)), sl 4 (.ptr 2 0), sl 21 (B (decide (r.2.pos < (text.size : Int))))], [.box [.rd (trR fLab r.1)] 83 false, .box [I 0, I 0] 32 false, .box [.v (.string text), I r.2.pos, I r.2.deep, I r.2.cnt, .own 3] 144 false, rowI 236 FixName.ty ([] : (List FixName))]⟩ ?_
 refine En.cd (b := (decide (r.2.pos < (text.size : Int)))) (fun hb => ?_) (fun hb => ?_)
 replace h := h.1 hb
 refine En.region ?_
 refine WL.r ht hn 1 ⟨[sl 2 (.pptr 0 0 (Bk 0)), sl 3 (.pptr 1 0 (Bk 1)), sl 22 (.ptr 2 0)], [.box [.rd (trR fLab r.1)] 83 false, .box [I 0, I 0] 32 false, .box [.v (.string text), I r.2.pos, I r.2.deep, I r.2.cnt, .own 3] 144 false, rowI 236 FixName.ty ([] : (List FixName))]⟩ ?_
 obtain ⟨hp, h⟩ := h
 exact WL.cX (fFail_ct text r.2.pos r.2.deep r.2.cnt ([] : (List FixName)) 4 hp) en75 [2, 3] rfl (leftD (ty := 140) 2 3 0 1 ht rfl hR hpan hdf (by rfl) (by rfl) (fun code at_ hc => fixCatch (trR fLab r.1) 0 0 code at_ hc) en73 (by kernel_rfl) (by kernel_rfl) (by decide) (by rfl) (fun _ _ => by rfl) (fun _ _ => Nat.le_of_ble_eq_true rfl) (fun _ _ => by rfl) (fun _ _ => rfl) (fun code at_ => (none, ApiFault.mk code at_)) (fun code at_ hc => h code at_ hc) (fun _ _ => by kernel_rfl) (fun _ _ => rfl))
 replace h := h.2 hb
 refine En.skip ?_
 refine En.sr ?_
 refine WL.rn ht hn 4 ⟨[sl 2 (.pptr 0 0 (Bk 0)), sl 3 (.pptr 1 0 (Bk 1))], [.box [.rd (trR fLab r.1)] 83 false, .box [I 0, I 0] 32 false, .gone, .gone]⟩ ?_
 refine En.ret ?_
 refine En.boxTurn (.rd (optR fLab (some r.1))) 0 0 (by rfl) (by rfl) optSome ?_
 exact En.backD 2 3 0 1 ht rfl hR hdf (by rfl) (by rfl) (fixIdle (optR fLab (some r.1)) 0 0) en73 (by kernel_rfl) (by decide) (by rfl) (by rfl) (Nat.le_of_ble_eq_true rfl) (by rfl) rfl ((some r.1), ApiFault.mk 0 0) h (by kernel_rfl) rfl
theorem en32 : ∀ args w, (callFunc 32 args).run Try.prog w = .ok (.enter 32 args) w := enters_of Try.func32 (by kernel_rfl) rfl
def fullF (text : ByteArray) : Option FTr := if 4000 < text.size then none else match pF text (4 * text.size + 4) 2 [] ⟨0, 0, 0⟩ with
 | none => none
 | some r => if r.2.pos < text.size then none else some r.1
def ParsedF (text : ByteArray) (r : Option FTr × ApiFault) : Prop := (r.1 = none ∧ r.2.fCode ≠ 0 ∧ fullF text = none) ∨ ∃ t, fullF text = some t ∧ r = (some t, ⟨0, 0⟩)
theorem fullF_some {text : ByteArray} {t : FTr} (h : fullF text = some t) : text.size ≤ 4000 ∧ WfF 30 [] t ∧ qF text (4 * text.size + 4) 2 [] 0 = some (t, (text.size : Int)) := by
 unfold fullF at h
 split at h
 ·cases h
 rename_i hz
 split at h
 ·cases h
 rename_i r hr
 split at h
 ·cases h
 rename_i he
 cases h
 have hz : text.size ≤ 4000 := by omega
 obtain ⟨_, g2, _, _, g5, g6⟩ := pF_good _ _ [] ⟨0, 0, 0⟩ r hz (show gF text ⟨0, 0, 0⟩ from ⟨⟨by decide, Int.natCast_nonneg _⟩, ⟨by decide, by decide⟩, by decide, by decide⟩) (by decide) hr
 obtain ⟨⟨_, q1⟩, ⟨n0, n1⟩, _⟩ := g2
 refine ⟨hz, g5.mono (by show (r.2.cnt - 0).toNat ≤ 30; omega), ?_⟩
 have : r.2.pos = (text.size : Int) := by omega
 rw [← this]
 exact g6
theorem fParse_ct (text : ByteArray) : Ct 32 [.sv (.one (.v (.string text)))] [] (ParsedF text) (fun (r : (Option (Tr FLab) × ApiFault)) => .tup [.one (.rd (optR fLab r.1)), .agg [I r.2.fCode, I r.2.fAt]]) := by
 refine fParse_walk text (ParsedF text) ?_
 unfold fParse_vc
 refine ⟨fun hb => .inl ⟨rfl, by show (1 : Int) ≠ 0; decide, ?_⟩, fun hb => ?_⟩
 ·have := of_decide_eq_true hb
  unfold fullF
  rw [if_pos (by omega)]
 have hz : text.size ≤ 4000 := by have := of_decide_eq_false hb; omega
 have hg : gF text ⟨0, 0, 0⟩ := ⟨⟨by decide, Int.natCast_nonneg _⟩, ⟨by decide, by decide⟩, by decide, by decide⟩
 refine ⟨fOk_of hz hg (by decide) (by show 4 * ((text.size : Int) - 0) + 2 < ((4 * text.size + 4 : Nat) : Int); omega), fun hn code at_ hc => .inl ⟨rfl, hc, ?_⟩, fun r hr => ⟨fun hb2 => ⟨by decide, fun code at_ hc => .inl ⟨rfl, hc, ?_⟩⟩, fun hb2 => .inr ⟨r.1, ?_, rfl⟩⟩⟩
 ·unfold fullF
  rw [if_neg (by omega), hn]
 ·have := of_decide_eq_true hb2
  unfold fullF
  rw [if_neg (by omega), hr]
  exact if_pos this
 ·have := of_decide_eq_false hb2
  unfold fullF
  rw [if_neg (by omega), hr]
  exact if_neg this
end Go.Proofs.Ytiejmeedkhkfgaa
namespace Go.Proofs.Ytiejmeedkhkfgaa
set_option linter.unusedSimpArgs false
set_option linter.unusedVariables false
set_option maxRecDepth 100000
def onF (l : List Bool) (p : Int) : Bool := l.getD p.toNat false
def eachF (n : Int) (f : Int → Bool) : List Bool := (List.range n.toNat).map fun p : Nat => f (p : Int)
theorem eachF_len (n : Int) (f : Int → Bool) : (eachF n f).length = n.toNat := by simp [eachF]
theorem onF_each {n : Int} {f : Int → Bool} {p : Int} (h0 : 0 ≤ p) (h1 : p < n) : onF (eachF n f) p = f p := by
 unfold onF eachF
 rw [List.getD_eq_getElem?_getD, List.getElem?_map, List.getElem?_range (by omega)]
 simp only [Option.map_some, Option.getD_some]
 rw [Int.toNat_of_nonneg h0]
def allF (n : Int) (v : Bool) : List Bool := List.replicate n.toNat v
theorem allF_len (n : Int) (v : Bool) : (allF n v).length = n.toNat := List.length_replicate
theorem onF_all {n : Int} {v : Bool} {p : Int} (h0 : 0 ≤ p) (h1 : p < n) : onF (allF n v) p = v := by
 unfold onF allF
 rw [List.getD_eq_getElem?_getD, List.getElem?_replicate, if_pos (by omega)]
 rfl
theorem rowF_ext {n : Int} {a b : List Bool} (ha : a.length = n.toNat) (hb : b.length = n.toNat) (h : ∀ p : Int, 0 ≤ p → p < n → onF a p = onF b p) : a = b := by
 refine List.ext_getElem (by omega) fun i h1 h2 => ?_
 have := h i (Int.natCast_nonneg _) (by omega)
 unfold onF at this
 rw [List.getD_eq_getElem?_getD, List.getD_eq_getElem?_getD, Int.toNat_natCast, List.getElem?_eq_getElem h1, List.getElem?_eq_getElem h2] at this
 exact this
def arrB (g : ApiGraph) (c : Int) (v : Bool) (p : Int) (a : List Bool) : Bool := g.fArrows.any fun x => x.fFrom == p && x.fLetter == c && onF a x.fTo == v
def itF (f : List Bool → List Bool) : Nat → List Bool → List Bool
 | 0, o => o
 | m + 1, o => f (itF f m o)
def kid0 : List FTr → FTr
 | x :: _ => x
 | [] => fn 48 0 []
def kid1 : List FTr → FTr
 | _ :: y :: _ => y
 | _ => fn 48 0 []
def wayF (g : ApiGraph) (sg c : Int) (a : List Bool) : List Bool := eachF g.fPlaces fun p => if sg = 60 then arrB g c true p a else !(arrB g c false p a)
def semF (g : ApiGraph) : Nat → FTr → List (List Bool) → List Bool
 | 0, _, _ => []
 | k + 1, .node a kids, S =>
  if a.fSign = 49 then allF g.fPlaces true
  else if a.fSign = 88 then S.getD a.fN.toNat []
  else if a.fSign = 33 then eachF g.fPlaces fun p => !(onF (semF g k (kid0 kids) S) p)
  else if a.fSign = 38 then eachF g.fPlaces fun p => onF (semF g k (kid0 kids) S) p && onF (semF g k (kid1 kids) S) p
  else if a.fSign = 124 then eachF g.fPlaces fun p => onF (semF g k (kid0 kids) S) p || onF (semF g k (kid1 kids) S) p
  else if a.fSign = 60 ∨ a.fSign = 91 then wayF g a.fSign a.fN (semF g k (kid0 kids) S)
  else if a.fSign = 109 ∨ a.fSign = 110 then itF (fun o => semF g k (kid0 kids) (S ++ [o])) g.fPlaces.toNat (allF g.fPlaces (decide (a.fSign = 110)))
  else allF g.fPlaces false
section
variable {g : ApiGraph} {k : Nat} {n : Int} {S : List (List Bool)} {x y : FTr} {kids : List FTr}
theorem sem_not : semF g (k + 1) (fn 33 n [x]) S = eachF g.fPlaces fun p => !(onF (semF g k x S) p) := rfl
theorem sem_and : semF g (k + 1) (fn 38 n [x, y]) S = eachF g.fPlaces fun p => onF (semF g k x S) p && onF (semF g k y S) p := rfl
theorem sem_or : semF g (k + 1) (fn 124 n [x, y]) S = eachF g.fPlaces fun p => onF (semF g k x S) p || onF (semF g k y S) p := rfl
theorem sem_way {sg : Int} (h : sg = 60 ∨ sg = 91) : semF g (k + 1) (fn sg n [x]) S = wayF g sg n (semF g k x S) := by
 rcases h with rfl | rfl <;> rfl
theorem sem_lp {sg : Int} (h : sg = 109 ∨ sg = 110) : semF g (k + 1) (fn sg n [x]) S = itF (fun o => semF g k x (S ++ [o])) g.fPlaces.toNat (allF g.fPlaces (decide (sg = 110))) := by
 rcases h with rfl | rfl <;> rfl
end
theorem getD_appF {S : List (List Bool)} {o : List Bool} {j : Nat} (hj : j < S.length) : (S ++ [o]).getD j [] = S.getD j [] := by
 rw [List.getD_eq_getElem?_getD, List.getD_eq_getElem?_getD, List.getElem?_append_left hj]
theorem getD_lastF {S : List (List Bool)} {o : List Bool} {j : Nat} (hj : j = S.length) : (S ++ [o]).getD j [] = o := by
 subst hj
 rw [List.getD_eq_getElem?_getD, List.getElem?_append_right (Nat.le_refl _), Nat.sub_self]
 rfl
def SOk (g : ApiGraph) (fl : List Bool) (S : List (List Bool)) : Prop := S.length = fl.length ∧ ∀ s ∈ S, s.length = g.fPlaces.toNat
theorem SOk.add {g : ApiGraph} {fl : List Bool} {S : List (List Bool)} (h : SOk g fl S) {o : List Bool} (ho : o.length = g.fPlaces.toNat) (b : Bool) : SOk g (fl ++ [b]) (S ++ [o]) :=
 ⟨by rw [List.length_append, List.length_append, h.1]; rfl, fun s hs => by
  rcases List.mem_append.1 hs with hs | hs
  ·exact h.2 s hs
  ·cases List.mem_singleton.1 hs
   exact ho⟩
theorem SOk.not {g : ApiGraph} {fl : List Bool} {S : List (List Bool)} (h : SOk g fl S) : SOk g (fl.map (!·)) S := ⟨by rw [List.length_map]; exact h.1, h.2⟩
theorem itF_len {f : List Bool → List Bool} {n : Nat} (hf : ∀ o, o.length = n → (f o).length = n) {o : List Bool} (ho : o.length = n) : ∀ m, (itF f m o).length = n
 | 0 => ho
 | m + 1 => hf _ (itF_len hf ho m)
theorem sem_len {g : ApiGraph} : ∀ {k : Nat} {fl : List Bool} {t : FTr} {S : List (List Bool)}, WfF k fl t → SOk g fl S → (semF g k t S).length = g.fPlaces.toNat
 | 0, _, _, _, h, _ => h.elim
 | k + 1, fl, .node ⟨sg, n⟩ kids, S, h, hS => by
  rcases h with ⟨h, _⟩ | ⟨h, _, j, h2, h3⟩ | ⟨h, x, e, hx⟩ | ⟨h, b, x, e, hx⟩ | ⟨h, b, b2, x, e, hx⟩ | ⟨h, x, y, e, hx, hy⟩
  ·rcases h with h | h <;> (have h : sg = _ := h; subst h; exact allF_len _ _)
  ·have h : sg = 88 := h
   subst h
   have h2 : n = j := h2
   subst h2
   show (S.getD (j : Int).toNat []).length = _
   have hj : j < S.length := by
    rw [hS.1]
    exact (List.getElem?_eq_some_iff.1 h3).1
   rw [Int.toNat_natCast, List.getD_eq_getElem?_getD, List.getElem?_eq_getElem hj]
   exact hS.2 _ (List.getElem_mem hj)
  ·have h : sg = 33 := h
   subst h
   subst e
   exact (congrArg List.length (sem_not (g := g))).trans (eachF_len _ _)
  ·subst e
   exact (congrArg List.length (sem_way (g := g) h)).trans (eachF_len _ _)
  ·subst e
   show (semF g (k + 1) (fn sg n [x]) S).length = _
   rw [sem_lp h]
   exact itF_len (fun o ho => sem_len hx (hS.add ho false)) (allF_len _ _) _
  ·subst e
   rcases h with h | h
   ·have h : sg = 38 := h
    subst h
    exact (congrArg List.length (sem_and (g := g))).trans (eachF_len _ _)
   ·have h : sg = 124 := h
    subst h
    exact (congrArg List.length (sem_or (g := g))).trans (eachF_len _ _)
def leV (n : Int) (v : Bool) (a b : List Bool) : Prop := ∀ p : Int, 0 ≤ p → p < n → onF a p = v → onF b p = v
theorem leV.flip {n : Int} {v : Bool} {a b : List Bool} (h : leV n v a b) : leV n (!v) b a := fun p h0 h1 hb => by
 have := h p h0 h1
 revert this hb
 cases onF a p <;> cases onF b p <;> cases v <;> simp
theorem leV.flip' {n : Int} {a b : List Bool} (h : leV n false a b) : leV n true b a := h.flip
def ToOk (g : ApiGraph) : Prop := ∀ x ∈ g.fArrows, 0 ≤ x.fTo ∧ x.fTo < g.fPlaces
theorem arrB_mono {g : ApiGraph} (hg : ToOk g) {c : Int} {v : Bool} {p : Int} {a b : List Bool} (h : leV g.fPlaces v a b) (ha : arrB g c v p a = true) : arrB g c v p b = true := by
 unfold arrB at ha ⊢
 rw [List.any_eq_true] at ha ⊢
 obtain ⟨x, hx, e⟩ := ha
 simp only [Bool.and_eq_true, beq_iff_eq] at e
 have := hg x hx
 refine ⟨x, hx, ?_⟩
 simp only [Bool.and_eq_true, beq_iff_eq]
 exact ⟨e.1, h _ this.1 this.2 e.2⟩
theorem wayF_mono {g : ApiGraph} (hg : ToOk g) {sg c : Int} {a b : List Bool} (h : leV g.fPlaces true a b) : leV g.fPlaces true (wayF g sg c a) (wayF g sg c b) := fun p h0 h1 e => by
 unfold wayF at e ⊢
 rw [onF_each h0 h1] at e ⊢
 by_cases hs : sg = 60
 ·rw [if_pos hs] at e ⊢
  exact arrB_mono hg h e
 ·rw [if_neg hs] at e ⊢
  have h2 := @arrB_mono g hg c false p b a h.flip
  revert e h2
  cases arrB g c false p a <;> cases arrB g c false p b <;> simp
theorem sem_mono {g : ApiGraph} (hg : ToOk g) : ∀ {k : Nat} {fl : List Bool} {t : FTr} {S S' : List (List Bool)}, WfF k fl t → SOk g fl S → SOk g fl S' → (∀ j : Nat, fl[j]? = some false → leV g.fPlaces true (S.getD j []) (S'.getD j [])) → (∀ j : Nat, fl[j]? = some true → leV g.fPlaces true (S'.getD j []) (S.getD j [])) → leV g.fPlaces true (semF g k t S) (semF g k t S')
 | 0, _, _, _, _, h, _, _, _, _ => h.elim
 | k + 1, fl, .node ⟨sg, n⟩ kids, S, S', h, hS, hS', h0, h1 => by
  rcases h with ⟨h | h, _⟩ | ⟨h, _, j, h2, h3⟩ | ⟨h, x, e, hx⟩ | ⟨h, b, x, e, hx⟩ | ⟨h, b, b2, x, e, hx⟩ | ⟨h | h, x, y, e, hx, hy⟩
  ·cases h
   exact fun p _ _ e => e
  ·cases h
   exact fun p _ _ e => e
  ·cases h
   have h2 : n = j := h2
   subst h2
   exact h0 j h3
  ·have h : sg = 33 := h
   subst h
   subst e
   have := sem_mono hg (S := S') (S' := S) hx hS'.not hS.not (fun j hj => h1 j (by
    rw [List.getElem?_map] at hj
    obtain ⟨b, hb, e⟩ := Option.map_eq_some_iff.1 hj
    cases b
    ·cases e
    ·exact hb)) (fun j hj => h0 j (by
    rw [List.getElem?_map] at hj
    obtain ⟨b, hb, e⟩ := Option.map_eq_some_iff.1 hj
    cases b
    ·exact hb
    ·cases e))
   intro p p0 p1 e
   have := this p p0 p1
   rw [show semF g (k + 1) (.node ⟨33, n⟩ [x] : FTr) S = eachF g.fPlaces fun p => !(onF (semF g k x S) p) from rfl, onF_each p0 p1] at e
   rw [show semF g (k + 1) (.node ⟨33, n⟩ [x] : FTr) S' = eachF g.fPlaces fun p => !(onF (semF g k x S') p) from rfl, onF_each p0 p1]
   revert e this
   cases onF (semF g k x S) p <;> cases onF (semF g k x S') p <;> simp
  ·subst e
   show leV _ true (semF g (k + 1) (fn sg n [x]) S) (semF g (k + 1) (fn sg n [x]) S')
   rw [sem_way h, sem_way h]
   exact wayF_mono hg (sem_mono hg hx hS hS' h0 h1)
  ·subst e
   show leV _ true (semF g (k + 1) (fn sg n [x]) S) (semF g (k + 1) (fn sg n [x]) S')
   rw [sem_lp h, sem_lp h]
   generalize g.fPlaces.toNat = m
   induction m with
   | zero => exact fun p _ _ e => e
   | succ m ih =>
    have l1 := itF_len (f := fun o => semF g k x (S ++ [o])) (fun o ho => sem_len hx (hS.add ho false)) (allF_len g.fPlaces (decide (sg = 110))) m
    have l2 := itF_len (f := fun o => semF g k x (S' ++ [o])) (fun o ho => sem_len hx (hS'.add ho false)) (allF_len g.fPlaces (decide (sg = 110))) m
    have e1 : S.length = fl.length := hS.1
    have e2 : S'.length = fl.length := hS'.1
    refine sem_mono hg hx (hS.add l1 false) (hS'.add l2 false) (fun j hj => ?_) (fun j hj => ?_)
    ·by_cases hl : j < fl.length
     ·rw [List.getElem?_append_left hl] at hj
      rw [getD_appF (by omega), getD_appF (by omega)]
      exact h0 j hj
     ·have hj2 : j = fl.length := by
       rw [List.getElem?_append_right (by omega)] at hj
       obtain ⟨hh, _⟩ := List.getElem?_eq_some_iff.1 hj
       simp at hh
       omega
      rw [getD_lastF (by omega), getD_lastF (by omega)]
      exact ih
    ·by_cases hl : j < fl.length
     ·rw [List.getElem?_append_left hl] at hj
      rw [getD_appF (by omega), getD_appF (by omega)]
      exact h1 j hj
     ·rw [List.getElem?_append_right (by omega)] at hj
      obtain ⟨hh, e3⟩ := List.getElem?_eq_some_iff.1 hj
      simp at e3
  ·have h : sg = 38 := h
   subst h
   subst e
   have i1 := sem_mono hg hx hS hS' h0 h1
   have i2 := sem_mono hg hy hS hS' h0 h1
   intro p p0 p1 e
   have j1 := i1 p p0 p1
   have j2 := i2 p p0 p1
   rw [show semF g (k + 1) (.node ⟨38, n⟩ [x, y]) S = eachF g.fPlaces fun p => onF (semF g k x S) p && onF (semF g k y S) p from rfl, onF_each p0 p1, Bool.and_eq_true] at e
   rw [show semF g (k + 1) (.node ⟨38, n⟩ [x, y]) S' = eachF g.fPlaces fun p => onF (semF g k x S') p && onF (semF g k y S') p from rfl, onF_each p0 p1, Bool.and_eq_true]
   exact ⟨j1 e.1, j2 e.2⟩
  ·have h : sg = 124 := h
   subst h
   subst e
   have i1 := sem_mono hg hx hS hS' h0 h1
   have i2 := sem_mono hg hy hS hS' h0 h1
   intro p p0 p1 e
   have j1 := i1 p p0 p1
   have j2 := i2 p p0 p1
   rw [show semF g (k + 1) (.node ⟨124, n⟩ [x, y]) S = eachF g.fPlaces fun p => onF (semF g k x S) p || onF (semF g k y S) p from rfl, onF_each p0 p1, Bool.or_eq_true] at e
   rw [show semF g (k + 1) (.node ⟨124, n⟩ [x, y]) S' = eachF g.fPlaces fun p => onF (semF g k x S') p || onF (semF g k y S') p from rfl, onF_each p0 p1, Bool.or_eq_true]
   exact e.elim (fun e => .inl (j1 e)) (fun e => .inr (j2 e))
theorem cntF {v : Bool} : ∀ {a b : List Bool}, a.length = b.length → (∀ i : Nat, a[i]? = some v → b[i]? = some v) → a.count v ≤ b.count v ∧ (a ≠ b → a.count v < b.count v)
 | [], [], _, _ => ⟨Nat.le_refl _, fun h => absurd rfl h⟩
 | [], _ :: _, h, _ => by simp at h
 | _ :: _, [], h, _ => by simp at h
 | x :: a, y :: b, h, hi => by
  obtain ⟨i1, i2⟩ := cntF (v := v) (a := a) (b := b) (by simpa using h) (fun i hx => by simpa using hi (i + 1) (by simpa using hx))
  have hx := hi 0
  simp only [List.getElem?_cons_zero, Option.some.injEq] at hx
  rw [List.count_cons, List.count_cons]
  by_cases e1 : x = v
  ·have e2 := hx e1
   subst e1 e2
   refine ⟨by omega, fun hne => ?_⟩
   have := i2 (fun e => hne (by rw [e]))
   omega
  ·rw [if_neg (by simpa using e1)]
   by_cases e2 : y = v
   ·rw [if_pos (by simpa using e2)]
    exact ⟨by omega, fun _ => by omega⟩
   ·rw [if_neg (by simpa using e2)]
    refine ⟨by omega, fun hne => ?_⟩
    have e3 : x = y := by
     have key : ∀ x y v : Bool, ¬ x = v → ¬ y = v → x = y := by decide
     exact key x y v e1 e2
    have := i2 (fun e => hne (by rw [e, e3]))
    omega
theorem leV_cnt {n : Int} {v : Bool} {a b : List Bool} (ha : a.length = n.toNat) (hb : b.length = n.toNat) (h : leV n v a b) (hne : a ≠ b) : a.count v < b.count v := by
 refine (cntF (by omega) fun i hi => ?_).2 hne
 obtain ⟨h1, h2⟩ := List.getElem?_eq_some_iff.1 hi
 have := h i (Int.natCast_nonneg _) (by omega) (by
  unfold onF
  rw [List.getD_eq_getElem?_getD, Int.toNat_natCast, hi]
  rfl)
 unfold onF at this
 rw [List.getD_eq_getElem?_getD, Int.toNat_natCast, List.getElem?_eq_getElem (by omega)] at this
 rw [List.getElem?_eq_getElem (by omega)]
 exact congrArg some this
section
variable {f : List Bool → List Bool} {n : Int} {v : Bool} (hl : ∀ o, o.length = n.toNat → (f o).length = n.toNat) (hm : ∀ a b, a.length = n.toNat → b.length = n.toNat → leV n v a b → leV n v (f a) (f b))
include hl hm
theorem itF_up : ∀ m, leV n v (itF f m (allF n (!v))) (itF f (m + 1) (allF n (!v)))
 | 0 => fun p h0 h1 e => by
  rw [show itF f 0 (allF n (!v)) = allF n (!v) from rfl, onF_all h0 h1] at e
  cases v <;> cases e
 | m + 1 => hm _ _ (itF_len hl (allF_len n (!v)) m) (itF_len hl (allF_len n (!v)) (m + 1)) (itF_up m)
theorem itF_grow : ∀ m, f (itF f m (allF n (!v))) = itF f m (allF n (!v)) ∨ m < (itF f (m + 1) (allF n (!v))).count v
 | 0 => by
  by_cases h : f (itF f 0 (allF n (!v))) = itF f 0 (allF n (!v))
  ·exact .inl h
  ·right
   have := leV_cnt (itF_len hl (allF_len n (!v)) 0) (itF_len hl (allF_len n (!v)) (0 + 1)) (itF_up hl hm 0) (fun e => h e.symm)
   omega
 | m + 1 => by
  by_cases h : f (itF f (m + 1) (allF n (!v))) = itF f (m + 1) (allF n (!v))
  ·exact .inl h
  ·right
   have := leV_cnt (itF_len hl (allF_len n (!v)) (m + 1)) (itF_len hl (allF_len n (!v)) (m + 1 + 1)) (itF_up hl hm (m + 1)) (fun e => h e.symm)
   rcases itF_grow m with h2 | h2
   ·exact absurd (congrArg f h2) h
   ·omega
theorem itF_fix : f (itF f n.toNat (allF n (!v))) = itF f n.toNat (allF n (!v)) := by
 rcases itF_grow hl hm n.toNat with h | h
 ·exact h
 ·have h1 := itF_len hl (allF_len n (!v)) (n.toNat + 1)
  have h2 : (itF f (n.toNat + 1) (allF n (!v))).count v ≤ _ := List.count_le_length
  omega
omit hl hm in
theorem itF_stay {o : List Bool} : ∀ {m m' : Nat}, f (itF f m o) = itF f m o → m ≤ m' → itF f m' o = itF f m o
 | m, 0, _, h => by
  have : m = 0 := by omega
  rw [this]
 | m, m' + 1, h, hk => by
  by_cases e : m = m' + 1
  ·rw [e]
  ·show f (itF f m' o) = _
   rw [itF_stay h (by omega), h]
theorem itF_any {m : Nat} (h : f (itF f m (allF n (!v))) = itF f m (allF n (!v))) : itF f n.toNat (allF n (!v)) = itF f m (allF n (!v)) := by
 by_cases hmn : m ≤ n.toNat
 ·exact itF_stay h hmn
 ·exact (itF_stay (itF_fix hl hm) (by omega)).symm
end
theorem lp_mono {g : ApiGraph} (hg : ToOk g) {k : Nat} {fl : List Bool} {x : FTr} {S : List (List Bool)} (hx : WfF k (fl ++ [false]) x) (hS : SOk g fl S) (v : Bool) {a b : List Bool} (ha : a.length = g.fPlaces.toNat) (hb : b.length = g.fPlaces.toNat) (h : leV g.fPlaces v a b) : leV g.fPlaces v (semF g k x (S ++ [a])) (semF g k x (S ++ [b])) := by
 have key : ∀ {a b : List Bool}, a.length = g.fPlaces.toNat → b.length = g.fPlaces.toNat → leV g.fPlaces true a b → leV g.fPlaces true (semF g k x (S ++ [a])) (semF g k x (S ++ [b])) := fun {a b} ha hb h => by
  refine sem_mono hg hx (hS.add ha false) (hS.add hb false) (fun j hj => ?_) (fun j hj => ?_)
  ·by_cases hl : j < S.length
   ·rw [List.getD_eq_getElem?_getD, List.getD_eq_getElem?_getD, List.getElem?_append_left hl, List.getElem?_append_left hl]
    exact fun p _ _ e => e
   ·have hj2 : j = S.length := by
     obtain ⟨hh, _⟩ := List.getElem?_eq_some_iff.1 hj
     rw [List.length_append, ← hS.1] at hh
     simp at hh
     omega
    subst hj2
    rw [List.getD_eq_getElem?_getD, List.getD_eq_getElem?_getD, List.getElem?_append_right (Nat.le_refl _), List.getElem?_append_right (Nat.le_refl _), Nat.sub_self]
    exact h
  ·by_cases hl : j < S.length
   ·rw [List.getD_eq_getElem?_getD, List.getD_eq_getElem?_getD, List.getElem?_append_left hl, List.getElem?_append_left hl]
    exact fun p _ _ e => e
   ·have hj2 : j = fl.length := by
     obtain ⟨hh, _⟩ := List.getElem?_eq_some_iff.1 hj
     rw [List.length_append] at hh
     simp at hh
     rw [hS.1] at hl
     omega
    rw [hj2, List.getElem?_append_right (Nat.le_refl _), Nat.sub_self] at hj
    cases hj
 cases v
 ·exact (key hb ha h.flip').flip
 ·exact key ha hb h
end Go.Proofs.Ytiejmeedkhkfgaa
namespace Go.Proofs.Ytiejmeedkhkfgaa
open Go.RowKit Go.MapKept
set_option linter.unusedSimpArgs false
set_option linter.unusedVariables false
set_option maxRecDepth 100000
set_option linter.unusedSectionVars false
section
variable {n : Nat} {R : Nat → Nat → Prop}
structure FirstsInv (n : Nat) (R : Nat → Nat → Prop) (q : Nat) (firsts next : List Int) : Prop where
 len : next.length = n
 size : firsts.length ≤ q
 alike : ∀ p, p < q → ∃ k : Nat, k < firsts.length ∧ next.getD p 0 = (k : Int) ∧ R (firsts.getD k 0).toNat p
 apart : ∀ i j, i < firsts.length → j < firsts.length → R (firsts.getD i 0).toNat (firsts.getD j 0).toNat → i = j
 first : ∀ j, j < firsts.length → ∃ r : Nat, r < q ∧ firsts.getD j 0 = (r : Int) ∧ next.getD r 0 = (j : Int)
theorem getD_set_eq {α : Type} {l : List α} {i : Nat} {x z : α} (h : i < l.length) : (l.set i x).getD i z = x := by
 rw [List.getD_eq_getElem?_getD, List.getElem?_set_self h]
 rfl
theorem getD_set_ne {α : Type} {l : List α} {i j : Nat} {x z : α} (h : i ≠ j) : (l.set i x).getD j z = l.getD j z := by
 rw [List.getD_eq_getElem?_getD, List.getElem?_set_ne h, ← List.getD_eq_getElem?_getD]
structure RoundR (n : Nat) (R : Nat → Nat → Prop) (next : List Int) (m : Nat) : Prop where
 len : next.length = n
 size : m ≤ n
 range : ∀ p, p < n → 0 ≤ next.getD p 0 ∧ next.getD p 0 < (m : Int)
 onto : ∀ j : Nat, j < m → ∃ p, p < n ∧ next.getD p 0 = (j : Int)
 same : ∀ p q, p < n → q < n → (next.getD p 0 = next.getD q 0 ↔ R p q)
structure Onto (n m : Nat) (cls : List Int) : Prop where
 len : cls.length = n
 range : ∀ p, p < n → 0 ≤ cls.getD p 0 ∧ cls.getD p 0 < (m : Int)
 onto : ∀ j : Nat, j < m → ∃ p, p < n ∧ cls.getD p 0 = (j : Int)
end
end Go.Proofs.Ytiejmeedkhkfgaa
