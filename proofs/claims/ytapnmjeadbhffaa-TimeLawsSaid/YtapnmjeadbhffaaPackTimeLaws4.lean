/- Lemmas towards the statement: mirrors of functions, and plain laws. No condition. -/
import Derived.Test.YtapnmjeadbhffaaPackTimeLaws3


namespace Go.Proofs.Ytapnmjeadbhffaa
open Go.RowKit Go.MapKept
set_option linter.unusedSimpArgs false
set_option linter.unusedVariables false
set_option maxRecDepth 100000
def tch (text : ByteArray) (i : Int) : Int := (byteAt text i).getD 0
theorem byteAt_ok {text : ByteArray} {i : Int} (h0 : 0 ≤ i) (h1 : i < text.size) : byteAt text i = some (tch text i) := by
 unfold tch byteAt
 rw [if_pos h0]
 have : i.toNat < text.size := by omega
 simp [this]
theorem tch_end {text : ByteArray} {i : Int} (h1 : text.size ≤ i) : tch text i = 0 := by
 unfold tch byteAt
 split
 ·have : ¬ i.toNat < text.size := by omega
  simp [this]
 ·rfl
theorem tch_lt {text : ByteArray} {p : Int} (h : tch text p ≠ 0) : p < text.size := by
 by_cases hh : p < text.size
 ·exact hh
 ·exact absurd (tch_end (by omega)) h
structure TS where
 pos : Int
 cn : Int
 ct : Int
 cd : Int
 ns : List TimeNode
def ofT (b : Int) : Bool := (b == 88 || b == 70 || b == 71 || b == 85 || b == 82)
def cntF (text : ByteArray) (s : TS) : Option TS := let t := ofT (tch text s.pos); let c := if t = true then s.ct + 1 else s.ct
 if s.cn + 1 > 30 ∨ (t = true ∧ c > 5) then none else some ⟨s.pos + 1, s.cn + 1, c, s.cd, s.ns⟩
def putF (n : TimeNode) (s : TS) : Int × TS := ((s.ns.length : Int), ⟨s.pos, s.cn, s.ct, s.cd, s.ns ++ [n]⟩)
def noF (a : Int) (s : TS) : Int × TS := putF ⟨3, a, 0⟩ s
def alwF (s : TS) : Int × TS := noF (putF ⟨0, 0, 0⟩ s).1 (putF ⟨0, 0, 0⟩ s).2
def tNow_vc (text : ByteArray) (pos : Int) (cn : Int) (ct : Int) (cd : Int) (ns : (List TimeNode)) (Q : Int × Int × Int × Int × Int × (List TimeNode) → Prop) : Prop :=
 IfP (pos == (text.size : Int)) (Q (0, pos, cn, ct, cd, ns)) (∃ b, byteAt text pos = some b ∧
 Q (b, pos, cn, ct, cd, ns))
theorem tNow_walk (text : ByteArray) (pos : Int) (cn : Int) (ct : Int) (cd : Int) (ns : (List TimeNode)) (Q : Int × Int × Int × Int × Int × (List TimeNode) → Prop) (h : tNow_vc text pos cn ct cd ns Q) : CtE 194 [.sv (.one (.ptr 0 0))] [.box [.v (.string text), I pos, I cn, I ct, I cd, .own 1] 236 false, rowI 139 TimeNode.ty ns] [0] Q (fun (r : Int × Int × Int × Int × Int × (List TimeNode)) => .sv (.one (.v (.int .u8 r.1)))) (fun (r : Int × Int × Int × Int × Int × (List TimeNode)) => [.box [.v (.string text), I r.2.1, I r.2.2.1, I r.2.2.2.1, I r.2.2.2.2.1, .own 1] 236 false, rowI 139 TimeNode.ty r.2.2.2.2.2]) := by
 have ht := tab_ok
 refine CtE.body Try.func194 rfl rfl rfl (by kernel_rfl) (by kernel_rfl) (fun c Bk hn => ?_)
 unfold tNow_vc at h
 show En c ⟨[sl 0 (.pptr 0 0 (Bk 0))], [.box [.v (.string text), I pos, I cn, I ct, I cd, .own 1] 236 false, rowI 139 TimeNode.ty ns]⟩ _
 refine En.seq ?_
 refine En.region ?_
 refine WL.run ht hn 1 ⟨[sl 0 (.pptr 0 0 (Bk 0))], [.box [.v (.string text), I pos, I cn, I ct, I cd, .own 1] 236 false, rowI 139 TimeNode.ty ns]⟩ (by kernel_rfl) ?_
 refine WL.nil ?_
 refine En.seq ?_
 refine En.seq ?_
 refine En.regionS (by kernel_rfl) (by kernel_rfl) ?_
 refine SL.run ht hn 8 ⟨[sl 0 (.pptr 0 0 (Bk 0)), sl 3 (.ptr 0 0), sl 4 (.ptr 0 0), sl 5 (.ptr 0 1), sl 6 (I pos), sl 7 (.ptr 0 0), sl 8 (.ptr 0 0), sl 9 (.ptr 0 0), sl 10 (.v (.string text))], [.box [.v (.string text), I pos, I cn, I ct, I cd, .own 1] 236 false, rowI 139 TimeNode.ty ns]⟩ (by kernel_rfl) ?_
 refine SL.val hn (by rfl) (val_lenS (s := text) rfl Try.underlying9 (by rfl)) (by rfl) ?_
 refine SL.run ht hn 1 ⟨[sl 0 (.pptr 0 0 (Bk 0)), sl 3 (.ptr 0 0), sl 4 (.ptr 0 0), sl 5 (.ptr 0 1), sl 6 (I pos), sl 7 (.ptr 0 0), sl 8 (.ptr 0 0), sl 9 (.ptr 0 0), sl 10 (.v (.string text)), sl 11 (I (text.size : Int)), sl 12 (B (pos == (text.size : Int)))], [.box [.v (.string text), I pos, I cn, I ct, I cd, .own 1] 236 false, rowI 139 TimeNode.ty ns]⟩ (by kernel_rfl) ?_
 refine SL.nil ⟨by kernel_rfl, ?_⟩
 refine En.cond (b := (pos == (text.size : Int))) (by kernel_rfl) (fun hb => ?_) (fun hb => ?_)
 replace h := h.1 hb
 refine En.seq ?_
 refine En.region ?_
 refine WL.run ht hn 1 ⟨[sl 0 (.pptr 0 0 (Bk 0)), sl 2 (.v (.int .u8 0))], [.box [.v (.string text), I pos, I cn, I ct, I cd, .own 1] 236 false, rowI 139 TimeNode.ty ns]⟩ (by kernel_rfl) ?_
 refine WL.nil ?_
 refine En.ret ?_
 exact En.backE [0] ht (0, pos, cn, ct, cd, ns) h (by kernel_rfl) (by rfl) rfl
 replace h := h.2 hb
 refine En.skip ?_
 refine En.seq ?_
 obtain ⟨b, hb_2, h⟩ := h
 refine En.regionA ⟨[sl 0 (.pptr 0 0 (Bk 0))], [.sv (.one (.ptr 0 0)), .sv (.one (.ptr 0 0)), .sv (.one (.ptr 0 0)), .sv (.one (.v (.string text))), .sv (.one (.ptr 0 0)), .sv (.one (.ptr 0 0)), .sv (.one (.ptr 0 1)), .sv (.one (I pos)), .sv (.one (.v (.int .u8 b))), .sv (.one (.v (.int .u8 b)))], [⟨.box [.v (.string text), I pos, I cn, I ct, I cd, .own 1] 236 false, none, none, none⟩, ⟨rowI 139 TimeNode.ty ns, none, none, none⟩]⟩ ⟨[sl 0 (.pptr 0 0 (Bk 0)), sl 2 (.v (.int .u8 b))], [.box [.v (.string text), I pos, I cn, I ct, I cd, .own 1] 236 false, rowI 139 TimeNode.ty ns]⟩ (by kernel_rfl) hn (by kernel_rfl) (by rfl) (by kernel_rfl) ?_ (by kernel_rfl) ?_
 exact ⟨.mt ⟨[sl 0 (.pptr 0 0 (Bk 0))], []⟩ [] none (by kernel_rfl) (by rfl) (mt_ev ht (by kernel_rfl)) rfl rfl rfl rfl,
 .mt ⟨[sl 13 (.ptr 0 0)], []⟩ [] none (by kernel_rfl) (by rfl) (mt_ev ht (by kernel_rfl)) rfl rfl rfl rfl,
 .mt ⟨[sl 14 (.ptr 0 0)], []⟩ [] none (by kernel_rfl) (by rfl) (mt_ev ht (by kernel_rfl)) rfl rfl rfl rfl,
 .mt ⟨[sl 15 (.ptr 0 0)], [.box [.v (.string text), I pos, I cn, I ct, I cd, .own 1] 236 false]⟩ [] none (by kernel_rfl) (by rfl) (mt_ev ht (by kernel_rfl)) rfl rfl rfl rfl,
 .mt ⟨[sl 0 (.pptr 0 0 (Bk 0))], []⟩ [] none (by kernel_rfl) (by rfl) (mt_ev ht (by kernel_rfl)) rfl rfl rfl rfl,
 .mt ⟨[sl 17 (.ptr 0 0)], []⟩ [] none (by kernel_rfl) (by rfl) (mt_ev ht (by kernel_rfl)) rfl rfl rfl rfl,
 .mt ⟨[sl 18 (.ptr 0 0)], []⟩ [] none (by kernel_rfl) (by rfl) (mt_ev ht (by kernel_rfl)) rfl rfl rfl rfl,
 .mt ⟨[sl 19 (.ptr 0 1)], [.box [.v (.string text), I pos, I cn, I ct, I cd, .own 1] 236 false]⟩ [] none (by kernel_rfl) (by rfl) (mt_ev ht (by kernel_rfl)) rfl rfl rfl rfl,
 .mt ⟨[sl 16 (.v (.string text)), sl 20 (I pos)], []⟩ [] none (by kernel_rfl) (by rfl) (mt_val (val_indexS (s := text) (i := pos) rfl Try.underlying9 (by rfl) (by rfl) hb_2)) rfl rfl rfl rfl,
 .mt ⟨[sl 21 (.v (.int .u8 b))], []⟩ [] none (by kernel_rfl) (by rfl) (mt_ev ht (by kernel_rfl)) rfl rfl rfl rfl,
 trivial⟩
 refine En.ret ?_
 exact En.backE [0] ht (b, pos, cn, ct, cd, ns) h (by kernel_rfl) (by rfl) rfl
theorem en194 : ∀ args w, (callFunc 194 args).run Try.prog w = .ok (.enter 194 args) w := enters_of Try.func194 (by kernel_rfl) rfl
theorem tNow_ct (text : ByteArray) (pos : Int) (cn : Int) (ct : Int) (cd : Int) (ns : (List TimeNode)) (hp : 0 ≤ pos ∧ pos ≤ text.size)  : CtE 194 [.sv (.one (.ptr 0 0))] [.box [.v (.string text), I pos, I cn, I ct, I cd, .own 1] 236 false, rowI 139 TimeNode.ty ns] [0] (fun (_ : Unit) => True) (fun _ => .sv (.one (.v (.int .u8 (tch text pos))))) (fun _ => [.box [.v (.string text), I (pos), I (cn), I (ct), I (cd), .own 1] 236 false, rowI 139 TimeNode.ty (ns)]) := by
  refine (tNow_walk text pos cn ct cd ns (fun res_ => res_ = (tch text pos, pos, cn, ct, cd, ns)) ?_).imp (fun r hr => ⟨(), trivial, by subst hr; rfl, by subst hr; rfl⟩)
  unfold tNow_vc
  refine ⟨fun h => ?_, fun h => ⟨_, byteAt_ok hp.1 (by have : pos ≠ text.size := by simpa using h
                                                       omega), rfl⟩⟩
  rw [tch_end (by have : pos = text.size := by simpa using h
                  omega)]
def tOfT_vc (b : Int) (Q : Bool → Prop) : Prop :=
 Q (((((b == 88) || (b == 70)) || (b == 71)) || (b == 85)) || (b == 82))
theorem tOfT_walk (b : Int) (Q : Bool → Prop) (h : tOfT_vc b Q) : Ct 225 [.sv (.one (.v (.int .u8 b)))] [] Q (fun (r : Bool) => .sv (.one (B r))) := by
 have ht := tab_ok
 refine Ct.body Try.func225 rfl rfl rfl rfl (fun c hn => ?_)
 unfold tOfT_vc at h
 refine En.seq ?_
 refine En.region ?_
 refine WL.run ht hn 1 ⟨[sl 0 (.v (.int .u8 b))], []⟩ (by kernel_rfl) ?_
 refine WL.nil ?_
 refine En.seq ?_
 refine En.region ?_
 refine WL.run ht hn 3 ⟨[sl 0 (.v (.int .u8 b)), sl 5 (B (b == 88))], []⟩ (by kernel_rfl) ?_
 refine WL.thru ⟨[sl 2 (B (((((b == 88) || (b == 70)) || (b == 71)) || (b == 85)) || (b == 82)))], []⟩ ?_ ?_
 refine splitB (b == 88) (fun hb0 => ?_) (fun hb0 => ?_)
 refine WL.setB 5 hb0 (by kernel_rfl) ?_
 refine WL.run ht hn 16 ⟨[sl 2 (B true)], []⟩ (by kernel_rfl) ?_
 exact WL.nil (sub_ok (by simp only [hb0]; kernel_rfl))
 refine WL.setB 5 hb0 (by kernel_rfl) ?_
 refine WL.run ht hn 4 ⟨[sl 0 (.v (.int .u8 b)), sl 9 (B (b == 70))], []⟩ (by kernel_rfl) ?_
 refine splitB (b == 70) (fun hb1 => ?_) (fun hb1 => ?_)
 refine WL.setB 9 hb1 (by kernel_rfl) ?_
 refine WL.run ht hn 12 ⟨[sl 2 (B true)], []⟩ (by kernel_rfl) ?_
 exact WL.nil (sub_ok (by simp only [hb0, hb1]; kernel_rfl))
 refine WL.setB 9 hb1 (by kernel_rfl) ?_
 refine WL.run ht hn 4 ⟨[sl 0 (.v (.int .u8 b)), sl 13 (B (b == 71))], []⟩ (by kernel_rfl) ?_
 refine splitB (b == 71) (fun hb2 => ?_) (fun hb2 => ?_)
 refine WL.setB 13 hb2 (by kernel_rfl) ?_
 refine WL.run ht hn 8 ⟨[sl 2 (B true)], []⟩ (by kernel_rfl) ?_
 exact WL.nil (sub_ok (by simp only [hb0, hb1, hb2]; kernel_rfl))
 refine WL.setB 13 hb2 (by kernel_rfl) ?_
 refine WL.run ht hn 4 ⟨[sl 0 (.v (.int .u8 b)), sl 17 (B (b == 85))], []⟩ (by kernel_rfl) ?_
 refine splitB (b == 85) (fun hb3 => ?_) (fun hb3 => ?_)
 refine WL.setB 17 hb3 (by kernel_rfl) ?_
 refine WL.run ht hn 4 ⟨[sl 2 (B true)], []⟩ (by kernel_rfl) ?_
 exact WL.nil (sub_ok (by simp only [hb0, hb1, hb2, hb3]; kernel_rfl))
 refine WL.setB 17 hb3 (by kernel_rfl) ?_
 refine WL.run ht hn 4 ⟨[sl 2 (B (b == 82))], []⟩ (by kernel_rfl) ?_
 exact WL.nil (sub_ok (by simp only [hb0, hb1, hb2, hb3]; kernel_rfl))
 refine En.ret ?_
 exact En.back ht (((((b == 88) || (b == 70)) || (b == 71)) || (b == 85)) || (b == 82)) h (by kernel_rfl) rfl
theorem en225 : ∀ args w, (callFunc 225 args).run Try.prog w = .ok (.enter 225 args) w := enters_of Try.func225 (by kernel_rfl) rfl
theorem tOfT_ct (b : Int)  : Ct 225 [.sv (.one (.v (.int .u8 b)))] [] (fun (_ : Unit) => True) (fun _ => .sv (.one (B (ofT b)))) := by
 refine (tOfT_walk b (fun res_ => res_ = (ofT b)) ?_).fun
 rfl
theorem en130 : ∀ args w, (callFunc 130 args).run Try.prog w = .ok (.enter 130 args) w := enters_of Try.func130 (by kernel_rfl) rfl
theorem tFail_ct (text : ByteArray) (pos cn ct cd : Int) (ns : List TimeNode) (code : Int) (hp : code ≠ 0) : CtX 130 [.sv (.one (.ptr 0 0)), .sv (.one (I code))] [.box [.v (.string text), I pos, I cn, I ct, I cd, .own 1] 236 false, rowI 139 TimeNode.ty ns] (psStop 233) := by
 have ht := tab_ok
 refine CtP.toX (β := Unit) (pin := [0]) (out := fun _ => .tup []) (M1 := fun _ => []) (P := True) ?_
 refine CtP.body Try.func130 rfl rfl rfl (by kernel_rfl) (by kernel_rfl) (fun c Bk hn hpan => ?_)
 show En c ⟨[(0, .sv (.one (.pptr 0 0 (Bk 0)))), (1, .sv (.one (I code)))], [.box [.v (.string text), I pos, I cn, I ct, I cd, .own 1] 236 false, rowI 139 TimeNode.ty ns]⟩ _
 refine En.region ?_
 refine WL.run ht hn 7 ⟨[(10, .sv (.agg [I code, I pos]))], [.box [.v (.string text), I pos, I cn, I ct, I cd, .own 1] 236 false, rowI 139 TimeNode.ty ns]⟩ (by kernel_rfl) ?_
 exact WL.panicI (code := code) (at_ := pos) hn (by rfl) rfl rfl (by rfl) Try.underlying233 (by rfl) (by rfl) rfl rfl hp hpan trivial
def tPut_vc (text : ByteArray) (pos : Int) (cn : Int) (ct : Int) (cd : Int) (ns : (List TimeNode)) (n : TimeNode) (Q : Int × Int × Int × Int × Int × (List TimeNode) → Prop) : Prop :=
 capOk ns.length (([n] : (List TimeNode)) : (List TimeNode)).length 24 ∧
 Q ((wr (((ns ++ ([n] : (List TimeNode))).length : Int) - 1)), pos, cn, ct, cd, (ns ++ ([n] : (List TimeNode))))
theorem tPut_walk (text : ByteArray) (pos : Int) (cn : Int) (ct : Int) (cd : Int) (ns : (List TimeNode)) (n : TimeNode) (Q : Int × Int × Int × Int × Int × (List TimeNode) → Prop) (h : tPut_vc text pos cn ct cd ns n Q) : CtE 196 [.sv (.one (.ptr 0 0)), .sv (.agg [I n.fKind, I n.fA, I n.fB])] [.box [.v (.string text), I pos, I cn, I ct, I cd, .own 1] 236 false, rowI 139 TimeNode.ty ns] [0] Q (fun (r : Int × Int × Int × Int × Int × (List TimeNode)) => .sv (.one (I r.1))) (fun (r : Int × Int × Int × Int × Int × (List TimeNode)) => [.box [.v (.string text), I r.2.1, I r.2.2.1, I r.2.2.2.1, I r.2.2.2.2.1, .own 1] 236 false, rowI 139 TimeNode.ty r.2.2.2.2.2]) := by
 have ht := tab_ok
 refine CtE.body Try.func196 rfl rfl rfl (by kernel_rfl) (by kernel_rfl) (fun c Bk hn => ?_)
 unfold tPut_vc at h
 show En c ⟨[sl 0 (.pptr 0 0 (Bk 0)), (1, .sv (.agg (TimeNode.cl n)))], [.box [.v (.string text), I pos, I cn, I ct, I cd, .own 1] 236 false, rowI 139 TimeNode.ty ns]⟩ _
 refine En.seq ?_
 refine En.region ?_
 refine WL.run ht hn 2 ⟨[sl 0 (.pptr 0 0 (Bk 0)), sl 3 (.ptr 2 0)], [.box [.v (.string text), I pos, I cn, I ct, I cd, .own 1] 236 false, rowI 139 TimeNode.ty ns, .box (TimeNode.cl n) 139 false]⟩ (by kernel_rfl) ?_
 refine WL.nil ?_
 refine En.seq ?_
 have hp_2 := h.1
 replace h := h.2
 refine En.regionA ⟨[sl 0 (.pptr 0 0 (Bk 0)), sl 3 (.ptr 2 0)], [.sv (.one (.ptr 0 0)), .sv (.one (.ptr 0 0)), .sv (.one (.ptr 0 0)), .sv (.one (.ptr 0 5)), .sv (.one (.own 1)), .sv (.agg (TimeNode.cl n)), .sv (.one (LS TimeNode.ty ([n] : (List TimeNode)))), .sv (.one (.own 3)), .sv (.one (.ptr 0 0)), .sv (.one (.ptr 0 5)), .tup []], [⟨.box [.v (.string text), I pos, I cn, I ct, I cd, .own 1] 236 false, none, none, some (10, .box [.v (.string text), I pos, I cn, I ct, I cd, .own 3] 236 false)⟩, ⟨rowI 139 TimeNode.ty ns, none, some 7, none⟩, ⟨.box (TimeNode.cl n) 139 false, none, none, none⟩, ⟨rowI 139 TimeNode.ty (ns ++ ([n] : (List TimeNode))), some 7, none, none⟩]⟩ ⟨[sl 0 (.pptr 0 0 (Bk 0))], [.box [.v (.string text), I pos, I cn, I ct, I cd, .own 3] 236 false, .gone, .gone, rowI 139 TimeNode.ty (ns ++ ([n] : (List TimeNode)))]⟩ (by kernel_rfl) hn (by kernel_rfl) (by rfl) (by kernel_rfl) ?_ (by kernel_rfl) ?_
 exact ⟨.mt ⟨[sl 0 (.pptr 0 0 (Bk 0))], []⟩ [] none (by kernel_rfl) (by rfl) (mt_ev ht (by kernel_rfl)) rfl rfl rfl rfl,
 .mt ⟨[sl 0 (.pptr 0 0 (Bk 0))], []⟩ [] none (by kernel_rfl) (by rfl) (mt_ev ht (by kernel_rfl)) rfl rfl rfl rfl,
 .mt ⟨[sl 6 (.ptr 0 0)], []⟩ [] none (by kernel_rfl) (by rfl) (mt_ev ht (by kernel_rfl)) rfl rfl rfl rfl,
 .mt ⟨[sl 7 (.ptr 0 0)], []⟩ [] none (by kernel_rfl) (by rfl) (mt_ev ht (by kernel_rfl)) rfl rfl rfl rfl,
 .mt ⟨[sl 8 (.ptr 0 5)], [.box [.v (.string text), I pos, I cn, I ct, I cd, .own 1] 236 false]⟩ [] none (by kernel_rfl) (by rfl) (mt_ev ht (by kernel_rfl)) rfl rfl rfl rfl,
 .mt ⟨[sl 3 (.ptr 2 0)], [.gone, .gone, .box (TimeNode.cl n) 139 false]⟩ [] none (by kernel_rfl) (by rfl) (mt_ev ht (by kernel_rfl)) rfl rfl rfl rfl,
 .mt ⟨[(10, .sv (.agg (TimeNode.cl n)))], []⟩ [] none (by kernel_rfl) (by rfl) (mt_seal (q := 3) (e := 139) (mt_lit (T := TimeNode.ty) ([n] : (List TimeNode)) (mt_bsl 3 (r := cellsOf TimeNode.ty ([n] : (List TimeNode))) ht rfl (by rfl) (by rfl) (by rfl) (by kernel_rfl) (by rfl)) (fun _ h => by cases h) (fun _ => rfl) (fun _ => rfl) (by rfl) (Nat.le_of_ble_eq_true rfl))) rfl rfl rfl rfl,
 .mt ⟨[sl 9 (.own 1), sl 11 (LS TimeNode.ty ([n] : (List TimeNode)))], [.gone, rowI 139 TimeNode.ty ns]⟩ [1] (some 3) (by kernel_rfl) (by rfl) (mt_append (T := TimeNode.ty) (l := ns) (es := ([n] : (List TimeNode))) (p := 3) ht rfl (by rfl) (by rfl) (by rfl) (by rfl) (by decide) (by rfl) (by rfl) (srcLS (T := TimeNode.ty) (es := ([n] : (List TimeNode))) (fun _ h => by cases h) (by decide) (by rfl)) (by exact hp_2) (by exact hp_2.le (by decide))) rfl rfl rfl rfl,
 .mt ⟨[sl 5 (.ptr 0 0)], []⟩ [] none (by kernel_rfl) (by rfl) (mt_ev ht (by kernel_rfl)) rfl rfl rfl rfl,
 .mt ⟨[sl 13 (.ptr 0 0)], []⟩ [] none (by kernel_rfl) (by rfl) (mt_ev ht (by kernel_rfl)) rfl rfl rfl rfl,
 .mu ⟨[sl 12 (.own 3), sl 14 (.ptr 0 5)], [.box [.v (.string text), I pos, I cn, I ct, I cd, .own 1] 236 false]⟩ 0 _ _ rfl rfl (by kernel_rfl) (by rfl) (mu_store2 ht rfl (by rfl) (by rfl) (by rfl) (by rfl) (fun h => by cases h) (by rfl) (by rfl)) rfl rfl rfl rfl rfl rfl rfl,
 trivial⟩
 refine En.seq ?_
 refine En.region ?_
 refine WL.run ht hn 7 ⟨[sl 0 (.pptr 0 0 (Bk 0)), sl 4 (I (wr (((ns ++ ([n] : (List TimeNode))).length : Int) - 1)))], [.box [.v (.string text), I pos, I cn, I ct, I cd, .own 3] 236 false, .gone, .gone, rowI 139 TimeNode.ty (ns ++ ([n] : (List TimeNode)))]⟩ (by kernel_rfl) ?_
 refine WL.nil ?_
 refine En.ret ?_
 refine En.move 3 1 (by rfl) (by rfl) ?_
 exact En.backE [0] ht ((wr (((ns ++ ([n] : (List TimeNode))).length : Int) - 1)), pos, cn, ct, cd, (ns ++ ([n] : (List TimeNode)))) h (by kernel_rfl) (by rfl) rfl
theorem en196 : ∀ args w, (callFunc 196 args).run Try.prog w = .ok (.enter 196 args) w := enters_of Try.func196 (by kernel_rfl) rfl
theorem snoc_len {α : Type} (l : List α) (x : α) (h : l.length ≤ 1000000) : wr (((l ++ [x]).length : Int) - 1) = (l.length : Int) := by
 rw [List.length_append, List.length_singleton, wr_in (by omega) (by omega)]
 omega
theorem tPut_ct (text : ByteArray) (pos : Int) (cn : Int) (ct : Int) (cd : Int) (ns : (List TimeNode)) (n : TimeNode) (hp : ns.length ≤ 1000000)  : CtE 196 [.sv (.one (.ptr 0 0)), .sv (.agg [I n.fKind, I n.fA, I n.fB])] [.box [.v (.string text), I pos, I cn, I ct, I cd, .own 1] 236 false, rowI 139 TimeNode.ty ns] [0] (fun (_ : Unit) => True) (fun _ => .sv (.one (I ((ns.length : Int))))) (fun _ => [.box [.v (.string text), I (pos), I (cn), I (ct), I (cd), .own 1] 236 false, rowI 139 TimeNode.ty (ns ++ [n])]) := by
 refine (tPut_walk text pos cn ct cd ns n (fun res_ => res_ = ((ns.length : Int), pos, cn, ct, cd, ns ++ [n])) ?_).imp (fun r hr => ⟨(), trivial, by subst hr; rfl, by subst hr; rfl⟩)
 unfold tPut_vc
 refine ⟨capOk_of (by simp only [List.length_singleton]; omega), ?_⟩
 rw [snoc_len ns n hp]
def tNo_vc (text : ByteArray) (pos : Int) (cn : Int) (ct : Int) (cd : Int) (ns : (List TimeNode)) (a : Int) (Q : Int × Int × Int × Int × Int × (List TimeNode) → Prop) : Prop :=
 ((ns).length ≤ 1000000) ∧
 Q ((((ns).length : Int)), (pos), (cn), (ct), (cd), (ns ++ [(TimeNode.mk 3 a 0)]))
theorem tNo_walk (text : ByteArray) (pos : Int) (cn : Int) (ct : Int) (cd : Int) (ns : (List TimeNode)) (a : Int) (Q : Int × Int × Int × Int × Int × (List TimeNode) → Prop) (h : tNo_vc text pos cn ct cd ns a Q) : CtE 232 [.sv (.one (.ptr 0 0)), .sv (.one (I a))] [.box [.v (.string text), I pos, I cn, I ct, I cd, .own 1] 236 false, rowI 139 TimeNode.ty ns] [0] Q (fun (r : Int × Int × Int × Int × Int × (List TimeNode)) => .sv (.one (I r.1))) (fun (r : Int × Int × Int × Int × Int × (List TimeNode)) => [.box [.v (.string text), I r.2.1, I r.2.2.1, I r.2.2.2.1, I r.2.2.2.2.1, .own 1] 236 false, rowI 139 TimeNode.ty r.2.2.2.2.2]) := by
 have ht := tab_ok
 refine CtE.body Try.func232 rfl rfl rfl (by kernel_rfl) (by kernel_rfl) (fun c Bk hn => ?_)
 unfold tNo_vc at h
 show En c ⟨[sl 0 (.pptr 0 0 (Bk 0)), sl 1 (I a)], [.box [.v (.string text), I pos, I cn, I ct, I cd, .own 1] 236 false, rowI 139 TimeNode.ty ns]⟩ _
 refine En.seq ?_
 refine En.region ?_
 refine WL.run ht hn 1 ⟨[sl 0 (.pptr 0 0 (Bk 0)), sl 1 (I a)], [.box [.v (.string text), I pos, I cn, I ct, I cd, .own 1] 236 false, rowI 139 TimeNode.ty ns]⟩ (by kernel_rfl) ?_
 refine WL.nil ?_
 refine En.seq ?_
 refine En.region ?_
 refine WL.run ht hn 3 ⟨[sl 0 (.pptr 0 0 (Bk 0)), sl 5 (.ptr 0 0), (7, .sv (.agg [I 3, I a, I 0]))], [.box [.v (.string text), I pos, I cn, I ct, I cd, .own 1] 236 false, rowI 139 TimeNode.ty ns]⟩ (by kernel_rfl) ?_
 have hp := h.1
 replace h := h.2
 refine WL.callE (tPut_ct text pos cn ct cd ns (TimeNode.mk 3 a 0) hp) en196 (caps := []) [0, 1] hn (by rfl) rfl (by rfl) (argsAs (by kernel_rfl) (by rfl)) (by kernel_rfl) (by decide) (by rfl) (by rfl) (fun _ _ => ⟨by rfl, _, by rfl, ?_⟩)
 refine WL.run ht hn 1 ⟨[sl 0 (.pptr 0 0 (Bk 0)), sl 4 (I (((ns).length : Int)))], [.box [.v (.string text), I (pos), I (cn), I (ct), I (cd), .own 1] 236 false, rowI 139 TimeNode.ty (ns ++ [(TimeNode.mk 3 a 0)])]⟩ (by kernel_rfl) ?_
 refine WL.nil ?_
 refine En.ret ?_
 exact En.backE [0] ht ((((ns).length : Int)), (pos), (cn), (ct), (cd), (ns ++ [(TimeNode.mk 3 a 0)])) h (by kernel_rfl) (by rfl) rfl
theorem en232 : ∀ args w, (callFunc 232 args).run Try.prog w = .ok (.enter 232 args) w := enters_of Try.func232 (by kernel_rfl) rfl
theorem tNo_ct (text : ByteArray) (pos : Int) (cn : Int) (ct : Int) (cd : Int) (ns : (List TimeNode)) (a : Int) (hp : ns.length ≤ 1000000)  : CtE 232 [.sv (.one (.ptr 0 0)), .sv (.one (I a))] [.box [.v (.string text), I pos, I cn, I ct, I cd, .own 1] 236 false, rowI 139 TimeNode.ty ns] [0] (fun (_ : Unit) => True) (fun _ => .sv (.one (I ((ns.length : Int))))) (fun _ => [.box [.v (.string text), I (pos), I (cn), I (ct), I (cd), .own 1] 236 false, rowI 139 TimeNode.ty (ns ++ [⟨3, a, 0⟩])]) := by
 refine (tNo_walk text pos cn ct cd ns a (fun res_ => res_ = ((ns.length : Int), pos, cn, ct, cd, ns ++ [⟨3, a, 0⟩])) ?_).imp (fun r hr => ⟨(), trivial, by subst hr; rfl, by subst hr; rfl⟩)
 exact ⟨hp, rfl⟩
def tAlw_vc (text : ByteArray) (pos : Int) (cn : Int) (ct : Int) (cd : Int) (ns : (List TimeNode)) (Q : Int × Int × Int × Int × Int × (List TimeNode) → Prop) : Prop :=
 ((ns).length ≤ 1000000) ∧
 (((ns ++ [(TimeNode.mk 0 0 0)])).length ≤ 1000000) ∧
 Q (((((ns ++ [(TimeNode.mk 0 0 0)])).length : Int)), ((pos)), ((cn)), ((ct)), ((cd)), ((ns ++ [(TimeNode.mk 0 0 0)]) ++ [(TimeNode.mk 3 (((ns).length : Int)) 0)]))
theorem tAlw_walk (text : ByteArray) (pos : Int) (cn : Int) (ct : Int) (cd : Int) (ns : (List TimeNode)) (Q : Int × Int × Int × Int × Int × (List TimeNode) → Prop) (h : tAlw_vc text pos cn ct cd ns Q) : CtE 244 [.sv (.one (.ptr 0 0))] [.box [.v (.string text), I pos, I cn, I ct, I cd, .own 1] 236 false, rowI 139 TimeNode.ty ns] [0] Q (fun (r : Int × Int × Int × Int × Int × (List TimeNode)) => .sv (.one (I r.1))) (fun (r : Int × Int × Int × Int × Int × (List TimeNode)) => [.box [.v (.string text), I r.2.1, I r.2.2.1, I r.2.2.2.1, I r.2.2.2.2.1, .own 1] 236 false, rowI 139 TimeNode.ty r.2.2.2.2.2]) := by
 have ht := tab_ok
 refine CtE.body Try.func244 rfl rfl rfl (by kernel_rfl) (by kernel_rfl) (fun c Bk hn => ?_)
 unfold tAlw_vc at h
 show En c ⟨[sl 0 (.pptr 0 0 (Bk 0))], [.box [.v (.string text), I pos, I cn, I ct, I cd, .own 1] 236 false, rowI 139 TimeNode.ty ns]⟩ _
 refine En.seq ?_
 refine En.region ?_
 refine WL.run ht hn 1 ⟨[sl 0 (.pptr 0 0 (Bk 0))], [.box [.v (.string text), I pos, I cn, I ct, I cd, .own 1] 236 false, rowI 139 TimeNode.ty ns]⟩ (by kernel_rfl) ?_
 refine WL.nil ?_
 refine En.seq ?_
 refine En.region ?_
 refine WL.run ht hn 3 ⟨[sl 0 (.pptr 0 0 (Bk 0)), sl 3 (.ptr 0 0), sl 4 (.ptr 0 0), (5, .sv (.agg [I 0, I 0, I 0]))], [.box [.v (.string text), I pos, I cn, I ct, I cd, .own 1] 236 false, rowI 139 TimeNode.ty ns]⟩ (by kernel_rfl) ?_
 have hp := h.1
 replace h := h.2
 refine WL.callE (tPut_ct text pos cn ct cd ns (TimeNode.mk 0 0 0) hp) en196 (caps := []) [0, 1] hn (by rfl) rfl (by rfl) (argsAs (by kernel_rfl) (by rfl)) (by kernel_rfl) (by decide) (by rfl) (by rfl) (fun _ _ => ⟨by rfl, _, by rfl, ?_⟩)
 have hp := h.1
 replace h := h.2
 refine WL.callE (tNo_ct text (pos) (cn) (ct) (cd) (ns ++ [(TimeNode.mk 0 0 0)]) (((ns).length : Int)) hp) en232 (caps := []) [0, 1] hn (by rfl) rfl (by rfl) (argsAs (by kernel_rfl) (by rfl)) (by kernel_rfl) (by decide) (by rfl) (by rfl) (fun _ _ => ⟨by rfl, _, by rfl, ?_⟩)
 refine WL.run ht hn 1 ⟨[sl 0 (.pptr 0 0 (Bk 0)), sl 2 (I ((((ns ++ [(TimeNode.mk 0 0 0)])).length : Int)))], [.box [.v (.string text), I ((pos)), I ((cn)), I ((ct)), I ((cd)), .own 1] 236 false, rowI 139 TimeNode.ty ((ns ++ [(TimeNode.mk 0 0 0)]) ++ [(TimeNode.mk 3 (((ns).length : Int)) 0)])]⟩ (by kernel_rfl) ?_
 refine WL.nil ?_
 refine En.ret ?_
 exact En.backE [0] ht (((((ns ++ [(TimeNode.mk 0 0 0)])).length : Int)), ((pos)), ((cn)), ((ct)), ((cd)), ((ns ++ [(TimeNode.mk 0 0 0)]) ++ [(TimeNode.mk 3 (((ns).length : Int)) 0)])) h (by kernel_rfl) (by rfl) rfl
theorem en244 : ∀ args w, (callFunc 244 args).run Try.prog w = .ok (.enter 244 args) w := enters_of Try.func244 (by kernel_rfl) rfl
theorem tAlw_ct (text : ByteArray) (pos : Int) (cn : Int) (ct : Int) (cd : Int) (ns : (List TimeNode)) (hp : ns.length ≤ 100000)  : CtE 244 [.sv (.one (.ptr 0 0))] [.box [.v (.string text), I pos, I cn, I ct, I cd, .own 1] 236 false, rowI 139 TimeNode.ty ns] [0] (fun (_ : Unit) => True) (fun _ => .sv (.one (I (((ns ++ [TimeNode.mk 0 0 0]).length : Int))))) (fun _ => [.box [.v (.string text), I (pos), I (cn), I (ct), I (cd), .own 1] 236 false, rowI 139 TimeNode.ty ((ns ++ [TimeNode.mk 0 0 0]) ++ [TimeNode.mk 3 (ns.length : Int) 0])]) := by
 refine (tAlw_walk text pos cn ct cd ns (fun res_ => res_ = (((ns ++ [TimeNode.mk 0 0 0]).length : Int), pos, cn, ct, cd, (ns ++ [TimeNode.mk 0 0 0]) ++ [TimeNode.mk 3 (ns.length : Int) 0])) ?_).imp (fun r hr => ⟨(), trivial, by subst hr; rfl, by subst hr; rfl⟩)
 unfold tAlw_vc
 exact ⟨by omega, by rw [List.length_append]; simp only [List.length_singleton]; omega, rfl⟩
def oneF (rec1 rec3 : TS → Option (Int × TS)) (text : ByteArray) (s : TS) : Option (Int × TS) :=
 if tch text s.pos = 33 then (cntF text s).bind fun s1 => (rec1 s1).bind fun r => some (noF r.1 r.2)
 else if tch text s.pos = 88 then (cntF text s).bind fun s1 => (rec1 s1).bind fun r => some (putF ⟨6, r.1, 0⟩ r.2)
 else if tch text s.pos = 70 then (cntF text s).bind fun s1 => (rec1 (alwF s1).2).bind fun r => some (putF ⟨7, (alwF s1).1, r.1⟩ r.2)
 else if tch text s.pos = 71 then (cntF text s).bind fun s1 => (rec1 (alwF s1).2).bind fun r => some (noF (putF ⟨7, (alwF s1).1, (noF r.1 r.2).1⟩ (noF r.1 r.2).2).1 (putF ⟨7, (alwF s1).1, (noF r.1 r.2).1⟩ (noF r.1 r.2).2).2)
 else if tch text s.pos = 40 then if s.cd = 40 then none else (rec3 ⟨s.pos + 1, s.cn, s.ct, s.cd + 1, s.ns⟩).bind fun r => if tch text r.2.pos = 41 then some (r.1, ⟨r.2.pos + 1, r.2.cn, r.2.ct, r.2.cd - 1, r.2.ns⟩) else none
 else if tch text s.pos = 112 then (cntF text s).bind fun s1 => some (putF ⟨1, 0, 0⟩ s1)
 else if tch text s.pos = 113 then (cntF text s).bind fun s1 => some (putF ⟨2, 0, 0⟩ s1)
 else if tch text s.pos = 48 then (cntF text s).bind fun s1 => some (putF ⟨0, 0, 0⟩ s1)
 else if tch text s.pos = 49 then (cntF text s).bind fun s1 => some (alwF s1)
 else none
def prtF (rec0 rec1 : TS → Option (Int × TS)) (text : ByteArray) (s : TS) : Option (Int × TS) := (rec0 s).bind fun r =>
 if tch text r.2.pos = 85 then (cntF text r.2).bind fun s1 => (rec1 s1).bind fun r2 => some (putF ⟨7, r.1, r2.1⟩ r2.2)
 else if tch text r.2.pos = 82 then (cntF text r.2).bind fun s1 => (rec1 (noF r.1 s1).2).bind fun r2 => some (noF (putF ⟨7, (noF r.1 s1).1, (noF r2.1 r2.2).1⟩ (noF r2.1 r2.2).2).1 (putF ⟨7, (noF r.1 s1).1, (noF r2.1 r2.2).1⟩ (noF r2.1 r2.2).2).2)
 else some r
def lopL (ch kd : Int) (rec : TS → Option (Int × TS)) (text : ByteArray) : Nat → Int → TS → Option (Int × TS)
 | 0, _, _ => none
 | m + 1, n, s => if tch text s.pos = ch then (cntF text s).bind fun s1 => (rec s1).bind fun r => lopL ch kd rec text m (putF ⟨kd, n, r.1⟩ r.2).1 (putF ⟨kd, n, r.1⟩ r.2).2 else some (n, s)
def lopF (ch kd : Int) (rec : TS → Option (Int × TS)) (text : ByteArray) (s : TS) : Option (Int × TS) := (rec s).bind fun r => lopL ch kd rec text (text.size + 1) r.1 r.2
def pS (text : ByteArray) : Nat → Nat → TS → Option (Int × TS)
 | 0, _, _ => none
 | k + 1, 0, s => oneF (pS text k 0) (pS text k 3) text s
 | k + 1, 1, s => prtF (pS text k 0) (pS text k 1) text s
 | k + 1, 2, s => lopF 38 4 (pS text k 1) text s
 | k + 1, _, s => lopF 124 5 (pS text k 2) text s
section
variable {text : ByteArray} {s : TS} {R1 R3 : TS → Option (Int × TS)}
theorem oneF_33 (h : tch text s.pos = 33) : oneF R1 R3 text s = (cntF text s).bind fun s1 => (R1 s1).bind fun r => some (noF r.1 r.2) := by
 unfold oneF
 rw [if_pos h]
theorem oneF_88 (h : tch text s.pos = 88) : oneF R1 R3 text s = (cntF text s).bind fun s1 => (R1 s1).bind fun r => some (putF ⟨6, r.1, 0⟩ r.2) := by
 unfold oneF
 rw [if_neg (by omega), if_pos h]
theorem oneF_70 (h : tch text s.pos = 70) : oneF R1 R3 text s = (cntF text s).bind fun s1 => (R1 (alwF s1).2).bind fun r => some (putF ⟨7, (alwF s1).1, r.1⟩ r.2) := by
 unfold oneF
 rw [if_neg (by omega), if_neg (by omega), if_pos h]
theorem oneF_71 (h : tch text s.pos = 71) : oneF R1 R3 text s = (cntF text s).bind fun s1 => (R1 (alwF s1).2).bind fun r => some (noF (putF ⟨7, (alwF s1).1, (noF r.1 r.2).1⟩ (noF r.1 r.2).2).1 (putF ⟨7, (alwF s1).1, (noF r.1 r.2).1⟩ (noF r.1 r.2).2).2) := by
 unfold oneF
 rw [if_neg (by omega), if_neg (by omega), if_neg (by omega), if_pos h]
theorem oneF_40 (h : tch text s.pos = 40) : oneF R1 R3 text s = if s.cd = 40 then none else (R3 ⟨s.pos + 1, s.cn, s.ct, s.cd + 1, s.ns⟩).bind fun r => if tch text r.2.pos = 41 then some (r.1, ⟨r.2.pos + 1, r.2.cn, r.2.ct, r.2.cd - 1, r.2.ns⟩) else none := by
 unfold oneF
 rw [if_neg (by omega), if_neg (by omega), if_neg (by omega), if_neg (by omega), if_pos h]
theorem oneF_112 (h : tch text s.pos = 112) : oneF R1 R3 text s = (cntF text s).bind fun s1 => some (putF ⟨1, 0, 0⟩ s1) := by
 unfold oneF
 rw [if_neg (by omega), if_neg (by omega), if_neg (by omega), if_neg (by omega), if_neg (by omega), if_pos h]
theorem oneF_113 (h : tch text s.pos = 113) : oneF R1 R3 text s = (cntF text s).bind fun s1 => some (putF ⟨2, 0, 0⟩ s1) := by
 unfold oneF
 rw [if_neg (by omega), if_neg (by omega), if_neg (by omega), if_neg (by omega), if_neg (by omega), if_neg (by omega), if_pos h]
theorem oneF_48 (h : tch text s.pos = 48) : oneF R1 R3 text s = (cntF text s).bind fun s1 => some (putF ⟨0, 0, 0⟩ s1) := by
 unfold oneF
 rw [if_neg (by omega), if_neg (by omega), if_neg (by omega), if_neg (by omega), if_neg (by omega), if_neg (by omega), if_neg (by omega), if_pos h]
theorem oneF_49 (h : tch text s.pos = 49) : oneF R1 R3 text s = (cntF text s).bind fun s1 => some (alwF s1) := by
 unfold oneF
 rw [if_neg (by omega), if_neg (by omega), if_neg (by omega), if_neg (by omega), if_neg (by omega), if_neg (by omega), if_neg (by omega), if_neg (by omega), if_pos h]
theorem oneF_no (h33 : ¬ tch text s.pos = 33) (h88 : ¬ tch text s.pos = 88) (h70 : ¬ tch text s.pos = 70) (h71 : ¬ tch text s.pos = 71) (h40 : ¬ tch text s.pos = 40) (h112 : ¬ tch text s.pos = 112) (h113 : ¬ tch text s.pos = 113) (h48 : ¬ tch text s.pos = 48) (h49 : ¬ tch text s.pos = 49) : oneF R1 R3 text s = none := by
 unfold oneF
 rw [if_neg h33, if_neg h88, if_neg h70, if_neg h71, if_neg h40, if_neg h112, if_neg h113, if_neg h48, if_neg h49]
end
inductive TF where
 | nev
 | p
 | q
 | no (a : TF)
 | an (a b : TF)
 | or (a b : TF)
 | be (a : TF)
 | un (a b : TF)
def Dec (l : List TimeNode) : Int → TF → Prop
 | n, .nev => ∃ a b, idx l n = some ⟨0, a, b⟩
 | n, .p => ∃ a b, idx l n = some ⟨1, a, b⟩
 | n, .q => ∃ a b, idx l n = some ⟨2, a, b⟩
 | n, .no a => ∃ x y, idx l n = some ⟨3, x, y⟩ ∧ Dec l x a
 | n, .an a b => ∃ x y, idx l n = some ⟨4, x, y⟩ ∧ Dec l x a ∧ Dec l y b
 | n, .or a b => ∃ x y, idx l n = some ⟨5, x, y⟩ ∧ Dec l x a ∧ Dec l y b
 | n, .be a => ∃ x y, idx l n = some ⟨6, x, y⟩ ∧ Dec l x a
 | n, .un a b => ∃ x y, idx l n = some ⟨7, x, y⟩ ∧ Dec l x a ∧ Dec l y b
theorem idx_app {α : Type} {l e : List α} {n : Int} {x : α} (h : idx l n = some x) : idx (l ++ e) n = some x := by
 obtain ⟨h0, h1, h2⟩ := idx_some h
 unfold idx
 rw [if_pos h0, List.getElem?_append_left (by omega)]
 exact h2
theorem Dec.app {l e : List TimeNode} : ∀ {t : TF} {n : Int}, Dec l n t → Dec (l ++ e) n t
 | .nev, n, ⟨a, b, h⟩ => ⟨a, b, idx_app h⟩
 | .p, n, ⟨a, b, h⟩ => ⟨a, b, idx_app h⟩
 | .q, n, ⟨a, b, h⟩ => ⟨a, b, idx_app h⟩
 | .no t, n, ⟨a, b, h, k⟩ => ⟨a, b, idx_app h, k.app⟩
 | .an t u, n, ⟨a, b, h, k, j⟩ => ⟨a, b, idx_app h, k.app, j.app⟩
 | .or t u, n, ⟨a, b, h, k, j⟩ => ⟨a, b, idx_app h, k.app, j.app⟩
 | .be t, n, ⟨a, b, h, k⟩ => ⟨a, b, idx_app h, k.app⟩
 | .un t u, n, ⟨a, b, h, k, j⟩ => ⟨a, b, idx_app h, k.app, j.app⟩
def NdOk (k : Int) (n : TimeNode) : Prop := 0 ≤ n.fKind ∧ n.fKind ≤ 7 ∧ (3 ≤ n.fKind → 0 ≤ n.fA ∧ n.fA < k) ∧ (n.fKind = 4 ∨ n.fKind = 5 ∨ n.fKind = 7 → 0 ≤ n.fB ∧ n.fB < k)
def WfN (l : List TimeNode) : Prop := ∀ (k : Nat) (n : TimeNode), l[k]? = some n → NdOk (k : Int) n
theorem WfN.snoc {l : List TimeNode} (h : WfN l) {n : TimeNode} (hn : NdOk (l.length : Int) n) : WfN (l ++ [n]) := fun k m hk => by
 by_cases hkl : k < l.length
 ·rw [List.getElem?_append_left hkl] at hk
  exact h k m hk
 ·have := (List.getElem?_eq_some_iff.1 hk).1
  rw [List.length_append, List.length_singleton] at this
  have e : k = l.length := by omega
  subst e
  rw [List.getElem?_append_right (Nat.le_refl _), Nat.sub_self] at hk
  cases hk
  exact hn
def In (l : List TimeNode) (n : Int) : Prop := 0 ≤ n ∧ n < (l.length : Int)
theorem idx_last {l : List TimeNode} {n : TimeNode} : idx (l ++ [n]) (l.length : Int) = some n := by
 unfold idx
 rw [if_pos (Int.natCast_nonneg _), Int.toNat_natCast, List.getElem?_append_right (Nat.le_refl _), Nat.sub_self]
 rfl
structure Put (s : TS) (r : Int × TS) (t : TF) : Prop where
 ext : ∃ e, r.2.ns = s.ns ++ e
 dec : Dec r.2.ns r.1 t
 in_ : In r.2.ns r.1
 wf : WfN s.ns → WfN r.2.ns
theorem Put.node {s s' : TS} {n : TimeNode} {t : TF} (hs : ∃ e, s'.ns = s.ns ++ e) (hw : WfN s.ns → WfN s'.ns) (hn : NdOk (s'.ns.length : Int) n) (hd : Dec (s'.ns ++ [n]) (s'.ns.length : Int) t) : Put s (putF n s') t := by
 obtain ⟨e, he⟩ := hs
 refine ⟨⟨e ++ [n], ?_⟩, hd, ⟨Int.natCast_nonneg _, ?_⟩, fun h => (hw h).snoc hn⟩
 ·show s'.ns ++ [n] = _
  rw [he, List.append_assoc]
 ·show (s'.ns.length : Int) < ((s'.ns ++ [n]).length : Int)
  rw [List.length_append, List.length_singleton]
  omega
theorem Put.up {s s' : TS} {r : Int × TS} {t : TF} (h : Put s' r t) (hs : ∃ e, s'.ns = s.ns ++ e) (hw : WfN s.ns → WfN s'.ns) : Put s r t := by
 obtain ⟨e, he⟩ := hs
 obtain ⟨e2, he2⟩ := h.ext
 exact ⟨⟨e ++ e2, by rw [he2, he, List.append_assoc]⟩, h.dec, h.in_, fun x => h.wf (hw x)⟩
theorem Put.same {s : TS} : (∃ e, s.ns = s.ns ++ e) ∧ (WfN s.ns → WfN s.ns) := ⟨⟨[], by simp⟩, id⟩
theorem Put.no {s : TS} {r : Int × TS} {t : TF} (h : Put s r t) : Put s (noF r.1 r.2) (.no t) :=
 Put.node h.ext h.wf ⟨by show (0 : Int) ≤ 3; decide, by show (3 : Int) ≤ 7; decide, fun _ => h.in_, fun k => by rcases k with k | k | k <;> cases k⟩ ⟨_, _, idx_last, h.dec.app⟩
theorem Put.be {s : TS} {r : Int × TS} {t : TF} (h : Put s r t) : Put s (putF ⟨6, r.1, 0⟩ r.2) (.be t) :=
 Put.node h.ext h.wf ⟨by show (0 : Int) ≤ 6; decide, by show (6 : Int) ≤ 7; decide, fun _ => h.in_, fun k => by rcases k with k | k | k <;> cases k⟩ ⟨_, _, idx_last, h.dec.app⟩
theorem Put.two {s s2 : TS} {a : Int} {t u v : TF} {r : Int × TS} {kd : Int} (hk : kd = 4 ∨ kd = 5 ∨ kd = 7) (ha : Put s (a, s2) t) (h : Put s2 r u) (hd : Dec (r.2.ns ++ [⟨kd, a, r.1⟩]) (r.2.ns.length : Int) v) : Put s (putF ⟨kd, a, r.1⟩ r.2) v := by
 have h2 := h.up ha.ext ha.wf
 obtain ⟨e, he⟩ := h.ext
 have hin := ha.in_
 refine Put.node h2.ext h2.wf ⟨?_, ?_, fun _ => ⟨hin.1, ?_⟩, fun _ => h.in_⟩ hd
 ·show 0 ≤ kd
  omega
 ·show kd ≤ 7
  omega
 ·show a < (r.2.ns.length : Int)
  rw [he, List.length_append]
  have : a < (s2.ns.length : Int) := hin.2
  omega
theorem Put.dec2 {s s2 : TS} {a : Int} {t u : TF} {r : Int × TS} {kd : Int} (ha : Put s (a, s2) t) (h : Put s2 r u) : ∃ x y, idx (r.2.ns ++ [⟨kd, a, r.1⟩]) (r.2.ns.length : Int) = some ⟨kd, x, y⟩ ∧ Dec (r.2.ns ++ [⟨kd, a, r.1⟩]) x t ∧ Dec (r.2.ns ++ [⟨kd, a, r.1⟩]) y u := by
 obtain ⟨e, he⟩ := h.ext
 refine ⟨a, r.1, idx_last, ?_, h.dec.app⟩
 rw [he]
 exact ha.dec.app.app
theorem Put.un {s s2 : TS} {a : Int} {t u : TF} {r : Int × TS} (ha : Put s (a, s2) t) (h : Put s2 r u) : Put s (putF ⟨7, a, r.1⟩ r.2) (.un t u) := Put.two (.inr (.inr rfl)) ha h (ha.dec2 h)
theorem Put.an {s s2 : TS} {a : Int} {t u : TF} {r : Int × TS} (ha : Put s (a, s2) t) (h : Put s2 r u) : Put s (putF ⟨4, a, r.1⟩ r.2) (.an t u) := Put.two (.inl rfl) ha h (ha.dec2 h)
theorem Put.or {s s2 : TS} {a : Int} {t u : TF} {r : Int × TS} (ha : Put s (a, s2) t) (h : Put s2 r u) : Put s (putF ⟨5, a, r.1⟩ r.2) (.or t u) := Put.two (.inr (.inl rfl)) ha h (ha.dec2 h)
theorem Put.leaf {s : TS} {kd : Int} {t : TF} (hk : 0 ≤ kd ∧ kd ≤ 2) (hd : Dec (s.ns ++ [⟨kd, 0, 0⟩]) (s.ns.length : Int) t) : Put s (putF ⟨kd, 0, 0⟩ s) t :=
 Put.node Put.same.1 Put.same.2 ⟨hk.1, by show kd ≤ 7; omega, fun h => by have h : 3 ≤ kd := h; omega, fun h => by have h : kd = 4 ∨ kd = 5 ∨ kd = 7 := h; omega⟩ hd
theorem Put.alw {s : TS} : Put s (alwF s) (.no .nev) := Put.no (r := putF ⟨0, 0, 0⟩ s) (Put.leaf (s := s) (kd := 0) (t := .nev) (by decide) ⟨_, _, idx_last⟩)
def onfT (rec1 rec3 : Int → Option (TF × Int)) (text : ByteArray) (p : Int) : Option (TF × Int) :=
 if tch text p = 33 then (rec1 (p + 1)).bind fun r => some (.no r.1, r.2)
 else if tch text p = 88 then (rec1 (p + 1)).bind fun r => some (.be r.1, r.2)
 else if tch text p = 70 then (rec1 (p + 1)).bind fun r => some (.un (.no .nev) r.1, r.2)
 else if tch text p = 71 then (rec1 (p + 1)).bind fun r => some (.no (.un (.no .nev) (.no r.1)), r.2)
 else if tch text p = 40 then (rec3 (p + 1)).bind fun r => if tch text r.2 = 41 then some (r.1, r.2 + 1) else none
 else if tch text p = 112 then some (.p, p + 1)
 else if tch text p = 113 then some (.q, p + 1)
 else if tch text p = 48 then some (.nev, p + 1)
 else if tch text p = 49 then some (.no .nev, p + 1)
 else none
def prtT (rec0 rec1 : Int → Option (TF × Int)) (text : ByteArray) (p : Int) : Option (TF × Int) := (rec0 p).bind fun r =>
 if tch text r.2 = 85 then (rec1 (r.2 + 1)).bind fun r2 => some (.un r.1 r2.1, r2.2)
 else if tch text r.2 = 82 then (rec1 (r.2 + 1)).bind fun r2 => some (.no (.un (.no r.1) (.no r2.1)), r2.2)
 else some r
def lopTL (ch : Int) (mk : TF → TF → TF) (rec : Int → Option (TF × Int)) (text : ByteArray) : Nat → TF → Int → Option (TF × Int)
 | 0, _, _ => none
 | m + 1, t, p => if tch text p = ch then (rec (p + 1)).bind fun r => lopTL ch mk rec text m (mk t r.1) r.2 else some (t, p)
def lopT (ch : Int) (mk : TF → TF → TF) (rec : Int → Option (TF × Int)) (text : ByteArray) (p : Int) : Option (TF × Int) := (rec p).bind fun r => lopTL ch mk rec text (text.size + 1) r.1 r.2
def pT (text : ByteArray) : Nat → Nat → Int → Option (TF × Int)
 | 0, _, _ => none
 | k + 1, 0, p => onfT (pT text k 0) (pT text k 3) text p
 | k + 1, 1, p => prtT (pT text k 0) (pT text k 1) text p
 | k + 1, 2, p => lopT 38 .an (pT text k 1) text p
 | k + 1, _, p => lopT 124 .or (pT text k 2) text p
def gOk (text : ByteArray) (s : TS) : Prop := (0 ≤ s.pos ∧ s.pos ≤ text.size) ∧ (0 ≤ s.cn ∧ s.cn ≤ 30) ∧ (0 ≤ s.ct ∧ s.ct ≤ 5) ∧ (0 ≤ s.cd ∧ s.cd ≤ 40) ∧ s.ns.length + 5 * (31 - s.cn) ≤ 1000
section
variable {text : ByteArray} {p : Int} {T1 T3 : Int → Option (TF × Int)}
theorem onfT_33 (h : tch text p = 33) : onfT T1 T3 text p = (T1 (p + 1)).bind fun r => some (.no r.1, r.2) := by
 unfold onfT
 rw [if_pos h]
theorem onfT_88 (h : tch text p = 88) : onfT T1 T3 text p = (T1 (p + 1)).bind fun r => some (.be r.1, r.2) := by
 unfold onfT
 rw [if_neg (by omega), if_pos h]
theorem onfT_70 (h : tch text p = 70) : onfT T1 T3 text p = (T1 (p + 1)).bind fun r => some (.un (.no .nev) r.1, r.2) := by
 unfold onfT
 rw [if_neg (by omega), if_neg (by omega), if_pos h]
theorem onfT_71 (h : tch text p = 71) : onfT T1 T3 text p = (T1 (p + 1)).bind fun r => some (.no (.un (.no .nev) (.no r.1)), r.2) := by
 unfold onfT
 rw [if_neg (by omega), if_neg (by omega), if_neg (by omega), if_pos h]
theorem onfT_40 (h : tch text p = 40) : onfT T1 T3 text p = (T3 (p + 1)).bind fun r => if tch text r.2 = 41 then some (r.1, r.2 + 1) else none := by
 unfold onfT
 rw [if_neg (by omega), if_neg (by omega), if_neg (by omega), if_neg (by omega), if_pos h]
theorem onfT_112 (h : tch text p = 112) : onfT T1 T3 text p = some (.p, p + 1) := by
 unfold onfT
 rw [if_neg (by omega), if_neg (by omega), if_neg (by omega), if_neg (by omega), if_neg (by omega), if_pos h]
theorem onfT_113 (h : tch text p = 113) : onfT T1 T3 text p = some (.q, p + 1) := by
 unfold onfT
 rw [if_neg (by omega), if_neg (by omega), if_neg (by omega), if_neg (by omega), if_neg (by omega), if_neg (by omega), if_pos h]
theorem onfT_48 (h : tch text p = 48) : onfT T1 T3 text p = some (.nev, p + 1) := by
 unfold onfT
 rw [if_neg (by omega), if_neg (by omega), if_neg (by omega), if_neg (by omega), if_neg (by omega), if_neg (by omega), if_neg (by omega), if_pos h]
theorem onfT_49 (h : tch text p = 49) : onfT T1 T3 text p = some (.no .nev, p + 1) := by
 unfold onfT
 rw [if_neg (by omega), if_neg (by omega), if_neg (by omega), if_neg (by omega), if_neg (by omega), if_neg (by omega), if_neg (by omega), if_neg (by omega), if_pos h]
end
structure Pre1 (j : Int) (text : ByteArray) (s s' : TS) : Prop where
 pos : s.pos < s'.pos
 ok : gOk text s'
 cd : s'.cd = s.cd
 phi : s'.ns.length + 5 * (31 - s'.cn) + j ≤ s.ns.length + 5 * (31 - s.cn)
structure Good1 (text : ByteArray) (T : Int → Option (TF × Int)) (s : TS) (r : Int × TS) : Prop where
 pre : Pre1 0 text s r.2
 put : ∃ t, T s.pos = some (t, r.2.pos) ∧ Put s r t
def GoodT (text : ByteArray) (f : TS → Option (Int × TS)) (T : Int → Option (TF × Int)) : Prop := ∀ s r, text.size ≤ 4000 → gOk text s → f s = some r → Good1 text T s r
theorem cnt_good {text : ByteArray} {s s1 : TS} (hg : gOk text s) (hlt : s.pos < text.size) (h : cntF text s = some s1) : gOk text s1 ∧ s1.pos = s.pos + 1 ∧ s1.cn = s.cn + 1 ∧ s1.cd = s.cd ∧ s1.ns = s.ns := by
 obtain ⟨⟨p0, p1⟩, ⟨n0, n1⟩, ⟨t0, t1⟩, ⟨d0, d1⟩, hphi⟩ := hg
 unfold cntF at h
 simp only at h
 by_cases hc : s.cn + 1 > 30 ∨ (ofT (tch text s.pos) = true ∧ (if ofT (tch text s.pos) = true then s.ct + 1 else s.ct) > 5)
 ·rw [if_pos hc] at h
  cases h
 ·rw [if_neg hc] at h
  cases h
  refine ⟨⟨⟨by show 0 ≤ s.pos + 1; omega, by show s.pos + 1 ≤ text.size; omega⟩, ⟨by show 0 ≤ s.cn + 1; omega, by show s.cn + 1 ≤ 30; omega⟩, ?_, ⟨d0, d1⟩, by show s.ns.length + 5 * (31 - (s.cn + 1)) ≤ 1000; omega⟩, rfl, rfl, rfl, rfl⟩
  show 0 ≤ (if ofT (tch text s.pos) = true then s.ct + 1 else s.ct) ∧ (if ofT (tch text s.pos) = true then s.ct + 1 else s.ct) ≤ 5
  by_cases hb : ofT (tch text s.pos) = true
  ·have hc2 : ¬ s.ct + 1 > 5 := fun h => hc (.inr ⟨hb, by rw [if_pos hb]; exact h⟩)
   rw [if_pos hb]
   omega
  ·rw [if_neg hb]
   omega
theorem gOk.len {text : ByteArray} {s : TS} (h : gOk text s) : s.ns.length ≤ 1000 := by
 obtain ⟨_, ⟨_, n1⟩, _, _, hphi⟩ := h
 omega
section
variable {text : ByteArray} {s s' s1 : TS} {j : Int} {T : Int → Option (TF × Int)}
theorem Pre1.put (n : TimeNode) (h : Pre1 (j + 1) text s s') (hj : 0 ≤ j) (hs : gOk text s) : Pre1 j text s (putF n s').2 := by
 obtain ⟨h1, ⟨h2, h3, h4, h5, h6⟩, h7, h8⟩ := h
 have hphi := hs.2.2.2.2
 have hlen : ((putF n s').2.ns.length : Int) = s'.ns.length + 1 := by
  show ((s'.ns ++ [n]).length : Int) = _
  rw [List.length_append, List.length_singleton]
  omega
 refine ⟨h1, ⟨h2, h3, h4, h5, ?_⟩, h7, ?_⟩
 ·rw [hlen]
  show (s'.ns.length : Int) + 1 + 5 * (31 - s'.cn) ≤ 1000
  omega
 ·rw [hlen]
  show (s'.ns.length : Int) + 1 + 5 * (31 - s'.cn) + j ≤ _
  omega
theorem Pre1.cnt (hg : gOk text s) (hlt : s.pos < text.size) (h : cntF text s = some s1) : Pre1 5 text s s1 ∧ s1.pos = s.pos + 1 ∧ s1.ns = s.ns := by
 obtain ⟨g1, g2, g3, g4, g5⟩ := cnt_good hg hlt h
 exact ⟨⟨by omega, g1, g4, by rw [g5, g3]; omega⟩, g2, g5⟩
theorem Pre1.alw (h : Pre1 (j + 1 + 1) text s s') (hj : 0 ≤ j) (hs : gOk text s) : Pre1 j text s (alwF s').2 := (h.put _ (by omega) hs).put _ hj hs
theorem Pre1.step (h : Pre1 j text s s') {r : Int × TS} (g : Good1 text T s' r) : Pre1 j text s r.2 := by
 obtain ⟨h1, h2, h3, h4⟩ := h
 obtain ⟨⟨g1, g2, g3, g4⟩, _⟩ := g
 exact ⟨by omega, g2, by rw [g3, h3], by omega⟩
theorem Pre1.mono {i : Int} (h : Pre1 j text s s') (hi : i ≤ j) : Pre1 i text s s' := ⟨h.pos, h.ok, h.cd, by have := h.phi; omega⟩
theorem Pre1.tr {s2 : TS} {i : Int} (h : Pre1 j text s s') (g : Pre1 i text s' s2) : Pre1 (j + i) text s s2 := ⟨by have := h.pos; have := g.pos; omega, g.ok, by rw [g.cd, h.cd], by have := h.phi; have := g.phi; omega⟩
theorem ns_eq {s s1 : TS} (h : s1.ns = s.ns) : (∃ e, s1.ns = s.ns ++ e) ∧ (WfN s.ns → WfN s1.ns) := ⟨⟨[], by rw [h]; simp⟩, fun x => by rw [h]; exact x⟩
end
section
variable {text : ByteArray} {R0 R1 R3 : TS → Option (Int × TS)} {T0 T1 T3 : Int → Option (TF × Int)}
theorem oneF_good (h1 : GoodT text R1 T1) (h3 : GoodT text R3 T3) : GoodT text (oneF R1 R3 text) (onfT T1 T3 text) := fun s r hz hg e => by
 by_cases c33 : tch text s.pos = 33
 ·rw [oneF_33 c33] at e
  obtain ⟨s1, z1, e⟩ := Option.bind_eq_some_iff.1 e
  obtain ⟨x, z2, e⟩ := Option.bind_eq_some_iff.1 e
  cases e
  obtain ⟨q1, q2, q3⟩ := Pre1.cnt hg (tch_lt (by omega)) z1
  have G := h1 s1 x hz q1.ok z2
  obtain ⟨t, zt, ht⟩ := G.put
  refine ⟨((q1.step G).mono (by decide)).put (j := 0) _ (by decide) hg, .no t, ?_, (ht.up (ns_eq q3).1 (ns_eq q3).2).no⟩
  rw [onfT_33 c33, ← q2, zt]
  rfl
 by_cases c88 : tch text s.pos = 88
 ·rw [oneF_88 c88] at e
  obtain ⟨s1, z1, e⟩ := Option.bind_eq_some_iff.1 e
  obtain ⟨x, z2, e⟩ := Option.bind_eq_some_iff.1 e
  cases e
  obtain ⟨q1, q2, q3⟩ := Pre1.cnt hg (tch_lt (by omega)) z1
  have G := h1 s1 x hz q1.ok z2
  obtain ⟨t, zt, ht⟩ := G.put
  refine ⟨((q1.step G).mono (by decide)).put (j := 0) _ (by decide) hg, .be t, ?_, (ht.up (ns_eq q3).1 (ns_eq q3).2).be⟩
  rw [onfT_88 c88, ← q2, zt]
  rfl
 by_cases c70 : tch text s.pos = 70
 ·rw [oneF_70 c70] at e
  obtain ⟨s1, z1, e⟩ := Option.bind_eq_some_iff.1 e
  obtain ⟨x, z2, e⟩ := Option.bind_eq_some_iff.1 e
  cases e
  obtain ⟨q1, q2, q3⟩ := Pre1.cnt hg (tch_lt (by omega)) z1
  have A := (q1.mono (i := 1 + 1 + 1) (by decide)).alw (by decide) hg
  have G := h1 _ x hz A.ok z2
  obtain ⟨t, zt, ht⟩ := G.put
  refine ⟨((A.step G).mono (by decide)).put (j := 0) _ (by decide) hg, .un (.no .nev) t, ?_, Put.un (Put.alw.up (ns_eq q3).1 (ns_eq q3).2) ht⟩
  rw [onfT_70 c70, ← q2, show s1.pos = (alwF s1).2.pos from rfl, zt]
  rfl
 by_cases c71 : tch text s.pos = 71
 ·rw [oneF_71 c71] at e
  obtain ⟨s1, z1, e⟩ := Option.bind_eq_some_iff.1 e
  obtain ⟨x, z2, e⟩ := Option.bind_eq_some_iff.1 e
  cases e
  obtain ⟨q1, q2, q3⟩ := Pre1.cnt hg (tch_lt (by omega)) z1
  have A := (q1.mono (i := 3 + 1 + 1) (by decide)).alw (by decide) hg
  have G := h1 _ x hz A.ok z2
  obtain ⟨t, zt, ht⟩ := G.put
  refine ⟨((((A.step G).mono (i := 0 + 1 + 1 + 1) (by decide)).put _ (by decide) hg).put _ (by decide) hg).put (j := 0) _ (by decide) hg, .no (.un (.no .nev) (.no t)), ?_, (Put.un (Put.alw.up (ns_eq q3).1 (ns_eq q3).2) ht.no).no⟩
  rw [onfT_71 c71, ← q2, show s1.pos = (alwF s1).2.pos from rfl, zt]
  rfl
 by_cases c40 : tch text s.pos = 40
 ·rw [oneF_40 c40] at e
  have hlt := tch_lt (text := text) (p := s.pos) (by omega)
  obtain ⟨g1, g2, g3, ⟨g4, g5⟩, g6⟩ := hg
  by_cases hd : s.cd = 40
  ·rw [if_pos hd] at e
   cases e
  rw [if_neg hd] at e
  obtain ⟨x, z2, e⟩ := Option.bind_eq_some_iff.1 e
  have G := h3 _ x hz (show gOk text ⟨s.pos + 1, s.cn, s.ct, s.cd + 1, s.ns⟩ from ⟨⟨by show 0 ≤ s.pos + 1; omega, by show s.pos + 1 ≤ text.size; omega⟩, g2, g3, ⟨by show 0 ≤ s.cd + 1; omega, by show s.cd + 1 ≤ 40; omega⟩, g6⟩) z2
  obtain ⟨⟨k1, ⟨k2, k3, k4, k5, k6⟩, k7, k8⟩, t, zt, ht⟩ := G
  simp only at k1 k7 k8
  split at e
  ·rename_i hc
   cases e
   have hlt2 := tch_lt (text := text) (p := x.2.pos) (by omega)
   refine ⟨⟨by show s.pos < x.2.pos + 1; omega, ⟨⟨by show 0 ≤ x.2.pos + 1; omega, by show x.2.pos + 1 ≤ text.size; omega⟩, k3, k4, ⟨by show 0 ≤ x.2.cd - 1; omega, by show x.2.cd - 1 ≤ 40; omega⟩, k6⟩, by show x.2.cd - 1 = s.cd; omega, k8⟩, t, ?_, ⟨ht.ext, ht.dec, ht.in_, ht.wf⟩⟩
   rw [onfT_40 c40]
   show (T3 (s.pos + 1)).bind _ = _
   have zt' : T3 (s.pos + 1) = some (t, x.2.pos) := zt
   rw [zt']
   show (if tch text x.2.pos = 41 then some (t, x.2.pos + 1) else none) = _
   rw [if_pos hc]
  ·cases e
 by_cases c112 : tch text s.pos = 112
 ·rw [oneF_112 c112] at e
  obtain ⟨s1, z1, e⟩ := Option.bind_eq_some_iff.1 e
  cases e
  obtain ⟨q1, q2, q3⟩ := Pre1.cnt hg (tch_lt (by omega)) z1
  refine ⟨(q1.mono (by decide)).put (j := 0) _ (by decide) hg, .p, ?_, (Put.leaf (s := s1) (kd := 1) (t := .p) (by decide) ⟨_, _, idx_last⟩).up (ns_eq q3).1 (ns_eq q3).2⟩
  rw [onfT_112 c112, ← q2]
  rfl
 by_cases c113 : tch text s.pos = 113
 ·rw [oneF_113 c113] at e
  obtain ⟨s1, z1, e⟩ := Option.bind_eq_some_iff.1 e
  cases e
  obtain ⟨q1, q2, q3⟩ := Pre1.cnt hg (tch_lt (by omega)) z1
  refine ⟨(q1.mono (by decide)).put (j := 0) _ (by decide) hg, .q, ?_, (Put.leaf (s := s1) (kd := 2) (t := .q) (by decide) ⟨_, _, idx_last⟩).up (ns_eq q3).1 (ns_eq q3).2⟩
  rw [onfT_113 c113, ← q2]
  rfl
 by_cases c48 : tch text s.pos = 48
 ·rw [oneF_48 c48] at e
  obtain ⟨s1, z1, e⟩ := Option.bind_eq_some_iff.1 e
  cases e
  obtain ⟨q1, q2, q3⟩ := Pre1.cnt hg (tch_lt (by omega)) z1
  refine ⟨(q1.mono (by decide)).put (j := 0) _ (by decide) hg, .nev, ?_, (Put.leaf (s := s1) (kd := 0) (t := .nev) (by decide) ⟨_, _, idx_last⟩).up (ns_eq q3).1 (ns_eq q3).2⟩
  rw [onfT_48 c48, ← q2]
  rfl
 by_cases c49 : tch text s.pos = 49
 ·rw [oneF_49 c49] at e
  obtain ⟨s1, z1, e⟩ := Option.bind_eq_some_iff.1 e
  cases e
  obtain ⟨q1, q2, q3⟩ := Pre1.cnt hg (tch_lt (by omega)) z1
  refine ⟨(q1.mono (i := 0 + 1 + 1) (by decide)).alw (by decide) hg, .no .nev, ?_, Put.alw.up (ns_eq q3).1 (ns_eq q3).2⟩
  rw [onfT_49 c49, ← q2]
  rfl
 rw [oneF_no c33 c88 c70 c71 c40 c112 c113 c48 c49] at e
 cases e
theorem prtF_good (h0 : GoodT text R0 T0) (h1 : GoodT text R1 T1) : GoodT text (prtF R0 R1 text) (prtT T0 T1 text) := fun s r hz hg e => by
 obtain ⟨x, z0, e⟩ := Option.bind_eq_some_iff.1 e
 have G0 := h0 s x hz hg z0
 obtain ⟨t0, zt0, ht0⟩ := G0.put
 have hT : prtT T0 T1 text s.pos = if tch text x.2.pos = 85 then (T1 (x.2.pos + 1)).bind fun r2 => some (.un t0 r2.1, r2.2) else if tch text x.2.pos = 82 then (T1 (x.2.pos + 1)).bind fun r2 => some (.no (.un (.no t0) (.no r2.1)), r2.2) else some (t0, x.2.pos) := by
  unfold prtT
  rw [zt0]
  rfl
 by_cases c85 : tch text x.2.pos = 85
 ·rw [if_pos c85] at e hT
  obtain ⟨s1, z1, e⟩ := Option.bind_eq_some_iff.1 e
  obtain ⟨y, z2, e⟩ := Option.bind_eq_some_iff.1 e
  cases e
  obtain ⟨q1, q2, q3⟩ := Pre1.cnt G0.pre.ok (tch_lt (by omega)) z1
  have G := h1 s1 y hz q1.ok z2
  obtain ⟨t, zt, ht⟩ := G.put
  have ht' := ht.up (ns_eq q3).1 (ns_eq q3).2
  refine ⟨((G0.pre.tr (q1.step G)).mono (by decide)).put (j := 0) _ (by decide) hg, .un t0 t, ?_, Put.un (a := x.1) (s2 := x.2) ht0 ht'⟩
  rw [hT, ← q2, zt]
  rfl
 rw [if_neg c85] at e hT
 by_cases c82 : tch text x.2.pos = 82
 ·rw [if_pos c82] at e hT
  obtain ⟨s1, z1, e⟩ := Option.bind_eq_some_iff.1 e
  obtain ⟨y, z2, e⟩ := Option.bind_eq_some_iff.1 e
  cases e
  obtain ⟨q1, q2, q3⟩ := Pre1.cnt G0.pre.ok (tch_lt (by omega)) z1
  have B := (q1.mono (i := 3 + 1) (by decide)).put ⟨3, x.1, 0⟩ (by decide) G0.pre.ok
  have G := h1 _ y hz B.ok z2
  obtain ⟨t, zt, ht⟩ := G.put
  have hx1 : Put s (x.1, s1) t0 := ⟨by obtain ⟨e, he⟩ := ht0.ext; exact ⟨e, by show s1.ns = _; rw [q3, he]⟩, by show Dec s1.ns x.1 t0; rw [q3]; exact ht0.dec, by show In s1.ns x.1; rw [q3]; exact ht0.in_, fun h => by show WfN s1.ns; rw [q3]; exact ht0.wf h⟩
  have hx2 : Put s (noF x.1 s1) (.no t0) := hx1.no
  refine ⟨(((((G0.pre.tr (B.step G)).mono (i := 0 + 1 + 1 + 1) (by decide)).put _ (by decide) hg).put _ (by decide) hg).put (j := 0) _ (by decide) hg), .no (.un (.no t0) (.no t)), ?_, (Put.un (a := (noF x.1 s1).1) (s2 := (noF x.1 s1).2) hx2 ht.no).no⟩
  rw [hT, ← q2, show s1.pos = (noF x.1 s1).2.pos from rfl]
  have zt' : T1 (noF x.1 s1).2.pos = some (t, y.2.pos) := zt
  rw [zt']
  rfl
 rw [if_neg c82] at e hT
 cases e
 exact ⟨G0.pre, t0, hT, ht0⟩
theorem lopL_good {ch kd : Int} {mk : TF → TF → TF} (hch : ch ≠ 0) (hmk : ∀ {s s2 : TS} {a : Int} {t u : TF} {r : Int × TS}, Put s (a, s2) t → Put s2 r u → Put s (putF ⟨kd, a, r.1⟩ r.2) (mk t u)) (h1 : GoodT text R1 T1) {s : TS} (hz : text.size ≤ 4000) (hg : gOk text s) : ∀ (m m' : Nat) (n : Int) (s1 : TS) (t : TF) (r : Int × TS), text.size - s1.pos < m' → Pre1 0 text s s1 → Put s (n, s1) t → lopL ch kd R1 text m n s1 = some r → Pre1 0 text s r.2 ∧ ∃ t', lopTL ch mk T1 text m' t s1.pos = some (t', r.2.pos) ∧ Put s r t'
 | 0, _, n, s1, t, r, _, _, _, e => by simp [lopL] at e
 | m + 1, 0, n, s1, t, r, hm, hp, _, _ => by
  have := hp.ok.1.2
  omega
 | m + 1, m' + 1, n, s1, t, r, hm, hp, ht, e => by
  rw [lopL] at e
  rw [lopTL]
  by_cases hc : tch text s1.pos = ch
  ·rw [if_pos hc] at e
   rw [if_pos hc]
   obtain ⟨s2, z1, e⟩ := Option.bind_eq_some_iff.1 e
   obtain ⟨x, z2, e⟩ := Option.bind_eq_some_iff.1 e
   obtain ⟨q1, q2, q3⟩ := Pre1.cnt hp.ok (tch_lt (by omega)) z1
   have G := h1 s2 x hz q1.ok z2
   obtain ⟨u, zt, hu⟩ := G.put
   have hu' := hu.up (ns_eq q3).1 (ns_eq q3).2
   have hp2 := ((hp.tr (q1.step G)).mono (by decide)).put (j := 0) ⟨kd, n, x.1⟩ (by decide) hg
   have hpos := (q1.step G).pos
   obtain ⟨k1, t', k2, k3⟩ := lopL_good hch hmk h1 hz hg m m' _ _ (mk t u) r (by show (text.size : Int) - x.2.pos < m'; omega) hp2 (hmk ht hu') e
   refine ⟨k1, t', ?_, k3⟩
   rw [← q2, zt]
   exact k2
  ·rw [if_neg hc] at e
   rw [if_neg hc]
   cases e
   exact ⟨hp, t, rfl, ht⟩
theorem lopF_good {ch kd : Int} {mk : TF → TF → TF} (hch : ch ≠ 0) (hmk : ∀ {s s2 : TS} {a : Int} {t u : TF} {r : Int × TS}, Put s (a, s2) t → Put s2 r u → Put s (putF ⟨kd, a, r.1⟩ r.2) (mk t u)) (h1 : GoodT text R1 T1) : GoodT text (lopF ch kd R1 text) (lopT ch mk T1 text) := fun s r hz hg e => by
 obtain ⟨x, z0, e⟩ := Option.bind_eq_some_iff.1 e
 have G0 := h1 s x hz hg z0
 obtain ⟨t0, zt0, ht0⟩ := G0.put
 have := G0.pre.pos
 have := hg.1.1
 obtain ⟨k1, t', k2, k3⟩ := lopL_good hch hmk h1 hz hg (text.size + 1) (text.size + 1) x.1 x.2 t0 r (by omega) G0.pre ht0 e
 refine ⟨k1, t', ?_, k3⟩
 unfold lopT
 rw [zt0]
 exact k2
theorem pS_good : ∀ k kd, GoodT text (pS text k kd) (pT text k kd)
 | 0, _ => fun s r _ _ e => by simp [pS] at e
 | k + 1, 0 => oneF_good (pS_good k 0) (pS_good k 3)
 | k + 1, 1 => prtF_good (pS_good k 0) (pS_good k 1)
 | k + 1, 2 => lopF_good (kd := 4) (mk := .an) (by decide) (fun h k => Put.an h k) (pS_good k 1)
 | k + 1, 3 => lopF_good (kd := 5) (mk := .or) (by decide) (fun h k => Put.or h k) (pS_good k 2)
 | k + 1, n + 4 => lopF_good (kd := 5) (mk := .or) (by decide) (fun h k => Put.or h k) (pS_good k 2)
end
def tOk (k kd : Nat) (text : ByteArray) (s : TS) : Prop := text.size ≤ 4000 ∧ (0 ≤ s.pos ∧ s.pos ≤ text.size ∧ 4 * (text.size - s.pos) + kd < k) ∧ (0 ≤ s.cn ∧ s.cn ≤ 30) ∧ (0 ≤ s.ct ∧ s.ct ≤ 5) ∧ (0 ≤ s.cd ∧ s.cd ≤ 40) ∧ s.ns.length + 5 * (31 - s.cn) ≤ 1000
def tCnt_vc (text : ByteArray) (pos : Int) (cn : Int) (ct : Int) (cd : Int) (ns : (List TimeNode)) (Q : Int × Int × Int × Int × (List TimeNode) → Prop) (P : Prop) : Prop :=
 (0 ≤ pos ∧ pos ≤ text.size) ∧
 ∃ J : Int → Prop, (IfP (ofT (tch text pos)) (J (wr ((ct) + 1))) (J (ct))) ∧
 (∀ (y03 : Int), J y03 → IfP ((decide (((wr (cn + 1))) > 30)) || ((ofT (tch text pos)) && (decide (y03 > 5)))) (((7 : Int) ≠ 0) ∧
 P) (Q ((wr ((pos) + 1)), ((wr (cn + 1))), y03, (cd), (ns))))
theorem tCnt_walk (text : ByteArray) (pos : Int) (cn : Int) (ct : Int) (cd : Int) (ns : (List TimeNode)) (Q : Int × Int × Int × Int × (List TimeNode) → Prop) (P : Prop) (h : tCnt_vc text pos cn ct cd ns Q P) : CtP 195 [.sv (.one (.ptr 0 0))] [.box [.v (.string text), I pos, I cn, I ct, I cd, .own 1] 236 false, rowI 139 TimeNode.ty ns] [0] Q (fun (r : Int × Int × Int × Int × (List TimeNode)) => .tup []) (fun (r : Int × Int × Int × Int × (List TimeNode)) => [.box [.v (.string text), I r.1, I r.2.1, I r.2.2.1, I r.2.2.2.1, .own 1] 236 false, rowI 139 TimeNode.ty r.2.2.2.2]) (psStop 233) P := by
 have ht := tab_ok
 refine CtP.body Try.func195 rfl rfl rfl (by kernel_rfl) (by kernel_rfl) (fun c Bk hn hpan => ?_)
 unfold tCnt_vc at h
 show En c ⟨[sl 0 (.pptr 0 0 (Bk 0))], [.box [.v (.string text), I pos, I cn, I ct, I cd, .own 1] 236 false, rowI 139 TimeNode.ty ns]⟩ _
 refine En.seq ?_
 refine En.region ?_
 refine WL.run ht hn 8 ⟨[sl 0 (.pptr 0 0 (Bk 0))], [.box [.v (.string text), I pos, I (wr (cn + 1)), I ct, I cd, .own 1] 236 false, rowI 139 TimeNode.ty ns]⟩ (by kernel_rfl) ?_
 refine WL.nil ?_
 refine En.seq ?_
 refine En.region ?_
 refine WL.run ht hn 1 ⟨[sl 0 (.pptr 0 0 (Bk 0)), sl 10 (.ptr 0 0)], [.box [.v (.string text), I pos, I (wr (cn + 1)), I ct, I cd, .own 1] 236 false, rowI 139 TimeNode.ty ns]⟩ (by kernel_rfl) ?_
 have hp := h.1
 replace h := h.2
 refine WL.callE (tNow_ct text pos (wr (cn + 1)) ct cd ns hp) en194 (caps := []) [0, 1] hn (by rfl) rfl (by rfl) (argsAs (by kernel_rfl) (by rfl)) (by kernel_rfl) (by decide) (by rfl) (by rfl) (fun _ _ => ⟨by rfl, _, by rfl, ?_⟩)
 refine WL.mt0 (K := []) (p := none) hn (by rfl) (mt_call (tOfT_ct (tch text pos)) en225 (caps := []) [] rfl (by rfl) (by kernel_rfl) (by kernel_rfl) (by rfl) (by rfl) (by rfl)) (by rfl) (by rfl) (by rfl) ?_
 refine WL.run ht hn 1 ⟨[sl 0 (.pptr 0 0 (Bk 0)), sl 2 (B (ofT (tch text pos)))], [.box [.v (.string text), I (pos), I ((wr (cn + 1))), I (ct), I (cd), .own 1] 236 false, rowI 139 TimeNode.ty (ns)]⟩ (by kernel_rfl) ?_
 refine WL.nil ?_
 obtain ⟨J, h, hJ⟩ := h
 refine En.seqJ (σ := Int) (fun zz => J zz) (fun zz => ⟨[sl 0 (.pptr 0 0 (Bk 0)), sl 2 (B (ofT (tch text pos)))], [.box [.v (.string text), I (pos), I ((wr (cn + 1))), I zz, I (cd), .own 1] 236 false, rowI 139 TimeNode.ty (ns)]⟩) ?_ ?_
 refine En.seq ?_
 refine En.region ?_
 refine WL.run ht hn 1 ⟨[sl 0 (.pptr 0 0 (Bk 0)), sl 2 (B (ofT (tch text pos))), sl 13 (B (ofT (tch text pos)))], [.box [.v (.string text), I (pos), I ((wr (cn + 1))), I (ct), I (cd), .own 1] 236 false, rowI 139 TimeNode.ty (ns)]⟩ (by kernel_rfl) ?_
 refine WL.nil ?_
 refine En.cond (b := (ofT (tch text pos))) (by kernel_rfl) (fun hb => ?_) (fun hb => ?_)
 replace h := h.1 hb
 refine En.region ?_
 refine WL.run ht hn 8 ⟨[sl 0 (.pptr 0 0 (Bk 0)), sl 2 (B (ofT (tch text pos)))], [.box [.v (.string text), I (pos), I ((wr (cn + 1))), I (wr ((ct) + 1)), I (cd), .own 1] 236 false, rowI 139 TimeNode.ty (ns)]⟩ (by kernel_rfl) ?_
 refine WL.nil ?_
 exact En.at (I := fun zz => J zz) (T := fun zz => ⟨[sl 0 (.pptr 0 0 (Bk 0)), sl 2 (B (ofT (tch text pos)))], [.box [.v (.string text), I (pos), I ((wr (cn + 1))), I zz, I (cd), .own 1] 236 false, rowI 139 TimeNode.ty (ns)]⟩) (wr ((ct) + 1)) h (by kernel_rfl)
 replace h := h.2 hb
 refine En.skip ?_
 exact En.at (I := fun zz => J zz) (T := fun zz => ⟨[sl 0 (.pptr 0 0 (Bk 0)), sl 2 (B (ofT (tch text pos)))], [.box [.v (.string text), I (pos), I ((wr (cn + 1))), I zz, I (cd), .own 1] 236 false, rowI 139 TimeNode.ty (ns)]⟩) (ct) h (by kernel_rfl)
 intro y03 h
 replace h := hJ _ h
 show En c ⟨[sl 0 (.pptr 0 0 (Bk 0)), sl 2 (B (ofT (tch text pos)))], [.box [.v (.string text), I (pos), I ((wr (cn + 1))), I y03, I (cd), .own 1] 236 false, rowI 139 TimeNode.ty (ns)]⟩ _
 refine En.seq ?_
 refine En.seq ?_
 refine En.region ?_
 refine WL.run ht hn 6 ⟨[sl 0 (.pptr 0 0 (Bk 0)), sl 2 (B (ofT (tch text pos))), sl 26 (B (decide (((wr (cn + 1))) > 30)))], [.box [.v (.string text), I (pos), I ((wr (cn + 1))), I y03, I (cd), .own 1] 236 false, rowI 139 TimeNode.ty (ns)]⟩ (by kernel_rfl) ?_
 refine WL.thru ⟨[sl 0 (.pptr 0 0 (Bk 0)), sl 35 (B ((decide (((wr (cn + 1))) > 30)) || ((ofT (tch text pos)) && (decide (y03 > 5)))))], [.box [.v (.string text), I (pos), I ((wr (cn + 1))), I y03, I (cd), .own 1] 236 false, rowI 139 TimeNode.ty (ns)]⟩ ?_ ?_
 refine splitB (decide (((wr (cn + 1))) > 30)) (fun hb0 => ?_) (fun hb0 => ?_)
 refine WL.setB 26 hb0 (by kernel_rfl) ?_
 refine WL.run ht hn 9 ⟨[sl 0 (.pptr 0 0 (Bk 0)), sl 35 (B true)], [.box [.v (.string text), I (pos), I ((wr (cn + 1))), I y03, I (cd), .own 1] 236 false, rowI 139 TimeNode.ty (ns)]⟩ (by kernel_rfl) ?_
 exact WL.nil (sub_ok (by simp only [hb0]; kernel_rfl))
 refine WL.setB 26 hb0 (by kernel_rfl) ?_
 refine WL.run ht hn 2 ⟨[sl 0 (.pptr 0 0 (Bk 0)), sl 26 (B false), sl 28 (B (ofT (tch text pos)))], [.box [.v (.string text), I (pos), I ((wr (cn + 1))), I y03, I (cd), .own 1] 236 false, rowI 139 TimeNode.ty (ns)]⟩ (by kernel_rfl) ?_
 refine splitB (ofT (tch text pos)) (fun hb1 => ?_) (fun hb1 => ?_)
 refine WL.setB 28 hb1 (by kernel_rfl) ?_
 refine WL.run ht hn 7 ⟨[sl 0 (.pptr 0 0 (Bk 0)), sl 35 (B (decide (y03 > 5)))], [.box [.v (.string text), I (pos), I ((wr (cn + 1))), I y03, I (cd), .own 1] 236 false, rowI 139 TimeNode.ty (ns)]⟩ (by kernel_rfl) ?_
 exact WL.nil (sub_ok (by simp only [hb0, hb1]; kernel_rfl))
 refine WL.setB 28 hb1 (by kernel_rfl) ?_
 refine WL.run ht hn 7 ⟨[sl 0 (.pptr 0 0 (Bk 0)), sl 35 (B false)], [.box [.v (.string text), I (pos), I ((wr (cn + 1))), I y03, I (cd), .own 1] 236 false, rowI 139 TimeNode.ty (ns)]⟩ (by kernel_rfl) ?_
 exact WL.nil (sub_ok (by simp only [hb0, hb1]; kernel_rfl))
 refine En.cond (b := ((decide (((wr (cn + 1))) > 30)) || ((ofT (tch text pos)) && (decide (y03 > 5))))) (by kernel_rfl) (fun hb => ?_) (fun hb => ?_)
 replace h := h.1 hb
 refine En.region ?_
 refine WL.run ht hn 1 ⟨[sl 0 (.pptr 0 0 (Bk 0)), sl 36 (.ptr 0 0)], [.box [.v (.string text), I (pos), I ((wr (cn + 1))), I y03, I (cd), .own 1] 236 false, rowI 139 TimeNode.ty (ns)]⟩ (by kernel_rfl) ?_
 have hp := h.1
 replace h := h.2
 exact WL.callX (tFail_ct text (pos) ((wr (cn + 1))) y03 (cd) (ns) 7 hp) en130 (caps := []) [0, 1] (by rfl) rfl (by rfl) (argsAs (by kernel_rfl) (by rfl)) (by kernel_rfl) (by decide) (leftX hpan h)
 replace h := h.2 hb
 refine En.skip ?_
 refine En.region ?_
 refine WL.run ht hn 8 ⟨[sl 0 (.pptr 0 0 (Bk 0))], [.box [.v (.string text), I (wr ((pos) + 1)), I ((wr (cn + 1))), I y03, I (cd), .own 1] 236 false, rowI 139 TimeNode.ty (ns)]⟩ (by kernel_rfl) ?_
 refine WL.nil ?_
 exact En.backE [0] ht ((wr ((pos) + 1)), ((wr (cn + 1))), y03, (cd), (ns)) h (by kernel_rfl) (by rfl) rfl
theorem en195 : ∀ args w, (callFunc 195 args).run Try.prog w = .ok (.enter 195 args) w := enters_of Try.func195 (by kernel_rfl) rfl
theorem tCnt_all (text : ByteArray) (s : TS) (hp : text.size ≤ 4000 ∧ gOk text s ∧ s.pos < text.size) (Q : Int × Int × Int × Int × (List TimeNode) → Prop) (P : Prop) (h1 : cntF text s = none → P) (h2 : ∀ r, cntF text s = some r → Q (r.pos, r.cn, r.ct, r.cd, r.ns)) : tCnt_vc text s.pos s.cn s.ct s.cd s.ns Q P := by
 obtain ⟨hz, ⟨⟨p0, p1⟩, ⟨n0, n1⟩, ⟨t0, t1⟩, d, hphi⟩, hlt⟩ := hp
 unfold tCnt_vc
 rw [wr_in (n := s.pos + 1) (by omega) (by omega), wr_in (n := s.cn + 1) (by omega) (by omega), wr_in (n := s.ct + 1) (by omega) (by omega)]
 refine ⟨⟨p0, p1⟩, fun c => c = (if ofT (tch text s.pos) = true then s.ct + 1 else s.ct), ⟨fun h => by rw [if_pos h], fun h => by rw [if_neg (by rw [h]; decide)]⟩, ?_⟩
 rintro _ rfl
 unfold cntF at h1 h2
 simp only at h1 h2
 refine ⟨fun h => ⟨by decide, h1 (if_pos ?_)⟩, fun h => h2 _ (if_neg ?_)⟩
 ·simp only [Bool.or_eq_true, Bool.and_eq_true, decide_eq_true_eq] at h
  exact h
 ·simp only [Bool.or_eq_false_iff, Bool.and_eq_false_iff, decide_eq_false_iff_not] at h
  rintro (h' | ⟨h', h''⟩)
  ·exact h.1 h'
  ·rcases h.2 with k | k
   ·rw [h'] at k
    cases k
   ·exact k h''
theorem tCnt_ok (text : ByteArray) (pos cn ct cd : Int) (ns : List TimeNode) (hp : text.size ≤ 4000 ∧ gOk text ⟨pos, cn, ct, cd, ns⟩ ∧ pos < text.size) (r : TS) (hx : cntF text ⟨pos, cn, ct, cd, ns⟩ = some r) : CtE 195 [.sv (.one (.ptr 0 0))] [.box [.v (.string text), I pos, I cn, I ct, I cd, .own 1] 236 false, rowI 139 TimeNode.ty ns] [0] (fun (_ : Unit) => True) (fun _ => .tup []) (fun _ => [.box [.v (.string text), I r.pos, I r.cn, I r.ct, I r.cd, .own 1] 236 false, rowI 139 TimeNode.ty r.ns]) :=
 (tCnt_walk text pos cn ct cd ns (fun x => x = (r.pos, r.cn, r.ct, r.cd, r.ns)) False (tCnt_all text ⟨pos, cn, ct, cd, ns⟩ hp _ _ (fun e => by rw [hx] at e; cases e) (fun y e => by rw [hx] at e; cases e; rfl))).toE fun x hx => ⟨(), trivial, by subst hx; rfl, by subst hx; rfl⟩
theorem tCnt_bad (text : ByteArray) (pos cn ct cd : Int) (ns : List TimeNode) (hp : text.size ≤ 4000 ∧ gOk text ⟨pos, cn, ct, cd, ns⟩ ∧ pos < text.size) (hx : cntF text ⟨pos, cn, ct, cd, ns⟩ = none) : CtX 195 [.sv (.one (.ptr 0 0))] [.box [.v (.string text), I pos, I cn, I ct, I cd, .own 1] 236 false, rowI 139 TimeNode.ty ns] (psStop 233) :=
 (tCnt_walk text pos cn ct cd ns (fun _ => False) True (tCnt_all text ⟨pos, cn, ct, cd, ns⟩ hp _ _ (fun _ => trivial) (fun y e => by rw [hx] at e; cases e))).toX
theorem tOk_g {k kd : Nat} {text : ByteArray} {s : TS} (h : tOk k kd text s) : gOk text s := ⟨⟨h.2.1.1, h.2.1.2.1⟩, h.2.2⟩
theorem tOk_of {k kd : Nat} {text : ByteArray} {s : TS} (hz : text.size ≤ 4000) (hg : gOk text s) (hk : 4 * ((text.size : Int) - s.pos) + (kd : Int) < (k : Int)) : tOk k kd text s := ⟨hz, ⟨hg.1.1, hg.1.2, hk⟩, hg.2⟩
theorem ob {α β : Type} {x : Option α} {f : α → Option β} {a : α} (h : x = some a) : x.bind f = f a := by rw [h]; rfl
theorem ob_none {α β : Type} {x : Option α} {f : α → Option β} (h : x = none) : x.bind f = none := by rw [h]; rfl
def TC (k : Nat) : Prop := ∀ (text : ByteArray) (pos cn ct cd : Int) (ns : List TimeNode), (tOk k 0 text ⟨pos, cn, ct, cd, ns⟩ → (∀ r, pS text k 0 ⟨pos, cn, ct, cd, ns⟩ = some r → CtE 231 [.sv (.one (.ptr 0 0))] [.box [.v (.string text), I pos, I cn, I ct, I cd, .own 1] 236 false, rowI 139 TimeNode.ty ns] [0] (fun (_ : Unit) => True) (fun _ => .sv (.one (I r.1))) (fun _ => [.box [.v (.string text), I r.2.pos, I r.2.cn, I r.2.ct, I r.2.cd, .own 1] 236 false, rowI 139 TimeNode.ty r.2.ns])) ∧ (pS text k 0 ⟨pos, cn, ct, cd, ns⟩ = none → CtX 231 [.sv (.one (.ptr 0 0))] [.box [.v (.string text), I pos, I cn, I ct, I cd, .own 1] 236 false, rowI 139 TimeNode.ty ns] (psStop 233))) ∧ (tOk k 1 text ⟨pos, cn, ct, cd, ns⟩ → (∀ r, pS text k 1 ⟨pos, cn, ct, cd, ns⟩ = some r → CtE 224 [.sv (.one (.ptr 0 0))] [.box [.v (.string text), I pos, I cn, I ct, I cd, .own 1] 236 false, rowI 139 TimeNode.ty ns] [0] (fun (_ : Unit) => True) (fun _ => .sv (.one (I r.1))) (fun _ => [.box [.v (.string text), I r.2.pos, I r.2.cn, I r.2.ct, I r.2.cd, .own 1] 236 false, rowI 139 TimeNode.ty r.2.ns])) ∧ (pS text k 1 ⟨pos, cn, ct, cd, ns⟩ = none → CtX 224 [.sv (.one (.ptr 0 0))] [.box [.v (.string text), I pos, I cn, I ct, I cd, .own 1] 236 false, rowI 139 TimeNode.ty ns] (psStop 233))) ∧ (tOk k 2 text ⟨pos, cn, ct, cd, ns⟩ → (∀ r, pS text k 2 ⟨pos, cn, ct, cd, ns⟩ = some r → CtE 193 [.sv (.one (.ptr 0 0))] [.box [.v (.string text), I pos, I cn, I ct, I cd, .own 1] 236 false, rowI 139 TimeNode.ty ns] [0] (fun (_ : Unit) => True) (fun _ => .sv (.one (I r.1))) (fun _ => [.box [.v (.string text), I r.2.pos, I r.2.cn, I r.2.ct, I r.2.cd, .own 1] 236 false, rowI 139 TimeNode.ty r.2.ns])) ∧ (pS text k 2 ⟨pos, cn, ct, cd, ns⟩ = none → CtX 193 [.sv (.one (.ptr 0 0))] [.box [.v (.string text), I pos, I cn, I ct, I cd, .own 1] 236 false, rowI 139 TimeNode.ty ns] (psStop 233))) ∧ (tOk k 3 text ⟨pos, cn, ct, cd, ns⟩ → (∀ r, pS text k 3 ⟨pos, cn, ct, cd, ns⟩ = some r → CtE 129 [.sv (.one (.ptr 0 0))] [.box [.v (.string text), I pos, I cn, I ct, I cd, .own 1] 236 false, rowI 139 TimeNode.ty ns] [0] (fun (_ : Unit) => True) (fun _ => .sv (.one (I r.1))) (fun _ => [.box [.v (.string text), I r.2.pos, I r.2.cn, I r.2.ct, I r.2.cd, .own 1] 236 false, rowI 139 TimeNode.ty r.2.ns])) ∧ (pS text k 3 ⟨pos, cn, ct, cd, ns⟩ = none → CtX 129 [.sv (.one (.ptr 0 0))] [.box [.v (.string text), I pos, I cn, I ct, I cd, .own 1] 236 false, rowI 139 TimeNode.ty ns] (psStop 233)))
theorem tI0_ok (k : Nat) (ih : TC k) (text : ByteArray) (pos cn ct cd : Int) (ns : List TimeNode) (hp : tOk k 0 text ⟨pos, cn, ct, cd, ns⟩) (r : Int × TS) (hx : pS text k 0 ⟨pos, cn, ct, cd, ns⟩ = some r) : CtE 231 [.sv (.one (.ptr 0 0))] [.box [.v (.string text), I pos, I cn, I ct, I cd, .own 1] 236 false, rowI 139 TimeNode.ty ns] [0] (fun (_ : Unit) => True) (fun _ => .sv (.one (I r.1))) (fun _ => [.box [.v (.string text), I r.2.pos, I r.2.cn, I r.2.ct, I r.2.cd, .own 1] 236 false, rowI 139 TimeNode.ty r.2.ns]) := ((ih text pos cn ct cd ns).1 hp).1 r hx
theorem tI0_bad (k : Nat) (ih : TC k) (text : ByteArray) (pos cn ct cd : Int) (ns : List TimeNode) (hp : tOk k 0 text ⟨pos, cn, ct, cd, ns⟩) (hx : pS text k 0 ⟨pos, cn, ct, cd, ns⟩ = none) : CtX 231 [.sv (.one (.ptr 0 0))] [.box [.v (.string text), I pos, I cn, I ct, I cd, .own 1] 236 false, rowI 139 TimeNode.ty ns] (psStop 233) := ((ih text pos cn ct cd ns).1 hp).2 hx
theorem en231 : ∀ args w, (callFunc 231 args).run Try.prog w = .ok (.enter 231 args) w := enters_of Try.func231 (by kernel_rfl) rfl
theorem tI1_ok (k : Nat) (ih : TC k) (text : ByteArray) (pos cn ct cd : Int) (ns : List TimeNode) (hp : tOk k 1 text ⟨pos, cn, ct, cd, ns⟩) (r : Int × TS) (hx : pS text k 1 ⟨pos, cn, ct, cd, ns⟩ = some r) : CtE 224 [.sv (.one (.ptr 0 0))] [.box [.v (.string text), I pos, I cn, I ct, I cd, .own 1] 236 false, rowI 139 TimeNode.ty ns] [0] (fun (_ : Unit) => True) (fun _ => .sv (.one (I r.1))) (fun _ => [.box [.v (.string text), I r.2.pos, I r.2.cn, I r.2.ct, I r.2.cd, .own 1] 236 false, rowI 139 TimeNode.ty r.2.ns]) := ((ih text pos cn ct cd ns).2.1 hp).1 r hx
theorem tI1_bad (k : Nat) (ih : TC k) (text : ByteArray) (pos cn ct cd : Int) (ns : List TimeNode) (hp : tOk k 1 text ⟨pos, cn, ct, cd, ns⟩) (hx : pS text k 1 ⟨pos, cn, ct, cd, ns⟩ = none) : CtX 224 [.sv (.one (.ptr 0 0))] [.box [.v (.string text), I pos, I cn, I ct, I cd, .own 1] 236 false, rowI 139 TimeNode.ty ns] (psStop 233) := ((ih text pos cn ct cd ns).2.1 hp).2 hx
theorem en224 : ∀ args w, (callFunc 224 args).run Try.prog w = .ok (.enter 224 args) w := enters_of Try.func224 (by kernel_rfl) rfl
theorem tI2_ok (k : Nat) (ih : TC k) (text : ByteArray) (pos cn ct cd : Int) (ns : List TimeNode) (hp : tOk k 2 text ⟨pos, cn, ct, cd, ns⟩) (r : Int × TS) (hx : pS text k 2 ⟨pos, cn, ct, cd, ns⟩ = some r) : CtE 193 [.sv (.one (.ptr 0 0))] [.box [.v (.string text), I pos, I cn, I ct, I cd, .own 1] 236 false, rowI 139 TimeNode.ty ns] [0] (fun (_ : Unit) => True) (fun _ => .sv (.one (I r.1))) (fun _ => [.box [.v (.string text), I r.2.pos, I r.2.cn, I r.2.ct, I r.2.cd, .own 1] 236 false, rowI 139 TimeNode.ty r.2.ns]) := ((ih text pos cn ct cd ns).2.2.1 hp).1 r hx
theorem tI2_bad (k : Nat) (ih : TC k) (text : ByteArray) (pos cn ct cd : Int) (ns : List TimeNode) (hp : tOk k 2 text ⟨pos, cn, ct, cd, ns⟩) (hx : pS text k 2 ⟨pos, cn, ct, cd, ns⟩ = none) : CtX 193 [.sv (.one (.ptr 0 0))] [.box [.v (.string text), I pos, I cn, I ct, I cd, .own 1] 236 false, rowI 139 TimeNode.ty ns] (psStop 233) := ((ih text pos cn ct cd ns).2.2.1 hp).2 hx
theorem en193 : ∀ args w, (callFunc 193 args).run Try.prog w = .ok (.enter 193 args) w := enters_of Try.func193 (by kernel_rfl) rfl
theorem tI3_ok (k : Nat) (ih : TC k) (text : ByteArray) (pos cn ct cd : Int) (ns : List TimeNode) (hp : tOk k 3 text ⟨pos, cn, ct, cd, ns⟩) (r : Int × TS) (hx : pS text k 3 ⟨pos, cn, ct, cd, ns⟩ = some r) : CtE 129 [.sv (.one (.ptr 0 0))] [.box [.v (.string text), I pos, I cn, I ct, I cd, .own 1] 236 false, rowI 139 TimeNode.ty ns] [0] (fun (_ : Unit) => True) (fun _ => .sv (.one (I r.1))) (fun _ => [.box [.v (.string text), I r.2.pos, I r.2.cn, I r.2.ct, I r.2.cd, .own 1] 236 false, rowI 139 TimeNode.ty r.2.ns]) := ((ih text pos cn ct cd ns).2.2.2 hp).1 r hx
theorem tI3_bad (k : Nat) (ih : TC k) (text : ByteArray) (pos cn ct cd : Int) (ns : List TimeNode) (hp : tOk k 3 text ⟨pos, cn, ct, cd, ns⟩) (hx : pS text k 3 ⟨pos, cn, ct, cd, ns⟩ = none) : CtX 129 [.sv (.one (.ptr 0 0))] [.box [.v (.string text), I pos, I cn, I ct, I cd, .own 1] 236 false, rowI 139 TimeNode.ty ns] (psStop 233) := ((ih text pos cn ct cd ns).2.2.2 hp).2 hx
theorem en129 : ∀ args w, (callFunc 129 args).run Try.prog w = .ok (.enter 129 args) w := enters_of Try.func129 (by kernel_rfl) rfl
def tOne_vc (k : Nat) (text : ByteArray) (pos : Int) (cn : Int) (ct : Int) (cd : Int) (ns : (List TimeNode)) (Q : Int × Int × Int × Int × Int × (List TimeNode) → Prop) (P : Prop) : Prop :=
 (0 ≤ pos ∧ pos ≤ text.size) ∧
 IfP ((tch text pos) == 33) ((text.size ≤ 4000 ∧ gOk text ⟨(pos), (cn), (ct), (cd), (ns)⟩ ∧ (pos) < text.size) ∧
 ((cntF text ⟨(pos), (cn), (ct), (cd), (ns)⟩) = none → P) ∧ ∀ r, (cntF text ⟨(pos), (cn), (ct), (cd), (ns)⟩) = some r →
 ((tOk k 0 text ⟨(r.pos), (r.cn), (r.ct), (r.cd), (r.ns)⟩) ∧
 ((pS text k 0 ⟨(r.pos), (r.cn), (r.ct), (r.cd), (r.ns)⟩) = none → P) ∧ ∀ r_2, (pS text k 0 ⟨(r.pos), (r.cn), (r.ct), (r.cd), (r.ns)⟩) = some r_2 →
 ((((r_2.2.ns)).length ≤ 1000000) ∧
 Q (((((r_2.2.ns)).length : Int)), ((r_2.2.pos)), ((r_2.2.cn)), ((r_2.2.ct)), ((r_2.2.cd)), ((r_2.2.ns) ++ [(TimeNode.mk 3 (r_2.1) 0)]))))) (IfP ((tch text pos) == 88) ((text.size ≤ 4000 ∧ gOk text ⟨(pos), (cn), (ct), (cd), (ns)⟩ ∧ (pos) < text.size) ∧
 ((cntF text ⟨(pos), (cn), (ct), (cd), (ns)⟩) = none → P) ∧ ∀ r_3, (cntF text ⟨(pos), (cn), (ct), (cd), (ns)⟩) = some r_3 →
 ((tOk k 0 text ⟨(r_3.pos), (r_3.cn), (r_3.ct), (r_3.cd), (r_3.ns)⟩) ∧
 ((pS text k 0 ⟨(r_3.pos), (r_3.cn), (r_3.ct), (r_3.cd), (r_3.ns)⟩) = none → P) ∧ ∀ r_4, (pS text k 0 ⟨(r_3.pos), (r_3.cn), (r_3.ct), (r_3.cd), (r_3.ns)⟩) = some r_4 →
 ((((r_4.2.ns)).length ≤ 1000000) ∧
 Q (((((r_4.2.ns)).length : Int)), ((r_4.2.pos)), ((r_4.2.cn)), ((r_4.2.ct)), ((r_4.2.cd)), ((r_4.2.ns) ++ [(TimeNode.mk 6 (r_4.1) 0)]))))) (IfP ((tch text pos) == 70) ((text.size ≤ 4000 ∧ gOk text ⟨(pos), (cn), (ct), (cd), (ns)⟩ ∧ (pos) < text.size) ∧
 ((cntF text ⟨(pos), (cn), (ct), (cd), (ns)⟩) = none → P) ∧ ∀ r_5, (cntF text ⟨(pos), (cn), (ct), (cd), (ns)⟩) = some r_5 →
 ((((r_5.ns)).length ≤ 100000) ∧
 (tOk k 0 text ⟨((r_5.pos)), ((r_5.cn)), ((r_5.ct)), ((r_5.cd)), (((r_5.ns) ++ [TimeNode.mk 0 0 0]) ++ [TimeNode.mk 3 (((r_5.ns)).length : Int) 0])⟩) ∧
 ((pS text k 0 ⟨((r_5.pos)), ((r_5.cn)), ((r_5.ct)), ((r_5.cd)), (((r_5.ns) ++ [TimeNode.mk 0 0 0]) ++ [TimeNode.mk 3 (((r_5.ns)).length : Int) 0])⟩) = none → P) ∧ ∀ r_6, (pS text k 0 ⟨((r_5.pos)), ((r_5.cn)), ((r_5.ct)), ((r_5.cd)), (((r_5.ns) ++ [TimeNode.mk 0 0 0]) ++ [TimeNode.mk 3 (((r_5.ns)).length : Int) 0])⟩) = some r_6 →
 ((((r_6.2.ns)).length ≤ 1000000) ∧
 Q (((((r_6.2.ns)).length : Int)), ((r_6.2.pos)), ((r_6.2.cn)), ((r_6.2.ct)), ((r_6.2.cd)), ((r_6.2.ns) ++ [(TimeNode.mk 7 (((((r_5.ns)) ++ [TimeNode.mk 0 0 0]).length : Int)) (r_6.1))]))))) (IfP ((tch text pos) == 71) ((text.size ≤ 4000 ∧ gOk text ⟨(pos), (cn), (ct), (cd), (ns)⟩ ∧ (pos) < text.size) ∧
 ((cntF text ⟨(pos), (cn), (ct), (cd), (ns)⟩) = none → P) ∧ ∀ r_7, (cntF text ⟨(pos), (cn), (ct), (cd), (ns)⟩) = some r_7 →
 ((((r_7.ns)).length ≤ 100000) ∧
 (tOk k 0 text ⟨((r_7.pos)), ((r_7.cn)), ((r_7.ct)), ((r_7.cd)), (((r_7.ns) ++ [TimeNode.mk 0 0 0]) ++ [TimeNode.mk 3 (((r_7.ns)).length : Int) 0])⟩) ∧
 ((pS text k 0 ⟨((r_7.pos)), ((r_7.cn)), ((r_7.ct)), ((r_7.cd)), (((r_7.ns) ++ [TimeNode.mk 0 0 0]) ++ [TimeNode.mk 3 (((r_7.ns)).length : Int) 0])⟩) = none → P) ∧ ∀ r_8, (pS text k 0 ⟨((r_7.pos)), ((r_7.cn)), ((r_7.ct)), ((r_7.cd)), (((r_7.ns) ++ [TimeNode.mk 0 0 0]) ++ [TimeNode.mk 3 (((r_7.ns)).length : Int) 0])⟩) = some r_8 →
 ((((r_8.2.ns)).length ≤ 1000000) ∧
 ((((r_8.2.ns) ++ [(TimeNode.mk 3 (r_8.1) 0)])).length ≤ 1000000) ∧
 (((((r_8.2.ns) ++ [(TimeNode.mk 3 (r_8.1) 0)]) ++ [(TimeNode.mk 7 (((((r_7.ns)) ++ [TimeNode.mk 0 0 0]).length : Int)) ((((r_8.2.ns)).length : Int)))])).length ≤ 1000000) ∧
 Q (((((((r_8.2.ns) ++ [(TimeNode.mk 3 (r_8.1) 0)]) ++ [(TimeNode.mk 7 (((((r_7.ns)) ++ [TimeNode.mk 0 0 0]).length : Int)) ((((r_8.2.ns)).length : Int)))])).length : Int)), ((((r_8.2.pos)))), ((((r_8.2.cn)))), ((((r_8.2.ct)))), ((((r_8.2.cd)))), ((((r_8.2.ns) ++ [(TimeNode.mk 3 (r_8.1) 0)]) ++ [(TimeNode.mk 7 (((((r_7.ns)) ++ [TimeNode.mk 0 0 0]).length : Int)) ((((r_8.2.ns)).length : Int)))]) ++ [(TimeNode.mk 3 (((((r_8.2.ns) ++ [(TimeNode.mk 3 (r_8.1) 0)])).length : Int)) 0)]))))) (IfP ((tch text pos) == 40) (IfP ((cd) == 40) (((7 : Int) ≠ 0) ∧
 P) ((tOk k 3 text ⟨(wr ((pos) + 1)), (cn), (ct), (wr ((cd) + 1)), (ns)⟩) ∧
 ((pS text k 3 ⟨(wr ((pos) + 1)), (cn), (ct), (wr ((cd) + 1)), (ns)⟩) = none → P) ∧ ∀ r_9, (pS text k 3 ⟨(wr ((pos) + 1)), (cn), (ct), (wr ((cd) + 1)), (ns)⟩) = some r_9 →
 ((0 ≤ (r_9.2.pos) ∧ (r_9.2.pos) ≤ text.size) ∧
 IfP ((tch text (r_9.2.pos)) != 41) (((4 : Int) ≠ 0) ∧
 P) (Q ((r_9.1), (wr (((r_9.2.pos)) + 1)), ((r_9.2.cn)), ((r_9.2.ct)), (wr (((r_9.2.cd)) - 1)), ((r_9.2.ns))))))) (IfP ((tch text pos) == 112) ((text.size ≤ 4000 ∧ gOk text ⟨(pos), (cn), (ct), (cd), (ns)⟩ ∧ (pos) < text.size) ∧
 ((cntF text ⟨(pos), (cn), (ct), (cd), (ns)⟩) = none → P) ∧ ∀ r_10, (cntF text ⟨(pos), (cn), (ct), (cd), (ns)⟩) = some r_10 →
 ((((r_10.ns)).length ≤ 1000000) ∧
 Q (((((r_10.ns)).length : Int)), ((r_10.pos)), ((r_10.cn)), ((r_10.ct)), ((r_10.cd)), ((r_10.ns) ++ [(TimeNode.mk 1 0 0)])))) (IfP ((tch text pos) == 113) ((text.size ≤ 4000 ∧ gOk text ⟨(pos), (cn), (ct), (cd), (ns)⟩ ∧ (pos) < text.size) ∧
 ((cntF text ⟨(pos), (cn), (ct), (cd), (ns)⟩) = none → P) ∧ ∀ r_11, (cntF text ⟨(pos), (cn), (ct), (cd), (ns)⟩) = some r_11 →
 ((((r_11.ns)).length ≤ 1000000) ∧
 Q (((((r_11.ns)).length : Int)), ((r_11.pos)), ((r_11.cn)), ((r_11.ct)), ((r_11.cd)), ((r_11.ns) ++ [(TimeNode.mk 2 0 0)])))) (IfP ((tch text pos) == 48) ((text.size ≤ 4000 ∧ gOk text ⟨(pos), (cn), (ct), (cd), (ns)⟩ ∧ (pos) < text.size) ∧
 ((cntF text ⟨(pos), (cn), (ct), (cd), (ns)⟩) = none → P) ∧ ∀ r_12, (cntF text ⟨(pos), (cn), (ct), (cd), (ns)⟩) = some r_12 →
 ((((r_12.ns)).length ≤ 1000000) ∧
 Q (((((r_12.ns)).length : Int)), ((r_12.pos)), ((r_12.cn)), ((r_12.ct)), ((r_12.cd)), ((r_12.ns) ++ [(TimeNode.mk 0 0 0)])))) (IfP ((tch text pos) == 49) ((text.size ≤ 4000 ∧ gOk text ⟨(pos), (cn), (ct), (cd), (ns)⟩ ∧ (pos) < text.size) ∧
 ((cntF text ⟨(pos), (cn), (ct), (cd), (ns)⟩) = none → P) ∧ ∀ r_13, (cntF text ⟨(pos), (cn), (ct), (cd), (ns)⟩) = some r_13 →
 ((((r_13.ns)).length ≤ 100000) ∧
 Q ((((((r_13.ns)) ++ [TimeNode.mk 0 0 0]).length : Int)), ((r_13.pos)), ((r_13.cn)), ((r_13.ct)), ((r_13.cd)), (((r_13.ns) ++ [TimeNode.mk 0 0 0]) ++ [TimeNode.mk 3 (((r_13.ns)).length : Int) 0])))) (((4 : Int) ≠ 0) ∧
 P)))))))))
set_option maxHeartbeats 2000000 in
theorem tOne_walk (k : Nat) (text : ByteArray) (pos : Int) (cn : Int) (ct : Int) (cd : Int) (ns : (List TimeNode)) (ih : TC k) (Q : Int × Int × Int × Int × Int × (List TimeNode) → Prop) (P : Prop) (h : tOne_vc k text pos cn ct cd ns Q P) : CtP 231 [.sv (.one (.ptr 0 0))] [.box [.v (.string text), I pos, I cn, I ct, I cd, .own 1] 236 false, rowI 139 TimeNode.ty ns] [0] Q (fun (r : Int × Int × Int × Int × Int × (List TimeNode)) => .sv (.one (I r.1))) (fun (r : Int × Int × Int × Int × Int × (List TimeNode)) => [.box [.v (.string text), I r.2.1, I r.2.2.1, I r.2.2.2.1, I r.2.2.2.2.1, .own 1] 236 false, rowI 139 TimeNode.ty r.2.2.2.2.2]) (psStop 233) P := by
 have ht := tab_ok
 refine CtP.body Try.func231 rfl rfl rfl (by kernel_rfl) (by kernel_rfl) (fun c Bk hn hpan => ?_)
 unfold tOne_vc at h
 show En c ⟨[sl 0 (.pptr 0 0 (Bk 0))], [.box [.v (.string text), I pos, I cn, I ct, I cd, .own 1] 236 false, rowI 139 TimeNode.ty ns]⟩ _
 refine En.seq ?_
 refine En.region ?_
 refine WL.run ht hn 1 ⟨[sl 0 (.pptr 0 0 (Bk 0))], [.box [.v (.string text), I pos, I cn, I ct, I cd, .own 1] 236 false, rowI 139 TimeNode.ty ns]⟩ (by kernel_rfl) ?_
 refine WL.nil ?_
 refine En.seq ?_
 refine En.seq ?_
 refine En.region ?_
 refine WL.run ht hn 1 ⟨[sl 0 (.pptr 0 0 (Bk 0)), sl 7 (.ptr 0 0)], [.box [.v (.string text), I pos, I cn, I ct, I cd, .own 1] 236 false, rowI 139 TimeNode.ty ns]⟩ (by kernel_rfl) ?_
 have hp := h.1
 replace h := h.2
 refine WL.callE (tNow_ct text pos cn ct cd ns hp) en194 (caps := []) [0, 1] hn (by rfl) rfl (by rfl) (argsAs (by kernel_rfl) (by rfl)) (by kernel_rfl) (by decide) (by rfl) (by rfl) (fun _ _ => ⟨by rfl, _, by rfl, ?_⟩)
 refine WL.nil ?_
 refine En.block ?_
 refine En.seq ?_
 refine En.region ?_
 refine WL.run ht hn 2 ⟨[sl 0 (.pptr 0 0 (Bk 0)), sl 8 (.v (.int .u8 (tch text pos))), sl 9 (B ((tch text pos) == 33))], [.box [.v (.string text), I (pos), I (cn), I (ct), I (cd), .own 1] 236 false, rowI 139 TimeNode.ty (ns)]⟩ (by kernel_rfl) ?_
 refine WL.nil ?_
 refine En.cond (b := ((tch text pos) == 33)) (by kernel_rfl) (fun hb => ?_) (fun hb => ?_)
 replace h := h.1 hb
 refine En.seq ?_
 refine En.region ?_
 refine WL.run ht hn 1 ⟨[sl 0 (.pptr 0 0 (Bk 0)), sl 11 (.ptr 0 0)], [.box [.v (.string text), I (pos), I (cn), I (ct), I (cd), .own 1] 236 false, rowI 139 TimeNode.ty (ns)]⟩ (by kernel_rfl) ?_
 have hp := h.1
 replace h := h.2
 refine splitO ((cntF text ⟨(pos), (cn), (ct), (cd), (ns)⟩)) (fun hr_2 => ?_) (fun r hr_2 => ?_)
 exact WL.callX (tCnt_bad text (pos) (cn) (ct) (cd) (ns) hp hr_2) en195 (caps := []) [0, 1] (by rfl) rfl (by rfl) (argsAs (by kernel_rfl) (by rfl)) (by kernel_rfl) (by decide) (leftX hpan (h.1 hr_2))
 replace h := h.2 r hr_2
 refine WL.callE (tCnt_ok text (pos) (cn) (ct) (cd) (ns) hp r hr_2) en195 (caps := []) [0, 1] hn (by rfl) rfl (by rfl) (argsAs (by kernel_rfl) (by rfl)) (by kernel_rfl) (by decide) (by rfl) (by rfl) (fun _ _ => ⟨by rfl, _, by rfl, ?_⟩)
 refine WL.nil ?_
 refine En.seq ?_
 refine En.region ?_
 refine WL.run ht hn 2 ⟨[sl 0 (.pptr 0 0 (Bk 0)), sl 13 (.ptr 0 0), sl 14 (.ptr 0 0)], [.box [.v (.string text), I (r.pos), I (r.cn), I (r.ct), I (r.cd), .own 1] 236 false, rowI 139 TimeNode.ty (r.ns)]⟩ (by kernel_rfl) ?_
 have hp := h.1
 replace h := h.2
 refine splitO ((pS text k 0 ⟨(r.pos), (r.cn), (r.ct), (r.cd), (r.ns)⟩)) (fun hr_3 => ?_) (fun r_2 hr_3 => ?_)
 exact WL.callX (tI0_bad k ih text (r.pos) (r.cn) (r.ct) (r.cd) (r.ns) hp hr_3) en231 (caps := []) [0, 1] (by rfl) rfl (by rfl) (argsAs (by kernel_rfl) (by rfl)) (by kernel_rfl) (by decide) (leftX hpan (h.1 hr_3))
 replace h := h.2 r_2 hr_3
 refine WL.callE (tI0_ok k ih text (r.pos) (r.cn) (r.ct) (r.cd) (r.ns) hp r_2 hr_3) en231 (caps := []) [0, 1] hn (by rfl) rfl (by rfl) (argsAs (by kernel_rfl) (by rfl)) (by kernel_rfl) (by decide) (by rfl) (by rfl) (fun _ _ => ⟨by rfl, _, by rfl, ?_⟩)
 have hp := h.1
 replace h := h.2
 refine WL.callE (tNo_ct text (r_2.2.pos) (r_2.2.cn) (r_2.2.ct) (r_2.2.cd) (r_2.2.ns) (r_2.1) hp) en232 (caps := []) [0, 1] hn (by rfl) rfl (by rfl) (argsAs (by kernel_rfl) (by rfl)) (by kernel_rfl) (by decide) (by rfl) (by rfl) (fun _ _ => ⟨by rfl, _, by rfl, ?_⟩)
 refine WL.run ht hn 1 ⟨[sl 0 (.pptr 0 0 (Bk 0)), sl 2 (I ((((r_2.2.ns)).length : Int)))], [.box [.v (.string text), I ((r_2.2.pos)), I ((r_2.2.cn)), I ((r_2.2.ct)), I ((r_2.2.cd)), .own 1] 236 false, rowI 139 TimeNode.ty ((r_2.2.ns) ++ [(TimeNode.mk 3 (r_2.1) 0)])]⟩ (by kernel_rfl) ?_
 refine WL.nil ?_
 refine En.ret ?_
 exact En.backE [0] ht (((((r_2.2.ns)).length : Int)), ((r_2.2.pos)), ((r_2.2.cn)), ((r_2.2.ct)), ((r_2.2.cd)), ((r_2.2.ns) ++ [(TimeNode.mk 3 (r_2.1) 0)])) h (by kernel_rfl) (by rfl) rfl
 replace h := h.2 hb
 refine En.seq ?_
 refine En.region ?_
 refine WL.run ht hn 2 ⟨[sl 0 (.pptr 0 0 (Bk 0)), sl 8 (.v (.int .u8 (tch text pos))), sl 17 (B ((tch text pos) == 88))], [.box [.v (.string text), I (pos), I (cn), I (ct), I (cd), .own 1] 236 false, rowI 139 TimeNode.ty (ns)]⟩ (by kernel_rfl) ?_
 refine WL.nil ?_
 refine En.cond (b := ((tch text pos) == 88)) (by kernel_rfl) (fun hb => ?_) (fun hb => ?_)
 replace h := h.1 hb
 refine En.seq ?_
 refine En.region ?_
 refine WL.run ht hn 1 ⟨[sl 0 (.pptr 0 0 (Bk 0)), sl 19 (.ptr 0 0)], [.box [.v (.string text), I (pos), I (cn), I (ct), I (cd), .own 1] 236 false, rowI 139 TimeNode.ty (ns)]⟩ (by kernel_rfl) ?_
 have hp := h.1
 replace h := h.2
 refine splitO ((cntF text ⟨(pos), (cn), (ct), (cd), (ns)⟩)) (fun hr_4 => ?_) (fun r_3 hr_4 => ?_)
 exact WL.callX (tCnt_bad text (pos) (cn) (ct) (cd) (ns) hp hr_4) en195 (caps := []) [0, 1] (by rfl) rfl (by rfl) (argsAs (by kernel_rfl) (by rfl)) (by kernel_rfl) (by decide) (leftX hpan (h.1 hr_4))
 replace h := h.2 r_3 hr_4
 refine WL.callE (tCnt_ok text (pos) (cn) (ct) (cd) (ns) hp r_3 hr_4) en195 (caps := []) [0, 1] hn (by rfl) rfl (by rfl) (argsAs (by kernel_rfl) (by rfl)) (by kernel_rfl) (by decide) (by rfl) (by rfl) (fun _ _ => ⟨by rfl, _, by rfl, ?_⟩)
 refine WL.nil ?_
 refine En.seq ?_
 refine En.region ?_
 refine WL.run ht hn 2 ⟨[sl 0 (.pptr 0 0 (Bk 0)), sl 21 (.ptr 0 0), sl 22 (.ptr 0 0)], [.box [.v (.string text), I (r_3.pos), I (r_3.cn), I (r_3.ct), I (r_3.cd), .own 1] 236 false, rowI 139 TimeNode.ty (r_3.ns)]⟩ (by kernel_rfl) ?_
 have hp := h.1
 replace h := h.2
 refine splitO ((pS text k 0 ⟨(r_3.pos), (r_3.cn), (r_3.ct), (r_3.cd), (r_3.ns)⟩)) (fun hr_5 => ?_) (fun r_4 hr_5 => ?_)
 exact WL.callX (tI0_bad k ih text (r_3.pos) (r_3.cn) (r_3.ct) (r_3.cd) (r_3.ns) hp hr_5) en231 (caps := []) [0, 1] (by rfl) rfl (by rfl) (argsAs (by kernel_rfl) (by rfl)) (by kernel_rfl) (by decide) (leftX hpan (h.1 hr_5))
 replace h := h.2 r_4 hr_5
 refine WL.callE (tI0_ok k ih text (r_3.pos) (r_3.cn) (r_3.ct) (r_3.cd) (r_3.ns) hp r_4 hr_5) en231 (caps := []) [0, 1] hn (by rfl) rfl (by rfl) (argsAs (by kernel_rfl) (by rfl)) (by kernel_rfl) (by decide) (by rfl) (by rfl) (fun _ _ => ⟨by rfl, _, by rfl, ?_⟩)
 refine WL.run ht hn 1 ⟨[sl 0 (.pptr 0 0 (Bk 0)), sl 21 (.ptr 0 0), (24, .sv (.agg [I 6, I (r_4.1), I 0]))], [.box [.v (.string text), I (r_4.2.pos), I (r_4.2.cn), I (r_4.2.ct), I (r_4.2.cd), .own 1] 236 false, rowI 139 TimeNode.ty (r_4.2.ns)]⟩ (by kernel_rfl) ?_
 have hp := h.1
 replace h := h.2
 refine WL.callE (tPut_ct text (r_4.2.pos) (r_4.2.cn) (r_4.2.ct) (r_4.2.cd) (r_4.2.ns) (TimeNode.mk 6 (r_4.1) 0) hp) en196 (caps := []) [0, 1] hn (by rfl) rfl (by rfl) (argsAs (by kernel_rfl) (by rfl)) (by kernel_rfl) (by decide) (by rfl) (by rfl) (fun _ _ => ⟨by rfl, _, by rfl, ?_⟩)
 refine WL.run ht hn 1 ⟨[sl 0 (.pptr 0 0 (Bk 0)), sl 2 (I ((((r_4.2.ns)).length : Int)))], [.box [.v (.string text), I ((r_4.2.pos)), I ((r_4.2.cn)), I ((r_4.2.ct)), I ((r_4.2.cd)), .own 1] 236 false, rowI 139 TimeNode.ty ((r_4.2.ns) ++ [(TimeNode.mk 6 (r_4.1) 0)])]⟩ (by kernel_rfl) ?_
 refine WL.nil ?_
 refine En.ret ?_
 exact En.backE [0] ht (((((r_4.2.ns)).length : Int)), ((r_4.2.pos)), ((r_4.2.cn)), ((r_4.2.ct)), ((r_4.2.cd)), ((r_4.2.ns) ++ [(TimeNode.mk 6 (r_4.1) 0)])) h (by kernel_rfl) (by rfl) rfl
 replace h := h.2 hb
 refine En.seq ?_
 refine En.region ?_
 refine WL.run ht hn 2 ⟨[sl 0 (.pptr 0 0 (Bk 0)), sl 8 (.v (.int .u8 (tch text pos))), sl 26 (B ((tch text pos) == 70))], [.box [.v (.string text), I (pos), I (cn), I (ct), I (cd), .own 1] 236 false, rowI 139 TimeNode.ty (ns)]⟩ (by kernel_rfl) ?_
 refine WL.nil ?_
 refine En.cond (b := ((tch text pos) == 70)) (by kernel_rfl) (fun hb => ?_) (fun hb => ?_)
 replace h := h.1 hb
 refine En.seq ?_
 refine En.region ?_
 refine WL.run ht hn 1 ⟨[sl 0 (.pptr 0 0 (Bk 0)), sl 28 (.ptr 0 0)], [.box [.v (.string text), I (pos), I (cn), I (ct), I (cd), .own 1] 236 false, rowI 139 TimeNode.ty (ns)]⟩ (by kernel_rfl) ?_
 have hp := h.1
 replace h := h.2
 refine splitO ((cntF text ⟨(pos), (cn), (ct), (cd), (ns)⟩)) (fun hr_6 => ?_) (fun r_5 hr_6 => ?_)
 exact WL.callX (tCnt_bad text (pos) (cn) (ct) (cd) (ns) hp hr_6) en195 (caps := []) [0, 1] (by rfl) rfl (by rfl) (argsAs (by kernel_rfl) (by rfl)) (by kernel_rfl) (by decide) (leftX hpan (h.1 hr_6))
 replace h := h.2 r_5 hr_6
 refine WL.callE (tCnt_ok text (pos) (cn) (ct) (cd) (ns) hp r_5 hr_6) en195 (caps := []) [0, 1] hn (by rfl) rfl (by rfl) (argsAs (by kernel_rfl) (by rfl)) (by kernel_rfl) (by decide) (by rfl) (by rfl) (fun _ _ => ⟨by rfl, _, by rfl, ?_⟩)
 refine WL.nil ?_
 refine En.seq ?_
 refine En.region ?_
 refine WL.run ht hn 1 ⟨[sl 0 (.pptr 0 0 (Bk 0)), sl 30 (.ptr 0 0)], [.box [.v (.string text), I (r_5.pos), I (r_5.cn), I (r_5.ct), I (r_5.cd), .own 1] 236 false, rowI 139 TimeNode.ty (r_5.ns)]⟩ (by kernel_rfl) ?_
 have hp := h.1
 replace h := h.2
 refine WL.callE (tAlw_ct text (r_5.pos) (r_5.cn) (r_5.ct) (r_5.cd) (r_5.ns) hp) en244 (caps := []) [0, 1] hn (by rfl) rfl (by rfl) (argsAs (by kernel_rfl) (by rfl)) (by kernel_rfl) (by decide) (by rfl) (by rfl) (fun _ _ => ⟨by rfl, _, by rfl, ?_⟩)
 refine WL.run ht hn 1 ⟨[sl 0 (.pptr 0 0 (Bk 0)), sl 3 (I (((((r_5.ns)) ++ [TimeNode.mk 0 0 0]).length : Int)))], [.box [.v (.string text), I ((r_5.pos)), I ((r_5.cn)), I ((r_5.ct)), I ((r_5.cd)), .own 1] 236 false, rowI 139 TimeNode.ty (((r_5.ns) ++ [TimeNode.mk 0 0 0]) ++ [TimeNode.mk 3 (((r_5.ns)).length : Int) 0])]⟩ (by kernel_rfl) ?_
 refine WL.nil ?_
 refine En.seq ?_
 refine En.region ?_
 refine WL.run ht hn 3 ⟨[sl 0 (.pptr 0 0 (Bk 0)), sl 32 (.ptr 0 0), sl 33 (I (((((r_5.ns)) ++ [TimeNode.mk 0 0 0]).length : Int))), sl 34 (.ptr 0 0)], [.box [.v (.string text), I ((r_5.pos)), I ((r_5.cn)), I ((r_5.ct)), I ((r_5.cd)), .own 1] 236 false, rowI 139 TimeNode.ty (((r_5.ns) ++ [TimeNode.mk 0 0 0]) ++ [TimeNode.mk 3 (((r_5.ns)).length : Int) 0])]⟩ (by kernel_rfl) ?_
 have hp := h.1
 replace h := h.2
 refine splitO ((pS text k 0 ⟨((r_5.pos)), ((r_5.cn)), ((r_5.ct)), ((r_5.cd)), (((r_5.ns) ++ [TimeNode.mk 0 0 0]) ++ [TimeNode.mk 3 (((r_5.ns)).length : Int) 0])⟩)) (fun hr_7 => ?_) (fun r_6 hr_7 => ?_)
 exact WL.callX (tI0_bad k ih text ((r_5.pos)) ((r_5.cn)) ((r_5.ct)) ((r_5.cd)) (((r_5.ns) ++ [TimeNode.mk 0 0 0]) ++ [TimeNode.mk 3 (((r_5.ns)).length : Int) 0]) hp hr_7) en231 (caps := []) [0, 1] (by rfl) rfl (by rfl) (argsAs (by kernel_rfl) (by rfl)) (by kernel_rfl) (by decide) (leftX hpan (h.1 hr_7))
 replace h := h.2 r_6 hr_7
 refine WL.callE (tI0_ok k ih text ((r_5.pos)) ((r_5.cn)) ((r_5.ct)) ((r_5.cd)) (((r_5.ns) ++ [TimeNode.mk 0 0 0]) ++ [TimeNode.mk 3 (((r_5.ns)).length : Int) 0]) hp r_6 hr_7) en231 (caps := []) [0, 1] hn (by rfl) rfl (by rfl) (argsAs (by kernel_rfl) (by rfl)) (by kernel_rfl) (by decide) (by rfl) (by rfl) (fun _ _ => ⟨by rfl, _, by rfl, ?_⟩)
 refine WL.run ht hn 1 ⟨[sl 0 (.pptr 0 0 (Bk 0)), sl 32 (.ptr 0 0), (36, .sv (.agg [I 7, I (((((r_5.ns)) ++ [TimeNode.mk 0 0 0]).length : Int)), I (r_6.1)]))], [.box [.v (.string text), I (r_6.2.pos), I (r_6.2.cn), I (r_6.2.ct), I (r_6.2.cd), .own 1] 236 false, rowI 139 TimeNode.ty (r_6.2.ns)]⟩ (by kernel_rfl) ?_
 have hp := h.1
 replace h := h.2
 refine WL.callE (tPut_ct text (r_6.2.pos) (r_6.2.cn) (r_6.2.ct) (r_6.2.cd) (r_6.2.ns) (TimeNode.mk 7 (((((r_5.ns)) ++ [TimeNode.mk 0 0 0]).length : Int)) (r_6.1)) hp) en196 (caps := []) [0, 1] hn (by rfl) rfl (by rfl) (argsAs (by kernel_rfl) (by rfl)) (by kernel_rfl) (by decide) (by rfl) (by rfl) (fun _ _ => ⟨by rfl, _, by rfl, ?_⟩)
 refine WL.run ht hn 1 ⟨[sl 0 (.pptr 0 0 (Bk 0)), sl 2 (I ((((r_6.2.ns)).length : Int)))], [.box [.v (.string text), I ((r_6.2.pos)), I ((r_6.2.cn)), I ((r_6.2.ct)), I ((r_6.2.cd)), .own 1] 236 false, rowI 139 TimeNode.ty ((r_6.2.ns) ++ [(TimeNode.mk 7 (((((r_5.ns)) ++ [TimeNode.mk 0 0 0]).length : Int)) (r_6.1))])]⟩ (by kernel_rfl) ?_
 refine WL.nil ?_
 refine En.ret ?_
 exact En.backE [0] ht (((((r_6.2.ns)).length : Int)), ((r_6.2.pos)), ((r_6.2.cn)), ((r_6.2.ct)), ((r_6.2.cd)), ((r_6.2.ns) ++ [(TimeNode.mk 7 (((((r_5.ns)) ++ [TimeNode.mk 0 0 0]).length : Int)) (r_6.1))])) h (by kernel_rfl) (by rfl) rfl
 replace h := h.2 hb
 refine En.seq ?_
 refine En.region ?_
 refine WL.run ht hn 2 ⟨[sl 0 (.pptr 0 0 (Bk 0)), sl 8 (.v (.int .u8 (tch text pos))), sl 38 (B ((tch text pos) == 71))], [.box [.v (.string text), I (pos), I (cn), I (ct), I (cd), .own 1] 236 false, rowI 139 TimeNode.ty (ns)]⟩ (by kernel_rfl) ?_
 refine WL.nil ?_
 refine En.cond (b := ((tch text pos) == 71)) (by kernel_rfl) (fun hb => ?_) (fun hb => ?_)
 replace h := h.1 hb
 refine En.seq ?_
 refine En.region ?_
 refine WL.run ht hn 1 ⟨[sl 0 (.pptr 0 0 (Bk 0)), sl 40 (.ptr 0 0)], [.box [.v (.string text), I (pos), I (cn), I (ct), I (cd), .own 1] 236 false, rowI 139 TimeNode.ty (ns)]⟩ (by kernel_rfl) ?_
 have hp := h.1
 replace h := h.2
 refine splitO ((cntF text ⟨(pos), (cn), (ct), (cd), (ns)⟩)) (fun hr_8 => ?_) (fun r_7 hr_8 => ?_)
 exact WL.callX (tCnt_bad text (pos) (cn) (ct) (cd) (ns) hp hr_8) en195 (caps := []) [0, 1] (by rfl) rfl (by rfl) (argsAs (by kernel_rfl) (by rfl)) (by kernel_rfl) (by decide) (leftX hpan (h.1 hr_8))
 replace h := h.2 r_7 hr_8
 refine WL.callE (tCnt_ok text (pos) (cn) (ct) (cd) (ns) hp r_7 hr_8) en195 (caps := []) [0, 1] hn (by rfl) rfl (by rfl) (argsAs (by kernel_rfl) (by rfl)) (by kernel_rfl) (by decide) (by rfl) (by rfl) (fun _ _ => ⟨by rfl, _, by rfl, ?_⟩)
 refine WL.nil ?_
 refine En.seq ?_
 refine En.region ?_
 refine WL.run ht hn 1 ⟨[sl 0 (.pptr 0 0 (Bk 0)), sl 42 (.ptr 0 0)], [.box [.v (.string text), I (r_7.pos), I (r_7.cn), I (r_7.ct), I (r_7.cd), .own 1] 236 false, rowI 139 TimeNode.ty (r_7.ns)]⟩ (by kernel_rfl) ?_
 have hp := h.1
 replace h := h.2
 refine WL.callE (tAlw_ct text (r_7.pos) (r_7.cn) (r_7.ct) (r_7.cd) (r_7.ns) hp) en244 (caps := []) [0, 1] hn (by rfl) rfl (by rfl) (argsAs (by kernel_rfl) (by rfl)) (by kernel_rfl) (by decide) (by rfl) (by rfl) (fun _ _ => ⟨by rfl, _, by rfl, ?_⟩)
 refine WL.run ht hn 1 ⟨[sl 0 (.pptr 0 0 (Bk 0)), sl 4 (I (((((r_7.ns)) ++ [TimeNode.mk 0 0 0]).length : Int)))], [.box [.v (.string text), I ((r_7.pos)), I ((r_7.cn)), I ((r_7.ct)), I ((r_7.cd)), .own 1] 236 false, rowI 139 TimeNode.ty (((r_7.ns) ++ [TimeNode.mk 0 0 0]) ++ [TimeNode.mk 3 (((r_7.ns)).length : Int) 0])]⟩ (by kernel_rfl) ?_
 refine WL.nil ?_
 refine En.seq ?_
 refine En.region ?_
 refine WL.run ht hn 2 ⟨[sl 0 (.pptr 0 0 (Bk 0)), sl 4 (I (((((r_7.ns)) ++ [TimeNode.mk 0 0 0]).length : Int))), sl 44 (.ptr 0 0), sl 45 (.ptr 0 0)], [.box [.v (.string text), I ((r_7.pos)), I ((r_7.cn)), I ((r_7.ct)), I ((r_7.cd)), .own 1] 236 false, rowI 139 TimeNode.ty (((r_7.ns) ++ [TimeNode.mk 0 0 0]) ++ [TimeNode.mk 3 (((r_7.ns)).length : Int) 0])]⟩ (by kernel_rfl) ?_
 have hp := h.1
 replace h := h.2
 refine splitO ((pS text k 0 ⟨((r_7.pos)), ((r_7.cn)), ((r_7.ct)), ((r_7.cd)), (((r_7.ns) ++ [TimeNode.mk 0 0 0]) ++ [TimeNode.mk 3 (((r_7.ns)).length : Int) 0])⟩)) (fun hr_9 => ?_) (fun r_8 hr_9 => ?_)
 exact WL.callX (tI0_bad k ih text ((r_7.pos)) ((r_7.cn)) ((r_7.ct)) ((r_7.cd)) (((r_7.ns) ++ [TimeNode.mk 0 0 0]) ++ [TimeNode.mk 3 (((r_7.ns)).length : Int) 0]) hp hr_9) en231 (caps := []) [0, 1] (by rfl) rfl (by rfl) (argsAs (by kernel_rfl) (by rfl)) (by kernel_rfl) (by decide) (leftX hpan (h.1 hr_9))
 replace h := h.2 r_8 hr_9
 refine WL.callE (tI0_ok k ih text ((r_7.pos)) ((r_7.cn)) ((r_7.ct)) ((r_7.cd)) (((r_7.ns) ++ [TimeNode.mk 0 0 0]) ++ [TimeNode.mk 3 (((r_7.ns)).length : Int) 0]) hp r_8 hr_9) en231 (caps := []) [0, 1] hn (by rfl) rfl (by rfl) (argsAs (by kernel_rfl) (by rfl)) (by kernel_rfl) (by decide) (by rfl) (by rfl) (fun _ _ => ⟨by rfl, _, by rfl, ?_⟩)
 have hp := h.1
 replace h := h.2
 refine WL.callE (tNo_ct text (r_8.2.pos) (r_8.2.cn) (r_8.2.ct) (r_8.2.cd) (r_8.2.ns) (r_8.1) hp) en232 (caps := []) [0, 1] hn (by rfl) rfl (by rfl) (argsAs (by kernel_rfl) (by rfl)) (by kernel_rfl) (by decide) (by rfl) (by rfl) (fun _ _ => ⟨by rfl, _, by rfl, ?_⟩)
 refine WL.run ht hn 1 ⟨[sl 0 (.pptr 0 0 (Bk 0)), sl 4 (I (((((r_7.ns)) ++ [TimeNode.mk 0 0 0]).length : Int))), sl 5 (I ((((r_8.2.ns)).length : Int)))], [.box [.v (.string text), I ((r_8.2.pos)), I ((r_8.2.cn)), I ((r_8.2.ct)), I ((r_8.2.cd)), .own 1] 236 false, rowI 139 TimeNode.ty ((r_8.2.ns) ++ [(TimeNode.mk 3 (r_8.1) 0)])]⟩ (by kernel_rfl) ?_
 refine WL.nil ?_
 refine En.seq ?_
 refine En.region ?_
 refine WL.run ht hn 5 ⟨[sl 0 (.pptr 0 0 (Bk 0)), sl 48 (.ptr 0 0), sl 49 (.ptr 0 0), (52, .sv (.agg [I 7, I (((((r_7.ns)) ++ [TimeNode.mk 0 0 0]).length : Int)), I ((((r_8.2.ns)).length : Int))]))], [.box [.v (.string text), I ((r_8.2.pos)), I ((r_8.2.cn)), I ((r_8.2.ct)), I ((r_8.2.cd)), .own 1] 236 false, rowI 139 TimeNode.ty ((r_8.2.ns) ++ [(TimeNode.mk 3 (r_8.1) 0)])]⟩ (by kernel_rfl) ?_
 have hp := h.1
 replace h := h.2
 refine WL.callE (tPut_ct text ((r_8.2.pos)) ((r_8.2.cn)) ((r_8.2.ct)) ((r_8.2.cd)) ((r_8.2.ns) ++ [(TimeNode.mk 3 (r_8.1) 0)]) (TimeNode.mk 7 (((((r_7.ns)) ++ [TimeNode.mk 0 0 0]).length : Int)) ((((r_8.2.ns)).length : Int))) hp) en196 (caps := []) [0, 1] hn (by rfl) rfl (by rfl) (argsAs (by kernel_rfl) (by rfl)) (by kernel_rfl) (by decide) (by rfl) (by rfl) (fun _ _ => ⟨by rfl, _, by rfl, ?_⟩)
 have hp := h.1
 replace h := h.2
 refine WL.callE (tNo_ct text (((r_8.2.pos))) (((r_8.2.cn))) (((r_8.2.ct))) (((r_8.2.cd))) (((r_8.2.ns) ++ [(TimeNode.mk 3 (r_8.1) 0)]) ++ [(TimeNode.mk 7 (((((r_7.ns)) ++ [TimeNode.mk 0 0 0]).length : Int)) ((((r_8.2.ns)).length : Int)))]) (((((r_8.2.ns) ++ [(TimeNode.mk 3 (r_8.1) 0)])).length : Int)) hp) en232 (caps := []) [0, 1] hn (by rfl) rfl (by rfl) (argsAs (by kernel_rfl) (by rfl)) (by kernel_rfl) (by decide) (by rfl) (by rfl) (fun _ _ => ⟨by rfl, _, by rfl, ?_⟩)
 refine WL.run ht hn 1 ⟨[sl 0 (.pptr 0 0 (Bk 0)), sl 2 (I ((((((r_8.2.ns) ++ [(TimeNode.mk 3 (r_8.1) 0)]) ++ [(TimeNode.mk 7 (((((r_7.ns)) ++ [TimeNode.mk 0 0 0]).length : Int)) ((((r_8.2.ns)).length : Int)))])).length : Int)))], [.box [.v (.string text), I ((((r_8.2.pos)))), I ((((r_8.2.cn)))), I ((((r_8.2.ct)))), I ((((r_8.2.cd)))), .own 1] 236 false, rowI 139 TimeNode.ty ((((r_8.2.ns) ++ [(TimeNode.mk 3 (r_8.1) 0)]) ++ [(TimeNode.mk 7 (((((r_7.ns)) ++ [TimeNode.mk 0 0 0]).length : Int)) ((((r_8.2.ns)).length : Int)))]) ++ [(TimeNode.mk 3 (((((r_8.2.ns) ++ [(TimeNode.mk 3 (r_8.1) 0)])).length : Int)) 0)])]⟩ (by kernel_rfl) ?_
 refine WL.nil ?_
 refine En.ret ?_
 exact En.backE [0] ht (((((((r_8.2.ns) ++ [(TimeNode.mk 3 (r_8.1) 0)]) ++ [(TimeNode.mk 7 (((((r_7.ns)) ++ [TimeNode.mk 0 0 0]).length : Int)) ((((r_8.2.ns)).length : Int)))])).length : Int)), ((((r_8.2.pos)))), ((((r_8.2.cn)))), ((((r_8.2.ct)))), ((((r_8.2.cd)))), ((((r_8.2.ns) ++ [(TimeNode.mk 3 (r_8.1) 0)]) ++ [(TimeNode.mk 7 (((((r_7.ns)) ++ [TimeNode.mk 0 0 0]).length : Int)) ((((r_8.2.ns)).length : Int)))]) ++ [(TimeNode.mk 3 (((((r_8.2.ns) ++ [(TimeNode.mk 3 (r_8.1) 0)])).length : Int)) 0)])) h (by kernel_rfl) (by rfl) rfl
 replace h := h.2 hb
 refine En.seq ?_
 refine En.region ?_
 refine WL.run ht hn 2 ⟨[sl 0 (.pptr 0 0 (Bk 0)), sl 8 (.v (.int .u8 (tch text pos))), sl 55 (B ((tch text pos) == 40))], [.box [.v (.string text), I (pos), I (cn), I (ct), I (cd), .own 1] 236 false, rowI 139 TimeNode.ty (ns)]⟩ (by kernel_rfl) ?_
 refine WL.nil ?_
 refine En.cond (b := ((tch text pos) == 40)) (by kernel_rfl) (fun hb => ?_) (fun hb => ?_)
 replace h := h.1 hb
 refine En.seq ?_
 refine En.seq ?_
 refine En.region ?_
 refine WL.run ht hn 5 ⟨[sl 0 (.pptr 0 0 (Bk 0)), sl 61 (B ((cd) == 40))], [.box [.v (.string text), I (pos), I (cn), I (ct), I (cd), .own 1] 236 false, rowI 139 TimeNode.ty (ns)]⟩ (by kernel_rfl) ?_
 refine WL.nil ?_
 refine En.cond (b := ((cd) == 40)) (by kernel_rfl) (fun hb => ?_) (fun hb => ?_)
 replace h := h.1 hb
 refine En.region ?_
 refine WL.run ht hn 1 ⟨[sl 0 (.pptr 0 0 (Bk 0)), sl 62 (.ptr 0 0)], [.box [.v (.string text), I (pos), I (cn), I (ct), I (cd), .own 1] 236 false, rowI 139 TimeNode.ty (ns)]⟩ (by kernel_rfl) ?_
 have hp := h.1
 replace h := h.2
 exact WL.callX (tFail_ct text (pos) (cn) (ct) (cd) (ns) 7 hp) en130 (caps := []) [0, 1] (by rfl) rfl (by rfl) (argsAs (by kernel_rfl) (by rfl)) (by kernel_rfl) (by decide) (leftX hpan h)
 replace h := h.2 hb
 refine En.skip ?_
 refine En.seq ?_
 refine En.region ?_
 refine WL.run ht hn 8 ⟨[sl 0 (.pptr 0 0 (Bk 0))], [.box [.v (.string text), I (pos), I (cn), I (ct), I (wr ((cd) + 1)), .own 1] 236 false, rowI 139 TimeNode.ty (ns)]⟩ (by kernel_rfl) ?_
 refine WL.nil ?_
 refine En.seq ?_
 refine En.region ?_
 refine WL.run ht hn 8 ⟨[sl 0 (.pptr 0 0 (Bk 0))], [.box [.v (.string text), I (wr ((pos) + 1)), I (cn), I (ct), I (wr ((cd) + 1)), .own 1] 236 false, rowI 139 TimeNode.ty (ns)]⟩ (by kernel_rfl) ?_
 refine WL.nil ?_
 refine En.seq ?_
 refine En.region ?_
 refine WL.run ht hn 1 ⟨[sl 0 (.pptr 0 0 (Bk 0)), sl 78 (.ptr 0 0)], [.box [.v (.string text), I (wr ((pos) + 1)), I (cn), I (ct), I (wr ((cd) + 1)), .own 1] 236 false, rowI 139 TimeNode.ty (ns)]⟩ (by kernel_rfl) ?_
 have hp := h.1
 replace h := h.2
 refine splitO ((pS text k 3 ⟨(wr ((pos) + 1)), (cn), (ct), (wr ((cd) + 1)), (ns)⟩)) (fun hr_10 => ?_) (fun r_9 hr_10 => ?_)
 exact WL.callX (tI3_bad k ih text (wr ((pos) + 1)) (cn) (ct) (wr ((cd) + 1)) (ns) hp hr_10) en129 (caps := []) [0, 1] (by rfl) rfl (by rfl) (argsAs (by kernel_rfl) (by rfl)) (by kernel_rfl) (by decide) (leftX hpan (h.1 hr_10))
 replace h := h.2 r_9 hr_10
 refine WL.callE (tI3_ok k ih text (wr ((pos) + 1)) (cn) (ct) (wr ((cd) + 1)) (ns) hp r_9 hr_10) en129 (caps := []) [0, 1] hn (by rfl) rfl (by rfl) (argsAs (by kernel_rfl) (by rfl)) (by kernel_rfl) (by decide) (by rfl) (by rfl) (fun _ _ => ⟨by rfl, _, by rfl, ?_⟩)
 refine WL.run ht hn 1 ⟨[sl 0 (.pptr 0 0 (Bk 0)), sl 6 (I (r_9.1))], [.box [.v (.string text), I (r_9.2.pos), I (r_9.2.cn), I (r_9.2.ct), I (r_9.2.cd), .own 1] 236 false, rowI 139 TimeNode.ty (r_9.2.ns)]⟩ (by kernel_rfl) ?_
 refine WL.nil ?_
 refine En.seq ?_
 refine En.seq ?_
 refine En.region ?_
 refine WL.run ht hn 1 ⟨[sl 0 (.pptr 0 0 (Bk 0)), sl 6 (I (r_9.1)), sl 80 (.ptr 0 0)], [.box [.v (.string text), I (r_9.2.pos), I (r_9.2.cn), I (r_9.2.ct), I (r_9.2.cd), .own 1] 236 false, rowI 139 TimeNode.ty (r_9.2.ns)]⟩ (by kernel_rfl) ?_
 have hp := h.1
 replace h := h.2
 refine WL.callE (tNow_ct text (r_9.2.pos) (r_9.2.cn) (r_9.2.ct) (r_9.2.cd) (r_9.2.ns) hp) en194 (caps := []) [0, 1] hn (by rfl) rfl (by rfl) (argsAs (by kernel_rfl) (by rfl)) (by kernel_rfl) (by decide) (by rfl) (by rfl) (fun _ _ => ⟨by rfl, _, by rfl, ?_⟩)
 refine WL.run ht hn 1 ⟨[sl 0 (.pptr 0 0 (Bk 0)), sl 6 (I (r_9.1)), sl 82 (B ((tch text (r_9.2.pos)) != 41))], [.box [.v (.string text), I ((r_9.2.pos)), I ((r_9.2.cn)), I ((r_9.2.ct)), I ((r_9.2.cd)), .own 1] 236 false, rowI 139 TimeNode.ty ((r_9.2.ns))]⟩ (by kernel_rfl) ?_
 refine WL.nil ?_
 refine En.cond (b := ((tch text (r_9.2.pos)) != 41)) (by kernel_rfl) (fun hb => ?_) (fun hb => ?_)
 replace h := h.1 hb
 refine En.region ?_
 refine WL.run ht hn 1 ⟨[sl 0 (.pptr 0 0 (Bk 0)), sl 6 (I (r_9.1)), sl 83 (.ptr 0 0)], [.box [.v (.string text), I ((r_9.2.pos)), I ((r_9.2.cn)), I ((r_9.2.ct)), I ((r_9.2.cd)), .own 1] 236 false, rowI 139 TimeNode.ty ((r_9.2.ns))]⟩ (by kernel_rfl) ?_
 have hp := h.1
 replace h := h.2
 exact WL.callX (tFail_ct text ((r_9.2.pos)) ((r_9.2.cn)) ((r_9.2.ct)) ((r_9.2.cd)) ((r_9.2.ns)) 4 hp) en130 (caps := []) [0, 1] (by rfl) rfl (by rfl) (argsAs (by kernel_rfl) (by rfl)) (by kernel_rfl) (by decide) (leftX hpan h)
 replace h := h.2 hb
 refine En.skip ?_
 refine En.seq ?_
 refine En.region ?_
 refine WL.run ht hn 8 ⟨[sl 0 (.pptr 0 0 (Bk 0)), sl 6 (I (r_9.1))], [.box [.v (.string text), I (wr (((r_9.2.pos)) + 1)), I ((r_9.2.cn)), I ((r_9.2.ct)), I ((r_9.2.cd)), .own 1] 236 false, rowI 139 TimeNode.ty ((r_9.2.ns))]⟩ (by kernel_rfl) ?_
 refine WL.nil ?_
 refine En.seq ?_
 refine En.region ?_
 refine WL.run ht hn 8 ⟨[sl 0 (.pptr 0 0 (Bk 0)), sl 6 (I (r_9.1))], [.box [.v (.string text), I (wr (((r_9.2.pos)) + 1)), I ((r_9.2.cn)), I ((r_9.2.ct)), I (wr (((r_9.2.cd)) - 1)), .own 1] 236 false, rowI 139 TimeNode.ty ((r_9.2.ns))]⟩ (by kernel_rfl) ?_
 refine WL.nil ?_
 refine En.seq ?_
 refine En.region ?_
 refine WL.run ht hn 2 ⟨[sl 0 (.pptr 0 0 (Bk 0)), sl 2 (I (r_9.1))], [.box [.v (.string text), I (wr (((r_9.2.pos)) + 1)), I ((r_9.2.cn)), I ((r_9.2.ct)), I (wr (((r_9.2.cd)) - 1)), .own 1] 236 false, rowI 139 TimeNode.ty ((r_9.2.ns))]⟩ (by kernel_rfl) ?_
 refine WL.nil ?_
 refine En.ret ?_
 exact En.backE [0] ht ((r_9.1), (wr (((r_9.2.pos)) + 1)), ((r_9.2.cn)), ((r_9.2.ct)), (wr (((r_9.2.cd)) - 1)), ((r_9.2.ns))) h (by kernel_rfl) (by rfl) rfl
 replace h := h.2 hb
 refine En.seq ?_
 refine En.region ?_
 refine WL.run ht hn 2 ⟨[sl 0 (.pptr 0 0 (Bk 0)), sl 8 (.v (.int .u8 (tch text pos))), sl 100 (B ((tch text pos) == 112))], [.box [.v (.string text), I (pos), I (cn), I (ct), I (cd), .own 1] 236 false, rowI 139 TimeNode.ty (ns)]⟩ (by kernel_rfl) ?_
 refine WL.nil ?_
 refine En.cond (b := ((tch text pos) == 112)) (by kernel_rfl) (fun hb => ?_) (fun hb => ?_)
 replace h := h.1 hb
 refine En.seq ?_
 refine En.region ?_
 refine WL.run ht hn 1 ⟨[sl 0 (.pptr 0 0 (Bk 0)), sl 102 (.ptr 0 0)], [.box [.v (.string text), I (pos), I (cn), I (ct), I (cd), .own 1] 236 false, rowI 139 TimeNode.ty (ns)]⟩ (by kernel_rfl) ?_
 have hp := h.1
 replace h := h.2
 refine splitO ((cntF text ⟨(pos), (cn), (ct), (cd), (ns)⟩)) (fun hr_11 => ?_) (fun r_10 hr_11 => ?_)
 exact WL.callX (tCnt_bad text (pos) (cn) (ct) (cd) (ns) hp hr_11) en195 (caps := []) [0, 1] (by rfl) rfl (by rfl) (argsAs (by kernel_rfl) (by rfl)) (by kernel_rfl) (by decide) (leftX hpan (h.1 hr_11))
 replace h := h.2 r_10 hr_11
 refine WL.callE (tCnt_ok text (pos) (cn) (ct) (cd) (ns) hp r_10 hr_11) en195 (caps := []) [0, 1] hn (by rfl) rfl (by rfl) (argsAs (by kernel_rfl) (by rfl)) (by kernel_rfl) (by decide) (by rfl) (by rfl) (fun _ _ => ⟨by rfl, _, by rfl, ?_⟩)
 refine WL.nil ?_
 refine En.seq ?_
 refine En.region ?_
 refine WL.run ht hn 2 ⟨[sl 0 (.pptr 0 0 (Bk 0)), sl 104 (.ptr 0 0), (105, .sv (.agg [I 1, I 0, I 0]))], [.box [.v (.string text), I (r_10.pos), I (r_10.cn), I (r_10.ct), I (r_10.cd), .own 1] 236 false, rowI 139 TimeNode.ty (r_10.ns)]⟩ (by kernel_rfl) ?_
 have hp := h.1
 replace h := h.2
 refine WL.callE (tPut_ct text (r_10.pos) (r_10.cn) (r_10.ct) (r_10.cd) (r_10.ns) (TimeNode.mk 1 0 0) hp) en196 (caps := []) [0, 1] hn (by rfl) rfl (by rfl) (argsAs (by kernel_rfl) (by rfl)) (by kernel_rfl) (by decide) (by rfl) (by rfl) (fun _ _ => ⟨by rfl, _, by rfl, ?_⟩)
 refine WL.run ht hn 1 ⟨[sl 0 (.pptr 0 0 (Bk 0)), sl 2 (I ((((r_10.ns)).length : Int)))], [.box [.v (.string text), I ((r_10.pos)), I ((r_10.cn)), I ((r_10.ct)), I ((r_10.cd)), .own 1] 236 false, rowI 139 TimeNode.ty ((r_10.ns) ++ [(TimeNode.mk 1 0 0)])]⟩ (by kernel_rfl) ?_
 refine WL.nil ?_
 refine En.ret ?_
 exact En.backE [0] ht (((((r_10.ns)).length : Int)), ((r_10.pos)), ((r_10.cn)), ((r_10.ct)), ((r_10.cd)), ((r_10.ns) ++ [(TimeNode.mk 1 0 0)])) h (by kernel_rfl) (by rfl) rfl
 replace h := h.2 hb
 refine En.seq ?_
 refine En.region ?_
 refine WL.run ht hn 2 ⟨[sl 0 (.pptr 0 0 (Bk 0)), sl 8 (.v (.int .u8 (tch text pos))), sl 107 (B ((tch text pos) == 113))], [.box [.v (.string text), I (pos), I (cn), I (ct), I (cd), .own 1] 236 false, rowI 139 TimeNode.ty (ns)]⟩ (by kernel_rfl) ?_
 refine WL.nil ?_
 refine En.cond (b := ((tch text pos) == 113)) (by kernel_rfl) (fun hb => ?_) (fun hb => ?_)
 replace h := h.1 hb
 refine En.seq ?_
 refine En.region ?_
 refine WL.run ht hn 1 ⟨[sl 0 (.pptr 0 0 (Bk 0)), sl 109 (.ptr 0 0)], [.box [.v (.string text), I (pos), I (cn), I (ct), I (cd), .own 1] 236 false, rowI 139 TimeNode.ty (ns)]⟩ (by kernel_rfl) ?_
 have hp := h.1
 replace h := h.2
 refine splitO ((cntF text ⟨(pos), (cn), (ct), (cd), (ns)⟩)) (fun hr_12 => ?_) (fun r_11 hr_12 => ?_)
 exact WL.callX (tCnt_bad text (pos) (cn) (ct) (cd) (ns) hp hr_12) en195 (caps := []) [0, 1] (by rfl) rfl (by rfl) (argsAs (by kernel_rfl) (by rfl)) (by kernel_rfl) (by decide) (leftX hpan (h.1 hr_12))
 replace h := h.2 r_11 hr_12
 refine WL.callE (tCnt_ok text (pos) (cn) (ct) (cd) (ns) hp r_11 hr_12) en195 (caps := []) [0, 1] hn (by rfl) rfl (by rfl) (argsAs (by kernel_rfl) (by rfl)) (by kernel_rfl) (by decide) (by rfl) (by rfl) (fun _ _ => ⟨by rfl, _, by rfl, ?_⟩)
 refine WL.nil ?_
 refine En.seq ?_
 refine En.region ?_
 refine WL.run ht hn 2 ⟨[sl 0 (.pptr 0 0 (Bk 0)), sl 111 (.ptr 0 0), (112, .sv (.agg [I 2, I 0, I 0]))], [.box [.v (.string text), I (r_11.pos), I (r_11.cn), I (r_11.ct), I (r_11.cd), .own 1] 236 false, rowI 139 TimeNode.ty (r_11.ns)]⟩ (by kernel_rfl) ?_
 have hp := h.1
 replace h := h.2
 refine WL.callE (tPut_ct text (r_11.pos) (r_11.cn) (r_11.ct) (r_11.cd) (r_11.ns) (TimeNode.mk 2 0 0) hp) en196 (caps := []) [0, 1] hn (by rfl) rfl (by rfl) (argsAs (by kernel_rfl) (by rfl)) (by kernel_rfl) (by decide) (by rfl) (by rfl) (fun _ _ => ⟨by rfl, _, by rfl, ?_⟩)
 refine WL.run ht hn 1 ⟨[sl 0 (.pptr 0 0 (Bk 0)), sl 2 (I ((((r_11.ns)).length : Int)))], [.box [.v (.string text), I ((r_11.pos)), I ((r_11.cn)), I ((r_11.ct)), I ((r_11.cd)), .own 1] 236 false, rowI 139 TimeNode.ty ((r_11.ns) ++ [(TimeNode.mk 2 0 0)])]⟩ (by kernel_rfl) ?_
 refine WL.nil ?_
 refine En.ret ?_
 exact En.backE [0] ht (((((r_11.ns)).length : Int)), ((r_11.pos)), ((r_11.cn)), ((r_11.ct)), ((r_11.cd)), ((r_11.ns) ++ [(TimeNode.mk 2 0 0)])) h (by kernel_rfl) (by rfl) rfl
 replace h := h.2 hb
 refine En.seq ?_
 refine En.region ?_
 refine WL.run ht hn 2 ⟨[sl 0 (.pptr 0 0 (Bk 0)), sl 8 (.v (.int .u8 (tch text pos))), sl 114 (B ((tch text pos) == 48))], [.box [.v (.string text), I (pos), I (cn), I (ct), I (cd), .own 1] 236 false, rowI 139 TimeNode.ty (ns)]⟩ (by kernel_rfl) ?_
 refine WL.nil ?_
 refine En.cond (b := ((tch text pos) == 48)) (by kernel_rfl) (fun hb => ?_) (fun hb => ?_)
 replace h := h.1 hb
 refine En.seq ?_
 refine En.region ?_
 refine WL.run ht hn 1 ⟨[sl 0 (.pptr 0 0 (Bk 0)), sl 116 (.ptr 0 0)], [.box [.v (.string text), I (pos), I (cn), I (ct), I (cd), .own 1] 236 false, rowI 139 TimeNode.ty (ns)]⟩ (by kernel_rfl) ?_
 have hp := h.1
 replace h := h.2
 refine splitO ((cntF text ⟨(pos), (cn), (ct), (cd), (ns)⟩)) (fun hr_13 => ?_) (fun r_12 hr_13 => ?_)
 exact WL.callX (tCnt_bad text (pos) (cn) (ct) (cd) (ns) hp hr_13) en195 (caps := []) [0, 1] (by rfl) rfl (by rfl) (argsAs (by kernel_rfl) (by rfl)) (by kernel_rfl) (by decide) (leftX hpan (h.1 hr_13))
 replace h := h.2 r_12 hr_13
 refine WL.callE (tCnt_ok text (pos) (cn) (ct) (cd) (ns) hp r_12 hr_13) en195 (caps := []) [0, 1] hn (by rfl) rfl (by rfl) (argsAs (by kernel_rfl) (by rfl)) (by kernel_rfl) (by decide) (by rfl) (by rfl) (fun _ _ => ⟨by rfl, _, by rfl, ?_⟩)
 refine WL.nil ?_
 refine En.seq ?_
 refine En.region ?_
 refine WL.run ht hn 2 ⟨[sl 0 (.pptr 0 0 (Bk 0)), sl 118 (.ptr 0 0), (119, .sv (.agg [I 0, I 0, I 0]))], [.box [.v (.string text), I (r_12.pos), I (r_12.cn), I (r_12.ct), I (r_12.cd), .own 1] 236 false, rowI 139 TimeNode.ty (r_12.ns)]⟩ (by kernel_rfl) ?_
 have hp := h.1
 replace h := h.2
 refine WL.callE (tPut_ct text (r_12.pos) (r_12.cn) (r_12.ct) (r_12.cd) (r_12.ns) (TimeNode.mk 0 0 0) hp) en196 (caps := []) [0, 1] hn (by rfl) rfl (by rfl) (argsAs (by kernel_rfl) (by rfl)) (by kernel_rfl) (by decide) (by rfl) (by rfl) (fun _ _ => ⟨by rfl, _, by rfl, ?_⟩)
 refine WL.run ht hn 1 ⟨[sl 0 (.pptr 0 0 (Bk 0)), sl 2 (I ((((r_12.ns)).length : Int)))], [.box [.v (.string text), I ((r_12.pos)), I ((r_12.cn)), I ((r_12.ct)), I ((r_12.cd)), .own 1] 236 false, rowI 139 TimeNode.ty ((r_12.ns) ++ [(TimeNode.mk 0 0 0)])]⟩ (by kernel_rfl) ?_
 refine WL.nil ?_
 refine En.ret ?_
 exact En.backE [0] ht (((((r_12.ns)).length : Int)), ((r_12.pos)), ((r_12.cn)), ((r_12.ct)), ((r_12.cd)), ((r_12.ns) ++ [(TimeNode.mk 0 0 0)])) h (by kernel_rfl) (by rfl) rfl
 replace h := h.2 hb
 refine En.seq ?_
 refine En.region ?_
 refine WL.run ht hn 2 ⟨[sl 0 (.pptr 0 0 (Bk 0)), sl 121 (B ((tch text pos) == 49))], [.box [.v (.string text), I (pos), I (cn), I (ct), I (cd), .own 1] 236 false, rowI 139 TimeNode.ty (ns)]⟩ (by kernel_rfl) ?_
 refine WL.nil ?_
 refine En.cond (b := ((tch text pos) == 49)) (by kernel_rfl) (fun hb => ?_) (fun hb => ?_)
 replace h := h.1 hb
 refine En.seq ?_
 refine En.region ?_
 refine WL.run ht hn 1 ⟨[sl 0 (.pptr 0 0 (Bk 0)), sl 123 (.ptr 0 0)], [.box [.v (.string text), I (pos), I (cn), I (ct), I (cd), .own 1] 236 false, rowI 139 TimeNode.ty (ns)]⟩ (by kernel_rfl) ?_
 have hp := h.1
 replace h := h.2
 refine splitO ((cntF text ⟨(pos), (cn), (ct), (cd), (ns)⟩)) (fun hr_14 => ?_) (fun r_13 hr_14 => ?_)
 exact WL.callX (tCnt_bad text (pos) (cn) (ct) (cd) (ns) hp hr_14) en195 (caps := []) [0, 1] (by rfl) rfl (by rfl) (argsAs (by kernel_rfl) (by rfl)) (by kernel_rfl) (by decide) (leftX hpan (h.1 hr_14))
 replace h := h.2 r_13 hr_14
 refine WL.callE (tCnt_ok text (pos) (cn) (ct) (cd) (ns) hp r_13 hr_14) en195 (caps := []) [0, 1] hn (by rfl) rfl (by rfl) (argsAs (by kernel_rfl) (by rfl)) (by kernel_rfl) (by decide) (by rfl) (by rfl) (fun _ _ => ⟨by rfl, _, by rfl, ?_⟩)
 refine WL.nil ?_
 refine En.seq ?_
 refine En.region ?_
 refine WL.run ht hn 1 ⟨[sl 0 (.pptr 0 0 (Bk 0)), sl 125 (.ptr 0 0)], [.box [.v (.string text), I (r_13.pos), I (r_13.cn), I (r_13.ct), I (r_13.cd), .own 1] 236 false, rowI 139 TimeNode.ty (r_13.ns)]⟩ (by kernel_rfl) ?_
 have hp := h.1
 replace h := h.2
 refine WL.callE (tAlw_ct text (r_13.pos) (r_13.cn) (r_13.ct) (r_13.cd) (r_13.ns) hp) en244 (caps := []) [0, 1] hn (by rfl) rfl (by rfl) (argsAs (by kernel_rfl) (by rfl)) (by kernel_rfl) (by decide) (by rfl) (by rfl) (fun _ _ => ⟨by rfl, _, by rfl, ?_⟩)
 refine WL.run ht hn 1 ⟨[sl 0 (.pptr 0 0 (Bk 0)), sl 2 (I (((((r_13.ns)) ++ [TimeNode.mk 0 0 0]).length : Int)))], [.box [.v (.string text), I ((r_13.pos)), I ((r_13.cn)), I ((r_13.ct)), I ((r_13.cd)), .own 1] 236 false, rowI 139 TimeNode.ty (((r_13.ns) ++ [TimeNode.mk 0 0 0]) ++ [TimeNode.mk 3 (((r_13.ns)).length : Int) 0])]⟩ (by kernel_rfl) ?_
 refine WL.nil ?_
 refine En.ret ?_
 exact En.backE [0] ht ((((((r_13.ns)) ++ [TimeNode.mk 0 0 0]).length : Int)), ((r_13.pos)), ((r_13.cn)), ((r_13.ct)), ((r_13.cd)), (((r_13.ns) ++ [TimeNode.mk 0 0 0]) ++ [TimeNode.mk 3 (((r_13.ns)).length : Int) 0])) h (by kernel_rfl) (by rfl) rfl
 replace h := h.2 hb
 refine En.skip ?_
 refine En.seq ?_
 refine En.region ?_
 refine WL.run ht hn 1 ⟨[sl 0 (.pptr 0 0 (Bk 0)), sl 127 (.ptr 0 0)], [.box [.v (.string text), I (pos), I (cn), I (ct), I (cd), .own 1] 236 false, rowI 139 TimeNode.ty (ns)]⟩ (by kernel_rfl) ?_
 have hp := h.1
 replace h := h.2
 exact WL.callX (tFail_ct text (pos) (cn) (ct) (cd) (ns) 4 hp) en130 (caps := []) [0, 1] (by rfl) rfl (by rfl) (argsAs (by kernel_rfl) (by rfl)) (by kernel_rfl) (by decide) (leftX hpan h)
theorem tOne_all (k : Nat) (text : ByteArray) (s : TS) (hp : tOk (k + 1) 0 text s) (Q : Int × Int × Int × Int × Int × (List TimeNode) → Prop) (P : Prop) (h1 : pS text (k + 1) 0 s = none → P) (h2 : ∀ r, pS text (k + 1) 0 s = some r → Q (r.1, r.2.pos, r.2.cn, r.2.ct, r.2.cd, r.2.ns)) : tOne_vc k text s.pos s.cn s.ct s.cd s.ns Q P := by
 have hz := hp.1
 have hg : gOk text s := tOk_g hp
 have hk := hp.2.1.2.2
 have e0 : pS text (k + 1) 0 s = oneF (pS text k 0) (pS text k 3) text s := rfl
 rw [e0] at h1
 simp only [e0] at h2
 unfold tOne_vc
 refine ⟨hg.1, fun hb => ?_, fun hb33 => ?_⟩
 ·have c : tch text s.pos = 33 := eq_of_beq hb
  have hlt := tch_lt (text := text) (p := s.pos) (by omega)
  have k1 := fun e => h1 ((oneF_33 c).trans e)
  have k2 := fun r e => h2 r ((oneF_33 c).trans e)
  refine ⟨⟨hz, hg, hlt⟩, fun z => k1 (ob_none z), fun s1 z1 => ?_⟩
  obtain ⟨q1, q2, q3⟩ := Pre1.cnt hg hlt z1
  refine ⟨tOk_of hz q1.ok (by rw [q2]; omega), fun z => k1 ((ob z1).trans (ob_none z)), fun r z2 => ?_⟩
  have G := pS_good k 0 s1 r hz q1.ok z2
  have hl := G.pre.ok.len
  exact ⟨by omega, k2 (noF r.1 r.2) ((ob z1).trans ((ob z2).trans rfl))⟩
 refine ⟨fun hb => ?_, fun hb88 => ?_⟩
 ·have c : tch text s.pos = 88 := eq_of_beq hb
  have hlt := tch_lt (text := text) (p := s.pos) (by omega)
  have k1 := fun e => h1 ((oneF_88 c).trans e)
  have k2 := fun r e => h2 r ((oneF_88 c).trans e)
  refine ⟨⟨hz, hg, hlt⟩, fun z => k1 (ob_none z), fun s1 z1 => ?_⟩
  obtain ⟨q1, q2, q3⟩ := Pre1.cnt hg hlt z1
  refine ⟨tOk_of hz q1.ok (by rw [q2]; omega), fun z => k1 ((ob z1).trans (ob_none z)), fun r z2 => ?_⟩
  have G := pS_good k 0 s1 r hz q1.ok z2
  have hl := G.pre.ok.len
  exact ⟨by omega, k2 (putF ⟨6, r.1, 0⟩ r.2) ((ob z1).trans ((ob z2).trans rfl))⟩
 refine ⟨fun hb => ?_, fun hb70 => ?_⟩
 ·have c : tch text s.pos = 70 := eq_of_beq hb
  have hlt := tch_lt (text := text) (p := s.pos) (by omega)
  have k1 := fun e => h1 ((oneF_70 c).trans e)
  have k2 := fun r e => h2 r ((oneF_70 c).trans e)
  refine ⟨⟨hz, hg, hlt⟩, fun z => k1 (ob_none z), fun s1 z1 => ?_⟩
  obtain ⟨q1, q2, q3⟩ := Pre1.cnt hg hlt z1
  have A := (q1.mono (i := 1 + 1 + 1) (by decide)).alw (by decide) hg
  have hl1 := q1.ok.len
  refine ⟨by omega, tOk_of (s := (alwF s1).2) hz A.ok (by show 4 * ((text.size : Int) - s1.pos) + _ < _; rw [q2]; omega), fun z => k1 ((ob z1).trans (ob_none z)), fun r z2 => ?_⟩
  have G := pS_good k 0 (alwF s1).2 r hz A.ok z2
  have hl := G.pre.ok.len
  exact ⟨by omega, k2 (putF ⟨7, (alwF s1).1, r.1⟩ r.2) ((ob z1).trans ((ob z2).trans rfl))⟩
 refine ⟨fun hb => ?_, fun hb71 => ?_⟩
 ·have c : tch text s.pos = 71 := eq_of_beq hb
  have hlt := tch_lt (text := text) (p := s.pos) (by omega)
  have k1 := fun e => h1 ((oneF_71 c).trans e)
  have k2 := fun r e => h2 r ((oneF_71 c).trans e)
  refine ⟨⟨hz, hg, hlt⟩, fun z => k1 (ob_none z), fun s1 z1 => ?_⟩
  obtain ⟨q1, q2, q3⟩ := Pre1.cnt hg hlt z1
  have A := (q1.mono (i := 3 + 1 + 1) (by decide)).alw (by decide) hg
  have hl1 := q1.ok.len
  refine ⟨by omega, tOk_of (s := (alwF s1).2) hz A.ok (by show 4 * ((text.size : Int) - s1.pos) + _ < _; rw [q2]; omega), fun z => k1 ((ob z1).trans (ob_none z)), fun r z2 => ?_⟩
  have G := pS_good k 0 (alwF s1).2 r hz A.ok z2
  have hl := G.pre.ok.len
  exact ⟨by omega, by simp only [List.length_append, List.length_singleton]; omega, by simp only [List.length_append, List.length_singleton]; omega, k2 (noF (putF ⟨7, (alwF s1).1, (noF r.1 r.2).1⟩ (noF r.1 r.2).2).1 (putF ⟨7, (alwF s1).1, (noF r.1 r.2).1⟩ (noF r.1 r.2).2).2) ((ob z1).trans ((ob z2).trans rfl))⟩
 refine ⟨fun hb => ?_, fun hb40 => ?_⟩
 ·have c : tch text s.pos = 40 := eq_of_beq hb
  have hlt := tch_lt (text := text) (p := s.pos) (by omega)
  have k1 := fun e => h1 ((oneF_40 c).trans e)
  have k2 := fun r e => h2 r ((oneF_40 c).trans e)
  obtain ⟨⟨g0, g1⟩, g2, g3, ⟨g4, g5⟩, g6⟩ := hg
  refine ⟨fun hd => ⟨by decide, k1 (if_pos (eq_of_beq hd))⟩, fun hd => ?_⟩
  have hd : ¬ s.cd = 40 := by simpa using hd
  rw [wr_in (n := s.pos + 1) (by omega) (by omega), wr_in (n := s.cd + 1) (by omega) (by omega)]
  have g' : gOk text ⟨s.pos + 1, s.cn, s.ct, s.cd + 1, s.ns⟩ := ⟨⟨by show 0 ≤ s.pos + 1; omega, by show s.pos + 1 ≤ text.size; omega⟩, g2, g3, ⟨by show 0 ≤ s.cd + 1; omega, by show s.cd + 1 ≤ 40; omega⟩, g6⟩
  refine ⟨tOk_of hz g' (by show 4 * ((text.size : Int) - (s.pos + 1)) + _ < _; omega), fun z => k1 ((if_neg hd).trans (ob_none z)), fun r z2 => ?_⟩
  have G := pS_good k 3 _ r hz g' z2
  obtain ⟨⟨r0, r1⟩, r2, r3, ⟨r4, r5⟩, r6⟩ := G.pre.ok
  refine ⟨⟨r0, r1⟩, fun hb => ⟨by decide, k1 ((if_neg hd).trans ((ob z2).trans (if_neg (bne_iff_ne.1 hb))))⟩, fun hb => ?_⟩
  rw [bne_eq_false_iff_eq] at hb
  have hlt2 := tch_lt (text := text) (p := r.2.pos) (by omega)
  rw [wr_in (n := r.2.pos + 1) (by omega) (by omega), wr_in (n := r.2.cd - 1) (by omega) (by omega)]
  exact k2 (r.1, ⟨r.2.pos + 1, r.2.cn, r.2.ct, r.2.cd - 1, r.2.ns⟩) ((if_neg hd).trans ((ob z2).trans (if_pos hb)))
 refine ⟨fun hb => ?_, fun hb112 => ?_⟩
 ·have c : tch text s.pos = 112 := eq_of_beq hb
  have hlt := tch_lt (text := text) (p := s.pos) (by omega)
  have k1 := fun e => h1 ((oneF_112 c).trans e)
  have k2 := fun r e => h2 r ((oneF_112 c).trans e)
  refine ⟨⟨hz, hg, hlt⟩, fun z => k1 (ob_none z), fun s1 z1 => ?_⟩
  obtain ⟨q1, q2, q3⟩ := Pre1.cnt hg hlt z1
  have hl := q1.ok.len
  exact ⟨by omega, k2 (putF ⟨1, 0, 0⟩ s1) ((ob z1).trans rfl)⟩
 refine ⟨fun hb => ?_, fun hb113 => ?_⟩
 ·have c : tch text s.pos = 113 := eq_of_beq hb
  have hlt := tch_lt (text := text) (p := s.pos) (by omega)
  have k1 := fun e => h1 ((oneF_113 c).trans e)
  have k2 := fun r e => h2 r ((oneF_113 c).trans e)
  refine ⟨⟨hz, hg, hlt⟩, fun z => k1 (ob_none z), fun s1 z1 => ?_⟩
  obtain ⟨q1, q2, q3⟩ := Pre1.cnt hg hlt z1
  have hl := q1.ok.len
  exact ⟨by omega, k2 (putF ⟨2, 0, 0⟩ s1) ((ob z1).trans rfl)⟩
 refine ⟨fun hb => ?_, fun hb48 => ?_⟩
 ·have c : tch text s.pos = 48 := eq_of_beq hb
  have hlt := tch_lt (text := text) (p := s.pos) (by omega)
  have k1 := fun e => h1 ((oneF_48 c).trans e)
  have k2 := fun r e => h2 r ((oneF_48 c).trans e)
  refine ⟨⟨hz, hg, hlt⟩, fun z => k1 (ob_none z), fun s1 z1 => ?_⟩
  obtain ⟨q1, q2, q3⟩ := Pre1.cnt hg hlt z1
  have hl := q1.ok.len
  exact ⟨by omega, k2 (putF ⟨0, 0, 0⟩ s1) ((ob z1).trans rfl)⟩
 refine ⟨fun hb => ?_, fun hb49 => ?_⟩
 ·have c : tch text s.pos = 49 := eq_of_beq hb
  have hlt := tch_lt (text := text) (p := s.pos) (by omega)
  have k1 := fun e => h1 ((oneF_49 c).trans e)
  have k2 := fun r e => h2 r ((oneF_49 c).trans e)
  refine ⟨⟨hz, hg, hlt⟩, fun z => k1 (ob_none z), fun s1 z1 => ?_⟩
  obtain ⟨q1, q2, q3⟩ := Pre1.cnt hg hlt z1
  have hl := q1.ok.len
  exact ⟨by omega, k2 (alwF s1) ((ob z1).trans rfl)⟩
 exact ⟨by decide, h1 (oneF_no (by simpa using hb33) (by simpa using hb88) (by simpa using hb70) (by simpa using hb71) (by simpa using hb40) (by simpa using hb112) (by simpa using hb113) (by simpa using hb48) (by simpa using hb49))⟩
theorem tOne_ok (k : Nat) (ih : TC k) (text : ByteArray) (pos cn ct cd : Int) (ns : List TimeNode) (hp : tOk (k + 1) 0 text ⟨pos, cn, ct, cd, ns⟩) (r : Int × TS) (hx : pS text (k + 1) 0 ⟨pos, cn, ct, cd, ns⟩ = some r) : CtE 231 [.sv (.one (.ptr 0 0))] [.box [.v (.string text), I pos, I cn, I ct, I cd, .own 1] 236 false, rowI 139 TimeNode.ty ns] [0] (fun (_ : Unit) => True) (fun _ => .sv (.one (I r.1))) (fun _ => [.box [.v (.string text), I r.2.pos, I r.2.cn, I r.2.ct, I r.2.cd, .own 1] 236 false, rowI 139 TimeNode.ty r.2.ns]) :=
 (tOne_walk k text pos cn ct cd ns ih (fun x => x = (r.1, r.2.pos, r.2.cn, r.2.ct, r.2.cd, r.2.ns)) False (tOne_all k text ⟨pos, cn, ct, cd, ns⟩ hp _ _ (fun e => by rw [hx] at e; cases e) (fun y e => by rw [hx] at e; cases e; rfl))).toE fun x hx => ⟨(), trivial, by subst hx; rfl, by subst hx; rfl⟩
theorem tOne_bad (k : Nat) (ih : TC k) (text : ByteArray) (pos cn ct cd : Int) (ns : List TimeNode) (hp : tOk (k + 1) 0 text ⟨pos, cn, ct, cd, ns⟩) (hx : pS text (k + 1) 0 ⟨pos, cn, ct, cd, ns⟩ = none) : CtX 231 [.sv (.one (.ptr 0 0))] [.box [.v (.string text), I pos, I cn, I ct, I cd, .own 1] 236 false, rowI 139 TimeNode.ty ns] (psStop 233) :=
 (tOne_walk k text pos cn ct cd ns ih (fun _ => False) True (tOne_all k text ⟨pos, cn, ct, cd, ns⟩ hp _ _ (fun _ => trivial) (fun y e => by rw [hx] at e; cases e))).toX
def tPrt_vc (k : Nat) (text : ByteArray) (pos : Int) (cn : Int) (ct : Int) (cd : Int) (ns : (List TimeNode)) (Q : Int × Int × Int × Int × Int × (List TimeNode) → Prop) (P : Prop) : Prop :=
 (tOk k 0 text ⟨pos, cn, ct, cd, ns⟩) ∧
 ((pS text k 0 ⟨pos, cn, ct, cd, ns⟩) = none → P) ∧ ∀ r, (pS text k 0 ⟨pos, cn, ct, cd, ns⟩) = some r →
 (∃ J : Int → Int → Int → Int → Int → (List TimeNode) → Prop, ((0 ≤ (r.2.pos) ∧ (r.2.pos) ≤ text.size) ∧
 IfP ((tch text (r.2.pos)) == 85) ((text.size ≤ 4000 ∧ gOk text ⟨((r.2.pos)), ((r.2.cn)), ((r.2.ct)), ((r.2.cd)), ((r.2.ns))⟩ ∧ ((r.2.pos)) < text.size) ∧
 ((cntF text ⟨((r.2.pos)), ((r.2.cn)), ((r.2.ct)), ((r.2.cd)), ((r.2.ns))⟩) = none → P) ∧ ∀ r_2, (cntF text ⟨((r.2.pos)), ((r.2.cn)), ((r.2.ct)), ((r.2.cd)), ((r.2.ns))⟩) = some r_2 →
 ((tOk k 1 text ⟨(r_2.pos), (r_2.cn), (r_2.ct), (r_2.cd), (r_2.ns)⟩) ∧
 ((pS text k 1 ⟨(r_2.pos), (r_2.cn), (r_2.ct), (r_2.cd), (r_2.ns)⟩) = none → P) ∧ ∀ r_3, (pS text k 1 ⟨(r_2.pos), (r_2.cn), (r_2.ct), (r_2.cd), (r_2.ns)⟩) = some r_3 →
 ((((r_3.2.ns)).length ≤ 1000000) ∧
 J ((((r_3.2.ns)).length : Int)) ((r_3.2.pos)) ((r_3.2.cn)) ((r_3.2.ct)) ((r_3.2.cd)) ((r_3.2.ns) ++ [(TimeNode.mk 7 (r.1) (r_3.1))])))) (IfP ((tch text (r.2.pos)) == 82) ((text.size ≤ 4000 ∧ gOk text ⟨((r.2.pos)), ((r.2.cn)), ((r.2.ct)), ((r.2.cd)), ((r.2.ns))⟩ ∧ ((r.2.pos)) < text.size) ∧
 ((cntF text ⟨((r.2.pos)), ((r.2.cn)), ((r.2.ct)), ((r.2.cd)), ((r.2.ns))⟩) = none → P) ∧ ∀ r_4, (cntF text ⟨((r.2.pos)), ((r.2.cn)), ((r.2.ct)), ((r.2.cd)), ((r.2.ns))⟩) = some r_4 →
 ((((r_4.ns)).length ≤ 1000000) ∧
 (tOk k 1 text ⟨((r_4.pos)), ((r_4.cn)), ((r_4.ct)), ((r_4.cd)), ((r_4.ns) ++ [(TimeNode.mk 3 (r.1) 0)])⟩) ∧
 ((pS text k 1 ⟨((r_4.pos)), ((r_4.cn)), ((r_4.ct)), ((r_4.cd)), ((r_4.ns) ++ [(TimeNode.mk 3 (r.1) 0)])⟩) = none → P) ∧ ∀ r_5, (pS text k 1 ⟨((r_4.pos)), ((r_4.cn)), ((r_4.ct)), ((r_4.cd)), ((r_4.ns) ++ [(TimeNode.mk 3 (r.1) 0)])⟩) = some r_5 →
 ((((r_5.2.ns)).length ≤ 1000000) ∧
 ((((r_5.2.ns) ++ [(TimeNode.mk 3 (r_5.1) 0)])).length ≤ 1000000) ∧
 (((((r_5.2.ns) ++ [(TimeNode.mk 3 (r_5.1) 0)]) ++ [(TimeNode.mk 7 ((((r_4.ns)).length : Int)) ((((r_5.2.ns)).length : Int)))])).length ≤ 1000000) ∧
 J ((((((r_5.2.ns) ++ [(TimeNode.mk 3 (r_5.1) 0)]) ++ [(TimeNode.mk 7 ((((r_4.ns)).length : Int)) ((((r_5.2.ns)).length : Int)))])).length : Int)) ((((r_5.2.pos)))) ((((r_5.2.cn)))) ((((r_5.2.ct)))) ((((r_5.2.cd)))) ((((r_5.2.ns) ++ [(TimeNode.mk 3 (r_5.1) 0)]) ++ [(TimeNode.mk 7 ((((r_4.ns)).length : Int)) ((((r_5.2.ns)).length : Int)))]) ++ [(TimeNode.mk 3 (((((r_5.2.ns) ++ [(TimeNode.mk 3 (r_5.1) 0)])).length : Int)) 0)])))) (J (r.1) ((r.2.pos)) ((r.2.cn)) ((r.2.ct)) ((r.2.cd)) ((r.2.ns))))) ∧
 (∀ (x3 : Int) (y01 : Int) (y02 : Int) (y03 : Int) (y04 : Int) (l1 : (List TimeNode)), J x3 y01 y02 y03 y04 l1 → Q (x3, y01, y02, y03, y04, l1)))
theorem tPrt_walk (k : Nat) (text : ByteArray) (pos : Int) (cn : Int) (ct : Int) (cd : Int) (ns : (List TimeNode)) (ih : TC k) (Q : Int × Int × Int × Int × Int × (List TimeNode) → Prop) (P : Prop) (h : tPrt_vc k text pos cn ct cd ns Q P) : CtP 224 [.sv (.one (.ptr 0 0))] [.box [.v (.string text), I pos, I cn, I ct, I cd, .own 1] 236 false, rowI 139 TimeNode.ty ns] [0] Q (fun (r : Int × Int × Int × Int × Int × (List TimeNode)) => .sv (.one (I r.1))) (fun (r : Int × Int × Int × Int × Int × (List TimeNode)) => [.box [.v (.string text), I r.2.1, I r.2.2.1, I r.2.2.2.1, I r.2.2.2.2.1, .own 1] 236 false, rowI 139 TimeNode.ty r.2.2.2.2.2]) (psStop 233) P := by
 have ht := tab_ok
 refine CtP.body Try.func224 rfl rfl rfl (by kernel_rfl) (by kernel_rfl) (fun c Bk hn hpan => ?_)
 unfold tPrt_vc at h
 show En c ⟨[sl 0 (.pptr 0 0 (Bk 0))], [.box [.v (.string text), I pos, I cn, I ct, I cd, .own 1] 236 false, rowI 139 TimeNode.ty ns]⟩ _
 refine En.seq ?_
 refine En.region ?_
 refine WL.run ht hn 1 ⟨[sl 0 (.pptr 0 0 (Bk 0))], [.box [.v (.string text), I pos, I cn, I ct, I cd, .own 1] 236 false, rowI 139 TimeNode.ty ns]⟩ (by kernel_rfl) ?_
 refine WL.nil ?_
 refine En.seq ?_
 refine En.region ?_
 refine WL.run ht hn 1 ⟨[sl 0 (.pptr 0 0 (Bk 0)), sl 6 (.ptr 0 0)], [.box [.v (.string text), I pos, I cn, I ct, I cd, .own 1] 236 false, rowI 139 TimeNode.ty ns]⟩ (by kernel_rfl) ?_
 have hp := h.1
 replace h := h.2
 refine splitO ((pS text k 0 ⟨pos, cn, ct, cd, ns⟩)) (fun hr_2 => ?_) (fun r hr_2 => ?_)
 exact WL.callX (tI0_bad k ih text pos cn ct cd ns hp hr_2) en231 (caps := []) [0, 1] (by rfl) rfl (by rfl) (argsAs (by kernel_rfl) (by rfl)) (by kernel_rfl) (by decide) (leftX hpan (h.1 hr_2))
 replace h := h.2 r hr_2
 refine WL.callE (tI0_ok k ih text pos cn ct cd ns hp r hr_2) en231 (caps := []) [0, 1] hn (by rfl) rfl (by rfl) (argsAs (by kernel_rfl) (by rfl)) (by kernel_rfl) (by decide) (by rfl) (by rfl) (fun _ _ => ⟨by rfl, _, by rfl, ?_⟩)
 refine WL.run ht hn 1 ⟨[sl 0 (.pptr 0 0 (Bk 0)), sl 3 (I (r.1))], [.box [.v (.string text), I (r.2.pos), I (r.2.cn), I (r.2.ct), I (r.2.cd), .own 1] 236 false, rowI 139 TimeNode.ty (r.2.ns)]⟩ (by kernel_rfl) ?_
 refine WL.nil ?_
 obtain ⟨J, h, hJ⟩ := h
 refine En.seqJ (σ := Int × Int × Int × Int × Int × (List TimeNode)) (fun zz => J zz.1 zz.2.1 zz.2.2.1 zz.2.2.2.1 zz.2.2.2.2.1 zz.2.2.2.2.2) (fun zz => ⟨[sl 0 (.pptr 0 0 (Bk 0)), sl 3 (I zz.1)], [.box [.v (.string text), I zz.2.1, I zz.2.2.1, I zz.2.2.2.1, I zz.2.2.2.2.1, .own 1] 236 false, rowI 139 TimeNode.ty zz.2.2.2.2.2]⟩) ?_ ?_
 refine En.seq ?_
 refine En.region ?_
 refine WL.run ht hn 1 ⟨[sl 0 (.pptr 0 0 (Bk 0)), sl 3 (I (r.1)), sl 8 (.ptr 0 0)], [.box [.v (.string text), I (r.2.pos), I (r.2.cn), I (r.2.ct), I (r.2.cd), .own 1] 236 false, rowI 139 TimeNode.ty (r.2.ns)]⟩ (by kernel_rfl) ?_
 have hp := h.1
 replace h := h.2
 refine WL.callE (tNow_ct text (r.2.pos) (r.2.cn) (r.2.ct) (r.2.cd) (r.2.ns) hp) en194 (caps := []) [0, 1] hn (by rfl) rfl (by rfl) (argsAs (by kernel_rfl) (by rfl)) (by kernel_rfl) (by decide) (by rfl) (by rfl) (fun _ _ => ⟨by rfl, _, by rfl, ?_⟩)
 refine WL.nil ?_
 refine En.block ?_
 refine En.seq ?_
 refine En.region ?_
 refine WL.run ht hn 2 ⟨[sl 0 (.pptr 0 0 (Bk 0)), sl 3 (I (r.1)), sl 9 (.v (.int .u8 (tch text (r.2.pos)))), sl 10 (B ((tch text (r.2.pos)) == 85))], [.box [.v (.string text), I ((r.2.pos)), I ((r.2.cn)), I ((r.2.ct)), I ((r.2.cd)), .own 1] 236 false, rowI 139 TimeNode.ty ((r.2.ns))]⟩ (by kernel_rfl) ?_
 refine WL.nil ?_
 refine En.cond (b := ((tch text (r.2.pos)) == 85)) (by kernel_rfl) (fun hb => ?_) (fun hb => ?_)
 replace h := h.1 hb
 refine En.seq ?_
 refine En.region ?_
 refine WL.run ht hn 1 ⟨[sl 0 (.pptr 0 0 (Bk 0)), sl 3 (I (r.1)), sl 12 (.ptr 0 0)], [.box [.v (.string text), I ((r.2.pos)), I ((r.2.cn)), I ((r.2.ct)), I ((r.2.cd)), .own 1] 236 false, rowI 139 TimeNode.ty ((r.2.ns))]⟩ (by kernel_rfl) ?_
 have hp := h.1
 replace h := h.2
 refine splitO ((cntF text ⟨((r.2.pos)), ((r.2.cn)), ((r.2.ct)), ((r.2.cd)), ((r.2.ns))⟩)) (fun hr_3 => ?_) (fun r_2 hr_3 => ?_)
 exact WL.callX (tCnt_bad text ((r.2.pos)) ((r.2.cn)) ((r.2.ct)) ((r.2.cd)) ((r.2.ns)) hp hr_3) en195 (caps := []) [0, 1] (by rfl) rfl (by rfl) (argsAs (by kernel_rfl) (by rfl)) (by kernel_rfl) (by decide) (leftX hpan (h.1 hr_3))
 replace h := h.2 r_2 hr_3
 refine WL.callE (tCnt_ok text ((r.2.pos)) ((r.2.cn)) ((r.2.ct)) ((r.2.cd)) ((r.2.ns)) hp r_2 hr_3) en195 (caps := []) [0, 1] hn (by rfl) rfl (by rfl) (argsAs (by kernel_rfl) (by rfl)) (by kernel_rfl) (by decide) (by rfl) (by rfl) (fun _ _ => ⟨by rfl, _, by rfl, ?_⟩)
 refine WL.nil ?_
 refine En.region ?_
 refine WL.run ht hn 3 ⟨[sl 0 (.pptr 0 0 (Bk 0)), sl 14 (.ptr 0 0), sl 15 (I (r.1)), sl 16 (.ptr 0 0)], [.box [.v (.string text), I (r_2.pos), I (r_2.cn), I (r_2.ct), I (r_2.cd), .own 1] 236 false, rowI 139 TimeNode.ty (r_2.ns)]⟩ (by kernel_rfl) ?_
 have hp := h.1
 replace h := h.2
 refine splitO ((pS text k 1 ⟨(r_2.pos), (r_2.cn), (r_2.ct), (r_2.cd), (r_2.ns)⟩)) (fun hr_4 => ?_) (fun r_3 hr_4 => ?_)
 exact WL.callX (tI1_bad k ih text (r_2.pos) (r_2.cn) (r_2.ct) (r_2.cd) (r_2.ns) hp hr_4) en224 (caps := []) [0, 1] (by rfl) rfl (by rfl) (argsAs (by kernel_rfl) (by rfl)) (by kernel_rfl) (by decide) (leftX hpan (h.1 hr_4))
 replace h := h.2 r_3 hr_4
 refine WL.callE (tI1_ok k ih text (r_2.pos) (r_2.cn) (r_2.ct) (r_2.cd) (r_2.ns) hp r_3 hr_4) en224 (caps := []) [0, 1] hn (by rfl) rfl (by rfl) (argsAs (by kernel_rfl) (by rfl)) (by kernel_rfl) (by decide) (by rfl) (by rfl) (fun _ _ => ⟨by rfl, _, by rfl, ?_⟩)
 refine WL.run ht hn 1 ⟨[sl 0 (.pptr 0 0 (Bk 0)), sl 14 (.ptr 0 0), (18, .sv (.agg [I 7, I (r.1), I (r_3.1)]))], [.box [.v (.string text), I (r_3.2.pos), I (r_3.2.cn), I (r_3.2.ct), I (r_3.2.cd), .own 1] 236 false, rowI 139 TimeNode.ty (r_3.2.ns)]⟩ (by kernel_rfl) ?_
 have hp := h.1
 replace h := h.2
 refine WL.callE (tPut_ct text (r_3.2.pos) (r_3.2.cn) (r_3.2.ct) (r_3.2.cd) (r_3.2.ns) (TimeNode.mk 7 (r.1) (r_3.1)) hp) en196 (caps := []) [0, 1] hn (by rfl) rfl (by rfl) (argsAs (by kernel_rfl) (by rfl)) (by kernel_rfl) (by decide) (by rfl) (by rfl) (fun _ _ => ⟨by rfl, _, by rfl, ?_⟩)
 refine WL.run ht hn 1 ⟨[sl 0 (.pptr 0 0 (Bk 0)), sl 3 (I ((((r_3.2.ns)).length : Int)))], [.box [.v (.string text), I ((r_3.2.pos)), I ((r_3.2.cn)), I ((r_3.2.ct)), I ((r_3.2.cd)), .own 1] 236 false, rowI 139 TimeNode.ty ((r_3.2.ns) ++ [(TimeNode.mk 7 (r.1) (r_3.1))])]⟩ (by kernel_rfl) ?_
 refine WL.nil ?_
 exact En.at (I := fun zz => J zz.1 zz.2.1 zz.2.2.1 zz.2.2.2.1 zz.2.2.2.2.1 zz.2.2.2.2.2) (T := fun zz => ⟨[sl 0 (.pptr 0 0 (Bk 0)), sl 3 (I zz.1)], [.box [.v (.string text), I zz.2.1, I zz.2.2.1, I zz.2.2.2.1, I zz.2.2.2.2.1, .own 1] 236 false, rowI 139 TimeNode.ty zz.2.2.2.2.2]⟩) (((((r_3.2.ns)).length : Int)), ((r_3.2.pos)), ((r_3.2.cn)), ((r_3.2.ct)), ((r_3.2.cd)), ((r_3.2.ns) ++ [(TimeNode.mk 7 (r.1) (r_3.1))])) h (by kernel_rfl)
 replace h := h.2 hb
 refine En.seq ?_
 refine En.region ?_
 refine WL.run ht hn 2 ⟨[sl 0 (.pptr 0 0 (Bk 0)), sl 3 (I (r.1)), sl 20 (B ((tch text (r.2.pos)) == 82))], [.box [.v (.string text), I ((r.2.pos)), I ((r.2.cn)), I ((r.2.ct)), I ((r.2.cd)), .own 1] 236 false, rowI 139 TimeNode.ty ((r.2.ns))]⟩ (by kernel_rfl) ?_
 refine WL.nil ?_
 refine En.cond (b := ((tch text (r.2.pos)) == 82)) (by kernel_rfl) (fun hb => ?_) (fun hb => ?_)
 replace h := h.1 hb
 refine En.seq ?_
 refine En.region ?_
 refine WL.run ht hn 1 ⟨[sl 0 (.pptr 0 0 (Bk 0)), sl 3 (I (r.1)), sl 22 (.ptr 0 0)], [.box [.v (.string text), I ((r.2.pos)), I ((r.2.cn)), I ((r.2.ct)), I ((r.2.cd)), .own 1] 236 false, rowI 139 TimeNode.ty ((r.2.ns))]⟩ (by kernel_rfl) ?_
 have hp := h.1
 replace h := h.2
 refine splitO ((cntF text ⟨((r.2.pos)), ((r.2.cn)), ((r.2.ct)), ((r.2.cd)), ((r.2.ns))⟩)) (fun hr_5 => ?_) (fun r_4 hr_5 => ?_)
 exact WL.callX (tCnt_bad text ((r.2.pos)) ((r.2.cn)) ((r.2.ct)) ((r.2.cd)) ((r.2.ns)) hp hr_5) en195 (caps := []) [0, 1] (by rfl) rfl (by rfl) (argsAs (by kernel_rfl) (by rfl)) (by kernel_rfl) (by decide) (leftX hpan (h.1 hr_5))
 replace h := h.2 r_4 hr_5
 refine WL.callE (tCnt_ok text ((r.2.pos)) ((r.2.cn)) ((r.2.ct)) ((r.2.cd)) ((r.2.ns)) hp r_4 hr_5) en195 (caps := []) [0, 1] hn (by rfl) rfl (by rfl) (argsAs (by kernel_rfl) (by rfl)) (by kernel_rfl) (by decide) (by rfl) (by rfl) (fun _ _ => ⟨by rfl, _, by rfl, ?_⟩)
 refine WL.nil ?_
 refine En.seq ?_
 refine En.region ?_
 refine WL.run ht hn 2 ⟨[sl 0 (.pptr 0 0 (Bk 0)), sl 24 (.ptr 0 0), sl 25 (I (r.1))], [.box [.v (.string text), I (r_4.pos), I (r_4.cn), I (r_4.ct), I (r_4.cd), .own 1] 236 false, rowI 139 TimeNode.ty (r_4.ns)]⟩ (by kernel_rfl) ?_
 have hp := h.1
 replace h := h.2
 refine WL.callE (tNo_ct text (r_4.pos) (r_4.cn) (r_4.ct) (r_4.cd) (r_4.ns) (r.1) hp) en232 (caps := []) [0, 1] hn (by rfl) rfl (by rfl) (argsAs (by kernel_rfl) (by rfl)) (by kernel_rfl) (by decide) (by rfl) (by rfl) (fun _ _ => ⟨by rfl, _, by rfl, ?_⟩)
 refine WL.run ht hn 1 ⟨[sl 0 (.pptr 0 0 (Bk 0)), sl 4 (I ((((r_4.ns)).length : Int)))], [.box [.v (.string text), I ((r_4.pos)), I ((r_4.cn)), I ((r_4.ct)), I ((r_4.cd)), .own 1] 236 false, rowI 139 TimeNode.ty ((r_4.ns) ++ [(TimeNode.mk 3 (r.1) 0)])]⟩ (by kernel_rfl) ?_
 refine WL.nil ?_
 refine En.seq ?_
 refine En.region ?_
 refine WL.run ht hn 2 ⟨[sl 0 (.pptr 0 0 (Bk 0)), sl 4 (I ((((r_4.ns)).length : Int))), sl 27 (.ptr 0 0), sl 28 (.ptr 0 0)], [.box [.v (.string text), I ((r_4.pos)), I ((r_4.cn)), I ((r_4.ct)), I ((r_4.cd)), .own 1] 236 false, rowI 139 TimeNode.ty ((r_4.ns) ++ [(TimeNode.mk 3 (r.1) 0)])]⟩ (by kernel_rfl) ?_
 have hp := h.1
 replace h := h.2
 refine splitO ((pS text k 1 ⟨((r_4.pos)), ((r_4.cn)), ((r_4.ct)), ((r_4.cd)), ((r_4.ns) ++ [(TimeNode.mk 3 (r.1) 0)])⟩)) (fun hr_6 => ?_) (fun r_5 hr_6 => ?_)
 exact WL.callX (tI1_bad k ih text ((r_4.pos)) ((r_4.cn)) ((r_4.ct)) ((r_4.cd)) ((r_4.ns) ++ [(TimeNode.mk 3 (r.1) 0)]) hp hr_6) en224 (caps := []) [0, 1] (by rfl) rfl (by rfl) (argsAs (by kernel_rfl) (by rfl)) (by kernel_rfl) (by decide) (leftX hpan (h.1 hr_6))
 replace h := h.2 r_5 hr_6
 refine WL.callE (tI1_ok k ih text ((r_4.pos)) ((r_4.cn)) ((r_4.ct)) ((r_4.cd)) ((r_4.ns) ++ [(TimeNode.mk 3 (r.1) 0)]) hp r_5 hr_6) en224 (caps := []) [0, 1] hn (by rfl) rfl (by rfl) (argsAs (by kernel_rfl) (by rfl)) (by kernel_rfl) (by decide) (by rfl) (by rfl) (fun _ _ => ⟨by rfl, _, by rfl, ?_⟩)
 have hp := h.1
 replace h := h.2
 refine WL.callE (tNo_ct text (r_5.2.pos) (r_5.2.cn) (r_5.2.ct) (r_5.2.cd) (r_5.2.ns) (r_5.1) hp) en232 (caps := []) [0, 1] hn (by rfl) rfl (by rfl) (argsAs (by kernel_rfl) (by rfl)) (by kernel_rfl) (by decide) (by rfl) (by rfl) (fun _ _ => ⟨by rfl, _, by rfl, ?_⟩)
 refine WL.run ht hn 1 ⟨[sl 0 (.pptr 0 0 (Bk 0)), sl 4 (I ((((r_4.ns)).length : Int))), sl 5 (I ((((r_5.2.ns)).length : Int)))], [.box [.v (.string text), I ((r_5.2.pos)), I ((r_5.2.cn)), I ((r_5.2.ct)), I ((r_5.2.cd)), .own 1] 236 false, rowI 139 TimeNode.ty ((r_5.2.ns) ++ [(TimeNode.mk 3 (r_5.1) 0)])]⟩ (by kernel_rfl) ?_
 refine WL.nil ?_
 refine En.region ?_
 refine WL.run ht hn 5 ⟨[sl 0 (.pptr 0 0 (Bk 0)), sl 31 (.ptr 0 0), sl 32 (.ptr 0 0), (35, .sv (.agg [I 7, I ((((r_4.ns)).length : Int)), I ((((r_5.2.ns)).length : Int))]))], [.box [.v (.string text), I ((r_5.2.pos)), I ((r_5.2.cn)), I ((r_5.2.ct)), I ((r_5.2.cd)), .own 1] 236 false, rowI 139 TimeNode.ty ((r_5.2.ns) ++ [(TimeNode.mk 3 (r_5.1) 0)])]⟩ (by kernel_rfl) ?_
 have hp := h.1
 replace h := h.2
 refine WL.callE (tPut_ct text ((r_5.2.pos)) ((r_5.2.cn)) ((r_5.2.ct)) ((r_5.2.cd)) ((r_5.2.ns) ++ [(TimeNode.mk 3 (r_5.1) 0)]) (TimeNode.mk 7 ((((r_4.ns)).length : Int)) ((((r_5.2.ns)).length : Int))) hp) en196 (caps := []) [0, 1] hn (by rfl) rfl (by rfl) (argsAs (by kernel_rfl) (by rfl)) (by kernel_rfl) (by decide) (by rfl) (by rfl) (fun _ _ => ⟨by rfl, _, by rfl, ?_⟩)
 have hp := h.1
 replace h := h.2
 refine WL.callE (tNo_ct text (((r_5.2.pos))) (((r_5.2.cn))) (((r_5.2.ct))) (((r_5.2.cd))) (((r_5.2.ns) ++ [(TimeNode.mk 3 (r_5.1) 0)]) ++ [(TimeNode.mk 7 ((((r_4.ns)).length : Int)) ((((r_5.2.ns)).length : Int)))]) (((((r_5.2.ns) ++ [(TimeNode.mk 3 (r_5.1) 0)])).length : Int)) hp) en232 (caps := []) [0, 1] hn (by rfl) rfl (by rfl) (argsAs (by kernel_rfl) (by rfl)) (by kernel_rfl) (by decide) (by rfl) (by rfl) (fun _ _ => ⟨by rfl, _, by rfl, ?_⟩)
 refine WL.run ht hn 1 ⟨[sl 0 (.pptr 0 0 (Bk 0)), sl 3 (I ((((((r_5.2.ns) ++ [(TimeNode.mk 3 (r_5.1) 0)]) ++ [(TimeNode.mk 7 ((((r_4.ns)).length : Int)) ((((r_5.2.ns)).length : Int)))])).length : Int)))], [.box [.v (.string text), I ((((r_5.2.pos)))), I ((((r_5.2.cn)))), I ((((r_5.2.ct)))), I ((((r_5.2.cd)))), .own 1] 236 false, rowI 139 TimeNode.ty ((((r_5.2.ns) ++ [(TimeNode.mk 3 (r_5.1) 0)]) ++ [(TimeNode.mk 7 ((((r_4.ns)).length : Int)) ((((r_5.2.ns)).length : Int)))]) ++ [(TimeNode.mk 3 (((((r_5.2.ns) ++ [(TimeNode.mk 3 (r_5.1) 0)])).length : Int)) 0)])]⟩ (by kernel_rfl) ?_
 refine WL.nil ?_
 exact En.at (I := fun zz => J zz.1 zz.2.1 zz.2.2.1 zz.2.2.2.1 zz.2.2.2.2.1 zz.2.2.2.2.2) (T := fun zz => ⟨[sl 0 (.pptr 0 0 (Bk 0)), sl 3 (I zz.1)], [.box [.v (.string text), I zz.2.1, I zz.2.2.1, I zz.2.2.2.1, I zz.2.2.2.2.1, .own 1] 236 false, rowI 139 TimeNode.ty zz.2.2.2.2.2]⟩) (((((((r_5.2.ns) ++ [(TimeNode.mk 3 (r_5.1) 0)]) ++ [(TimeNode.mk 7 ((((r_4.ns)).length : Int)) ((((r_5.2.ns)).length : Int)))])).length : Int)), ((((r_5.2.pos)))), ((((r_5.2.cn)))), ((((r_5.2.ct)))), ((((r_5.2.cd)))), ((((r_5.2.ns) ++ [(TimeNode.mk 3 (r_5.1) 0)]) ++ [(TimeNode.mk 7 ((((r_4.ns)).length : Int)) ((((r_5.2.ns)).length : Int)))]) ++ [(TimeNode.mk 3 (((((r_5.2.ns) ++ [(TimeNode.mk 3 (r_5.1) 0)])).length : Int)) 0)])) h (by kernel_rfl)
 replace h := h.2 hb
 refine En.skip ?_
 exact En.at (I := fun zz => J zz.1 zz.2.1 zz.2.2.1 zz.2.2.2.1 zz.2.2.2.2.1 zz.2.2.2.2.2) (T := fun zz => ⟨[sl 0 (.pptr 0 0 (Bk 0)), sl 3 (I zz.1)], [.box [.v (.string text), I zz.2.1, I zz.2.2.1, I zz.2.2.2.1, I zz.2.2.2.2.1, .own 1] 236 false, rowI 139 TimeNode.ty zz.2.2.2.2.2]⟩) ((r.1), ((r.2.pos)), ((r.2.cn)), ((r.2.ct)), ((r.2.cd)), ((r.2.ns))) h (by kernel_rfl)
 rintro ⟨x3, y01, y02, y03, y04, l1⟩ h
 replace h := hJ _ _ _ _ _ _ h
 show En c ⟨[sl 0 (.pptr 0 0 (Bk 0)), sl 3 (I x3)], [.box [.v (.string text), I y01, I y02, I y03, I y04, .own 1] 236 false, rowI 139 TimeNode.ty l1]⟩ _
 refine En.seq ?_
 refine En.region ?_
 refine WL.run ht hn 2 ⟨[sl 0 (.pptr 0 0 (Bk 0)), sl 2 (I x3)], [.box [.v (.string text), I y01, I y02, I y03, I y04, .own 1] 236 false, rowI 139 TimeNode.ty l1]⟩ (by kernel_rfl) ?_
 refine WL.nil ?_
 refine En.ret ?_
 exact En.backE [0] ht (x3, y01, y02, y03, y04, l1) h (by kernel_rfl) (by rfl) rfl
theorem tPrt_all (k : Nat) (text : ByteArray) (s : TS) (hp : tOk (k + 1) 1 text s) (Q : Int × Int × Int × Int × Int × (List TimeNode) → Prop) (P : Prop) (h1 : pS text (k + 1) 1 s = none → P) (h2 : ∀ r, pS text (k + 1) 1 s = some r → Q (r.1, r.2.pos, r.2.cn, r.2.ct, r.2.cd, r.2.ns)) : tPrt_vc k text s.pos s.cn s.ct s.cd s.ns Q P := by
 have hz := hp.1
 have hg : gOk text s := tOk_g hp
 have hk := hp.2.1.2.2
 have e0 : pS text (k + 1) 1 s = prtF (pS text k 0) (pS text k 1) text s := rfl
 unfold tPrt_vc
 refine ⟨tOk_of (s := s) hz hg (by omega), fun z => h1 (e0.trans (ob_none z)), fun r z0 => ?_⟩
 have G0 := pS_good k 0 s r hz hg z0
 have k1 := fun e => h1 (e0.trans ((ob z0).trans e))
 have k2 := fun x e => h2 x (e0.trans ((ob z0).trans e))
 have hpos := G0.pre.pos
 refine ⟨fun n p a b d l => Q (n, p, a, b, d, l), ⟨G0.pre.ok.1, fun hb => ?_, fun hb => ⟨fun hb2 => ?_, fun hb2 => ?_⟩⟩, fun _ _ _ _ _ _ h => h⟩
 ·have c : tch text r.2.pos = 85 := eq_of_beq hb
  have hlt := tch_lt (text := text) (p := r.2.pos) (by omega)
  refine ⟨⟨hz, G0.pre.ok, hlt⟩, fun z => k1 ((if_pos c).trans (ob_none z)), fun s1 z1 => ?_⟩
  obtain ⟨q1, q2, q3⟩ := Pre1.cnt G0.pre.ok hlt z1
  refine ⟨tOk_of hz q1.ok (by rw [q2]; omega), fun z => k1 ((if_pos c).trans ((ob z1).trans (ob_none z))), fun y z2 => ?_⟩
  have G := pS_good k 1 s1 y hz q1.ok z2
  have hl := G.pre.ok.len
  exact ⟨by omega, k2 (putF ⟨7, r.1, y.1⟩ y.2) ((if_pos c).trans ((ob z1).trans ((ob z2).trans rfl)))⟩
 ·have n85 : ¬ tch text r.2.pos = 85 := by simpa using hb
  have c : tch text r.2.pos = 82 := eq_of_beq hb2
  have hlt := tch_lt (text := text) (p := r.2.pos) (by omega)
  refine ⟨⟨hz, G0.pre.ok, hlt⟩, fun z => k1 ((if_neg n85).trans ((if_pos c).trans (ob_none z))), fun s1 z1 => ?_⟩
  obtain ⟨q1, q2, q3⟩ := Pre1.cnt G0.pre.ok hlt z1
  have B := (q1.mono (i := 3 + 1) (by decide)).put ⟨3, r.1, 0⟩ (by decide) G0.pre.ok
  have hl1 := q1.ok.len
  refine ⟨by omega, tOk_of (s := (noF r.1 s1).2) hz B.ok (by show 4 * ((text.size : Int) - s1.pos) + _ < _; rw [q2]; omega), fun z => k1 ((if_neg n85).trans ((if_pos c).trans ((ob z1).trans (ob_none z)))), fun y z2 => ?_⟩
  have G := pS_good k 1 _ y hz B.ok z2
  have hl := G.pre.ok.len
  exact ⟨by omega, by simp only [List.length_append, List.length_singleton]; omega, by simp only [List.length_append, List.length_singleton]; omega, k2 (noF (putF ⟨7, (noF r.1 s1).1, (noF y.1 y.2).1⟩ (noF y.1 y.2).2).1 (putF ⟨7, (noF r.1 s1).1, (noF y.1 y.2).1⟩ (noF y.1 y.2).2).2) ((if_neg n85).trans ((if_pos c).trans ((ob z1).trans ((ob z2).trans rfl))))⟩
 ·have n85 : ¬ tch text r.2.pos = 85 := by simpa using hb
  have n82 : ¬ tch text r.2.pos = 82 := by simpa using hb2
  exact k2 r ((if_neg n85).trans (if_neg n82))
theorem tPrt_ok (k : Nat) (ih : TC k) (text : ByteArray) (pos cn ct cd : Int) (ns : List TimeNode) (hp : tOk (k + 1) 1 text ⟨pos, cn, ct, cd, ns⟩) (r : Int × TS) (hx : pS text (k + 1) 1 ⟨pos, cn, ct, cd, ns⟩ = some r) : CtE 224 [.sv (.one (.ptr 0 0))] [.box [.v (.string text), I pos, I cn, I ct, I cd, .own 1] 236 false, rowI 139 TimeNode.ty ns] [0] (fun (_ : Unit) => True) (fun _ => .sv (.one (I r.1))) (fun _ => [.box [.v (.string text), I r.2.pos, I r.2.cn, I r.2.ct, I r.2.cd, .own 1] 236 false, rowI 139 TimeNode.ty r.2.ns]) :=
 (tPrt_walk k text pos cn ct cd ns ih (fun x => x = (r.1, r.2.pos, r.2.cn, r.2.ct, r.2.cd, r.2.ns)) False (tPrt_all k text ⟨pos, cn, ct, cd, ns⟩ hp _ _ (fun e => by rw [hx] at e; cases e) (fun y e => by rw [hx] at e; cases e; rfl))).toE fun x hx => ⟨(), trivial, by subst hx; rfl, by subst hx; rfl⟩
theorem tPrt_bad (k : Nat) (ih : TC k) (text : ByteArray) (pos cn ct cd : Int) (ns : List TimeNode) (hp : tOk (k + 1) 1 text ⟨pos, cn, ct, cd, ns⟩) (hx : pS text (k + 1) 1 ⟨pos, cn, ct, cd, ns⟩ = none) : CtX 224 [.sv (.one (.ptr 0 0))] [.box [.v (.string text), I pos, I cn, I ct, I cd, .own 1] 236 false, rowI 139 TimeNode.ty ns] (psStop 233) :=
 (tPrt_walk k text pos cn ct cd ns ih (fun _ => False) True (tPrt_all k text ⟨pos, cn, ct, cd, ns⟩ hp _ _ (fun _ => trivial) (fun y e => by rw [hx] at e; cases e))).toX
def tTrm_vc (k : Nat) (text : ByteArray) (pos : Int) (cn : Int) (ct : Int) (cd : Int) (ns : (List TimeNode)) (Q : Int × Int × Int × Int × Int × (List TimeNode) → Prop) (P : Prop) : Prop :=
 (tOk k 1 text ⟨pos, cn, ct, cd, ns⟩) ∧
 ((pS text k 1 ⟨pos, cn, ct, cd, ns⟩) = none → P) ∧ ∀ r, (pS text k 1 ⟨pos, cn, ct, cd, ns⟩) = some r →
 (∃ (Inv : Int → Int → Int → Int → Int → (List TimeNode) → Prop) (mu : Int → Int → Int → Int → Int → (List TimeNode) → Nat), Inv (r.1) (r.2.pos) (r.2.cn) (r.2.ct) (r.2.cd) (r.2.ns) ∧
 ∀ (x3 : Int) (y01 : Int) (y02 : Int) (y03 : Int) (y04 : Int) (l1 : (List TimeNode)) , Inv x3 y01 y02 y03 y04 l1 → ((0 ≤ y01 ∧ y01 ≤ text.size) ∧
 IfP ((tch text y01) == 38) ((text.size ≤ 4000 ∧ gOk text ⟨(y01), (y02), (y03), (y04), (l1)⟩ ∧ (y01) < text.size) ∧
 ((cntF text ⟨(y01), (y02), (y03), (y04), (l1)⟩) = none → P) ∧ ∀ r_2, (cntF text ⟨(y01), (y02), (y03), (y04), (l1)⟩) = some r_2 →
 ((tOk k 1 text ⟨(r_2.pos), (r_2.cn), (r_2.ct), (r_2.cd), (r_2.ns)⟩) ∧
 ((pS text k 1 ⟨(r_2.pos), (r_2.cn), (r_2.ct), (r_2.cd), (r_2.ns)⟩) = none → P) ∧ ∀ r_3, (pS text k 1 ⟨(r_2.pos), (r_2.cn), (r_2.ct), (r_2.cd), (r_2.ns)⟩) = some r_3 →
 ((((r_3.2.ns)).length ≤ 1000000) ∧
 (Inv ((((r_3.2.ns)).length : Int)) ((r_3.2.pos)) ((r_3.2.cn)) ((r_3.2.ct)) ((r_3.2.cd)) ((r_3.2.ns) ++ [(TimeNode.mk 4 x3 (r_3.1))]) ∧ mu ((((r_3.2.ns)).length : Int)) ((r_3.2.pos)) ((r_3.2.cn)) ((r_3.2.ct)) ((r_3.2.cd)) ((r_3.2.ns) ++ [(TimeNode.mk 4 x3 (r_3.1))]) < mu x3 y01 y02 y03 y04 l1)))) (Q (x3, (y01), (y02), (y03), (y04), (l1)))))
theorem tTrm_walk (k : Nat) (text : ByteArray) (pos : Int) (cn : Int) (ct : Int) (cd : Int) (ns : (List TimeNode)) (ih : TC k) (Q : Int × Int × Int × Int × Int × (List TimeNode) → Prop) (P : Prop) (h : tTrm_vc k text pos cn ct cd ns Q P) : CtP 193 [.sv (.one (.ptr 0 0))] [.box [.v (.string text), I pos, I cn, I ct, I cd, .own 1] 236 false, rowI 139 TimeNode.ty ns] [0] Q (fun (r : Int × Int × Int × Int × Int × (List TimeNode)) => .sv (.one (I r.1))) (fun (r : Int × Int × Int × Int × Int × (List TimeNode)) => [.box [.v (.string text), I r.2.1, I r.2.2.1, I r.2.2.2.1, I r.2.2.2.2.1, .own 1] 236 false, rowI 139 TimeNode.ty r.2.2.2.2.2]) (psStop 233) P := by
 have ht := tab_ok
 refine CtP.body Try.func193 rfl rfl rfl (by kernel_rfl) (by kernel_rfl) (fun c Bk hn hpan => ?_)
 unfold tTrm_vc at h
 show En c ⟨[sl 0 (.pptr 0 0 (Bk 0))], [.box [.v (.string text), I pos, I cn, I ct, I cd, .own 1] 236 false, rowI 139 TimeNode.ty ns]⟩ _
 refine En.seq ?_
 refine En.region ?_
 refine WL.run ht hn 1 ⟨[sl 0 (.pptr 0 0 (Bk 0))], [.box [.v (.string text), I pos, I cn, I ct, I cd, .own 1] 236 false, rowI 139 TimeNode.ty ns]⟩ (by kernel_rfl) ?_
 refine WL.nil ?_
 refine En.seq ?_
 refine En.region ?_
 refine WL.run ht hn 1 ⟨[sl 0 (.pptr 0 0 (Bk 0)), sl 4 (.ptr 0 0)], [.box [.v (.string text), I pos, I cn, I ct, I cd, .own 1] 236 false, rowI 139 TimeNode.ty ns]⟩ (by kernel_rfl) ?_
 have hp := h.1
 replace h := h.2
 refine splitO ((pS text k 1 ⟨pos, cn, ct, cd, ns⟩)) (fun hr_2 => ?_) (fun r hr_2 => ?_)
 exact WL.callX (tI1_bad k ih text pos cn ct cd ns hp hr_2) en224 (caps := []) [0, 1] (by rfl) rfl (by rfl) (argsAs (by kernel_rfl) (by rfl)) (by kernel_rfl) (by decide) (leftX hpan (h.1 hr_2))
 replace h := h.2 r hr_2
 refine WL.callE (tI1_ok k ih text pos cn ct cd ns hp r hr_2) en224 (caps := []) [0, 1] hn (by rfl) rfl (by rfl) (argsAs (by kernel_rfl) (by rfl)) (by kernel_rfl) (by decide) (by rfl) (by rfl) (fun _ _ => ⟨by rfl, _, by rfl, ?_⟩)
 refine WL.run ht hn 1 ⟨[sl 0 (.pptr 0 0 (Bk 0)), sl 3 (I (r.1))], [.box [.v (.string text), I (r.2.pos), I (r.2.cn), I (r.2.ct), I (r.2.cd), .own 1] 236 false, rowI 139 TimeNode.ty (r.2.ns)]⟩ (by kernel_rfl) ?_
 refine WL.nil ?_
 refine En.seq ?_
 refine En.block ?_
 obtain ⟨Inv, mu, h0, hI⟩ := h
 refine En.loop (σ := Int × Int × Int × Int × Int × (List TimeNode)) (fun zz => Inv zz.1 zz.2.1 zz.2.2.1 zz.2.2.2.1 zz.2.2.2.2.1 zz.2.2.2.2.2) (fun zz => mu zz.1 zz.2.1 zz.2.2.1 zz.2.2.2.1 zz.2.2.2.2.1 zz.2.2.2.2.2) (fun zz => ⟨[sl 0 (.pptr 0 0 (Bk 0)), sl 3 (I zz.1)], [.box [.v (.string text), I zz.2.1, I zz.2.2.1, I zz.2.2.2.1, I zz.2.2.2.2.1, .own 1] 236 false, rowI 139 TimeNode.ty zz.2.2.2.2.2]⟩) ((r.1), (r.2.pos), (r.2.cn), (r.2.ct), (r.2.cd), (r.2.ns)) h0 (sub_ok (by kernel_rfl)) ?_
 rintro ⟨x3, y01, y02, y03, y04, l1⟩ h
 replace h := hI _ _ _ _ _ _ h
 show En c ⟨[sl 0 (.pptr 0 0 (Bk 0)), sl 3 (I x3)], [.box [.v (.string text), I y01, I y02, I y03, I y04, .own 1] 236 false, rowI 139 TimeNode.ty l1]⟩ _
 refine En.seq ?_
 refine En.seq ?_
 refine En.region ?_
 refine WL.run ht hn 1 ⟨[sl 0 (.pptr 0 0 (Bk 0)), sl 3 (I x3), sl 6 (.ptr 0 0)], [.box [.v (.string text), I y01, I y02, I y03, I y04, .own 1] 236 false, rowI 139 TimeNode.ty l1]⟩ (by kernel_rfl) ?_
 have hp := h.1
 replace h := h.2
 refine WL.callE (tNow_ct text y01 y02 y03 y04 l1 hp) en194 (caps := []) [0, 1] hn (by rfl) rfl (by rfl) (argsAs (by kernel_rfl) (by rfl)) (by kernel_rfl) (by decide) (by rfl) (by rfl) (fun _ _ => ⟨by rfl, _, by rfl, ?_⟩)
 refine WL.run ht hn 1 ⟨[sl 0 (.pptr 0 0 (Bk 0)), sl 3 (I x3), sl 8 (B ((tch text y01) == 38))], [.box [.v (.string text), I (y01), I (y02), I (y03), I (y04), .own 1] 236 false, rowI 139 TimeNode.ty (l1)]⟩ (by kernel_rfl) ?_
 refine WL.nil ?_
 refine En.cond (b := ((tch text y01) == 38)) (by kernel_rfl) (fun hb => ?_) (fun hb => ?_)
 replace h := h.1 hb
 refine En.skip ?_
 refine En.block ?_
 refine En.seq ?_
 refine En.region ?_
 refine WL.run ht hn 1 ⟨[sl 0 (.pptr 0 0 (Bk 0)), sl 3 (I x3), sl 9 (.ptr 0 0)], [.box [.v (.string text), I (y01), I (y02), I (y03), I (y04), .own 1] 236 false, rowI 139 TimeNode.ty (l1)]⟩ (by kernel_rfl) ?_
 have hp := h.1
 replace h := h.2
 refine splitO ((cntF text ⟨(y01), (y02), (y03), (y04), (l1)⟩)) (fun hr_3 => ?_) (fun r_2 hr_3 => ?_)
 exact WL.callX (tCnt_bad text (y01) (y02) (y03) (y04) (l1) hp hr_3) en195 (caps := []) [0, 1] (by rfl) rfl (by rfl) (argsAs (by kernel_rfl) (by rfl)) (by kernel_rfl) (by decide) (leftX hpan (h.1 hr_3))
 replace h := h.2 r_2 hr_3
 refine WL.callE (tCnt_ok text (y01) (y02) (y03) (y04) (l1) hp r_2 hr_3) en195 (caps := []) [0, 1] hn (by rfl) rfl (by rfl) (argsAs (by kernel_rfl) (by rfl)) (by kernel_rfl) (by decide) (by rfl) (by rfl) (fun _ _ => ⟨by rfl, _, by rfl, ?_⟩)
 refine WL.nil ?_
 refine En.region ?_
 refine WL.run ht hn 3 ⟨[sl 0 (.pptr 0 0 (Bk 0)), sl 11 (.ptr 0 0), sl 12 (I x3), sl 13 (.ptr 0 0)], [.box [.v (.string text), I (r_2.pos), I (r_2.cn), I (r_2.ct), I (r_2.cd), .own 1] 236 false, rowI 139 TimeNode.ty (r_2.ns)]⟩ (by kernel_rfl) ?_
 have hp := h.1
 replace h := h.2
 refine splitO ((pS text k 1 ⟨(r_2.pos), (r_2.cn), (r_2.ct), (r_2.cd), (r_2.ns)⟩)) (fun hr_4 => ?_) (fun r_3 hr_4 => ?_)
 exact WL.callX (tI1_bad k ih text (r_2.pos) (r_2.cn) (r_2.ct) (r_2.cd) (r_2.ns) hp hr_4) en224 (caps := []) [0, 1] (by rfl) rfl (by rfl) (argsAs (by kernel_rfl) (by rfl)) (by kernel_rfl) (by decide) (leftX hpan (h.1 hr_4))
 replace h := h.2 r_3 hr_4
 refine WL.callE (tI1_ok k ih text (r_2.pos) (r_2.cn) (r_2.ct) (r_2.cd) (r_2.ns) hp r_3 hr_4) en224 (caps := []) [0, 1] hn (by rfl) rfl (by rfl) (argsAs (by kernel_rfl) (by rfl)) (by kernel_rfl) (by decide) (by rfl) (by rfl) (fun _ _ => ⟨by rfl, _, by rfl, ?_⟩)
 refine WL.run ht hn 1 ⟨[sl 0 (.pptr 0 0 (Bk 0)), sl 11 (.ptr 0 0), (15, .sv (.agg [I 4, I x3, I (r_3.1)]))], [.box [.v (.string text), I (r_3.2.pos), I (r_3.2.cn), I (r_3.2.ct), I (r_3.2.cd), .own 1] 236 false, rowI 139 TimeNode.ty (r_3.2.ns)]⟩ (by kernel_rfl) ?_
 have hp := h.1
 replace h := h.2
 refine WL.callE (tPut_ct text (r_3.2.pos) (r_3.2.cn) (r_3.2.ct) (r_3.2.cd) (r_3.2.ns) (TimeNode.mk 4 x3 (r_3.1)) hp) en196 (caps := []) [0, 1] hn (by rfl) rfl (by rfl) (argsAs (by kernel_rfl) (by rfl)) (by kernel_rfl) (by decide) (by rfl) (by rfl) (fun _ _ => ⟨by rfl, _, by rfl, ?_⟩)
 refine WL.run ht hn 1 ⟨[sl 0 (.pptr 0 0 (Bk 0)), sl 3 (I ((((r_3.2.ns)).length : Int)))], [.box [.v (.string text), I ((r_3.2.pos)), I ((r_3.2.cn)), I ((r_3.2.ct)), I ((r_3.2.cd)), .own 1] 236 false, rowI 139 TimeNode.ty ((r_3.2.ns) ++ [(TimeNode.mk 4 x3 (r_3.1))])]⟩ (by kernel_rfl) ?_
 refine WL.nil ?_
 exact En.at (I := fun zz => Inv zz.1 zz.2.1 zz.2.2.1 zz.2.2.2.1 zz.2.2.2.2.1 zz.2.2.2.2.2 ∧ mu zz.1 zz.2.1 zz.2.2.1 zz.2.2.2.1 zz.2.2.2.2.1 zz.2.2.2.2.2 < mu x3 y01 y02 y03 y04 l1) (T := fun zz => ⟨[sl 0 (.pptr 0 0 (Bk 0)), sl 3 (I zz.1)], [.box [.v (.string text), I zz.2.1, I zz.2.2.1, I zz.2.2.2.1, I zz.2.2.2.2.1, .own 1] 236 false, rowI 139 TimeNode.ty zz.2.2.2.2.2]⟩) (((((r_3.2.ns)).length : Int)), ((r_3.2.pos)), ((r_3.2.cn)), ((r_3.2.ct)), ((r_3.2.cd)), ((r_3.2.ns) ++ [(TimeNode.mk 4 x3 (r_3.1))])) h (by kernel_rfl)
 replace h := h.2 hb
 refine En.exit rfl ?_
 refine En.seq ?_
 refine En.region ?_
 refine WL.run ht hn 2 ⟨[sl 0 (.pptr 0 0 (Bk 0)), sl 2 (I x3)], [.box [.v (.string text), I (y01), I (y02), I (y03), I (y04), .own 1] 236 false, rowI 139 TimeNode.ty (l1)]⟩ (by kernel_rfl) ?_
 refine WL.nil ?_
 refine En.ret ?_
 exact En.backE [0] ht (x3, (y01), (y02), (y03), (y04), (l1)) h (by kernel_rfl) (by rfl) rfl
theorem tTrm_all (k : Nat) (text : ByteArray) (s : TS) (hp : tOk (k + 1) 2 text s) (Q : Int × Int × Int × Int × Int × (List TimeNode) → Prop) (P : Prop) (h1 : pS text (k + 1) 2 s = none → P) (h2 : ∀ r, pS text (k + 1) 2 s = some r → Q (r.1, r.2.pos, r.2.cn, r.2.ct, r.2.cd, r.2.ns)) : tTrm_vc k text s.pos s.cn s.ct s.cd s.ns Q P := by
 have hz := hp.1
 have hg : gOk text s := tOk_g hp
 have hk := hp.2.1.2.2
 have e0 : pS text (k + 1) 2 s = (pS text k 1 s).bind fun r => lopL 38 4 (pS text k 1) text (text.size + 1) r.1 r.2 := rfl
 unfold tTrm_vc
 refine ⟨tOk_of (s := s) hz hg (by omega), fun z => h1 (e0.trans (ob_none z)), fun r z0 => ?_⟩
 have G0 := pS_good k 1 s r hz hg z0
 have k1 := fun e => h1 (e0.trans ((ob z0).trans e))
 have k2 := fun x e => h2 x (e0.trans ((ob z0).trans e))
 have hpos := G0.pre.pos
 have hp0 := hg.1.1
 obtain ⟨R, hR⟩ : ∃ R, R = lopL 38 4 (pS text k 1) text (text.size + 1) r.1 r.2 := ⟨_, rfl⟩
 refine ⟨fun n p a b d l => ∃ m : Nat, text.size - p < m ∧ Pre1 0 text s ⟨p, a, b, d, l⟩ ∧ lopL 38 4 (pS text k 1) text m n ⟨p, a, b, d, l⟩ = R, fun _ p _ _ _ _ => (text.size - p).toNat, ⟨text.size + 1, by omega, G0.pre, hR.symm⟩, ?_⟩
 rintro n p a b d l ⟨m, hm, hpre, heq⟩
 have hsz : p ≤ text.size := hpre.ok.1.2
 have hps : s.pos < p := hpre.pos
 obtain ⟨m', rfl⟩ : ∃ m', m = m' + 1 := ⟨m - 1, by omega⟩
 rw [lopL] at heq
 simp only at heq
 rw [hR] at heq
 refine ⟨hpre.ok.1, fun hb => ?_, fun hb => ?_⟩
 ·have c : tch text p = 38 := eq_of_beq hb
  have hlt := tch_lt (text := text) (p := p) (by omega)
  rw [if_pos c] at heq
  refine ⟨⟨hz, hpre.ok, hlt⟩, fun z => k1 (heq.symm.trans (ob_none z)), fun s1 z1 => ?_⟩
  obtain ⟨q1, q2, q3⟩ := Pre1.cnt hpre.ok hlt z1
  have q2 : s1.pos = p + 1 := q2
  refine ⟨tOk_of hz q1.ok (by rw [q2]; omega), fun z => k1 (heq.symm.trans ((ob z1).trans (ob_none z))), fun y z2 => ?_⟩
  have G := pS_good k 1 s1 y hz q1.ok z2
  have hl := G.pre.ok.len
  have hy := G.pre.pos
  have hy2 := G.pre.ok.1.2
  refine ⟨by omega, ⟨m', by omega, ((hpre.tr (q1.step G)).mono (by decide)).put (j := 0) ⟨4, n, y.1⟩ (by decide) hg, ?_⟩, by show ((text.size : Int) - y.2.pos).toNat < ((text.size : Int) - p).toNat; omega⟩
  rw [hR]
  exact ((ob z1).trans ((ob z2).trans rfl)).symm.trans heq
 ·have c : ¬ tch text p = 38 := by simpa using hb
  rw [if_neg c] at heq
  exact k2 (n, ⟨p, a, b, d, l⟩) heq.symm
theorem tTrm_ok (k : Nat) (ih : TC k) (text : ByteArray) (pos cn ct cd : Int) (ns : List TimeNode) (hp : tOk (k + 1) 2 text ⟨pos, cn, ct, cd, ns⟩) (r : Int × TS) (hx : pS text (k + 1) 2 ⟨pos, cn, ct, cd, ns⟩ = some r) : CtE 193 [.sv (.one (.ptr 0 0))] [.box [.v (.string text), I pos, I cn, I ct, I cd, .own 1] 236 false, rowI 139 TimeNode.ty ns] [0] (fun (_ : Unit) => True) (fun _ => .sv (.one (I r.1))) (fun _ => [.box [.v (.string text), I r.2.pos, I r.2.cn, I r.2.ct, I r.2.cd, .own 1] 236 false, rowI 139 TimeNode.ty r.2.ns]) :=
 (tTrm_walk k text pos cn ct cd ns ih (fun x => x = (r.1, r.2.pos, r.2.cn, r.2.ct, r.2.cd, r.2.ns)) False (tTrm_all k text ⟨pos, cn, ct, cd, ns⟩ hp _ _ (fun e => by rw [hx] at e; cases e) (fun y e => by rw [hx] at e; cases e; rfl))).toE fun x hx => ⟨(), trivial, by subst hx; rfl, by subst hx; rfl⟩
theorem tTrm_bad (k : Nat) (ih : TC k) (text : ByteArray) (pos cn ct cd : Int) (ns : List TimeNode) (hp : tOk (k + 1) 2 text ⟨pos, cn, ct, cd, ns⟩) (hx : pS text (k + 1) 2 ⟨pos, cn, ct, cd, ns⟩ = none) : CtX 193 [.sv (.one (.ptr 0 0))] [.box [.v (.string text), I pos, I cn, I ct, I cd, .own 1] 236 false, rowI 139 TimeNode.ty ns] (psStop 233) :=
 (tTrm_walk k text pos cn ct cd ns ih (fun _ => False) True (tTrm_all k text ⟨pos, cn, ct, cd, ns⟩ hp _ _ (fun _ => trivial) (fun y e => by rw [hx] at e; cases e))).toX
def tFor_vc (k : Nat) (text : ByteArray) (pos : Int) (cn : Int) (ct : Int) (cd : Int) (ns : (List TimeNode)) (Q : Int × Int × Int × Int × Int × (List TimeNode) → Prop) (P : Prop) : Prop :=
 (tOk k 2 text ⟨pos, cn, ct, cd, ns⟩) ∧
 ((pS text k 2 ⟨pos, cn, ct, cd, ns⟩) = none → P) ∧ ∀ r, (pS text k 2 ⟨pos, cn, ct, cd, ns⟩) = some r →
 (∃ (Inv : Int → Int → Int → Int → Int → (List TimeNode) → Prop) (mu : Int → Int → Int → Int → Int → (List TimeNode) → Nat), Inv (r.1) (r.2.pos) (r.2.cn) (r.2.ct) (r.2.cd) (r.2.ns) ∧
 ∀ (x3 : Int) (y01 : Int) (y02 : Int) (y03 : Int) (y04 : Int) (l1 : (List TimeNode)) , Inv x3 y01 y02 y03 y04 l1 → ((0 ≤ y01 ∧ y01 ≤ text.size) ∧
 IfP ((tch text y01) == 124) ((text.size ≤ 4000 ∧ gOk text ⟨(y01), (y02), (y03), (y04), (l1)⟩ ∧ (y01) < text.size) ∧
 ((cntF text ⟨(y01), (y02), (y03), (y04), (l1)⟩) = none → P) ∧ ∀ r_2, (cntF text ⟨(y01), (y02), (y03), (y04), (l1)⟩) = some r_2 →
 ((tOk k 2 text ⟨(r_2.pos), (r_2.cn), (r_2.ct), (r_2.cd), (r_2.ns)⟩) ∧
 ((pS text k 2 ⟨(r_2.pos), (r_2.cn), (r_2.ct), (r_2.cd), (r_2.ns)⟩) = none → P) ∧ ∀ r_3, (pS text k 2 ⟨(r_2.pos), (r_2.cn), (r_2.ct), (r_2.cd), (r_2.ns)⟩) = some r_3 →
 ((((r_3.2.ns)).length ≤ 1000000) ∧
 (Inv ((((r_3.2.ns)).length : Int)) ((r_3.2.pos)) ((r_3.2.cn)) ((r_3.2.ct)) ((r_3.2.cd)) ((r_3.2.ns) ++ [(TimeNode.mk 5 x3 (r_3.1))]) ∧ mu ((((r_3.2.ns)).length : Int)) ((r_3.2.pos)) ((r_3.2.cn)) ((r_3.2.ct)) ((r_3.2.cd)) ((r_3.2.ns) ++ [(TimeNode.mk 5 x3 (r_3.1))]) < mu x3 y01 y02 y03 y04 l1)))) (Q (x3, (y01), (y02), (y03), (y04), (l1)))))
theorem tFor_walk (k : Nat) (text : ByteArray) (pos : Int) (cn : Int) (ct : Int) (cd : Int) (ns : (List TimeNode)) (ih : TC k) (Q : Int × Int × Int × Int × Int × (List TimeNode) → Prop) (P : Prop) (h : tFor_vc k text pos cn ct cd ns Q P) : CtP 129 [.sv (.one (.ptr 0 0))] [.box [.v (.string text), I pos, I cn, I ct, I cd, .own 1] 236 false, rowI 139 TimeNode.ty ns] [0] Q (fun (r : Int × Int × Int × Int × Int × (List TimeNode)) => .sv (.one (I r.1))) (fun (r : Int × Int × Int × Int × Int × (List TimeNode)) => [.box [.v (.string text), I r.2.1, I r.2.2.1, I r.2.2.2.1, I r.2.2.2.2.1, .own 1] 236 false, rowI 139 TimeNode.ty r.2.2.2.2.2]) (psStop 233) P := by
 have ht := tab_ok
 refine CtP.body Try.func129 rfl rfl rfl (by kernel_rfl) (by kernel_rfl) (fun c Bk hn hpan => ?_)
 unfold tFor_vc at h
 show En c ⟨[sl 0 (.pptr 0 0 (Bk 0))], [.box [.v (.string text), I pos, I cn, I ct, I cd, .own 1] 236 false, rowI 139 TimeNode.ty ns]⟩ _
 refine En.seq ?_
 refine En.region ?_
 refine WL.run ht hn 1 ⟨[sl 0 (.pptr 0 0 (Bk 0))], [.box [.v (.string text), I pos, I cn, I ct, I cd, .own 1] 236 false, rowI 139 TimeNode.ty ns]⟩ (by kernel_rfl) ?_
 refine WL.nil ?_
 refine En.seq ?_
 refine En.region ?_
 refine WL.run ht hn 1 ⟨[sl 0 (.pptr 0 0 (Bk 0)), sl 4 (.ptr 0 0)], [.box [.v (.string text), I pos, I cn, I ct, I cd, .own 1] 236 false, rowI 139 TimeNode.ty ns]⟩ (by kernel_rfl) ?_
 have hp := h.1
 replace h := h.2
 refine splitO ((pS text k 2 ⟨pos, cn, ct, cd, ns⟩)) (fun hr_2 => ?_) (fun r hr_2 => ?_)
 exact WL.callX (tI2_bad k ih text pos cn ct cd ns hp hr_2) en193 (caps := []) [0, 1] (by rfl) rfl (by rfl) (argsAs (by kernel_rfl) (by rfl)) (by kernel_rfl) (by decide) (leftX hpan (h.1 hr_2))
 replace h := h.2 r hr_2
 refine WL.callE (tI2_ok k ih text pos cn ct cd ns hp r hr_2) en193 (caps := []) [0, 1] hn (by rfl) rfl (by rfl) (argsAs (by kernel_rfl) (by rfl)) (by kernel_rfl) (by decide) (by rfl) (by rfl) (fun _ _ => ⟨by rfl, _, by rfl, ?_⟩)
 refine WL.run ht hn 1 ⟨[sl 0 (.pptr 0 0 (Bk 0)), sl 3 (I (r.1))], [.box [.v (.string text), I (r.2.pos), I (r.2.cn), I (r.2.ct), I (r.2.cd), .own 1] 236 false, rowI 139 TimeNode.ty (r.2.ns)]⟩ (by kernel_rfl) ?_
 refine WL.nil ?_
 refine En.seq ?_
 refine En.block ?_
 obtain ⟨Inv, mu, h0, hI⟩ := h
 refine En.loop (σ := Int × Int × Int × Int × Int × (List TimeNode)) (fun zz => Inv zz.1 zz.2.1 zz.2.2.1 zz.2.2.2.1 zz.2.2.2.2.1 zz.2.2.2.2.2) (fun zz => mu zz.1 zz.2.1 zz.2.2.1 zz.2.2.2.1 zz.2.2.2.2.1 zz.2.2.2.2.2) (fun zz => ⟨[sl 0 (.pptr 0 0 (Bk 0)), sl 3 (I zz.1)], [.box [.v (.string text), I zz.2.1, I zz.2.2.1, I zz.2.2.2.1, I zz.2.2.2.2.1, .own 1] 236 false, rowI 139 TimeNode.ty zz.2.2.2.2.2]⟩) ((r.1), (r.2.pos), (r.2.cn), (r.2.ct), (r.2.cd), (r.2.ns)) h0 (sub_ok (by kernel_rfl)) ?_
 rintro ⟨x3, y01, y02, y03, y04, l1⟩ h
 replace h := hI _ _ _ _ _ _ h
 show En c ⟨[sl 0 (.pptr 0 0 (Bk 0)), sl 3 (I x3)], [.box [.v (.string text), I y01, I y02, I y03, I y04, .own 1] 236 false, rowI 139 TimeNode.ty l1]⟩ _
 refine En.seq ?_
 refine En.seq ?_
 refine En.region ?_
 refine WL.run ht hn 1 ⟨[sl 0 (.pptr 0 0 (Bk 0)), sl 3 (I x3), sl 6 (.ptr 0 0)], [.box [.v (.string text), I y01, I y02, I y03, I y04, .own 1] 236 false, rowI 139 TimeNode.ty l1]⟩ (by kernel_rfl) ?_
 have hp := h.1
 replace h := h.2
 refine WL.callE (tNow_ct text y01 y02 y03 y04 l1 hp) en194 (caps := []) [0, 1] hn (by rfl) rfl (by rfl) (argsAs (by kernel_rfl) (by rfl)) (by kernel_rfl) (by decide) (by rfl) (by rfl) (fun _ _ => ⟨by rfl, _, by rfl, ?_⟩)
 refine WL.run ht hn 1 ⟨[sl 0 (.pptr 0 0 (Bk 0)), sl 3 (I x3), sl 8 (B ((tch text y01) == 124))], [.box [.v (.string text), I (y01), I (y02), I (y03), I (y04), .own 1] 236 false, rowI 139 TimeNode.ty (l1)]⟩ (by kernel_rfl) ?_
 refine WL.nil ?_
 refine En.cond (b := ((tch text y01) == 124)) (by kernel_rfl) (fun hb => ?_) (fun hb => ?_)
 replace h := h.1 hb
 refine En.skip ?_
 refine En.block ?_
 refine En.seq ?_
 refine En.region ?_
 refine WL.run ht hn 1 ⟨[sl 0 (.pptr 0 0 (Bk 0)), sl 3 (I x3), sl 9 (.ptr 0 0)], [.box [.v (.string text), I (y01), I (y02), I (y03), I (y04), .own 1] 236 false, rowI 139 TimeNode.ty (l1)]⟩ (by kernel_rfl) ?_
 have hp := h.1
 replace h := h.2
 refine splitO ((cntF text ⟨(y01), (y02), (y03), (y04), (l1)⟩)) (fun hr_3 => ?_) (fun r_2 hr_3 => ?_)
 exact WL.callX (tCnt_bad text (y01) (y02) (y03) (y04) (l1) hp hr_3) en195 (caps := []) [0, 1] (by rfl) rfl (by rfl) (argsAs (by kernel_rfl) (by rfl)) (by kernel_rfl) (by decide) (leftX hpan (h.1 hr_3))
 replace h := h.2 r_2 hr_3
 refine WL.callE (tCnt_ok text (y01) (y02) (y03) (y04) (l1) hp r_2 hr_3) en195 (caps := []) [0, 1] hn (by rfl) rfl (by rfl) (argsAs (by kernel_rfl) (by rfl)) (by kernel_rfl) (by decide) (by rfl) (by rfl) (fun _ _ => ⟨by rfl, _, by rfl, ?_⟩)
 refine WL.nil ?_
 refine En.region ?_
 refine WL.run ht hn 3 ⟨[sl 0 (.pptr 0 0 (Bk 0)), sl 11 (.ptr 0 0), sl 12 (I x3), sl 13 (.ptr 0 0)], [.box [.v (.string text), I (r_2.pos), I (r_2.cn), I (r_2.ct), I (r_2.cd), .own 1] 236 false, rowI 139 TimeNode.ty (r_2.ns)]⟩ (by kernel_rfl) ?_
 have hp := h.1
 replace h := h.2
 refine splitO ((pS text k 2 ⟨(r_2.pos), (r_2.cn), (r_2.ct), (r_2.cd), (r_2.ns)⟩)) (fun hr_4 => ?_) (fun r_3 hr_4 => ?_)
 exact WL.callX (tI2_bad k ih text (r_2.pos) (r_2.cn) (r_2.ct) (r_2.cd) (r_2.ns) hp hr_4) en193 (caps := []) [0, 1] (by rfl) rfl (by rfl) (argsAs (by kernel_rfl) (by rfl)) (by kernel_rfl) (by decide) (leftX hpan (h.1 hr_4))
 replace h := h.2 r_3 hr_4
 refine WL.callE (tI2_ok k ih text (r_2.pos) (r_2.cn) (r_2.ct) (r_2.cd) (r_2.ns) hp r_3 hr_4) en193 (caps := []) [0, 1] hn (by rfl) rfl (by rfl) (argsAs (by kernel_rfl) (by rfl)) (by kernel_rfl) (by decide) (by rfl) (by rfl) (fun _ _ => ⟨by rfl, _, by rfl, ?_⟩)
 refine WL.run ht hn 1 ⟨[sl 0 (.pptr 0 0 (Bk 0)), sl 11 (.ptr 0 0), (15, .sv (.agg [I 5, I x3, I (r_3.1)]))], [.box [.v (.string text), I (r_3.2.pos), I (r_3.2.cn), I (r_3.2.ct), I (r_3.2.cd), .own 1] 236 false, rowI 139 TimeNode.ty (r_3.2.ns)]⟩ (by kernel_rfl) ?_
 have hp := h.1
 replace h := h.2
 refine WL.callE (tPut_ct text (r_3.2.pos) (r_3.2.cn) (r_3.2.ct) (r_3.2.cd) (r_3.2.ns) (TimeNode.mk 5 x3 (r_3.1)) hp) en196 (caps := []) [0, 1] hn (by rfl) rfl (by rfl) (argsAs (by kernel_rfl) (by rfl)) (by kernel_rfl) (by decide) (by rfl) (by rfl) (fun _ _ => ⟨by rfl, _, by rfl, ?_⟩)
 refine WL.run ht hn 1 ⟨[sl 0 (.pptr 0 0 (Bk 0)), sl 3 (I ((((r_3.2.ns)).length : Int)))], [.box [.v (.string text), I ((r_3.2.pos)), I ((r_3.2.cn)), I ((r_3.2.ct)), I ((r_3.2.cd)), .own 1] 236 false, rowI 139 TimeNode.ty ((r_3.2.ns) ++ [(TimeNode.mk 5 x3 (r_3.1))])]⟩ (by kernel_rfl) ?_
 refine WL.nil ?_
 exact En.at (I := fun zz => Inv zz.1 zz.2.1 zz.2.2.1 zz.2.2.2.1 zz.2.2.2.2.1 zz.2.2.2.2.2 ∧ mu zz.1 zz.2.1 zz.2.2.1 zz.2.2.2.1 zz.2.2.2.2.1 zz.2.2.2.2.2 < mu x3 y01 y02 y03 y04 l1) (T := fun zz => ⟨[sl 0 (.pptr 0 0 (Bk 0)), sl 3 (I zz.1)], [.box [.v (.string text), I zz.2.1, I zz.2.2.1, I zz.2.2.2.1, I zz.2.2.2.2.1, .own 1] 236 false, rowI 139 TimeNode.ty zz.2.2.2.2.2]⟩) (((((r_3.2.ns)).length : Int)), ((r_3.2.pos)), ((r_3.2.cn)), ((r_3.2.ct)), ((r_3.2.cd)), ((r_3.2.ns) ++ [(TimeNode.mk 5 x3 (r_3.1))])) h (by kernel_rfl)
 replace h := h.2 hb
 refine En.exit rfl ?_
 refine En.seq ?_
 refine En.region ?_
 refine WL.run ht hn 2 ⟨[sl 0 (.pptr 0 0 (Bk 0)), sl 2 (I x3)], [.box [.v (.string text), I (y01), I (y02), I (y03), I (y04), .own 1] 236 false, rowI 139 TimeNode.ty (l1)]⟩ (by kernel_rfl) ?_
 refine WL.nil ?_
 refine En.ret ?_
 exact En.backE [0] ht (x3, (y01), (y02), (y03), (y04), (l1)) h (by kernel_rfl) (by rfl) rfl
theorem tFor_all (k : Nat) (text : ByteArray) (s : TS) (hp : tOk (k + 1) 3 text s) (Q : Int × Int × Int × Int × Int × (List TimeNode) → Prop) (P : Prop) (h1 : pS text (k + 1) 3 s = none → P) (h2 : ∀ r, pS text (k + 1) 3 s = some r → Q (r.1, r.2.pos, r.2.cn, r.2.ct, r.2.cd, r.2.ns)) : tFor_vc k text s.pos s.cn s.ct s.cd s.ns Q P := by
 have hz := hp.1
 have hg : gOk text s := tOk_g hp
 have hk := hp.2.1.2.2
 have e0 : pS text (k + 1) 3 s = (pS text k 2 s).bind fun r => lopL 124 5 (pS text k 2) text (text.size + 1) r.1 r.2 := rfl
 unfold tFor_vc
 refine ⟨tOk_of (s := s) hz hg (by omega), fun z => h1 (e0.trans (ob_none z)), fun r z0 => ?_⟩
 have G0 := pS_good k 2 s r hz hg z0
 have k1 := fun e => h1 (e0.trans ((ob z0).trans e))
 have k2 := fun x e => h2 x (e0.trans ((ob z0).trans e))
 have hpos := G0.pre.pos
 have hp0 := hg.1.1
 obtain ⟨R, hR⟩ : ∃ R, R = lopL 124 5 (pS text k 2) text (text.size + 1) r.1 r.2 := ⟨_, rfl⟩
 refine ⟨fun n p a b d l => ∃ m : Nat, text.size - p < m ∧ Pre1 0 text s ⟨p, a, b, d, l⟩ ∧ lopL 124 5 (pS text k 2) text m n ⟨p, a, b, d, l⟩ = R, fun _ p _ _ _ _ => (text.size - p).toNat, ⟨text.size + 1, by omega, G0.pre, hR.symm⟩, ?_⟩
 rintro n p a b d l ⟨m, hm, hpre, heq⟩
 have hsz : p ≤ text.size := hpre.ok.1.2
 have hps : s.pos < p := hpre.pos
 obtain ⟨m', rfl⟩ : ∃ m', m = m' + 1 := ⟨m - 1, by omega⟩
 rw [lopL] at heq
 simp only at heq
 rw [hR] at heq
 refine ⟨hpre.ok.1, fun hb => ?_, fun hb => ?_⟩
 ·have c : tch text p = 124 := eq_of_beq hb
  have hlt := tch_lt (text := text) (p := p) (by omega)
  rw [if_pos c] at heq
  refine ⟨⟨hz, hpre.ok, hlt⟩, fun z => k1 (heq.symm.trans (ob_none z)), fun s1 z1 => ?_⟩
  obtain ⟨q1, q2, q3⟩ := Pre1.cnt hpre.ok hlt z1
  have q2 : s1.pos = p + 1 := q2
  refine ⟨tOk_of hz q1.ok (by rw [q2]; omega), fun z => k1 (heq.symm.trans ((ob z1).trans (ob_none z))), fun y z2 => ?_⟩
  have G := pS_good k 2 s1 y hz q1.ok z2
  have hl := G.pre.ok.len
  have hy := G.pre.pos
  have hy2 := G.pre.ok.1.2
  refine ⟨by omega, ⟨m', by omega, ((hpre.tr (q1.step G)).mono (by decide)).put (j := 0) ⟨5, n, y.1⟩ (by decide) hg, ?_⟩, by show ((text.size : Int) - y.2.pos).toNat < ((text.size : Int) - p).toNat; omega⟩
  rw [hR]
  exact ((ob z1).trans ((ob z2).trans rfl)).symm.trans heq
 ·have c : ¬ tch text p = 124 := by simpa using hb
  rw [if_neg c] at heq
  exact k2 (n, ⟨p, a, b, d, l⟩) heq.symm
theorem tFor_ok (k : Nat) (ih : TC k) (text : ByteArray) (pos cn ct cd : Int) (ns : List TimeNode) (hp : tOk (k + 1) 3 text ⟨pos, cn, ct, cd, ns⟩) (r : Int × TS) (hx : pS text (k + 1) 3 ⟨pos, cn, ct, cd, ns⟩ = some r) : CtE 129 [.sv (.one (.ptr 0 0))] [.box [.v (.string text), I pos, I cn, I ct, I cd, .own 1] 236 false, rowI 139 TimeNode.ty ns] [0] (fun (_ : Unit) => True) (fun _ => .sv (.one (I r.1))) (fun _ => [.box [.v (.string text), I r.2.pos, I r.2.cn, I r.2.ct, I r.2.cd, .own 1] 236 false, rowI 139 TimeNode.ty r.2.ns]) :=
 (tFor_walk k text pos cn ct cd ns ih (fun x => x = (r.1, r.2.pos, r.2.cn, r.2.ct, r.2.cd, r.2.ns)) False (tFor_all k text ⟨pos, cn, ct, cd, ns⟩ hp _ _ (fun e => by rw [hx] at e; cases e) (fun y e => by rw [hx] at e; cases e; rfl))).toE fun x hx => ⟨(), trivial, by subst hx; rfl, by subst hx; rfl⟩
theorem tFor_bad (k : Nat) (ih : TC k) (text : ByteArray) (pos cn ct cd : Int) (ns : List TimeNode) (hp : tOk (k + 1) 3 text ⟨pos, cn, ct, cd, ns⟩) (hx : pS text (k + 1) 3 ⟨pos, cn, ct, cd, ns⟩ = none) : CtX 129 [.sv (.one (.ptr 0 0))] [.box [.v (.string text), I pos, I cn, I ct, I cd, .own 1] 236 false, rowI 139 TimeNode.ty ns] (psStop 233) :=
 (tFor_walk k text pos cn ct cd ns ih (fun _ => False) True (tFor_all k text ⟨pos, cn, ct, cd, ns⟩ hp _ _ (fun _ => trivial) (fun y e => by rw [hx] at e; cases e))).toX
theorem timeAll : ∀ k, TC k
 | 0 => fun text pos cn ct cd ns => ⟨fun hp => absurd hp.2.1.2.2 (by have := hp.2.1.2.1; omega), fun hp => absurd hp.2.1.2.2 (by have := hp.2.1.2.1; omega), fun hp => absurd hp.2.1.2.2 (by have := hp.2.1.2.1; omega), fun hp => absurd hp.2.1.2.2 (by have := hp.2.1.2.1; omega)⟩
 | k + 1 => fun text pos cn ct cd ns => ⟨fun hp => ⟨tOne_ok k (timeAll k) text pos cn ct cd ns hp, tOne_bad k (timeAll k) text pos cn ct cd ns hp⟩, fun hp => ⟨tPrt_ok k (timeAll k) text pos cn ct cd ns hp, tPrt_bad k (timeAll k) text pos cn ct cd ns hp⟩, fun hp => ⟨tTrm_ok k (timeAll k) text pos cn ct cd ns hp, tTrm_bad k (timeAll k) text pos cn ct cd ns hp⟩, fun hp => ⟨tFor_ok k (timeAll k) text pos cn ct cd ns hp, tFor_bad k (timeAll k) text pos cn ct cd ns hp⟩⟩
end Go.Proofs.Ytapnmjeadbhffaa


namespace Go.Proofs.Ytapnmjeadbhffaa
open Go.RowKit Go.MapKept
set_option linter.unusedSimpArgs false
set_option linter.unusedVariables false
set_option maxRecDepth 100000
section
variable {c : Cfg} {S : St} {tab : Tab} {n : Nat} {o : Oper} {N : Po}
theorem val_indexA {α : Type} {T : Ty α} {ls : List (List α)} {l : List α} {t n el : Nat} {k : Int} {ik : IntKind} {cells : List At} {te : TI} {x ix : Operand} (ht : tab.ok) (ho : o.op = .index t x ix) (hu : Try.prog.underlying t = some (.array n el)) (h1 : tab el = some te) (h2 : te.agg = false) (h3 : te.size = 1)
  (hx : evX S.F x = some (.sv (.agg cells))) (hc : cells = ls.map fun l => LS T l) (hn : n = ls.length) (hi : evK S.F ix = some (.int ik k)) (hl : idx ls k = some l) : Val c S o (.sv (.one (LS T l))) := fun a w g hs h => by
 obtain ⟨us, e1, hos⟩ := evX_ok h hx
 obtain ⟨g0, g1, g2⟩ := idx_some hl
 obtain ⟨v, hv, hz, hcv⟩ := oks_get hos (show cells[k.toNat]? = some (LS T l) by rw [hc, List.getElem?_map, g2]; rfl)
 have e : execOp a.eval o = (do pure (.value (← Instr.index t (a.eval x) (a.eval ix))) : Sem Next) := by unfold execOp; rw [ho]
 rw [e]
 refine ⟨v, run_val ?_, hz⟩
 have hlt : 0 ≤ k ∧ k < (n : Int) := ⟨g0, by rw [hn]; exact g1⟩
 have htk := ht el te h1
 simp only [Instr.index, evK_ok h hi, asIntOf, e1, Sem.run_bind, Sem.run_pure, Result.andThen_ok, run_underlying hu, if_pos hlt, htk.run_size, h3, part, htk.run_isAgg]
 rw [h2]
 simp [hv]
end
end Go.Proofs.Ytapnmjeadbhffaa


namespace Go.Proofs.Ytapnmjeadbhffaa
open Go.RowKit Go.MapKept
set_option linter.unusedSimpArgs false
set_option linter.unusedVariables false
set_option maxRecDepth 100000
theorem en128 : ∀ args w, (callFunc 128 args).run Try.prog w = .ok (.enter 128 args) w := enters_of Try.func128 (by kernel_rfl) rfl
theorem timCatch (l0 : (List TimeNode)) (c0 a0 code at_ : Int) (hc : code ≠ 0) : CtD 128 [.box [LS TimeNode.ty l0] 133 false, .box [I c0, I a0] 63 false] [.box [LS TimeNode.ty ([] : List TimeNode)] 133 false, .box [I code, I at_] 63 false] (.panicking [{ v := .iface 233 (.agg #[.int .i64 code, .int .i64 at_]), recovered := false }]) (.panicking [{ v := .iface 233 (.agg #[.int .i64 code, .int .i64 at_]), recovered := true }]) := by
 have ht := tab_ok
 refine CtD.body (pv := .iface 233 (.agg #[.int .i64 code, .int .i64 at_])) (d := 5) Try.func128 rfl rfl rfl (by kernel_rfl) (by kernel_rfl) (by kernel_rfl) rfl rfl rfl (fun c₀ cs hm => by simp [recoverD, hm]) trivial (fun c Bk hn => ?_)
 have h : True := trivial
 refine En.block ?_
 refine En.seq ?_
 refine En.region ?_
 refine WL.val hn (by rfl) (val_ifNil rfl (by rfl) (by rfl) (fun w => by kernel_rfl)) (by rfl) ?_
 refine WL.nil ?_
 refine En.cond (b := false) (by kernel_rfl) (fun hb => ?_) (fun hb => ?_)
 ·cases hb
 ·refine En.seq ?_
  refine En.region ?_
  refine WL.val hn (by rfl) (val_assert (cs := [.int .i64 code, .int .i64 at_]) rfl (by rfl) rfl (by simp [cellV]) (fun w => by kernel_rfl)) (by rfl) ?_
  refine WL.run ht hn 2 ⟨[(0, .sv (.one (.pptr 0 0 (Bk 0)))), (1, .sv (.one (.pptr 1 0 (Bk 1)))), (5, .sv (.one (.v (.iface 233 (.agg #[.int .i64 code, .int .i64 at_]))))), (9, .sv (.one (B true))), (10, .sv (.agg [I code, I at_]))], [.box [LS TimeNode.ty l0] 133 false, .box [I c0, I a0] 63 false]⟩ (by kernel_rfl) ?_
  refine WL.nil ?_
  refine En.cond (b := true) (by kernel_rfl) (fun hb => ?_) (fun hb => ?_)
  ·refine En.seq ?_
   refine En.region ?_
   refine WL.run ht hn 2 ⟨[(0, .sv (.one (.pptr 0 0 (Bk 0)))), (1, .sv (.one (.pptr 1 0 (Bk 1)))), (3, .sv (.one (.ptr 2 0)))], [.box [LS TimeNode.ty l0] 133 false, .box [I c0, I a0] 63 false, .box [I code, I at_] 233 false]⟩ (by kernel_rfl) ?_
   refine WL.nil ?_
   refine En.regionA ⟨[(0, .sv (.one (.pptr 0 0 (Bk 0)))), (1, .sv (.one (.pptr 1 0 (Bk 1)))), (3, .sv (.one (.ptr 2 0)))], [.sv (.one (.ptr 2 0)), .sv (.agg [I code, I at_]), .tup [], .tup []], [⟨.box [LS TimeNode.ty l0] 133 false, none, none, some (2, .box [.v (.slice none 0 0)] 133 false)⟩, ⟨.box [I c0, I a0] 63 false, none, none, some (3, .box [I code, I at_] 63 false)⟩, ⟨.box [I code, I at_] 233 false, none, none, none⟩]⟩ ⟨[(0, .sv (.one (.pptr 0 0 (Bk 0)))), (1, .sv (.one (.pptr 1 0 (Bk 1))))], [.box [.v (.slice none 0 0)] 133 false, .box [I code, I at_] 63 false, .gone]⟩ (by kernel_rfl) hn (by kernel_rfl) (by rfl) (by kernel_rfl) ?_ (by kernel_rfl) ?_
   ·exact ⟨.mt ⟨[(3, .sv (.one (.ptr 2 0)))], []⟩ [] none (by kernel_rfl) (by rfl) (mt_ev ht (by kernel_rfl)) rfl rfl rfl rfl,
  .mt ⟨[(11, .sv (.one (.ptr 2 0)))], [.gone, .gone, .box [I code, I at_] 233 false]⟩ [] none (by kernel_rfl) (by rfl) (mt_ev ht (by kernel_rfl)) rfl rfl rfl rfl,
  .mu ⟨[(0, .sv (.one (.pptr 0 0 (Bk 0))))], [.box [LS TimeNode.ty l0] 133 false]⟩ 0 _ _ rfl rfl (by kernel_rfl) (by rfl) (mu_store2 ht rfl (by rfl) (by rfl) (by rfl) (by rfl) (fun h => by cases h) (by rfl) (by rfl)) rfl rfl rfl rfl rfl rfl rfl,
  .mu ⟨[(1, .sv (.one (.pptr 1 0 (Bk 1)))), (12, .sv (.agg [I code, I at_]))], [.gone, .box [I c0, I a0] 63 false]⟩ 1 _ _ rfl rfl (by kernel_rfl) (by rfl) (mu_store2 ht rfl (by rfl) (by rfl) (by rfl) (by rfl) (fun h => by cases h) (by rfl) (by rfl)) rfl rfl rfl rfl rfl rfl rfl,
  trivial⟩
   ·refine En.nilBox (T := TimeNode.ty) 0 0 (by rfl) (by rfl) ?_
    exact En.backE [0, 1] ht () trivial (by kernel_rfl) (by rfl) rfl
  ·cases hb
theorem timIdle (l0 : (List TimeNode)) (c0 a0 : Int) : CtD 128 [.box [LS TimeNode.ty l0] 133 false, .box [I c0, I a0] 63 false] [.box [LS TimeNode.ty l0] 133 false, .box [I c0, I a0] 63 false] (.returning) (.returning) := by
 have ht := tab_ok
 refine CtD.body (pv := .nilIface) (d := 5) Try.func128 rfl rfl rfl (by kernel_rfl) (by kernel_rfl) (by kernel_rfl) rfl rfl rfl (fun c₀ cs hm => by simp [recoverD, hm]) trivial (fun c Bk hn => ?_)
 have h : True := trivial
 refine En.block ?_
 refine En.seq ?_
 refine En.region ?_
 refine WL.val hn (by rfl) (val_nilNil rfl (by rfl) (by rfl) (fun w => by kernel_rfl)) (by rfl) ?_
 refine WL.nil ?_
 refine En.cond (b := true) (by kernel_rfl) (fun hb => ?_) (fun hb => ?_)
 ·refine En.region ?_
  refine WL.run ht hn 1 ⟨[(0, .sv (.one (.pptr 0 0 (Bk 0)))), (1, .sv (.one (.pptr 1 0 (Bk 1))))], [.box [LS TimeNode.ty l0] 133 false, .box [I c0, I a0] 63 false]⟩ (by kernel_rfl) ?_
  refine WL.nil ?_
  exact En.backE [0, 1] ht () trivial (by kernel_rfl) (by rfl) rfl
 ·cases hb
def tParsed_vc (text : ByteArray) (Q : (List TimeNode × ApiFault) → Prop) : Prop :=
 IfP (decide ((text.size : Int) > 4000)) (Q ([], ApiFault.mk 1 0)) ((tOk (4 * text.size + 4) 3 text ⟨0, 0, 0, 0, ([] : (List TimeNode))⟩) ∧
 ((pS text (4 * text.size + 4) 3 ⟨0, 0, 0, 0, ([] : (List TimeNode))⟩) = none → (∀ code at_ : Int, code ≠ 0 → Q ([], ApiFault.mk code at_))) ∧ ∀ r, (pS text (4 * text.size + 4) 3 ⟨0, 0, 0, 0, ([] : (List TimeNode))⟩) = some r →
 (IfP (decide ((r.2.pos) < (text.size : Int))) (((4 : Int) ≠ 0) ∧
 (∀ code at_ : Int, code ≠ 0 → Q ([], ApiFault.mk code at_))) ((0 ≤ (wr ((r.1) + 1)) ∧ (wr ((r.1) + 1)) ≤ ((r.2.ns).length : Int)) ∧
 Q (((r.2.ns).take ((wr ((r.1) + 1)) : Int).toNat), ApiFault.mk 0 0))))
theorem tParsed_walk (text : ByteArray) (Q : (List TimeNode × ApiFault) → Prop) (h : tParsed_vc text Q) : Ct 60 [.sv (.one (.v (.string text)))] [] Q (fun (r : (List TimeNode × ApiFault)) => .tup [.one (LS TimeNode.ty r.1), .agg [I r.2.fCode, I r.2.fAt]]) := by
 have ht := tab_ok
 refine Ct.bodyD Try.func60 rfl rfl rfl (fun c R hn hdf hR hpan => ?_)
 unfold tParsed_vc at h
 refine En.seq ?_
 refine En.region ?_
 refine WL.run ht hn 2 ⟨[sl 0 (.v (.string text)), sl 2 (.ptr 0 0), sl 3 (.ptr 1 0)], [.box [.v (.slice none 0 0)] 133 false, .box [I 0, I 0] 63 false]⟩ (by kernel_rfl) ?_
 refine WL.nil ?_
 refine En.seq ?_
 refine En.seq ?_
 refine En.region ?_
 refine WL.run ht hn 1 ⟨[sl 0 (.v (.string text)), sl 2 (.ptr 0 0), sl 3 (.ptr 1 0), sl 6 (.v (.string text))], [.box [.v (.slice none 0 0)] 133 false, .box [I 0, I 0] 63 false]⟩ (by kernel_rfl) ?_
 refine WL.val hn (by rfl) (val_lenS (s := text) rfl Try.underlying9 (by rfl)) (by rfl) ?_
 refine WL.run ht hn 1 ⟨[sl 0 (.v (.string text)), sl 2 (.ptr 0 0), sl 3 (.ptr 1 0), sl 8 (B (decide ((text.size : Int) > 4000)))], [.box [.v (.slice none 0 0)] 133 false, .box [I 0, I 0] 63 false]⟩ (by kernel_rfl) ?_
 refine WL.nil ?_
 refine En.cond (b := (decide ((text.size : Int) > 4000))) (by kernel_rfl) (fun hb => ?_) (fun hb => ?_)
 replace h := h.1 hb
 refine En.seq ?_
 refine En.region ?_
 refine WL.run ht hn 3 ⟨[sl 2 (.ptr 0 0), sl 3 (.ptr 1 0)], [.box [.v (.slice none 0 0)] 133 false, .box [I 1, I 0] 63 false]⟩ (by kernel_rfl) ?_
 refine WL.nil ?_
 refine En.ret ?_
 refine En.nilBox (T := TimeNode.ty) 0 0 (by rfl) (by rfl) ?_
 exact En.backD0 ht rfl hR hdf ([], ApiFault.mk 1 0) h (by kernel_rfl) rfl
 replace h := h.2 hb
 refine En.skip ?_
 refine En.seq ?_
 refine En.region ?_
 refine WL.run ht hn 1 ⟨[sl 0 (.v (.string text)), sl 2 (.ptr 0 0), sl 3 (.ptr 1 0), sl 10 (.fn 128 [0, 1])], [.box [.v (.slice none 0 0)] 133 false, .box [I 0, I 0] 63 false]⟩ (by kernel_rfl) ?_
 refine WL.defer (F := 128) (t0 := 2) (t1 := 3) (d := 10) (i := 0) (j := 1) (by rfl) rfl rfl (by rfl) (by rfl) (by rfl) hdf (fun c' Bk hn' hw0 hg0 hm0 hpn hdf => ?_)
 replace hR := hR_cast hw0 hg0 hm0 hR
 replace hpan := hpan_cast hpn hpan
 replace hn := hn'.trans hn
 clear hn' hw0 hg0 hm0
 refine WL.sub ⟨[sl 0 (.v (.string text)), sl 2 (.pptr 0 0 (Bk 0)), sl 3 (.pptr 1 0 (Bk 1)), sl 10 (.fn 128 [0, 1])], [.box [.v (.slice none 0 0)] 133 false, .box [I 0, I 0] 63 false]⟩ (by kernel_rfl) ?_
 refine WL.nilBox (T := TimeNode.ty) 0 0 (by rfl) (by rfl) ?_
 refine WL.nil ?_
 refine En.cfg hpn ?_
 refine En.seq ?_
 refine En.region ?_
 refine WL.run ht hn 4 ⟨[sl 0 (.v (.string text)), sl 2 (.pptr 0 0 (Bk 0)), sl 3 (.pptr 1 0 (Bk 1)), sl 4 (.ptr 2 0)], [.box [LS TimeNode.ty []] 133 false, .box [I 0, I 0] 63 false, .box [.v (.string text), I 0, I 0, I 0, I 0, .v (.slice none 0 0)] 236 false]⟩ (by kernel_rfl) ?_
 refine WL.nil ?_
 refine En.seq ?_
 refine En.region ?_
 refine WL.run ht hn 1 ⟨[sl 0 (.v (.string text)), sl 2 (.pptr 0 0 (Bk 0)), sl 3 (.pptr 1 0 (Bk 1)), sl 4 (.ptr 2 0), sl 14 (.ptr 2 0)], [.box [LS TimeNode.ty []] 133 false, .box [I 0, I 0] 63 false, .box [.v (.string text), I 0, I 0, I 0, I 0, .v (.slice none 0 0)] 236 false]⟩ (by kernel_rfl) ?_
 refine WL.nilBoxO (T := TimeNode.ty) 2 5 3 139 (by rfl) (by rfl) (by rfl) (by rfl) ?_
 have hp := h.1
 replace h := h.2
 refine splitO ((pS text (4 * text.size + 4) 3 ⟨0, 0, 0, 0, ([] : (List TimeNode))⟩)) (fun hr_2 => ?_) (fun r hr_2 => ?_)
 exact WL.callX (tI3_bad _ (timeAll _) text 0 0 0 0 ([] : (List TimeNode)) hp hr_2) en129 (caps := []) [2, 3] (by rfl) rfl (by rfl) (argsAs (by kernel_rfl) (by rfl)) (by kernel_rfl) (by decide) (leftD (ty := 233) 2 3 0 1 ht rfl hR hpan hdf (by rfl) (by rfl) (fun code at_ hc => timCatch ([] : (List TimeNode)) 0 0 code at_ hc) en128 (by kernel_rfl) (by kernel_rfl) (by decide) (by rfl) (fun _ _ => by rfl) (fun _ _ => Nat.le_of_ble_eq_true rfl) (fun _ _ => by rfl) (fun _ _ => rfl) (fun code at_ => ([], ApiFault.mk code at_)) (fun code at_ hc => (h.1 hr_2) code at_ hc) (fun _ _ => by kernel_rfl) (fun _ _ => rfl))
 replace h := h.2 r hr_2
 refine WL.callE (tI3_ok _ (timeAll _) text 0 0 0 0 ([] : (List TimeNode)) hp r hr_2) en129 (caps := []) [2, 3] hn (by rfl) rfl (by rfl) (argsAs (by kernel_rfl) (by rfl)) (by kernel_rfl) (by decide) (by rfl) (by rfl) (fun _ _ => ⟨by rfl, _, by rfl, ?_⟩)
 refine WL.run ht hn 1 ⟨[sl 0 (.v (.string text)), sl 2 (.pptr 0 0 (Bk 0)), sl 3 (.pptr 1 0 (Bk 1)), sl 4 (.ptr 2 0), sl 5 (I (r.1))], [.box [LS TimeNode.ty []] 133 false, .box [I 0, I 0] 63 false, .box [.v (.string text), I (r.2.pos), I (r.2.cn), I (r.2.ct), I (r.2.cd), .own 3] 236 false, rowI 139 TimeNode.ty (r.2.ns)]⟩ (by kernel_rfl) ?_
 refine WL.nil ?_
 refine En.seq ?_
 refine En.seq ?_
 refine En.region ?_
 refine WL.run ht hn 5 ⟨[sl 2 (.pptr 0 0 (Bk 0)), sl 3 (.pptr 1 0 (Bk 1)), sl 4 (.ptr 2 0), sl 5 (I (r.1)), sl 19 (I (r.2.pos)), sl 20 (.v (.string text))], [.box [LS TimeNode.ty []] 133 false, .box [I 0, I 0] 63 false, .box [.v (.string text), I (r.2.pos), I (r.2.cn), I (r.2.ct), I (r.2.cd), .own 3] 236 false, rowI 139 TimeNode.ty (r.2.ns)]⟩ (by kernel_rfl) ?_
 refine WL.val hn (by rfl) (val_lenS (s := text) rfl Try.underlying9 (by rfl)) (by rfl) ?_
 refine WL.run ht hn 1 ⟨[sl 2 (.pptr 0 0 (Bk 0)), sl 3 (.pptr 1 0 (Bk 1)), sl 4 (.ptr 2 0), sl 5 (I (r.1)), sl 22 (B (decide ((r.2.pos) < (text.size : Int))))], [.box [LS TimeNode.ty []] 133 false, .box [I 0, I 0] 63 false, .box [.v (.string text), I (r.2.pos), I (r.2.cn), I (r.2.ct), I (r.2.cd), .own 3] 236 false, rowI 139 TimeNode.ty (r.2.ns)]⟩ (by kernel_rfl) ?_
 refine WL.nil ?_
 refine En.cond (b := (decide ((r.2.pos) < (text.size : Int)))) (by kernel_rfl) (fun hb => ?_) (fun hb => ?_)
 replace h := h.1 hb
 refine En.region ?_
 refine WL.run ht hn 1 ⟨[sl 2 (.pptr 0 0 (Bk 0)), sl 3 (.pptr 1 0 (Bk 1)), sl 4 (.ptr 2 0), sl 5 (I (r.1)), sl 23 (.ptr 2 0)], [.box [LS TimeNode.ty []] 133 false, .box [I 0, I 0] 63 false, .box [.v (.string text), I (r.2.pos), I (r.2.cn), I (r.2.ct), I (r.2.cd), .own 3] 236 false, rowI 139 TimeNode.ty (r.2.ns)]⟩ (by kernel_rfl) ?_
 have hp := h.1
 replace h := h.2
 exact WL.callX (tFail_ct text (r.2.pos) (r.2.cn) (r.2.ct) (r.2.cd) (r.2.ns) 4 hp) en130 (caps := []) [2, 3] (by rfl) rfl (by rfl) (argsAs (by kernel_rfl) (by rfl)) (by kernel_rfl) (by decide) (leftD (ty := 233) 2 3 0 1 ht rfl hR hpan hdf (by rfl) (by rfl) (fun code at_ hc => timCatch ([] : (List TimeNode)) 0 0 code at_ hc) en128 (by kernel_rfl) (by kernel_rfl) (by decide) (by rfl) (fun _ _ => by rfl) (fun _ _ => Nat.le_of_ble_eq_true rfl) (fun _ _ => by rfl) (fun _ _ => rfl) (fun code at_ => ([], ApiFault.mk code at_)) (fun code at_ hc => h code at_ hc) (fun _ _ => by kernel_rfl) (fun _ _ => rfl))
 replace h := h.2 hb
 refine En.skip ?_
 refine En.seq ?_
 refine En.region ?_
 refine WL.run ht hn 6 ⟨[sl 2 (.pptr 0 0 (Bk 0)), sl 3 (.pptr 1 0 (Bk 1)), sl 28 (.own 3), sl 30 (I (wr ((r.1) + 1)))], [.box [LS TimeNode.ty []] 133 false, .box [I 0, I 0] 63 false, .gone, rowI 139 TimeNode.ty (r.2.ns)]⟩ (by kernel_rfl) ?_
 have hp_2 := h.1
 replace h := h.2
 refine WL.mt (S2 := ⟨[sl 2 (.pptr 0 0 (Bk 0)), sl 3 (.pptr 1 0 (Bk 1)), sl 30 (I (wr ((r.1) + 1)))], [.box [LS TimeNode.ty []] 133 false, .box [I 0, I 0] 63 false, .gone, rowI 139 TimeNode.ty (r.2.ns)]⟩) (K := [3]) (p := some (3, rowI 139 TimeNode.ty ((r.2.ns).take ((wr ((r.1) + 1)) : Int).toNat))) hn (by rfl) (mt_sliceO (T := TimeNode.ty) (l := (r.2.ns)) (p := 3) (hv := (wr ((r.1) + 1))) ht rfl (by rfl) (by rfl) (by rfl) (by rfl) (by rfl) (by rfl) (by rfl) hp_2) (by kernel_rfl) (by rfl) (by rfl) (by rfl) ?_
 refine WL.run ht hn 3 ⟨[sl 2 (.pptr 0 0 (Bk 0)), sl 3 (.pptr 1 0 (Bk 1))], [.box [.own 3] 133 false, .box [I 0, I 0] 63 false, .gone, rowI 139 TimeNode.ty ((r.2.ns).take ((wr ((r.1) + 1)) : Int).toNat)]⟩ (by kernel_rfl) ?_
 refine WL.nil ?_
 refine En.ret ?_
 refine En.seal (T := TimeNode.ty) (l := ((r.2.ns).take ((wr ((r.1) + 1)) : Int).toNat)) (e := 139) 3 rfl ?_
 exact En.backD 2 3 0 1 ht rfl hR hdf (by rfl) (by rfl) (timIdle (((r.2.ns).take ((wr ((r.1) + 1)) : Int).toNat) : (List TimeNode)) 0 0) en128 (by kernel_rfl) (by decide) (by rfl) (by rfl) (Nat.le_of_ble_eq_true rfl) (by rfl) rfl (((r.2.ns).take ((wr ((r.1) + 1)) : Int).toNat), ApiFault.mk 0 0) h (by kernel_rfl) rfl
theorem en60 : ∀ args w, (callFunc 60 args).run Try.prog w = .ok (.enter 60 args) w := enters_of Try.func60 (by kernel_rfl) rfl
def fullP (text : ByteArray) : Bool := if 4000 < text.size then false else match pS text (4 * text.size + 4) 3 ⟨0, 0, 0, 0, []⟩ with
 | none => false
 | some r => !(decide (r.2.pos < (text.size : Int)))
def TParsedQ (text : ByteArray) (r : List TimeNode × ApiFault) : Prop := (r.2.fCode ≠ 0 ∧ fullP text = false) ∨ (r.2 = ⟨0, 0⟩ ∧ text.size ≤ 4000 ∧ r.1.length ≤ 1000 ∧ WfN r.1 ∧ ∃ t, pT text (4 * text.size + 4) 3 0 = some (t, (text.size : Int)) ∧ 0 < r.1.length ∧ Dec r.1 ((r.1.length : Int) - 1) t)
theorem idx_take {α : Type} {l : List α} {m : Nat} {n : Int} {x : α} (h : idx l n = some x) (hn : n < (m : Int)) : idx (l.take m) n = some x := by
 obtain ⟨h0, h1, h2⟩ := idx_some h
 unfold idx
 rw [if_pos h0, List.getElem?_take_of_lt (by omega)]
 exact h2
theorem WfN.kid {l : List TimeNode} (h : WfN l) {n : Int} {x : TimeNode} (hx : idx l n = some x) : NdOk n x := by
 obtain ⟨h0, h1, h2⟩ := idx_some hx
 have := h n.toNat x h2
 rwa [Int.toNat_of_nonneg h0] at this
theorem Dec.take {l : List TimeNode} (hw : WfN l) {m : Nat} : ∀ {t : TF} {n : Int}, Dec l n t → n < (m : Int) → Dec (l.take m) n t
 | .nev, n, ⟨a, b, h⟩, hn => ⟨a, b, idx_take h hn⟩
 | .p, n, ⟨a, b, h⟩, hn => ⟨a, b, idx_take h hn⟩
 | .q, n, ⟨a, b, h⟩, hn => ⟨a, b, idx_take h hn⟩
 | .no t, n, ⟨a, b, h, k⟩, hn => ⟨a, b, idx_take h hn, k.take hw (Int.lt_trans ((hw.kid h).2.2.1 (by show (3 : Int) ≤ 3; decide)).2 hn)⟩
 | .be t, n, ⟨a, b, h, k⟩, hn => ⟨a, b, idx_take h hn, k.take hw (Int.lt_trans ((hw.kid h).2.2.1 (by show (3 : Int) ≤ 6; decide)).2 hn)⟩
 | .an t u, n, ⟨a, b, h, k, j⟩, hn => ⟨a, b, idx_take h hn, k.take hw (Int.lt_trans ((hw.kid h).2.2.1 (by show (3 : Int) ≤ 4; decide)).2 hn), j.take hw (Int.lt_trans ((hw.kid h).2.2.2 (.inl rfl)).2 hn)⟩
 | .or t u, n, ⟨a, b, h, k, j⟩, hn => ⟨a, b, idx_take h hn, k.take hw (Int.lt_trans ((hw.kid h).2.2.1 (by show (3 : Int) ≤ 5; decide)).2 hn), j.take hw (Int.lt_trans ((hw.kid h).2.2.2 (.inr (.inl rfl))).2 hn)⟩
 | .un t u, n, ⟨a, b, h, k, j⟩, hn => ⟨a, b, idx_take h hn, k.take hw (Int.lt_trans ((hw.kid h).2.2.1 (by show (3 : Int) ≤ 7; decide)).2 hn), j.take hw (Int.lt_trans ((hw.kid h).2.2.2 (.inr (.inr rfl))).2 hn)⟩
theorem WfN.take {l : List TimeNode} (hw : WfN l) (m : Nat) : WfN (l.take m) := fun k n hk => by
 rw [List.getElem?_take] at hk
 split at hk
 ·exact hw k n hk
 ·cases hk
theorem tParsed_ct (text : ByteArray)  : Ct 60 [.sv (.one (.v (.string text)))] [] (TParsedQ text) (fun (r : (List TimeNode × ApiFault)) => .tup [.one (LS TimeNode.ty r.1), .agg [I r.2.fCode, I r.2.fAt]]) := by
 refine tParsed_walk text (TParsedQ text) ?_
 unfold tParsed_vc
 refine ⟨fun hb => .inl ⟨by show (1 : Int) ≠ 0; decide, ?_⟩, fun hb => ?_⟩
 ·have := of_decide_eq_true hb
  unfold fullP
  rw [if_pos (by omega)]
 have hz : text.size ≤ 4000 := by have := of_decide_eq_false hb; omega
 have hg : gOk text ⟨0, 0, 0, 0, []⟩ := ⟨⟨by decide, Int.natCast_nonneg _⟩, ⟨by decide, by decide⟩, ⟨by decide, by decide⟩, ⟨by decide, by decide⟩, by show ((0 : Nat) : Int) + 5 * (31 - 0) ≤ 1000; decide⟩
 refine ⟨tOk_of hz hg (by show 4 * ((text.size : Int) - 0) + 3 < ((4 * text.size + 4 : Nat) : Int); omega), fun hn code at_ hc => .inl ⟨hc, ?_⟩, fun r hr => ?_⟩
 ·unfold fullP
  rw [if_neg (by omega), hn]
 have G := pS_good _ _ _ r hz hg hr
 obtain ⟨t, zt, ht⟩ := G.put
 refine ⟨fun hb2 => ⟨by decide, fun code at_ hc => .inl ⟨hc, ?_⟩⟩, fun hb2 => ?_⟩
 ·unfold fullP
  rw [if_neg (by omega), hr]
  show (!(decide (r.2.pos < (text.size : Int)))) = false
  rw [hb2]
  rfl
 have hb2 := of_decide_eq_false hb2
 have hend := G.pre.ok.1.2
 have hlen := G.pre.ok.len
 obtain ⟨i0, i1⟩ := ht.in_
 have hwf := ht.wf (fun k n hk => by cases hk)
 rw [wr_in (n := r.1 + 1) (by omega) (by omega)]
 refine ⟨⟨by omega, by omega⟩, .inr ⟨rfl, hz, ?_, hwf.take _, t, ?_, ?_, ?_⟩⟩
 ·show (r.2.ns.take (r.1 + 1).toNat).length ≤ 1000
  rw [List.length_take]
  omega
 ·have : r.2.pos = (text.size : Int) := by omega
  rw [← this]
  exact zt
 ·show 0 < (r.2.ns.take (r.1 + 1).toNat).length
  rw [List.length_take]
  omega
 ·show Dec (r.2.ns.take (r.1 + 1).toNat) (((r.2.ns.take (r.1 + 1).toNat).length : Int) - 1) t
  have e : (((r.2.ns.take (r.1 + 1).toNat).length : Nat) : Int) - 1 = r.1 := by
   rw [List.length_take]
   omega
  rw [e]
  exact ht.dec.take hwf (by omega)
def mayW_vc (n : Int) (w : (List Int)) (Q : Int → Prop) : Prop :=
 w.length ≤ 9223372036854775807 →
 (IfP ((decide (n < 1)) || (decide (n > 4))) (Q 2) (IfP (decide ((w.length : Int) > 60)) (Q 1) (∃ (Inv : Int → Prop) (mu : Int → Nat), Inv 0 ∧
 ∀ (x18 : Int) , Inv x18 → (IfP (decide (x18 < (w.length : Int))) (∃ e, idx w x18 = some e ∧
 IfP ((decide (e < 0)) || (decide (e ≥ n))) (Q 2) ((Inv (wr (x18 + 1)) ∧ mu (wr (x18 + 1)) < mu x18))) (Q 0)))))
theorem mayW_walk (n : Int) (w : (List Int)) (Q : Int → Prop) (h : mayW_vc n w Q) : Ct 88 [.sv (.one (I n)), .sv (.one (LS intT w))] [] Q (fun (r : Int) => .sv (.one (I r))) := by
 have ht := tab_ok
 refine Ct.body Try.func88 rfl rfl rfl rfl (fun c hn => ?_)
 unfold mayW_vc at h
 refine En.lenL 1 (by rfl) (fun hl => ?_)
 replace h := h hl
 clear hl
 refine En.seq ?_
 refine En.region ?_
 refine WL.run ht hn 1 ⟨[sl 0 (I n), sl 1 (LS intT w)], []⟩ (by kernel_rfl) ?_
 refine WL.nil ?_
 refine En.seq ?_
 refine En.seq ?_
 refine En.region ?_
 refine WL.run ht hn 3 ⟨[sl 0 (I n), sl 1 (LS intT w), sl 9 (B (decide (n < 1)))], []⟩ (by kernel_rfl) ?_
 refine WL.thru ⟨[sl 0 (I n), sl 1 (LS intT w), sl 12 (B ((decide (n < 1)) || (decide (n > 4))))], []⟩ ?_ ?_
 refine splitB (decide (n < 1)) (fun hb0 => ?_) (fun hb0 => ?_)
 refine WL.setB 9 hb0 (by kernel_rfl) ?_
 refine WL.run ht hn 3 ⟨[sl 0 (I n), sl 1 (LS intT w), sl 12 (B true)], []⟩ (by kernel_rfl) ?_
 exact WL.nil (sub_ok (by simp only [hb0]; kernel_rfl))
 refine WL.setB 9 hb0 (by kernel_rfl) ?_
 refine WL.run ht hn 3 ⟨[sl 0 (I n), sl 1 (LS intT w), sl 12 (B (decide (n > 4)))], []⟩ (by kernel_rfl) ?_
 exact WL.nil (sub_ok (by simp only [hb0]; kernel_rfl))
 refine En.cond (b := ((decide (n < 1)) || (decide (n > 4)))) (by kernel_rfl) (fun hb => ?_) (fun hb => ?_)
 replace h := h.1 hb
 refine En.seq ?_
 refine En.region ?_
 refine WL.run ht hn 1 ⟨[sl 4 (I 2)], []⟩ (by kernel_rfl) ?_
 refine WL.nil ?_
 refine En.ret ?_
 exact En.back ht 2 h (by kernel_rfl) rfl
 replace h := h.2 hb
 refine En.skip ?_
 refine En.seq ?_
 refine En.seq ?_
 refine En.region ?_
 refine WL.run ht hn 3 ⟨[sl 0 (I n), sl 1 (LS intT w), sl 15 (B (decide ((w.length : Int) > 60)))], []⟩ (by kernel_rfl) ?_
 refine WL.nil ?_
 refine En.cond (b := (decide ((w.length : Int) > 60))) (by kernel_rfl) (fun hb => ?_) (fun hb => ?_)
 replace h := h.1 hb
 refine En.seq ?_
 refine En.region ?_
 refine WL.run ht hn 1 ⟨[sl 4 (I 1)], []⟩ (by kernel_rfl) ?_
 refine WL.nil ?_
 refine En.ret ?_
 exact En.back ht 1 h (by kernel_rfl) rfl
 replace h := h.2 hb
 refine En.skip ?_
 refine En.seq ?_
 refine En.seq ?_
 refine En.region ?_
 refine WL.run ht hn 3 ⟨[sl 0 (I n), sl 16 (LS intT w), sl 17 (I (w.length : Int)), sl 18 (I 0)], []⟩ (by kernel_rfl) ?_
 refine WL.nil ?_
 refine En.block ?_
 obtain ⟨Inv, mu, h0, hI⟩ := h
 refine En.loop (σ := Int) (fun zz => Inv zz) (fun zz => mu zz) (fun zz => ⟨[sl 0 (I n), sl 16 (LS intT w), sl 17 (I (w.length : Int)), sl 18 (I zz)], []⟩) 0 h0 (sub_ok (by kernel_rfl)) ?_
 intro x18 h
 replace h := hI _ h
 show En c ⟨[sl 0 (I n), sl 16 (LS intT w), sl 17 (I (w.length : Int)), sl 18 (I x18)], []⟩ _
 refine En.seq ?_
 refine En.region ?_
 refine WL.run ht hn 1 ⟨[sl 0 (I n), sl 16 (LS intT w), sl 17 (I (w.length : Int)), sl 18 (I x18), sl 19 (B (decide (x18 < (w.length : Int))))], []⟩ (by kernel_rfl) ?_
 refine WL.nil ?_
 refine En.seq ?_
 refine En.cond (b := (decide (x18 < (w.length : Int)))) (by kernel_rfl) (fun hb => ?_) (fun hb => ?_)
 replace h := h.1 hb
 refine En.skip ?_
 refine En.seq ?_
 refine En.block ?_
 refine En.seq ?_
 refine En.region ?_
 obtain ⟨e, he, h⟩ := h
 refine WL.val hn (by rfl) (val_index (T := intT) (l := w) (i := x18) ht rfl (by rfl) (by rfl) (by rfl) (by rfl) (by rfl) (by rfl) he) (by rfl) ?_
 refine WL.val hn (by rfl) (val_load (s := .one (I e)) ht rfl (by rfl) (by rfl) (by rfl) (by rfl) (by rfl)) (by rfl) ?_
 refine WL.run ht hn 1 ⟨[sl 0 (I n), sl 6 (I e), sl 16 (LS intT w), sl 17 (I (w.length : Int)), sl 18 (I x18)], []⟩ (by kernel_rfl) ?_
 refine WL.nil ?_
 refine En.seq ?_
 refine En.region ?_
 refine WL.run ht hn 3 ⟨[sl 0 (I n), sl 6 (I e), sl 16 (LS intT w), sl 17 (I (w.length : Int)), sl 18 (I x18), sl 24 (B (decide (e < 0)))], []⟩ (by kernel_rfl) ?_
 refine WL.thru ⟨[sl 0 (I n), sl 16 (LS intT w), sl 17 (I (w.length : Int)), sl 18 (I x18), sl 28 (B ((decide (e < 0)) || (decide (e ≥ n))))], []⟩ ?_ ?_
 refine splitB (decide (e < 0)) (fun hb0 => ?_) (fun hb0 => ?_)
 refine WL.setB 24 hb0 (by kernel_rfl) ?_
 refine WL.run ht hn 4 ⟨[sl 0 (I n), sl 16 (LS intT w), sl 17 (I (w.length : Int)), sl 18 (I x18), sl 28 (B true)], []⟩ (by kernel_rfl) ?_
 exact WL.nil (sub_ok (by simp only [hb0]; kernel_rfl))
 refine WL.setB 24 hb0 (by kernel_rfl) ?_
 refine WL.run ht hn 4 ⟨[sl 0 (I n), sl 16 (LS intT w), sl 17 (I (w.length : Int)), sl 18 (I x18), sl 28 (B (decide (e ≥ n)))], []⟩ (by kernel_rfl) ?_
 exact WL.nil (sub_ok (by simp only [hb0]; kernel_rfl))
 refine En.cond (b := ((decide (e < 0)) || (decide (e ≥ n)))) (by kernel_rfl) (fun hb => ?_) (fun hb => ?_)
 replace h := h.1 hb
 refine En.seq ?_
 refine En.region ?_
 refine WL.run ht hn 1 ⟨[sl 4 (I 2)], []⟩ (by kernel_rfl) ?_
 refine WL.nil ?_
 refine En.ret ?_
 exact En.back ht 2 h (by kernel_rfl) rfl
 replace h := h.2 hb
 refine En.skip ?_
 refine En.region ?_
 refine WL.run ht hn 2 ⟨[sl 0 (I n), sl 16 (LS intT w), sl 17 (I (w.length : Int)), sl 18 (I (wr (x18 + 1)))], []⟩ (by kernel_rfl) ?_
 refine WL.nil ?_
 exact En.at (I := fun zz => Inv zz ∧ mu zz < mu x18) (T := fun zz => ⟨[sl 0 (I n), sl 16 (LS intT w), sl 17 (I (w.length : Int)), sl 18 (I zz)], []⟩) (wr (x18 + 1)) h (by kernel_rfl)
 replace h := h.2 hb
 refine En.exit rfl ?_
 refine En.seq ?_
 refine En.region ?_
 refine WL.run ht hn 1 ⟨[sl 4 (I 0)], []⟩ (by kernel_rfl) ?_
 refine WL.nil ?_
 refine En.ret ?_
 exact En.back ht 0 h (by kernel_rfl) rfl
theorem en88 : ∀ args w, (callFunc 88 args).run Try.prog w = .ok (.enter 88 args) w := enters_of Try.func88 (by kernel_rfl) rfl
def mayE (n : Int) (w : List Int) : Int := if (decide (n < 1)) || (decide (n > 4)) then 2 else if w.length > 60 then 1 else if w.any (fun a => (decide (a < 0)) || (decide (a ≥ n))) then 2 else 0
theorem mayE_ok {n : Int} {w : List Int} (h : mayE n w = 0) : w.length ≤ 60 ∧ ∀ a ∈ w, 0 ≤ a ∧ a < n := by
 unfold mayE at h
 split at h
 ·cases h
 split at h
 ·cases h
 split at h
 ·cases h
 rename_i _ h2 h3
 refine ⟨by omega, fun a ha => ?_⟩
 have := (Bool.not_eq_true _).mp h3
 rw [List.any_eq_false] at this
 have := this a ha
 simp at this
 omega
theorem mayW_ct (n : Int) (w : (List Int))  : Ct 88 [.sv (.one (I n)), .sv (.one (LS intT w))] [] (fun (_ : Unit) => True) (fun _ => .sv (.one (I (mayE n w)))) := by
 refine (mayW_walk n w (fun res_ => res_ = (mayE n w)) ?_).fun
 intro hl
 refine ⟨fun h => ?_, fun h => ⟨fun h2 => ?_, fun h2 => ?_⟩⟩
 ·show _ = mayE n w
  unfold mayE
  rw [if_pos h]
 ·show _ = mayE n w
  have := of_decide_eq_true h2
  unfold mayE
  rw [if_neg (by rw [h]; decide), if_pos (by omega)]
 have h2 := of_decide_eq_false h2
 refine ⟨fun i => ∃ k : Nat, i = k ∧ k ≤ w.length ∧ (w.take k).any (fun a => (decide (a < 0)) || (decide (a ≥ n))) = false, fun i => w.length - i.toNat, ⟨0, rfl, Nat.zero_le _, rfl⟩, ?_⟩
 rintro i ⟨k, rfl, hk, ht⟩
 refine ⟨fun hb => ?_, fun hb => ?_⟩
 ·have hlt := dlt hb
  refine ⟨_, idx_at hlt, fun hne => ?_, fun he => ⟨⟨k + 1, wsucc (by omega), hlt, ?_⟩, mu_up hlt (by omega)⟩⟩
  ·show _ = mayE n w
   unfold mayE
   rw [if_neg (by rw [h]; decide), if_neg (by omega), if_pos (List.any_eq_true.2 ⟨_, List.getElem_mem hlt, hne⟩)]
  ·rw [List.take_add_one, List.any_append, ht, List.getElem?_eq_getElem hlt]
   simpa using he
 ·have hge := dge hb
  rw [List.take_of_length_le hge] at ht
  show _ = mayE n w
  unfold mayE
  rw [if_neg (by rw [h]; decide), if_neg (by omega), if_neg (by rw [ht]; decide)]
def CheckQ (text : ByteArray) (r : ApiFault) : Prop := r.fCode ≠ 0 ∨ (text.size ≤ 4000 ∧ ∃ t, pT text (4 * text.size + 4) 3 0 = some (t, (text.size : Int)))
def lasE (n : Int) (w : ApiLasso) : Int := if mayE n w.fHead ≠ 0 then mayE n w.fHead else if mayE n w.fLoop ≠ 0 then mayE n w.fLoop else if w.fLoop.length = 0 then 1 else 0
def PlPre (n : TimeNode) (is : List Bool) : Prop := (n.fKind = 3 ∨ n.fKind = 4 ∨ n.fKind = 5 → 0 ≤ n.fA ∧ n.fA < (is.length : Int)) ∧ (n.fKind = 4 ∨ n.fKind = 5 → 0 ≤ n.fB ∧ n.fB < (is.length : Int))
def plR (n : TimeNode) (letter : Int) (is : List Bool) : Bool :=
 if n.fKind = 1 then bitsI .and .i64 letter 1 == 1 else if n.fKind = 2 then bitsI .and .i64 letter 2 == 2 else if n.fKind = 3 then !(is.getD n.fA.toNat false)
 else if n.fKind = 4 then is.getD n.fA.toNat false && is.getD n.fB.toNat false else if n.fKind = 5 then is.getD n.fA.toNat false || is.getD n.fB.toNat false else false
def tCheck_vc (text : ByteArray) (Q : ApiFault → Prop) : Prop :=
 ∀ r : ((List TimeNode) × ApiFault), (TParsedQ text) r →
 (Q r.2)
theorem tCheck_walk (text : ByteArray) (Q : ApiFault → Prop) (h : tCheck_vc text Q) : Ct 22 [.sv (.one (.v (.string text)))] [] Q (fun (r : ApiFault) => .sv (.agg [I r.fCode, I r.fAt])) := by
 have ht := tab_ok
 refine Ct.body Try.func22 rfl rfl rfl rfl (fun c hn => ?_)
 unfold tCheck_vc at h
 refine En.seq ?_
 refine En.region ?_
 refine WL.run ht hn 1 ⟨[sl 0 (.v (.string text)), sl 2 (.ptr 0 0)], [.box [I 0, I 0] 63 false]⟩ (by kernel_rfl) ?_
 refine WL.nil ?_
 refine En.seq ?_
 refine En.region ?_
 refine WL.run ht hn 1 ⟨[sl 2 (.ptr 0 0), sl 6 (.v (.string text))], [.box [I 0, I 0] 63 false]⟩ (by kernel_rfl) ?_
 refine WL.mtQ (Q := TParsedQ text) (x := fun (r : ((List TimeNode) × ApiFault)) => .tup [.one (LS TimeNode.ty r.1), .agg (ApiFault.cl r.2)]) (p := fun _ => none) hn (by rfl) (mtq_call (tParsed_ct text) en60 (caps := []) [] rfl (by rfl) (by kernel_rfl) (by kernel_rfl) (by rfl) (fun _ => rfl) (by rfl)) (fun r hr_2 => ⟨by rfl, _, by rfl, ?_⟩)
 replace h := h r hr_2
 refine WL.run ht hn 6 ⟨[sl 2 (.ptr 0 0), sl 4 (.ptr 1 0)], [.box [I 0, I 0] 63 false, .box (ApiFault.cl r.2) 63 false]⟩ (by kernel_rfl) ?_
 refine WL.nil ?_
 refine En.seq ?_
 refine En.region ?_
 refine WL.run ht hn 2 ⟨[sl 2 (.ptr 0 0)], [.box (ApiFault.cl r.2) 63 false, .gone]⟩ (by kernel_rfl) ?_
 refine WL.nil ?_
 refine En.ret ?_
 exact En.back ht r.2 h (by kernel_rfl) rfl
theorem en22 : ∀ args w, (callFunc 22 args).run Try.prog w = .ok (.enter 22 args) w := enters_of Try.func22 (by kernel_rfl) rfl
theorem tCheck_ct (text : ByteArray)  : Ct 22 [.sv (.one (.v (.string text)))] [] (CheckQ text) (fun (r : ApiFault) => .sv (.agg [I r.fCode, I r.fAt])) := by
 refine tCheck_walk text (CheckQ text) ?_
 unfold tCheck_vc
 intro r hr
 rcases hr with h | ⟨h, hz, _, _, t, ht, _⟩
 ·exact .inl h.1
 ·exact .inr ⟨hz, t, ht⟩
def lassoW_vc (n : Int) (w : ApiLasso) (Q : Int → Prop) : Prop :=
 w.fHead.length ≤ 9223372036854775807 →
 w.fLoop.length ≤ 9223372036854775807 →
 (∃ (Inv : Int → Prop) (mu : Int → Nat), Inv 0 ∧
 ∀ (x13 : Int) , Inv x13 → (IfP (decide (x13 < 2)) (∃ e, idx ([w.fHead, w.fLoop] : List (List Int)) x13 = some e ∧
 IfP ((mayE n e) != 0) (Q (mayE n e)) ((Inv (wr (x13 + 1)) ∧ mu (wr (x13 + 1)) < mu x13))) (IfP ((w.fLoop.length : Int) == 0) (Q 1) (Q 0))))
theorem lassoW_walk (n : Int) (w : ApiLasso) (Q : Int → Prop) (h : lassoW_vc n w Q) : Ct 61 [.sv (.one (I n)), .sv (.agg [LS intT w.fHead, LS intT w.fLoop])] [] Q (fun (r : Int) => .sv (.one (I r))) := by
 have ht := tab_ok
 refine Ct.body Try.func61 rfl rfl rfl rfl (fun c hn => ?_)
 unfold lassoW_vc at h
 refine En.lenA 1 0 (by rfl) (by rfl) (fun hl => ?_)
 replace h := h hl
 clear hl
 refine En.lenA 1 1 (by rfl) (by rfl) (fun hl => ?_)
 replace h := h hl
 clear hl
 refine En.seq ?_
 refine En.region ?_
 refine WL.run ht hn 2 ⟨[sl 0 (I n), sl 3 (.ptr 0 0)], [.box (ApiLasso.cl w) 59 false]⟩ (by kernel_rfl) ?_
 refine WL.nil ?_
 refine En.seq ?_
 refine En.seq ?_
 refine En.region ?_
 refine WL.run ht hn 6 ⟨[sl 0 (I n), sl 3 (.ptr 0 0), (12, .sv (.agg (ApiLasso.cl w))), sl 13 (I 0)], [.box (ApiLasso.cl w) 59 false]⟩ (by kernel_rfl) ?_
 refine WL.nil ?_
 refine En.block ?_
 obtain ⟨Inv, mu, h0, hI⟩ := h
 refine En.loop (σ := Int) (fun zz => Inv zz) (fun zz => mu zz) (fun zz => ⟨[sl 0 (I n), sl 3 (.ptr 0 0), (12, .sv (.agg (ApiLasso.cl w))), sl 13 (I zz)], [.box (ApiLasso.cl w) 59 false]⟩) 0 h0 (sub_ok (by kernel_rfl)) ?_
 intro x13 h
 replace h := hI _ h
 show En c ⟨[sl 0 (I n), sl 3 (.ptr 0 0), (12, .sv (.agg (ApiLasso.cl w))), sl 13 (I x13)], [.box (ApiLasso.cl w) 59 false]⟩ _
 refine En.seq ?_
 refine En.region ?_
 refine WL.run ht hn 1 ⟨[sl 0 (I n), sl 3 (.ptr 0 0), (12, .sv (.agg (ApiLasso.cl w))), sl 13 (I x13), sl 14 (B (decide (x13 < 2)))], [.box (ApiLasso.cl w) 59 false]⟩ (by kernel_rfl) ?_
 refine WL.nil ?_
 refine En.seq ?_
 refine En.cond (b := (decide (x13 < 2))) (by kernel_rfl) (fun hb => ?_) (fun hb => ?_)
 replace h := h.1 hb
 refine En.skip ?_
 refine En.seq ?_
 refine En.block ?_
 refine En.seq ?_
 refine En.region ?_
 obtain ⟨e, he, h⟩ := h
 refine WL.val hn (by rfl) (val_indexA (T := intT) (ls := ([w.fHead, w.fLoop] : List (List Int))) (k := x13) ht rfl Try.underlying238 (by rfl) (by rfl) (by rfl) (by rfl) rfl (by rfl) (by rfl) he) (by rfl) ?_
 refine WL.run ht hn 1 ⟨[sl 0 (I n), sl 3 (.ptr 0 0), sl 6 (LS intT e), (12, .sv (.agg (ApiLasso.cl w))), sl 13 (I x13)], [.box (ApiLasso.cl w) 59 false]⟩ (by kernel_rfl) ?_
 refine WL.nil ?_
 refine En.seq ?_
 refine En.region ?_
 refine WL.run ht hn 2 ⟨[sl 0 (I n), sl 3 (.ptr 0 0), (12, .sv (.agg (ApiLasso.cl w))), sl 13 (I x13), sl 16 (I n), sl 17 (LS intT e)], [.box (ApiLasso.cl w) 59 false]⟩ (by kernel_rfl) ?_
 refine WL.mt0 (K := []) (p := none) hn (by rfl) (mt_call (mayW_ct n e) en88 (caps := []) [] rfl (by rfl) (by kernel_rfl) (by kernel_rfl) (by rfl) (by rfl) (by rfl)) (by rfl) (by rfl) (by rfl) ?_
 refine WL.run ht hn 1 ⟨[sl 0 (I n), sl 3 (.ptr 0 0), sl 7 (I (mayE n e)), (12, .sv (.agg (ApiLasso.cl w))), sl 13 (I x13)], [.box (ApiLasso.cl w) 59 false]⟩ (by kernel_rfl) ?_
 refine WL.nil ?_
 refine En.seq ?_
 refine En.region ?_
 refine WL.run ht hn 2 ⟨[sl 0 (I n), sl 3 (.ptr 0 0), sl 7 (I (mayE n e)), (12, .sv (.agg (ApiLasso.cl w))), sl 13 (I x13), sl 20 (B ((mayE n e) != 0))], [.box (ApiLasso.cl w) 59 false]⟩ (by kernel_rfl) ?_
 refine WL.nil ?_
 refine En.cond (b := ((mayE n e) != 0)) (by kernel_rfl) (fun hb => ?_) (fun hb => ?_)
 replace h := h.1 hb
 refine En.seq ?_
 refine En.region ?_
 refine WL.run ht hn 2 ⟨[sl 4 (I (mayE n e))], [.gone]⟩ (by kernel_rfl) ?_
 refine WL.nil ?_
 refine En.ret ?_
 exact En.back ht (mayE n e) h (by kernel_rfl) rfl
 replace h := h.2 hb
 refine En.skip ?_
 refine En.region ?_
 refine WL.run ht hn 2 ⟨[sl 0 (I n), sl 3 (.ptr 0 0), (12, .sv (.agg (ApiLasso.cl w))), sl 13 (I (wr (x13 + 1)))], [.box (ApiLasso.cl w) 59 false]⟩ (by kernel_rfl) ?_
 refine WL.nil ?_
 exact En.at (I := fun zz => Inv zz ∧ mu zz < mu x13) (T := fun zz => ⟨[sl 0 (I n), sl 3 (.ptr 0 0), (12, .sv (.agg (ApiLasso.cl w))), sl 13 (I zz)], [.box (ApiLasso.cl w) 59 false]⟩) (wr (x13 + 1)) h (by kernel_rfl)
 replace h := h.2 hb
 refine En.exit rfl ?_
 refine En.seq ?_
 refine En.seq ?_
 refine En.region ?_
 refine WL.run ht hn 4 ⟨[sl 26 (B ((w.fLoop.length : Int) == 0))], [.gone]⟩ (by kernel_rfl) ?_
 refine WL.nil ?_
 refine En.cond (b := ((w.fLoop.length : Int) == 0)) (by kernel_rfl) (fun hb => ?_) (fun hb => ?_)
 replace h := h.1 hb
 refine En.seq ?_
 refine En.region ?_
 refine WL.run ht hn 1 ⟨[sl 4 (I 1)], [.gone]⟩ (by kernel_rfl) ?_
 refine WL.nil ?_
 refine En.ret ?_
 exact En.back ht 1 h (by kernel_rfl) rfl
 replace h := h.2 hb
 refine En.skip ?_
 refine En.seq ?_
 refine En.region ?_
 refine WL.run ht hn 1 ⟨[sl 4 (I 0)], [.gone]⟩ (by kernel_rfl) ?_
 refine WL.nil ?_
 refine En.ret ?_
 exact En.back ht 0 h (by kernel_rfl) rfl
theorem en61 : ∀ args w, (callFunc 61 args).run Try.prog w = .ok (.enter 61 args) w := enters_of Try.func61 (by kernel_rfl) rfl
theorem lassoW_ct (n : Int) (w : ApiLasso)  : Ct 61 [.sv (.one (I n)), .sv (.agg [LS intT w.fHead, LS intT w.fLoop])] [] (fun (_ : Unit) => True) (fun _ => .sv (.one (I (lasE n w)))) := by
 refine (lassoW_walk n w (fun res_ => res_ = (lasE n w)) ?_).fun
 unfold lassoW_vc
 intro _ _
 refine ⟨fun i => ∃ k : Nat, i = k ∧ k ≤ 2 ∧ (1 ≤ k → mayE n w.fHead = 0) ∧ (2 ≤ k → mayE n w.fLoop = 0), fun i => 2 - i.toNat, ⟨0, rfl, by decide, fun h => by omega, fun h => by omega⟩, ?_⟩
 rintro _ ⟨k, rfl, hk, h1, h2⟩
 refine ⟨fun hb => ?_, fun hb => ?_⟩
 ·have hlt : k < 2 := by have := of_decide_eq_true hb; omega
  have hw : wr ((k : Int) + 1) = ((k + 1 : Nat) : Int) := by rw [wr_in (by omega) (by omega)]; rfl
  have hk2 : k = 0 ∨ k = 1 := by omega
  rcases hk2 with rfl | rfl
  ·refine ⟨w.fHead, rfl, fun hc => ?_, fun hc => ⟨⟨1, rfl, by decide, fun _ => ?_, fun h => by omega⟩, by decide⟩⟩
   ·show _ = lasE n w
    unfold lasE
    rw [if_pos (bne_iff_ne.1 hc)]
   ·rwa [bne_eq_false_iff_eq] at hc
  ·refine ⟨w.fLoop, rfl, fun hc => ?_, fun hc => ⟨⟨2, rfl, by decide, fun _ => h1 (by decide), fun _ => ?_⟩, by decide⟩⟩
   ·show _ = lasE n w
    unfold lasE
    rw [if_neg (fun h => h (h1 (by decide))), if_pos (bne_iff_ne.1 hc)]
   ·rwa [bne_eq_false_iff_eq] at hc
 ·have hk2 : k = 2 := by have := of_decide_eq_false hb; omega
  subst hk2
  have e : lasE n w = if w.fLoop.length = 0 then 1 else 0 := by
   unfold lasE
   rw [if_neg (fun h => h (h1 (by decide))), if_neg (fun h => h (h2 (by decide)))]
  refine ⟨fun hc => ?_, fun hc => ?_⟩
  ·rw [e, if_pos (by have := eq_of_beq hc; omega)]
  ·rw [e, if_neg (by rw [beq_eq_false_iff_ne] at hc; omega)]
def tPlain_vc (n : TimeNode) (letter : Int) (is : (List Bool)) (Q : Bool → Prop) : Prop :=
 is.length ≤ 9223372036854775807 →
 (IfP (n.fKind == 1) (Q ((bitsI .and .i64 letter 1) == 1)) (IfP (n.fKind == 2) (Q ((bitsI .and .i64 letter 2) == 2)) (IfP (n.fKind == 3) (∃ e, idx is n.fA = some e ∧
 Q (!e)) (IfP (n.fKind == 4) (∃ J : Bool → Prop, (∃ e_2, idx is n.fA = some e_2 ∧
 IfP e_2 (∃ e_3, idx is n.fB = some e_3 ∧
 J e_3) (J false)) ∧
 (∀ (x6 : Bool), J x6 → Q x6)) (IfP (n.fKind == 5) (∃ J_2 : Bool → Prop, (∃ e_4, idx is n.fA = some e_4 ∧
 IfP e_4 (J_2 true) (∃ e_5, idx is n.fB = some e_5 ∧
 J_2 e_5)) ∧
 (∀ (x6_2 : Bool), J_2 x6_2 → Q x6_2)) (Q false))))))
theorem tPlain_walk (n : TimeNode) (letter : Int) (is : (List Bool)) (Q : Bool → Prop) (h : tPlain_vc n letter is Q) : Ct 63 [.sv (.agg [I n.fKind, I n.fA, I n.fB]), .sv (.one (I letter)), .sv (.one (LS boolT is))] [] Q (fun (r : Bool) => .sv (.one (B r))) := by
 have ht := tab_ok
 refine Ct.body Try.func63 rfl rfl rfl rfl (fun c hn => ?_)
 unfold tPlain_vc at h
 refine En.lenL 2 (by rfl) (fun hl => ?_)
 replace h := h hl
 clear hl
 refine En.seq ?_
 refine En.region ?_
 refine WL.run ht hn 2 ⟨[sl 1 (I letter), sl 2 (LS boolT is), sl 3 (.ptr 0 0)], [.box (TimeNode.cl n) 139 false]⟩ (by kernel_rfl) ?_
 refine WL.nil ?_
 refine En.seq ?_
 refine En.seq ?_
 refine En.region ?_
 refine WL.run ht hn 2 ⟨[sl 1 (I letter), sl 2 (LS boolT is), sl 3 (.ptr 0 0), sl 8 (I n.fKind)], [.box (TimeNode.cl n) 139 false]⟩ (by kernel_rfl) ?_
 refine WL.nil ?_
 refine En.block ?_
 refine En.seq ?_
 refine En.region ?_
 refine WL.run ht hn 2 ⟨[sl 1 (I letter), sl 2 (LS boolT is), sl 3 (.ptr 0 0), sl 8 (I n.fKind), sl 9 (B (n.fKind == 1))], [.box (TimeNode.cl n) 139 false]⟩ (by kernel_rfl) ?_
 refine WL.nil ?_
 refine En.cond (b := (n.fKind == 1)) (by kernel_rfl) (fun hb => ?_) (fun hb => ?_)
 replace h := h.1 hb
 refine En.seq ?_
 refine En.region ?_
 refine WL.run ht hn 4 ⟨[sl 6 (B ((bitsI .and .i64 letter 1) == 1))], [.gone]⟩ (by kernel_rfl) ?_
 refine WL.nil ?_
 refine En.ret ?_
 exact En.back ht ((bitsI .and .i64 letter 1) == 1) h (by kernel_rfl) rfl
 replace h := h.2 hb
 refine En.seq ?_
 refine En.region ?_
 refine WL.run ht hn 2 ⟨[sl 1 (I letter), sl 2 (LS boolT is), sl 3 (.ptr 0 0), sl 8 (I n.fKind), sl 14 (B (n.fKind == 2))], [.box (TimeNode.cl n) 139 false]⟩ (by kernel_rfl) ?_
 refine WL.nil ?_
 refine En.cond (b := (n.fKind == 2)) (by kernel_rfl) (fun hb => ?_) (fun hb => ?_)
 replace h := h.1 hb
 refine En.seq ?_
 refine En.region ?_
 refine WL.run ht hn 4 ⟨[sl 6 (B ((bitsI .and .i64 letter 2) == 2))], [.gone]⟩ (by kernel_rfl) ?_
 refine WL.nil ?_
 refine En.ret ?_
 exact En.back ht ((bitsI .and .i64 letter 2) == 2) h (by kernel_rfl) rfl
 replace h := h.2 hb
 refine En.seq ?_
 refine En.region ?_
 refine WL.run ht hn 2 ⟨[sl 2 (LS boolT is), sl 3 (.ptr 0 0), sl 8 (I n.fKind), sl 19 (B (n.fKind == 3))], [.box (TimeNode.cl n) 139 false]⟩ (by kernel_rfl) ?_
 refine WL.nil ?_
 refine En.cond (b := (n.fKind == 3)) (by kernel_rfl) (fun hb => ?_) (fun hb => ?_)
 replace h := h.1 hb
 refine En.seq ?_
 refine En.region ?_
 refine WL.run ht hn 3 ⟨[sl 21 (LS boolT is), sl 23 (I n.fA)], [.gone]⟩ (by kernel_rfl) ?_
 obtain ⟨e, he, h⟩ := h
 refine WL.val hn (by rfl) (val_index (T := boolT) (l := is) (i := n.fA) ht rfl (by rfl) (by rfl) (by rfl) (by rfl) (by rfl) (by rfl) he) (by rfl) ?_
 refine WL.val hn (by rfl) (val_load (s := .one (B e)) ht rfl (by rfl) (by rfl) (by rfl) (by rfl) (by rfl)) (by rfl) ?_
 refine WL.run ht hn 2 ⟨[sl 6 (B (!e))], [.gone]⟩ (by kernel_rfl) ?_
 refine WL.nil ?_
 refine En.ret ?_
 exact En.back ht (!e) h (by kernel_rfl) rfl
 replace h := h.2 hb
 refine En.seq ?_
 refine En.region ?_
 refine WL.run ht hn 2 ⟨[sl 2 (LS boolT is), sl 3 (.ptr 0 0), sl 8 (I n.fKind), sl 27 (B (n.fKind == 4))], [.box (TimeNode.cl n) 139 false]⟩ (by kernel_rfl) ?_
 refine WL.nil ?_
 refine En.cond (b := (n.fKind == 4)) (by kernel_rfl) (fun hb => ?_) (fun hb => ?_)
 replace h := h.1 hb
 obtain ⟨J, h, hJ⟩ := h
 refine En.seqJ (σ := Bool) (fun zz => J zz) (fun zz => ⟨[sl 6 (B zz)], [.gone]⟩) ?_ ?_
 refine En.region ?_
 refine WL.run ht hn 3 ⟨[sl 2 (LS boolT is), sl 3 (.ptr 0 0), sl 29 (LS boolT is), sl 31 (I n.fA)], [.box (TimeNode.cl n) 139 false]⟩ (by kernel_rfl) ?_
 obtain ⟨e_2, he_2, h⟩ := h
 refine WL.val hn (by rfl) (val_index (T := boolT) (l := is) (i := n.fA) ht rfl (by rfl) (by rfl) (by rfl) (by rfl) (by rfl) (by rfl) he_2) (by rfl) ?_
 refine WL.val hn (by rfl) (val_load (s := .one (B e_2)) ht rfl (by rfl) (by rfl) (by rfl) (by rfl) (by rfl)) (by rfl) ?_
 refine WL.run ht hn 1 ⟨[sl 2 (LS boolT is), sl 3 (.ptr 0 0), sl 34 (B e_2)], [.box (TimeNode.cl n) 139 false]⟩ (by kernel_rfl) ?_
 refine splitB e_2 (fun hb => ?_) (fun hb => ?_)
 replace h := h.1 hb
 refine WL.setB 34 hb (by kernel_rfl) ?_
 refine WL.run ht hn 3 ⟨[sl 34 (B true), sl 35 (LS boolT is), sl 37 (I n.fB)], [.gone]⟩ (by kernel_rfl) ?_
 obtain ⟨e_3, he_3, h⟩ := h
 refine WL.val hn (by rfl) (val_index (T := boolT) (l := is) (i := n.fB) ht rfl (by rfl) (by rfl) (by rfl) (by rfl) (by rfl) (by rfl) he_3) (by rfl) ?_
 refine WL.val hn (by rfl) (val_load (s := .one (B e_3)) ht rfl (by rfl) (by rfl) (by rfl) (by rfl) (by rfl)) (by rfl) ?_
 refine WL.run ht hn 2 ⟨[sl 6 (B e_3)], [.gone]⟩ (by kernel_rfl) ?_
 refine WL.nil ?_
 exact En.at (I := fun zz => J zz) (T := fun zz => ⟨[sl 6 (B zz)], [.gone]⟩) e_3 h (by kernel_rfl)
 replace h := h.2 hb
 refine WL.setB 34 hb (by kernel_rfl) ?_
 refine WL.run ht hn 7 ⟨[sl 6 (B false)], [.gone]⟩ (by kernel_rfl) ?_
 refine WL.nil ?_
 exact En.at (I := fun zz => J zz) (T := fun zz => ⟨[sl 6 (B zz)], [.gone]⟩) false h (by kernel_rfl)
 intro x6 h
 replace h := hJ _ h
 show En c ⟨[sl 6 (B x6)], [.gone]⟩ _
 refine En.ret ?_
 exact En.back ht x6 h (by kernel_rfl) rfl
 replace h := h.2 hb
 refine En.seq ?_
 refine En.region ?_
 refine WL.run ht hn 2 ⟨[sl 2 (LS boolT is), sl 3 (.ptr 0 0), sl 41 (B (n.fKind == 5))], [.box (TimeNode.cl n) 139 false]⟩ (by kernel_rfl) ?_
 refine WL.nil ?_
 refine En.cond (b := (n.fKind == 5)) (by kernel_rfl) (fun hb => ?_) (fun hb => ?_)
 replace h := h.1 hb
 obtain ⟨J_2, h, hJ_2⟩ := h
 refine En.seqJ (σ := Bool) (fun zz => J_2 zz) (fun zz => ⟨[sl 6 (B zz)], [.gone]⟩) ?_ ?_
 refine En.region ?_
 refine WL.run ht hn 3 ⟨[sl 2 (LS boolT is), sl 3 (.ptr 0 0), sl 43 (LS boolT is), sl 45 (I n.fA)], [.box (TimeNode.cl n) 139 false]⟩ (by kernel_rfl) ?_
 obtain ⟨e_4, he_4, h⟩ := h
 refine WL.val hn (by rfl) (val_index (T := boolT) (l := is) (i := n.fA) ht rfl (by rfl) (by rfl) (by rfl) (by rfl) (by rfl) (by rfl) he_4) (by rfl) ?_
 refine WL.val hn (by rfl) (val_load (s := .one (B e_4)) ht rfl (by rfl) (by rfl) (by rfl) (by rfl) (by rfl)) (by rfl) ?_
 refine WL.run ht hn 1 ⟨[sl 2 (LS boolT is), sl 3 (.ptr 0 0), sl 48 (B e_4)], [.box (TimeNode.cl n) 139 false]⟩ (by kernel_rfl) ?_
 refine splitB e_4 (fun hb => ?_) (fun hb => ?_)
 replace h := h.1 hb
 refine WL.setB 48 hb (by kernel_rfl) ?_
 refine WL.run ht hn 7 ⟨[sl 6 (B true)], [.gone]⟩ (by kernel_rfl) ?_
 refine WL.nil ?_
 exact En.at (I := fun zz => J_2 zz) (T := fun zz => ⟨[sl 6 (B zz)], [.gone]⟩) true h (by kernel_rfl)
 replace h := h.2 hb
 refine WL.setB 48 hb (by kernel_rfl) ?_
 refine WL.run ht hn 3 ⟨[sl 48 (B false), sl 49 (LS boolT is), sl 51 (I n.fB)], [.gone]⟩ (by kernel_rfl) ?_
 obtain ⟨e_5, he_5, h⟩ := h
 refine WL.val hn (by rfl) (val_index (T := boolT) (l := is) (i := n.fB) ht rfl (by rfl) (by rfl) (by rfl) (by rfl) (by rfl) (by rfl) he_5) (by rfl) ?_
 refine WL.val hn (by rfl) (val_load (s := .one (B e_5)) ht rfl (by rfl) (by rfl) (by rfl) (by rfl) (by rfl)) (by rfl) ?_
 refine WL.run ht hn 2 ⟨[sl 6 (B e_5)], [.gone]⟩ (by kernel_rfl) ?_
 refine WL.nil ?_
 exact En.at (I := fun zz => J_2 zz) (T := fun zz => ⟨[sl 6 (B zz)], [.gone]⟩) e_5 h (by kernel_rfl)
 intro x6_2 h
 replace h := hJ_2 _ h
 show En c ⟨[sl 6 (B x6_2)], [.gone]⟩ _
 refine En.ret ?_
 exact En.back ht x6_2 h (by kernel_rfl) rfl
 replace h := h.2 hb
 refine En.skip ?_
 refine En.seq ?_
 refine En.region ?_
 refine WL.run ht hn 1 ⟨[sl 6 (B false)], [.gone]⟩ (by kernel_rfl) ?_
 refine WL.nil ?_
 refine En.ret ?_
 exact En.back ht false h (by kernel_rfl) rfl
theorem en63 : ∀ args w, (callFunc 63 args).run Try.prog w = .ok (.enter 63 args) w := enters_of Try.func63 (by kernel_rfl) rfl
theorem tPlain_ct (n : TimeNode) (letter : Int) (is : (List Bool)) (hp : PlPre n is)  : Ct 63 [.sv (.agg [I n.fKind, I n.fA, I n.fB]), .sv (.one (I letter)), .sv (.one (LS boolT is))] [] (fun (_ : Unit) => True) (fun _ => .sv (.one (B (plR n letter is)))) := by
 refine (tPlain_walk n letter is (fun res_ => res_ = (plR n letter is)) ?_).fun
 unfold tPlain_vc
 obtain ⟨hA, hB⟩ := hp
 intro _
 refine ⟨fun h => ?_, fun h1 => ⟨fun h => ?_, fun h2 => ⟨fun h => ?_, fun h3 => ⟨fun h => ?_, fun h4 => ⟨fun h => ?_, fun h5 => ?_⟩⟩⟩⟩⟩
 ·have c := eq_of_beq h
  show _ = plR n letter is
  unfold plR
  rw [if_pos c]
 ·have c := eq_of_beq h
  show _ = plR n letter is
  unfold plR
  rw [if_neg (by omega), if_pos c]
 ·have c := eq_of_beq h
  have k := hA (.inl c)
  refine ⟨_, idx_of false k.1 k.2, ?_⟩
  show _ = plR n letter is
  unfold plR
  rw [if_neg (by omega), if_neg (by omega), if_pos c]
 ·have c := eq_of_beq h
  have k := hA (.inr (.inl c))
  have j := hB (.inl c)
  have e : plR n letter is = (is.getD n.fA.toNat false && is.getD n.fB.toNat false) := by
   unfold plR
   rw [if_neg (by omega), if_neg (by omega), if_neg (by omega), if_pos c]
  refine ⟨fun b => b = plR n letter is, ⟨_, idx_of false k.1 k.2, fun hb => ⟨_, idx_of false j.1 j.2, by rw [e, hb, Bool.true_and]⟩, fun hb => by rw [e, hb, Bool.false_and]⟩, fun _ h => h⟩
 ·have c := eq_of_beq h
  have k := hA (.inr (.inr c))
  have j := hB (.inr c)
  have e : plR n letter is = (is.getD n.fA.toNat false || is.getD n.fB.toNat false) := by
   unfold plR
   rw [if_neg (by omega), if_neg (by omega), if_neg (by omega), if_neg (by omega), if_pos c]
  refine ⟨fun b => b = plR n letter is, ⟨_, idx_of false k.1 k.2, fun hb => by rw [e, hb, Bool.true_or], fun hb => ⟨_, idx_of false j.1 j.2, by rw [e, hb, Bool.false_or]⟩⟩, fun _ h => h⟩
 ·rw [beq_eq_false_iff_ne] at h1 h2 h3 h4 h5
  show _ = plR n letter is
  unfold plR
  rw [if_neg h1, if_neg h2, if_neg h3, if_neg h4, if_neg h5]
def tNext_vc (j : Int) (all : (List Int)) (w : ApiLasso) (Q : Int → Prop) : Prop :=
 IfP ((wr (j + 1)) == (all.length : Int)) (Q (w.fHead.length : Int)) (Q (wr (j + 1)))
theorem tNext_walk (j : Int) (all : (List Int)) (w : ApiLasso) (Q : Int → Prop) (h : tNext_vc j all w Q) : Ct 62 [.sv (.one (I j)), .sv (.one (.ptr 0 0)), .sv (.one (.ptr 1 0))] [.box [LS intT all] 23 true, .box [LS intT w.fHead, LS intT w.fLoop] 59 true] Q (fun (r : Int) => .sv (.one (I r))) := by
 have ht := tab_ok
 refine Ct.body Try.func62 rfl rfl rfl rfl (fun c hn => ?_)
 unfold tNext_vc at h
 refine En.seq ?_
 refine En.region ?_
 refine WL.run ht hn 1 ⟨[sl 0 (I j), sl 1 (.ptr 0 0), sl 2 (.ptr 1 0)], [.box [LS intT all] 23 true, .box (ApiLasso.cl w) 59 true]⟩ (by kernel_rfl) ?_
 refine WL.nil ?_
 refine En.seq ?_
 refine En.seq ?_
 refine En.region ?_
 refine WL.run ht hn 5 ⟨[sl 0 (I j), sl 2 (.ptr 1 0), sl 9 (B ((wr (j + 1)) == (all.length : Int)))], [.gone, .box (ApiLasso.cl w) 59 true]⟩ (by kernel_rfl) ?_
 refine WL.nil ?_
 refine En.cond (b := ((wr (j + 1)) == (all.length : Int))) (by kernel_rfl) (fun hb => ?_) (fun hb => ?_)
 replace h := h.1 hb
 refine En.seq ?_
 refine En.region ?_
 refine WL.run ht hn 4 ⟨[sl 4 (I (w.fHead.length : Int))], [.gone, .gone]⟩ (by kernel_rfl) ?_
 refine WL.nil ?_
 refine En.ret ?_
 exact En.back ht (w.fHead.length : Int) h (by kernel_rfl) rfl
 replace h := h.2 hb
 refine En.skip ?_
 refine En.seq ?_
 refine En.region ?_
 refine WL.run ht hn 3 ⟨[sl 4 (I (wr (j + 1)))], [.gone, .gone]⟩ (by kernel_rfl) ?_
 refine WL.nil ?_
 refine En.ret ?_
 exact En.back ht (wr (j + 1)) h (by kernel_rfl) rfl
theorem en62 : ∀ args w, (callFunc 62 args).run Try.prog w = .ok (.enter 62 args) w := enters_of Try.func62 (by kernel_rfl) rfl
def nxtR (all : List Int) (w : ApiLasso) (j : Int) : Int := if wr (j + 1) = (all.length : Int) then (w.fHead.length : Int) else wr (j + 1)
theorem tNext_ct (j : Int) (all : (List Int)) (w : ApiLasso)  : Ct 62 [.sv (.one (I j)), .sv (.one (.ptr 0 0)), .sv (.one (.ptr 1 0))] [.box [LS intT all] 23 true, .box [LS intT w.fHead, LS intT w.fLoop] 59 true] (fun (_ : Unit) => True) (fun _ => .sv (.one (I (nxtR all w j)))) := by
 refine (tNext_walk j all w (fun res_ => res_ = (nxtR all w j)) ?_).fun
 unfold tNext_vc nxtR
 exact ⟨fun h => by rw [if_pos (eq_of_beq h)], fun h => by rw [if_neg (by rw [beq_eq_false_iff_ne] at h; exact h)]⟩
end Go.Proofs.Ytapnmjeadbhffaa


namespace Go.Proofs.Ytapnmjeadbhffaa
set_option linter.unusedSimpArgs false
set_option linter.unusedVariables false
set_option maxRecDepth 100000
def chV (A B : Nat → Bool) (e : Bool) : Nat → Nat → Bool
 | 0, _ => e
 | d + 1, i => B i || (A i && chV A B e d (i + 1))
def swp (n h : Nat) (A B old : Nat → Bool) (i : Nat) : Bool := chV A B (B (n - 1) || (A (n - 1) && old h)) (n - 1 - i) i
def tp (n h : Nat) (A B : Nat → Bool) : Nat → Bool := swp n h A B (swp n h A B fun _ => false)
def nx (n h i : Nat) : Nat := if i + 1 = n then h else i + 1
theorem swp_last {n h : Nat} {A B old : Nat → Bool} (hn : 0 < n) : swp n h A B old (n - 1) = (B (n - 1) || (A (n - 1) && old h)) := by
 unfold swp
 rw [Nat.sub_self]
 rfl
theorem swp_step {n h : Nat} {A B old : Nat → Bool} {i : Nat} (hi : i + 1 < n) : swp n h A B old i = (B i || (A i && swp n h A B old (i + 1))) := by
 unfold swp
 rw [show n - 1 - i = (n - 1 - (i + 1)) + 1 by omega]
 rfl
theorem swp_congr {n h : Nat} {A B A' B' old old' : Nat → Bool} (hn : 0 < n) (hA : ∀ i, i < n → A i = A' i) (hB : ∀ i, i < n → B i = B' i) (ho : old h = old' h) : ∀ d i, i < n → n - 1 - i = d → swp n h A B old i = swp n h A' B' old' i
 | 0, i, hi, hd => by
  have : i = n - 1 := by omega
  subst this
  rw [swp_last hn, swp_last hn, hA _ hi, hB _ hi, ho]
 | d + 1, i, hi, hd => by
  rw [swp_step (by omega), swp_step (A := A') (old := old') (by omega), hA i hi, hB i hi, swp_congr hn hA hB ho d (i + 1) (by omega) (by omega)]
theorem chV_mono {A B : Nat → Bool} {e e' : Bool} (h : e = true → e' = true) : ∀ d i, chV A B e d i = true → chV A B e' d i = true
 | 0, _, k => h k
 | d + 1, i, k => by
  rw [chV, Bool.or_eq_true, Bool.and_eq_true] at k ⊢
  exact k.imp id fun k => ⟨k.1, chV_mono h d (i + 1) k.2⟩
theorem tp_step {n h : Nat} {A B : Nat → Bool} (hn : 0 < n) (hh : h < n) {i : Nat} (hi : i < n) : tp n h A B i = (B i || (A i && tp n h A B (nx n h i))) := by
 unfold nx
 by_cases hl : i + 1 = n
 ·rw [if_pos hl]
  have hi' : i = n - 1 := by omega
  subst hi'
  have e1 : tp n h A B (n - 1) = (B (n - 1) || (A (n - 1) && swp n h A B (fun _ => false) h)) := swp_last hn
  have e0 : swp n h A B (fun _ => false) (n - 1) = (B (n - 1) || (A (n - 1) && false)) := swp_last hn
  by_cases hb : B (n - 1) = true
  ·rw [e1, hb, Bool.true_or, Bool.true_or]
  have hb : B (n - 1) = false := by simpa using hb
  by_cases ha : A (n - 1) = true
  ·rw [e1, hb, ha, Bool.false_or, Bool.true_and, Bool.false_or, Bool.true_and]
   by_cases hu : swp n h A B (fun _ => false) h = true
   ·rw [hu]
    symm
    unfold tp swp
    exact chV_mono (fun k => by rw [hb, Bool.and_false, Bool.or_false] at k; cases k) _ _ hu
   ·have hu : swp n h A B (fun _ => false) h = false := by simpa using hu
    rw [hu]
    symm
    show swp n h A B (swp n h A B fun _ => false) h = false
    have hs : swp n h A B (swp n h A B fun _ => false) h = swp n h A B (fun _ => false) h := swp_congr hn (fun _ _ => rfl) (fun _ _ => rfl) hu _ h hh rfl
    rw [hs, hu]
  ·have ha : A (n - 1) = false := by simpa using ha
   rw [e1, hb, ha]
   rfl
 ·rw [if_neg hl]
  exact swp_step (by omega)
def semT (all : List Int) (h : Nat) : TF → Nat → Bool
 | .nev, _ => false
 | .p, i => bitsI .and .i64 (all.getD i 0) 1 == 1
 | .q, i => bitsI .and .i64 (all.getD i 0) 2 == 2
 | .no a, i => !(semT all h a i)
 | .an a b, i => semT all h a i && semT all h b i
 | .or a b, i => semT all h a i || semT all h b i
 | .be a, i => semT all h a (nx all.length h i)
 | .un a b, i => tp all.length h (semT all h a) (semT all h b) i
def pasV (all : List Int) (h : Nat) (nd : TimeNode) (C : Nat → Nat → Bool) (old : Nat → Bool) (i : Nat) : Bool :=
 if nd.fKind = 6 then C nd.fA.toNat (nx all.length h i)
 else if nd.fKind = 7 then swp all.length h (C nd.fA.toNat) (C nd.fB.toNat) old i
 else if nd.fKind = 1 then bitsI .and .i64 (all.getD i 0) 1 == 1 else if nd.fKind = 2 then bitsI .and .i64 (all.getD i 0) 2 == 2
 else if nd.fKind = 3 then !(C nd.fA.toNat i) else if nd.fKind = 4 then C nd.fA.toNat i && C nd.fB.toNat i else if nd.fKind = 5 then C nd.fA.toNat i || C nd.fB.toNat i else false
def cell (g : List (List Bool)) (k i : Nat) : Bool := (g.getD i []).getD k false
def colP (all : List Int) (h : Nat) (nd : TimeNode) (C : Nat → Nat → Bool) : Nat → Nat → Bool
 | 0 => fun _ => false
 | r + 1 => pasV all h nd C (colP all h nd C r)
theorem pasV_congr {all : List Int} {h : Nat} {nd : TimeNode} {C C' : Nat → Nat → Bool} {old old' : Nat → Bool} {k : Nat} (hh : h < all.length) (hk : NdOk (k : Int) nd) (hC : ∀ j, j < k → ∀ i, i < all.length → C j i = C' j i) (ho : old h = old' h) {i : Nat} (hi : i < all.length) : pasV all h nd C old i = pasV all h nd C' old' i := by
 obtain ⟨k0, k7, kA, kB⟩ := hk
 have hnx : nx all.length h i < all.length := by
  unfold nx
  split
  ·exact hh
  ·omega
 have cA : 3 ≤ nd.fKind → ∀ i, i < all.length → C nd.fA.toNat i = C' nd.fA.toNat i := fun h3 i hi => hC _ (by have := kA h3; omega) i hi
 have cB : nd.fKind = 4 ∨ nd.fKind = 5 ∨ nd.fKind = 7 → ∀ i, i < all.length → C nd.fB.toNat i = C' nd.fB.toNat i := fun h3 i hi => hC _ (by have := kB h3; omega) i hi
 unfold pasV
 by_cases h6 : nd.fKind = 6
 ·rw [if_pos h6, if_pos h6, cA (by omega) _ hnx]
 rw [if_neg h6, if_neg h6]
 by_cases h7 : nd.fKind = 7
 ·rw [if_pos h7, if_pos h7]
  exact swp_congr (by omega) (cA (by omega)) (cB (.inr (.inr h7))) ho _ i hi rfl
 rw [if_neg h7, if_neg h7]
 by_cases h1 : nd.fKind = 1
 ·rw [if_pos h1, if_pos h1]
 rw [if_neg h1, if_neg h1]
 by_cases h2 : nd.fKind = 2
 ·rw [if_pos h2, if_pos h2]
 rw [if_neg h2, if_neg h2]
 by_cases h3 : nd.fKind = 3
 ·rw [if_pos h3, if_pos h3, cA (by omega) i hi]
 rw [if_neg h3, if_neg h3]
 by_cases h4 : nd.fKind = 4
 ·rw [if_pos h4, if_pos h4, cA (by omega) i hi, cB (.inl h4) i hi]
 rw [if_neg h4, if_neg h4]
 by_cases h5 : nd.fKind = 5
 ·rw [if_pos h5, if_pos h5, cA (by omega) i hi, cB (.inr (.inl h5)) i hi]
 rw [if_neg h5, if_neg h5]
theorem colP_congr {all : List Int} {h : Nat} {nd : TimeNode} {C C' : Nat → Nat → Bool} {k : Nat} (hh : h < all.length) (hk : NdOk (k : Int) nd) (hC : ∀ j, j < k → ∀ i, i < all.length → C j i = C' j i) : ∀ (r i : Nat), i < all.length → colP all h nd C r i = colP all h nd C' r i
 | 0, _, _ => rfl
 | r + 1, i, hi => pasV_congr hh hk hC (colP_congr hh hk hC r h hh) hi
def NodeS (all : List Int) (h : Nat) (l : List TimeNode) (C : Nat → Nat → Bool) (k : Nat) : Prop := ∀ j nd, j < k → l[j]? = some nd → ∀ i, i < all.length → C j i = colP all h nd C 2 i
theorem sem_node {all : List Int} {h : Nat} (hh : h < all.length) {l : List TimeNode} (hw : WfN l) {C : Nat → Nat → Bool} (hC : NodeS all h l C l.length) : ∀ (t : TF) (n : Int), Dec l n t → ∀ i, i < all.length → C n.toNat i = semT all h t i := by
 have get : ∀ (n : Int) (nd : TimeNode), idx l n = some nd → (∀ i, i < all.length → C n.toNat i = colP all h nd C 2 i) := fun n nd hx i hi => by
  obtain ⟨h0, h1, h2⟩ := idx_some hx
  exact hC n.toNat nd (by omega) h2 i hi
 have hnx : ∀ i, i < all.length → nx all.length h i < all.length := fun i hi => by
  unfold nx
  split
  ·exact hh
  ·omega
 intro t
 induction t with
 | nev =>
  rintro n ⟨a, b, hx⟩ i hi
  rw [get n _ hx i hi]
  rfl
 | p =>
  rintro n ⟨a, b, hx⟩ i hi
  rw [get n _ hx i hi]
  rfl
 | q =>
  rintro n ⟨a, b, hx⟩ i hi
  rw [get n _ hx i hi]
  rfl
 | no a ih =>
  rintro n ⟨x, y, hx, hd⟩ i hi
  rw [get n _ hx i hi]
  show (!(C x.toNat i)) = _
  rw [ih x hd i hi]
  rfl
 | an a b iha ihb =>
  rintro n ⟨x, y, hx, ha, hb⟩ i hi
  rw [get n _ hx i hi]
  show (C x.toNat i && C y.toNat i) = _
  rw [iha x ha i hi, ihb y hb i hi]
  rfl
 | or a b iha ihb =>
  rintro n ⟨x, y, hx, ha, hb⟩ i hi
  rw [get n _ hx i hi]
  show (C x.toNat i || C y.toNat i) = _
  rw [iha x ha i hi, ihb y hb i hi]
  rfl
 | be a ih =>
  rintro n ⟨x, y, hx, ha⟩ i hi
  rw [get n _ hx i hi]
  show C x.toNat (nx all.length h i) = _
  rw [ih x ha _ (hnx i hi)]
  rfl
 | un a b iha ihb =>
  rintro n ⟨x, y, hx, ha, hb⟩ i hi
  rw [get n _ hx i hi]
  show swp all.length h (C x.toNat) (C y.toNat) (swp all.length h (C x.toNat) (C y.toNat) fun _ => false) i = tp all.length h (semT all h a) (semT all h b) i
  exact swp_congr (by omega) (iha x ha) (ihb y hb) (swp_congr (by omega) (iha x ha) (ihb y hb) rfl _ h hh rfl) _ i hi rfl
structure GOk (g : List (List Bool)) (n m : Nat) : Prop where
 len : g.length = n
 row : ∀ (i : Nat) (r : List Bool), g[i]? = some r → r.length = m
theorem GOk.at {g : List (List Bool)} {n m i : Nat} (h : GOk g n m) (hi : i < n) : ∃ r, g[i]? = some r ∧ r.length = m ∧ ∀ k, cell g k i = r.getD k false := by
 have hl : i < g.length := by rw [h.len]; exact hi
 refine ⟨g[i], List.getElem?_eq_getElem hl, h.row i _ (List.getElem?_eq_getElem hl), fun k => ?_⟩
 have e : g.getD i [] = g[i] := by
  rw [List.getD_eq_getElem?_getD, List.getElem?_eq_getElem hl]
  rfl
 unfold cell
 rw [e]
theorem GOk.set {g : List (List Bool)} {n m i k : Nat} (h : GOk g n m) (hi : i < n) {r : List Bool} (hr : g[i]? = some r) (b : Bool) : GOk (g.set i (r.set k b)) n m := by
 refine ⟨by rw [List.length_set]; exact h.len, fun j r' hj => ?_⟩
 rw [List.getElem?_set] at hj
 split at hj
 ·rename_i e
  subst e
  split at hj
  ·cases hj
   rw [List.length_set]
   exact h.row _ _ hr
  ·cases hj
 ·exact h.row j r' hj
theorem cell_set {g : List (List Bool)} {n m i k : Nat} (h : GOk g n m) (hi : i < n) (hk : k < m) {r : List Bool} (hr : g[i]? = some r) (b : Bool) (j p : Nat) : cell (g.set i (r.set k b)) j p = if p = i ∧ j = k then b else cell g j p := by
 have hrl := h.row i r hr
 have hgl : i < g.length := by rw [h.len]; exact hi
 have e : (g.set i (r.set k b)).getD p [] = if i = p then r.set k b else g.getD p [] := by
  rw [List.getD_eq_getElem?_getD, List.getElem?_set]
  by_cases hp : i = p
  ·rw [if_pos hp, if_pos hp, if_pos hgl]
   rfl
  ·rw [if_neg hp, if_neg hp, List.getD_eq_getElem?_getD]
 have e2 : g.getD i [] = r := by
  rw [List.getD_eq_getElem?_getD, hr]
  rfl
 unfold cell
 rw [e]
 by_cases hp : i = p
 ·subst hp
  rw [if_pos rfl, e2, List.getD_eq_getElem?_getD, List.getElem?_set]
  by_cases hj : k = j
  ·subst hj
   rw [if_pos rfl, if_pos (by omega), if_pos ⟨rfl, rfl⟩]
   rfl
  ·rw [if_neg hj, if_neg (fun e => hj e.2.symm), List.getD_eq_getElem?_getD]
 ·rw [if_neg hp, if_neg (fun e => hp e.1.symm)]
end Go.Proofs.Ytapnmjeadbhffaa

