/- Lemmas towards the statement: mirrors of functions, and plain laws. No condition. -/
import Derived.Recover
import Derived.Laws.BytesString
import Derived.Test.YtapnmjeadbhffaaPackRegularSums3


namespace Go.Proofs.Ytapnmjeadbhffaa
open Go.RowKit Go.MapKept
set_option linter.unusedSimpArgs false
set_option linter.unusedVariables false
set_option maxRecDepth 100000
structure RLab where
 fKind : Int
 fLetter : Int
deriving DecidableEq, Inhabited
def rLab (a : RLab) : List Value := [.int .i64 a.fKind, .int .i64 a.fLetter]
theorem rLabH : ∀ a, ∀ c ∈ rLab a, cellV c := fun a c h => by
 simp only [rLab, List.mem_cons, List.not_mem_nil, or_false] at h
 rcases h with rfl | rfl <;> trivial
def chr (text : ByteArray) (i : Int) : Int := (byteAt text i).getD 0
theorem byteAt_ok {text : ByteArray} {i : Int} (h0 : 0 ≤ i) (h1 : i < text.size) : byteAt text i = some (chr text i) := by
 unfold chr byteAt
 rw [if_pos h0]
 have : i.toNat < text.size := by omega
 simp [this]
theorem chr_end {text : ByteArray} {i : Int} (h1 : text.size ≤ i) : chr text i = 0 := by
 unfold chr byteAt
 split
 ·have : ¬ i.toNat < text.size := by omega
  simp [this]
 ·rfl
def rNow_vc (text : ByteArray) (pos : Int) (deep : Int) (Q : Int × Int × Int → Prop) : Prop :=
 IfP (pos == (text.size : Int)) (Q (0, pos, deep)) (∃ b, byteAt text pos = some b ∧
 Q (b, pos, deep))
theorem rNow_walk (text : ByteArray) (pos : Int) (deep : Int) (Q : Int × Int × Int → Prop) (h : rNow_vc text pos deep Q) : CtE 209 [.sv (.one (.ptr 0 0))] [.box [.v (.string text), I pos, I deep] 268 false] [0] Q (fun (r : Int × Int × Int) => .sv (.one (.v (.int .u8 r.1)))) (fun (r : Int × Int × Int) => [.box [.v (.string text), I r.2.1, I r.2.2] 268 false]) := by
 have ht := tab_ok
 refine CtE.body Try.func209 rfl rfl rfl (by kernel_rfl) (by kernel_rfl) (fun c Bk hn => ?_)
 unfold rNow_vc at h
 show En c ⟨[sl 0 (.pptr 0 0 (Bk 0))], [.box [.v (.string text), I pos, I deep] 268 false]⟩ _
 refine En.seq ?_
 refine En.region ?_
 refine WL.run ht hn 1 ⟨[sl 0 (.pptr 0 0 (Bk 0))], [.box [.v (.string text), I pos, I deep] 268 false]⟩ (by kernel_rfl) ?_
 refine WL.nil ?_
 refine En.seq ?_
 refine En.seq ?_
 refine En.regionS (by kernel_rfl) (by kernel_rfl) ?_
 refine SL.run ht hn 8 ⟨[sl 0 (.pptr 0 0 (Bk 0)), sl 3 (.ptr 0 0), sl 4 (.ptr 0 0), sl 5 (.ptr 0 1), sl 6 (I pos), sl 7 (.ptr 0 0), sl 8 (.ptr 0 0), sl 9 (.ptr 0 0), sl 10 (.v (.string text))], [.box [.v (.string text), I pos, I deep] 268 false]⟩ (by kernel_rfl) ?_
 refine SL.val hn (by rfl) (val_lenS (s := text) rfl Try.underlying9 (by rfl)) (by rfl) ?_
 refine SL.run ht hn 1 ⟨[sl 0 (.pptr 0 0 (Bk 0)), sl 3 (.ptr 0 0), sl 4 (.ptr 0 0), sl 5 (.ptr 0 1), sl 6 (I pos), sl 7 (.ptr 0 0), sl 8 (.ptr 0 0), sl 9 (.ptr 0 0), sl 10 (.v (.string text)), sl 11 (I (text.size : Int)), sl 12 (B (pos == (text.size : Int)))], [.box [.v (.string text), I pos, I deep] 268 false]⟩ (by kernel_rfl) ?_
 refine SL.nil ⟨by kernel_rfl, ?_⟩
 refine En.cond (b := (pos == (text.size : Int))) (by kernel_rfl) (fun hb => ?_) (fun hb => ?_)
 replace h := h.1 hb
 refine En.seq ?_
 refine En.region ?_
 refine WL.run ht hn 1 ⟨[sl 0 (.pptr 0 0 (Bk 0)), sl 2 (.v (.int .u8 0))], [.box [.v (.string text), I pos, I deep] 268 false]⟩ (by kernel_rfl) ?_
 refine WL.nil ?_
 refine En.ret ?_
 exact En.backE [0] ht (0, pos, deep) h (by kernel_rfl) (by rfl) rfl
 replace h := h.2 hb
 refine En.skip ?_
 refine En.seq ?_
 obtain ⟨b, hb_2, h⟩ := h
 refine En.regionA ⟨[sl 0 (.pptr 0 0 (Bk 0))], [.sv (.one (.ptr 0 0)), .sv (.one (.ptr 0 0)), .sv (.one (.ptr 0 0)), .sv (.one (.v (.string text))), .sv (.one (.ptr 0 0)), .sv (.one (.ptr 0 0)), .sv (.one (.ptr 0 1)), .sv (.one (I pos)), .sv (.one (.v (.int .u8 b))), .sv (.one (.v (.int .u8 b)))], [⟨.box [.v (.string text), I pos, I deep] 268 false, none, none, none⟩]⟩ ⟨[sl 0 (.pptr 0 0 (Bk 0)), sl 2 (.v (.int .u8 b))], [.box [.v (.string text), I pos, I deep] 268 false]⟩ (by kernel_rfl) hn (by kernel_rfl) (by rfl) (by kernel_rfl) ?_ (by kernel_rfl) ?_
 exact ⟨.mt ⟨[sl 0 (.pptr 0 0 (Bk 0))], []⟩ [] none (by kernel_rfl) (by rfl) (mt_ev ht (by kernel_rfl)) rfl rfl rfl rfl,
 .mt ⟨[sl 13 (.ptr 0 0)], []⟩ [] none (by kernel_rfl) (by rfl) (mt_ev ht (by kernel_rfl)) rfl rfl rfl rfl,
 .mt ⟨[sl 14 (.ptr 0 0)], []⟩ [] none (by kernel_rfl) (by rfl) (mt_ev ht (by kernel_rfl)) rfl rfl rfl rfl,
 .mt ⟨[sl 15 (.ptr 0 0)], [.box [.v (.string text), I pos, I deep] 268 false]⟩ [] none (by kernel_rfl) (by rfl) (mt_ev ht (by kernel_rfl)) rfl rfl rfl rfl,
 .mt ⟨[sl 0 (.pptr 0 0 (Bk 0))], []⟩ [] none (by kernel_rfl) (by rfl) (mt_ev ht (by kernel_rfl)) rfl rfl rfl rfl,
 .mt ⟨[sl 17 (.ptr 0 0)], []⟩ [] none (by kernel_rfl) (by rfl) (mt_ev ht (by kernel_rfl)) rfl rfl rfl rfl,
 .mt ⟨[sl 18 (.ptr 0 0)], []⟩ [] none (by kernel_rfl) (by rfl) (mt_ev ht (by kernel_rfl)) rfl rfl rfl rfl,
 .mt ⟨[sl 19 (.ptr 0 1)], [.box [.v (.string text), I pos, I deep] 268 false]⟩ [] none (by kernel_rfl) (by rfl) (mt_ev ht (by kernel_rfl)) rfl rfl rfl rfl,
 .mt ⟨[sl 16 (.v (.string text)), sl 20 (I pos)], []⟩ [] none (by kernel_rfl) (by rfl) (mt_val (val_indexS (s := text) (i := pos) rfl Try.underlying9 (by rfl) (by rfl) hb_2)) rfl rfl rfl rfl,
 .mt ⟨[sl 21 (.v (.int .u8 b))], []⟩ [] none (by kernel_rfl) (by rfl) (mt_ev ht (by kernel_rfl)) rfl rfl rfl rfl,
 trivial⟩
 refine En.ret ?_
 exact En.backE [0] ht (b, pos, deep) h (by kernel_rfl) (by rfl) rfl
theorem en209 : ∀ args w, (callFunc 209 args).run Try.prog w = .ok (.enter 209 args) w := enters_of Try.func209 (by kernel_rfl) rfl
theorem rNow_ct (text : ByteArray) (pos : Int) (deep : Int) (hp : 0 ≤ pos ∧ pos ≤ text.size)  : CtE 209 [.sv (.one (.ptr 0 0))] [.box [.v (.string text), I pos, I deep] 268 false] [0] (fun (_ : Unit) => True) (fun _ => .sv (.one (.v (.int .u8 (chr text pos))))) (fun _ => [.box [.v (.string text), I (pos), I (deep)] 268 false]) := by
  refine (rNow_walk text pos deep (fun res_ => res_ = (chr text pos, pos, deep)) ?_).imp (fun r hr => ⟨(), trivial, by subst hr; rfl, by subst hr; rfl⟩)
  unfold rNow_vc
  refine ⟨fun h => ?_, fun h => ⟨_, byteAt_ok hp.1 (by have : pos ≠ text.size := by simpa using h
                                                       omega), rfl⟩⟩
  rw [chr_end (by have : pos = text.size := by simpa using h
                  omega)]
theorem en156 : ∀ args w, (callFunc 156 args).run Try.prog w = .ok (.enter 156 args) w := enters_of Try.func156 (by kernel_rfl) rfl
theorem rFail_ct (text : ByteArray) (pos deep code : Int) (hp : code ≠ 0) : CtX 156 [.sv (.one (.ptr 0 0)), .sv (.one (I code))] [.box [.v (.string text), I pos, I deep] 268 false] (psStop 265) := by
 have ht := tab_ok
 refine CtP.toX (β := Unit) (pin := [0]) (out := fun _ => .tup []) (M1 := fun _ => []) (P := True) ?_
 refine CtP.body Try.func156 rfl rfl rfl (by kernel_rfl) (by kernel_rfl) (fun c Bk hn hpan => ?_)
 show En c ⟨[(0, .sv (.one (.pptr 0 0 (Bk 0)))), (1, .sv (.one (I code)))], [.box [.v (.string text), I pos, I deep] 268 false]⟩ _
 refine En.region ?_
 refine WL.run ht hn 7 ⟨[(10, .sv (.agg [I code, I pos]))], [.box [.v (.string text), I pos, I deep] 268 false]⟩ (by kernel_rfl) ?_
 exact WL.panicI (code := code) (at_ := pos) hn (by rfl) rfl rfl (by rfl) Try.underlying265 (by rfl) (by rfl) rfl rfl hp hpan trivial
theorem idxByte_run (s : ByteArray) (b : Int) (w : World) : (callFunc 249 #[.string s, .int .u8 b]).run Try.prog w = .ok (.value (.int .i64 (firstIdx s b.toNat.toUInt8))) w := by
 rw [run_callFunc_extern Try.func249 (by kernel_rfl) (by kernel_rfl) (by kernel_rfl) (e := Extern.BytealgIndexByte.indexByte) (by rfl), run_indexByte_string]
 rfl
def idxLite_vc (s : ByteArray) (b : Int) (Q : Int → Prop) : Prop :=
 Q (firstIdx s (b).toNat.toUInt8)
theorem idxLite_walk (s : ByteArray) (b : Int) (Q : Int → Prop) (h : idxLite_vc s b Q) : Ct 247 [.sv (.one (.v (.string s))), .sv (.one (.v (.int .u8 b)))] [] Q (fun (r : Int) => .sv (.one (I r))) := by
 have ht := tab_ok
 refine Ct.body Try.func247 rfl rfl rfl rfl (fun c hn => ?_)
 unfold idxLite_vc at h
 refine En.seq ?_
 refine En.region ?_
 refine WL.run ht hn 1 ⟨[sl 0 (.v (.string s)), sl 1 (.v (.int .u8 b))], []⟩ (by kernel_rfl) ?_
 refine WL.nil ?_
 refine En.seq ?_
 refine En.region ?_
 refine WL.run ht hn 2 ⟨[sl 5 (.v (.string s)), sl 6 (.v (.int .u8 b))], []⟩ (by kernel_rfl) ?_
 refine WL.val hn (by rfl) (val_ext2 (idxByte_run s b) trivial rfl (by rfl) (by rfl) (by rfl)) (by rfl) ?_
 refine WL.run ht hn 1 ⟨[sl 4 (I (firstIdx s (b).toNat.toUInt8))], []⟩ (by kernel_rfl) ?_
 refine WL.nil ?_
 refine En.ret ?_
 exact En.back ht (firstIdx s (b).toNat.toUInt8) h (by kernel_rfl) rfl
theorem en247 : ∀ args w, (callFunc 247 args).run Try.prog w = .ok (.enter 247 args) w := enters_of Try.func247 (by kernel_rfl) rfl
theorem idxLite_ct (s : ByteArray) (b : Int)  : Ct 247 [.sv (.one (.v (.string s))), .sv (.one (.v (.int .u8 b)))] [] (fun (_ : Unit) => True) (fun _ => .sv (.one (I (firstIdx s b.toNat.toUInt8)))) := by
 refine (idxLite_walk s b (fun res_ => res_ = (firstIdx s b.toNat.toUInt8)) ?_).fun
 unfold idxLite_vc
 rfl
def idxStr_vc (s : ByteArray) (b : Int) (Q : Int → Prop) : Prop :=
 Q (firstIdx s (b).toNat.toUInt8)
theorem idxStr_walk (s : ByteArray) (b : Int) (Q : Int → Prop) (h : idxStr_vc s b Q) : Ct 242 [.sv (.one (.v (.string s))), .sv (.one (.v (.int .u8 b)))] [] Q (fun (r : Int) => .sv (.one (I r))) := by
 have ht := tab_ok
 refine Ct.body Try.func242 rfl rfl rfl rfl (fun c hn => ?_)
 unfold idxStr_vc at h
 refine En.seq ?_
 refine En.region ?_
 refine WL.run ht hn 1 ⟨[sl 0 (.v (.string s)), sl 1 (.v (.int .u8 b))], []⟩ (by kernel_rfl) ?_
 refine WL.nil ?_
 refine En.seq ?_
 refine En.region ?_
 refine WL.run ht hn 2 ⟨[sl 5 (.v (.string s)), sl 6 (.v (.int .u8 b))], []⟩ (by kernel_rfl) ?_
 refine WL.mt0 (K := []) (p := none) hn (by rfl) (mt_call (idxLite_ct s b) en247 (caps := []) [] rfl (by rfl) (by kernel_rfl) (by kernel_rfl) (by rfl) (by rfl) (by rfl)) (by rfl) (by rfl) (by rfl) ?_
 refine WL.run ht hn 1 ⟨[sl 4 (I (firstIdx s (b).toNat.toUInt8))], []⟩ (by kernel_rfl) ?_
 refine WL.nil ?_
 refine En.ret ?_
 exact En.back ht (firstIdx s (b).toNat.toUInt8) h (by kernel_rfl) rfl
theorem en242 : ∀ args w, (callFunc 242 args).run Try.prog w = .ok (.enter 242 args) w := enters_of Try.func242 (by kernel_rfl) rfl
theorem idxStr_ct (s : ByteArray) (b : Int)  : Ct 242 [.sv (.one (.v (.string s))), .sv (.one (.v (.int .u8 b)))] [] (fun (_ : Unit) => True) (fun _ => .sv (.one (I (firstIdx s b.toNat.toUInt8)))) := by
 refine (idxStr_walk s b (fun res_ => res_ = (firstIdx s b.toNat.toUInt8)) ?_).fun
 unfold idxStr_vc
 rfl
def rBeg_vc (text : ByteArray) (pos : Int) (deep : Int) (Q : Bool × Int × Int → Prop) : Prop :=
 ∃ J : Bool → Int → Int → Prop, (IfP (decide (pos < (text.size : Int))) ((0 ≤ pos ∧ pos ≤ text.size) ∧
 J (decide ((firstIdx (ByteArray.mk #[48, 49, 97, 98, 99, 100, 40]) ((chr text pos)).toNat.toUInt8) ≥ 0)) (pos) (deep)) (J false pos deep)) ∧
 (∀ (x2 : Bool) (y01 : Int) (y02 : Int), J x2 y01 y02 → Q (x2, y01, y02))
noncomputable abbrev qrBeg0 (text : ByteArray) (pos : Int) := (firstIdx (ByteArray.mk #[48, 49, 97, 98, 99, 100, 40]) ((chr text pos)).toNat.toUInt8)
theorem rBeg_walk (text : ByteArray) (pos : Int) (deep : Int) (Q : Bool × Int × Int → Prop) (h : rBeg_vc text pos deep Q) : CtE 229 [.sv (.one (.ptr 0 0))] [.box [.v (.string text), I pos, I deep] 268 false] [0] Q (fun (r : Bool × Int × Int) => .sv (.one (B r.1))) (fun (r : Bool × Int × Int) => [.box [.v (.string text), I r.2.1, I r.2.2] 268 false]) := by
 have ht := tab_ok
 refine CtE.body Try.func229 rfl rfl rfl (by kernel_rfl) (by kernel_rfl) (fun c Bk hn => ?_)
 unfold rBeg_vc at h
 show En c ⟨[sl 0 (.pptr 0 0 (Bk 0))], [.box [.v (.string text), I pos, I deep] 268 false]⟩ _
 refine En.seq ?_
 refine En.region ?_
 refine WL.run ht hn 1 ⟨[sl 0 (.pptr 0 0 (Bk 0))], [.box [.v (.string text), I pos, I deep] 268 false]⟩ (by kernel_rfl) ?_
 refine WL.nil ?_
 obtain ⟨J, h, hJ⟩ := h
 refine En.seqJ (σ := Bool × Int × Int) (fun zz => J zz.1 zz.2.1 zz.2.2) (fun zz => ⟨[sl 0 (.pptr 0 0 (Bk 0)), sl 2 (B zz.1)], [.box [.v (.string text), I zz.2.1, I zz.2.2] 268 false]⟩) ?_ ?_
 ·refine splitB (decide (pos < (text.size : Int))) (fun hb_2 => ?_) (fun hb_2 => ?_)
  ·replace h := h.1 hb_2
   have hp_2 := h.1
   replace h := h.2
   refine En.regionA ⟨[sl 0 (.pptr 0 0 (Bk 0))], [.sv (.one (.ptr 0 0)), .sv (.one (.ptr 0 0)), .sv (.one (.ptr 0 1)), .sv (.one (I pos)), .sv (.one (.ptr 0 0)), .sv (.one (.ptr 0 0)), .sv (.one (.ptr 0 0)), .sv (.one (.v (.string text))), .sv (.one (I (text.size : Int))), .sv (.one (B true)), .sv (.one (B true)), .sv (.one (.ptr 0 0)), .sv (.one (.v (.int .u8 (chr text pos)))), .sv (.one (I (qrBeg0 text pos))), .sv (.one (B (decide ((qrBeg0 text pos) ≥ 0)))), .sv (.one (B (decide ((qrBeg0 text pos) ≥ 0)))), .sv (.one (B (decide ((qrBeg0 text pos) ≥ 0))))], [⟨.box [.v (.string text), I pos, I deep] 268 false, none, none, some (12, .box [.v (.string text), I (pos), I (deep)] 268 false)⟩]⟩ ⟨[sl 0 (.pptr 0 0 (Bk 0)), sl 2 (B (decide ((qrBeg0 text pos) ≥ 0)))], [.box [.v (.string text), I (pos), I (deep)] 268 false]⟩ (by kernel_rfl) hn (by kernel_rfl) (by rfl) (by kernel_rfl) ?_ (by kernel_rfl) ?_
   ·exact ⟨.mt ⟨[sl 0 (.pptr 0 0 (Bk 0))], []⟩ [] none (by kernel_rfl) (by rfl) (mt_ev ht (by kernel_rfl)) rfl rfl rfl rfl,
  .mt ⟨[sl 3 (.ptr 0 0)], []⟩ [] none (by kernel_rfl) (by rfl) (mt_ev ht (by kernel_rfl)) rfl rfl rfl rfl,
  .mt ⟨[sl 4 (.ptr 0 0)], []⟩ [] none (by kernel_rfl) (by rfl) (mt_ev ht (by kernel_rfl)) rfl rfl rfl rfl,
  .mt ⟨[sl 5 (.ptr 0 1)], [.box [.v (.string text), I pos, I deep] 268 false]⟩ [] none (by kernel_rfl) (by rfl) (mt_ev ht (by kernel_rfl)) rfl rfl rfl rfl,
  .mt ⟨[sl 0 (.pptr 0 0 (Bk 0))], []⟩ [] none (by kernel_rfl) (by rfl) (mt_ev ht (by kernel_rfl)) rfl rfl rfl rfl,
  .mt ⟨[sl 7 (.ptr 0 0)], []⟩ [] none (by kernel_rfl) (by rfl) (mt_ev ht (by kernel_rfl)) rfl rfl rfl rfl,
  .mt ⟨[sl 8 (.ptr 0 0)], []⟩ [] none (by kernel_rfl) (by rfl) (mt_ev ht (by kernel_rfl)) rfl rfl rfl rfl,
  .mt ⟨[sl 9 (.ptr 0 0)], [.box [.v (.string text), I pos, I deep] 268 false]⟩ [] none (by kernel_rfl) (by rfl) (mt_ev ht (by kernel_rfl)) rfl rfl rfl rfl,
  .mt ⟨[sl 10 (.v (.string text))], []⟩ [] none (by kernel_rfl) (by rfl) (mt_val (val_lenS (s := text) rfl Try.underlying9 (by rfl))) rfl rfl rfl rfl,
  .mt ⟨[sl 6 (I pos), sl 11 (I (text.size : Int))], []⟩ [] none (by kernel_rfl) (by rfl) (mt_castB hb_2 (mt_ev ht (by kernel_rfl))) rfl rfl rfl rfl,
  .mt ⟨[sl 12 (B true)], []⟩ [] none (by kernel_rfl) (by rfl) (mt_ev ht (by kernel_rfl)) rfl rfl rfl rfl,
  .mt ⟨[sl 0 (.pptr 0 0 (Bk 0)), sl 13 (B true)], []⟩ [] none (by kernel_rfl) (by rfl) (mt_ev ht (by kernel_rfl)) rfl rfl rfl rfl,
  .me ⟨[sl 13 (B true), sl 14 (.ptr 0 0)], [.box [.v (.string text), I pos, I deep] 268 false]⟩ [(0, .box [.v (.string text), I (pos), I (deep)] 268 false)] (by kernel_rfl) (by rfl) (me_call (rNow_ct text pos deep hp_2) en209 (caps := []) [0] rfl (by rfl) (argsAs (by kernel_rfl) (by rfl)) (by kernel_rfl) (by decide) (by rfl) (by rfl)) rfl rfl rfl ⟨⟨_, rfl, rfl, rfl, rfl, rfl⟩, trivial⟩,
  .mt ⟨[sl 13 (B true), sl 15 (.v (.int .u8 (chr text pos)))], []⟩ [] none (by kernel_rfl) (by rfl) (mt_call (idxStr_ct (ByteArray.mk #[48, 49, 97, 98, 99, 100, 40]) (chr text pos)) en242 (caps := []) [] rfl (by rfl) (by kernel_rfl) (by kernel_rfl) (by rfl) (by rfl) (by rfl)) rfl rfl rfl rfl,
  .mt ⟨[sl 13 (B true), sl 16 (I (qrBeg0 text pos))], []⟩ [] none (by kernel_rfl) (by rfl) (mt_ev ht (by kernel_rfl)) rfl rfl rfl rfl,
  .mt ⟨[sl 13 (B true), sl 17 (B (decide ((qrBeg0 text pos) ≥ 0)))], []⟩ [] none (by kernel_rfl) (by rfl) (mt_ev ht (by kernel_rfl)) rfl rfl rfl rfl,
  .mt ⟨[sl 18 (B (decide ((qrBeg0 text pos) ≥ 0)))], []⟩ [] none (by kernel_rfl) (by rfl) (mt_ev ht (by kernel_rfl)) rfl rfl rfl rfl,
  trivial⟩
   ·exact En.at (I := fun zz => J zz.1 zz.2.1 zz.2.2) (T := fun zz => ⟨[sl 0 (.pptr 0 0 (Bk 0)), sl 2 (B zz.1)], [.box [.v (.string text), I zz.2.1, I zz.2.2] 268 false]⟩) ((decide ((qrBeg0 text pos) ≥ 0)), (pos), (deep)) h (by kernel_rfl)
  ·replace h := h.2 hb_2
   refine En.regionA ⟨[sl 0 (.pptr 0 0 (Bk 0))], [.sv (.one (.ptr 0 0)), .sv (.one (.ptr 0 0)), .sv (.one (.ptr 0 1)), .sv (.one (I pos)), .sv (.one (.ptr 0 0)), .sv (.one (.ptr 0 0)), .sv (.one (.ptr 0 0)), .sv (.one (.v (.string text))), .sv (.one (I (text.size : Int))), .sv (.one (B false)), .sv (.one (B false)), .tup [], .tup [], .tup [], .tup [], .sv (.one (B false)), .sv (.one (B false))], [⟨.box [.v (.string text), I pos, I deep] 268 false, none, none, none⟩]⟩ ⟨[sl 0 (.pptr 0 0 (Bk 0)), sl 2 (B false)], [.box [.v (.string text), I pos, I deep] 268 false]⟩ (by kernel_rfl) hn (by kernel_rfl) (by rfl) (by kernel_rfl) ?_ (by kernel_rfl) ?_
   ·exact ⟨.mt ⟨[sl 0 (.pptr 0 0 (Bk 0))], []⟩ [] none (by kernel_rfl) (by rfl) (mt_ev ht (by kernel_rfl)) rfl rfl rfl rfl,
  .mt ⟨[sl 3 (.ptr 0 0)], []⟩ [] none (by kernel_rfl) (by rfl) (mt_ev ht (by kernel_rfl)) rfl rfl rfl rfl,
  .mt ⟨[sl 4 (.ptr 0 0)], []⟩ [] none (by kernel_rfl) (by rfl) (mt_ev ht (by kernel_rfl)) rfl rfl rfl rfl,
  .mt ⟨[sl 5 (.ptr 0 1)], [.box [.v (.string text), I pos, I deep] 268 false]⟩ [] none (by kernel_rfl) (by rfl) (mt_ev ht (by kernel_rfl)) rfl rfl rfl rfl,
  .mt ⟨[sl 0 (.pptr 0 0 (Bk 0))], []⟩ [] none (by kernel_rfl) (by rfl) (mt_ev ht (by kernel_rfl)) rfl rfl rfl rfl,
  .mt ⟨[sl 7 (.ptr 0 0)], []⟩ [] none (by kernel_rfl) (by rfl) (mt_ev ht (by kernel_rfl)) rfl rfl rfl rfl,
  .mt ⟨[sl 8 (.ptr 0 0)], []⟩ [] none (by kernel_rfl) (by rfl) (mt_ev ht (by kernel_rfl)) rfl rfl rfl rfl,
  .mt ⟨[sl 9 (.ptr 0 0)], [.box [.v (.string text), I pos, I deep] 268 false]⟩ [] none (by kernel_rfl) (by rfl) (mt_ev ht (by kernel_rfl)) rfl rfl rfl rfl,
  .mt ⟨[sl 10 (.v (.string text))], []⟩ [] none (by kernel_rfl) (by rfl) (mt_val (val_lenS (s := text) rfl Try.underlying9 (by rfl))) rfl rfl rfl rfl,
  .mt ⟨[sl 6 (I pos), sl 11 (I (text.size : Int))], []⟩ [] none (by kernel_rfl) (by rfl) (mt_castB hb_2 (mt_ev ht (by kernel_rfl))) rfl rfl rfl rfl,
  .mt ⟨[sl 12 (B false)], []⟩ [] none (by kernel_rfl) (by rfl) (mt_ev ht (by kernel_rfl)) rfl rfl rfl rfl,
  .skip ⟨[sl 13 (B false)], []⟩ (by kernel_rfl) (by rfl) rfl rfl rfl rfl,
  .skip ⟨[sl 13 (B false)], []⟩ (by kernel_rfl) (by rfl) rfl rfl rfl rfl,
  .skip ⟨[sl 13 (B false)], []⟩ (by kernel_rfl) (by rfl) rfl rfl rfl rfl,
  .skip ⟨[sl 13 (B false)], []⟩ (by kernel_rfl) (by rfl) rfl rfl rfl rfl,
  .mt ⟨[sl 13 (B false), (17, .tup [])], []⟩ [] none (by kernel_rfl) (by rfl) (mt_ev ht (by kernel_rfl)) rfl rfl rfl rfl,
  .mt ⟨[sl 18 (B false)], []⟩ [] none (by kernel_rfl) (by rfl) (mt_ev ht (by kernel_rfl)) rfl rfl rfl rfl,
  trivial⟩
   ·exact En.at (I := fun zz => J zz.1 zz.2.1 zz.2.2) (T := fun zz => ⟨[sl 0 (.pptr 0 0 (Bk 0)), sl 2 (B zz.1)], [.box [.v (.string text), I zz.2.1, I zz.2.2] 268 false]⟩) (false, pos, deep) h (by kernel_rfl)
 ·rintro ⟨x2, y01, y02⟩ h
  replace h := hJ _ _ _ h
  show En c ⟨[sl 0 (.pptr 0 0 (Bk 0)), sl 2 (B x2)], [.box [.v (.string text), I y01, I y02] 268 false]⟩ _
  refine En.ret ?_
  exact En.backE [0] ht (x2, y01, y02) h (by kernel_rfl) (by rfl) rfl
theorem en229 : ∀ args w, (callFunc 229 args).run Try.prog w = .ok (.enter 229 args) w := enters_of Try.func229 (by kernel_rfl) rfl
def begB (text : ByteArray) (pos : Int) : Bool := (decide (pos < (text.size : Int))) && (decide ((firstIdx (ByteArray.mk #[48, 49, 97, 98, 99, 100, 40]) ((chr text pos)).toNat.toUInt8) ≥ 0))
theorem rBeg_ct (text : ByteArray) (pos : Int) (deep : Int) (hp : 0 ≤ pos ∧ pos ≤ text.size)  : CtE 229 [.sv (.one (.ptr 0 0))] [.box [.v (.string text), I pos, I deep] 268 false] [0] (fun (_ : Unit) => True) (fun _ => .sv (.one (B (begB text pos)))) (fun _ => [.box [.v (.string text), I (pos), I (deep)] 268 false]) := by
 refine (rBeg_walk text pos deep (fun res_ => res_ = (begB text pos, pos, deep)) ?_).imp (fun r hr => ⟨(), trivial, by subst hr; rfl, by subst hr; rfl⟩)
 unfold rBeg_vc
 refine ⟨fun b p d => b = begB text pos ∧ p = pos ∧ d = deep, ⟨fun h => ⟨hp, ?_, rfl, rfl⟩, fun h => ⟨?_, rfl, rfl⟩⟩, ?_⟩
 ·unfold begB; rw [h]; rfl
 ·unfold begB; rw [h]; rfl
 ·rintro _ _ _ ⟨rfl, rfl, rfl⟩
  rfl
abbrev RTr := Tr RLab
def nd (k l : Int) (kids : List RTr) : RTr := .node ⟨k, l⟩ kids
def partS (wh : Int → Int → Option (RTr × Int)) (text : ByteArray) (p d : Int) : Option (RTr × Int) :=
 if chr text p = 48 ∨ chr text p = 49 then some (nd (chr text p - 48) 0 [], p + 1)
 else if 97 ≤ chr text p ∧ chr text p ≤ 100 then some (nd 2 (chr text p - 97) [], p + 1)
 else if chr text p = 40 then
  if d = 40 then none
  else match wh (p + 1) (d + 1) with
   | none => none
   | some r => if chr text r.2 = 41 then some (r.1, r.2 + 1) else none
 else none
def starsS (text : ByteArray) : Nat → RTr → Int → RTr × Int
 | 0, t, p => (t, p)
 | m + 1, t, p => if chr text p = 42 then starsS text m (nd 5 0 [t]) (p + 1) else (t, p)
def oneS (wh : Int → Int → Option (RTr × Int)) (text : ByteArray) (p d : Int) : Option (RTr × Int) := match partS wh text p d with
 | none => none
 | some r => some (starsS text text.size r.1 r.2)
def rowL (one : Int → Option (RTr × Int)) (text : ByteArray) : Nat → List RTr → Int → Option (List RTr × Int)
 | 0, _, _ => none
 | m + 1, l, p => if begB text p then match one p with
   | none => none
   | some r => rowL one text m (l ++ [r.1]) r.2
  else some (l, p)
def rowS (wh : Int → Int → Option (RTr × Int)) (text : ByteArray) (p d : Int) : Option (RTr × Int) := match oneS wh text p d with
 | none => none
 | some r => match rowL (fun p => oneS wh text p d) text (text.size + 1) [r.1] r.2 with
  | none => none
  | some r => some (nd 4 0 r.1, r.2)
def wholeL (row : Int → Option (RTr × Int)) (text : ByteArray) : Nat → List RTr → Int → Option (List RTr × Int)
 | 0, _, _ => none
 | m + 1, l, p => if chr text p = 43 then match row (p + 1) with
   | none => none
   | some r => wholeL row text m (l ++ [r.1]) r.2
  else some (l, p)
def wholeS (wh : Int → Int → Option (RTr × Int)) (text : ByteArray) (p d : Int) : Option (RTr × Int) := match rowS wh text p d with
 | none => none
 | some r => match wholeL (fun p => rowS wh text p d) text (text.size + 1) [r.1] r.2 with
  | none => none
  | some r => some (nd 3 0 r.1, r.2)
def pW (text : ByteArray) : Nat → Int → Int → Option (RTr × Int)
 | 0, _, _ => none
 | k + 1, p, d => wholeS (pW text k) text p d
def rOk (k : Nat) (text : ByteArray) (pos deep : Int) : Prop := (text.size ≤ 4000) ∧ (0 ≤ pos ∧ pos ≤ text.size ∧ text.size - pos < k) ∧ 0 ≤ deep ∧ deep ≤ 40
def WC (k : Nat) : Prop := ∀ (text : ByteArray) (pos deep : Int), rOk k text pos deep → (∀ r, pW text k pos deep = some r → CtE 155 [.sv (.one (.ptr 0 0))] [.box [.v (.string text), I pos, I deep] 268 false] [0] (fun (_ : Unit) => True) (fun _ => .sv (.one (.rd (trR rLab r.1)))) (fun _ => [.box [.v (.string text), I r.2, I deep] 268 false])) ∧ (pW text k pos deep = none → CtX 155 [.sv (.one (.ptr 0 0))] [.box [.v (.string text), I pos, I deep] 268 false] (psStop 265))
theorem wI_ok (k : Nat) (ih : WC k) (text : ByteArray) (pos deep : Int) (hp : rOk k text pos deep) (r : RTr × Int) (hx : pW text k pos deep = some r) : CtE 155 [.sv (.one (.ptr 0 0))] [.box [.v (.string text), I pos, I deep] 268 false] [0] (fun (_ : Unit) => True) (fun _ => .sv (.one (.rd (trR rLab r.1)))) (fun _ => [.box [.v (.string text), I r.2, I deep] 268 false]) := (ih text pos deep hp).1 r hx
theorem wI_bad (k : Nat) (ih : WC k) (text : ByteArray) (pos deep : Int) (hp : rOk k text pos deep) (hx : pW text k pos deep = none) : CtX 155 [.sv (.one (.ptr 0 0))] [.box [.v (.string text), I pos, I deep] 268 false] (psStop 265) := (ih text pos deep hp).2 hx
theorem en155 : ∀ args w, (callFunc 155 args).run Try.prog w = .ok (.enter 155 args) w := enters_of Try.func155 (by kernel_rfl) rfl
def rPart_vc (k : Nat) (text : ByteArray) (pos : Int) (deep : Int) (Q : (Tr RLab) × Int × Int → Prop) (P : Prop) : Prop :=
 (0 ≤ pos ∧ pos ≤ text.size) ∧
 IfP (((chr text pos) == 48) || ((chr text pos) == 49)) (Q ((Tr.node (RLab.mk (wr (IntKind.wrap .u8 ((chr text pos) - 48))) 0) []), (wr ((pos) + 1)), (deep))) (IfP ((decide ((chr text pos) ≥ 97)) && (decide ((chr text pos) ≤ 100))) (Q ((Tr.node (RLab.mk 2 (wr (IntKind.wrap .u8 ((chr text pos) - 97)))) []), (wr ((pos) + 1)), (deep))) (IfP ((chr text pos) == 40) (IfP ((deep) == 40) (((7 : Int) ≠ 0) ∧
 P) ((rOk k text (wr ((pos) + 1)) (wr ((deep) + 1))) ∧
 ((pW text k (wr ((pos) + 1)) (wr ((deep) + 1))) = none → P) ∧ ∀ r, (pW text k (wr ((pos) + 1)) (wr ((deep) + 1))) = some r →
 ((0 ≤ (r.2) ∧ (r.2) ≤ text.size) ∧
 IfP ((chr text (r.2)) != 41) (((4 : Int) ≠ 0) ∧
 P) (Q ((r.1), (wr (((r.2)) + 1)), (wr (((wr ((deep) + 1))) - 1))))))) (((4 : Int) ≠ 0) ∧
 P)))
theorem rPart_walk (k : Nat) (text : ByteArray) (pos : Int) (deep : Int) (ih : WC k) (Q : (Tr RLab) × Int × Int → Prop) (P : Prop) (h : rPart_vc k text pos deep Q P) : CtP 241 [.sv (.one (.ptr 0 0))] [.box [.v (.string text), I pos, I deep] 268 false] [0] Q (fun (r : (Tr RLab) × Int × Int) => .sv (.one (.rd (trR rLab r.1)))) (fun (r : (Tr RLab) × Int × Int) => [.box [.v (.string text), I r.2.1, I r.2.2] 268 false]) (psStop 265) P := by
 have ht := tab_ok
 refine CtP.body Try.func241 rfl rfl rfl (by kernel_rfl) (by kernel_rfl) (fun c Bk hn hpan => ?_)
 unfold rPart_vc at h
 show En c ⟨[sl 0 (.pptr 0 0 (Bk 0))], [.box [.v (.string text), I pos, I deep] 268 false]⟩ _
 refine En.seq ?_
 refine En.region ?_
 refine WL.run ht hn 1 ⟨[sl 0 (.pptr 0 0 (Bk 0))], [.box [.v (.string text), I pos, I deep] 268 false]⟩ (by kernel_rfl) ?_
 refine WL.nil ?_
 refine En.seq ?_
 refine En.region ?_
 refine WL.run ht hn 1 ⟨[sl 0 (.pptr 0 0 (Bk 0)), sl 5 (.ptr 0 0)], [.box [.v (.string text), I pos, I deep] 268 false]⟩ (by kernel_rfl) ?_
 have hp := h.1
 replace h := h.2
 refine WL.callE (rNow_ct text pos deep hp) en209 (caps := []) [0] hn (by rfl) rfl (by rfl) (argsAs (by kernel_rfl) (by rfl)) (by kernel_rfl) (by decide) (by rfl) (by rfl) (fun _ _ => ⟨by rfl, _, by rfl, ?_⟩)
 refine WL.run ht hn 1 ⟨[sl 0 (.pptr 0 0 (Bk 0)), sl 3 (.v (.int .u8 (chr text pos)))], [.box [.v (.string text), I (pos), I (deep)] 268 false]⟩ (by kernel_rfl) ?_
 refine WL.nil ?_
 refine En.seq ?_
 refine En.block ?_
 refine En.seq ?_
 refine En.region ?_
 refine WL.run ht hn 3 ⟨[sl 0 (.pptr 0 0 (Bk 0)), sl 3 (.v (.int .u8 (chr text pos))), sl 10 (B ((chr text pos) == 48))], [.box [.v (.string text), I (pos), I (deep)] 268 false]⟩ (by kernel_rfl) ?_
 refine WL.thru ⟨[sl 0 (.pptr 0 0 (Bk 0)), sl 3 (.v (.int .u8 (chr text pos))), sl 7 (B (((chr text pos) == 48) || ((chr text pos) == 49)))], [.box [.v (.string text), I (pos), I (deep)] 268 false]⟩ ?_ ?_
 refine splitB ((chr text pos) == 48) (fun hb0 => ?_) (fun hb0 => ?_)
 refine WL.setB 10 hb0 (by kernel_rfl) ?_
 refine WL.run ht hn 4 ⟨[sl 0 (.pptr 0 0 (Bk 0)), sl 3 (.v (.int .u8 (chr text pos))), sl 7 (B true)], [.box [.v (.string text), I (pos), I (deep)] 268 false]⟩ (by kernel_rfl) ?_
 exact WL.nil (sub_ok (by simp only [hb0]; kernel_rfl))
 refine WL.setB 10 hb0 (by kernel_rfl) ?_
 refine WL.run ht hn 4 ⟨[sl 0 (.pptr 0 0 (Bk 0)), sl 3 (.v (.int .u8 (chr text pos))), sl 7 (B ((chr text pos) == 49))], [.box [.v (.string text), I (pos), I (deep)] 268 false]⟩ (by kernel_rfl) ?_
 exact WL.nil (sub_ok (by simp only [hb0]; kernel_rfl))
 refine En.cond (b := (((chr text pos) == 48) || ((chr text pos) == 49))) (by kernel_rfl) (fun hb => ?_) (fun hb => ?_)
 replace h := h.1 hb
 refine En.seq ?_
 refine En.region ?_
 refine WL.run ht hn 8 ⟨[sl 0 (.pptr 0 0 (Bk 0)), sl 3 (.v (.int .u8 (chr text pos)))], [.box [.v (.string text), I (wr ((pos) + 1)), I (deep)] 268 false]⟩ (by kernel_rfl) ?_
 refine WL.nil ?_
 refine En.seq ?_
 refine En.region ?_
 refine WL.run ht hn 6 ⟨[sl 0 (.pptr 0 0 (Bk 0)), sl 2 (.ptr 1 0)], [.box [.v (.string text), I (wr ((pos) + 1)), I (deep)] 268 false, .box [I (wr (IntKind.wrap .u8 ((chr text pos) - 48))), I 0, .v (.slice none 0 0)] 316 false]⟩ (by kernel_rfl) ?_
 refine WL.nil ?_
 refine En.ret ?_
 refine En.nilBox (T := (TT rLab)) 1 2 (by rfl) (by rfl) ?_
 refine En.freeze [1] (by rfl) ?_
 refine En.ghost 2 (o1 (.rd (trR rLab (Tr.node (RLab.mk (wr (IntKind.wrap .u8 ((chr text pos) - 48))) 0) [])))) (by rfl) (tree_of (lab := rLab) (x := (RLab.mk (wr (IntKind.wrap .u8 ((chr text pos) - 48))) 0)) (kids := []) (i := 1) (by rfl) (by rfl) (by rfl)) ?_
 exact En.backE [0] ht ((Tr.node (RLab.mk (wr (IntKind.wrap .u8 ((chr text pos) - 48))) 0) []), (wr ((pos) + 1)), (deep)) h (by kernel_rfl) (by rfl) rfl
 replace h := h.2 hb
 refine En.seq ?_
 refine En.region ?_
 refine WL.run ht hn 3 ⟨[sl 0 (.pptr 0 0 (Bk 0)), sl 3 (.v (.int .u8 (chr text pos))), sl 29 (B (decide ((chr text pos) ≥ 97)))], [.box [.v (.string text), I (pos), I (deep)] 268 false]⟩ (by kernel_rfl) ?_
 refine WL.thru ⟨[sl 0 (.pptr 0 0 (Bk 0)), sl 3 (.v (.int .u8 (chr text pos))), sl 26 (B ((decide ((chr text pos) ≥ 97)) && (decide ((chr text pos) ≤ 100))))], [.box [.v (.string text), I (pos), I (deep)] 268 false]⟩ ?_ ?_
 refine splitB (decide ((chr text pos) ≥ 97)) (fun hb0 => ?_) (fun hb0 => ?_)
 refine WL.setB 29 hb0 (by kernel_rfl) ?_
 refine WL.run ht hn 4 ⟨[sl 0 (.pptr 0 0 (Bk 0)), sl 3 (.v (.int .u8 (chr text pos))), sl 26 (B (decide ((chr text pos) ≤ 100)))], [.box [.v (.string text), I (pos), I (deep)] 268 false]⟩ (by kernel_rfl) ?_
 exact WL.nil (sub_ok (by simp only [hb0]; kernel_rfl))
 refine WL.setB 29 hb0 (by kernel_rfl) ?_
 refine WL.run ht hn 4 ⟨[sl 0 (.pptr 0 0 (Bk 0)), sl 3 (.v (.int .u8 (chr text pos))), sl 26 (B false)], [.box [.v (.string text), I (pos), I (deep)] 268 false]⟩ (by kernel_rfl) ?_
 exact WL.nil (sub_ok (by simp only [hb0]; kernel_rfl))
 refine En.cond (b := ((decide ((chr text pos) ≥ 97)) && (decide ((chr text pos) ≤ 100)))) (by kernel_rfl) (fun hb => ?_) (fun hb => ?_)
 replace h := h.1 hb
 refine En.seq ?_
 refine En.region ?_
 refine WL.run ht hn 8 ⟨[sl 0 (.pptr 0 0 (Bk 0)), sl 3 (.v (.int .u8 (chr text pos)))], [.box [.v (.string text), I (wr ((pos) + 1)), I (deep)] 268 false]⟩ (by kernel_rfl) ?_
 refine WL.nil ?_
 refine En.seq ?_
 refine En.region ?_
 refine WL.run ht hn 6 ⟨[sl 0 (.pptr 0 0 (Bk 0)), sl 2 (.ptr 1 0)], [.box [.v (.string text), I (wr ((pos) + 1)), I (deep)] 268 false, .box [I 2, I (wr (IntKind.wrap .u8 ((chr text pos) - 97))), .v (.slice none 0 0)] 316 false]⟩ (by kernel_rfl) ?_
 refine WL.nil ?_
 refine En.ret ?_
 refine En.nilBox (T := (TT rLab)) 1 2 (by rfl) (by rfl) ?_
 refine En.freeze [1] (by rfl) ?_
 refine En.ghost 2 (o1 (.rd (trR rLab (Tr.node (RLab.mk 2 (wr (IntKind.wrap .u8 ((chr text pos) - 97)))) [])))) (by rfl) (tree_of (lab := rLab) (x := (RLab.mk 2 (wr (IntKind.wrap .u8 ((chr text pos) - 97))))) (kids := []) (i := 1) (by rfl) (by rfl) (by rfl)) ?_
 exact En.backE [0] ht ((Tr.node (RLab.mk 2 (wr (IntKind.wrap .u8 ((chr text pos) - 97)))) []), (wr ((pos) + 1)), (deep)) h (by kernel_rfl) (by rfl) rfl
 replace h := h.2 hb
 refine En.seq ?_
 refine En.region ?_
 refine WL.run ht hn 3 ⟨[sl 0 (.pptr 0 0 (Bk 0)), sl 45 (B ((chr text pos) == 40))], [.box [.v (.string text), I (pos), I (deep)] 268 false]⟩ (by kernel_rfl) ?_
 refine WL.nil ?_
 refine En.cond (b := ((chr text pos) == 40)) (by kernel_rfl) (fun hb => ?_) (fun hb => ?_)
 replace h := h.1 hb
 refine En.seq ?_
 refine En.seq ?_
 refine En.region ?_
 refine WL.run ht hn 5 ⟨[sl 0 (.pptr 0 0 (Bk 0)), sl 52 (B ((deep) == 40))], [.box [.v (.string text), I (pos), I (deep)] 268 false]⟩ (by kernel_rfl) ?_
 refine WL.nil ?_
 refine En.cond (b := ((deep) == 40)) (by kernel_rfl) (fun hb => ?_) (fun hb => ?_)
 replace h := h.1 hb
 refine En.region ?_
 refine WL.run ht hn 1 ⟨[sl 0 (.pptr 0 0 (Bk 0)), sl 53 (.ptr 0 0)], [.box [.v (.string text), I (pos), I (deep)] 268 false]⟩ (by kernel_rfl) ?_
 have hp := h.1
 replace h := h.2
 exact WL.callX (rFail_ct text (pos) (deep) 7 hp) en156 (caps := []) [0] (by rfl) rfl (by rfl) (argsAs (by kernel_rfl) (by rfl)) (by kernel_rfl) (by decide) (leftX hpan h)
 replace h := h.2 hb
 refine En.skip ?_
 refine En.seq ?_
 refine En.region ?_
 refine WL.run ht hn 8 ⟨[sl 0 (.pptr 0 0 (Bk 0))], [.box [.v (.string text), I (pos), I (wr ((deep) + 1))] 268 false]⟩ (by kernel_rfl) ?_
 refine WL.nil ?_
 refine En.seq ?_
 refine En.region ?_
 refine WL.run ht hn 8 ⟨[sl 0 (.pptr 0 0 (Bk 0))], [.box [.v (.string text), I (wr ((pos) + 1)), I (wr ((deep) + 1))] 268 false]⟩ (by kernel_rfl) ?_
 refine WL.nil ?_
 refine En.seq ?_
 refine En.region ?_
 refine WL.run ht hn 1 ⟨[sl 0 (.pptr 0 0 (Bk 0)), sl 69 (.ptr 0 0)], [.box [.v (.string text), I (wr ((pos) + 1)), I (wr ((deep) + 1))] 268 false]⟩ (by kernel_rfl) ?_
 have hp := h.1
 replace h := h.2
 refine splitO ((pW text k (wr ((pos) + 1)) (wr ((deep) + 1)))) (fun hr_2 => ?_) (fun r hr_2 => ?_)
 exact WL.callX (wI_bad k ih text (wr ((pos) + 1)) (wr ((deep) + 1)) hp hr_2) en155 (caps := []) [0] (by rfl) rfl (by rfl) (argsAs (by kernel_rfl) (by rfl)) (by kernel_rfl) (by decide) (leftX hpan (h.1 hr_2))
 replace h := h.2 r hr_2
 refine WL.callE (wI_ok k ih text (wr ((pos) + 1)) (wr ((deep) + 1)) hp r hr_2) en155 (caps := []) [0] hn (by rfl) rfl (by rfl) (argsAs (by kernel_rfl) (by rfl)) (by kernel_rfl) (by decide) (by rfl) (by rfl) (fun _ _ => ⟨by rfl, _, by rfl, ?_⟩)
 refine WL.run ht hn 1 ⟨[sl 0 (.pptr 0 0 (Bk 0)), sl 4 (.rd (trR rLab (r.1)))], [.box [.v (.string text), I (r.2), I (wr ((deep) + 1))] 268 false]⟩ (by kernel_rfl) ?_
 refine WL.nil ?_
 refine En.seq ?_
 refine En.seq ?_
 refine En.region ?_
 refine WL.run ht hn 1 ⟨[sl 0 (.pptr 0 0 (Bk 0)), sl 4 (.rd (trR rLab (r.1))), sl 71 (.ptr 0 0)], [.box [.v (.string text), I (r.2), I (wr ((deep) + 1))] 268 false]⟩ (by kernel_rfl) ?_
 have hp := h.1
 replace h := h.2
 refine WL.callE (rNow_ct text (r.2) (wr ((deep) + 1)) hp) en209 (caps := []) [0] hn (by rfl) rfl (by rfl) (argsAs (by kernel_rfl) (by rfl)) (by kernel_rfl) (by decide) (by rfl) (by rfl) (fun _ _ => ⟨by rfl, _, by rfl, ?_⟩)
 refine WL.run ht hn 1 ⟨[sl 0 (.pptr 0 0 (Bk 0)), sl 4 (.rd (trR rLab (r.1))), sl 73 (B ((chr text (r.2)) != 41))], [.box [.v (.string text), I ((r.2)), I ((wr ((deep) + 1)))] 268 false]⟩ (by kernel_rfl) ?_
 refine WL.nil ?_
 refine En.cond (b := ((chr text (r.2)) != 41)) (by kernel_rfl) (fun hb => ?_) (fun hb => ?_)
 replace h := h.1 hb
 refine En.region ?_
 refine WL.run ht hn 1 ⟨[sl 0 (.pptr 0 0 (Bk 0)), sl 4 (.rd (trR rLab (r.1))), sl 74 (.ptr 0 0)], [.box [.v (.string text), I ((r.2)), I ((wr ((deep) + 1)))] 268 false]⟩ (by kernel_rfl) ?_
 have hp := h.1
 replace h := h.2
 exact WL.callX (rFail_ct text ((r.2)) ((wr ((deep) + 1))) 4 hp) en156 (caps := []) [0] (by rfl) rfl (by rfl) (argsAs (by kernel_rfl) (by rfl)) (by kernel_rfl) (by decide) (leftX hpan h)
 replace h := h.2 hb
 refine En.skip ?_
 refine En.seq ?_
 refine En.region ?_
 refine WL.run ht hn 8 ⟨[sl 0 (.pptr 0 0 (Bk 0)), sl 4 (.rd (trR rLab (r.1)))], [.box [.v (.string text), I (wr (((r.2)) + 1)), I ((wr ((deep) + 1)))] 268 false]⟩ (by kernel_rfl) ?_
 refine WL.nil ?_
 refine En.seq ?_
 refine En.region ?_
 refine WL.run ht hn 8 ⟨[sl 0 (.pptr 0 0 (Bk 0)), sl 4 (.rd (trR rLab (r.1)))], [.box [.v (.string text), I (wr (((r.2)) + 1)), I (wr (((wr ((deep) + 1))) - 1))] 268 false]⟩ (by kernel_rfl) ?_
 refine WL.nil ?_
 refine En.seq ?_
 refine En.region ?_
 refine WL.run ht hn 2 ⟨[sl 0 (.pptr 0 0 (Bk 0)), sl 2 (.rd (trR rLab (r.1)))], [.box [.v (.string text), I (wr (((r.2)) + 1)), I (wr (((wr ((deep) + 1))) - 1))] 268 false]⟩ (by kernel_rfl) ?_
 refine WL.nil ?_
 refine En.ret ?_
 exact En.backE [0] ht ((r.1), (wr (((r.2)) + 1)), (wr (((wr ((deep) + 1))) - 1))) h (by kernel_rfl) (by rfl) rfl
 replace h := h.2 hb
 refine En.skip ?_
 refine En.seq ?_
 refine En.region ?_
 refine WL.run ht hn 1 ⟨[sl 0 (.pptr 0 0 (Bk 0)), sl 91 (.ptr 0 0)], [.box [.v (.string text), I (pos), I (deep)] 268 false]⟩ (by kernel_rfl) ?_
 have hp := h.1
 replace h := h.2
 exact WL.callX (rFail_ct text (pos) (deep) 4 hp) en156 (caps := []) [0] (by rfl) rfl (by rfl) (argsAs (by kernel_rfl) (by rfl)) (by kernel_rfl) (by decide) (leftX hpan h)
theorem en241 : ∀ args w, (callFunc 241 args).run Try.prog w = .ok (.enter 241 args) w := enters_of Try.func241 (by kernel_rfl) rfl
theorem chr_lt {text : ByteArray} {p : Int} (h : chr text p ≠ 0) : p < text.size := by
 by_cases hh : p < text.size
 ·exact hh
 ·exact absurd (chr_end (by omega)) h
theorem chr_rng (text : ByteArray) (p : Int) : 0 ≤ chr text p ∧ chr text p ≤ 255 := by
 unfold chr byteAt
 split
 ·cases h : text[p.toNat]? with
  | none => simp
  | some b =>
   have := b.toNat_lt
   simp
   omega
 ·simp
def Good (text : ByteArray) (f : Int → Int → Option (RTr × Int)) : Prop := ∀ (p d : Int) (r : RTr × Int), 0 ≤ p → p ≤ text.size → f p d = some r → p < r.2 ∧ r.2 ≤ text.size
theorem partS_good {text : ByteArray} {wh : Int → Int → Option (RTr × Int)} (hw : Good text wh) : Good text (partS wh text) := fun p d r h0 h1 e => by
 unfold partS at e
 split at e
 ·rename_i hc
  have := chr_lt (text := text) (p := p) (by omega)
  cases e
  simp only
  omega
 ·split at e
  ·rename_i hc
   have := chr_lt (text := text) (p := p) (by omega)
   cases e
   simp only
   omega
  ·split at e
   ·rename_i hc
    have := chr_lt (text := text) (p := p) (by omega)
    split at e
    ·cases e
    ·split at e
     ·cases e
     ·rename_i r' hr
      obtain ⟨k1, k2⟩ := hw (p + 1) (d + 1) r' (by omega) (by omega) hr
      split at e
      ·rename_i hc2
       have := chr_lt (text := text) (p := r'.2) (by omega)
       cases e
       simp only
       omega
      ·cases e
   ·cases e
theorem starsS_good {text : ByteArray} : ∀ (m : Nat) (t : RTr) (p : Int), p ≤ text.size → p ≤ (starsS text m t p).2 ∧ (starsS text m t p).2 ≤ text.size
 | 0, t, p, h1 => ⟨Int.le_refl _, h1⟩
 | m + 1, t, p, h1 => by
  unfold starsS
  split
  ·rename_i hc
   have := chr_lt (text := text) (p := p) (by omega)
   have := starsS_good (text := text) m (nd 5 0 [t]) (p + 1) (by omega)
   omega
  ·exact ⟨Int.le_refl _, h1⟩
theorem oneS_good {text : ByteArray} {wh : Int → Int → Option (RTr × Int)} (hw : Good text wh) : Good text (oneS wh text) := fun p d r h0 h1 e => by
 unfold oneS at e
 split at e
 ·cases e
 ·rename_i r' hr
  cases e
  have := partS_good hw p d r' h0 h1 hr
  have := starsS_good (text := text) text.size r'.1 r'.2 (by omega)
  omega
theorem rowL_good {text : ByteArray} {one : Int → Option (RTr × Int)} (ho : ∀ (p : Int) (r : RTr × Int), 0 ≤ p → p ≤ text.size → one p = some r → p < r.2 ∧ r.2 ≤ text.size) : ∀ (m : Nat) (l : List RTr) (p : Int) (r : List RTr × Int), 0 ≤ p → p ≤ text.size → rowL one text m l p = some r → p ≤ r.2 ∧ r.2 ≤ text.size
 | 0, l, p, r, _, _, e => by simp [rowL] at e
 | m + 1, l, p, r, h0, h1, e => by
  unfold rowL at e
  split at e
  ·split at e
   ·cases e
   ·rename_i r' hr
    have k := ho p r' h0 h1 hr
    have := rowL_good ho m _ r'.2 r (by omega) (by omega) e
    omega
  ·cases e
   exact ⟨Int.le_refl _, h1⟩
theorem rowS_good {text : ByteArray} {wh : Int → Int → Option (RTr × Int)} (hw : Good text wh) : Good text (rowS wh text) := fun p d r h0 h1 e => by
 unfold rowS at e
 split at e
 ·cases e
 ·rename_i r' hr
  have k := oneS_good hw p d r' h0 h1 hr
  split at e
  ·cases e
  ·rename_i r2 hr2
   cases e
   have := rowL_good (fun p r h0 h1 e => oneS_good hw p d r h0 h1 e) _ _ _ _ (by omega) (by omega) hr2
   simp only
   omega
theorem wholeL_good {text : ByteArray} {row : Int → Option (RTr × Int)} (ho : ∀ (p : Int) (r : RTr × Int), 0 ≤ p → p ≤ text.size → row p = some r → p < r.2 ∧ r.2 ≤ text.size) : ∀ (m : Nat) (l : List RTr) (p : Int) (r : List RTr × Int), 0 ≤ p → p ≤ text.size → wholeL row text m l p = some r → p ≤ r.2 ∧ r.2 ≤ text.size
 | 0, l, p, r, _, _, e => by simp [wholeL] at e
 | m + 1, l, p, r, h0, h1, e => by
  unfold wholeL at e
  split at e
  ·rename_i hc
   have := chr_lt (text := text) (p := p) (by omega)
   split at e
   ·cases e
   ·rename_i r' hr
    have k := ho (p + 1) r' (by omega) (by omega) hr
    have := wholeL_good ho m _ r'.2 r (by omega) (by omega) e
    omega
  ·cases e
   exact ⟨Int.le_refl _, h1⟩
theorem wholeS_good {text : ByteArray} {wh : Int → Int → Option (RTr × Int)} (hw : Good text wh) : Good text (wholeS wh text) := fun p d r h0 h1 e => by
 unfold wholeS at e
 split at e
 ·cases e
 ·rename_i r' hr
  have k := rowS_good hw p d r' h0 h1 hr
  split at e
  ·cases e
  ·rename_i r2 hr2
   cases e
   have := wholeL_good (fun p r h0 h1 e => rowS_good hw p d r h0 h1 e) _ _ _ _ (by omega) (by omega) hr2
   simp only
   omega
theorem pW_good {text : ByteArray} : ∀ k, Good text (pW text k)
 | 0 => fun p d r _ _ e => by simp [pW] at e
 | k + 1 => wholeS_good (pW_good k)
theorem kd_in {c : Int} (a : Int) (h0 : 0 ≤ c - a) (h1 : c ≤ 255) (ha : 0 ≤ a) : wr (IntKind.wrap .u8 (c - a)) = c - a := by
 have : IntKind.wrap .u8 (c - a) = c - a := by
  show (c - a) % 256 = c - a
  exact Int.emod_eq_of_lt h0 (by omega)
 rw [this, wr_in (by omega) (by omega)]
theorem rPart_all (k : Nat) (text : ByteArray) (pos deep : Int) (hp : rOk (k + 1) text pos deep) (Q : (Tr RLab) × Int × Int → Prop) (P : Prop) (h1 : partS (pW text k) text pos deep = none → P) (h2 : ∀ r, partS (pW text k) text pos deep = some r → Q (r.1, r.2, deep)) : rPart_vc k text pos deep Q P := by
 unfold rPart_vc
 obtain ⟨hz, ⟨p0, p1, pk⟩, d0, d1⟩ := hp
 have hr := chr_rng text pos
 unfold partS at h1 h2
 refine ⟨⟨p0, p1⟩, fun hb => ?_, fun hb => ⟨fun hb2 => ?_, fun hb2 => ⟨fun hb3 => ⟨fun hb4 => ⟨by decide, ?_⟩, fun hb4 => ?_⟩, fun hb3 => ⟨by decide, ?_⟩⟩⟩⟩
 ·have hc : chr text pos = 48 ∨ chr text pos = 49 := by simpa using hb
  have := chr_lt (text := text) (p := pos) (by omega)
  rw [kd_in 48 (by omega) (by omega) (by omega), wr_in (by omega) (by omega)]
  exact h2 _ (if_pos hc)
 ·have hc : ¬ (chr text pos = 48 ∨ chr text pos = 49) := by simpa using hb
  have hc2 : 97 ≤ chr text pos ∧ chr text pos ≤ 100 := by simpa using hb2
  have := chr_lt (text := text) (p := pos) (by omega)
  rw [kd_in 97 (by omega) (by omega) (by omega), wr_in (by omega) (by omega)]
  rw [if_neg hc, if_pos hc2] at h2
  exact h2 _ rfl
 ·have hc : ¬ (chr text pos = 48 ∨ chr text pos = 49) := by simpa using hb
  have hc2 : ¬ (97 ≤ chr text pos ∧ chr text pos ≤ 100) := by simpa using hb2
  have hc3 : chr text pos = 40 := by simpa using hb3
  have hc4 : deep = 40 := by simpa using hb4
  rw [if_neg hc, if_neg hc2, if_pos hc3, if_pos hc4] at h1
  exact h1 rfl
 ·have hc : ¬ (chr text pos = 48 ∨ chr text pos = 49) := by simpa using hb
  have hc2 : ¬ (97 ≤ chr text pos ∧ chr text pos ≤ 100) := by simpa using hb2
  have hc3 : chr text pos = 40 := by simpa using hb3
  have hc4 : ¬ deep = 40 := by simpa using hb4
  have := chr_lt (text := text) (p := pos) (by omega)
  rw [if_neg hc, if_neg hc2, if_pos hc3, if_neg hc4] at h1 h2
  rw [wr_in (n := pos + 1) (by omega) (by omega), wr_in (n := deep + 1) (by omega) (by omega)]
  refine ⟨⟨hz, ⟨by omega, by omega, by omega⟩, by omega, by omega⟩, fun e => ?_, fun r hr2 => ?_⟩
  ·rw [e] at h1
   exact h1 rfl
  ·obtain ⟨k1, k2⟩ := pW_good k (pos + 1) (deep + 1) r (by omega) (by omega) hr2
   rw [hr2] at h1 h2
   refine ⟨⟨by omega, k2⟩, fun hb5 => ⟨by decide, ?_⟩, fun hb5 => ?_⟩
   ·have hc5 : ¬ chr text r.2 = 41 := by simpa using hb5
    simp only [if_neg hc5] at h1
    exact h1 trivial
   ·have hc5 : chr text r.2 = 41 := by simpa using hb5
    have := chr_lt (text := text) (p := r.2) (by omega)
    simp only [if_pos hc5] at h2
    rw [wr_in (by omega) (by omega), wr_in (by omega) (by omega), show deep + 1 - 1 = deep by omega]
    exact h2 _ rfl
 ·have hc : ¬ (chr text pos = 48 ∨ chr text pos = 49) := by simpa using hb
  have hc2 : ¬ (97 ≤ chr text pos ∧ chr text pos ≤ 100) := by simpa using hb2
  have hc3 : ¬ chr text pos = 40 := by simpa using hb3
  rw [if_neg hc, if_neg hc2, if_neg hc3] at h1
  exact h1 rfl
theorem rPart_ok (k : Nat) (ih : WC k) (text : ByteArray) (pos deep : Int) (hp : rOk (k + 1) text pos deep) (r : RTr × Int) (hx : partS (pW text k) text pos deep = some r) : CtE 241 [.sv (.one (.ptr 0 0))] [.box [.v (.string text), I pos, I deep] 268 false] [0] (fun (_ : Unit) => True) (fun _ => .sv (.one (.rd (trR rLab r.1)))) (fun _ => [.box [.v (.string text), I r.2, I deep] 268 false]) :=
 (rPart_walk k text pos deep ih (fun x => x = (r.1, r.2, deep)) False (rPart_all k text pos deep hp _ _ (fun e => by rw [hx] at e; cases e) (fun y e => by rw [hx] at e; cases e; rfl))).toE fun x hx => ⟨(), trivial, by subst hx; rfl, by subst hx; rfl⟩
theorem rPart_bad (k : Nat) (ih : WC k) (text : ByteArray) (pos deep : Int) (hp : rOk (k + 1) text pos deep) (hx : partS (pW text k) text pos deep = none) : CtX 241 [.sv (.one (.ptr 0 0))] [.box [.v (.string text), I pos, I deep] 268 false] (psStop 265) :=
 (rPart_walk k text pos deep ih (fun _ => False) True (rPart_all k text pos deep hp _ _ (fun _ => trivial) (fun y e => by rw [hx] at e; cases e))).toX
def rOne_vc (k : Nat) (text : ByteArray) (pos : Int) (deep : Int) (Q : (Tr RLab) × Int × Int → Prop) (P : Prop) : Prop :=
 (rOk (k + 1) text pos deep) ∧
 ((partS (pW text k) text pos deep) = none → P) ∧ ∀ r, (partS (pW text k) text pos deep) = some r →
 (∃ (Inv : (Tr RLab) → Int → Int → Prop) (mu : (Tr RLab) → Int → Int → Nat), Inv (r.1) (r.2) deep ∧
 ∀ (x3 : (Tr RLab)) (y01 : Int) (y02 : Int) , Inv x3 y01 y02 → ((0 ≤ y01 ∧ y01 ≤ text.size) ∧
 IfP ((chr text y01) == 42) ((Inv (Tr.node (RLab.mk 5 0) ([x3] : (List (Tr RLab)))) (wr ((y01) + 1)) (y02) ∧ mu (Tr.node (RLab.mk 5 0) ([x3] : (List (Tr RLab)))) (wr ((y01) + 1)) (y02) < mu x3 y01 y02)) (Q (x3, (y01), (y02)))))
theorem rOne_walk (k : Nat) (text : ByteArray) (pos : Int) (deep : Int) (ih : WC k) (Q : (Tr RLab) × Int × Int → Prop) (P : Prop) (h : rOne_vc k text pos deep Q P) : CtP 228 [.sv (.one (.ptr 0 0))] [.box [.v (.string text), I pos, I deep] 268 false] [0] Q (fun (r : (Tr RLab) × Int × Int) => .sv (.one (.rd (trR rLab r.1)))) (fun (r : (Tr RLab) × Int × Int) => [.box [.v (.string text), I r.2.1, I r.2.2] 268 false]) (psStop 265) P := by
 have ht := tab_ok
 refine CtP.body Try.func228 rfl rfl rfl (by kernel_rfl) (by kernel_rfl) (fun c Bk hn hpan => ?_)
 unfold rOne_vc at h
 show En c ⟨[sl 0 (.pptr 0 0 (Bk 0))], [.box [.v (.string text), I pos, I deep] 268 false]⟩ _
 refine En.seq ?_
 refine En.region ?_
 refine WL.run ht hn 1 ⟨[sl 0 (.pptr 0 0 (Bk 0))], [.box [.v (.string text), I pos, I deep] 268 false]⟩ (by kernel_rfl) ?_
 refine WL.nil ?_
 refine En.seq ?_
 refine En.region ?_
 refine WL.run ht hn 1 ⟨[sl 0 (.pptr 0 0 (Bk 0)), sl 4 (.ptr 0 0)], [.box [.v (.string text), I pos, I deep] 268 false]⟩ (by kernel_rfl) ?_
 have hp := h.1
 replace h := h.2
 refine splitO ((partS (pW text k) text pos deep)) (fun hr_2 => ?_) (fun r hr_2 => ?_)
 exact WL.callX (rPart_bad k ih text pos deep hp hr_2) en241 (caps := []) [0] (by rfl) rfl (by rfl) (argsAs (by kernel_rfl) (by rfl)) (by kernel_rfl) (by decide) (leftX hpan (h.1 hr_2))
 replace h := h.2 r hr_2
 refine WL.callE (rPart_ok k ih text pos deep hp r hr_2) en241 (caps := []) [0] hn (by rfl) rfl (by rfl) (argsAs (by kernel_rfl) (by rfl)) (by kernel_rfl) (by decide) (by rfl) (by rfl) (fun _ _ => ⟨by rfl, _, by rfl, ?_⟩)
 refine WL.run ht hn 1 ⟨[sl 0 (.pptr 0 0 (Bk 0)), sl 3 (.rd (trR rLab (r.1)))], [.box [.v (.string text), I (r.2), I deep] 268 false]⟩ (by kernel_rfl) ?_
 refine WL.nil ?_
 refine En.seq ?_
 refine En.block ?_
 obtain ⟨Inv, mu, h0, hI⟩ := h
 refine En.loop (σ := (Tr RLab) × Int × Int) (fun zz => Inv zz.1 zz.2.1 zz.2.2) (fun zz => mu zz.1 zz.2.1 zz.2.2) (fun zz => ⟨[sl 0 (.pptr 0 0 (Bk 0)), sl 3 (.rd (trR rLab zz.1))], [.box [.v (.string text), I zz.2.1, I zz.2.2] 268 false]⟩) ((r.1), (r.2), deep) h0 (sub_ok (by kernel_rfl)) ?_
 rintro ⟨x3, y01, y02⟩ h
 replace h := hI _ _ _ h
 show En c ⟨[sl 0 (.pptr 0 0 (Bk 0)), sl 3 (.rd (trR rLab x3))], [.box [.v (.string text), I y01, I y02] 268 false]⟩ _
 refine En.seq ?_
 refine En.seq ?_
 refine En.region ?_
 refine WL.run ht hn 1 ⟨[sl 0 (.pptr 0 0 (Bk 0)), sl 3 (.rd (trR rLab x3)), sl 6 (.ptr 0 0)], [.box [.v (.string text), I y01, I y02] 268 false]⟩ (by kernel_rfl) ?_
 have hp := h.1
 replace h := h.2
 refine WL.callE (rNow_ct text y01 y02 hp) en209 (caps := []) [0] hn (by rfl) rfl (by rfl) (argsAs (by kernel_rfl) (by rfl)) (by kernel_rfl) (by decide) (by rfl) (by rfl) (fun _ _ => ⟨by rfl, _, by rfl, ?_⟩)
 refine WL.run ht hn 1 ⟨[sl 0 (.pptr 0 0 (Bk 0)), sl 3 (.rd (trR rLab x3)), sl 8 (B ((chr text y01) == 42))], [.box [.v (.string text), I (y01), I (y02)] 268 false]⟩ (by kernel_rfl) ?_
 refine WL.nil ?_
 refine En.cond (b := ((chr text y01) == 42)) (by kernel_rfl) (fun hb => ?_) (fun hb => ?_)
 replace h := h.1 hb
 refine En.skip ?_
 refine En.block ?_
 refine En.seq ?_
 refine En.region ?_
 refine WL.run ht hn 8 ⟨[sl 0 (.pptr 0 0 (Bk 0)), sl 3 (.rd (trR rLab x3))], [.box [.v (.string text), I (wr ((y01) + 1)), I (y02)] 268 false]⟩ (by kernel_rfl) ?_
 refine WL.nil ?_
 refine En.region ?_
 refine WL.run ht hn 1 ⟨[sl 0 (.pptr 0 0 (Bk 0)), sl 16 (.rd (trR rLab x3))], [.box [.v (.string text), I (wr ((y01) + 1)), I (y02)] 268 false]⟩ (by kernel_rfl) ?_
 refine WL.mt0 (K := []) (p := some (1, rowI 152 (TT rLab) ([x3] : (List (Tr RLab))))) hn (by rfl) (mt_lit (T := (TT rLab)) ([x3] : (List (Tr RLab))) (mt_bsl 1 (r := cellsOf (TT rLab) ([x3] : (List (Tr RLab)))) ht rfl (by rfl) (by rfl) (by rfl) (by kernel_rfl) (by rfl)) (fun _ h => by cases h) (fun _ => rfl) (fun _ => rfl) (by rfl) (Nat.le_of_ble_eq_true rfl)) (by rfl) (by rfl) (by rfl) ?_
 refine WL.run ht hn 3 ⟨[sl 0 (.pptr 0 0 (Bk 0)), sl 3 (.ptr 2 0)], [.box [.v (.string text), I (wr ((y01) + 1)), I (y02)] 268 false, rowI 152 (TT rLab) ([x3] : (List (Tr RLab))), .box [I 5, I 0, .own 1] 316 false]⟩ (by kernel_rfl) ?_
 refine WL.nil ?_
 refine En.seal (T := (TT rLab)) (l := ([x3] : (List (Tr RLab)))) (e := 152) 1 rfl ?_
 refine En.freeze [2] (by rfl) ?_
 refine En.ghost 3 (o1 (.rd (trR rLab (Tr.node (RLab.mk 5 0) ([x3] : (List (Tr RLab))))))) (by rfl) (tree_of (lab := rLab) (x := (RLab.mk 5 0)) (kids := ([x3] : (List (Tr RLab)))) (i := 2) (by rfl) (by rfl) (by rfl)) ?_
 exact En.at (I := fun zz => Inv zz.1 zz.2.1 zz.2.2 ∧ mu zz.1 zz.2.1 zz.2.2 < mu x3 y01 y02) (T := fun zz => ⟨[sl 0 (.pptr 0 0 (Bk 0)), sl 3 (.rd (trR rLab zz.1))], [.box [.v (.string text), I zz.2.1, I zz.2.2] 268 false]⟩) ((Tr.node (RLab.mk 5 0) ([x3] : (List (Tr RLab)))), (wr ((y01) + 1)), (y02)) h (by kernel_rfl)
 replace h := h.2 hb
 refine En.exit rfl ?_
 refine En.seq ?_
 refine En.region ?_
 refine WL.run ht hn 2 ⟨[sl 0 (.pptr 0 0 (Bk 0)), sl 2 (.rd (trR rLab x3))], [.box [.v (.string text), I (y01), I (y02)] 268 false]⟩ (by kernel_rfl) ?_
 refine WL.nil ?_
 refine En.ret ?_
 exact En.backE [0] ht (x3, (y01), (y02)) h (by kernel_rfl) (by rfl) rfl
theorem en228 : ∀ args w, (callFunc 228 args).run Try.prog w = .ok (.enter 228 args) w := enters_of Try.func228 (by kernel_rfl) rfl
theorem rOne_all (k : Nat) (text : ByteArray) (pos deep : Int) (hp : rOk (k + 1) text pos deep) (Q : (Tr RLab) × Int × Int → Prop) (P : Prop) (h1 : oneS (pW text k) text pos deep = none → P) (h2 : ∀ r, oneS (pW text k) text pos deep = some r → Q (r.1, r.2, deep)) : rOne_vc k text pos deep Q P := by
 unfold rOne_vc
 refine ⟨hp, fun e => h1 (by unfold oneS; rw [e]), fun r hr => ?_⟩
 obtain ⟨hz, ⟨p0, p1, pk⟩, d0, d1⟩ := hp
 obtain ⟨k1, k2⟩ := partS_good (pW_good k) pos deep r p0 p1 hr
 have h3 := h2 _ (by unfold oneS; rw [hr])
 obtain ⟨R0, hR0⟩ : ∃ R0, R0 = starsS text text.size r.1 r.2 := ⟨_, rfl⟩
 rw [← hR0] at h3
 refine ⟨fun t p d => ∃ m : Nat, d = deep ∧ 0 ≤ p ∧ p ≤ text.size ∧ text.size - p ≤ m ∧ R0 = starsS text m t p, fun _ p _ => (text.size - p).toNat, ⟨text.size, rfl, by omega, k2, by omega, hR0⟩, ?_⟩
 rintro t p d ⟨m, rfl, q0, q1, qm, he⟩
 refine ⟨⟨q0, q1⟩, fun hb => ?_, fun hb => ?_⟩
 ·have hc : chr text p = 42 := by simpa using hb
  have := chr_lt (text := text) (p := p) (by omega)
  rw [wr_in (by omega) (by omega)]
  obtain ⟨m', rfl⟩ : ∃ m', m = m' + 1 := ⟨m - 1, by omega⟩
  rw [starsS, if_pos hc] at he
  exact ⟨⟨m', rfl, by omega, by omega, by omega, he⟩, by show ((text.size : Int) - (p + 1)).toNat < ((text.size : Int) - p).toNat; omega⟩
 ·have hc : ¬ chr text p = 42 := by simpa using hb
  have he2 : starsS text m t p = (t, p) := by
   cases m with
   | zero => rfl
   | succ m => rw [starsS, if_neg hc]
  rw [he, he2] at h3
  exact h3
theorem rOne_ok (k : Nat) (ih : WC k) (text : ByteArray) (pos deep : Int) (hp : rOk (k + 1) text pos deep) (r : RTr × Int) (hx : oneS (pW text k) text pos deep = some r) : CtE 228 [.sv (.one (.ptr 0 0))] [.box [.v (.string text), I pos, I deep] 268 false] [0] (fun (_ : Unit) => True) (fun _ => .sv (.one (.rd (trR rLab r.1)))) (fun _ => [.box [.v (.string text), I r.2, I deep] 268 false]) :=
 (rOne_walk k text pos deep ih (fun x => x = (r.1, r.2, deep)) False (rOne_all k text pos deep hp _ _ (fun e => by rw [hx] at e; cases e) (fun y e => by rw [hx] at e; cases e; rfl))).toE fun x hx => ⟨(), trivial, by subst hx; rfl, by subst hx; rfl⟩
theorem rOne_bad (k : Nat) (ih : WC k) (text : ByteArray) (pos deep : Int) (hp : rOk (k + 1) text pos deep) (hx : oneS (pW text k) text pos deep = none) : CtX 228 [.sv (.one (.ptr 0 0))] [.box [.v (.string text), I pos, I deep] 268 false] (psStop 265) :=
 (rOne_walk k text pos deep ih (fun _ => False) True (rOne_all k text pos deep hp _ _ (fun _ => trivial) (fun y e => by rw [hx] at e; cases e))).toX
def rRow_vc (k : Nat) (text : ByteArray) (pos : Int) (deep : Int) (Q : (Tr RLab) × Int × Int → Prop) (P : Prop) : Prop :=
 (rOk (k + 1) text pos deep) ∧
 ((oneS (pW text k) text pos deep) = none → P) ∧ ∀ r, (oneS (pW text k) text pos deep) = some r →
 (∃ (Inv : Int → Int → (List (Tr RLab)) → Prop) (mu : Int → Int → (List (Tr RLab)) → Nat), Inv (r.2) deep ([(r.1)] : (List (Tr RLab))) ∧
 ∀ (y01 : Int) (y02 : Int) (l1 : (List (Tr RLab))) , Inv y01 y02 l1 → ((0 ≤ y01 ∧ y01 ≤ text.size) ∧
 IfP (begB text y01) ((rOk (k + 1) text (y01) (y02)) ∧
 ((oneS (pW text k) text (y01) (y02)) = none → P) ∧ ∀ r_2, (oneS (pW text k) text (y01) (y02)) = some r_2 →
 (capOk l1.length (([(r_2.1)] : (List (Tr RLab))) : (List (Tr RLab))).length 8 ∧
 (Inv (r_2.2) (y02) (l1 ++ ([(r_2.1)] : (List (Tr RLab)))) ∧ mu (r_2.2) (y02) (l1 ++ ([(r_2.1)] : (List (Tr RLab)))) < mu y01 y02 l1))) (Q ((Tr.node (RLab.mk 4 0) l1), (y01), (y02)))))
noncomputable abbrev qrRow0 := (List (Tr RLab))
theorem rRow_walk (k : Nat) (text : ByteArray) (pos : Int) (deep : Int) (ih : WC k) (Q : (Tr RLab) × Int × Int → Prop) (P : Prop) (h : rRow_vc k text pos deep Q P) : CtP 208 [.sv (.one (.ptr 0 0))] [.box [.v (.string text), I pos, I deep] 268 false] [0] Q (fun (r : (Tr RLab) × Int × Int) => .sv (.one (.rd (trR rLab r.1)))) (fun (r : (Tr RLab) × Int × Int) => [.box [.v (.string text), I r.2.1, I r.2.2] 268 false]) (psStop 265) P := by
 have ht := tab_ok
 refine CtP.body Try.func208 rfl rfl rfl (by kernel_rfl) (by kernel_rfl) (fun c Bk hn hpan => ?_)
 unfold rRow_vc at h
 show En c ⟨[sl 0 (.pptr 0 0 (Bk 0))], [.box [.v (.string text), I pos, I deep] 268 false]⟩ _
 refine En.seq ?_
 refine En.region ?_
 refine WL.run ht hn 1 ⟨[sl 0 (.pptr 0 0 (Bk 0))], [.box [.v (.string text), I pos, I deep] 268 false]⟩ (by kernel_rfl) ?_
 refine WL.nil ?_
 refine En.seq ?_
 refine En.region ?_
 refine WL.run ht hn 1 ⟨[sl 0 (.pptr 0 0 (Bk 0)), sl 4 (.ptr 0 0)], [.box [.v (.string text), I pos, I deep] 268 false]⟩ (by kernel_rfl) ?_
 have hp := h.1
 replace h := h.2
 refine splitO ((oneS (pW text k) text pos deep)) (fun hr_2 => ?_) (fun r hr_2 => ?_)
 exact WL.callX (rOne_bad k ih text pos deep hp hr_2) en228 (caps := []) [0] (by rfl) rfl (by rfl) (argsAs (by kernel_rfl) (by rfl)) (by kernel_rfl) (by decide) (leftX hpan (h.1 hr_2))
 replace h := h.2 r hr_2
 refine WL.callE (rOne_ok k ih text pos deep hp r hr_2) en228 (caps := []) [0] hn (by rfl) rfl (by rfl) (argsAs (by kernel_rfl) (by rfl)) (by kernel_rfl) (by decide) (by rfl) (by rfl) (fun _ _ => ⟨by rfl, _, by rfl, ?_⟩)
 refine WL.mt0 (K := []) (p := some (1, rowI 152 (TT rLab) ([(r.1)] : (qrRow0)))) hn (by rfl) (mt_lit (T := (TT rLab)) ([(r.1)] : (qrRow0)) (mt_bsl 1 (r := cellsOf (TT rLab) ([(r.1)] : (qrRow0))) ht rfl (by rfl) (by rfl) (by rfl) (by kernel_rfl) (by rfl)) (fun _ h => by cases h) (fun _ => rfl) (fun _ => rfl) (by rfl) (Nat.le_of_ble_eq_true rfl)) (by rfl) (by rfl) (by rfl) ?_
 refine WL.run ht hn 3 ⟨[sl 0 (.pptr 0 0 (Bk 0)), sl 3 (.ptr 2 0)], [.box [.v (.string text), I (r.2), I deep] 268 false, rowI 152 (TT rLab) ([(r.1)] : (qrRow0)), .box [I 4, I 0, .own 1] 316 false]⟩ (by kernel_rfl) ?_
 refine WL.nil ?_
 refine En.seq ?_
 refine En.block ?_
 obtain ⟨Inv, mu, h0, hI⟩ := h
 refine En.loop (σ := Int × Int × (qrRow0)) (fun zz => Inv zz.1 zz.2.1 zz.2.2) (fun zz => mu zz.1 zz.2.1 zz.2.2) (fun zz => ⟨[sl 0 (.pptr 0 0 (Bk 0)), sl 3 (.ptr 2 0)], [.box [.v (.string text), I zz.1, I zz.2.1] 268 false, rowI 152 (TT rLab) zz.2.2, .box [I 4, I 0, .own 1] 316 false]⟩) ((r.2), deep, ([(r.1)] : (qrRow0))) h0 (sub_ok (by kernel_rfl)) ?_
 rintro ⟨y01, y02, l1⟩ h
 replace h := hI _ _ _ h
 show En c ⟨[sl 0 (.pptr 0 0 (Bk 0)), sl 3 (.ptr 2 0)], [.box [.v (.string text), I y01, I y02] 268 false, rowI 152 (TT rLab) l1, .box [I 4, I 0, .own 1] 316 false]⟩ _
 refine En.seq ?_
 refine En.seq ?_
 refine En.region ?_
 refine WL.run ht hn 1 ⟨[sl 0 (.pptr 0 0 (Bk 0)), sl 3 (.ptr 2 0), sl 9 (.ptr 0 0)], [.box [.v (.string text), I y01, I y02] 268 false, rowI 152 (TT rLab) l1, .box [I 4, I 0, .own 1] 316 false]⟩ (by kernel_rfl) ?_
 have hp := h.1
 replace h := h.2
 refine WL.callE (rBeg_ct text y01 y02 hp) en229 (caps := []) [0] hn (by rfl) rfl (by rfl) (argsAs (by kernel_rfl) (by rfl)) (by kernel_rfl) (by decide) (by rfl) (by rfl) (fun _ _ => ⟨by rfl, _, by rfl, ?_⟩)
 refine WL.nil ?_
 refine En.cond (b := (begB text y01)) (by kernel_rfl) (fun hb => ?_) (fun hb => ?_)
 replace h := h.1 hb
 refine En.skip ?_
 refine En.block ?_
 have hp_2 := h.1
 replace h := h.2
 refine splitO ((oneS (pW text k) text (y01) (y02))) (fun hr_3 => ?_) (fun r_2 hr_3 => ?_)
 refine En.regionA ⟨[sl 0 (.pptr 0 0 (Bk 0)), sl 3 (.ptr 2 0)], [.sv (.one (.ptr 2 0)), .sv (.one (.ptr 2 0)), .sv (.one (.ptr 2 0)), .sv (.one (.ptr 2 2)), .sv (.one (.own 1)), .sv (.one (.ptr 0 0)), .sv (.one (.rd deadR)), .sv (.one (.rd deadR)), .sv (.one (.rd deadR)), .sv (.one (.ptr 2 0)), .sv (.one (.ptr 2 2)), .sv (.one (.rd deadR))], [⟨.box [.v (.string text), I (y01), I (y02)] 268 false, none, none, none⟩, ⟨rowI 152 (TT rLab) l1, none, none, none⟩, ⟨.box [I 4, I 0, .own 1] 316 false, none, none, none⟩]⟩ ⟨[sl 17 (.rd deadR)], [.gone, .gone, .gone]⟩ (by kernel_rfl) hn (by kernel_rfl) (by rfl) (by kernel_rfl) ?_ (by kernel_rfl) ?_
 exact ⟨.mt ⟨[sl 3 (.ptr 2 0)], []⟩ [] none (by kernel_rfl) (by rfl) (mt_ev ht (by kernel_rfl)) rfl rfl rfl rfl,
 .mt ⟨[sl 3 (.ptr 2 0)], []⟩ [] none (by kernel_rfl) (by rfl) (mt_ev ht (by kernel_rfl)) rfl rfl rfl rfl,
 .mt ⟨[sl 12 (.ptr 2 0)], []⟩ [] none (by kernel_rfl) (by rfl) (mt_ev ht (by kernel_rfl)) rfl rfl rfl rfl,
 .mt ⟨[sl 13 (.ptr 2 0)], []⟩ [] none (by kernel_rfl) (by rfl) (mt_ev ht (by kernel_rfl)) rfl rfl rfl rfl,
 .mt ⟨[sl 14 (.ptr 2 2)], [.gone, .gone, .box [I 4, I 0, .own 1] 316 false]⟩ [] none (by kernel_rfl) (by rfl) (mt_ev ht (by kernel_rfl)) rfl rfl rfl rfl,
 .mt ⟨[sl 0 (.pptr 0 0 (Bk 0))], []⟩ [] none (by kernel_rfl) (by rfl) (mt_ev ht (by kernel_rfl)) rfl rfl rfl rfl,
 .mt ⟨[sl 16 (.ptr 0 0)], [.box [.v (.string text), I (y01), I (y02)] 268 false]⟩ [] none (by kernel_rfl) (by rfl) (mt_callX (rOne_bad k ih text (y01) (y02) hp_2 hr_3) en228 (caps := []) [0] rfl (by rfl) (argsAs (by kernel_rfl) (by rfl)) (by kernel_rfl) (by decide) (leftX hpan (h.1 hr_3))) rfl rfl rfl rfl,
 .mt ⟨[sl 17 (.rd deadR)], []⟩ [] none (by kernel_rfl) (by rfl) (mt_dead 17 (by rfl)) rfl rfl rfl rfl,
 .mt ⟨[sl 15 (.own 1), sl 18 (.rd deadR)], []⟩ [] none (by kernel_rfl) (by rfl) (mt_dead 18 (by rfl)) rfl rfl rfl rfl,
 .mt ⟨[sl 11 (.ptr 2 0)], []⟩ [] none (by kernel_rfl) (by rfl) (mt_ev ht (by kernel_rfl)) rfl rfl rfl rfl,
 .mt ⟨[sl 20 (.ptr 2 0)], []⟩ [] none (by kernel_rfl) (by rfl) (mt_ev ht (by kernel_rfl)) rfl rfl rfl rfl,
 .mt ⟨[sl 19 (.rd deadR), sl 21 (.ptr 2 2)], []⟩ [] none (by kernel_rfl) (by rfl) (mt_dead 19 (by rfl)) rfl rfl rfl rfl,
 trivial⟩
 exact En.dead 17 (by rfl)
 replace h := h.2 r_2 hr_3
 have hp_3 := h.1
 replace h := h.2
 refine En.regionA ⟨[sl 0 (.pptr 0 0 (Bk 0)), sl 3 (.ptr 2 0)], [.sv (.one (.ptr 2 0)), .sv (.one (.ptr 2 0)), .sv (.one (.ptr 2 0)), .sv (.one (.ptr 2 2)), .sv (.one (.own 1)), .sv (.one (.ptr 0 0)), .sv (.one (.rd (trR rLab (r_2.1)))), .sv (.one (LS (TT rLab) ([(r_2.1)] : (qrRow0)))), .sv (.one (.own 3)), .sv (.one (.ptr 2 0)), .sv (.one (.ptr 2 2)), .tup []], [⟨.box [.v (.string text), I (y01), I (y02)] 268 false, none, none, some (6, .box [.v (.string text), I (r_2.2), I (y02)] 268 false)⟩, ⟨rowI 152 (TT rLab) l1, none, some 8, none⟩, ⟨.box [I 4, I 0, .own 1] 316 false, none, none, some (11, .box [I 4, I 0, .own 3] 316 false)⟩, ⟨rowI 152 (TT rLab) (l1 ++ ([(r_2.1)] : (qrRow0))), some 8, none, none⟩]⟩ ⟨[sl 0 (.pptr 0 0 (Bk 0)), sl 3 (.ptr 2 0)], [.box [.v (.string text), I (r_2.2), I (y02)] 268 false, .gone, .box [I 4, I 0, .own 3] 316 false, rowI 152 (TT rLab) (l1 ++ ([(r_2.1)] : (qrRow0)))]⟩ (by kernel_rfl) hn (by kernel_rfl) (by rfl) (by kernel_rfl) ?_ (by kernel_rfl) ?_
 exact ⟨.mt ⟨[sl 3 (.ptr 2 0)], []⟩ [] none (by kernel_rfl) (by rfl) (mt_ev ht (by kernel_rfl)) rfl rfl rfl rfl,
 .mt ⟨[sl 3 (.ptr 2 0)], []⟩ [] none (by kernel_rfl) (by rfl) (mt_ev ht (by kernel_rfl)) rfl rfl rfl rfl,
 .mt ⟨[sl 12 (.ptr 2 0)], []⟩ [] none (by kernel_rfl) (by rfl) (mt_ev ht (by kernel_rfl)) rfl rfl rfl rfl,
 .mt ⟨[sl 13 (.ptr 2 0)], []⟩ [] none (by kernel_rfl) (by rfl) (mt_ev ht (by kernel_rfl)) rfl rfl rfl rfl,
 .mt ⟨[sl 14 (.ptr 2 2)], [.gone, .gone, .box [I 4, I 0, .own 1] 316 false]⟩ [] none (by kernel_rfl) (by rfl) (mt_ev ht (by kernel_rfl)) rfl rfl rfl rfl,
 .mt ⟨[sl 0 (.pptr 0 0 (Bk 0))], []⟩ [] none (by kernel_rfl) (by rfl) (mt_ev ht (by kernel_rfl)) rfl rfl rfl rfl,
 .me ⟨[sl 16 (.ptr 0 0)], [.box [.v (.string text), I (y01), I (y02)] 268 false]⟩ [(0, .box [.v (.string text), I (r_2.2), I (y02)] 268 false)] (by kernel_rfl) (by rfl) (me_call (rOne_ok k ih text (y01) (y02) hp_2 r_2 hr_3) en228 (caps := []) [0] rfl (by rfl) (argsAs (by kernel_rfl) (by rfl)) (by kernel_rfl) (by decide) (by rfl) (by rfl)) rfl rfl rfl ⟨⟨_, rfl, rfl, rfl, rfl, rfl⟩, trivial⟩,
 .mt ⟨[sl 17 (.rd (trR rLab (r_2.1)))], []⟩ [] none (by kernel_rfl) (by rfl) (mt_seal (q := 3) (e := 152) (mt_lit (T := (TT rLab)) ([(r_2.1)] : (qrRow0)) (mt_bsl 3 (r := cellsOf (TT rLab) ([(r_2.1)] : (qrRow0))) ht rfl (by rfl) (by rfl) (by rfl) (by kernel_rfl) (by rfl)) (fun _ h => by cases h) (fun _ => rfl) (fun _ => rfl) (by rfl) (Nat.le_of_ble_eq_true rfl))) rfl rfl rfl rfl,
 .mt ⟨[sl 15 (.own 1), sl 18 (LS (TT rLab) ([(r_2.1)] : (qrRow0)))], [.gone, rowI 152 (TT rLab) l1]⟩ [1] (some 3) (by kernel_rfl) (by rfl) (mt_append (T := (TT rLab)) (l := l1) (es := ([(r_2.1)] : (qrRow0))) (p := 3) ht rfl (by rfl) (by rfl) (by rfl) (by rfl) (by decide) (by rfl) (by rfl) (srcLS (T := (TT rLab)) (es := ([(r_2.1)] : (qrRow0))) (fun _ h => by cases h) (by decide) (by rfl)) (by exact hp_3) (by exact hp_3.le (by decide))) rfl rfl rfl rfl,
 .mt ⟨[sl 11 (.ptr 2 0)], []⟩ [] none (by kernel_rfl) (by rfl) (mt_ev ht (by kernel_rfl)) rfl rfl rfl rfl,
 .mt ⟨[sl 20 (.ptr 2 0)], []⟩ [] none (by kernel_rfl) (by rfl) (mt_ev ht (by kernel_rfl)) rfl rfl rfl rfl,
 .mu ⟨[sl 19 (.own 3), sl 21 (.ptr 2 2)], [.gone, .gone, .box [I 4, I 0, .own 1] 316 false]⟩ 2 _ _ rfl rfl (by kernel_rfl) (by rfl) (mu_store2 ht rfl (by rfl) (by rfl) (by rfl) (by rfl) (fun h => by cases h) (by rfl) (by rfl)) rfl rfl rfl rfl rfl rfl rfl,
 trivial⟩
 refine En.move 3 1 (by rfl) (by rfl) ?_
 exact En.at (I := fun zz => Inv zz.1 zz.2.1 zz.2.2 ∧ mu zz.1 zz.2.1 zz.2.2 < mu y01 y02 l1) (T := fun zz => ⟨[sl 0 (.pptr 0 0 (Bk 0)), sl 3 (.ptr 2 0)], [.box [.v (.string text), I zz.1, I zz.2.1] 268 false, rowI 152 (TT rLab) zz.2.2, .box [I 4, I 0, .own 1] 316 false]⟩) ((r_2.2), (y02), (l1 ++ ([(r_2.1)] : (qrRow0)))) h (by kernel_rfl)
 replace h := h.2 hb
 refine En.exit rfl ?_
 refine En.seq ?_
 refine En.region ?_
 refine WL.run ht hn 2 ⟨[sl 0 (.pptr 0 0 (Bk 0)), sl 2 (.ptr 2 0)], [.box [.v (.string text), I (y01), I (y02)] 268 false, rowI 152 (TT rLab) l1, .box [I 4, I 0, .own 1] 316 false]⟩ (by kernel_rfl) ?_
 refine WL.nil ?_
 refine En.ret ?_
 refine En.seal (T := (TT rLab)) (l := l1) (e := 152) 1 rfl ?_
 refine En.freeze [2] (by rfl) ?_
 refine En.ghost 2 (o1 (.rd (trR rLab (Tr.node (RLab.mk 4 0) l1)))) (by rfl) (tree_of (lab := rLab) (x := (RLab.mk 4 0)) (kids := l1) (i := 2) (by rfl) (by rfl) (by rfl)) ?_
 exact En.backE [0] ht ((Tr.node (RLab.mk 4 0) l1), (y01), (y02)) h (by kernel_rfl) (by rfl) rfl
theorem en208 : ∀ args w, (callFunc 208 args).run Try.prog w = .ok (.enter 208 args) w := enters_of Try.func208 (by kernel_rfl) rfl
theorem rRow_all (k : Nat) (text : ByteArray) (pos deep : Int) (hp : rOk (k + 1) text pos deep) (Q : (Tr RLab) × Int × Int → Prop) (P : Prop) (h1 : rowS (pW text k) text pos deep = none → P) (h2 : ∀ r, rowS (pW text k) text pos deep = some r → Q (r.1, r.2, deep)) : rRow_vc k text pos deep Q P := by
 unfold rRow_vc
 refine ⟨hp, fun e => h1 (by unfold rowS; rw [e]), fun r hr => ?_⟩
 obtain ⟨hz, ⟨p0, p1, pk⟩, d0, d1⟩ := hp
 obtain ⟨k1, k2⟩ := oneS_good (pW_good k) pos deep r p0 p1 hr
 unfold rowS at h1 h2
 simp only [hr] at h1 h2
 obtain ⟨R0, hR0⟩ : ∃ R0, R0 = rowL (fun p => oneS (pW text k) text p deep) text (text.size + 1) [r.1] r.2 := ⟨_, rfl⟩
 rw [← hR0] at h1 h2
 refine ⟨fun p d l => ∃ m : Nat, d = deep ∧ pos ≤ p ∧ p ≤ text.size ∧ text.size - p < m ∧ R0 = rowL (fun p => oneS (pW text k) text p deep) text m l p ∧ (l.length : Int) ≤ p, fun p _ _ => (text.size - p).toNat, ⟨text.size + 1, rfl, by omega, k2, by omega, hR0, by simp only [List.length_cons, List.length_nil]; omega⟩, ?_⟩
 rintro p d l ⟨m, rfl, q0, q1, qm, he, hl⟩
 obtain ⟨m', rfl⟩ : ∃ m', m = m' + 1 := ⟨m - 1, by omega⟩
 refine ⟨⟨by omega, q1⟩, fun hb => ?_, fun hb => ?_⟩
 ·have hc := hb
  have : p < text.size := by
   unfold begB at hb
   rw [Bool.and_eq_true] at hb
   exact of_decide_eq_true hb.1
  rw [rowL, if_pos hc] at he
  refine ⟨⟨hz, ⟨by omega, by omega, by omega⟩, d0, d1⟩, fun e => h1 ?_, fun r2 hr2 => ?_⟩
  ·simp only [e] at he
   rw [he]
  ·obtain ⟨k3, k4⟩ := oneS_good (pW_good k) p d r2 (by omega) (by omega) hr2
   simp only [hr2] at he
   refine ⟨capOk_of (by simp only [List.length_cons, List.length_nil]; omega), ⟨m', rfl, by omega, k4, by omega, he, by rw [List.length_append]; simp only [List.length_cons, List.length_nil]; omega⟩, by show ((text.size : Int) - r2.2).toNat < ((text.size : Int) - p).toNat; omega⟩
 ·have hc : ¬ begB text p = true := by rw [hb]; decide
  rw [rowL, if_neg hc] at he
  exact h2 (nd 4 0 l, p) (by rw [he])
theorem rRow_ok (k : Nat) (ih : WC k) (text : ByteArray) (pos deep : Int) (hp : rOk (k + 1) text pos deep) (r : RTr × Int) (hx : rowS (pW text k) text pos deep = some r) : CtE 208 [.sv (.one (.ptr 0 0))] [.box [.v (.string text), I pos, I deep] 268 false] [0] (fun (_ : Unit) => True) (fun _ => .sv (.one (.rd (trR rLab r.1)))) (fun _ => [.box [.v (.string text), I r.2, I deep] 268 false]) :=
 (rRow_walk k text pos deep ih (fun x => x = (r.1, r.2, deep)) False (rRow_all k text pos deep hp _ _ (fun e => by rw [hx] at e; cases e) (fun y e => by rw [hx] at e; cases e; rfl))).toE fun x hx => ⟨(), trivial, by subst hx; rfl, by subst hx; rfl⟩
theorem rRow_bad (k : Nat) (ih : WC k) (text : ByteArray) (pos deep : Int) (hp : rOk (k + 1) text pos deep) (hx : rowS (pW text k) text pos deep = none) : CtX 208 [.sv (.one (.ptr 0 0))] [.box [.v (.string text), I pos, I deep] 268 false] (psStop 265) :=
 (rRow_walk k text pos deep ih (fun _ => False) True (rRow_all k text pos deep hp _ _ (fun _ => trivial) (fun y e => by rw [hx] at e; cases e))).toX
def rWhole_vc (k : Nat) (text : ByteArray) (pos : Int) (deep : Int) (Q : (Tr RLab) × Int × Int → Prop) (P : Prop) : Prop :=
 (rOk (k + 1) text pos deep) ∧
 ((rowS (pW text k) text pos deep) = none → P) ∧ ∀ r, (rowS (pW text k) text pos deep) = some r →
 (∃ (Inv : Int → Int → (List (Tr RLab)) → Prop) (mu : Int → Int → (List (Tr RLab)) → Nat), Inv (r.2) deep ([(r.1)] : (List (Tr RLab))) ∧
 ∀ (y01 : Int) (y02 : Int) (l1 : (List (Tr RLab))) , Inv y01 y02 l1 → ((0 ≤ y01 ∧ y01 ≤ text.size) ∧
 IfP ((chr text y01) == 43) ((rOk (k + 1) text (wr ((y01) + 1)) (y02)) ∧
 ((rowS (pW text k) text (wr ((y01) + 1)) (y02)) = none → P) ∧ ∀ r_2, (rowS (pW text k) text (wr ((y01) + 1)) (y02)) = some r_2 →
 (capOk l1.length (([(r_2.1)] : (List (Tr RLab))) : (List (Tr RLab))).length 8 ∧
 (Inv (r_2.2) (y02) (l1 ++ ([(r_2.1)] : (List (Tr RLab)))) ∧ mu (r_2.2) (y02) (l1 ++ ([(r_2.1)] : (List (Tr RLab)))) < mu y01 y02 l1))) (Q ((Tr.node (RLab.mk 3 0) l1), (y01), (y02)))))
theorem rWhole_walk (k : Nat) (text : ByteArray) (pos : Int) (deep : Int) (ih : WC k) (Q : (Tr RLab) × Int × Int → Prop) (P : Prop) (h : rWhole_vc k text pos deep Q P) : CtP 155 [.sv (.one (.ptr 0 0))] [.box [.v (.string text), I pos, I deep] 268 false] [0] Q (fun (r : (Tr RLab) × Int × Int) => .sv (.one (.rd (trR rLab r.1)))) (fun (r : (Tr RLab) × Int × Int) => [.box [.v (.string text), I r.2.1, I r.2.2] 268 false]) (psStop 265) P := by
 have ht := tab_ok
 refine CtP.body Try.func155 rfl rfl rfl (by kernel_rfl) (by kernel_rfl) (fun c Bk hn hpan => ?_)
 unfold rWhole_vc at h
 show En c ⟨[sl 0 (.pptr 0 0 (Bk 0))], [.box [.v (.string text), I pos, I deep] 268 false]⟩ _
 refine En.seq ?_
 refine En.region ?_
 refine WL.run ht hn 1 ⟨[sl 0 (.pptr 0 0 (Bk 0))], [.box [.v (.string text), I pos, I deep] 268 false]⟩ (by kernel_rfl) ?_
 refine WL.nil ?_
 refine En.seq ?_
 refine En.region ?_
 refine WL.run ht hn 1 ⟨[sl 0 (.pptr 0 0 (Bk 0)), sl 4 (.ptr 0 0)], [.box [.v (.string text), I pos, I deep] 268 false]⟩ (by kernel_rfl) ?_
 have hp := h.1
 replace h := h.2
 refine splitO ((rowS (pW text k) text pos deep)) (fun hr_2 => ?_) (fun r hr_2 => ?_)
 exact WL.callX (rRow_bad k ih text pos deep hp hr_2) en208 (caps := []) [0] (by rfl) rfl (by rfl) (argsAs (by kernel_rfl) (by rfl)) (by kernel_rfl) (by decide) (leftX hpan (h.1 hr_2))
 replace h := h.2 r hr_2
 refine WL.callE (rRow_ok k ih text pos deep hp r hr_2) en208 (caps := []) [0] hn (by rfl) rfl (by rfl) (argsAs (by kernel_rfl) (by rfl)) (by kernel_rfl) (by decide) (by rfl) (by rfl) (fun _ _ => ⟨by rfl, _, by rfl, ?_⟩)
 refine WL.mt0 (K := []) (p := some (1, rowI 152 (TT rLab) ([(r.1)] : (List (Tr RLab))))) hn (by rfl) (mt_lit (T := (TT rLab)) ([(r.1)] : (List (Tr RLab))) (mt_bsl 1 (r := cellsOf (TT rLab) ([(r.1)] : (List (Tr RLab)))) ht rfl (by rfl) (by rfl) (by rfl) (by kernel_rfl) (by rfl)) (fun _ h => by cases h) (fun _ => rfl) (fun _ => rfl) (by rfl) (Nat.le_of_ble_eq_true rfl)) (by rfl) (by rfl) (by rfl) ?_
 refine WL.run ht hn 3 ⟨[sl 0 (.pptr 0 0 (Bk 0)), sl 3 (.ptr 2 0)], [.box [.v (.string text), I (r.2), I deep] 268 false, rowI 152 (TT rLab) ([(r.1)] : (List (Tr RLab))), .box [I 3, I 0, .own 1] 316 false]⟩ (by kernel_rfl) ?_
 refine WL.nil ?_
 refine En.seq ?_
 refine En.block ?_
 obtain ⟨Inv, mu, h0, hI⟩ := h
 refine En.loop (σ := Int × Int × (List (Tr RLab))) (fun zz => Inv zz.1 zz.2.1 zz.2.2) (fun zz => mu zz.1 zz.2.1 zz.2.2) (fun zz => ⟨[sl 0 (.pptr 0 0 (Bk 0)), sl 3 (.ptr 2 0)], [.box [.v (.string text), I zz.1, I zz.2.1] 268 false, rowI 152 (TT rLab) zz.2.2, .box [I 3, I 0, .own 1] 316 false]⟩) ((r.2), deep, ([(r.1)] : (List (Tr RLab)))) h0 (sub_ok (by kernel_rfl)) ?_
 rintro ⟨y01, y02, l1⟩ h
 replace h := hI _ _ _ h
 show En c ⟨[sl 0 (.pptr 0 0 (Bk 0)), sl 3 (.ptr 2 0)], [.box [.v (.string text), I y01, I y02] 268 false, rowI 152 (TT rLab) l1, .box [I 3, I 0, .own 1] 316 false]⟩ _
 refine En.seq ?_
 refine En.seq ?_
 refine En.region ?_
 refine WL.run ht hn 1 ⟨[sl 0 (.pptr 0 0 (Bk 0)), sl 3 (.ptr 2 0), sl 9 (.ptr 0 0)], [.box [.v (.string text), I y01, I y02] 268 false, rowI 152 (TT rLab) l1, .box [I 3, I 0, .own 1] 316 false]⟩ (by kernel_rfl) ?_
 have hp := h.1
 replace h := h.2
 refine WL.callE (rNow_ct text y01 y02 hp) en209 (caps := []) [0] hn (by rfl) rfl (by rfl) (argsAs (by kernel_rfl) (by rfl)) (by kernel_rfl) (by decide) (by rfl) (by rfl) (fun _ _ => ⟨by rfl, _, by rfl, ?_⟩)
 refine WL.run ht hn 1 ⟨[sl 0 (.pptr 0 0 (Bk 0)), sl 3 (.ptr 2 0), sl 11 (B ((chr text y01) == 43))], [.box [.v (.string text), I (y01), I (y02)] 268 false, rowI 152 (TT rLab) l1, .box [I 3, I 0, .own 1] 316 false]⟩ (by kernel_rfl) ?_
 refine WL.nil ?_
 refine En.cond (b := ((chr text y01) == 43)) (by kernel_rfl) (fun hb => ?_) (fun hb => ?_)
 replace h := h.1 hb
 refine En.skip ?_
 refine En.block ?_
 refine En.seq ?_
 refine En.region ?_
 refine WL.run ht hn 8 ⟨[sl 0 (.pptr 0 0 (Bk 0)), sl 3 (.ptr 2 0)], [.box [.v (.string text), I (wr ((y01) + 1)), I (y02)] 268 false, rowI 152 (TT rLab) l1, .box [I 3, I 0, .own 1] 316 false]⟩ (by kernel_rfl) ?_
 refine WL.nil ?_
 have hp_2 := h.1
 replace h := h.2
 refine splitO ((rowS (pW text k) text (wr ((y01) + 1)) (y02))) (fun hr_3 => ?_) (fun r_2 hr_3 => ?_)
 refine En.regionA ⟨[sl 0 (.pptr 0 0 (Bk 0)), sl 3 (.ptr 2 0)], [.sv (.one (.ptr 2 0)), .sv (.one (.ptr 2 0)), .sv (.one (.ptr 2 0)), .sv (.one (.ptr 2 2)), .sv (.one (.own 1)), .sv (.one (.ptr 0 0)), .sv (.one (.rd deadR)), .sv (.one (.rd deadR)), .sv (.one (.rd deadR)), .sv (.one (.ptr 2 0)), .sv (.one (.ptr 2 2)), .sv (.one (.rd deadR))], [⟨.box [.v (.string text), I (wr ((y01) + 1)), I (y02)] 268 false, none, none, none⟩, ⟨rowI 152 (TT rLab) l1, none, none, none⟩, ⟨.box [I 3, I 0, .own 1] 316 false, none, none, none⟩]⟩ ⟨[sl 25 (.rd deadR)], [.gone, .gone, .gone]⟩ (by kernel_rfl) hn (by kernel_rfl) (by rfl) (by kernel_rfl) ?_ (by kernel_rfl) ?_
 exact ⟨.mt ⟨[sl 3 (.ptr 2 0)], []⟩ [] none (by kernel_rfl) (by rfl) (mt_ev ht (by kernel_rfl)) rfl rfl rfl rfl,
 .mt ⟨[sl 3 (.ptr 2 0)], []⟩ [] none (by kernel_rfl) (by rfl) (mt_ev ht (by kernel_rfl)) rfl rfl rfl rfl,
 .mt ⟨[sl 20 (.ptr 2 0)], []⟩ [] none (by kernel_rfl) (by rfl) (mt_ev ht (by kernel_rfl)) rfl rfl rfl rfl,
 .mt ⟨[sl 21 (.ptr 2 0)], []⟩ [] none (by kernel_rfl) (by rfl) (mt_ev ht (by kernel_rfl)) rfl rfl rfl rfl,
 .mt ⟨[sl 22 (.ptr 2 2)], [.gone, .gone, .box [I 3, I 0, .own 1] 316 false]⟩ [] none (by kernel_rfl) (by rfl) (mt_ev ht (by kernel_rfl)) rfl rfl rfl rfl,
 .mt ⟨[sl 0 (.pptr 0 0 (Bk 0))], []⟩ [] none (by kernel_rfl) (by rfl) (mt_ev ht (by kernel_rfl)) rfl rfl rfl rfl,
 .mt ⟨[sl 24 (.ptr 0 0)], [.box [.v (.string text), I (wr ((y01) + 1)), I (y02)] 268 false]⟩ [] none (by kernel_rfl) (by rfl) (mt_callX (rRow_bad k ih text (wr ((y01) + 1)) (y02) hp_2 hr_3) en208 (caps := []) [0] rfl (by rfl) (argsAs (by kernel_rfl) (by rfl)) (by kernel_rfl) (by decide) (leftX hpan (h.1 hr_3))) rfl rfl rfl rfl,
 .mt ⟨[sl 25 (.rd deadR)], []⟩ [] none (by kernel_rfl) (by rfl) (mt_dead 25 (by rfl)) rfl rfl rfl rfl,
 .mt ⟨[sl 23 (.own 1), sl 26 (.rd deadR)], []⟩ [] none (by kernel_rfl) (by rfl) (mt_dead 26 (by rfl)) rfl rfl rfl rfl,
 .mt ⟨[sl 19 (.ptr 2 0)], []⟩ [] none (by kernel_rfl) (by rfl) (mt_ev ht (by kernel_rfl)) rfl rfl rfl rfl,
 .mt ⟨[sl 28 (.ptr 2 0)], []⟩ [] none (by kernel_rfl) (by rfl) (mt_ev ht (by kernel_rfl)) rfl rfl rfl rfl,
 .mt ⟨[sl 27 (.rd deadR), sl 29 (.ptr 2 2)], []⟩ [] none (by kernel_rfl) (by rfl) (mt_dead 27 (by rfl)) rfl rfl rfl rfl,
 trivial⟩
 exact En.dead 25 (by rfl)
 replace h := h.2 r_2 hr_3
 have hp_3 := h.1
 replace h := h.2
 refine En.regionA ⟨[sl 0 (.pptr 0 0 (Bk 0)), sl 3 (.ptr 2 0)], [.sv (.one (.ptr 2 0)), .sv (.one (.ptr 2 0)), .sv (.one (.ptr 2 0)), .sv (.one (.ptr 2 2)), .sv (.one (.own 1)), .sv (.one (.ptr 0 0)), .sv (.one (.rd (trR rLab (r_2.1)))), .sv (.one (LS (TT rLab) ([(r_2.1)] : (List (Tr RLab))))), .sv (.one (.own 3)), .sv (.one (.ptr 2 0)), .sv (.one (.ptr 2 2)), .tup []], [⟨.box [.v (.string text), I (wr ((y01) + 1)), I (y02)] 268 false, none, none, some (6, .box [.v (.string text), I (r_2.2), I (y02)] 268 false)⟩, ⟨rowI 152 (TT rLab) l1, none, some 8, none⟩, ⟨.box [I 3, I 0, .own 1] 316 false, none, none, some (11, .box [I 3, I 0, .own 3] 316 false)⟩, ⟨rowI 152 (TT rLab) (l1 ++ ([(r_2.1)] : (List (Tr RLab)))), some 8, none, none⟩]⟩ ⟨[sl 0 (.pptr 0 0 (Bk 0)), sl 3 (.ptr 2 0)], [.box [.v (.string text), I (r_2.2), I (y02)] 268 false, .gone, .box [I 3, I 0, .own 3] 316 false, rowI 152 (TT rLab) (l1 ++ ([(r_2.1)] : (List (Tr RLab))))]⟩ (by kernel_rfl) hn (by kernel_rfl) (by rfl) (by kernel_rfl) ?_ (by kernel_rfl) ?_
 exact ⟨.mt ⟨[sl 3 (.ptr 2 0)], []⟩ [] none (by kernel_rfl) (by rfl) (mt_ev ht (by kernel_rfl)) rfl rfl rfl rfl,
 .mt ⟨[sl 3 (.ptr 2 0)], []⟩ [] none (by kernel_rfl) (by rfl) (mt_ev ht (by kernel_rfl)) rfl rfl rfl rfl,
 .mt ⟨[sl 20 (.ptr 2 0)], []⟩ [] none (by kernel_rfl) (by rfl) (mt_ev ht (by kernel_rfl)) rfl rfl rfl rfl,
 .mt ⟨[sl 21 (.ptr 2 0)], []⟩ [] none (by kernel_rfl) (by rfl) (mt_ev ht (by kernel_rfl)) rfl rfl rfl rfl,
 .mt ⟨[sl 22 (.ptr 2 2)], [.gone, .gone, .box [I 3, I 0, .own 1] 316 false]⟩ [] none (by kernel_rfl) (by rfl) (mt_ev ht (by kernel_rfl)) rfl rfl rfl rfl,
 .mt ⟨[sl 0 (.pptr 0 0 (Bk 0))], []⟩ [] none (by kernel_rfl) (by rfl) (mt_ev ht (by kernel_rfl)) rfl rfl rfl rfl,
 .me ⟨[sl 24 (.ptr 0 0)], [.box [.v (.string text), I (wr ((y01) + 1)), I (y02)] 268 false]⟩ [(0, .box [.v (.string text), I (r_2.2), I (y02)] 268 false)] (by kernel_rfl) (by rfl) (me_call (rRow_ok k ih text (wr ((y01) + 1)) (y02) hp_2 r_2 hr_3) en208 (caps := []) [0] rfl (by rfl) (argsAs (by kernel_rfl) (by rfl)) (by kernel_rfl) (by decide) (by rfl) (by rfl)) rfl rfl rfl ⟨⟨_, rfl, rfl, rfl, rfl, rfl⟩, trivial⟩,
 .mt ⟨[sl 25 (.rd (trR rLab (r_2.1)))], []⟩ [] none (by kernel_rfl) (by rfl) (mt_seal (q := 3) (e := 152) (mt_lit (T := (TT rLab)) ([(r_2.1)] : (List (Tr RLab))) (mt_bsl 3 (r := cellsOf (TT rLab) ([(r_2.1)] : (List (Tr RLab)))) ht rfl (by rfl) (by rfl) (by rfl) (by kernel_rfl) (by rfl)) (fun _ h => by cases h) (fun _ => rfl) (fun _ => rfl) (by rfl) (Nat.le_of_ble_eq_true rfl))) rfl rfl rfl rfl,
 .mt ⟨[sl 23 (.own 1), sl 26 (LS (TT rLab) ([(r_2.1)] : (List (Tr RLab))))], [.gone, rowI 152 (TT rLab) l1]⟩ [1] (some 3) (by kernel_rfl) (by rfl) (mt_append (T := (TT rLab)) (l := l1) (es := ([(r_2.1)] : (List (Tr RLab)))) (p := 3) ht rfl (by rfl) (by rfl) (by rfl) (by rfl) (by decide) (by rfl) (by rfl) (srcLS (T := (TT rLab)) (es := ([(r_2.1)] : (List (Tr RLab)))) (fun _ h => by cases h) (by decide) (by rfl)) (by exact hp_3) (by exact hp_3.le (by decide))) rfl rfl rfl rfl,
 .mt ⟨[sl 19 (.ptr 2 0)], []⟩ [] none (by kernel_rfl) (by rfl) (mt_ev ht (by kernel_rfl)) rfl rfl rfl rfl,
 .mt ⟨[sl 28 (.ptr 2 0)], []⟩ [] none (by kernel_rfl) (by rfl) (mt_ev ht (by kernel_rfl)) rfl rfl rfl rfl,
 .mu ⟨[sl 27 (.own 3), sl 29 (.ptr 2 2)], [.gone, .gone, .box [I 3, I 0, .own 1] 316 false]⟩ 2 _ _ rfl rfl (by kernel_rfl) (by rfl) (mu_store2 ht rfl (by rfl) (by rfl) (by rfl) (by rfl) (fun h => by cases h) (by rfl) (by rfl)) rfl rfl rfl rfl rfl rfl rfl,
 trivial⟩
 refine En.move 3 1 (by rfl) (by rfl) ?_
 exact En.at (I := fun zz => Inv zz.1 zz.2.1 zz.2.2 ∧ mu zz.1 zz.2.1 zz.2.2 < mu y01 y02 l1) (T := fun zz => ⟨[sl 0 (.pptr 0 0 (Bk 0)), sl 3 (.ptr 2 0)], [.box [.v (.string text), I zz.1, I zz.2.1] 268 false, rowI 152 (TT rLab) zz.2.2, .box [I 3, I 0, .own 1] 316 false]⟩) ((r_2.2), (y02), (l1 ++ ([(r_2.1)] : (List (Tr RLab))))) h (by kernel_rfl)
 replace h := h.2 hb
 refine En.exit rfl ?_
 refine En.seq ?_
 refine En.region ?_
 refine WL.run ht hn 2 ⟨[sl 0 (.pptr 0 0 (Bk 0)), sl 2 (.ptr 2 0)], [.box [.v (.string text), I (y01), I (y02)] 268 false, rowI 152 (TT rLab) l1, .box [I 3, I 0, .own 1] 316 false]⟩ (by kernel_rfl) ?_
 refine WL.nil ?_
 refine En.ret ?_
 refine En.seal (T := (TT rLab)) (l := l1) (e := 152) 1 rfl ?_
 refine En.freeze [2] (by rfl) ?_
 refine En.ghost 2 (o1 (.rd (trR rLab (Tr.node (RLab.mk 3 0) l1)))) (by rfl) (tree_of (lab := rLab) (x := (RLab.mk 3 0)) (kids := l1) (i := 2) (by rfl) (by rfl) (by rfl)) ?_
 exact En.backE [0] ht ((Tr.node (RLab.mk 3 0) l1), (y01), (y02)) h (by kernel_rfl) (by rfl) rfl
theorem rWhole_all (k : Nat) (text : ByteArray) (pos deep : Int) (hp : rOk (k + 1) text pos deep) (Q : (Tr RLab) × Int × Int → Prop) (P : Prop) (h1 : pW text (k + 1) pos deep = none → P) (h2 : ∀ r, pW text (k + 1) pos deep = some r → Q (r.1, r.2, deep)) : rWhole_vc k text pos deep Q P := by
 unfold rWhole_vc
 rw [pW] at h1 h2
 refine ⟨hp, fun e => h1 (by unfold wholeS; rw [e]), fun r hr => ?_⟩
 obtain ⟨hz, ⟨p0, p1, pk⟩, d0, d1⟩ := hp
 obtain ⟨k1, k2⟩ := rowS_good (pW_good k) pos deep r p0 p1 hr
 unfold wholeS at h1 h2
 simp only [hr] at h1 h2
 obtain ⟨R0, hR0⟩ : ∃ R0, R0 = wholeL (fun p => rowS (pW text k) text p deep) text (text.size + 1) [r.1] r.2 := ⟨_, rfl⟩
 rw [← hR0] at h1 h2
 refine ⟨fun p d l => ∃ m : Nat, d = deep ∧ pos ≤ p ∧ p ≤ text.size ∧ text.size - p < m ∧ R0 = wholeL (fun p => rowS (pW text k) text p deep) text m l p ∧ (l.length : Int) ≤ p, fun p _ _ => (text.size - p).toNat, ⟨text.size + 1, rfl, by omega, k2, by omega, hR0, by simp only [List.length_cons, List.length_nil]; omega⟩, ?_⟩
 rintro p d l ⟨m, rfl, q0, q1, qm, he, hl⟩
 obtain ⟨m', rfl⟩ : ∃ m', m = m' + 1 := ⟨m - 1, by omega⟩
 refine ⟨⟨by omega, q1⟩, fun hb => ?_, fun hb => ?_⟩
 ·have hc : chr text p = 43 := by simpa using hb
  have := chr_lt (text := text) (p := p) (by omega)
  rw [wr_in (by omega) (by omega)]
  rw [wholeL, if_pos hc] at he
  refine ⟨⟨hz, ⟨by omega, by omega, by omega⟩, d0, d1⟩, fun e => h1 ?_, fun r2 hr2 => ?_⟩
  ·simp only [e] at he
   rw [he]
  ·obtain ⟨k3, k4⟩ := rowS_good (pW_good k) (p + 1) d r2 (by omega) (by omega) hr2
   simp only [hr2] at he
   refine ⟨capOk_of (by simp only [List.length_cons, List.length_nil]; omega), ⟨m', rfl, by omega, k4, by omega, he, by rw [List.length_append]; simp only [List.length_cons, List.length_nil]; omega⟩, by show ((text.size : Int) - r2.2).toNat < ((text.size : Int) - p).toNat; omega⟩
 ·have hc : ¬ chr text p = 43 := by simpa using hb
  rw [wholeL, if_neg hc] at he
  exact h2 (nd 3 0 l, p) (by rw [he])
theorem rWhole_ok (k : Nat) (ih : WC k) (text : ByteArray) (pos deep : Int) (hp : rOk (k + 1) text pos deep) (r : RTr × Int) (hx : pW text (k + 1) pos deep = some r) : CtE 155 [.sv (.one (.ptr 0 0))] [.box [.v (.string text), I pos, I deep] 268 false] [0] (fun (_ : Unit) => True) (fun _ => .sv (.one (.rd (trR rLab r.1)))) (fun _ => [.box [.v (.string text), I r.2, I deep] 268 false]) :=
 (rWhole_walk k text pos deep ih (fun x => x = (r.1, r.2, deep)) False (rWhole_all k text pos deep hp _ _ (fun e => by rw [hx] at e; cases e) (fun y e => by rw [hx] at e; cases e; rfl))).toE fun x hx => ⟨(), trivial, by subst hx; rfl, by subst hx; rfl⟩
theorem rWhole_bad (k : Nat) (ih : WC k) (text : ByteArray) (pos deep : Int) (hp : rOk (k + 1) text pos deep) (hx : pW text (k + 1) pos deep = none) : CtX 155 [.sv (.one (.ptr 0 0))] [.box [.v (.string text), I pos, I deep] 268 false] (psStop 265) :=
 (rWhole_walk k text pos deep ih (fun _ => False) True (rWhole_all k text pos deep hp _ _ (fun _ => trivial) (fun y e => by rw [hx] at e; cases e))).toX
theorem regWhole : ∀ k, WC k
 | 0 => fun text pos deep hp => absurd hp.2.1 (by omega)
 | k + 1 => fun text pos deep hp => ⟨rWhole_ok k (regWhole k) text pos deep hp, rWhole_bad k (regWhole k) text pos deep hp⟩
end Go.Proofs.Ytapnmjeadbhffaa


namespace Go.Proofs.Ytapnmjeadbhffaa
open Go.RowKit Go.MapKept
set_option linter.unusedSimpArgs false
set_option linter.unusedVariables false
set_option maxRecDepth 100000
def RetL (fn : Func) (R : Ending → World → Prop) : Po := fun a w => Leaves Try.prog fn a.tmps R a.defers .returning w
theorem Ct.bodyD {β : Type} {f : Nat} {fn : Func} {code : Code} {n : Nat} {ins : List SC} {post : β → Prop} {out : β → SC} (hf : Try.prog.funcs[f]? = some fn) (hb : fn.body = some code) (hn : fn.ntmps = n) (hl : Nat.ble ins.length n = true)
  (h : ∀ (c : Cfg) (R : Ending → World → Prop), c.n = n → c.dfr = [] → (∀ v w' g' r, post r → (out r).ok g' hs0 v → Base c w' g' → R (.returned v) w') → (∀ ch a w', Leaves Try.prog fn a.tmps R a.defers (.panicking ch) w' → c.pan ch a w') → En c ⟨enumF 0 ins, []⟩ (cwp code (PQ c (RetL fn R) [] (RetL fn R)))) : Ct f ins [] post out := fun w g hs args hp ha hm => by
 have hl := Nat.le_of_ble_eq_true hl
 have hla := okArgs_length ha
 let R := RetP w g post out
 let c : Cfg := ⟨n, w, g, fun _ => False, [], fun ch a w' => Leaves Try.prog fn a.tmps R a.defers (.panicking ch) w'⟩
 have hR : ∀ v w' g' r, post r → (out r).ok g' hs0 v → Base c w' g' → R (.returned v) w' := fun v w' g' r h1 h2 h3 => ⟨v, g', r, rfl, h1, h2, h3.cast rfl rfl rfl⟩
 refine calls_of_wp_defers hf hb (Code.wp_mono (fun e a w' q => ?_) (h c R rfl rfl hR (fun _ _ _ h => h) { tmps := args.toArray ++ Array.replicate (fn.ntmps - args.toArray.size) undef, defers := [] } w ⟨g, hs, ?_⟩))
 ·cases e with
  | panic ch => exact q
  | normal => exact q
  | ret => exact q
  | exit _ => exact (q : False).elim
  | goto _ => exact (q : False).elim
  | outgrown => exact (q : False).elim
 ·refine ⟨?_, rfl, ⟨rfl, rfl, rfl, Nat.le_refl _, fun _ _ _ => rfl, Gh.le.refl g, fun b o e => .inl e, hp⟩, fun t x hx => ?_, fun i it hi => by simp at hi, fun i j it jt _ hi => by simp at hi, fun i it hi => by simp at hi⟩
  ·simp [c, hn]
   omega
  ·obtain ⟨u, h1, _, h3⟩ := enumF_ok ha hx
   simp only [Nat.sub_zero] at h1
   have hlt := (List.getElem?_eq_some_iff.1 h1).1
   have : (args.toArray ++ Array.replicate (fn.ntmps - args.toArray.size) undef).getD t undef = u := by
    rw [Array.getD_eq_getD_getElem?, Array.getElem?_append_left (by simpa using hlt)]
    simp [h1]
   rw [this]
   exact h3
def CtD (f : Nat) (M M' : List Item) (u u' : FrameMode) : Prop := ∀ (w : World) (g : Gh) (hs : Nat → Value), Pers g w → ItemsOk (fun _ => True) 0 M g hs w → (∃ b0 b1, hs 0 = .pointer (some ⟨b0, 0, none⟩) ∧ hs 1 = .pointer (some ⟨b1, 0, none⟩)) →
 CallsD Try.prog f #[hs 0, hs 1] u w (fun e u2 w' => u2 = u' ∧ ∃ v g' hs', e = .returned v ∧ (∀ i ∈ [0, 1], hs' i = hs i) ∧ Base (cfgM 0 w g (mayM M hs)) w' g' ∧ ItemsOk (mayM M hs) w.heap.size M' g' hs' w')
theorem CtD.body {f : Nat} {fn : Func} {id d n : Nat} {o : Oper} {y : Code} {M M' : List Item} {u u' : FrameMode} {pv : Value} (hf : Try.prog.funcs[f]? = some fn) (hb : fn.body = some (.seq (.region id #[o] false) y)) (hn : fn.ntmps = n) (hr : fn.results = #[]) (h2n : Nat.blt 2 n = true) (hdn : Nat.blt d n = true) (hd2 : Nat.blt 1 d = true)
  (hop : o.op = .call ⟨.builtin .recover, #[], #[]⟩) (hg : o.guard = none) (hod : o.dst = some d) (hrec : ∀ (c₀ : Frame) (cs : List Frame), c₀.mode = u → (match recoverD (c₀ :: cs) with
   | some (v, cs') => v = pv ∧ cs' = { c₀ with mode := u' } :: cs
   | none => .nilIface = pv ∧ u = u')) (hpv : cellV pv)
  (h : ∀ (c : Cfg) (B : Nat → Nat), c.n = n → En c ⟨[(0, .sv (.one (.pptr 0 0 (B 0)))), (1, .sv (.one (.pptr 1 0 (B 1)))), (d, .sv (.one (.v pv)))], M⟩ (cwp y (PQ c (RetE c #[] [0, 1] B (fun (_ : Unit) => True) (fun _ => .tup []) (fun _ => M')) [] (RetE c #[] [0, 1] B (fun (_ : Unit) => True) (fun _ => .tup []) (fun _ => M'))))) : CtD f M M' u u' := fun w g hs hp hm ⟨b0, b1, e0, e1⟩ => by
 have h2n := Nat.le_of_ble_eq_true h2n
 have hdn := Nat.le_of_ble_eq_true hdn
 have hd2 := Nat.le_of_ble_eq_true hd2
 refine callsD_of_wpS hf hb fun c₀ cs hu => ?_
 apply wpS_seq
 apply wpS_region
 have hl : List.range (#[o] : Array Oper).size = [0] := rfl
 rw [hl]
 let a0 : Act := { tmps := #[hs 0, hs 1] ++ Array.replicate (fn.ntmps - (#[hs 0, hs 1] : Array Value).size) undef, defers := [] }
 have hwant : Region.wanted o (yielded #[o] a0.tmps) = true := by unfold Region.wanted; rw [hg]
 have hrun : (execOp a0.eval o).run Try.prog w = .ok .recover w := by
  unfold execOp
  rw [hop]
  rfl
 have key : (y.wpS Try.prog (bodyPostS Try.prog fn c₀ cs fun e u2 w' => u2 = u' ∧ ∃ v g' hs', e = .returned v ∧ (∀ i ∈ [0, 1], hs' i = hs i) ∧ Base (cfgM 0 w g (mayM M hs)) w' g' ∧ ItemsOk (mayM M hs) w.heap.size M' g' hs' w') (a0.put (some d) pv) ({ c₀ with mode := u' } :: cs) w) := by
  refine wpS_of_wp ?_
  let B : Nat → Nat := fun i => if i = 0 then b0 else b1
  refine Code.wp_mono (fun e a w' q => ?_) (h (cfgM n w g (mayM M hs)) B rfl (a0.put (some d) pv) w ⟨g, hs, ?_⟩)
  ·have fin : RetE (cfgM n w g (mayM M hs)) #[] [0, 1] B (fun (_ : Unit) => True) (fun _ => .tup []) (fun _ => M') a w' → a.defers = [] ∧ ∃ u2, ({ c₀ with mode := u' } :: cs : List Frame) = { c₀ with mode := u2 } :: cs ∧ ∃ v, (results fn a.tmps).run Try.prog w' = .ok v w' ∧ (u2 = u' ∧ ∃ v' g' hs', Ending.returned v = .returned v' ∧ (∀ i ∈ [0, 1], hs' i = hs i) ∧ Base (cfgM 0 w g (mayM M hs)) w' g' ∧ ItemsOk (mayM M hs) w.heap.size M' g' hs' w') := fun ⟨h1, v, g', hs', _, h2, _, _, h5, h6, h7⟩ => by
    refine ⟨h1, u', rfl, v, ?_, rfl, v, g', hs', rfl, fun i hi => (h5 i hi).trans ?_, h6.cast rfl rfl rfl, h7⟩
    ·have := h2
     unfold results
     rw [hr]
     exact this
    ·simp at hi
     rcases hi with rfl | rfl
     ·exact e0.symm
     ·exact e1.symm
   cases e with
   | normal => exact fin q
   | ret => exact fin q
   | panic _ => exact (q : False).elim
   | exit _ => exact (q : False).elim
   | goto _ => exact (q : False).elim
   | outgrown => exact (q : False).elim
  ·have hsz : a0.tmps.size = n := by
    simp only [a0, Array.size_append, Array.size_replicate, hn, List.size_toArray, List.length_cons, List.length_nil]
    omega
   have hget : ∀ t v, t ≠ d → a0.tmps.getD t undef = v → (a0.put (some d) pv).tmps.getD t undef = v := fun t v ht hv => by
    simp only [Act.put]
    rw [Array.getD_eq_getD_getElem?, Array.getElem?_setIfInBounds_ne (Ne.symm ht), ← Array.getD_eq_getD_getElem?]
    exact hv
   refine ⟨by simp [Act.put, hsz], rfl, ⟨rfl, rfl, rfl, Nat.le_refl _, fun _ _ _ => rfl, Gh.le.refl g, fun b o e => .inl e, hp⟩, fun t x hx => ?_, hm.items, hm.sep, fun i it hi hn' b hb => ?_⟩
   ·simp only [List.mem_cons, List.not_mem_nil, or_false, Prod.mk.injEq] at hx
    rcases hx with ⟨rfl, rfl⟩ | ⟨rfl, rfl⟩ | ⟨rfl, rfl⟩
    ·rw [hget 0 (hs 0) (by omega) (by show (#[hs 0, hs 1] ++ Array.replicate _ undef : Array Value).getD 0 undef = hs 0; rw [Array.getD_eq_getD_getElem?, Array.getElem?_append_left (by simp)]; rfl)]
     exact ⟨⟨e0, e0⟩, by rw [e0]; trivial⟩
    ·rw [hget 1 (hs 1) (by omega) (by show (#[hs 0, hs 1] ++ Array.replicate _ undef : Array Value).getD 1 undef = hs 1; rw [Array.getD_eq_getD_getElem?, Array.getElem?_append_left (by simp)]; rfl)]
     exact ⟨⟨e1, e1⟩, by rw [e1]; trivial⟩
    ·have : (a0.put (some t) pv).tmps.getD t undef = pv := by
      have ht : t < a0.tmps.size := by omega
      simp [Act.put, ht]
     rw [this]
     exact ⟨rfl, hpv⟩
   ·obtain ⟨h1, h2⟩ := hm.mine i it hi hn' b hb
    exact ⟨h1, fun hf => ⟨.inl ⟨i, it, hi, hf, hb⟩, (h2 hf).2⟩⟩
 show wpOpsS Try.prog #[o] _ [0] a0 (c₀ :: cs) w
 have hr0 := hrec c₀ cs hu
 unfold wpOpsS
 have h0 : (#[o] : Array Oper)[0]? = some o := rfl
 rw [h0]
 simp only
 rw [if_pos hwant, hrun]
 simp only
 cases hrd : recoverD (c₀ :: cs) with
 | none =>
  rw [hrd] at hr0
  simp only at hr0 ⊢
  obtain ⟨k1, k2⟩ := hr0
  unfold wpOpsS
  show y.wpS Try.prog _ (a0.put o.dst .nilIface) (c₀ :: cs) w
  rw [hod, k1]
  have : c₀ = { c₀ with mode := u' } := by rw [← k2, ← hu]
  rw [this]
  exact key
 | some x =>
  obtain ⟨v, cs'⟩ := x
  rw [hrd] at hr0
  simp only at hr0 ⊢
  obtain ⟨rfl, rfl⟩ := hr0
  unfold wpOpsS
  show y.wpS Try.prog _ (a0.put o.dst v) _ w
  rw [hod]
  exact key
section
variable {c : Cfg} {S S1 : St} {a : Act} {w : World} {g : Gh} {hs : Nat → Value} {tab : Tab} {n : Nat} {o : Oper} {ops : Array Oper} {rest : List Oper} {N R : Po} {E : List (Nat × Po)}
theorem val_ifNil {x : Operand} {t : Nat} {b : TypeId} {y : Operand} {ty : Nat} {v : Value} (ho : o.op = .binOp .eql t x y b) (hx : evX S.F x = some (.sv (.one (.v (.iface ty v))))) (hy : evX S.F y = some (.sv (.one (.v .nilIface)))) (hrun : ∀ w, (do eqGuard .eql t x y (.iface ty v) .nilIface; binOp .eql t (.iface ty v) .nilIface : Sem Value).run Try.prog w = .ok (.bool false) w) : Val c S o (.sv (.one (B false))) := fun a w g hs h => by
 have h1 : a.eval x = .iface ty v := (evX_ok h hx).1
 have h2 : a.eval y = .nilIface := (evX_ok h hy).1
 refine ⟨_, ?_, rfl, trivial⟩
 have e : execOp a.eval o = (do pure (.value (← (do eqGuard .eql t x y (a.eval x) (a.eval y); binOp .eql t (a.eval x) (a.eval y) : Sem Value))) : Sem Next) := by unfold execOp; rw [ho]
 rw [e]
 refine run_val ?_
 rw [h1, h2]
 exact hrun w
theorem val_nilNil {x : Operand} {t : Nat} {b : TypeId} {y : Operand} (ho : o.op = .binOp .eql t x y b) (hx : evX S.F x = some (.sv (.one (.v .nilIface)))) (hy : evX S.F y = some (.sv (.one (.v .nilIface)))) (hrun : ∀ w, (do eqGuard .eql t x y .nilIface .nilIface; binOp .eql t .nilIface .nilIface : Sem Value).run Try.prog w = .ok (.bool true) w) : Val c S o (.sv (.one (B true))) := fun a w g hs h => by
 have h1 : a.eval x = .nilIface := (evX_ok h hx).1
 have h2 : a.eval y = .nilIface := (evX_ok h hy).1
 refine ⟨_, ?_, rfl, trivial⟩
 have e : execOp a.eval o = (do pure (.value (← (do eqGuard .eql t x y (a.eval x) (a.eval y); binOp .eql t (a.eval x) (a.eval y) : Sem Value))) : Sem Next) := by unfold execOp; rw [ho]
 rw [e]
 refine run_val ?_
 rw [h1, h2]
 exact hrun w
theorem val_assert {x : Operand} {t1 t2 : Nat} {ty : Nat} {cs : List Value} {l : List At} (ho : o.op = .typeAssert x t1 t2 true) (hx : evX S.F x = some (.sv (.one (.v (.iface ty (.agg cs.toArray)))))) (hl : l = cs.map .v) (hc : ∀ c ∈ cs, cellV c) (hrun : ∀ w, (Instr.typeAssert (.iface ty (.agg cs.toArray)) t1 t2 true).run Try.prog w = .ok (.tuple #[.agg cs.toArray, .bool true]) w) : Val c S o (.tup [.agg l, .one (B true)]) := fun a w g hs h => by
 have h1 : a.eval x = .iface ty (.agg cs.toArray) := (evX_ok h hx).1
 subst hl
 refine ⟨.tuple #[.agg cs.toArray, .bool true], ?_, [.agg cs.toArray, .bool true], rfl, ⟨cs, rfl, oks_vals hc⟩, ⟨rfl, trivial⟩, trivial⟩
 have e : execOp a.eval o = (do pure (.value (← Instr.typeAssert (a.eval x) t1 t2 true)) : Sem Next) := by unfold execOp; rw [ho]
 rw [e, h1]
 exact run_val (hrun w)
theorem WL.defer {F t0 t1 d i j : Nat} (hw : wantE ops S.F o = some true) (ho : o.op = .defer ⟨.value (.tmp d), #[], #[]⟩) (hd : o.dst = none) (hf : look d S.F = some (.sv (.one (.fn F [i, j])))) (h0 : look t0 S.F = some (.sv (.one (.ptr i 0)))) (h1 : look t1 S.F = some (.sv (.one (.ptr j 0)))) (hc : c.dfr = [])
  (h : ∀ (c' : Cfg) (B : Nat → Nat), c'.n = c.n → c'.w0 = c.w0 → c'.g0 = c.g0 → c'.may = c.may → c'.pan = c.pan → c'.dfr = [⟨.fn (.func F) #[.pointer (some ⟨B i, 0, none⟩), .pointer (some ⟨B j, 0, none⟩)], #[]⟩] → WL c' ops rest ⟨(t0, .sv (.one (.pptr i 0 (B i)))) :: (t1, .sv (.one (.pptr j 0 (B j)))) :: S.F, S.M⟩ N) : WL c ops (o :: rest) S N := fun a w ⟨g, hs, hk⟩ => by
 unfold wpList
 rw [if_pos (wantE_ok hk hw)]
 refine .inl ?_
 unfold Oper.wp
 have hfv : a.tmps.getD d undef = .func (.func F) #[] #[hs i, hs j] := (hk.slots d _ (look_mem hf)).1
 obtain ⟨B, eB0, eB1⟩ : ∃ B : Nat → Nat, hs i = .pointer (some ⟨B i, 0, none⟩) ∧ hs j = .pointer (some ⟨B j, 0, none⟩) := by
  obtain ⟨⟨b0, e0, _⟩, _⟩ := hk.slots t0 _ (look_mem h0)
  obtain ⟨⟨b1, e1, _⟩, _⟩ := hk.slots t1 _ (look_mem h1)
  refine ⟨fun k => if k = i then b0 else b1, by show hs i = .pointer (some ⟨if i = i then b0 else b1, 0, none⟩); rw [if_pos rfl]; exact e0, ?_⟩
  show hs j = .pointer (some ⟨if j = i then b0 else b1, 0, none⟩)
  by_cases e : j = i
  ·rw [if_pos e, e]; exact e0
  ·rw [if_neg e]; exact e1
 obtain ⟨⟨b0, e0, e0'⟩, _⟩ := hk.slots t0 _ (look_mem h0)
 obtain ⟨⟨b1, e1, e1'⟩, _⟩ := hk.slots t1 _ (look_mem h1)
 have k0 : b0 = B i := by rw [e0] at eB0; simpa using eB0
 have k1 : b1 = B j := by rw [e1] at eB1; simpa using eB1
 have hrun : (execOp a.eval o).run Try.prog w = .ok (.defer ⟨.fn (.func F) #[hs i, hs j], #[]⟩) w := by
  unfold execOp
  have hev : a.eval (.tmp d) = .func (.func F) #[] #[hs i, hs j] := hfv
  simp only [ho, resolve, hev, Deferred.ofValue, Sem.run_bind, Sem.run_pure, Result.andThen_ok]
  simp
 rw [hrun]
 show wpList Try.prog ops (OnlyP c N) rest _ w
 let c' : Cfg := { c with dfr := [⟨.fn (.func F) #[.pointer (some ⟨B i, 0, none⟩), .pointer (some ⟨B j, 0, none⟩)], #[]⟩] }
 have := h c' B rfl rfl rfl rfl rfl rfl ({ a with defers := ⟨.fn (.func F) #[hs i, hs j], #[]⟩ :: a.defers }.put o.dst undef) w ⟨g, hs, ?_⟩
 ·have e : OnlyP c' N = OnlyP c N := rfl
  rw [← e]
  exact this
 ·rw [hd]
  refine ⟨hk.size, ?_, hk.base.cast rfl rfl rfl, fun t x hx => ?_, hk.items, hk.sep, hk.mine⟩
  ·show (⟨.fn (.func F) #[hs i, hs j], #[]⟩ : Deferred) :: a.defers = _
   rw [hk.defers, hc, eB0, eB1]
  ·rcases List.mem_cons.1 hx with hx | hx
   ·cases hx
    exact ⟨⟨eB0, by rw [← k0]; exact e0'⟩, (hk.slots _ _ (look_mem h0)).2⟩
   ·rcases List.mem_cons.1 hx with hx | hx
    ·cases hx
     exact ⟨⟨eB1, by rw [← k1]; exact e1'⟩, (hk.slots _ _ (look_mem h1)).2⟩
    ·exact hk.slots t x hx
theorem En.cfg {c' : Cfg} {y : Code} (h : c'.pan = c.pan) (k : En c' S (cwp y (PQ c' N E R))) : En c' S (cwp y (PQ c N E R)) := by
 have e : PQ c N E R = PQ c' N E R := by
  funext ex a w
  cases ex <;> first | rfl | (show c.pan _ _ _ = c'.pan _ _ _; rw [h])
 rw [e]
 exact k
theorem Ok'.afterX (h : Ok' c S a w g hs) {M : List Item} {rn : List Nat} (hM : M.map (fun it => some (it.mv (rnF rn S.M.length))) = rn.map (fun j => S.M[j]?)) {w' : World} {g' : Gh} (hb : Base (cfgM 0 w g (mayM M (fun i => hs (rnF rn S.M.length i)))) w' g') : Ok' c ⟨S.F, goneM S.M rn⟩ a w' g' hs := by
 have hat : ∀ (i : Nat) (it : Item), M[i]? = some it → ∃ j, rn[i]? = some j ∧ rnF rn S.M.length i = j ∧ S.M[j]? = some (it.mv (rnF rn S.M.length)) := fun i it hi => by
  have := congrArg (·[i]?) hM
  simp only [List.getElem?_map, hi, Option.map_some] at this
  cases hr : rn[i]? with
  | none => rw [hr] at this; simp at this
  | some j =>
   rw [hr] at this
   simp at this
   have hlt := (List.getElem?_eq_some_iff.1 hr).1
   refine ⟨j, rfl, ?_, this.symm⟩
   unfold rnF
   rw [show Nat.blt i rn.length = true from by simpa [Nat.blt_eq] using hlt]
   simp [hr]
 have hmay : ∀ b, mayM M (fun i => hs (rnF rn S.M.length i)) b → ∃ j it, j ∈ rn ∧ S.M[j]? = some it ∧ it.fz = false ∧ Blk (hs j) b := fun b ⟨i, it, h1, h2, h3⟩ => by
  obtain ⟨j, h4, h5, h6⟩ := hat i it h1
  simp only [h5] at h3
  exact ⟨j, _, List.mem_of_getElem? h4, h6, by rw [Item.mv_fz]; exact h2, h3⟩
 have hoth : ∀ k jt b, k ∉ rn → S.M[k]? = some jt → jt ≠ .gone → Blk (hs k) b → ¬ mayM M (fun i => hs (rnF rn S.M.length i)) b := fun k jt b h1 h2 h3 h4 h5 => by
  obtain ⟨j, it, h6, h7, h8, h9⟩ := hmay b h5
  exact h.sep j k it jt (fun e => h1 (e ▸ h6)) h7 h2 h8 h3 b h9 h4
 refine ⟨h.size, h.defers, Base.callM h hM hb, fun t x hx => SC.mono hb.ghle (h.slots t x hx), fun k kt hk => ?_, fun k l kt lt hkl hk hl hf hn b hb1 => ?_, fun k kt hk hn b hb1 => ?_⟩
 ·by_cases hn : kt = .gone
  ·subst hn; trivial
  ·obtain ⟨h1, h2⟩ := goneM_get k kt hk hn
   exact Item.same hb.ghle (fun b hb1 => hb.frame b (h.mine k kt h2 hn b hb1).1 (hoth k kt b h1 h2 hn hb1)) (h.items k kt h2)
 ·obtain ⟨h1, h2⟩ := goneM_get k kt hk (fz_gone hf)
  obtain ⟨h3, h4⟩ := goneM_get l lt hl hn
  exact h.sep k l kt lt hkl h2 h4 hf hn b hb1
 ·obtain ⟨h1, h2⟩ := goneM_get k kt hk hn
  obtain ⟨m1, m2⟩ := h.mine k kt h2 hn b hb1
  refine ⟨Nat.lt_of_lt_of_le m1 hb.grows, fun hf => ⟨(m2 hf).1, ?_⟩⟩
  cases hg : g' b with
  | none => rfl
  | some o =>
   rcases hb.ghnew b o hg with h5 | h5 | h5
   ·have h6 := (m2 hf).2
    have h5 : g b = some o := h5
    rw [h6] at h5; cases h5
   ·exact absurd h5 (hoth k kt b h1 h2 hn hb1)
   ·have : w.heap.size ≤ b := h5
    omega
theorem leave_one {β : Type} {fn : Func} {R : Ending → World → Prop} {rs : Array ResultVar} {post : β → Prop} {out : β → SC} {f t0 t1 i j b0 b1 : Nat} {M M' : List Item} {u u' : FrameMode} {S2 : St} (ht : tab.ok) (hk : Ok' c S a w g hs) (hr : fn.results = rs) (hR : ∀ v w' g' r, post r → (out r).ok g' hs0 v → Base c w' g' → R (.returned v) w')
  (hdf : c.dfr = [⟨.fn (.func f) #[.pointer (some ⟨b0, 0, none⟩), .pointer (some ⟨b1, 0, none⟩)], #[]⟩]) (h0 : look t0 S.F = some (.sv (.one (.pptr i 0 b0)))) (h1 : look t1 S.F = some (.sv (.one (.pptr j 0 b1)))) (hu : u ≠ .run) (hs' : settle u' = .returning)
  (ct : CtD f M M' u u') (en : ∀ args w, (callFunc f args).run Try.prog w = .ok (.enter f args) w) (hM : M.map (fun it => some (it.mv (rnF [i, j] S.M.length))) = [i, j].map (fun j => S.M[j]?)) (hnd : [i, j].Nodup) (hal : aloneE S [i, j] [0, 1] = true) (hrf : refsB M' = true) (hlen : M.length ≤ M'.length) (hbk : backC [0, 1] M M' = true)
  (hS2 : S2 = ⟨S.F, putItems (rnF [i, j] S.M.length) S.M [i, j] M'⟩) (r : β) (hp : post r) (e : evR tab S2 rs = some (out r)) (hcl : (out r).refs = []) : Leaves Try.prog fn a.tmps R a.defers u w := by
 rw [hk.defers, hdf]
 have e0 : hs i = .pointer (some ⟨b0, 0, none⟩) := (hk.slots t0 _ (look_mem h0)).1.1
 have e1 : hs j = .pointer (some ⟨b1, 0, none⟩) := (hk.slots t1 _ (look_mem h1)).1.1
 refine leaves_cons (f := f) (args := #[.pointer (some ⟨b0, 0, none⟩), .pointer (some ⟨b1, 0, none⟩)]) hu (by
  simp only [invoke]
  rw [show (#[] ++ #[Value.pointer (some ⟨b0, 0, none⟩), Value.pointer (some ⟨b1, 0, none⟩)] : Array Value) = #[.pointer (some ⟨b0, 0, none⟩), .pointer (some ⟨b1, 0, none⟩)] by simp]
  exact en _ _) ?_
 have hr0 : rnF [i, j] S.M.length 0 = i := rfl
 have hr1 : rnF [i, j] S.M.length 1 = j := rfl
 have hcall := ct w g (fun k => hs (rnF [i, j] S.M.length k)) hk.base.pers (items_in hk hM hnd) ⟨b0, b1, by rw [hr0]; exact e0, by rw [hr1]; exact e1⟩
 simp only [hr0, hr1, e0, e1] at hcall
 refine hcall.mono ?_
 rintro e' u2 w' ⟨rfl, v, g', hs'', rfl, k1, k2, k3⟩
 show Leaves Try.prog fn a.tmps R [] (settle u2) w'
 rw [hs']
 obtain ⟨hsN, n1, n2⟩ := hk.backE hM hnd hal hrf hlen (backB_of hbk) (fun q hq => k1 q hq) (fun q hq => by simp at hq; rcases hq with rfl | rfl <;> simp) k2 k3
 rw [← hS2] at n1
 obtain ⟨v', r1, r2⟩ := evR_ok ht n1 e
 refine ⟨v', ?_, hR v' w' g' r hp (SC.ok_closed hcl r2) n1.base⟩
 subst hr
 exact r1
theorem En.backD {β : Type} {fn : Func} {R : Ending → World → Prop} {rs : Array ResultVar} {post : β → Prop} {out : β → SC} {f b0 b1 : Nat} {M M' : List Item} {S2 : St} (t0 t1 i j : Nat) (ht : tab.ok) (hr : fn.results = rs) (hR : ∀ v w' g' r, post r → (out r).ok g' hs0 v → Base c w' g' → R (.returned v) w')
  (hdf : c.dfr = [⟨.fn (.func f) #[.pointer (some ⟨b0, 0, none⟩), .pointer (some ⟨b1, 0, none⟩)], #[]⟩]) (h0 : look t0 S.F = some (.sv (.one (.pptr i 0 b0)))) (h1 : look t1 S.F = some (.sv (.one (.pptr j 0 b1))))
  (ct : CtD f M M' .returning .returning) (en : ∀ args w, (callFunc f args).run Try.prog w = .ok (.enter f args) w) (hM : M.map (fun it => some (it.mv (rnF [i, j] S.M.length))) = [i, j].map (fun j => S.M[j]?)) (hnd : [i, j].Nodup) (hal : aloneE S [i, j] [0, 1] = true) (hrf : refsB M' = true) (hlen : M.length ≤ M'.length) (hbk : backC [0, 1] M M' = true)
  (hS2 : S2 = ⟨S.F, putItems (rnF [i, j] S.M.length) S.M [i, j] M'⟩) (r : β) (hp : post r) (e : evR tab S2 rs = some (out r)) (hcl : (out r).refs = []) : En c S (RetL fn R) := fun a w ⟨g, hs, hk⟩ =>
 leave_one ht hk hr hR hdf h0 h1 (by simp) rfl ct en hM hnd hal hrf hlen hbk hS2 r hp e hcl
theorem En.backD0 {β : Type} {fn : Func} {R : Ending → World → Prop} {rs : Array ResultVar} {post : β → Prop} {out : β → SC} (ht : tab.ok) (hr : fn.results = rs) (hR : ∀ v w' g' r, post r → (out r).ok g' hs0 v → Base c w' g' → R (.returned v) w') (hdf : c.dfr = []) (r : β) (hp : post r) (e : evR tab S rs = some (out r)) (hcl : (out r).refs = []) : En c S (RetL fn R) := fun a w ⟨g, hs, hk⟩ => by
 show Leaves Try.prog fn a.tmps R a.defers .returning w
 rw [hk.defers, hdf]
 obtain ⟨v', r1, r2⟩ := evR_ok ht hk e
 refine ⟨v', ?_, hR v' w g r hp (SC.ok_closed hcl r2) hk.base⟩
 subst hr
 exact r1
theorem leftD {β : Type} {fn : Func} {R : Ending → World → Prop} {rs : Array ResultVar} {post : β → Prop} {out : β → SC} {f b0 b1 ty : Nat} {M M0 : List Item} {M' : Int → Int → List Item} {rn : List Nat} {S2 : Int → Int → St} (t0 t1 i j : Nat) (ht : tab.ok) (hr : fn.results = rs) (hR : ∀ v w' g' r, post r → (out r).ok g' hs0 v → Base c w' g' → R (.returned v) w') (hpan : ∀ ch a w', Leaves Try.prog fn a.tmps R a.defers (.panicking ch) w' → c.pan ch a w')
  (hdf : c.dfr = [⟨.fn (.func f) #[.pointer (some ⟨b0, 0, none⟩), .pointer (some ⟨b1, 0, none⟩)], #[]⟩]) (h0 : look t0 S.F = some (.sv (.one (.pptr i 0 b0)))) (h1 : look t1 S.F = some (.sv (.one (.pptr j 0 b1))))
  (ct : ∀ code at_, code ≠ 0 → CtD f M (M' code at_) (.panicking [{ v := .iface ty (.agg #[.int .i64 code, .int .i64 at_]), recovered := false }]) (.panicking [{ v := .iface ty (.agg #[.int .i64 code, .int .i64 at_]), recovered := true }])) (en : ∀ args w, (callFunc f args).run Try.prog w = .ok (.enter f args) w)
  (hMc : M0.map (fun it => some (it.mv (rnF rn S.M.length))) = rn.map (fun j => S.M[j]?)) (hM : M.map (fun it => some (it.mv (rnF [i, j] (goneM S.M rn).length))) = [i, j].map (fun j => (goneM S.M rn)[j]?)) (hnd : [i, j].Nodup) (hal : aloneE ⟨S.F, goneM S.M rn⟩ [i, j] [0, 1] = true) (hrf : ∀ code at_, refsB (M' code at_) = true) (hlen : ∀ code at_, M.length ≤ (M' code at_).length) (hbk : ∀ code at_, backC [0, 1] M (M' code at_) = true)
  (hS2 : ∀ code at_, S2 code at_ = ⟨S.F, putItems (rnF [i, j] (goneM S.M rn).length) (goneM S.M rn) [i, j] (M' code at_)⟩) (r : Int → Int → β) (hp : ∀ code at_, code ≠ 0 → post (r code at_)) (e : ∀ code at_, evR tab (S2 code at_) rs = some (out (r code at_))) (hcl : ∀ code at_, (out (r code at_)).refs = []) : LeftX c S M0 rn (psStop ty) := fun a w g hs hk ch w' g' ⟨code, at_, hc, hch⟩ hb _ => by
 subst hch
 refine hpan _ a w' ?_
 have hk2 := hk.afterX hMc hb
 exact leave_one (S := ⟨S.F, goneM S.M rn⟩) ht hk2 hr hR hdf h0 h1 (by simp) rfl (ct code at_ hc) en hM hnd hal (hrf code at_) (hlen code at_) (hbk code at_) (hS2 code at_) (r code at_) (hp code at_ hc) (e code at_) (hcl code at_)
theorem mt_rangeS (p : Nat) {t : Nat} {m : Operand} {s : ByteArray} (ho : o.op = .range t m) (ht : Try.prog.underlying t = some .string) (hm : evX S.F m = some (.sv (.one (.v (.string s))))) : MT c S o (.sv (.one (.own p))) [] (some (p, .siter s 0)) := fun a w g hs h N Z hN => by
 unfold Oper.wp
 have hu : (Go.underlying t).run Try.prog w = .ok .string w := run_underlying ht w
 have hrun : (execOp a.eval o).run Try.prog w = .ok (.value (.pointer (some ⟨w.heap.size, 0, none⟩))) (w.alloc (.stringIter s 0)) := by
  have : execOp a.eval o = (do pure (.value (← Instr.range t (a.eval m))) : Sem Next) := by unfold execOp; rw [ho]
  rw [this, show a.eval m = .string s from (evX_ok h hm).1]
  refine run_valW ?_
  simp only [Instr.range, Sem.run_bind, hu, Result.andThen_ok, Sem.run_pure, newObj]
  rfl
 rw [hrun]
 refine hN _ _ g (.pointer (some ⟨w.heap.size, 0, none⟩)) ⟨rfl, rfl, rfl, by simp, fun b hb _ => (World.grownBy_alloc w _ none).block b hb (by simp), Gh.le.refl g, fun b o e => .inl e, fun b o e => ?_⟩ ⟨?_, trivial⟩ ⟨⟨w.heap.size, rfl, heap_alloc_new w _⟩, fun b hb => ?_⟩
 ·exact ((World.grownBy_alloc w _ none).block b (h.base.pers.lt e) (by simp)).trans (h.base.pers b o e)
 ·show _ = (if p = p then _ else hs p)
  rw [if_pos rfl]
 ·cases hb
  refine ⟨by simp, fun _ => ?_, .inl (Nat.le_refl _)⟩
  cases hgb : g w.heap.size with
  | none => rfl
  | some o => have := h.base.pers.lt hgb; omega
def putBlock (w : World) (b : Nat) (ob : Obj) : World := { w with heap := w.heap.setIfInBounds b ob }
theorem heap_putBlock (w : World) (b : Nat) (ob : Obj) (h : b < w.heap.size) : (putBlock w b ob).heap[b]? = some ob := by
 unfold putBlock
 simp [h]
theorem WL.nextS {r pos : Nat} {x : Operand} {s : ByteArray} (hn : c.n = n) (hw : wantE ops S.F o = some true) (ho : o.op = .next x true) (hx : evX S.F x = some (.sv (.one (.own r)))) (hr : S.M[r]? = some (.siter s pos))
  (h1 : decide (pos < s.size) = false → ∃ S1, putE n o.dst (.tup [.one (B false)]) S = some S1 ∧ WL c ops rest S1 N)
  (h2 : decide (pos < s.size) = true → ∃ S1, putE n o.dst (.tup [.one (B true), .one (I ((pos : Nat) : Int)), .one (.v (.int .i32 (((Utf8.decode s pos).1 : Nat) : Int)))]) ⟨S.F, S.M.set r (.siter s (pos + (Utf8.decode s pos).2))⟩ = some S1 ∧ WL c ops rest S1 N) : WL c ops (o :: rest) S N := fun a w ⟨g, hs, hk⟩ => by
 unfold wpList
 rw [if_pos (wantE_ok hk hw)]
 refine .inl ?_
 unfold Oper.wp
 obtain ⟨rb, e1, e2⟩ := hk.items r _ hr
 have hv : a.eval x = .pointer (some ⟨rb, 0, none⟩) := ((evX_ok hk hx).1).trans e1
 have hop : execOp a.eval o = (do pure (.value (← Instr.next (a.eval x) true o.type)) : Sem Next) := by unfold execOp; rw [ho]
 by_cases hp : pos < s.size
 ·have hrun : (Instr.next (.pointer (some ⟨rb, 0, none⟩)) true o.type).run Try.prog w = .ok (.tuple #[.bool true, goInt pos, .int .i32 (((Utf8.decode s pos).1 : Nat) : Int)]) (putBlock w rb (.stringIter s (pos + (Utf8.decode s pos).2))) := by
   have hlt := (Array.getElem?_eq_some_iff.1 e2).1
   simp only [Instr.next, Sem.run_bind, getObj, Sem.run, e2, Result.andThen_ok, if_pos hp, setObj, Sem.run_pure]
   rfl
  rw [hop, hv, run_valW hrun]
  obtain ⟨S1, k1, k2⟩ := h2 (decide_eq_true hp)
  have hb : ∀ b, blk (hs r) = some b → b = rb := fun b e => by rw [e1] at e; simpa [blk] using e.symm
  have hlt := (Array.getElem?_eq_some_iff.1 e2).1
  have hgr : w.grownBy (putBlock w rb (.stringIter s (pos + (Utf8.decode s pos).2))) (blk (hs r)) := by
   rw [e1]
   exact ⟨rfl, rfl, rfl, by simp [putBlock], fun q hq hne => by
    unfold putBlock
    have : rb ≠ q := fun e => hne (by rw [← e]; rfl)
    simp [this]⟩
  have := hk.upd (it' := .siter s (pos + (Utf8.decode s pos).2)) hr rfl rfl hgr ⟨rb, e1, heap_putBlock w rb _ hlt⟩
  refine k2 _ _ ⟨g, hs, putE_ok this hn (x := .tup [.one (B true), .one (I ((pos : Nat) : Int)), .one (.v (.int .i32 (((Utf8.decode s pos).1 : Nat) : Int)))]) ⟨[.bool true, goInt pos, .int .i32 (((Utf8.decode s pos).1 : Nat) : Int)], rfl, ⟨rfl, trivial⟩, ⟨rfl, trivial⟩, ⟨rfl, trivial⟩, trivial⟩ k1⟩
 ·have hrun : (Instr.next (.pointer (some ⟨rb, 0, none⟩)) true o.type).run Try.prog w = .ok (.tuple #[.bool false]) w := by
   simp only [Instr.next, Sem.run_bind, getObj, Sem.run, e2, Result.andThen_ok, if_neg hp, Sem.run_pure]
  rw [hop, hv, run_val hrun]
  obtain ⟨S1, k1, k2⟩ := h1 (decide_eq_false hp)
  exact k2 _ _ ⟨g, hs, putE_ok hk hn (x := .tup [.one (B false)]) ⟨[.bool false], rfl, ⟨rfl, trivial⟩, trivial⟩ k1⟩
theorem dec_width (s : ByteArray) (pos : Nat) (h : pos < s.size) : 1 ≤ (Utf8.decode s pos).2 := by
 by_cases ha : (s[pos]'h).toNat < 128
 ·rw [decode_ascii s pos h ha]
  exact Nat.le_refl _
 ·exact (decode_high s pos h (by omega)).2
theorem optNil {α : Type} {lab : α → List Value} : ∀ a w g hs, Ok' c S a w g hs → ∀ u, At.ok g hs (.v (.pointer none)) u → At.ok g hs (.rd (optR lab (none : Option (Tr α)))) u := fun a w g hs _ u h => h
theorem optSome {α : Type} {lab : α → List Value} {t : Tr α} : ∀ a w g hs, Ok' c S a w g hs → ∀ u, At.ok g hs (.rd (trR lab t)) u → At.ok g hs (.rd (optR lab (some t))) u := fun a w g hs _ u h => h
theorem hR_cast {β : Type} {R : Ending → World → Prop} {post : β → Prop} {out : β → SC} {c' : Cfg} (h1 : c'.w0 = c.w0) (h2 : c'.g0 = c.g0) (h3 : c'.may = c.may) (hR : ∀ v w' g' r, post r → (out r).ok g' hs0 v → Base c w' g' → R (.returned v) w') : ∀ v w' g' r, post r → (out r).ok g' hs0 v → Base c' w' g' → R (.returned v) w' := fun v w' g' r k1 k2 k3 => hR v w' g' r k1 k2 (k3.cast h1.symm h2.symm h3.symm)
theorem hpan_cast {fn : Func} {R : Ending → World → Prop} {c' : Cfg} (h : c'.pan = c.pan) (hpan : ∀ ch a w', Leaves Try.prog fn a.tmps R a.defers (.panicking ch) w' → c.pan ch a w') : ∀ ch a w', Leaves Try.prog fn a.tmps R a.defers (.panicking ch) w' → c'.pan ch a w' := fun ch a w' k => by rw [h]; exact hpan ch a w' k
end
end Go.Proofs.Ytapnmjeadbhffaa


namespace Go.Proofs.Ytapnmjeadbhffaa
open Go.RowKit Go.MapKept
set_option linter.unusedSimpArgs false
set_option linter.unusedVariables false
set_option maxRecDepth 100000
theorem en154 : ∀ args w, (callFunc 154 args).run Try.prog w = .ok (.enter 154 args) w := enters_of Try.func154 (by kernel_rfl) rfl
theorem regCatch (r0 : Rd) (c0 a0 code at_ : Int) (hc : code ≠ 0) : CtD 154 [.box [.rd r0] 152 false, .box [I c0, I a0] 63 false] [.box [.rd (optR rLab none)] 152 false, .box [I code, I at_] 63 false] (.panicking [{ v := .iface 265 (.agg #[.int .i64 code, .int .i64 at_]), recovered := false }]) (.panicking [{ v := .iface 265 (.agg #[.int .i64 code, .int .i64 at_]), recovered := true }]) := by
 have ht := tab_ok
 refine CtD.body (pv := .iface 265 (.agg #[.int .i64 code, .int .i64 at_])) (d := 5) Try.func154 rfl rfl rfl (by kernel_rfl) (by kernel_rfl) (by kernel_rfl) rfl rfl rfl (fun c₀ cs hm => by simp [recoverD, hm]) trivial (fun c Bk hn => ?_)
 have h : True := trivial
 refine En.block ?_
 refine En.seq ?_
 refine En.region ?_
 refine WL.val hn (by rfl) (val_ifNil rfl (by rfl) (by rfl) (fun w => by kernel_rfl)) (by rfl) ?_
 refine WL.nil ?_
 refine En.cond (b := false) (by kernel_rfl) (fun hb => ?_) (fun hb => ?_)
 ·cases hb
 ·refine En.seq ?_
  refine En.region ?_
  refine WL.val hn (by rfl) (val_assert (cs := [.int .i64 code, .int .i64 at_]) rfl (by rfl) rfl (by simp [cellV]) (fun w => by kernel_rfl)) (by rfl) ?_
  refine WL.run ht hn 2 ⟨[(0, .sv (.one (.pptr 0 0 (Bk 0)))), (1, .sv (.one (.pptr 1 0 (Bk 1)))), (5, .sv (.one (.v (.iface 265 (.agg #[.int .i64 code, .int .i64 at_]))))), (9, .sv (.one (B true))), (10, .sv (.agg [I code, I at_]))], [.box [.rd r0] 152 false, .box [I c0, I a0] 63 false]⟩ (by kernel_rfl) ?_
  refine WL.nil ?_
  refine En.cond (b := true) (by kernel_rfl) (fun hb => ?_) (fun hb => ?_)
  ·refine En.seq ?_
   refine En.region ?_
   refine WL.run ht hn 2 ⟨[(0, .sv (.one (.pptr 0 0 (Bk 0)))), (1, .sv (.one (.pptr 1 0 (Bk 1)))), (3, .sv (.one (.ptr 2 0)))], [.box [.rd r0] 152 false, .box [I c0, I a0] 63 false, .box [I code, I at_] 265 false]⟩ (by kernel_rfl) ?_
   refine WL.nil ?_
   refine En.regionA ⟨[(0, .sv (.one (.pptr 0 0 (Bk 0)))), (1, .sv (.one (.pptr 1 0 (Bk 1)))), (3, .sv (.one (.ptr 2 0)))], [.sv (.one (.ptr 2 0)), .sv (.agg [I code, I at_]), .tup [], .tup []], [⟨.box [.rd r0] 152 false, none, none, some (2, .box [.v (.pointer none)] 152 false)⟩, ⟨.box [I c0, I a0] 63 false, none, none, some (3, .box [I code, I at_] 63 false)⟩, ⟨.box [I code, I at_] 265 false, none, none, none⟩]⟩ ⟨[(0, .sv (.one (.pptr 0 0 (Bk 0)))), (1, .sv (.one (.pptr 1 0 (Bk 1))))], [.box [.v (.pointer none)] 152 false, .box [I code, I at_] 63 false, .gone]⟩ (by kernel_rfl) hn (by kernel_rfl) (by rfl) (by kernel_rfl) ?_ (by kernel_rfl) ?_
   ·exact ⟨.mt ⟨[(3, .sv (.one (.ptr 2 0)))], []⟩ [] none (by kernel_rfl) (by rfl) (mt_ev ht (by kernel_rfl)) rfl rfl rfl rfl,
  .mt ⟨[(11, .sv (.one (.ptr 2 0)))], [.gone, .gone, .box [I code, I at_] 265 false]⟩ [] none (by kernel_rfl) (by rfl) (mt_ev ht (by kernel_rfl)) rfl rfl rfl rfl,
  .mu ⟨[(0, .sv (.one (.pptr 0 0 (Bk 0))))], [.box [.rd r0] 152 false]⟩ 0 _ _ rfl rfl (by kernel_rfl) (by rfl) (mu_store2 ht rfl (by rfl) (by rfl) (by rfl) (by rfl) (fun h => by cases h) (by rfl) (by rfl)) rfl rfl rfl rfl rfl rfl rfl,
  .mu ⟨[(1, .sv (.one (.pptr 1 0 (Bk 1)))), (12, .sv (.agg [I code, I at_]))], [.gone, .box [I c0, I a0] 63 false]⟩ 1 _ _ rfl rfl (by kernel_rfl) (by rfl) (mu_store2 ht rfl (by rfl) (by rfl) (by rfl) (by rfl) (fun h => by cases h) (by rfl) (by rfl)) rfl rfl rfl rfl rfl rfl rfl,
  trivial⟩
   ·refine En.boxTurn (.rd (optR rLab none)) 0 0 (by rfl) (by rfl) optNil ?_
    exact En.backE [0, 1] ht () trivial (by kernel_rfl) (by rfl) rfl
  ·cases hb
theorem regIdle (r0 : Rd) (c0 a0 : Int) : CtD 154 [.box [.rd r0] 152 false, .box [I c0, I a0] 63 false] [.box [.rd r0] 152 false, .box [I c0, I a0] 63 false] (.returning) (.returning) := by
 have ht := tab_ok
 refine CtD.body (pv := .nilIface) (d := 5) Try.func154 rfl rfl rfl (by kernel_rfl) (by kernel_rfl) (by kernel_rfl) rfl rfl rfl (fun c₀ cs hm => by simp [recoverD, hm]) trivial (fun c Bk hn => ?_)
 have h : True := trivial
 refine En.block ?_
 refine En.seq ?_
 refine En.region ?_
 refine WL.val hn (by rfl) (val_nilNil rfl (by rfl) (by rfl) (fun w => by kernel_rfl)) (by rfl) ?_
 refine WL.nil ?_
 refine En.cond (b := true) (by kernel_rfl) (fun hb => ?_) (fun hb => ?_)
 ·refine En.region ?_
  refine WL.run ht hn 1 ⟨[(0, .sv (.one (.pptr 0 0 (Bk 0)))), (1, .sv (.one (.pptr 1 0 (Bk 1))))], [.box [.rd r0] 152 false, .box [I c0, I a0] 63 false]⟩ (by kernel_rfl) ?_
  refine WL.nil ?_
  exact En.backE [0, 1] ht () trivial (by kernel_rfl) (by rfl) rfl
 ·cases hb
def rParsed_vc (text : ByteArray) (Q : (Option (Tr RLab) × ApiFault) → Prop) : Prop :=
 IfP (decide ((text.size : Int) > 4000)) (Q (none, ApiFault.mk 1 0)) ((rOk (text.size + 1) text 0 0) ∧
 ((pW text (text.size + 1) 0 0) = none → (∀ code at_ : Int, code ≠ 0 → Q (none, ApiFault.mk code at_))) ∧ ∀ r, (pW text (text.size + 1) 0 0) = some r →
 (IfP (decide ((r.2) < (text.size : Int))) (((4 : Int) ≠ 0) ∧
 (∀ code at_ : Int, code ≠ 0 → Q (none, ApiFault.mk code at_))) (Q ((some (r.1)), ApiFault.mk 0 0))))
theorem rParsed_walk (text : ByteArray) (Q : (Option (Tr RLab) × ApiFault) → Prop) (h : rParsed_vc text Q) : Ct 70 [.sv (.one (.v (.string text)))] [] Q (fun (r : (Option (Tr RLab) × ApiFault)) => .tup [.one (.rd (optR rLab r.1)), .agg [I r.2.fCode, I r.2.fAt]]) := by
 have ht := tab_ok
 refine Ct.bodyD Try.func70 rfl rfl rfl (fun c R hn hdf hR hpan => ?_)
 unfold rParsed_vc at h
 refine En.seq ?_
 refine En.region ?_
 refine WL.run ht hn 2 ⟨[sl 0 (.v (.string text)), sl 2 (.ptr 0 0), sl 3 (.ptr 1 0)], [.box [.v (.pointer none)] 152 false, .box [I 0, I 0] 63 false]⟩ (by kernel_rfl) ?_
 refine WL.nil ?_
 refine En.seq ?_
 refine En.seq ?_
 refine En.region ?_
 refine WL.run ht hn 1 ⟨[sl 0 (.v (.string text)), sl 2 (.ptr 0 0), sl 3 (.ptr 1 0), sl 5 (.v (.string text))], [.box [.v (.pointer none)] 152 false, .box [I 0, I 0] 63 false]⟩ (by kernel_rfl) ?_
 refine WL.val hn (by rfl) (val_lenS (s := text) rfl Try.underlying9 (by rfl)) (by rfl) ?_
 refine WL.run ht hn 1 ⟨[sl 0 (.v (.string text)), sl 2 (.ptr 0 0), sl 3 (.ptr 1 0), sl 7 (B (decide ((text.size : Int) > 4000)))], [.box [.v (.pointer none)] 152 false, .box [I 0, I 0] 63 false]⟩ (by kernel_rfl) ?_
 refine WL.nil ?_
 refine En.cond (b := (decide ((text.size : Int) > 4000))) (by kernel_rfl) (fun hb => ?_) (fun hb => ?_)
 replace h := h.1 hb
 refine En.seq ?_
 refine En.region ?_
 refine WL.run ht hn 3 ⟨[sl 2 (.ptr 0 0), sl 3 (.ptr 1 0)], [.box [.v (.pointer none)] 152 false, .box [I 1, I 0] 63 false]⟩ (by kernel_rfl) ?_
 refine WL.nil ?_
 refine En.ret ?_
 refine En.boxTurn (.rd (optR rLab none)) 0 0 (by rfl) (by rfl) optNil ?_
 exact En.backD0 ht rfl hR hdf (none, ApiFault.mk 1 0) h (by kernel_rfl) rfl
 replace h := h.2 hb
 refine En.skip ?_
 refine En.seq ?_
 refine En.region ?_
 refine WL.run ht hn 1 ⟨[sl 0 (.v (.string text)), sl 2 (.ptr 0 0), sl 3 (.ptr 1 0), sl 9 (.fn 154 [0, 1])], [.box [.v (.pointer none)] 152 false, .box [I 0, I 0] 63 false]⟩ (by kernel_rfl) ?_
 refine WL.defer (F := 154) (t0 := 2) (t1 := 3) (d := 9) (i := 0) (j := 1) (by rfl) rfl rfl (by rfl) (by rfl) (by rfl) hdf (fun c' Bk hn' hw0 hg0 hm0 hpn hdf => ?_)
 replace hR := hR_cast hw0 hg0 hm0 hR
 replace hpan := hpan_cast hpn hpan
 replace hn := hn'.trans hn
 clear hn' hw0 hg0 hm0
 refine WL.sub ⟨[sl 0 (.v (.string text)), sl 2 (.pptr 0 0 (Bk 0)), sl 3 (.pptr 1 0 (Bk 1)), sl 9 (.fn 154 [0, 1])], [.box [.v (.pointer none)] 152 false, .box [I 0, I 0] 63 false]⟩ (by kernel_rfl) ?_
 refine WL.boxTurn (.rd (optR rLab none)) 0 0 (by rfl) (by rfl) optNil ?_
 refine WL.nil ?_
 refine En.cfg hpn ?_
 refine En.seq ?_
 refine En.region ?_
 refine WL.run ht hn 4 ⟨[sl 0 (.v (.string text)), sl 2 (.pptr 0 0 (Bk 0)), sl 3 (.pptr 1 0 (Bk 1)), sl 4 (.ptr 2 0)], [.box [.rd (optR rLab none)] 152 false, .box [I 0, I 0] 63 false, .box [.v (.string text), I 0, I 0] 268 false]⟩ (by kernel_rfl) ?_
 refine WL.nil ?_
 refine En.seq ?_
 refine En.region ?_
 refine WL.run ht hn 1 ⟨[sl 0 (.v (.string text)), sl 2 (.pptr 0 0 (Bk 0)), sl 3 (.pptr 1 0 (Bk 1)), sl 4 (.ptr 2 0), sl 13 (.ptr 2 0)], [.box [.rd (optR rLab none)] 152 false, .box [I 0, I 0] 63 false, .box [.v (.string text), I 0, I 0] 268 false]⟩ (by kernel_rfl) ?_
 have hp := h.1
 replace h := h.2
 refine splitO ((pW text (text.size + 1) 0 0)) (fun hr_2 => ?_) (fun r hr_2 => ?_)
 exact WL.callX (wI_bad _ (regWhole _) text 0 0 hp hr_2) en155 (caps := []) [2] (by rfl) rfl (by rfl) (argsAs (by kernel_rfl) (by rfl)) (by kernel_rfl) (by decide) (leftD (ty := 265) 2 3 0 1 ht rfl hR hpan hdf (by rfl) (by rfl) (fun code at_ hc => regCatch (optR rLab none) 0 0 code at_ hc) en154 (by kernel_rfl) (by kernel_rfl) (by decide) (by rfl) (fun _ _ => by rfl) (fun _ _ => Nat.le_of_ble_eq_true rfl) (fun _ _ => by rfl) (fun _ _ => rfl) (fun code at_ => (none, ApiFault.mk code at_)) (fun code at_ hc => (h.1 hr_2) code at_ hc) (fun _ _ => by kernel_rfl) (fun _ _ => rfl))
 replace h := h.2 r hr_2
 refine WL.callE (wI_ok _ (regWhole _) text 0 0 hp r hr_2) en155 (caps := []) [2] hn (by rfl) rfl (by rfl) (argsAs (by kernel_rfl) (by rfl)) (by kernel_rfl) (by decide) (by rfl) (by rfl) (fun _ _ => ⟨by rfl, _, by rfl, ?_⟩)
 refine WL.run ht hn 1 ⟨[sl 0 (.v (.string text)), sl 2 (.pptr 0 0 (Bk 0)), sl 3 (.pptr 1 0 (Bk 1)), sl 4 (.ptr 2 0)], [.box [.rd (trR rLab (r.1))] 152 false, .box [I 0, I 0] 63 false, .box [.v (.string text), I (r.2), I 0] 268 false]⟩ (by kernel_rfl) ?_
 refine WL.nil ?_
 refine En.seq ?_
 refine En.seq ?_
 refine En.region ?_
 refine WL.run ht hn 5 ⟨[sl 2 (.pptr 0 0 (Bk 0)), sl 3 (.pptr 1 0 (Bk 1)), sl 4 (.ptr 2 0), sl 18 (I (r.2)), sl 19 (.v (.string text))], [.box [.rd (trR rLab (r.1))] 152 false, .box [I 0, I 0] 63 false, .box [.v (.string text), I (r.2), I 0] 268 false]⟩ (by kernel_rfl) ?_
 refine WL.val hn (by rfl) (val_lenS (s := text) rfl Try.underlying9 (by rfl)) (by rfl) ?_
 refine WL.run ht hn 1 ⟨[sl 2 (.pptr 0 0 (Bk 0)), sl 3 (.pptr 1 0 (Bk 1)), sl 4 (.ptr 2 0), sl 21 (B (decide ((r.2) < (text.size : Int))))], [.box [.rd (trR rLab (r.1))] 152 false, .box [I 0, I 0] 63 false, .box [.v (.string text), I (r.2), I 0] 268 false]⟩ (by kernel_rfl) ?_
 refine WL.nil ?_
 refine En.cond (b := (decide ((r.2) < (text.size : Int)))) (by kernel_rfl) (fun hb => ?_) (fun hb => ?_)
 replace h := h.1 hb
 refine En.region ?_
 refine WL.run ht hn 1 ⟨[sl 2 (.pptr 0 0 (Bk 0)), sl 3 (.pptr 1 0 (Bk 1)), sl 22 (.ptr 2 0)], [.box [.rd (trR rLab (r.1))] 152 false, .box [I 0, I 0] 63 false, .box [.v (.string text), I (r.2), I 0] 268 false]⟩ (by kernel_rfl) ?_
 have hp := h.1
 replace h := h.2
 exact WL.callX (rFail_ct text (r.2) 0 4 hp) en156 (caps := []) [2] (by rfl) rfl (by rfl) (argsAs (by kernel_rfl) (by rfl)) (by kernel_rfl) (by decide) (leftD (ty := 265) 2 3 0 1 ht rfl hR hpan hdf (by rfl) (by rfl) (fun code at_ hc => regCatch (trR rLab (r.1)) 0 0 code at_ hc) en154 (by kernel_rfl) (by kernel_rfl) (by decide) (by rfl) (fun _ _ => by rfl) (fun _ _ => Nat.le_of_ble_eq_true rfl) (fun _ _ => by rfl) (fun _ _ => rfl) (fun code at_ => (none, ApiFault.mk code at_)) (fun code at_ hc => h code at_ hc) (fun _ _ => by kernel_rfl) (fun _ _ => rfl))
 replace h := h.2 hb
 refine En.skip ?_
 refine En.seq ?_
 refine En.region ?_
 refine WL.run ht hn 4 ⟨[sl 2 (.pptr 0 0 (Bk 0)), sl 3 (.pptr 1 0 (Bk 1))], [.box [.rd (trR rLab (r.1))] 152 false, .box [I 0, I 0] 63 false, .gone]⟩ (by kernel_rfl) ?_
 refine WL.nil ?_
 refine En.ret ?_
 refine En.boxTurn (.rd (optR rLab (some (r.1)))) 0 0 (by rfl) (by rfl) optSome ?_
 exact En.backD 2 3 0 1 ht rfl hR hdf (by rfl) (by rfl) (regIdle (optR rLab (some (r.1))) 0 0) en154 (by kernel_rfl) (by decide) (by rfl) (by rfl) (Nat.le_of_ble_eq_true rfl) (by rfl) rfl ((some (r.1)), ApiFault.mk 0 0) h (by kernel_rfl) rfl
theorem en70 : ∀ args w, (callFunc 70 args).run Try.prog w = .ok (.enter 70 args) w := enters_of Try.func70 (by kernel_rfl) rfl
end Go.Proofs.Ytapnmjeadbhffaa


namespace Go.Proofs.Ytapnmjeadbhffaa
open Go.RowKit Go.MapKept
set_option linter.unusedSimpArgs false
set_option linter.unusedVariables false
set_option maxRecDepth 100000
theorem gpart_cons {v : Value} {l : List Value} {k : Nat} : gpart (.tuple (v :: l).toArray) (k + 1) = l.getD k undef := rfl
section
variable {c : Cfg} {S S1 : St} {a : Act} {w : World} {g : Gh} {hs : Nat → Value} {tab : Tab} {n : Nat} {o : Oper} {ops : Array Oper} {rest L0 : List Oper} {N : Po}
theorem mt_appendG {α : Type} {T : Ty α} {L : List (List α)} {m i p ty : Nat} {x y : Operand} {t e : Nat} {ti te : TI} (ht : tab.ok) (ho : o.op = .call ⟨.builtin .append, #[x, y], #[t, t]⟩) (h1 : tab t = some ti) (h2 : ti.sl = some e) (h3 : tab e = some te) (h4 : te.size = 1)
  (hx : evX S.F x = some (.sv (.one (.gs i 0)))) (hm : S.M[i]? = some (gridI e ty T L)) (hsrc : SrcOk c S y nilT (List.replicate m ())) (hb : (L.length + m) * te.bytes ≤ 140737488355328) (hb2 : L.length + m ≤ 140737488355328) : MT c S o (.sv (.one (.gs p 0))) [i] (some (p, gridI e ty T (L ++ List.replicate m []))) := fun a w g hs h N Z hN => by
 have hu := slT_some ((ht t ti h1).sl.trans h2)
 have hv : a.eval x = gpart (hs i) 0 := (evX_ok h hx).1
 obtain ⟨us, ocs, u1, u2, u3, u3', u4, u4', _, u5⟩ := h.items i _ hm
 obtain ⟨cs', r3, r4⟩ := hsrc a w g hs h
 have := nil_cells r4
 subst this
 rw [List.length_replicate] at r3
 have hn1 : nilT.s = 1 := rfl
 rw [hn1, ← h4] at r3
 rw [List.length_map] at u2 u3
 rw [← h4] at u3
 obtain ⟨v', w', k1, k2, k3, k4⟩ := run_append_src (ty := o.type) (ti := ti) hu (ht e te h3) (by rw [h4]; decide) u3 r3 (by simp only [maxLen]; omega) hb
 unfold Oper.wp
 have hrun : (execOp a.eval o).run Try.prog w = .ok (.value v') w' := by
  have : execOp a.eval o = (do pure (.value (← Builtin.append_ #[t, t] o.type #[a.eval x, a.eval y])) : Sem Next) := by
   unfold execOp
   rw [ho]
   simp [resolve, invoke, builtin]
  rw [this, hv]
  exact run_valW k1
 rw [hrun]
 have hsl := ownsRow_slice u3
 have hsl' := ownsRow_slice k2
 have hlo : ocs.length = L.length := by have := u3.1; rw [h4] at this; omega
 have hBi : ∀ b, (gpart (hs i) 0).ownBlock = some b → Blk (hs i) b := fun b hb => Blk.part u1 (by omega) (ownBlock_blk' hb)
 have hbi : ∀ b, (gpart (hs i) 0).ownBlock = some b → g b = none := fun b hb => ((h.mine i _ hm (by simp) b (hBi b hb)).2 rfl).2
 have hgq : ∀ q, q < L.length → us[q + 1]? = some (gpart (hs i) (q + 1)) := fun q hq => by
  rw [u1]
  show us[q + 1]? = some (us.getD (q + 1) undef)
  have : q + 1 < us.length := by omega
  simp [this]
 -- the new value
 let ns : List Value := us.drop 1 ++ List.replicate m (.slice none 0 0)
 have hnl : ns.length = L.length + m := by simp [ns]; omega
 have hnq : ∀ q, q < L.length → ns.getD q undef = gpart (hs i) (q + 1) := fun q hq => by
  have h1 : (us.drop 1)[q]? = some (gpart (hs i) (q + 1)) := by rw [List.getElem?_drop, Nat.add_comm]; exact hgq q hq
  have h2 : q < (us.drop 1).length := by simp; omega
  show (us.drop 1 ++ List.replicate m _).getD q undef = _
  rw [List.getD_eq_getElem?_getD, List.getElem?_append_left h2, h1]
  rfl
 have hnr : ∀ q, L.length ≤ q → q < L.length + m → ns.getD q undef = .slice none 0 0 := fun q hq hq2 => by
  have h2 : (us.drop 1).length = L.length := by simp; omega
  show (us.drop 1 ++ List.replicate m _).getD q undef = _
  rw [List.getD_eq_getElem?_getD, List.getElem?_append_right (by omega), h2, List.getElem?_replicate, if_pos (by omega)]
  rfl
 have hblk' : ∀ b, blk v' = some b → (gpart (hs i) 0).ownBlock = some b ∨ b = w.heap.size := fun b hb => by
  have e : v'.ownBlock = some b := by rw [← blk_slice hsl']; exact hb
  rcases k4 with e2 | e2
  ·left; rw [← e2]; exact e
  ·rw [e] at e2; cases e2; exact .inr rfl
 have hne : ∀ q, q < L.length → (gpart (hs i) (q + 1)).ownBlock = none ∨ (gpart (hs i) (q + 1)).ownBlock ≠ (gpart (hs i) 0).ownBlock := fun q hq => by
  cases hb : (gpart (hs i) (q + 1)).ownBlock with
  | none => exact .inl rfl
  | some b => exact .inr (fun e => u5 (q + 1) 0 b (by omega) (by omega) (by omega) (ownBlock_blk' hb) (ownBlock_blk' e.symm))
 refine hN v' w' g (.tuple (v' :: ns).toArray) ⟨k3.os, k3.tape, k3.output, k3.size, fun b hb hk => k3.block b hb (fun e => hk i (by simp) (hBi b e.symm)), Gh.le.refl g, fun b o e => .inl e, fun b o e => ?_⟩ ⟨?_, ?_⟩ ⟨⟨v' :: ns, ocs ++ List.replicate m (.slice none 0 0), rfl, ?_, ?_, fun u hu => ?_, fun q r n' hq => ?_, fun q hq => ?_, (fun p k e => by cases e), fun q q' b hq hq' hqq hb1 hb2' => ?_⟩, fun b hb => ?_⟩
 ·refine (k3.block b (h.base.pers.lt e) (fun e2 => ?_)).trans (h.base.pers b o e)
  rw [hbi b e2.symm] at e
  cases e
 ·show v' = gpart (if p = p then _ else hs p) 0
  rw [if_pos rfl]
  rfl
 ·obtain ⟨ao, m, cap, rfl⟩ := hsl'
  trivial
 ·simp [hnl]
 ·rw [List.length_map, List.length_append, List.length_replicate, ← h4]
  exact k2
 ·rcases List.mem_append.1 hu with hu | hu
  ·exact u3' u hu
  ·exact ⟨none, 0, 0, List.eq_of_mem_replicate hu⟩
 ·rw [List.getElem?_map] at hq
  cases hL : (L ++ List.replicate m [])[q]? with
  | none => rw [hL] at hq; cases hq
  | some l =>
   rw [hL] at hq
   simp only [Option.map_some, Option.some.injEq, Prod.mk.injEq] at hq
   obtain ⟨rfl, rfl⟩ := hq
   have hql := (List.getElem?_eq_some_iff.1 hL).1
   rw [List.length_append, List.length_replicate] at hql
   rw [gpart_cons]
   by_cases hlt : q < L.length
   ·rw [List.getElem?_append_left hlt] at hL
    obtain ⟨k5, cs2, k6, k7⟩ := u4 q (rowR T l) l.length (by rw [List.getElem?_map, hL]; rfl)
    rw [hnq q hlt]
    exact ⟨by rw [List.getElem?_append_left (by omega)]; exact k5, cs2, k6.kept k3 (hne q hlt), k7⟩
   ·rw [List.getElem?_append_right (by omega), List.getElem?_replicate, if_pos (by omega)] at hL
    cases hL
    rw [hnr q (by omega) hql]
    exact ⟨by rw [List.getElem?_append_right (by omega), List.getElem?_replicate, if_pos (by omega)], [], World.ownsAt_nil _ _ _, rowRead.nil⟩
 ·rw [List.getElem?_map] at hq
  cases hL : (L ++ List.replicate m [])[q]? <;> (rw [hL] at hq; simp at hq)
 ·simp only [List.length_cons, hnl] at hq hq'
  have key : ∀ q, q < L.length + m → ∀ b, blk (ns.getD q undef) = some b → q < L.length ∧ blk (gpart (hs i) (q + 1)) = some b := fun q hq b hb => by
   by_cases hlt : q < L.length
   ·rw [hnq q hlt] at hb
    exact ⟨hlt, hb⟩
   ·rw [hnr q (by omega) hq] at hb
    cases hb
  have k0 : ∀ q b, q < L.length + m → blk (ns.getD q undef) = some b → blk v' ≠ some b := fun q b hq hb e => by
   obtain ⟨hlt, hb'⟩ := key q hq b hb
   rcases hblk' b e with e2 | e2
   ·exact u5 (q + 1) 0 b (by omega) (by omega) (by omega) hb' (ownBlock_blk' e2)
   ·have := (h.mine i _ hm (by simp) b (Blk.part u1 (by omega) hb')).1
    omega
  cases q with
  | zero =>
   cases q' with
   | zero => exact hqq rfl
   | succ q' =>
    rw [gpart_cons] at hb2'
    exact k0 q' b (by omega) hb2' hb1
  | succ q =>
   rw [gpart_cons] at hb1
   cases q' with
   | zero => exact k0 q b (by omega) hb1 hb2'
   | succ q' =>
    rw [gpart_cons] at hb2'
    obtain ⟨l1, m1⟩ := key q (by omega) b hb1
    obtain ⟨l2, m2⟩ := key q' (by omega) b hb2'
    exact u5 (q + 1) (q' + 1) b (by omega) (by omega) (by omega) m1 m2
 ·have fresh : b = w.heap.size → b < w'.heap.size → g b = none := fun e _ => by
   cases hgb : g b with
   | none => rfl
   | some o => have := h.base.pers.lt hgb; omega
  obtain ⟨u, hu, hub⟩ := hb
  rcases List.mem_cons.1 hu with rfl | hu
  ·rcases hblk' b hub with e2 | e2
   ·obtain ⟨m1, m2⟩ := h.mine i _ hm (by simp) b (hBi b e2)
    exact ⟨Nat.lt_of_lt_of_le m1 k3.size, fun _ => (m2 rfl).2, .inr ⟨i, by simp, hBi b e2⟩⟩
   ·have hlt := (k2.lt b (by rw [← blk_slice hsl']; exact hub)).2
    exact ⟨hlt, fun _ => fresh e2 hlt, .inl (by omega)⟩
  ·rcases List.mem_append.1 hu with hu | hu
   ·have hBu : Blk (hs i) b := by
     rw [u1]
     exact ⟨u, List.mem_of_mem_drop hu, hub⟩
    obtain ⟨m1, m2⟩ := h.mine i _ hm (by simp) b hBu
    exact ⟨Nat.lt_of_lt_of_le m1 k3.size, fun _ => (m2 rfl).2, .inr ⟨i, by simp, hBu⟩⟩
   ·rw [List.eq_of_mem_replicate hu] at hub
    cases hub
theorem nilBoxG_ok {α : Type} {i j p e ty tb : Nat} {T : Ty α} {cells : List At} (hm : S.M[i]? = some (.box cells tb false)) (hj : cells[j]? = some (.v (.slice none 0 0))) (hp : (newM S.M [] (some (p, gridI e ty T [])))[i]? = some (.box cells tb false)) (hr : S.refsAll (fun i => !(Nat.beq i p)) = true) (hk : Ok' c S a w g hs) :
  ∃ hs', Ok' c ⟨S.F, (newM S.M [] (some (p, gridI e ty T []))).set i (.box (cells.set j (.gs p 0)) tb false)⟩ a w g hs' := by
 have he := hk.eff (K := []) (p := some (p, gridI e ty T [])) (h' := .tuple #[.slice none 0 0]) (Eff.refl hk.base) ⟨⟨[.slice none 0 0], [], rfl, rfl, World.ownsAt_nil _ _ _, fun u hu => by simp at hu, fun q r n hq => by simp at hq, fun q hq => by simp at hq, (fun p k e => by cases e), fun q q' b hq hq' hqq hb1 _ => by
  have : q = 0 := by simpa using hq
  subst this
  cases hb1⟩, fun b hb => by
  obtain ⟨u, hu, e⟩ := hb
  simp at hu
  subst hu
  cases e⟩ hr rfl
 refine ⟨_, he.retell (it' := .box (cells.set j (.gs p 0)) tb false) hp rfl rfl ?_⟩
 obtain ⟨b, cs, h1, h2, h3⟩ := he.items i _ hp
 refine ⟨b, cs, h1, oks_turn (fun u hu => ?_) j hj h2, h3⟩
 have : u = .slice none 0 0 := hu.1
 subst this
 refine ⟨?_, trivial⟩
 show _ = gpart (if p = p then _ else hs p) 0
 rw [if_pos rfl]
 rfl
theorem WL.nilBoxG {α : Type} {T : Ty α} {cells : List At} {tb : Nat} (i j p e ty : Nat) (hm : S.M[i]? = some (.box cells tb false)) (hj : cells[j]? = some (.v (.slice none 0 0))) (hp : (newM S.M [] (some (p, gridI e ty T ([] : List (List α)))))[i]? = some (.box cells tb false)) (hr : S.refsAll (fun i => !(Nat.beq i p)) = true)
  (h : WL c ops L0 ⟨S.F, (newM S.M [] (some (p, gridI e ty T []))).set i (.box (cells.set j (.gs p 0)) tb false)⟩ N) : WL c ops L0 S N := fun a w ⟨g, _, hk⟩ => by
 obtain ⟨hs', hk'⟩ := nilBoxG_ok hm hj hp hr hk
 exact h a w ⟨g, hs', hk'⟩
def At.subR (x : At) (i : Nat) : At := match x with
 | .gs j 0 => match Nat.beq j i with
  | true => .own i
  | false => .gs j 0
 | x => x
def SV.subR (s : SV) (i : Nat) : SV := match s with
 | .one x => .one (x.subR i)
 | .agg l => .agg (l.map (·.subR i))
def SC.subR (x : SC) (i : Nat) : SC := match x with
 | .sv s => .sv (s.subR i)
 | .tup l => .tup (l.map (·.subR i))
def Item.subR (it : Item) (i : Nat) : Item := match it with
 | .box cells ty fz => .box (cells.map (·.subR i)) ty fz
 | it => it
def At.onlyG (i : Nat) : At → Bool
 | .gs k q => !(Nat.beq k i) || Nat.beq q 0
 | x => x.refs.all fun k => !(Nat.beq k i)
def SV.onlyG (i : Nat) : SV → Bool
 | .one x => x.onlyG i
 | .agg l => l.all (·.onlyG i)
def SC.onlyG (i : Nat) : SC → Bool
 | .sv s => s.onlyG i
 | .tup l => l.all (·.onlyG i)
def Item.onlyG (i : Nat) : Item → Bool
 | .box cells _ _ => cells.all (·.onlyG i)
 | .iter k _ => !(Nat.beq k i)
 | .grid _ _ _ _ (some (_, k)) => !(Nat.beq k i)
 | _ => true
theorem At.subR_ok {g' : Gh} {hs' : Nat → Value} {i : Nat} (hg : Gh.le g g') (hi : hs' i = gpart (hs i) 0) (hk : ∀ k, k ≠ i → hs' k = hs k) {x : At} {u : Value} (ho : x.onlyG i = true) (h : x.ok g hs u) : (x.subR i).ok g' hs' u := by
 have gen : ∀ x : At, (x.refs.all fun k => !(Nat.beq k i)) = true → x.ok g hs u → x.ok g' hs' u := fun x hx h => At.ok_hs (fun k hk' => hk k (beq_ne (List.all_eq_true.1 hx k hk'))) (At.mono hg h)
 cases x with
 | gs k q =>
  obtain ⟨h1, h2⟩ := h
  have h1 : u = gpart (hs k) q := h1
  simp only [At.onlyG, Bool.or_eq_true] at ho
  by_cases e : k = i
  ·subst e
   have hq : q = 0 := by
    rcases ho with ho | ho
    ·exact absurd rfl (beq_ne ho)
    ·exact Nat.eq_of_beq_eq_true ho
   subst hq
   have : At.subR (.gs k 0) k = .own k := by simp [At.subR]
   rw [this]
   exact ⟨h1.trans hi.symm, h2⟩
  ·have : At.subR (.gs k q) i = .gs k q := by
    cases q with
    | zero =>
     have hb : Nat.beq k i = false := by
      cases hb : Nat.beq k i with
      | false => rfl
      | true => exact absurd (Nat.eq_of_beq_eq_true hb) e
     simp [At.subR, hb]
    | succ q => rfl
   rw [this]
   refine ⟨?_, h2⟩
   show u = gpart (hs' k) q
   rw [hk k e]
   exact h1
 | _ => exact gen _ ho h
theorem oks_subR {g' : Gh} {hs' : Nat → Value} {i : Nat} (hg : Gh.le g g') (hi : hs' i = gpart (hs i) 0) (hk : ∀ k, k ≠ i → hs' k = hs k) : ∀ {l : List At} {us : List Value}, l.all (·.onlyG i) = true → oks g hs l us → oks g' hs' (l.map (·.subR i)) us
 | [], [], _, _ => trivial
 | [], _ :: _, _, h => h.elim
 | _ :: _, [], _, h => h.elim
 | _ :: _, _ :: _, ho, h => by
  rw [List.all_cons, Bool.and_eq_true] at ho
  exact ⟨At.subR_ok hg hi hk ho.1 h.1, h.2.1, oks_subR hg hi hk ho.2 h.2.2⟩
theorem SV.subR_ok {g' : Gh} {hs' : Nat → Value} {i : Nat} (hg : Gh.le g g') (hi : hs' i = gpart (hs i) 0) (hk : ∀ k, k ≠ i → hs' k = hs k) {x : SV} {u : Value} (ho : x.onlyG i = true) (h : x.ok g hs u) : (x.subR i).ok g' hs' u := by
 cases x with
 | one a => exact At.subR_ok hg hi hk ho h
 | agg l =>
  obtain ⟨cs, h1, h2⟩ := h
  exact ⟨cs, h1, oks_subR hg hi hk ho h2⟩
theorem svs_subR {g' : Gh} {hs' : Nat → Value} {i : Nat} (hg : Gh.le g g') (hi : hs' i = gpart (hs i) 0) (hk : ∀ k, k ≠ i → hs' k = hs k) : ∀ {l : List SV} {us : List Value}, l.all (·.onlyG i) = true → SV.oks g hs l us → SV.oks g' hs' (l.map (·.subR i)) us
 | [], [], _, _ => trivial
 | [], _ :: _, _, h => h.elim
 | _ :: _, [], _, h => h.elim
 | _ :: _, _ :: _, ho, h => by
  rw [List.all_cons, Bool.and_eq_true] at ho
  exact ⟨SV.subR_ok hg hi hk ho.1 h.1, svs_subR hg hi hk ho.2 h.2⟩
theorem SC.subR_ok {g' : Gh} {hs' : Nat → Value} {i : Nat} (hg : Gh.le g g') (hi : hs' i = gpart (hs i) 0) (hk : ∀ k, k ≠ i → hs' k = hs k) {x : SC} {u : Value} (ho : x.onlyG i = true) (h : x.ok g hs u) : (x.subR i).ok g' hs' u := by
 cases x with
 | sv s => exact SV.subR_ok hg hi hk ho h
 | tup l =>
  obtain ⟨us, h1, h2⟩ := h
  exact ⟨us, h1, svs_subR hg hi hk ho h2⟩
theorem Ok'.sealRows {α : Type} {T : Ty α} {L : List (List α)} {tyo ty i : Nat} (h : Ok' c S a w g hs) (hm : S.M[i]? = some (gridI tyo ty T L)) (hF : S.F.all (fun x => x.2.onlyG i) = true) (hM : S.M.all (·.onlyG i) = true) : ∃ g' hs', Ok' c ⟨S.F.map fun x => (x.1, x.2.subR i), (S.M.map (·.subR i)).set i (rowI tyo (lsT T) L)⟩ a w g' hs' := by
 classical
 have hit := h.items i _ hm
 have hmine := h.mine i _ hm (by simp)
 have hil := (List.getElem?_eq_some_iff.1 hm).1
 obtain ⟨us, ocs, u1, u2, u3, u3', u4, u4', _, u5⟩ := hit
 rw [List.length_map] at u2 u3
 let In : Nat → Prop := fun b => ∃ k, k + 1 < us.length ∧ blk (gpart (hs i) (k + 1)) = some b
 have hInB : ∀ b, In b → Blk (hs i) b := fun b ⟨k, h1, h2⟩ => Blk.part u1 h1 h2
 let g' : Gh := fun x => if In x then w.heap[x]? else g x
 have hle : Gh.le g g' := fun x o e => by
  show (if In x then _ else g x) = some o
  by_cases hx : In x
  ·have := ((hmine x (hInB x hx)).2 rfl).2
   rw [this] at e
   cases e
  ·rw [if_neg hx]; exact e
 let hs' : Nat → Value := fun k => if k = i then gpart (hs i) 0 else hs k
 have hsi : hs' i = gpart (hs i) 0 := if_pos rfl
 have hsk : ∀ k, k ≠ i → hs' k = hs k := fun k hk => if_neg hk
 have hsl := own_slice u3
 have hB0 : ∀ b, Blk (hs' i) b → blk (gpart (hs i) 0) = some b := fun b hb => by
  rw [hsi] at hb
  obtain ⟨ao, cap, e⟩ := hsl
  rw [e] at hb ⊢
  exact hb
 have hB0' : ∀ b, Blk (hs' i) b → Blk (hs i) b := fun b hb => Blk.part u1 (by omega) (hB0 b hb)
 have hset : ∀ (k : Nat) (kt : Item), ((S.M.map (·.subR i)).set i (rowI tyo (lsT T) L))[k]? = some kt → (k = i ∧ kt = rowI tyo (lsT T) L) ∨ ∃ jt, k ≠ i ∧ S.M[k]? = some jt ∧ kt = jt.subR i ∧ kt.fz = jt.fz ∧ (kt ≠ .gone → jt ≠ .gone) := fun k kt hk => by
  rw [List.getElem?_set] at hk
  by_cases e : i = k
  ·rw [if_pos e] at hk
   split at hk
   ·simp at hk; exact .inl ⟨e.symm, hk.symm⟩
   ·cases hk
  ·rw [if_neg e, List.getElem?_map] at hk
   cases hj : S.M[k]? with
   | none => rw [hj] at hk; cases hk
   | some jt =>
    rw [hj] at hk
    simp at hk
    refine .inr ⟨jt, Ne.symm e, rfl, hk.symm, by rw [← hk]; cases jt <;> rfl, fun hn e => hn ?_⟩
    subst e
    exact hk.symm
 refine ⟨g', hs', h.size, h.defers, ⟨h.base.os, h.base.tape, h.base.output, h.base.grows, h.base.frame, h.base.ghle.trans hle, fun x o e => ?_, fun x o e => ?_⟩, fun t x hx => ?_, fun k kt hk => ?_, fun k l kt lt hkl hk hl hf hn b hb => ?_, fun k kt hk hn b hb => ?_⟩
 ·by_cases hx : In x
  ·exact .inr ((hmine x (hInB x hx)).2 rfl).1
  ·rw [show g' x = g x from if_neg hx] at e
   exact h.base.ghnew x o e
 ·by_cases hx : In x
  ·rw [show g' x = w.heap[x]? from if_pos hx] at e
   exact e
  ·rw [show g' x = g x from if_neg hx] at e
   exact h.base.pers x o e
 ·obtain ⟨y, hy, e⟩ := List.mem_map.1 hx
  cases e
  exact SC.subR_ok hle hsi hsk (List.all_eq_true.1 hF y hy) (h.slots _ _ hy)
 ·rcases hset k kt hk with ⟨rfl, rfl⟩ | ⟨jt, h1, h2, rfl, _, _⟩
  ·rw [hsi]
   have hlo : ocs.length = L.length := by have := u3.1; omega
   refine ⟨ocs, u3, ⟨ocs, ?_, hlo, fun q u l hu hl => ?_⟩⟩
   ·have : ∀ l : List Value, (∀ u ∈ l, ∃ ao m cap, u = Value.slice ao m cap) → l = l.flatMap fun u => u.cells.toList := fun l => by
     induction l with
     | nil => intro _; rfl
     | cons u l ih =>
      intro hc
      obtain ⟨ao, m, cp, e⟩ := hc u List.mem_cons_self
      rw [List.flatMap_cons, ← ih fun x hx => hc x (List.mem_cons_of_mem _ hx), e]
      rfl
    exact this _ u3'
   ·obtain ⟨k5, cs, k6, k7⟩ := u4 q (rowR T l) l.length (by rw [List.getElem?_map, hl]; rfl)
    rw [hu] at k5
    have k5 : u = gpart (hs k) (q + 1) := Option.some.inj k5
    have hql := (List.getElem?_eq_some_iff.1 hl).1
    obtain ⟨ao, m, cp, e⟩ := u3' u (List.mem_of_getElem? hu)
    refine ⟨?_, by rw [e]; rfl⟩
    rw [k5]
    have := row_LS (g' := g') (hs := hs0) k6 k7 hle (fun b hb => if_pos ⟨q, by omega, ownBlock_blk' hb⟩)
    exact this
  ·by_cases hn : jt = .gone
   ·subst hn; trivial
   ·rw [hsk k h1]
    have hall := List.all_eq_true.1 hM jt (List.mem_of_getElem? h2)
    have h3 := h.items k jt h2
    cases jt with
    | box cells ty fz =>
     obtain ⟨b, cs, k1, k2, k3, k4⟩ := h3
     exact ⟨b, cs, k1, oks_subR hle hsi hsk hall k2, k3, fun e => hle _ _ (k4 e)⟩
    | iter j r =>
     obtain ⟨rb, m, clock, seen, k1, k2, k3⟩ := h3
     exact ⟨rb, m, clock, seen, k1, (hsk j (beq_ne hall)).trans k2, k3⟩
    | grid tyo' ty' s' rows' link' =>
     have h4 := Item.mono hle h3
     obtain ⟨vs, ocs', v1, v2, v3, v4, v5, v6, v7, v8⟩ := h4
     refine ⟨vs, ocs', v1, v2, v3, v4, v5, v6, fun p k hl => ?_, v8⟩
     subst hl
     rw [hsk k (beq_ne hall)]
     exact v7 p k rfl
    | _ => exact Item.mono hle h3
 ·rcases hset k kt hk with ⟨rfl, rfl⟩ | ⟨jt, h1, h2, rfl, h3, h4⟩
  ·rcases hset l lt hl with ⟨rfl, rfl⟩ | ⟨jt, l1, l2, rfl, l3, l4⟩
   ·exact absurd rfl hkl
   ·rw [hsk l l1]
    exact h.sep k l _ jt hkl hm l2 rfl (l4 hn) b (hB0' b hb)
  ·rw [hsk k h1] at hb
   rw [h3] at hf
   rcases hset l lt hl with ⟨rfl, rfl⟩ | ⟨jt', l1, l2, rfl, l3, l4⟩
   ·exact fun e => h.sep k l jt _ hkl h2 hm hf (by simp) b hb (hB0' b e)
   ·rw [hsk l l1]
    exact h.sep k l jt jt' hkl h2 l2 hf (l4 hn) b hb
 ·rcases hset k kt hk with ⟨rfl, rfl⟩ | ⟨jt, h1, h2, rfl, h3, h4⟩
  ·obtain ⟨m1, m2⟩ := h.mine k _ hm (by simp) b (hB0' b hb)
   refine ⟨m1, fun _ => ⟨(m2 rfl).1, ?_⟩⟩
   have hni : ¬ In b := fun ⟨q, q1, q2⟩ => u5 0 (q + 1) b (by omega) q1 (by omega) (hB0 b hb) q2
   rw [show g' b = g b from if_neg hni]
   exact (m2 rfl).2
  ·rw [hsk k h1] at hb
   obtain ⟨m1, m2⟩ := h.mine k jt h2 (h4 hn) b hb
   refine ⟨m1, fun hf => ?_⟩
   rw [h3] at hf
   refine ⟨(m2 hf).1, ?_⟩
   have hni : ¬ In b := fun hb2 => h.sep k i jt _ h1 h2 hm hf (by simp) b hb (hInB b hb2)
   rw [show g' b = g b from if_neg hni]
   exact (m2 hf).2
theorem WL.sealRows {α : Type} {T : Ty α} {L : List (List α)} {tyo ty : Nat} (i : Nat) (hm : S.M[i]? = some (gridI tyo ty T L)) (hF : S.F.all (fun x => x.2.onlyG i) = true) (hM : S.M.all (·.onlyG i) = true) (h : WL c ops L0 ⟨S.F.map fun x => (x.1, x.2.subR i), (S.M.map (·.subR i)).set i (rowI tyo (lsT T) L)⟩ N) : WL c ops L0 S N := fun a w ⟨g, hs, hk⟩ => by
 obtain ⟨g', hs', hk'⟩ := hk.sealRows hm hF hM
 exact h a w ⟨g', hs', hk'⟩
end
end Go.Proofs.Ytapnmjeadbhffaa


namespace Go.Proofs.Ytapnmjeadbhffaa
open Go.RowKit Go.MapKept
set_option linter.unusedSimpArgs false
set_option linter.unusedVariables false
set_option maxRecDepth 100000
theorem letsOut_any {c : Cfg} {N Z : Po} (h : LetsOut (OnlyP c N)) : LetsOut (OnlyP c Z) := by
 obtain ⟨a, w, h⟩ := h
 exact h.elim
theorem wp_anyN {c : Cfg} {o : Oper} {a : Act} {w : World} {K N Z : Po} (hh : o.wp Try.prog a w K (OnlyP c N)) : o.wp Try.prog a w K (OnlyP c Z) := by
 unfold Oper.wp at *
 generalize (execOp a.eval o).run Try.prog w = r at *
 cases r with
 | ok n w' =>
  cases n <;> simp only [Oper.upon] at hh ⊢ <;>
   first
    | exact hh
    | exact Calls.mono hh (fun e w'' he => by cases e <;> first | exact he | exact letsOut_any he)
 | halt x w' => cases x <;> simp only [Oper.upon] at hh ⊢ <;> exact hh
section
variable {c : Cfg} {l : List Oper} {N : Po} {S : St} {fuel : Nat} {listed : Array Bool}
def RD (c : Cfg) (l : List Oper) (N : Po) (fuel : Nat) (listed : Array Bool) (S : St) : Prop := ∀ a w, Ok c S a w → wpAny Try.prog .any l.toArray (OnlyP c N) fuel listed a w
theorem RD.nil (hr : Region.ready .any l.toArray listed = []) (h : En c S N) : RD c l N 0 listed S := fun a w hk => ⟨hr, h a w hk⟩
def RDs (c : Cfg) (l : List Oper) (N : Po) (fuel : Nat) (listed : Array Bool) (S : St) : List Nat → Prop
 | [] => True
 | i :: r => (∃ (o : Oper) (S' : St) (L' : Array Bool), l[i]? = some o ∧ WL c l.toArray [o] S (fun a w => Ok c S' a w) ∧ listed.setIfInBounds i true = L' ∧ RD c l N fuel L' S') ∧ RDs c l N fuel listed S r
theorem RDs.get : ∀ {is : List Nat}, RDs c l N fuel listed S is → ∀ i ∈ is, ∃ (o : Oper) (S' : St), l[i]? = some o ∧ WL c l.toArray [o] S (fun a w => Ok c S' a w) ∧ RD c l N fuel (listed.setIfInBounds i true) S'
 | j :: r, h, i, hi => by
  rcases List.mem_cons.1 hi with e | hi
  ·subst e
   obtain ⟨o, S', L', h1, h2, h3, h4⟩ := h.1
   subst h3
   exact ⟨o, S', h1, h2, h4⟩
  ·exact RDs.get h.2 i hi
theorem RD.succ (is : List Nat) (hr : Region.ready .any l.toArray listed = is) (hne : is.isEmpty = false) (h : RDs c l N fuel listed S is) : RD c l N (fuel + 1) listed S := fun a w hk => by
 refine ⟨fun e => ?_, fun i hi => ?_⟩
 ·rw [hr] at e
  subst e
  cases hne
 ·rw [hr] at hi
  obtain ⟨o, S', ho, hw, hd⟩ := RDs.get h i hi
  have hw := hw a w hk
  have ho' : l.toArray[i]? = some o := by simpa using ho
  unfold wpOp
  rw [ho']
  simp only
  unfold wpList at hw
  split
  ·rename_i hwant
   rw [if_pos hwant] at hw
   rcases hw with hw | hw
   ·exact .inl (wp_anyN (Oper.wp_mono (fun a' w' h' => hd a' w' h') hw))
   ·exact .inr ⟨hw.1, letsOut_any hw.2⟩
  ·rename_i hwant
   rw [if_neg hwant] at hw
   exact hd _ _ hw
theorem RD.have {N : Po} {f : Nat} {L : Array Bool} (f' : Nat) (L' : Array Bool) (S' : St) (h1 : RD c l N f' L' S') (h2 : RD c l N f' L' S' → RD c l N f L S) : RD c l N f L S := h2 h1
theorem RD.start {f : Nat} {L : Array Bool} {S' : St} (h : RD c l N f L S') (hf : f = l.length) (hL : L = Array.replicate l.length false) (hs : ∀ a w, Ok c S a w → Ok c S' a w) : RD c l N l.length (Array.replicate l.length false) S := by
 subst hf
 subst hL
 exact fun a w hk => h a w (hs a w hk)
theorem WL.nilI {ops : Array Oper} : WL c ops [] S (fun a w => Ok c S a w) := fun _ _ hk => hk
theorem En.regionD {id : Nat} {E : List (Nat × Po)} {R : Po} (fin : St) (hm : Try.prog.follows .mixedOrders = true) (h : ∀ N : Po, En c fin N → RD c l N l.length (Array.replicate l.length false) S) (hN : En c fin N) : En c S (cwp (.region id l.toArray true) (PQ c N E R)) := fun a w ⟨g, hs', hok⟩ => by
 have hok1 : Ok' c S a w.drew g hs' := hok.grown (grown_drew w)
 refine Code.wp_mono (fun e a w q => ?_) (wp_region_any (Q := OnlyP c N) hm ?_)
 ·cases e <;> first | exact q | exact (q : False).elim
 ·have := h N hN a w.drew ⟨g, hs', hok1⟩
  simpa using this
end
section
variable {c : Cfg} {S : St}
theorem pe_of {i ty : Nat} {cells : List At} {k : Nat} (hm : S.M[i]? = some (.box cells ty true)) (hrefs : cells.flatMap At.refs = []) (hk : cells.length = k) : ∀ a w g hs, Ok' c S a w g hs → ∀ u, SC.ok g hs (.sv (.one (.ptr i 0))) u → SC.ok g hs (.sv (.one (.pe (svR (.agg cells)) k))) u := fun a w g hs h u hu => by
 obtain ⟨⟨b, h1, rfl⟩, _⟩ := hu
 obtain ⟨b', cs, h2, h3, h4, h5⟩ := h.items i _ hm
 rw [h1] at h2
 simp at h2
 subst h2
 have hg := h5 rfl
 refine ⟨⟨b, 0, .agg cs.toArray, rfl, ⟨cs, rfl, oks_hs (fun i hi => by rw [hrefs] at hi; cases hi) h3⟩, ?_, fun j c hj => ?_⟩, trivial⟩
 ·have := oks_length h3
  simp [Value.cells, ← this, hk]
 ·unfold Gh.cell
  rw [hg]
  simpa [Value.cells] using hj
end
end Go.Proofs.Ytapnmjeadbhffaa

