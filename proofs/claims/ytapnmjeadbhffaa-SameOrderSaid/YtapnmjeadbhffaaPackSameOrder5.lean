/- Lemmas towards the statement: mirrors of functions, and plain laws. No condition. -/
import Derived.Test.YtapnmjeadbhffaaPackSameOrder4

/- Contracts of slices.Repeat at truths (a slice of one). No condition. -/
namespace Go.Proofs.Ytapnmjeadbhffaa
open Go.RowKit Go.MapKept
set_option linter.unusedSimpArgs false
set_option linter.unusedVariables false
set_option maxRecDepth 100000

def mul64_vc (x : Int) (y : Int) (Q : (Int × Int) → Prop) : Prop :=
  Q ((IntKind.wrap .u64 ((IntKind.wrap .u64 ((IntKind.wrap .u64 ((Int.fdiv x (2 ^ (min 32 64))) * (Int.fdiv y (2 ^ (min 32 64))))) + (Int.fdiv (IntKind.wrap .u64 ((IntKind.wrap .u64 ((Int.fdiv x (2 ^ (min 32 64))) * (bitsI .and .u64 y 4294967295))) + (Int.fdiv (IntKind.wrap .u64 ((bitsI .and .u64 x 4294967295) * (bitsI .and .u64 y 4294967295))) (2 ^ (min 32 64))))) (2 ^ (min 32 64))))) + (Int.fdiv (IntKind.wrap .u64 ((bitsI .and .u64 (IntKind.wrap .u64 ((IntKind.wrap .u64 ((Int.fdiv x (2 ^ (min 32 64))) * (bitsI .and .u64 y 4294967295))) + (Int.fdiv (IntKind.wrap .u64 ((bitsI .and .u64 x 4294967295) * (bitsI .and .u64 y 4294967295))) (2 ^ (min 32 64))))) 4294967295) + (IntKind.wrap .u64 ((bitsI .and .u64 x 4294967295) * (Int.fdiv y (2 ^ (min 32 64))))))) (2 ^ (min 32 64))))), (IntKind.wrap .u64 (x * y)))
theorem mul64_walk (x : Int) (y : Int) (Q : (Int × Int) → Prop) (h : mul64_vc x y Q) : Ct 192 [.sv (.one (.v (.int .u64 x))), .sv (.one (.v (.int .u64 y)))] [] Q (fun (r : (Int × Int)) => .tup [.one (.v (.int .u64 r.1)), .one (.v (.int .u64 r.2))]) := by
  have ht := tab_ok
  refine Ct.body Try.func192 rfl rfl rfl rfl (fun c hn => ?_)
  unfold mul64_vc at h
  refine En.seq ?_
  refine En.region ?_
  refine WL.run ht hn 2 ⟨[(0, .sv (.one (.v (.int .u64 x)))), (1, .sv (.one (.v (.int .u64 y))))], []⟩ (by kernel_rfl) ?_
  refine WL.nil ?_
  refine En.seq ?_
  refine En.region ?_
  refine WL.run ht hn 3 ⟨[(0, .sv (.one (.v (.int .u64 x)))), (1, .sv (.one (.v (.int .u64 y)))), (6, .sv (.one (.v (.int .u64 (bitsI .and .u64 x 4294967295)))))], []⟩ (by kernel_rfl) ?_
  refine WL.nil ?_
  refine En.seq ?_
  refine En.region ?_
  refine WL.run ht hn 3 ⟨[(0, .sv (.one (.v (.int .u64 x)))), (1, .sv (.one (.v (.int .u64 y)))), (6, .sv (.one (.v (.int .u64 (bitsI .and .u64 x 4294967295))))), (7, .sv (.one (.v (.int .u64 (Int.fdiv x (2 ^ (min 32 64)))))))], []⟩ (by kernel_rfl) ?_
  refine WL.nil ?_
  refine En.seq ?_
  refine En.region ?_
  refine WL.run ht hn 3 ⟨[(0, .sv (.one (.v (.int .u64 x)))), (1, .sv (.one (.v (.int .u64 y)))), (6, .sv (.one (.v (.int .u64 (bitsI .and .u64 x 4294967295))))), (7, .sv (.one (.v (.int .u64 (Int.fdiv x (2 ^ (min 32 64))))))), (8, .sv (.one (.v (.int .u64 (bitsI .and .u64 y 4294967295)))))], []⟩ (by kernel_rfl) ?_
  refine WL.nil ?_
  refine En.seq ?_
  refine En.region ?_
  refine WL.run ht hn 3 ⟨[(0, .sv (.one (.v (.int .u64 x)))), (1, .sv (.one (.v (.int .u64 y)))), (6, .sv (.one (.v (.int .u64 (bitsI .and .u64 x 4294967295))))), (7, .sv (.one (.v (.int .u64 (Int.fdiv x (2 ^ (min 32 64))))))), (8, .sv (.one (.v (.int .u64 (bitsI .and .u64 y 4294967295))))), (9, .sv (.one (.v (.int .u64 (Int.fdiv y (2 ^ (min 32 64)))))))], []⟩ (by kernel_rfl) ?_
  refine WL.nil ?_
  refine En.seq ?_
  refine En.region ?_
  refine WL.run ht hn 4 ⟨[(0, .sv (.one (.v (.int .u64 x)))), (1, .sv (.one (.v (.int .u64 y)))), (6, .sv (.one (.v (.int .u64 (bitsI .and .u64 x 4294967295))))), (7, .sv (.one (.v (.int .u64 (Int.fdiv x (2 ^ (min 32 64))))))), (8, .sv (.one (.v (.int .u64 (bitsI .and .u64 y 4294967295))))), (9, .sv (.one (.v (.int .u64 (Int.fdiv y (2 ^ (min 32 64))))))), (10, .sv (.one (.v (.int .u64 (IntKind.wrap .u64 ((bitsI .and .u64 x 4294967295) * (bitsI .and .u64 y 4294967295)))))))], []⟩ (by kernel_rfl) ?_
  refine WL.nil ?_
  refine En.seq ?_
  refine En.region ?_
  refine WL.run ht hn 7 ⟨[(0, .sv (.one (.v (.int .u64 x)))), (1, .sv (.one (.v (.int .u64 y)))), (6, .sv (.one (.v (.int .u64 (bitsI .and .u64 x 4294967295))))), (7, .sv (.one (.v (.int .u64 (Int.fdiv x (2 ^ (min 32 64))))))), (9, .sv (.one (.v (.int .u64 (Int.fdiv y (2 ^ (min 32 64))))))), (11, .sv (.one (.v (.int .u64 (IntKind.wrap .u64 ((IntKind.wrap .u64 ((Int.fdiv x (2 ^ (min 32 64))) * (bitsI .and .u64 y 4294967295))) + (Int.fdiv (IntKind.wrap .u64 ((bitsI .and .u64 x 4294967295) * (bitsI .and .u64 y 4294967295))) (2 ^ (min 32 64)))))))))], []⟩ (by kernel_rfl) ?_
  refine WL.nil ?_
  refine En.seq ?_
  refine En.region ?_
  refine WL.run ht hn 3 ⟨[(0, .sv (.one (.v (.int .u64 x)))), (1, .sv (.one (.v (.int .u64 y)))), (6, .sv (.one (.v (.int .u64 (bitsI .and .u64 x 4294967295))))), (7, .sv (.one (.v (.int .u64 (Int.fdiv x (2 ^ (min 32 64))))))), (9, .sv (.one (.v (.int .u64 (Int.fdiv y (2 ^ (min 32 64))))))), (11, .sv (.one (.v (.int .u64 (IntKind.wrap .u64 ((IntKind.wrap .u64 ((Int.fdiv x (2 ^ (min 32 64))) * (bitsI .and .u64 y 4294967295))) + (Int.fdiv (IntKind.wrap .u64 ((bitsI .and .u64 x 4294967295) * (bitsI .and .u64 y 4294967295))) (2 ^ (min 32 64))))))))), (12, .sv (.one (.v (.int .u64 (bitsI .and .u64 (IntKind.wrap .u64 ((IntKind.wrap .u64 ((Int.fdiv x (2 ^ (min 32 64))) * (bitsI .and .u64 y 4294967295))) + (Int.fdiv (IntKind.wrap .u64 ((bitsI .and .u64 x 4294967295) * (bitsI .and .u64 y 4294967295))) (2 ^ (min 32 64))))) 4294967295)))))], []⟩ (by kernel_rfl) ?_
  refine WL.nil ?_
  refine En.seq ?_
  refine En.region ?_
  refine WL.run ht hn 3 ⟨[(0, .sv (.one (.v (.int .u64 x)))), (1, .sv (.one (.v (.int .u64 y)))), (6, .sv (.one (.v (.int .u64 (bitsI .and .u64 x 4294967295))))), (7, .sv (.one (.v (.int .u64 (Int.fdiv x (2 ^ (min 32 64))))))), (9, .sv (.one (.v (.int .u64 (Int.fdiv y (2 ^ (min 32 64))))))), (12, .sv (.one (.v (.int .u64 (bitsI .and .u64 (IntKind.wrap .u64 ((IntKind.wrap .u64 ((Int.fdiv x (2 ^ (min 32 64))) * (bitsI .and .u64 y 4294967295))) + (Int.fdiv (IntKind.wrap .u64 ((bitsI .and .u64 x 4294967295) * (bitsI .and .u64 y 4294967295))) (2 ^ (min 32 64))))) 4294967295))))), (13, .sv (.one (.v (.int .u64 (Int.fdiv (IntKind.wrap .u64 ((IntKind.wrap .u64 ((Int.fdiv x (2 ^ (min 32 64))) * (bitsI .and .u64 y 4294967295))) + (Int.fdiv (IntKind.wrap .u64 ((bitsI .and .u64 x 4294967295) * (bitsI .and .u64 y 4294967295))) (2 ^ (min 32 64))))) (2 ^ (min 32 64)))))))], []⟩ (by kernel_rfl) ?_
  refine WL.nil ?_
  refine En.seq ?_
  refine En.region ?_
  refine WL.run ht hn 6 ⟨[(0, .sv (.one (.v (.int .u64 x)))), (1, .sv (.one (.v (.int .u64 y)))), (7, .sv (.one (.v (.int .u64 (Int.fdiv x (2 ^ (min 32 64))))))), (9, .sv (.one (.v (.int .u64 (Int.fdiv y (2 ^ (min 32 64))))))), (12, .sv (.one (.v (.int .u64 (IntKind.wrap .u64 ((bitsI .and .u64 (IntKind.wrap .u64 ((IntKind.wrap .u64 ((Int.fdiv x (2 ^ (min 32 64))) * (bitsI .and .u64 y 4294967295))) + (Int.fdiv (IntKind.wrap .u64 ((bitsI .and .u64 x 4294967295) * (bitsI .and .u64 y 4294967295))) (2 ^ (min 32 64))))) 4294967295) + (IntKind.wrap .u64 ((bitsI .and .u64 x 4294967295) * (Int.fdiv y (2 ^ (min 32 64))))))))))), (13, .sv (.one (.v (.int .u64 (Int.fdiv (IntKind.wrap .u64 ((IntKind.wrap .u64 ((Int.fdiv x (2 ^ (min 32 64))) * (bitsI .and .u64 y 4294967295))) + (Int.fdiv (IntKind.wrap .u64 ((bitsI .and .u64 x 4294967295) * (bitsI .and .u64 y 4294967295))) (2 ^ (min 32 64))))) (2 ^ (min 32 64)))))))], []⟩ (by kernel_rfl) ?_
  refine WL.nil ?_
  refine En.seq ?_
  refine En.region ?_
  refine WL.run ht hn 9 ⟨[(0, .sv (.one (.v (.int .u64 x)))), (1, .sv (.one (.v (.int .u64 y)))), (4, .sv (.one (.v (.int .u64 (IntKind.wrap .u64 ((IntKind.wrap .u64 ((IntKind.wrap .u64 ((Int.fdiv x (2 ^ (min 32 64))) * (Int.fdiv y (2 ^ (min 32 64))))) + (Int.fdiv (IntKind.wrap .u64 ((IntKind.wrap .u64 ((Int.fdiv x (2 ^ (min 32 64))) * (bitsI .and .u64 y 4294967295))) + (Int.fdiv (IntKind.wrap .u64 ((bitsI .and .u64 x 4294967295) * (bitsI .and .u64 y 4294967295))) (2 ^ (min 32 64))))) (2 ^ (min 32 64))))) + (Int.fdiv (IntKind.wrap .u64 ((bitsI .and .u64 (IntKind.wrap .u64 ((IntKind.wrap .u64 ((Int.fdiv x (2 ^ (min 32 64))) * (bitsI .and .u64 y 4294967295))) + (Int.fdiv (IntKind.wrap .u64 ((bitsI .and .u64 x 4294967295) * (bitsI .and .u64 y 4294967295))) (2 ^ (min 32 64))))) 4294967295) + (IntKind.wrap .u64 ((bitsI .and .u64 x 4294967295) * (Int.fdiv y (2 ^ (min 32 64))))))) (2 ^ (min 32 64)))))))))], []⟩ (by kernel_rfl) ?_
  refine WL.nil ?_
  refine En.seq ?_
  refine En.region ?_
  refine WL.run ht hn 4 ⟨[(4, .sv (.one (.v (.int .u64 (IntKind.wrap .u64 ((IntKind.wrap .u64 ((IntKind.wrap .u64 ((Int.fdiv x (2 ^ (min 32 64))) * (Int.fdiv y (2 ^ (min 32 64))))) + (Int.fdiv (IntKind.wrap .u64 ((IntKind.wrap .u64 ((Int.fdiv x (2 ^ (min 32 64))) * (bitsI .and .u64 y 4294967295))) + (Int.fdiv (IntKind.wrap .u64 ((bitsI .and .u64 x 4294967295) * (bitsI .and .u64 y 4294967295))) (2 ^ (min 32 64))))) (2 ^ (min 32 64))))) + (Int.fdiv (IntKind.wrap .u64 ((bitsI .and .u64 (IntKind.wrap .u64 ((IntKind.wrap .u64 ((Int.fdiv x (2 ^ (min 32 64))) * (bitsI .and .u64 y 4294967295))) + (Int.fdiv (IntKind.wrap .u64 ((bitsI .and .u64 x 4294967295) * (bitsI .and .u64 y 4294967295))) (2 ^ (min 32 64))))) 4294967295) + (IntKind.wrap .u64 ((bitsI .and .u64 x 4294967295) * (Int.fdiv y (2 ^ (min 32 64))))))) (2 ^ (min 32 64))))))))), (5, .sv (.one (.v (.int .u64 (IntKind.wrap .u64 (x * y))))))], []⟩ (by kernel_rfl) ?_
  refine WL.nil ?_
  refine En.ret ?_
  exact En.back ht ((IntKind.wrap .u64 ((IntKind.wrap .u64 ((IntKind.wrap .u64 ((Int.fdiv x (2 ^ (min 32 64))) * (Int.fdiv y (2 ^ (min 32 64))))) + (Int.fdiv (IntKind.wrap .u64 ((IntKind.wrap .u64 ((Int.fdiv x (2 ^ (min 32 64))) * (bitsI .and .u64 y 4294967295))) + (Int.fdiv (IntKind.wrap .u64 ((bitsI .and .u64 x 4294967295) * (bitsI .and .u64 y 4294967295))) (2 ^ (min 32 64))))) (2 ^ (min 32 64))))) + (Int.fdiv (IntKind.wrap .u64 ((bitsI .and .u64 (IntKind.wrap .u64 ((IntKind.wrap .u64 ((Int.fdiv x (2 ^ (min 32 64))) * (bitsI .and .u64 y 4294967295))) + (Int.fdiv (IntKind.wrap .u64 ((bitsI .and .u64 x 4294967295) * (bitsI .and .u64 y 4294967295))) (2 ^ (min 32 64))))) 4294967295) + (IntKind.wrap .u64 ((bitsI .and .u64 x 4294967295) * (Int.fdiv y (2 ^ (min 32 64))))))) (2 ^ (min 32 64))))), (IntKind.wrap .u64 (x * y))) h (by kernel_rfl) rfl
theorem en192 : ∀ args w, (callFunc 192 args).run Try.prog w = .ok (.enter 192 args) w := enters_of Try.func192 (by kernel_rfl) rfl
theorem wr_u64 {a : Int} (h1 : 0 ≤ a) (h2 : a < 18446744073709551616) : IntKind.wrap .u64 a = a := by
  show a % 18446744073709551616 = a
  exact Int.emod_eq_of_lt h1 h2
theorem and_mask {x : Int} (h1 : 0 ≤ x) (h2 : x < 4294967296) : bitsI .and .u64 x 4294967295 = x := by
  obtain ⟨m, rfl⟩ : ∃ m : Nat, x = m := ⟨x.toNat, by omega⟩
  have h := (bits_nat .u64 63 (by decide) (fun a h0 ha => wr_u64 h0 (by omega)) m 4294967295 (by omega) (by decide)).1
  have h3 : m &&& 4294967295 = m % 2 ^ 32 := Nat.and_two_pow_sub_one_eq_mod m 32
  rw [h3, Nat.mod_eq_of_lt (by omega)] at h
  exact h
theorem shr_small {x : Int} (h1 : 0 ≤ x) (h2 : x < 4294967296) : Int.fdiv x (2 ^ (min 32 64)) = 0 := by
  rw [show ((2 : Int) ^ (min 32 64)) = 4294967296 from rfl, Int.fdiv_eq_ediv_of_nonneg _ (by omega)]
  exact Int.ediv_eq_zero_of_lt h1 h2
theorem mul64_ct (x : Int) (y : Int) (hp : (0 ≤ x ∧ x < 4294967296) ∧ 0 ≤ y ∧ y < 4294967296) (hq : x * y < 4294967296) : Ct 192 [.sv (.one (.v (.int .u64 x))), .sv (.one (.v (.int .u64 y)))] [] (fun (_ : Unit) => True) (fun _ => .tup [.one (.v (.int .u64 ((0, IntKind.wrap .u64 (x * y))).1)), .one (.v (.int .u64 ((0, IntKind.wrap .u64 (x * y))).2))]) := by
  refine (mul64_walk x y (fun res_ => res_ = ((0, IntKind.wrap .u64 (x * y)))) ?_).fun
  unfold mul64_vc
  obtain ⟨⟨h1, h2⟩, h3, h4⟩ := hp
  have hxy : 0 ≤ x * y := Int.mul_nonneg h1 h3
  have hle : x * y < 4294967296 := hq
  rw [and_mask h1 h2, and_mask h3 (by omega), shr_small h1 h2, shr_small h3 (by omega)]
  simp only [Int.zero_mul, Int.mul_zero, Int.zero_add, Int.add_zero]
  rw [show IntKind.wrap .u64 0 = 0 from rfl]
  simp only [Int.zero_add, Int.add_zero]
  rw [wr_u64 hxy (by omega), shr_small hxy hle]
  rfl
theorem mul64_ct2 (x y : Int) (hp : ((0 ≤ x ∧ x < 4294967296) ∧ 0 ≤ y ∧ y < 4294967296) ∧ x * y < 4294967296) : Ct 192 [.sv (.one (.v (.int .u64 x))), .sv (.one (.v (.int .u64 y)))] [] (fun (_ : Unit) => True) (fun _ => .tup [.one (.v (.int .u64 0)), .one (.v (.int .u64 (IntKind.wrap .u64 (x * y))))]) := mul64_ct x y hp.1 hp.2
def mulU_vc (x : Int) (y : Int) (Q : (Int × Int) → Prop) : Prop :=
  (((0 ≤ x ∧ x < 4294967296) ∧ 0 ≤ y ∧ y < 4294967296) ∧ x * y < 4294967296) ∧
  Q ((((0 : Int), IntKind.wrap .u64 (x * y))).1, (((0 : Int), IntKind.wrap .u64 (x * y))).2)
theorem mulU_walk (x : Int) (y : Int) (Q : (Int × Int) → Prop) (h : mulU_vc x y Q) : Ct 126 [.sv (.one (.v (.int .u64 x))), .sv (.one (.v (.int .u64 y)))] [] Q (fun (r : (Int × Int)) => .tup [.one (.v (.int .u64 r.1)), .one (.v (.int .u64 r.2))]) := by
  have ht := tab_ok
  refine Ct.body Try.func126 rfl rfl rfl rfl (fun c hn => ?_)
  unfold mulU_vc at h
  refine En.seq ?_
  refine En.region ?_
  refine WL.run ht hn 2 ⟨[(0, .sv (.one (.v (.int .u64 x)))), (1, .sv (.one (.v (.int .u64 y))))], []⟩ (by kernel_rfl) ?_
  refine WL.nil ?_
  refine En.seq ?_
  refine En.cond (b := false) (by kernel_rfl) (fun hb => ?_) (fun hb => ?_)
  · cases hb
  · refine En.skip ?_
    refine En.seq ?_
    refine En.region ?_
    refine WL.run ht hn 2 ⟨[(23, .sv (.one (.v (.int .u64 x)))), (24, .sv (.one (.v (.int .u64 y))))], []⟩ (by kernel_rfl) ?_
    have hp := h.1
    replace h := h.2
    refine WL.mt0 (K := []) (p := none) hn (by rfl) (mt_call (mul64_ct2 x y hp) en192 (caps := []) [] rfl (by rfl) (by kernel_rfl) (by kernel_rfl) (by rfl) (by rfl) (by rfl)) (by rfl) (by rfl) (by rfl) ?_
    refine WL.run ht hn 5 ⟨[(8, .sv (.one (.v (.int .u64 (((0 : Int), IntKind.wrap .u64 (x * y))).1)))), (9, .sv (.one (.v (.int .u64 (((0 : Int), IntKind.wrap .u64 (x * y))).2))))], []⟩ (by kernel_rfl) ?_
    refine WL.nil ?_
    refine En.seq ?_
    refine En.region ?_
    refine WL.run ht hn 4 ⟨[(4, .sv (.one (.v (.int .u64 (((0 : Int), IntKind.wrap .u64 (x * y))).1)))), (5, .sv (.one (.v (.int .u64 (((0 : Int), IntKind.wrap .u64 (x * y))).2))))], []⟩ (by kernel_rfl) ?_
    refine WL.nil ?_
    refine En.ret ?_
    exact En.back ht ((((0 : Int), IntKind.wrap .u64 (x * y))).1, (((0 : Int), IntKind.wrap .u64 (x * y))).2) h (by kernel_rfl) rfl
theorem en126 : ∀ args w, (callFunc 126 args).run Try.prog w = .ok (.enter 126 args) w := enters_of Try.func126 (by kernel_rfl) rfl
theorem mulU_ct (x : Int) (y : Int) (hp : ((0 ≤ x ∧ x < 4294967296) ∧ 0 ≤ y ∧ y < 4294967296) ∧ x * y < 4294967296) : Ct 126 [.sv (.one (.v (.int .u64 x))), .sv (.one (.v (.int .u64 y)))] [] (fun (_ : Unit) => True) (fun _ => .tup [.one (.v (.int .u64 ((0, IntKind.wrap .u64 (x * y))).1)), .one (.v (.int .u64 ((0, IntKind.wrap .u64 (x * y))).2))]) := by
  refine (mulU_walk x y (fun res_ => res_ = ((0, IntKind.wrap .u64 (x * y)))) ?_).fun
  unfold mulU_vc
  exact ⟨hp, rfl⟩
def repB_vc (l : (List Bool)) (n : Int) (Q : (List Bool) → Prop) : Prop :=
  l.length ≤ 9223372036854775807 →
  (IfP (decide (n < 0)) (False) ((((0 ≤ (IntKind.wrap .u64 (l.length : Int)) ∧ (IntKind.wrap .u64 (l.length : Int)) < 4294967296) ∧ 0 ≤ (IntKind.wrap .u64 n) ∧ (IntKind.wrap .u64 n) < 4294967296) ∧ (IntKind.wrap .u64 (l.length : Int)) * (IntKind.wrap .u64 n) < 4294967296) ∧
  IfP ((decide ((((0 : Int), IntKind.wrap .u64 ((IntKind.wrap .u64 (l.length : Int)) * (IntKind.wrap .u64 n)))).1 > 0)) || (decide ((((0 : Int), IntKind.wrap .u64 ((IntKind.wrap .u64 (l.length : Int)) * (IntKind.wrap .u64 n)))).2 > 9223372036854775807))) (False) (makeOk (wr (((0 : Int), IntKind.wrap .u64 ((IntKind.wrap .u64 (l.length : Int)) * (IntKind.wrap .u64 n)))).2) (wr (((0 : Int), IntKind.wrap .u64 ((IntKind.wrap .u64 (l.length : Int)) * (IntKind.wrap .u64 n)))).2) 1 ∧
  ∃ (Inv : Int → (List Bool) → Prop) (mu : Int → (List Bool) → Nat), Inv (((min l.length (List.replicate ((wr (((0 : Int), IntKind.wrap .u64 ((IntKind.wrap .u64 (l.length : Int)) * (IntKind.wrap .u64 n)))).2)).toNat false).length) : Nat) : Int) ((List.replicate ((wr (((0 : Int), IntKind.wrap .u64 ((IntKind.wrap .u64 (l.length : Int)) * (IntKind.wrap .u64 n)))).2)).toNat false).take 0 ++ l.take (min l.length (List.replicate ((wr (((0 : Int), IntKind.wrap .u64 ((IntKind.wrap .u64 (l.length : Int)) * (IntKind.wrap .u64 n)))).2)).toNat false).length) ++ (List.replicate ((wr (((0 : Int), IntKind.wrap .u64 ((IntKind.wrap .u64 (l.length : Int)) * (IntKind.wrap .u64 n)))).2)).toNat false).drop (0 + (min l.length (List.replicate ((wr (((0 : Int), IntKind.wrap .u64 ((IntKind.wrap .u64 (l.length : Int)) * (IntKind.wrap .u64 n)))).2)).toNat false).length))) ∧
  ∀ (x8 : Int) (l0 : (List Bool)) , Inv x8 l0 → (IfP (decide (x8 < (l0.length : Int))) (partOk x8 (l0.length : Int) l0.length ∧
  partOk 0 x8 l0.length ∧
  (Inv (wr (x8 + (((min ((l0.drop ((0 : Int).toNat)).take ((x8 : Int).toNat - (0 : Int).toNat)).length (((l0.length : Int) : Int).toNat - (x8 : Int).toNat)) : Nat) : Int))) (l0.take ((x8 : Int).toNat) ++ ((l0.drop ((0 : Int).toNat)).take ((x8 : Int).toNat - (0 : Int).toNat)).take (min ((l0.drop ((0 : Int).toNat)).take ((x8 : Int).toNat - (0 : Int).toNat)).length (((l0.length : Int) : Int).toNat - (x8 : Int).toNat)) ++ l0.drop (((x8 : Int).toNat) + (min ((l0.drop ((0 : Int).toNat)).take ((x8 : Int).toNat - (0 : Int).toNat)).length (((l0.length : Int) : Int).toNat - (x8 : Int).toNat)))) ∧ mu (wr (x8 + (((min ((l0.drop ((0 : Int).toNat)).take ((x8 : Int).toNat - (0 : Int).toNat)).length (((l0.length : Int) : Int).toNat - (x8 : Int).toNat)) : Nat) : Int))) (l0.take ((x8 : Int).toNat) ++ ((l0.drop ((0 : Int).toNat)).take ((x8 : Int).toNat - (0 : Int).toNat)).take (min ((l0.drop ((0 : Int).toNat)).take ((x8 : Int).toNat - (0 : Int).toNat)).length (((l0.length : Int) : Int).toNat - (x8 : Int).toNat)) ++ l0.drop (((x8 : Int).toNat) + (min ((l0.drop ((0 : Int).toNat)).take ((x8 : Int).toNat - (0 : Int).toNat)).length (((l0.length : Int) : Int).toNat - (x8 : Int).toNat)))) < mu x8 l0)) (Q l0)))))
theorem repB_walk (l : (List Bool)) (n : Int) (Q : (List Bool) → Prop) (h : repB_vc l n Q) : CtJ 57 [.sv (.one (LS boolT l)), .sv (.one (I n))] [] Q (fun (r : (List Bool)) => rowI 4 boolT r) := by
  have ht := tab_ok
  refine CtJ.body Try.func57 rfl rfl rfl rfl (fun c hn hmay => ?_)
  unfold repB_vc at h
  refine En.lenL 0 (by rfl) (fun hl => ?_)
  replace h := h hl
  clear hl
  refine En.seq ?_
  refine En.region ?_
  refine WL.run ht hn 1 ⟨[(0, .sv (.one (LS boolT l))), (1, .sv (.one (I n)))], []⟩ (by kernel_rfl) ?_
  refine WL.nil ?_
  refine En.seq ?_
  refine En.seq ?_
  refine En.region ?_
  refine WL.run ht hn 2 ⟨[(0, .sv (.one (LS boolT l))), (1, .sv (.one (I n))), (10, .sv (.one (B (decide (n < 0)))))], []⟩ (by kernel_rfl) ?_
  refine WL.nil ?_
  refine En.cond (b := (decide (n < 0))) (by kernel_rfl) (fun hb => ?_) (fun hb => ?_)
  · replace h := h.1 hb
    exact h.elim
  · replace h := h.2 hb
    refine En.skip ?_
    refine En.seq ?_
    refine En.region ?_
    refine WL.run ht hn 5 ⟨[(0, .sv (.one (LS boolT l))), (15, .sv (.one (.v (.int .u64 (IntKind.wrap .u64 (l.length : Int)))))), (17, .sv (.one (.v (.int .u64 (IntKind.wrap .u64 n)))))], []⟩ (by kernel_rfl) ?_
    have hp := h.1
    replace h := h.2
    refine WL.mt0 (K := []) (p := none) hn (by rfl) (mt_call (mulU_ct (IntKind.wrap .u64 (l.length : Int)) (IntKind.wrap .u64 n) hp) en126 (caps := []) [] rfl (by rfl) (by kernel_rfl) (by kernel_rfl) (by rfl) (by rfl) (by rfl)) (by rfl) (by rfl) (by rfl) ?_
    refine WL.run ht hn 5 ⟨[(0, .sv (.one (LS boolT l))), (5, .sv (.one (.v (.int .u64 (((0 : Int), IntKind.wrap .u64 ((IntKind.wrap .u64 (l.length : Int)) * (IntKind.wrap .u64 n)))).1)))), (6, .sv (.one (.v (.int .u64 (((0 : Int), IntKind.wrap .u64 ((IntKind.wrap .u64 (l.length : Int)) * (IntKind.wrap .u64 n)))).2))))], []⟩ (by kernel_rfl) ?_
    refine WL.nil ?_
    refine En.seq ?_
    refine En.seq ?_
    refine En.region ?_
    refine WL.run ht hn 3 ⟨[(0, .sv (.one (LS boolT l))), (6, .sv (.one (.v (.int .u64 (((0 : Int), IntKind.wrap .u64 ((IntKind.wrap .u64 (l.length : Int)) * (IntKind.wrap .u64 n)))).2)))), (23, .sv (.one (B (decide ((((0 : Int), IntKind.wrap .u64 ((IntKind.wrap .u64 (l.length : Int)) * (IntKind.wrap .u64 n)))).1 > 0)))))], []⟩ (by kernel_rfl) ?_
    refine WL.thru ⟨[(0, .sv (.one (LS boolT l))), (6, .sv (.one (.v (.int .u64 (((0 : Int), IntKind.wrap .u64 ((IntKind.wrap .u64 (l.length : Int)) * (IntKind.wrap .u64 n)))).2)))), (26, .sv (.one (B ((decide ((((0 : Int), IntKind.wrap .u64 ((IntKind.wrap .u64 (l.length : Int)) * (IntKind.wrap .u64 n)))).1 > 0)) || (decide ((((0 : Int), IntKind.wrap .u64 ((IntKind.wrap .u64 (l.length : Int)) * (IntKind.wrap .u64 n)))).2 > 9223372036854775807))))))], []⟩ ?_ ?_
    · refine splitB (decide ((((0 : Int), IntKind.wrap .u64 ((IntKind.wrap .u64 (l.length : Int)) * (IntKind.wrap .u64 n)))).1 > 0)) (fun hb0 => ?_) (fun hb0 => ?_)
      · refine WL.setB 23 hb0 (by kernel_rfl) ?_
        refine WL.run ht hn 3 ⟨[(0, .sv (.one (LS boolT l))), (6, .sv (.one (.v (.int .u64 (((0 : Int), IntKind.wrap .u64 ((IntKind.wrap .u64 (l.length : Int)) * (IntKind.wrap .u64 n)))).2)))), (26, .sv (.one (B true)))], []⟩ (by kernel_rfl) ?_
        exact WL.nil (sub_ok (by simp only [hb0]; kernel_rfl))
      · refine WL.setB 23 hb0 (by kernel_rfl) ?_
        refine WL.run ht hn 3 ⟨[(0, .sv (.one (LS boolT l))), (6, .sv (.one (.v (.int .u64 (((0 : Int), IntKind.wrap .u64 ((IntKind.wrap .u64 (l.length : Int)) * (IntKind.wrap .u64 n)))).2)))), (26, .sv (.one (B (decide ((((0 : Int), IntKind.wrap .u64 ((IntKind.wrap .u64 (l.length : Int)) * (IntKind.wrap .u64 n)))).2 > 9223372036854775807)))))], []⟩ (by kernel_rfl) ?_
        exact WL.nil (sub_ok (by simp only [hb0]; kernel_rfl))
    · refine En.cond (b := ((decide ((((0 : Int), IntKind.wrap .u64 ((IntKind.wrap .u64 (l.length : Int)) * (IntKind.wrap .u64 n)))).1 > 0)) || (decide ((((0 : Int), IntKind.wrap .u64 ((IntKind.wrap .u64 (l.length : Int)) * (IntKind.wrap .u64 n)))).2 > 9223372036854775807)))) (by kernel_rfl) (fun hb => ?_) (fun hb => ?_)
      · replace h := h.1 hb
        exact h.elim
      · replace h := h.2 hb
        refine En.skip ?_
        refine En.seq ?_
        refine En.region ?_
        refine WL.run ht hn 2 ⟨[(0, .sv (.one (LS boolT l))), (29, .sv (.one (I (wr (((0 : Int), IntKind.wrap .u64 ((IntKind.wrap .u64 (l.length : Int)) * (IntKind.wrap .u64 n)))).2))))], []⟩ (by kernel_rfl) ?_
        have hp := h.1
        replace h := h.2
        refine WL.mt0 (K := []) (p := some (0, rowI 4 boolT (List.replicate ((wr (((0 : Int), IntKind.wrap .u64 ((IntKind.wrap .u64 (l.length : Int)) * (IntKind.wrap .u64 n)))).2)).toNat false))) hn (by rfl) (mt_make (T := boolT) false (zv := (.bool false)) 0 (l := (wr (((0 : Int), IntKind.wrap .u64 ((IntKind.wrap .u64 (l.length : Int)) * (IntKind.wrap .u64 n)))).2)) (cp := (wr (((0 : Int), IntKind.wrap .u64 ((IntKind.wrap .u64 (l.length : Int)) * (IntKind.wrap .u64 n)))).2)) ht rfl (by rfl) (by rfl) (by rfl) (by rfl) (by decide) (by rfl) (by rfl) hp.1 hp.2.1 hp.2.2 (hp.le (by decide)) rfl (fun _ => ⟨rfl, trivial⟩)) (by rfl) (by rfl) (by rfl) ?_
        refine WL.run ht hn 1 ⟨[(0, .sv (.one (LS boolT l))), (7, .sv (.one (.own 0)))], [rowI 4 boolT (List.replicate ((wr (((0 : Int), IntKind.wrap .u64 ((IntKind.wrap .u64 (l.length : Int)) * (IntKind.wrap .u64 n)))).2)).toNat false)]⟩ (by kernel_rfl) ?_
        refine WL.nil ?_
        refine En.seq ?_
        refine En.region ?_
        refine WL.run ht hn 2 ⟨[(7, .sv (.one (.own 0))), (31, .sv (.one (.own 0))), (32, .sv (.one (LS boolT l)))], [rowI 4 boolT (List.replicate ((wr (((0 : Int), IntKind.wrap .u64 ((IntKind.wrap .u64 (l.length : Int)) * (IntKind.wrap .u64 n)))).2)).toNat false)]⟩ (by kernel_rfl) ?_
        refine WL.me hn (by rfl) (me_copy (T := boolT) (L := (List.replicate ((wr (((0 : Int), IntKind.wrap .u64 ((IntKind.wrap .u64 (l.length : Int)) * (IntKind.wrap .u64 n)))).2)).toNat false)) (es := l) (i := 0) (lo := 0) (m := (List.replicate ((wr (((0 : Int), IntKind.wrap .u64 ((IntKind.wrap .u64 (l.length : Int)) * (IntKind.wrap .u64 n)))).2)).toNat false).length) rfl (fun _ h => by cases h) ht rfl (by rfl) (by rfl) (by rfl) (by rfl) (by rfl) (dstOwn (T := boolT) (l := (List.replicate ((wr (((0 : Int), IntKind.wrap .u64 ((IntKind.wrap .u64 (l.length : Int)) * (IntKind.wrap .u64 n)))).2)).toNat false)) (by rfl) (by rfl)) (srcLS (T := boolT) (es := l) (fun _ h => by cases h) (by decide) (by rfl)) (Nat.le_of_eq (Nat.zero_add _))) (by rfl) rfl rfl (by rfl) ?_
        refine WL.sub ⟨[(7, .sv (.one (.own 0))), (31, .sv (.one (.own 0))), (32, .sv (.one (LS boolT l))), (33, .sv (.one (I (((min l.length (List.replicate ((wr (((0 : Int), IntKind.wrap .u64 ((IntKind.wrap .u64 (l.length : Int)) * (IntKind.wrap .u64 n)))).2)).toNat false).length) : Nat) : Int))))], [rowI 4 boolT ((List.replicate ((wr (((0 : Int), IntKind.wrap .u64 ((IntKind.wrap .u64 (l.length : Int)) * (IntKind.wrap .u64 n)))).2)).toNat false).take 0 ++ l.take (min l.length (List.replicate ((wr (((0 : Int), IntKind.wrap .u64 ((IntKind.wrap .u64 (l.length : Int)) * (IntKind.wrap .u64 n)))).2)).toNat false).length) ++ (List.replicate ((wr (((0 : Int), IntKind.wrap .u64 ((IntKind.wrap .u64 (l.length : Int)) * (IntKind.wrap .u64 n)))).2)).toNat false).drop (0 + (min l.length (List.replicate ((wr (((0 : Int), IntKind.wrap .u64 ((IntKind.wrap .u64 (l.length : Int)) * (IntKind.wrap .u64 n)))).2)).toNat false).length)))]⟩ (by kernel_rfl) ?_
        refine WL.run ht hn 1 ⟨[(7, .sv (.one (.own 0))), (8, .sv (.one (I (((min l.length (List.replicate ((wr (((0 : Int), IntKind.wrap .u64 ((IntKind.wrap .u64 (l.length : Int)) * (IntKind.wrap .u64 n)))).2)).toNat false).length) : Nat) : Int))))], [rowI 4 boolT ((List.replicate ((wr (((0 : Int), IntKind.wrap .u64 ((IntKind.wrap .u64 (l.length : Int)) * (IntKind.wrap .u64 n)))).2)).toNat false).take 0 ++ l.take (min l.length (List.replicate ((wr (((0 : Int), IntKind.wrap .u64 ((IntKind.wrap .u64 (l.length : Int)) * (IntKind.wrap .u64 n)))).2)).toNat false).length) ++ (List.replicate ((wr (((0 : Int), IntKind.wrap .u64 ((IntKind.wrap .u64 (l.length : Int)) * (IntKind.wrap .u64 n)))).2)).toNat false).drop (0 + (min l.length (List.replicate ((wr (((0 : Int), IntKind.wrap .u64 ((IntKind.wrap .u64 (l.length : Int)) * (IntKind.wrap .u64 n)))).2)).toNat false).length)))]⟩ (by kernel_rfl) ?_
        refine WL.nil ?_
        refine En.seq ?_
        refine En.block ?_
        obtain ⟨Inv, mu, h0, hI⟩ := h
        refine En.loop (σ := Int × (List Bool)) (fun zz => Inv zz.1 zz.2) (fun zz => mu zz.1 zz.2) (fun zz => ⟨[(7, .sv (.one (.own 0))), (8, .sv (.one (I zz.1)))], [rowI 4 boolT zz.2]⟩) ((((min l.length (List.replicate ((wr (((0 : Int), IntKind.wrap .u64 ((IntKind.wrap .u64 (l.length : Int)) * (IntKind.wrap .u64 n)))).2)).toNat false).length) : Nat) : Int), ((List.replicate ((wr (((0 : Int), IntKind.wrap .u64 ((IntKind.wrap .u64 (l.length : Int)) * (IntKind.wrap .u64 n)))).2)).toNat false).take 0 ++ l.take (min l.length (List.replicate ((wr (((0 : Int), IntKind.wrap .u64 ((IntKind.wrap .u64 (l.length : Int)) * (IntKind.wrap .u64 n)))).2)).toNat false).length) ++ (List.replicate ((wr (((0 : Int), IntKind.wrap .u64 ((IntKind.wrap .u64 (l.length : Int)) * (IntKind.wrap .u64 n)))).2)).toNat false).drop (0 + (min l.length (List.replicate ((wr (((0 : Int), IntKind.wrap .u64 ((IntKind.wrap .u64 (l.length : Int)) * (IntKind.wrap .u64 n)))).2)).toNat false).length)))) h0 (sub_ok (by kernel_rfl)) ?_
        rintro ⟨x8, l0⟩ h
        replace h := hI _ _ h
        show En c ⟨[(7, .sv (.one (.own 0))), (8, .sv (.one (I x8)))], [rowI 4 boolT l0]⟩ _
        refine En.seq ?_
        refine En.seq ?_
        refine En.region ?_
        refine WL.run ht hn 4 ⟨[(7, .sv (.one (.own 0))), (8, .sv (.one (I x8))), (37, .sv (.one (B (decide (x8 < (l0.length : Int))))))], [rowI 4 boolT l0]⟩ (by kernel_rfl) ?_
        refine WL.nil ?_
        refine En.cond (b := (decide (x8 < (l0.length : Int)))) (by kernel_rfl) (fun hb => ?_) (fun hb => ?_)
        · replace h := h.1 hb
          refine En.skip ?_
          refine En.block ?_
          have hp_2 := h.1
          replace h := h.2
          have hp_3 := h.1
          replace h := h.2
          refine En.regionA ⟨[(7, .sv (.one (.own 0))), (8, .sv (.one (I x8)))], [.sv (.one (I x8)), .sv (.one (.own 0)), .sv (.one (I x8)), .sv (.one (.vw 0 ((x8 : Int).toNat) (((l0.length : Int) : Int).toNat - (x8 : Int).toNat) 1)), .sv (.one (.own 0)), .sv (.one (I x8)), .sv (.one (.vw 0 ((0 : Int).toNat) ((x8 : Int).toNat - (0 : Int).toNat) 1)), .sv (.one (I (((min ((l0.drop ((0 : Int).toNat)).take ((x8 : Int).toNat - (0 : Int).toNat)).length (((l0.length : Int) : Int).toNat - (x8 : Int).toNat)) : Nat) : Int))), .sv (.one (I (wr (x8 + (((min ((l0.drop ((0 : Int).toNat)).take ((x8 : Int).toNat - (0 : Int).toNat)).length (((l0.length : Int) : Int).toNat - (x8 : Int).toNat)) : Nat) : Int))))), .sv (.one (I (wr (x8 + (((min ((l0.drop ((0 : Int).toNat)).take ((x8 : Int).toNat - (0 : Int).toNat)).length (((l0.length : Int) : Int).toNat - (x8 : Int).toNat)) : Nat) : Int)))))], [⟨rowI 4 boolT l0, none, none, some (7, rowI 4 boolT (l0.take ((x8 : Int).toNat) ++ ((l0.drop ((0 : Int).toNat)).take ((x8 : Int).toNat - (0 : Int).toNat)).take (min ((l0.drop ((0 : Int).toNat)).take ((x8 : Int).toNat - (0 : Int).toNat)).length (((l0.length : Int) : Int).toNat - (x8 : Int).toNat)) ++ l0.drop (((x8 : Int).toNat) + (min ((l0.drop ((0 : Int).toNat)).take ((x8 : Int).toNat - (0 : Int).toNat)).length (((l0.length : Int) : Int).toNat - (x8 : Int).toNat)))))⟩]⟩ ⟨[(7, .sv (.one (.own 0))), (8, .sv (.one (I (wr (x8 + (((min ((l0.drop ((0 : Int).toNat)).take ((x8 : Int).toNat - (0 : Int).toNat)).length (((l0.length : Int) : Int).toNat - (x8 : Int).toNat)) : Nat) : Int))))))], [rowI 4 boolT (l0.take ((x8 : Int).toNat) ++ ((l0.drop ((0 : Int).toNat)).take ((x8 : Int).toNat - (0 : Int).toNat)).take (min ((l0.drop ((0 : Int).toNat)).take ((x8 : Int).toNat - (0 : Int).toNat)).length (((l0.length : Int) : Int).toNat - (x8 : Int).toNat)) ++ l0.drop (((x8 : Int).toNat) + (min ((l0.drop ((0 : Int).toNat)).take ((x8 : Int).toNat - (0 : Int).toNat)).length (((l0.length : Int) : Int).toNat - (x8 : Int).toNat))))]⟩ (by kernel_rfl) hn (by kernel_rfl) (by rfl) (by kernel_rfl) ?_ (by kernel_rfl) ?_
          · exact ⟨.mt ⟨[(8, .sv (.one (I x8)))], []⟩ [] none (by kernel_rfl) (by rfl) (mt_ev ht (by kernel_rfl)) rfl rfl rfl rfl,
    .mt ⟨[(7, .sv (.one (.own 0)))], []⟩ [] none (by kernel_rfl) (by rfl) (mt_ev ht (by kernel_rfl)) rfl rfl rfl rfl,
    .mt ⟨[(8, .sv (.one (I x8)))], []⟩ [] none (by kernel_rfl) (by rfl) (mt_ev ht (by kernel_rfl)) rfl rfl rfl rfl,
    .mt ⟨[(39, .sv (.one (.own 0))), (40, .sv (.one (I x8)))], [rowI 4 boolT l0]⟩ [] none (by kernel_rfl) (by rfl) (mt_val (val_view (T := boolT) (l := l0) (lv := x8) (hv := (l0.length : Int)) ht rfl (by rfl) (by rfl) (by rfl) (by rfl) (by rfl) (by rfl) (by rfl) (by rfl) hp_2)) rfl rfl rfl rfl,
    .mt ⟨[(7, .sv (.one (.own 0)))], []⟩ [] none (by kernel_rfl) (by rfl) (mt_ev ht (by kernel_rfl)) rfl rfl rfl rfl,
    .mt ⟨[(8, .sv (.one (I x8)))], []⟩ [] none (by kernel_rfl) (by rfl) (mt_ev ht (by kernel_rfl)) rfl rfl rfl rfl,
    .mt ⟨[(42, .sv (.one (.own 0))), (43, .sv (.one (I x8)))], [rowI 4 boolT l0]⟩ [] none (by kernel_rfl) (by rfl) (mt_val (val_view (T := boolT) (l := l0) (lv := 0) (hv := x8) ht rfl (by rfl) (by rfl) (by rfl) (by rfl) (by rfl) (by rfl) (by rfl) (by rfl) hp_3)) rfl rfl rfl rfl,
    .me ⟨[(41, .sv (.one (.vw 0 ((x8 : Int).toNat) (((l0.length : Int) : Int).toNat - (x8 : Int).toNat) 1))), (44, .sv (.one (.vw 0 ((0 : Int).toNat) ((x8 : Int).toNat - (0 : Int).toNat) 1)))], [rowI 4 boolT l0]⟩ [(0, rowI 4 boolT (l0.take ((x8 : Int).toNat) ++ ((l0.drop ((0 : Int).toNat)).take ((x8 : Int).toNat - (0 : Int).toNat)).take (min ((l0.drop ((0 : Int).toNat)).take ((x8 : Int).toNat - (0 : Int).toNat)).length (((l0.length : Int) : Int).toNat - (x8 : Int).toNat)) ++ l0.drop (((x8 : Int).toNat) + (min ((l0.drop ((0 : Int).toNat)).take ((x8 : Int).toNat - (0 : Int).toNat)).length (((l0.length : Int) : Int).toNat - (x8 : Int).toNat)))))] (by kernel_rfl) (by rfl) (me_copy (T := boolT) (L := l0) (es := ((l0.drop ((0 : Int).toNat)).take ((x8 : Int).toNat - (0 : Int).toNat))) (i := 0) (lo := ((x8 : Int).toNat)) (m := (((l0.length : Int) : Int).toNat - (x8 : Int).toNat)) rfl (fun _ h => by cases h) ht rfl (by rfl) (by rfl) (by rfl) (by rfl) (by rfl) (dstVw (by rfl)) (srcVw (T := boolT) (l := l0) rfl (fun _ h => by cases h) (by rfl) (by rfl) (view_le hp_3)) (view_le hp_2)) rfl rfl rfl ⟨⟨_, rfl, rfl, rfl, rfl, rfl⟩, trivial⟩,
    .mt ⟨[(38, .sv (.one (I x8))), (45, .sv (.one (I (((min ((l0.drop ((0 : Int).toNat)).take ((x8 : Int).toNat - (0 : Int).toNat)).length (((l0.length : Int) : Int).toNat - (x8 : Int).toNat)) : Nat) : Int))))], []⟩ [] none (by kernel_rfl) (by rfl) (mt_ev ht (by kernel_rfl)) rfl rfl rfl rfl,
    .mt ⟨[(46, .sv (.one (I (wr (x8 + (((min ((l0.drop ((0 : Int).toNat)).take ((x8 : Int).toNat - (0 : Int).toNat)).length (((l0.length : Int) : Int).toNat - (x8 : Int).toNat)) : Nat) : Int))))))], []⟩ [] none (by kernel_rfl) (by rfl) (mt_ev ht (by kernel_rfl)) rfl rfl rfl rfl,
    trivial⟩
          · exact En.at (I := fun zz => Inv zz.1 zz.2 ∧ mu zz.1 zz.2 < mu x8 l0) (T := fun zz => ⟨[(7, .sv (.one (.own 0))), (8, .sv (.one (I zz.1)))], [rowI 4 boolT zz.2]⟩) ((wr (x8 + (((min ((l0.drop ((0 : Int).toNat)).take ((x8 : Int).toNat - (0 : Int).toNat)).length (((l0.length : Int) : Int).toNat - (x8 : Int).toNat)) : Nat) : Int))), (l0.take ((x8 : Int).toNat) ++ ((l0.drop ((0 : Int).toNat)).take ((x8 : Int).toNat - (0 : Int).toNat)).take (min ((l0.drop ((0 : Int).toNat)).take ((x8 : Int).toNat - (0 : Int).toNat)).length (((l0.length : Int) : Int).toNat - (x8 : Int).toNat)) ++ l0.drop (((x8 : Int).toNat) + (min ((l0.drop ((0 : Int).toNat)).take ((x8 : Int).toNat - (0 : Int).toNat)).length (((l0.length : Int) : Int).toNat - (x8 : Int).toNat))))) h (by kernel_rfl)
        · replace h := h.2 hb
          refine En.exit rfl ?_
          refine En.seq ?_
          refine En.region ?_
          refine WL.run ht hn 2 ⟨[(4, .sv (.one (.own 0)))], [rowI 4 boolT l0]⟩ (by kernel_rfl) ?_
          refine WL.nil ?_
          refine En.ret ?_
          exact En.backJ (itf := fun l => rowI 4 boolT l) hmay (by rfl) (by rfl) rfl rfl h
theorem en57 : ∀ args w, (callFunc 57 args).run Try.prog w = .ok (.enter 57 args) w := enters_of Try.func57 (by kernel_rfl) rfl
theorem rep_step {k m : Nat} (b : Bool) (hk : k < m) : (List.replicate k b ++ List.replicate (m - k) false).take k ++ (List.replicate k b).take (min k (m - k)) ++ (List.replicate k b ++ List.replicate (m - k) false).drop (k + min k (m - k)) = List.replicate (k + min k (m - k)) b ++ List.replicate (m - (k + min k (m - k))) false := by
  rw [List.take_left' (by simp), List.take_replicate, List.drop_append, List.drop_eq_nil_of_le (by simp), List.nil_append, List.drop_replicate, List.length_replicate, Nat.min_eq_left (Nat.min_le_left _ _), List.replicate_append_replicate]
  congr 2
  omega
theorem repB_ct (l : List Bool) (n : Int) (hp : l.length = 1 ∧ 0 ≤ n ∧ n < 2147483648) : CtI 57 [.sv (.one (LS boolT l)), .sv (.one (I n))] [] (rowI 4 boolT (List.replicate n.toNat (l.headD false))) := by
  refine (repB_walk l n (fun r => r = List.replicate n.toNat (l.headD false)) ?_).fun
  obtain ⟨h1, h0, h2⟩ := hp
  obtain ⟨b, rfl⟩ : ∃ b, l = [b] := by
    match l, h1 with
    | [b], _ => exact ⟨b, rfl⟩
  unfold repB_vc
  intro _
  obtain ⟨m, rfl⟩ : ∃ m : Nat, n = m := ⟨n.toNat, by omega⟩
  have hw : IntKind.wrap .u64 (((1 : Nat) : Int)) = 1 := rfl
  have hu : IntKind.wrap .u64 (m : Int) = m := wr_u64 h0 (by omega)
  simp only [List.length_cons, List.length_nil, Nat.zero_add, hw, hu, Int.one_mul, wr_in (show -9223372036854775808 ≤ (m : Int) by omega) (show (m : Int) ≤ 9223372036854775807 by omega), List.headD_cons, List.length_replicate, Int.toNat_natCast]
  refine ⟨fun h => absurd (of_decide_eq_true h) (by omega), fun _ => ⟨⟨⟨⟨by omega, by omega⟩, by omega, by omega⟩, by omega⟩, fun h => ?_, fun _ => ⟨⟨by omega, by omega, by omega⟩, ?_⟩⟩⟩
  · simp at h
    omega
  refine ⟨fun x l0 => ∃ k : Nat, x = k ∧ k ≤ m ∧ (0 < k ∨ m = 0) ∧ l0 = List.replicate k b ++ List.replicate (m - k) false, fun x _ => m - x.toNat, ⟨min 1 m, rfl, by omega, by omega, ?_⟩, ?_⟩
  · by_cases hm : m = 0
    · subst hm; rfl
    · rw [Nat.min_eq_left (show 1 ≤ m by omega), List.take_zero, List.nil_append]
      simp
  · rintro x l0 ⟨k, rfl, hk, hk0, rfl⟩
    have hlen : (List.replicate k b ++ List.replicate (m - k) false).length = m := by simp; omega
    refine ⟨fun hb => ?_, fun hb => ?_⟩
    · have hlt : k < m := by have := of_decide_eq_true hb; rw [hlen] at this; omega
      simp only [hlen, Int.toNat_natCast, Int.toNat_zero, Nat.sub_zero, List.drop_zero]
      refine ⟨⟨by omega, by omega, by omega⟩, ⟨by omega, by omega, by omega⟩, ?_⟩
      have ht : (List.replicate k b ++ List.replicate (m - k) false).take k = List.replicate k b := List.take_left' (by simp)
      rw [ht, List.length_replicate]
      have hs := rep_step b hlt
      rw [ht] at hs
      rw [hs]
      refine ⟨⟨k + min k (m - k), ?_, by omega, by omega, rfl⟩, ?_⟩
      · rw [wr_in (by omega) (by omega)]
        omega
      · rw [wr_in (by omega) (by omega)]
        omega
    · have : k = m := by have := of_decide_eq_false hb; rw [hlen] at this; omega
      subst this
      simp
end Go.Proofs.Ytapnmjeadbhffaa

/- Contract of same.Serves; the law SameOrder. No condition. -/
namespace Go.Proofs.Ytapnmjeadbhffaa
open Go.RowKit Go.MapKept
set_option linter.unusedSimpArgs false
set_option linter.unusedVariables false
set_option maxRecDepth 100000

def okT (t : List (List Bool)) (y : Int × Int) : Bool := (t.getD y.1.toNat []).getD y.2.toNat false
def inT (t : List (List Bool)) (y : Int × Int) : Prop := (0 ≤ y.1 ∧ y.1 < t.length) ∧ 0 ≤ y.2 ∧ y.2 < (t.getD y.1.toNat []).length
def samS1_vc (a : Int) (b : Int) (t : (List (List Bool))) (Q : Bool → Prop) : Prop :=
  ∃ e, idx t a = some e ∧
  ∃ e_2, idx e b = some e_2 ∧
  Q e_2
theorem samS1_walk (a : Int) (b : Int) (t : (List (List Bool))) (Q : Bool → Prop) (h : samS1_vc a b t Q) : Ct 59 [.sv (.one (I a)), .sv (.one (I b)), .sv (.one (.ptr 0 0))] [.box [LS (lsT boolT) t] 53 true] Q (fun (r : Bool) => .sv (.one (B r))) := by
  have ht := tab_ok
  refine Ct.body Try.func59 rfl rfl rfl rfl (fun c hn => ?_)
  unfold samS1_vc at h
  refine En.seq ?_
  refine En.region ?_
  refine WL.run ht hn 1 ⟨[(0, .sv (.one (I a))), (1, .sv (.one (I b))), (2, .sv (.one (.ptr 0 0)))], [.box [LS (lsT boolT) t] 53 true]⟩ (by kernel_rfl) ?_
  refine WL.nil ?_
  refine En.seq ?_
  refine En.region ?_
  refine WL.run ht hn 2 ⟨[(1, .sv (.one (I b))), (6, .sv (.one (LS (lsT boolT) t))), (7, .sv (.one (I a)))], [.gone]⟩ (by kernel_rfl) ?_
  obtain ⟨e, he, h⟩ := h
  refine WL.val hn (by rfl) (val_index (T := (lsT boolT)) (l := t) (i := a) ht rfl (by rfl) (by rfl) (by rfl) (by rfl) (by rfl) (by rfl) he) (by rfl) ?_
  refine WL.val hn (by rfl) (val_load (s := .one (LS boolT e)) ht rfl (by rfl) (by rfl) (by rfl) (by rfl) (by rfl)) (by rfl) ?_
  refine WL.run ht hn 1 ⟨[(9, .sv (.one (LS boolT e))), (10, .sv (.one (I b)))], [.gone]⟩ (by kernel_rfl) ?_
  obtain ⟨e_2, he_2, h⟩ := h
  refine WL.val hn (by rfl) (val_index (T := boolT) (l := e) (i := b) ht rfl (by rfl) (by rfl) (by rfl) (by rfl) (by rfl) (by rfl) he_2) (by rfl) ?_
  refine WL.val hn (by rfl) (val_load (s := .one (B e_2)) ht rfl (by rfl) (by rfl) (by rfl) (by rfl) (by rfl)) (by rfl) ?_
  refine WL.run ht hn 1 ⟨[(5, .sv (.one (B e_2)))], [.gone]⟩ (by kernel_rfl) ?_
  refine WL.nil ?_
  refine En.ret ?_
  exact En.back ht e_2 h (by kernel_rfl) rfl
theorem en59 : ∀ args w, (callFunc 59 args).run Try.prog w = .ok (.enter 59 args) w := enters_of Try.func59 (by kernel_rfl) rfl
theorem samS1_ct (a : Int) (b : Int) (t : (List (List Bool))) (hp : inT t (a, b))  : Ct 59 [.sv (.one (I a)), .sv (.one (I b)), .sv (.one (.ptr 0 0))] [.box [LS (lsT boolT) t] 53 true] (fun (_ : Unit) => True) (fun _ => .sv (.one (B (okT t (a, b))))) := by
  refine (samS1_walk a b t (fun res_ => res_ = (okT t (a, b))) ?_).fun
  unfold samS1_vc
  exact ⟨_, idx_of [] hp.1.1 hp.1.2, _, idx_of false hp.2.1 hp.2.2, rfl⟩
def samServes_vc (g : ApiGraph) (Q : ((List (List Bool)) × Int) → Prop) : Prop :=
  g.fArrows.length ≤ 9223372036854775807 →
  (IfP ((samErr g) != 0) (Q ([], (samErr g))) (makeOk g.fPlaces g.fPlaces 24 ∧
  ∃ (Inv : Int → (List (List Bool)) → Prop) (mu : Int → (List (List Bool)) → Nat), Inv 0 (List.replicate (g.fPlaces).toNat ([] : (List Bool))) ∧
  ∀ (x20 : Int) (g1 : (List (List Bool))) , Inv x20 g1 → (IfP (decide (x20 < ((List.replicate (g.fPlaces).toNat ([] : (List Bool))).length : Int))) ((([true] : (List Bool)).length = 1 ∧ 0 ≤ g.fPlaces ∧ g.fPlaces < 2147483648) ∧
  ∃ e, idx g1 x20 = some e ∧
  (Inv (wr (x20 + 1)) (g1.set (x20).toNat ((List.replicate (g.fPlaces).toNat ((([true] : (List Bool))).headD false)))) ∧ mu (wr (x20 + 1)) (g1.set (x20).toNat ((List.replicate (g.fPlaces).toNat ((([true] : (List Bool))).headD false)))) < mu x20 g1)) (∃ (Inv_2 : Bool → (List (List Bool)) → Prop) (mu_2 : Bool → (List (List Bool)) → Nat), Inv_2 true g1 ∧
  ∀ (x7 : Bool) (g1_2 : (List (List Bool))) , Inv_2 x7 g1_2 → (IfP x7 (∃ (Inv_3 : Bool → Int → (List (List Bool)) → Prop) (mu_3 : Bool → Int → (List (List Bool)) → Nat), Inv_3 false 0 g1_2 ∧
  ∀ (x7_2 : Bool) (x34 : Int) (g1_3 : (List (List Bool))) , Inv_3 x7_2 x34 g1_3 → (IfP (decide (x34 < (g1_2.length : Int))) (∃ (Inv_4 : Bool → Int → (List (List Bool)) → Prop) (mu_4 : Bool → Int → (List (List Bool)) → Nat), Inv_4 x7_2 0 g1_3 ∧
  ∀ (x7_3 : Bool) (x39 : Int) (g1_4 : (List (List Bool))) , Inv_4 x7_3 x39 g1_4 → (IfP (decide (x39 < (g1_3.length : Int))) (∃ J : Bool → (List (List Bool)) → Prop, (∃ J_2 : Bool → Prop, (∃ e_2, idx g1_4 x34 = some e_2 ∧
  ∃ e_3, idx e_2 x39 = some e_3 ∧
  IfP e_3 ((ansPre g (inT g1_4)) ∧
  J_2 (!(ansB g x34 x39 (okT g1_4)))) (J_2 false)) ∧
  (∀ (x56 : Bool), J_2 x56 → IfP x56 (∃ e_4, idx g1_4 x34 = some e_4 ∧
  ∃ e_5, idx e_4 x39 = some e_5 ∧
  J true (g1_4.set (x34).toNat (e_4.set (x39).toNat false))) (J x7_3 g1_4))) ∧
  (∀ (x7_4 : Bool) (g1_5 : (List (List Bool))), J x7_4 g1_5 → (Inv_4 x7_4 (wr (x39 + 1)) g1_5 ∧ mu_4 x7_4 (wr (x39 + 1)) g1_5 < mu_4 x7_3 x39 g1_4))) ((Inv_3 x7_3 (wr (x34 + 1)) g1_4 ∧ mu_3 x7_3 (wr (x34 + 1)) g1_4 < mu_3 x7_2 x34 g1_3)))) ((Inv_2 x7_2 g1_3 ∧ mu_2 x7_2 g1_3 < mu_2 x7 g1_2)))) (Q (g1_2, 0)))))))
set_option maxHeartbeats 2000000 in
theorem samServes_walk (g : ApiGraph) (Q : ((List (List Bool)) × Int) → Prop) (h : samServes_vc g Q) : Ct 20 [.sv (.agg [I g.fLetters, I g.fPlaces, LS ApiArrow.ty g.fArrows])] [] Q (fun (r : ((List (List Bool)) × Int)) => .tup [.one (LS (lsT boolT) r.1), .one (I r.2)]) := by
  have ht := tab_ok
  refine Ct.body Try.func20 rfl rfl rfl rfl (fun c hn => ?_)
  unfold samServes_vc at h
  refine En.lenA 0 2 (by rfl) (by rfl) (fun hl => ?_)
  replace h := h hl
  clear hl
  refine En.seq ?_
  refine En.region ?_
  refine WL.run ht hn 3 ⟨[(1, .sv (.one (.ptr 0 0)))], [.box [I g.fLetters, I g.fPlaces, LS ApiArrow.ty g.fArrows] 48 false]⟩ (by kernel_rfl) ?_
  refine WL.nil ?_
  refine En.seq ?_
  refine En.seq ?_
  refine En.region ?_
  refine WL.run ht hn 1 ⟨[(1, .sv (.one (.ptr 0 0))), (10, .sv (.agg [I g.fLetters, I g.fPlaces, LS ApiArrow.ty g.fArrows]))], [.box [I g.fLetters, I g.fPlaces, LS ApiArrow.ty g.fArrows] 48 false]⟩ (by kernel_rfl) ?_
  refine WL.mt0 (K := []) (p := none) hn (by rfl) (mt_call (samCheck_ct g) en55 (caps := []) [] rfl (by rfl) (by kernel_rfl) (by kernel_rfl) (by rfl) (by rfl) (by rfl)) (by rfl) (by rfl) (by rfl) ?_
  refine WL.run ht hn 1 ⟨[(1, .sv (.one (.ptr 0 0))), (4, .sv (.one (I (samErr g))))], [.box [I g.fLetters, I g.fPlaces, LS ApiArrow.ty g.fArrows] 48 false]⟩ (by kernel_rfl) ?_
  refine WL.nil ?_
  refine En.seq ?_
  refine En.region ?_
  refine WL.run ht hn 2 ⟨[(1, .sv (.one (.ptr 0 0))), (4, .sv (.one (I (samErr g)))), (13, .sv (.one (B ((samErr g) != 0))))], [.box [I g.fLetters, I g.fPlaces, LS ApiArrow.ty g.fArrows] 48 false]⟩ (by kernel_rfl) ?_
  refine WL.nil ?_
  refine En.cond (b := ((samErr g) != 0)) (by kernel_rfl) (fun hb => ?_) (fun hb => ?_)
  · replace h := h.1 hb
    refine En.seq ?_
    refine En.region ?_
    refine WL.run ht hn 3 ⟨[(2, .sv (.one (.v (.slice none 0 0)))), (3, .sv (.one (I (samErr g))))], [.gone]⟩ (by kernel_rfl) ?_
    refine WL.nil ?_
    refine En.ret ?_
    refine En.nilLS 2 (lsT boolT) (by rfl) ?_
    exact En.back ht ([], (samErr g)) h (by kernel_rfl) rfl
  · replace h := h.2 hb
    refine En.skip ?_
    refine En.seq ?_
    refine En.region ?_
    refine WL.run ht hn 2 ⟨[(1, .sv (.one (.ptr 0 0))), (16, .sv (.one (I g.fPlaces)))], [.box [I g.fLetters, I g.fPlaces, LS ApiArrow.ty g.fArrows] 48 false]⟩ (by kernel_rfl) ?_
    have hp := h.1
    replace h := h.2
    refine WL.mt0 (K := []) (p := some (1, gridI 56 4 boolT (List.replicate (g.fPlaces).toNat ([] : (List Bool))))) hn (by rfl) (mt_makeG boolT 4 (zv := .slice none 0 0) 1 (l := g.fPlaces) (cp := g.fPlaces) ht rfl (by rfl) (by rfl) (by rfl) (by rfl) (by rfl) (by rfl) hp.1 hp.2.1 hp.2.2 (hp.le (by decide)) rfl rfl) (by rfl) (by rfl) (by rfl) ?_
    refine WL.run ht hn 2 ⟨[(1, .sv (.one (.ptr 0 0))), (5, .sv (.one (.ptr 2 0)))], [.box [I g.fLetters, I g.fPlaces, LS ApiArrow.ty g.fArrows] 48 false, gridI 56 4 boolT (List.replicate (g.fPlaces).toNat ([] : (List Bool))), .box [.gs 1 0] 53 false]⟩ (by kernel_rfl) ?_
    refine WL.nil ?_
    refine En.seq ?_
    refine En.seq ?_
    refine En.region ?_
    refine WL.run ht hn 1 ⟨[(1, .sv (.one (.ptr 0 0))), (5, .sv (.one (.ptr 2 0))), (18, .sv (.one (.gs 1 0)))], [.box [I g.fLetters, I g.fPlaces, LS ApiArrow.ty g.fArrows] 48 false, gridI 56 4 boolT (List.replicate (g.fPlaces).toNat ([] : (List Bool))), .box [.gs 1 0] 53 false]⟩ (by kernel_rfl) ?_
    refine WL.val hn (by rfl) (val_lenG0 (T := boolT) (L := (List.replicate (g.fPlaces).toNat ([] : (List Bool)))) ht rfl (by rfl) (by rfl) (by rfl) (by rfl)) (by rfl) ?_
    refine WL.run ht hn 1 ⟨[(1, .sv (.one (.ptr 0 0))), (5, .sv (.one (.ptr 2 0))), (19, .sv (.one (I ((List.replicate (g.fPlaces).toNat ([] : (List Bool))).length : Int)))), (20, .sv (.one (I 0)))], [.box [I g.fLetters, I g.fPlaces, LS ApiArrow.ty g.fArrows] 48 false, gridI 56 4 boolT (List.replicate (g.fPlaces).toNat ([] : (List Bool))), .box [.gs 1 0] 53 false]⟩ (by kernel_rfl) ?_
    refine WL.nil ?_
    refine En.block ?_
    obtain ⟨Inv, mu, h0_4, hI_4⟩ := h
    refine En.loop (σ := Int × (List (List Bool))) (fun zz => Inv zz.1 zz.2) (fun zz => mu zz.1 zz.2) (fun zz => ⟨[(1, .sv (.one (.ptr 0 0))), (5, .sv (.one (.ptr 2 0))), (19, .sv (.one (I ((List.replicate (g.fPlaces).toNat ([] : (List Bool))).length : Int)))), (20, .sv (.one (I zz.1)))], [.box [I g.fLetters, I g.fPlaces, LS ApiArrow.ty g.fArrows] 48 false, gridI 56 4 boolT zz.2, .box [.gs 1 0] 53 false]⟩) (0, (List.replicate (g.fPlaces).toNat ([] : (List Bool)))) h0_4 (sub_ok (by kernel_rfl)) ?_
    rintro ⟨x20, g1⟩ h
    replace h := hI_4 _ _ h
    show En c ⟨[(1, .sv (.one (.ptr 0 0))), (5, .sv (.one (.ptr 2 0))), (19, .sv (.one (I ((List.replicate (g.fPlaces).toNat ([] : (List Bool))).length : Int)))), (20, .sv (.one (I x20)))], [.box [I g.fLetters, I g.fPlaces, LS ApiArrow.ty g.fArrows] 48 false, gridI 56 4 boolT g1, .box [.gs 1 0] 53 false]⟩ _
    refine En.seq ?_
    refine En.region ?_
    refine WL.run ht hn 1 ⟨[(1, .sv (.one (.ptr 0 0))), (5, .sv (.one (.ptr 2 0))), (19, .sv (.one (I ((List.replicate (g.fPlaces).toNat ([] : (List Bool))).length : Int)))), (20, .sv (.one (I x20))), (21, .sv (.one (B (decide (x20 < ((List.replicate (g.fPlaces).toNat ([] : (List Bool))).length : Int))))))], [.box [I g.fLetters, I g.fPlaces, LS ApiArrow.ty g.fArrows] 48 false, gridI 56 4 boolT g1, .box [.gs 1 0] 53 false]⟩ (by kernel_rfl) ?_
    refine WL.nil ?_
    refine En.seq ?_
    refine En.cond (b := (decide (x20 < ((List.replicate (g.fPlaces).toNat ([] : (List Bool))).length : Int)))) (by kernel_rfl) (fun hb => ?_) (fun hb => ?_)
    · replace h := h.1 hb
      refine En.skip ?_
      refine En.seq ?_
      refine En.block ?_
      refine En.seq ?_
      refine En.region ?_
      refine WL.run ht hn 2 ⟨[(1, .sv (.one (.ptr 0 0))), (5, .sv (.one (.ptr 2 0))), (6, .sv (.one (I x20))), (19, .sv (.one (I ((List.replicate (g.fPlaces).toNat ([] : (List Bool))).length : Int)))), (20, .sv (.one (I x20)))], [.box [I g.fLetters, I g.fPlaces, LS ApiArrow.ty g.fArrows] 48 false, gridI 56 4 boolT g1, .box [.gs 1 0] 53 false]⟩ (by kernel_rfl) ?_
      refine WL.nil ?_
      have hp_2 := h.1
      replace h := h.2
      refine En.regionT ⟨[(1, .sv (.one (.ptr 0 0))), (5, .sv (.one (.ptr 2 0))), (6, .sv (.one (I x20))), (19, .sv (.one (I ((List.replicate (g.fPlaces).toNat ([] : (List Bool))).length : Int)))), (20, .sv (.one (I x20)))], [.sv (.one (.gs 1 0)), .sv (.one (I x20)), .sv (.one (.own 3)), .sv (.one (.ptr 0 1)), .sv (.one (I g.fPlaces)), .sv (.one (.own 4))], [⟨.box [I g.fLetters, I g.fPlaces, LS ApiArrow.ty g.fArrows] 48 false, none, none, none⟩, ⟨gridI 56 4 boolT g1, none, none, none⟩, ⟨.box [.gs 1 0] 53 false, none, none, none⟩, ⟨rowI 4 boolT ([true] : (List Bool)), some 2, none, none⟩, ⟨rowI 4 boolT ((List.replicate (g.fPlaces).toNat ((([true] : (List Bool))).headD false))), some 5, none, none⟩]⟩ 6 ⟨[(1, .sv (.one (.ptr 0 0))), (5, .sv (.one (.ptr 2 0))), (19, .sv (.one (I ((List.replicate (g.fPlaces).toNat ([] : (List Bool))).length : Int)))), (20, .sv (.one (I x20))), (23, .sv (.one (.gs 1 0))), (24, .sv (.one (I x20))), (28, .sv (.one (.own 4)))], [.box [I g.fLetters, I g.fPlaces, LS ApiArrow.ty g.fArrows] 48 false, gridI 56 4 boolT g1, .box [.gs 1 0] 53 false, .gone, rowI 4 boolT ((List.replicate (g.fPlaces).toNat ((([true] : (List Bool))).headD false)))]⟩ (by kernel_rfl) hn (by kernel_rfl) (by kernel_rfl) (by kernel_rfl) (by rfl) (by kernel_rfl) ?_ (by kernel_rfl) ?_
      · exact ⟨.mt ⟨[(5, .sv (.one (.ptr 2 0)))], [.gone, .gone, .box [.gs 1 0] 53 false]⟩ [] none (by kernel_rfl) (by rfl) (mt_ev ht (by kernel_rfl)) rfl rfl rfl rfl,
    .mt ⟨[(6, .sv (.one (I x20)))], []⟩ [] none (by kernel_rfl) (by rfl) (mt_ev ht (by kernel_rfl)) rfl rfl rfl rfl,
    .mt ⟨[], []⟩ [] (some 3) (by kernel_rfl) (by rfl) (mt_lit (T := boolT) ([true] : (List Bool)) (mt_bsl 3 (r := cellsOf boolT ([true] : (List Bool))) ht rfl (by rfl) (by rfl) (by rfl) (by kernel_rfl) (by rfl)) (fun _ h => by cases h) (fun _ => rfl) (fun _ => rfl) (by rfl) (Nat.le_of_ble_eq_true rfl)) rfl rfl rfl rfl,
    .mt ⟨[(1, .sv (.one (.ptr 0 0)))], []⟩ [] none (by kernel_rfl) (by rfl) (mt_ev ht (by kernel_rfl)) rfl rfl rfl rfl,
    .mt ⟨[(26, .sv (.one (.ptr 0 1)))], [.box [I g.fLetters, I g.fPlaces, LS ApiArrow.ty g.fArrows] 48 false]⟩ [] none (by kernel_rfl) (by rfl) (mt_ev ht (by kernel_rfl)) rfl rfl rfl rfl,
    .mt ⟨[(25, .sv (.one (.own 3))), (27, .sv (.one (I g.fPlaces)))], [.gone, .gone, .gone, rowI 4 boolT ([true] : (List Bool))]⟩ [] (some 4) (by kernel_rfl) (by rfl) (mt_lendI (T := boolT) (l := ([true] : (List Bool))) 3 (by rfl) (plain_row fun _ => rfl) (mt_callI 4 (repB_ct ([true] : (List Bool)) g.fPlaces hp_2) en57 (caps := []) [] rfl rfl (by rfl) (by kernel_rfl) (by kernel_rfl) (by rfl) (by rfl))) rfl rfl rfl rfl,
    trivial⟩
      · obtain ⟨e, he, h⟩ := h
        refine WL.val hn (by rfl) (val_indexG0 (T := boolT) (L := g1) (k := x20) ht rfl (by rfl) (by rfl) (by rfl) (by rfl) (by rfl) (by rfl) (by rfl) ⟨(idx_some he).1, (idx_some he).2.1⟩) (by rfl) ?_
        refine WL.putG (T := boolT) (L := g1) (l := ((List.replicate (g.fPlaces).toNat ((([true] : (List Bool))).headD false)))) ht hn (by rfl) rfl (by rfl) (by rfl) (by rfl) (by rfl) (by rfl) (by rfl) (idx_lt he) (by rfl) (by rfl) ?_
        refine WL.sub ⟨[(1, .sv (.one (.ptr 0 0))), (5, .sv (.one (.ptr 2 0))), (19, .sv (.one (I ((List.replicate (g.fPlaces).toNat ([] : (List Bool))).length : Int)))), (20, .sv (.one (I x20))), (23, .sv (.one (.gs 1 0))), (24, .sv (.one (I x20)))], [.box [I g.fLetters, I g.fPlaces, LS ApiArrow.ty g.fArrows] 48 false, gridI 56 4 boolT (g1.set (x20).toNat ((List.replicate (g.fPlaces).toNat ((([true] : (List Bool))).headD false)))), .box [.gs 1 0] 53 false, .gone, .gone]⟩ (by kernel_rfl) ?_
        refine WL.nil ?_
        refine En.region ?_
        refine WL.run ht hn 2 ⟨[(1, .sv (.one (.ptr 0 0))), (5, .sv (.one (.ptr 2 0))), (19, .sv (.one (I ((List.replicate (g.fPlaces).toNat ([] : (List Bool))).length : Int)))), (20, .sv (.one (I (wr (x20 + 1)))))], [.box [I g.fLetters, I g.fPlaces, LS ApiArrow.ty g.fArrows] 48 false, gridI 56 4 boolT (g1.set (x20).toNat ((List.replicate (g.fPlaces).toNat ((([true] : (List Bool))).headD false)))), .box [.gs 1 0] 53 false, .gone, .gone]⟩ (by kernel_rfl) ?_
        refine WL.nil ?_
        exact En.at (I := fun zz => Inv zz.1 zz.2 ∧ mu zz.1 zz.2 < mu x20 g1) (T := fun zz => ⟨[(1, .sv (.one (.ptr 0 0))), (5, .sv (.one (.ptr 2 0))), (19, .sv (.one (I ((List.replicate (g.fPlaces).toNat ([] : (List Bool))).length : Int)))), (20, .sv (.one (I zz.1)))], [.box [I g.fLetters, I g.fPlaces, LS ApiArrow.ty g.fArrows] 48 false, gridI 56 4 boolT zz.2, .box [.gs 1 0] 53 false]⟩) ((wr (x20 + 1)), (g1.set (x20).toNat ((List.replicate (g.fPlaces).toNat ((([true] : (List Bool))).headD false))))) h (by kernel_rfl)
    · replace h := h.2 hb
      refine En.exit rfl ?_
      refine En.seq ?_
      refine En.seq ?_
      refine En.region ?_
      refine WL.run ht hn 1 ⟨[(1, .sv (.one (.ptr 0 0))), (5, .sv (.one (.ptr 2 0))), (7, .sv (.one (B true)))], [.box [I g.fLetters, I g.fPlaces, LS ApiArrow.ty g.fArrows] 48 false, gridI 56 4 boolT g1, .box [.gs 1 0] 53 false]⟩ (by kernel_rfl) ?_
      refine WL.nil ?_
      refine En.block ?_
      obtain ⟨Inv_2, mu_2, h0_3, hI_3⟩ := h
      refine En.loop (σ := Bool × (List (List Bool))) (fun zz => Inv_2 zz.1 zz.2) (fun zz => mu_2 zz.1 zz.2) (fun zz => ⟨[(1, .sv (.one (.ptr 0 0))), (5, .sv (.one (.ptr 2 0))), (7, .sv (.one (B zz.1)))], [.box [I g.fLetters, I g.fPlaces, LS ApiArrow.ty g.fArrows] 48 false, gridI 56 4 boolT zz.2, .box [.gs 1 0] 53 false]⟩) (true, g1) h0_3 (sub_ok (by kernel_rfl)) ?_
      rintro ⟨x7, g1_2⟩ h
      replace h := hI_3 _ _ h
      show En c ⟨[(1, .sv (.one (.ptr 0 0))), (5, .sv (.one (.ptr 2 0))), (7, .sv (.one (B x7)))], [.box [I g.fLetters, I g.fPlaces, LS ApiArrow.ty g.fArrows] 48 false, gridI 56 4 boolT g1_2, .box [.gs 1 0] 53 false]⟩ _
      refine En.seq ?_
      refine En.seq ?_
      refine En.region ?_
      refine WL.run ht hn 1 ⟨[(1, .sv (.one (.ptr 0 0))), (5, .sv (.one (.ptr 2 0))), (31, .sv (.one (B x7)))], [.box [I g.fLetters, I g.fPlaces, LS ApiArrow.ty g.fArrows] 48 false, gridI 56 4 boolT g1_2, .box [.gs 1 0] 53 false]⟩ (by kernel_rfl) ?_
      refine WL.nil ?_
      refine En.cond (b := x7) (by kernel_rfl) (fun hb => ?_) (fun hb => ?_)
      · replace h := h.1 hb
        refine En.skip ?_
        refine En.block ?_
        refine En.seq ?_
        refine En.region ?_
        refine WL.run ht hn 1 ⟨[(1, .sv (.one (.ptr 0 0))), (5, .sv (.one (.ptr 2 0))), (7, .sv (.one (B false)))], [.box [I g.fLetters, I g.fPlaces, LS ApiArrow.ty g.fArrows] 48 false, gridI 56 4 boolT g1_2, .box [.gs 1 0] 53 false]⟩ (by kernel_rfl) ?_
        refine WL.nil ?_
        refine En.seq ?_
        refine En.region ?_
        refine WL.run ht hn 1 ⟨[(1, .sv (.one (.ptr 0 0))), (5, .sv (.one (.ptr 2 0))), (7, .sv (.one (B false))), (32, .sv (.one (.gs 1 0)))], [.box [I g.fLetters, I g.fPlaces, LS ApiArrow.ty g.fArrows] 48 false, gridI 56 4 boolT g1_2, .box [.gs 1 0] 53 false]⟩ (by kernel_rfl) ?_
        refine WL.val hn (by rfl) (val_lenG0 (T := boolT) (L := g1_2) ht rfl (by rfl) (by rfl) (by rfl) (by rfl)) (by rfl) ?_
        refine WL.run ht hn 1 ⟨[(1, .sv (.one (.ptr 0 0))), (5, .sv (.one (.ptr 2 0))), (7, .sv (.one (B false))), (33, .sv (.one (I (g1_2.length : Int)))), (34, .sv (.one (I 0)))], [.box [I g.fLetters, I g.fPlaces, LS ApiArrow.ty g.fArrows] 48 false, gridI 56 4 boolT g1_2, .box [.gs 1 0] 53 false]⟩ (by kernel_rfl) ?_
        refine WL.nil ?_
        refine En.block ?_
        obtain ⟨Inv_3, mu_3, h0_2, hI_2⟩ := h
        refine En.loop (σ := Bool × Int × (List (List Bool))) (fun zz => Inv_3 zz.1 zz.2.1 zz.2.2) (fun zz => mu_3 zz.1 zz.2.1 zz.2.2) (fun zz => ⟨[(1, .sv (.one (.ptr 0 0))), (5, .sv (.one (.ptr 2 0))), (7, .sv (.one (B zz.1))), (33, .sv (.one (I (g1_2.length : Int)))), (34, .sv (.one (I zz.2.1)))], [.box [I g.fLetters, I g.fPlaces, LS ApiArrow.ty g.fArrows] 48 false, gridI 56 4 boolT zz.2.2, .box [.gs 1 0] 53 false]⟩) (false, 0, g1_2) h0_2 (sub_ok (by kernel_rfl)) ?_
        rintro ⟨x7_2, x34, g1_3⟩ h
        replace h := hI_2 _ _ _ h
        show En c ⟨[(1, .sv (.one (.ptr 0 0))), (5, .sv (.one (.ptr 2 0))), (7, .sv (.one (B x7_2))), (33, .sv (.one (I (g1_2.length : Int)))), (34, .sv (.one (I x34)))], [.box [I g.fLetters, I g.fPlaces, LS ApiArrow.ty g.fArrows] 48 false, gridI 56 4 boolT g1_3, .box [.gs 1 0] 53 false]⟩ _
        refine En.seq ?_
        refine En.region ?_
        refine WL.run ht hn 1 ⟨[(1, .sv (.one (.ptr 0 0))), (5, .sv (.one (.ptr 2 0))), (7, .sv (.one (B x7_2))), (33, .sv (.one (I (g1_2.length : Int)))), (34, .sv (.one (I x34))), (35, .sv (.one (B (decide (x34 < (g1_2.length : Int))))))], [.box [I g.fLetters, I g.fPlaces, LS ApiArrow.ty g.fArrows] 48 false, gridI 56 4 boolT g1_3, .box [.gs 1 0] 53 false]⟩ (by kernel_rfl) ?_
        refine WL.nil ?_
        refine En.seq ?_
        refine En.cond (b := (decide (x34 < (g1_2.length : Int)))) (by kernel_rfl) (fun hb => ?_) (fun hb => ?_)
        · replace h := h.1 hb
          refine En.skip ?_
          refine En.seq ?_
          refine En.block ?_
          refine En.seq ?_
          refine En.region ?_
          refine WL.run ht hn 2 ⟨[(1, .sv (.one (.ptr 0 0))), (5, .sv (.one (.ptr 2 0))), (7, .sv (.one (B x7_2))), (8, .sv (.one (I x34))), (33, .sv (.one (I (g1_2.length : Int)))), (34, .sv (.one (I x34)))], [.box [I g.fLetters, I g.fPlaces, LS ApiArrow.ty g.fArrows] 48 false, gridI 56 4 boolT g1_3, .box [.gs 1 0] 53 false]⟩ (by kernel_rfl) ?_
          refine WL.nil ?_
          refine En.seq ?_
          refine En.region ?_
          refine WL.run ht hn 1 ⟨[(1, .sv (.one (.ptr 0 0))), (5, .sv (.one (.ptr 2 0))), (7, .sv (.one (B x7_2))), (8, .sv (.one (I x34))), (33, .sv (.one (I (g1_2.length : Int)))), (34, .sv (.one (I x34))), (37, .sv (.one (.gs 1 0)))], [.box [I g.fLetters, I g.fPlaces, LS ApiArrow.ty g.fArrows] 48 false, gridI 56 4 boolT g1_3, .box [.gs 1 0] 53 false]⟩ (by kernel_rfl) ?_
          refine WL.val hn (by rfl) (val_lenG0 (T := boolT) (L := g1_3) ht rfl (by rfl) (by rfl) (by rfl) (by rfl)) (by rfl) ?_
          refine WL.run ht hn 1 ⟨[(1, .sv (.one (.ptr 0 0))), (5, .sv (.one (.ptr 2 0))), (7, .sv (.one (B x7_2))), (8, .sv (.one (I x34))), (33, .sv (.one (I (g1_2.length : Int)))), (34, .sv (.one (I x34))), (38, .sv (.one (I (g1_3.length : Int)))), (39, .sv (.one (I 0)))], [.box [I g.fLetters, I g.fPlaces, LS ApiArrow.ty g.fArrows] 48 false, gridI 56 4 boolT g1_3, .box [.gs 1 0] 53 false]⟩ (by kernel_rfl) ?_
          refine WL.nil ?_
          refine En.block ?_
          obtain ⟨Inv_4, mu_4, h0, hI⟩ := h
          refine En.loop (σ := Bool × Int × (List (List Bool))) (fun zz => Inv_4 zz.1 zz.2.1 zz.2.2) (fun zz => mu_4 zz.1 zz.2.1 zz.2.2) (fun zz => ⟨[(1, .sv (.one (.ptr 0 0))), (5, .sv (.one (.ptr 2 0))), (7, .sv (.one (B zz.1))), (8, .sv (.one (I x34))), (33, .sv (.one (I (g1_2.length : Int)))), (34, .sv (.one (I x34))), (38, .sv (.one (I (g1_3.length : Int)))), (39, .sv (.one (I zz.2.1)))], [.box [I g.fLetters, I g.fPlaces, LS ApiArrow.ty g.fArrows] 48 false, gridI 56 4 boolT zz.2.2, .box [.gs 1 0] 53 false]⟩) (x7_2, 0, g1_3) h0 (sub_ok (by kernel_rfl)) ?_
          rintro ⟨x7_3, x39, g1_4⟩ h
          replace h := hI _ _ _ h
          show En c ⟨[(1, .sv (.one (.ptr 0 0))), (5, .sv (.one (.ptr 2 0))), (7, .sv (.one (B x7_3))), (8, .sv (.one (I x34))), (33, .sv (.one (I (g1_2.length : Int)))), (34, .sv (.one (I x34))), (38, .sv (.one (I (g1_3.length : Int)))), (39, .sv (.one (I x39)))], [.box [I g.fLetters, I g.fPlaces, LS ApiArrow.ty g.fArrows] 48 false, gridI 56 4 boolT g1_4, .box [.gs 1 0] 53 false]⟩ _
          refine En.seq ?_
          refine En.region ?_
          refine WL.run ht hn 1 ⟨[(1, .sv (.one (.ptr 0 0))), (5, .sv (.one (.ptr 2 0))), (7, .sv (.one (B x7_3))), (8, .sv (.one (I x34))), (33, .sv (.one (I (g1_2.length : Int)))), (34, .sv (.one (I x34))), (38, .sv (.one (I (g1_3.length : Int)))), (39, .sv (.one (I x39))), (40, .sv (.one (B (decide (x39 < (g1_3.length : Int))))))], [.box [I g.fLetters, I g.fPlaces, LS ApiArrow.ty g.fArrows] 48 false, gridI 56 4 boolT g1_4, .box [.gs 1 0] 53 false]⟩ (by kernel_rfl) ?_
          refine WL.nil ?_
          refine En.seq ?_
          refine En.cond (b := (decide (x39 < (g1_3.length : Int)))) (by kernel_rfl) (fun hb => ?_) (fun hb => ?_)
          · replace h := h.1 hb
            refine En.skip ?_
            obtain ⟨J, h, hJ⟩ := h
            refine En.seqJ (σ := Bool × (List (List Bool))) (fun zz => J zz.1 zz.2) (fun zz => ⟨[(1, .sv (.one (.ptr 0 0))), (5, .sv (.one (.ptr 2 0))), (7, .sv (.one (B zz.1))), (8, .sv (.one (I x34))), (33, .sv (.one (I (g1_2.length : Int)))), (34, .sv (.one (I x34))), (38, .sv (.one (I (g1_3.length : Int)))), (39, .sv (.one (I x39)))], [.box [I g.fLetters, I g.fPlaces, LS ApiArrow.ty g.fArrows] 48 false, gridI 56 4 boolT zz.2, .box [.gs 1 0] 53 false]⟩) ?_ ?_
            · refine En.block ?_
              refine En.seq ?_
              refine En.region ?_
              refine WL.run ht hn 2 ⟨[(1, .sv (.one (.ptr 0 0))), (5, .sv (.one (.ptr 2 0))), (7, .sv (.one (B x7_3))), (8, .sv (.one (I x34))), (9, .sv (.one (I x39))), (33, .sv (.one (I (g1_2.length : Int)))), (34, .sv (.one (I x34))), (38, .sv (.one (I (g1_3.length : Int)))), (39, .sv (.one (I x39)))], [.box [I g.fLetters, I g.fPlaces, LS ApiArrow.ty g.fArrows] 48 false, gridI 56 4 boolT g1_4, .box [.gs 1 0] 53 false]⟩ (by kernel_rfl) ?_
              refine WL.nil ?_
              obtain ⟨J_2, h, hJ_2⟩ := h
              refine En.seqJ (σ := Bool) (fun zz => J_2 zz) (fun zz => ⟨[(1, .sv (.one (.ptr 0 0))), (5, .sv (.one (.ptr 2 0))), (7, .sv (.one (B x7_3))), (8, .sv (.one (I x34))), (9, .sv (.one (I x39))), (33, .sv (.one (I (g1_2.length : Int)))), (34, .sv (.one (I x34))), (38, .sv (.one (I (g1_3.length : Int)))), (39, .sv (.one (I x39))), (56, .sv (.one (B zz)))], [.box [I g.fLetters, I g.fPlaces, LS ApiArrow.ty g.fArrows] 48 false, gridI 56 4 boolT g1_4, .box [.gs 1 0] 53 false]⟩) ?_ ?_
              · refine En.region ?_
                refine WL.run ht hn 2 ⟨[(1, .sv (.one (.ptr 0 0))), (5, .sv (.one (.ptr 2 0))), (7, .sv (.one (B x7_3))), (8, .sv (.one (I x34))), (9, .sv (.one (I x39))), (33, .sv (.one (I (g1_2.length : Int)))), (34, .sv (.one (I x34))), (38, .sv (.one (I (g1_3.length : Int)))), (39, .sv (.one (I x39))), (42, .sv (.one (.gs 1 0))), (43, .sv (.one (I x34)))], [.box [I g.fLetters, I g.fPlaces, LS ApiArrow.ty g.fArrows] 48 false, gridI 56 4 boolT g1_4, .box [.gs 1 0] 53 false]⟩ (by kernel_rfl) ?_
                obtain ⟨e_2, he_2, h⟩ := h
                refine WL.val hn (by rfl) (val_indexG0 (T := boolT) (L := g1_4) (k := x34) ht rfl (by rfl) (by rfl) (by rfl) (by rfl) (by rfl) (by rfl) (by rfl) ⟨(idx_some he_2).1, (idx_some he_2).2.1⟩) (by rfl) ?_
                refine WL.val hn (by rfl) (val_loadG0 (T := boolT) (L := g1_4) ht rfl (by rfl) (by rfl) (by rfl) (by rfl) (idx_lt he_2)) (by rfl) ?_
                refine WL.run ht hn 1 ⟨[(1, .sv (.one (.ptr 0 0))), (5, .sv (.one (.ptr 2 0))), (7, .sv (.one (B x7_3))), (8, .sv (.one (I x34))), (9, .sv (.one (I x39))), (33, .sv (.one (I (g1_2.length : Int)))), (34, .sv (.one (I x34))), (38, .sv (.one (I (g1_3.length : Int)))), (39, .sv (.one (I x39))), (45, .sv (.one (.gs 1 ((x34).toNat + 1)))), (46, .sv (.one (I x39)))], [.box [I g.fLetters, I g.fPlaces, LS ApiArrow.ty g.fArrows] 48 false, gridI 56 4 boolT g1_4, .box [.gs 1 0] 53 false]⟩ (by kernel_rfl) ?_
                obtain ⟨e_3, he_3, h⟩ := h
                refine WL.val hn (by rfl) (val_indexG (T := boolT) (L := g1_4) (l := e_2) (k := x39) ht rfl (by rfl) (by rfl) (by rfl) (by rfl) (by decide) (by rfl) (by rfl) (idx_some he_2).2.2 (by rfl) ⟨(idx_some he_3).1, (idx_some he_3).2.1⟩) (by rfl) ?_
                refine WL.val hn (by rfl) (val_loadG (T := boolT) (L := g1_4) (l := e_2) (y := e_3) ht rfl (by rfl) (by rfl) (by rfl) (by rfl) (by rfl) (idx_some he_2).2.2 (idx_some he_3).2.2 (by rfl)) (by rfl) ?_
                refine WL.run ht hn 1 ⟨[(1, .sv (.one (.ptr 0 0))), (5, .sv (.one (.ptr 2 0))), (7, .sv (.one (B x7_3))), (8, .sv (.one (I x34))), (9, .sv (.one (I x39))), (33, .sv (.one (I (g1_2.length : Int)))), (34, .sv (.one (I x34))), (38, .sv (.one (I (g1_3.length : Int)))), (39, .sv (.one (I x39))), (49, .sv (.one (B e_3)))], [.box [I g.fLetters, I g.fPlaces, LS ApiArrow.ty g.fArrows] 48 false, gridI 56 4 boolT g1_4, .box [.gs 1 0] 53 false]⟩ (by kernel_rfl) ?_
                refine splitB e_3 (fun hb => ?_) (fun hb => ?_)
                · replace h := h.1 hb
                  refine WL.setB 49 hb (by kernel_rfl) ?_
                  refine WL.run ht hn 4 ⟨[(1, .sv (.one (.ptr 0 0))), (5, .sv (.one (.ptr 2 0))), (7, .sv (.one (B x7_3))), (8, .sv (.one (I x34))), (9, .sv (.one (I x39))), (33, .sv (.one (I (g1_2.length : Int)))), (34, .sv (.one (I x34))), (38, .sv (.one (I (g1_3.length : Int)))), (39, .sv (.one (I x39))), (49, .sv (.one (B true))), (50, .sv (.agg [I g.fLetters, I g.fPlaces, LS ApiArrow.ty g.fArrows])), (51, .sv (.one (I x34))), (52, .sv (.one (I x39))), (53, .sv (.one (.fn 59 [2])))], [.box [I g.fLetters, I g.fPlaces, LS ApiArrow.ty g.fArrows] 48 false, gridI 56 4 boolT g1_4, .box [.gs 1 0] 53 false]⟩ (by kernel_rfl) ?_
                  have hp := h.1
                  replace h := h.2
                  refine WL.mt0 (K := []) (p := none) hn (by rfl) (mt_lendG (T := boolT) (L := g1_4) 1 (by rfl) (by rfl) (mt_lendF [2] (by rfl) (by rfl) (mt_ghost 53 (.sv (.one (.rd (fvR (fun (x_ : (Int × Int)) => [.sv (.one (I x_.1)), .sv (.one (I x_.2))]) (fun (r : Bool) => .sv (.one (B r))) (inT g1_4) (okT g1_4))))) (by rfl) (fv_of (M := [.box [LS (lsT boolT) g1_4] 53 true]) (caps := [2]) (fun x_ hx => samS1_ct x_.1 x_.2 g1_4 hx) en59 rfl (by kernel_rfl) (by rfl) (fun _ => rfl)) (mt_call (samAns_ct g x34 x39 (inT g1_4) (okT g1_4) hp) en58 (caps := []) [] rfl (by rfl) (by kernel_rfl) (by kernel_rfl) (by rfl) (by rfl) (by rfl))))) (by rfl) (by rfl) (by rfl) ?_
                  refine WL.run ht hn 2 ⟨[(1, .sv (.one (.ptr 0 0))), (5, .sv (.one (.ptr 2 0))), (7, .sv (.one (B x7_3))), (8, .sv (.one (I x34))), (9, .sv (.one (I x39))), (33, .sv (.one (I (g1_2.length : Int)))), (34, .sv (.one (I x34))), (38, .sv (.one (I (g1_3.length : Int)))), (39, .sv (.one (I x39))), (56, .sv (.one (B (!(ansB g x34 x39 (okT g1_4))))))], [.box [I g.fLetters, I g.fPlaces, LS ApiArrow.ty g.fArrows] 48 false, gridI 56 4 boolT g1_4, .box [.gs 1 0] 53 false]⟩ (by kernel_rfl) ?_
                  refine WL.nil ?_
                  exact En.at (I := fun zz => J_2 zz) (T := fun zz => ⟨[(1, .sv (.one (.ptr 0 0))), (5, .sv (.one (.ptr 2 0))), (7, .sv (.one (B x7_3))), (8, .sv (.one (I x34))), (9, .sv (.one (I x39))), (33, .sv (.one (I (g1_2.length : Int)))), (34, .sv (.one (I x34))), (38, .sv (.one (I (g1_3.length : Int)))), (39, .sv (.one (I x39))), (56, .sv (.one (B zz)))], [.box [I g.fLetters, I g.fPlaces, LS ApiArrow.ty g.fArrows] 48 false, gridI 56 4 boolT g1_4, .box [.gs 1 0] 53 false]⟩) (!(ansB g x34 x39 (okT g1_4))) h (by kernel_rfl)
                · replace h := h.2 hb
                  refine WL.setB 49 hb (by kernel_rfl) ?_
                  refine WL.run ht hn 7 ⟨[(1, .sv (.one (.ptr 0 0))), (5, .sv (.one (.ptr 2 0))), (7, .sv (.one (B x7_3))), (8, .sv (.one (I x34))), (9, .sv (.one (I x39))), (33, .sv (.one (I (g1_2.length : Int)))), (34, .sv (.one (I x34))), (38, .sv (.one (I (g1_3.length : Int)))), (39, .sv (.one (I x39))), (56, .sv (.one (B false)))], [.box [I g.fLetters, I g.fPlaces, LS ApiArrow.ty g.fArrows] 48 false, gridI 56 4 boolT g1_4, .box [.gs 1 0] 53 false]⟩ (by kernel_rfl) ?_
                  refine WL.nil ?_
                  exact En.at (I := fun zz => J_2 zz) (T := fun zz => ⟨[(1, .sv (.one (.ptr 0 0))), (5, .sv (.one (.ptr 2 0))), (7, .sv (.one (B x7_3))), (8, .sv (.one (I x34))), (9, .sv (.one (I x39))), (33, .sv (.one (I (g1_2.length : Int)))), (34, .sv (.one (I x34))), (38, .sv (.one (I (g1_3.length : Int)))), (39, .sv (.one (I x39))), (56, .sv (.one (B zz)))], [.box [I g.fLetters, I g.fPlaces, LS ApiArrow.ty g.fArrows] 48 false, gridI 56 4 boolT g1_4, .box [.gs 1 0] 53 false]⟩) false h (by kernel_rfl)
              · intro x56 h
                replace h := hJ_2 _ h
                show En c ⟨[(1, .sv (.one (.ptr 0 0))), (5, .sv (.one (.ptr 2 0))), (7, .sv (.one (B x7_3))), (8, .sv (.one (I x34))), (9, .sv (.one (I x39))), (33, .sv (.one (I (g1_2.length : Int)))), (34, .sv (.one (I x34))), (38, .sv (.one (I (g1_3.length : Int)))), (39, .sv (.one (I x39))), (56, .sv (.one (B x56)))], [.box [I g.fLetters, I g.fPlaces, LS ApiArrow.ty g.fArrows] 48 false, gridI 56 4 boolT g1_4, .box [.gs 1 0] 53 false]⟩ _
                refine En.cond (b := x56) (by kernel_rfl) (fun hb => ?_) (fun hb => ?_)
                · replace h := h.1 hb
                  refine En.region ?_
                  refine WL.run ht hn 2 ⟨[(1, .sv (.one (.ptr 0 0))), (5, .sv (.one (.ptr 2 0))), (8, .sv (.one (I x34))), (9, .sv (.one (I x39))), (33, .sv (.one (I (g1_2.length : Int)))), (34, .sv (.one (I x34))), (38, .sv (.one (I (g1_3.length : Int)))), (39, .sv (.one (I x39))), (57, .sv (.one (.gs 1 0))), (58, .sv (.one (I x34)))], [.box [I g.fLetters, I g.fPlaces, LS ApiArrow.ty g.fArrows] 48 false, gridI 56 4 boolT g1_4, .box [.gs 1 0] 53 false]⟩ (by kernel_rfl) ?_
                  obtain ⟨e_4, he_4, h⟩ := h
                  refine WL.val hn (by rfl) (val_indexG0 (T := boolT) (L := g1_4) (k := x34) ht rfl (by rfl) (by rfl) (by rfl) (by rfl) (by rfl) (by rfl) (by rfl) ⟨(idx_some he_4).1, (idx_some he_4).2.1⟩) (by rfl) ?_
                  refine WL.val hn (by rfl) (val_loadG0 (T := boolT) (L := g1_4) ht rfl (by rfl) (by rfl) (by rfl) (by rfl) (idx_lt he_4)) (by rfl) ?_
                  refine WL.run ht hn 1 ⟨[(1, .sv (.one (.ptr 0 0))), (5, .sv (.one (.ptr 2 0))), (8, .sv (.one (I x34))), (33, .sv (.one (I (g1_2.length : Int)))), (34, .sv (.one (I x34))), (38, .sv (.one (I (g1_3.length : Int)))), (39, .sv (.one (I x39))), (60, .sv (.one (.gs 1 ((x34).toNat + 1)))), (61, .sv (.one (I x39)))], [.box [I g.fLetters, I g.fPlaces, LS ApiArrow.ty g.fArrows] 48 false, gridI 56 4 boolT g1_4, .box [.gs 1 0] 53 false]⟩ (by kernel_rfl) ?_
                  obtain ⟨e_5, he_5, h⟩ := h
                  refine WL.val hn (by rfl) (val_indexG (T := boolT) (L := g1_4) (l := e_4) (k := x39) ht rfl (by rfl) (by rfl) (by rfl) (by rfl) (by decide) (by rfl) (by rfl) (idx_some he_4).2.2 (by rfl) ⟨(idx_some he_5).1, (idx_some he_5).2.1⟩) (by rfl) ?_
                  refine WL.storeG (T := boolT) (L := g1_4) (l := e_4) (y := false) ht hn (by rfl) rfl (by rfl) (by rfl) (fun _ h => by cases h) (by rfl) (by rfl) (idx_some he_4).2.2 (idx_lt he_5) (by rfl) (by rfl) (by rfl) (by rfl) ?_
                  refine WL.run ht hn 1 ⟨[(1, .sv (.one (.ptr 0 0))), (5, .sv (.one (.ptr 2 0))), (7, .sv (.one (B true))), (8, .sv (.one (I x34))), (33, .sv (.one (I (g1_2.length : Int)))), (34, .sv (.one (I x34))), (38, .sv (.one (I (g1_3.length : Int)))), (39, .sv (.one (I x39)))], [.box [I g.fLetters, I g.fPlaces, LS ApiArrow.ty g.fArrows] 48 false, gridI 56 4 boolT (g1_4.set (x34).toNat (e_4.set (x39).toNat false)), .box [.gs 1 0] 53 false]⟩ (by kernel_rfl) ?_
                  refine WL.nil ?_
                  exact En.at (I := fun zz => J zz.1 zz.2) (T := fun zz => ⟨[(1, .sv (.one (.ptr 0 0))), (5, .sv (.one (.ptr 2 0))), (7, .sv (.one (B zz.1))), (8, .sv (.one (I x34))), (33, .sv (.one (I (g1_2.length : Int)))), (34, .sv (.one (I x34))), (38, .sv (.one (I (g1_3.length : Int)))), (39, .sv (.one (I x39)))], [.box [I g.fLetters, I g.fPlaces, LS ApiArrow.ty g.fArrows] 48 false, gridI 56 4 boolT zz.2, .box [.gs 1 0] 53 false]⟩) (true, (g1_4.set (x34).toNat (e_4.set (x39).toNat false))) h (by kernel_rfl)
                · replace h := h.2 hb
                  refine En.skip ?_
                  exact En.at (I := fun zz => J zz.1 zz.2) (T := fun zz => ⟨[(1, .sv (.one (.ptr 0 0))), (5, .sv (.one (.ptr 2 0))), (7, .sv (.one (B zz.1))), (8, .sv (.one (I x34))), (33, .sv (.one (I (g1_2.length : Int)))), (34, .sv (.one (I x34))), (38, .sv (.one (I (g1_3.length : Int)))), (39, .sv (.one (I x39)))], [.box [I g.fLetters, I g.fPlaces, LS ApiArrow.ty g.fArrows] 48 false, gridI 56 4 boolT zz.2, .box [.gs 1 0] 53 false]⟩) (x7_3, g1_4) h (by kernel_rfl)
            · rintro ⟨x7_4, g1_5⟩ h
              replace h := hJ _ _ h
              show En c ⟨[(1, .sv (.one (.ptr 0 0))), (5, .sv (.one (.ptr 2 0))), (7, .sv (.one (B x7_4))), (8, .sv (.one (I x34))), (33, .sv (.one (I (g1_2.length : Int)))), (34, .sv (.one (I x34))), (38, .sv (.one (I (g1_3.length : Int)))), (39, .sv (.one (I x39)))], [.box [I g.fLetters, I g.fPlaces, LS ApiArrow.ty g.fArrows] 48 false, gridI 56 4 boolT g1_5, .box [.gs 1 0] 53 false]⟩ _
              refine En.region ?_
              refine WL.run ht hn 2 ⟨[(1, .sv (.one (.ptr 0 0))), (5, .sv (.one (.ptr 2 0))), (7, .sv (.one (B x7_4))), (8, .sv (.one (I x34))), (33, .sv (.one (I (g1_2.length : Int)))), (34, .sv (.one (I x34))), (38, .sv (.one (I (g1_3.length : Int)))), (39, .sv (.one (I (wr (x39 + 1)))))], [.box [I g.fLetters, I g.fPlaces, LS ApiArrow.ty g.fArrows] 48 false, gridI 56 4 boolT g1_5, .box [.gs 1 0] 53 false]⟩ (by kernel_rfl) ?_
              refine WL.nil ?_
              exact En.at (I := fun zz => Inv_4 zz.1 zz.2.1 zz.2.2 ∧ mu_4 zz.1 zz.2.1 zz.2.2 < mu_4 x7_3 x39 g1_4) (T := fun zz => ⟨[(1, .sv (.one (.ptr 0 0))), (5, .sv (.one (.ptr 2 0))), (7, .sv (.one (B zz.1))), (8, .sv (.one (I x34))), (33, .sv (.one (I (g1_2.length : Int)))), (34, .sv (.one (I x34))), (38, .sv (.one (I (g1_3.length : Int)))), (39, .sv (.one (I zz.2.1)))], [.box [I g.fLetters, I g.fPlaces, LS ApiArrow.ty g.fArrows] 48 false, gridI 56 4 boolT zz.2.2, .box [.gs 1 0] 53 false]⟩) (x7_4, (wr (x39 + 1)), g1_5) h (by kernel_rfl)
          · replace h := h.2 hb
            refine En.exit rfl ?_
            refine En.region ?_
            refine WL.run ht hn 2 ⟨[(1, .sv (.one (.ptr 0 0))), (5, .sv (.one (.ptr 2 0))), (7, .sv (.one (B x7_3))), (33, .sv (.one (I (g1_2.length : Int)))), (34, .sv (.one (I (wr (x34 + 1)))))], [.box [I g.fLetters, I g.fPlaces, LS ApiArrow.ty g.fArrows] 48 false, gridI 56 4 boolT g1_4, .box [.gs 1 0] 53 false]⟩ (by kernel_rfl) ?_
            refine WL.nil ?_
            exact En.at (I := fun zz => Inv_3 zz.1 zz.2.1 zz.2.2 ∧ mu_3 zz.1 zz.2.1 zz.2.2 < mu_3 x7_2 x34 g1_3) (T := fun zz => ⟨[(1, .sv (.one (.ptr 0 0))), (5, .sv (.one (.ptr 2 0))), (7, .sv (.one (B zz.1))), (33, .sv (.one (I (g1_2.length : Int)))), (34, .sv (.one (I zz.2.1)))], [.box [I g.fLetters, I g.fPlaces, LS ApiArrow.ty g.fArrows] 48 false, gridI 56 4 boolT zz.2.2, .box [.gs 1 0] 53 false]⟩) (x7_3, (wr (x34 + 1)), g1_4) h (by kernel_rfl)
        · replace h := h.2 hb
          refine En.exit rfl ?_
          exact En.at (I := fun zz => Inv_2 zz.1 zz.2 ∧ mu_2 zz.1 zz.2 < mu_2 x7 g1_2) (T := fun zz => ⟨[(1, .sv (.one (.ptr 0 0))), (5, .sv (.one (.ptr 2 0))), (7, .sv (.one (B zz.1)))], [.box [I g.fLetters, I g.fPlaces, LS ApiArrow.ty g.fArrows] 48 false, gridI 56 4 boolT zz.2, .box [.gs 1 0] 53 false]⟩) (x7_2, g1_3) h (by kernel_rfl)
      · replace h := h.2 hb
        refine En.exit rfl ?_
        refine En.seq ?_
        refine En.region ?_
        refine WL.run ht hn 3 ⟨[(2, .sv (.one (.gs 1 0))), (3, .sv (.one (I 0)))], [.gone, gridI 56 4 boolT g1_2, .gone]⟩ (by kernel_rfl) ?_
        refine WL.nil ?_
        refine En.ret ?_
        refine En.sealG (T := boolT) (L' := g1_2) 1 (by rfl) ?_
        exact En.back ht (g1_2, 0) h (by kernel_rfl) rfl
theorem en20 : ∀ args w, (callFunc 20 args).run Try.prog w = .ok (.enter 20 args) w := enters_of Try.func20 (by kernel_rfl) rfl
def atT (t : List (List Bool)) (p q : Nat) : Bool := (t.getD p []).getD q false
structure TabN (n : Nat) (t : List (List Bool)) : Prop where
  len : t.length = n
  row : ∀ p, p < n → (t.getD p []).length = n
def setT (t : List (List Bool)) (p q : Nat) : List (List Bool) := t.set p ((t.getD p []).set q false)
theorem getD_setE {α : Type} (l : List α) (p q : Nat) (y z : α) : (l.set p y).getD q z = if p = q ∧ p < l.length then y else l.getD q z := by
  rw [List.getD_eq_getElem?_getD, List.getElem?_set, List.getD_eq_getElem?_getD]
  by_cases e : p = q
  · subst e
    by_cases h : p < l.length
    · simp [h]
    · simp [h]
  · simp [e]
theorem atT_keep {t : List (List Bool)} {p q p' q' : Nat} (hn : ¬ (p' = p ∧ q' = q)) (h : atT t p' q' = true) : atT (setT t p q) p' q' = true := by
  unfold atT setT at *
  rw [getD_setE]
  split
  · rename_i hc
    obtain ⟨rfl, _⟩ := hc
    rw [getD_setE]
    split
    · rename_i hq
      exact absurd ⟨rfl, hq.1.symm⟩ hn
    · exact h
  · exact h
theorem TabN.set {n : Nat} {t : List (List Bool)} (h : TabN n t) (p q : Nat) : TabN n (setT t p q) := by
  refine ⟨by unfold setT; rw [List.length_set]; exact h.len, fun p' hp' => ?_⟩
  unfold setT
  rw [getD_setE]
  split
  · rename_i hc
    obtain ⟨rfl, _⟩ := hc
    rw [List.length_set]
    exact h.row p hp'
  · exact h.row p' hp'
def cntT (t : List (List Bool)) : Nat := (t.map (·.count true)).sum
theorem count_unset : ∀ (r : List Bool) (q : Nat), r.getD q false = true → (r.set q false).count true + 1 = r.count true
  | [], q, h => by simp at h
  | b :: r, 0, h => by
    have h : b = true := by simpa using h
    subst h
    simp
  | b :: r, q + 1, h => by
    have := count_unset r q (by simpa using h)
    simp only [List.set_cons_succ, List.count_cons]
    omega
theorem sum_unset : ∀ (t : List (List Bool)) (p : Nat) (r : List Bool), p < t.length → r.count true + 1 = (t.getD p []).count true → cntT (t.set p r) + 1 = cntT t
  | [], p, r, h, _ => by simp at h
  | a :: t, 0, r, _, h => by
    have h : r.count true + 1 = a.count true := by simpa using h
    simp only [cntT, List.set_cons_zero, List.map_cons, List.sum_cons]
    omega
  | a :: t, p + 1, r, hp, h => by
    have := sum_unset t p r (by simpa using hp) (by simpa using h)
    simp only [cntT, List.set_cons_succ, List.map_cons, List.sum_cons] at this ⊢
    omega
theorem cntT_set {t : List (List Bool)} {p q : Nat} (hp : p < t.length) (h : atT t p q = true) : cntT (setT t p q) + 1 = cntT t := sum_unset t p _ hp (count_unset _ _ h)
/-- who answers all that another one does -/
def SimR (g : ApiGraph) (n : Nat) (R : Nat → Nat → Prop) : Prop := ∀ p q, p < n → q < n → R p q → ∀ x ∈ g.fArrows, x.fFrom = (p : Int) → ∃ y ∈ g.fArrows, y.fFrom = (q : Int) ∧ y.fLetter = x.fLetter ∧ R x.fTo.toNat y.fTo.toNat
structure SvB (g : ApiGraph) (n : Nat) (t : List (List Bool)) : Prop where
  tab : TabN n t
  great : ∀ R, SimR g n R → ∀ p q, p < n → q < n → R p q → atT t p q = true
theorem SvB.set {g : ApiGraph} {n : Nat} {t : List (List Bool)} (hg : GraphOk g) (hn : g.fPlaces = n) (h : SvB g n t) {p q : Nat} (hp : p < n) (hq : q < n) (ha : ansB g p q (okT t) = false) : SvB g n (setT t p q) := by
  refine ⟨h.tab.set p q, fun R hR p' q' hp' hq' hr => ?_⟩
  refine atT_keep (fun e => ?_) (h.great R hR p' q' hp' hq' hr)
  obtain ⟨rfl, rfl⟩ := e
  have : ansB g (p' : Int) (q' : Int) (okT t) = true := ansB_iff.2 fun x hx e => by
    obtain ⟨y, hy, h1, h2, h3⟩ := hR p' q' hp' hq' hr x hx e
    refine ⟨y, hy, h1, h2, ?_⟩
    have ax := hg.arr x hx
    have ay := hg.arr y hy
    exact h.great R hR _ _ (by omega) (by omega) h3
  rw [this] at ha
  cases ha
def ServesQ (g : ApiGraph) (r : List (List Bool) × Int) : Prop := r.2 = samErr g ∧ (samErr g = 0 → SvB g g.fPlaces.toNat r.1 ∧ ∀ p q, p < g.fPlaces.toNat → q < g.fPlaces.toNat → atT r.1 p q = true → ansB g p q (okT r.1) = true)
theorem inT_of {g : ApiGraph} {n : Nat} {t : List (List Bool)} (hg : GraphOk g) (hn : g.fPlaces = n) (h : TabN n t) : ansPre g (inT t) := fun x hx y hy => by
  have ax := hg.arr x hx
  have ay := hg.arr y hy
  have h1 := h.len
  have h2 := h.row x.fTo.toNat (by omega)
  exact ⟨⟨by simp only; omega, by simp only; omega⟩, by simp only; omega, by simp only; omega⟩
theorem samServes_ok (g : ApiGraph) : samServes_vc g (ServesQ g) := by
  unfold samServes_vc
  intro _
  refine ⟨fun h => ⟨rfl, fun e => by rw [e] at h; cases h⟩, fun h => ?_⟩
  have h0 : samErr g = 0 := by simpa using h
  have hg := samErr_ok h0
  have hpl := hg.pl
  obtain ⟨n, hn⟩ : ∃ n : Nat, g.fPlaces = n := ⟨g.fPlaces.toNat, by omega⟩
  have hnn : g.fPlaces.toNat = n := by omega
  refine ⟨⟨by omega, by omega, by omega⟩, fun i t => ∃ k : Nat, i = k ∧ k ≤ n ∧ t.length = n ∧ ∀ p, p < k → t.getD p [] = List.replicate n true, fun i _ => n - i.toNat, ⟨0, rfl, Nat.zero_le _, by rw [List.length_replicate]; exact hnn, fun p hp => absurd hp (Nat.not_lt_zero _)⟩, ?_⟩
  rintro i t ⟨k, rfl, hk, htl, htr⟩
  rw [List.length_replicate, hnn]
  refine ⟨fun hb => ?_, fun hb => ?_⟩
  · have hlt := dlt hb
    refine ⟨⟨rfl, by omega, by omega⟩, _, idx_getS [] (by omega), ⟨k + 1, wsucc (by omega), hlt, by rw [List.length_set]; exact htl, fun p hp => ?_⟩, mu_up hlt (by omega)⟩
    rw [getD_setE, Int.toNat_natCast]
    split
    · rfl
    · rename_i hc
      exact htr p (by omega)
  · have hke : k = n := by have := dge hb; omega
    subst hke
    have hB0 : SvB g k t := by
      refine ⟨⟨htl, fun p hp => by rw [htr p hp, List.length_replicate]⟩, fun R hR p q hp hq _ => ?_⟩
      unfold atT
      rw [htr p hp]
      simp [List.getD_eq_getElem?_getD, List.getElem?_replicate, hq]
    clear htr htl hb
    refine ⟨fun b t => SvB g k t ∧ (b = false → ∀ p q, p < k → q < k → atT t p q = true → ansB g p q (okT t) = true), fun b t => cntT t + (if b then 1 else 0), ⟨hB0, fun e => by cases e⟩, ?_⟩
    rintro b t0 ⟨hB, hC⟩
    refine ⟨fun hb => ?_, fun hb => ⟨h0.symm, fun _ => by rw [hnn]; exact ⟨hB, hC hb⟩⟩⟩
    subst hb
    have hl0 := hB.tab.len
    refine ⟨fun b i t => ∃ p : Nat, i = p ∧ p ≤ k ∧ SvB g k t ∧ (b = true → cntT t < cntT t0) ∧ (b = false → t = t0 ∧ ∀ p' q, p' < p → q < k → atT t p' q = true → ansB g p' q (okT t) = true), fun _ i _ => k - i.toNat, ⟨0, rfl, Nat.zero_le _, hB, (fun e => by cases e), fun _ => ⟨rfl, fun p' q h => absurd h (Nat.not_lt_zero _)⟩⟩, ?_⟩
    rintro b1 i t1 ⟨p, rfl, hp, hB1, hc1, hd1⟩
    rw [hl0]
    refine ⟨fun hb => ?_, fun hb => ?_⟩
    · have hlt := dlt hb
      have hl1 := hB1.tab.len
      refine ⟨fun b i t => ∃ q : Nat, i = q ∧ q ≤ k ∧ SvB g k t ∧ (b = true → cntT t < cntT t0) ∧ (b = false → t = t0 ∧ (∀ p' q, p' < p → q < k → atT t p' q = true → ansB g p' q (okT t) = true) ∧ ∀ q', q' < q → atT t p q' = true → ansB g p q' (okT t) = true), fun _ i _ => k - i.toNat, ⟨0, rfl, Nat.zero_le _, hB1, hc1, fun e => ⟨(hd1 e).1, (hd1 e).2, fun q h => absurd h (Nat.not_lt_zero _)⟩⟩, ?_⟩
      rintro b2 j t2 ⟨q, rfl, hq, hB2, hc2, hd2⟩
      rw [hl1]
      refine ⟨fun hb2 => ?_, fun hb2 => ?_⟩
      · have hqt := dlt hb2
        have hl2 := hB2.tab.len
        have hr2 := hB2.tab.row p hlt
        refine ⟨fun b t => SvB g k t ∧ (b = true → cntT t < cntT t0) ∧ (b = false → t = t0 ∧ (∀ p' q, p' < p → q < k → atT t p' q = true → ansB g p' q (okT t) = true) ∧ ∀ q', q' < q + 1 → atT t p q' = true → ansB g p q' (okT t) = true), ⟨fun b => b = (atT t2 p q && !(ansB g p q (okT t2))), ⟨_, idx_getS [] (by omega), _, idx_getS false (by omega), fun hb => ?_, fun hb => ?_⟩, ?_⟩, ?_⟩
        · refine ⟨inT_of hg hn hB2.tab, ?_⟩
          have : atT t2 p q = true := hb
          rw [this]
          rfl
        · have : atT t2 p q = false := hb
          rw [this]
          rfl
        · rintro x rfl
          refine ⟨fun hx => ⟨_, idx_getS [] (by omega), _, idx_getS false (by omega), ?_⟩, fun hx => ?_⟩
          · rw [Bool.and_eq_true] at hx
            obtain ⟨h1, h2⟩ := hx
            have h2 : ansB g p q (okT t2) = false := by simpa using h2
            have hs := hB2.set hg hn hlt hqt h2
            have hcs := cntT_set (t := t2) (p := p) (q := q) (by omega) h1
            refine ⟨hs, fun _ => ?_, (fun e => by cases e)⟩
            show cntT (setT t2 p q) < cntT t0
            cases b2 with
            | true => have := hc2 rfl; omega
            | false => have := (hd2 rfl).1; subst this; omega
          · refine ⟨hB2, hc2, fun e => ⟨(hd2 e).1, (hd2 e).2.1, fun q' hq' h1 => ?_⟩⟩
            by_cases e2 : q' = q
            · subst e2
              rw [h1] at hx
              simpa using hx
            · exact (hd2 e).2.2 q' (by omega) h1
        · rintro b3 t3 ⟨hB3, hc3, hd3⟩
          exact ⟨⟨q + 1, wsucc (by omega), hqt, hB3, hc3, hd3⟩, mu_up hqt (by omega)⟩
      · have hqe : q = k := by have := dge hb2; omega
        subst hqe
        refine ⟨⟨p + 1, wsucc (by omega), hlt, hB2, hc2, fun e => ⟨(hd2 e).1, fun p' q' hp' hq' h1 => ?_⟩⟩, mu_up hlt (by omega)⟩
        by_cases e2 : p' = p
        · subst e2
          exact (hd2 e).2.2 q' hq' h1
        · exact (hd2 e).2.1 p' q' (by omega) hq' h1
    · have hpe : p = k := by have := dge hb; omega
      subst hpe
      refine ⟨⟨hB1, fun e => (hd1 e).2⟩, ?_⟩
      cases b1 with
      | true => have := hc1 rfl; simp; omega
      | false => have := (hd1 rfl).1; subst this; simp
theorem samServes_ct (g : ApiGraph) : Ct 20 [.sv (.agg [I g.fLetters, I g.fPlaces, LS ApiArrow.ty g.fArrows])] [] (ServesQ g) (fun (r : ((List (List Bool)) × Int)) => .tup [.one (LS (lsT boolT) r.1), .one (I r.2)]) := samServes_walk g (ServesQ g) (samServes_ok g)
def sameOrder_vc (g : ApiGraph) (Q : Bool → Prop) : Prop :=
  g.fArrows.length ≤ 9223372036854775807 →
  (∀ r : ((List Int) × Int), (ClassesQ (ApiGraph.mk 1 2 ([(ApiArrow.mk 0 0 1)] : (List ApiArrow)))) r →
  (∃ J : Bool → Prop, (IfP (r.2 != 0) (J true) (IfP ((r.1.length : Int) != 2) (J true) (∃ e, idx r.1 0 = some e ∧
  ∃ e_2, idx r.1 1 = some e_2 ∧
  J (e == e_2)))) ∧
  (∀ (x33 : Bool), J x33 → IfP x33 (Q false) (∀ r_2 : ((List (List Bool)) × Int), (ServesQ g) r_2 →
  (∀ r_3 : ((List Int) × Int), (ClassesQ g) r_3 →
  (IfP (r_2.2 != r_3.2) (Q false) (IfP (r_2.2 != 0) (Q true) (∃ (Inv : Int → Prop) (mu : Int → Nat), Inv 0 ∧
  ∀ (x8 : Int) , Inv x8 → (IfP (decide (x8 < (r_2.1.length : Int))) (∃ e_3, idx r_2.1 x8 = some e_3 ∧
  ∃ e_4, idx e_3 x8 = some e_4 ∧
  IfP (!e_4) (Q false) (∃ (Inv_2 : Int → Prop) (mu_2 : Int → Nat), Inv_2 0 ∧
  ∀ (x9 : Int) , Inv_2 x9 → (IfP (decide (x9 < (r_2.1.length : Int))) (∃ J_2 : Bool → Prop, (∃ e_5, idx r_3.1 x8 = some e_5 ∧
  ∃ e_6, idx r_3.1 x9 = some e_6 ∧
  IfP (e_5 == e_6) (∃ e_7, idx r_2.1 x8 = some e_7 ∧
  ∃ e_8, idx e_7 x9 = some e_8 ∧
  J_2 (!e_8)) (J_2 false)) ∧
  (∀ (x87 : Bool), J_2 x87 → IfP x87 (Q false) (∃ (Inv_3 : Int → Prop) (mu_3 : Int → Nat), Inv_3 0 ∧
  ∀ (x10 : Int) , Inv_3 x10 → (IfP (decide (x10 < (r_2.1.length : Int))) (∃ J_3 : Bool → Prop, (∃ e_9, idx r_2.1 x8 = some e_9 ∧
  ∃ e_10, idx e_9 x9 = some e_10 ∧
  IfP e_10 (∃ e_11, idx r_2.1 x9 = some e_11 ∧
  ∃ e_12, idx e_11 x10 = some e_12 ∧
  IfP e_12 (∃ e_13, idx r_2.1 x8 = some e_13 ∧
  ∃ e_14, idx e_13 x10 = some e_14 ∧
  J_3 (!e_14)) (J_3 false)) (J_3 false)) ∧
  (∀ (x118 : Bool), J_3 x118 → IfP x118 (Q false) ((Inv_3 (wr (x10 + 1)) ∧ mu_3 (wr (x10 + 1)) < mu_3 x10)))) ((Inv_2 (wr (x9 + 1)) ∧ mu_2 (wr (x9 + 1)) < mu_2 x9)))))) ((Inv (wr (x8 + 1)) ∧ mu (wr (x8 + 1)) < mu x8))))) (Q true))))))))))
set_option maxHeartbeats 2000000 in
theorem sameOrder_walk (g : ApiGraph) (Q : Bool → Prop) (h : sameOrder_vc g Q) : Ct 5 [.sv (.agg [I g.fLetters, I g.fPlaces, LS ApiArrow.ty g.fArrows])] [] Q (fun (r : Bool) => .sv (.one (B r))) := by
  have ht := tab_ok
  refine Ct.body Try.func5 rfl rfl rfl rfl (fun c hn => ?_)
  unfold sameOrder_vc at h
  refine En.lenA 0 2 (by rfl) (by rfl) (fun hl => ?_)
  replace h := h hl
  clear hl
  refine En.seq ?_
  refine En.region ?_
  refine WL.run ht hn 2 ⟨[(1, .sv (.one (.ptr 0 0)))], [.box [I g.fLetters, I g.fPlaces, LS ApiArrow.ty g.fArrows] 48 false]⟩ (by kernel_rfl) ?_
  refine WL.nil ?_
  refine En.seq ?_
  refine En.region ?_
  refine WL.run ht hn 1 ⟨[(1, .sv (.one (.ptr 0 0))), (12, .sv (.agg [I 0, I 0, I 1]))], [.box [I g.fLetters, I g.fPlaces, LS ApiArrow.ty g.fArrows] 48 false]⟩ (by kernel_rfl) ?_
  refine WL.mt0 (K := []) (p := some (1, rowI 52 ApiArrow.ty ([(ApiArrow.mk 0 0 1)] : (List ApiArrow)))) hn (by rfl) (mt_lit (T := ApiArrow.ty) ([(ApiArrow.mk 0 0 1)] : (List ApiArrow)) (mt_bsl 1 (r := cellsOf ApiArrow.ty ([(ApiArrow.mk 0 0 1)] : (List ApiArrow))) ht rfl (by rfl) (by rfl) (by rfl) (by kernel_rfl) (by rfl)) (fun _ h => by cases h) (fun _ => rfl) (fun _ => rfl) (by rfl) (Nat.le_of_ble_eq_true rfl)) (by rfl) (by rfl) (by rfl) ?_
  refine WL.run ht hn 1 ⟨[(1, .sv (.one (.ptr 0 0))), (14, .sv (.agg [I 1, I 2, .own 1]))], [.box [I g.fLetters, I g.fPlaces, LS ApiArrow.ty g.fArrows] 48 false, rowI 52 ApiArrow.ty ([(ApiArrow.mk 0 0 1)] : (List ApiArrow))]⟩ (by kernel_rfl) ?_
  refine WL.seal (T := ApiArrow.ty) (l := ([(ApiArrow.mk 0 0 1)] : (List ApiArrow))) (e := 52) 1 rfl ?_
  refine WL.run ht hn 0 ⟨[(1, .sv (.one (.ptr 0 0))), (14, .sv (.agg [I 1, I 2, LS ApiArrow.ty ([(ApiArrow.mk 0 0 1)] : (List ApiArrow))]))], [.box [I g.fLetters, I g.fPlaces, LS ApiArrow.ty g.fArrows] 48 false, .gone]⟩ (by kernel_rfl) ?_
  refine WL.mtQ (Q := ClassesQ (ApiGraph.mk 1 2 ([(ApiArrow.mk 0 0 1)] : (List ApiArrow)))) (x := fun (r : ((List Int) × Int)) => .tup [.one (LS intT r.1), .one (I r.2)]) (p := fun _ => none) hn (by rfl) (mtq_call (samClasses_ct (ApiGraph.mk 1 2 ([(ApiArrow.mk 0 0 1)] : (List ApiArrow)))) en19 (caps := []) [] rfl (by rfl) (by kernel_rfl) (by kernel_rfl) (by rfl) (fun _ => rfl) (by rfl)) (fun r hr_2 => ⟨by rfl, _, by rfl, ?_⟩)
  replace h := h r hr_2
  refine WL.run ht hn 5 ⟨[(1, .sv (.one (.ptr 0 0))), (3, .sv (.one (LS intT r.1))), (4, .sv (.one (I r.2)))], [.box [I g.fLetters, I g.fPlaces, LS ApiArrow.ty g.fArrows] 48 false, .gone]⟩ (by kernel_rfl) ?_
  refine WL.nil ?_
  refine En.seq ?_
  obtain ⟨J, h, hJ⟩ := h
  refine En.seqJ (σ := Bool) (fun zz => J zz) (fun zz => ⟨[(1, .sv (.one (.ptr 0 0))), (33, .sv (.one (B zz)))], [.box [I g.fLetters, I g.fPlaces, LS ApiArrow.ty g.fArrows] 48 false, .gone]⟩) ?_ ?_
  · refine En.regionS (by kernel_rfl) (by kernel_rfl) ?_
    refine SL.run ht hn 3 ⟨[(1, .sv (.one (.ptr 0 0))), (3, .sv (.one (LS intT r.1))), (4, .sv (.one (I r.2))), (18, .sv (.one (I r.2))), (19, .sv (.one (B (r.2 != 0)))), (20, .sv (.one (B (r.2 != 0))))], [.box [I g.fLetters, I g.fPlaces, LS ApiArrow.ty g.fArrows] 48 false, .gone]⟩ (by kernel_rfl) ?_
    refine splitB (r.2 != 0) (fun hb => ?_) (fun hb => ?_)
    · replace h := h.1 hb
      refine SL.setB 20 hb (by kernel_rfl) ?_
      refine SL.run ht hn 13 ⟨[(1, .sv (.one (.ptr 0 0))), (3, .sv (.one (LS intT r.1))), (4, .sv (.one (I r.2))), (18, .sv (.one (I r.2))), (19, .sv (.one (B (r.2 != 0)))), (20, .sv (.one (B true))), (21, .tup []), (22, .tup []), (23, .tup []), (24, .sv (.one (B true))), (25, .sv (.one (B true))), (26, .tup []), (27, .tup []), (28, .tup []), (29, .tup []), (30, .tup []), (31, .tup []), (32, .tup []), (33, .sv (.one (B true)))], [.box [I g.fLetters, I g.fPlaces, LS ApiArrow.ty g.fArrows] 48 false, .gone]⟩ (by kernel_rfl) ?_
      refine SL.nil ⟨by kernel_rfl, ?_⟩
      exact En.at (I := fun zz => J zz) (T := fun zz => ⟨[(1, .sv (.one (.ptr 0 0))), (33, .sv (.one (B zz)))], [.box [I g.fLetters, I g.fPlaces, LS ApiArrow.ty g.fArrows] 48 false, .gone]⟩) true h (by kernel_rfl)
    · replace h := h.2 hb
      refine SL.setB 20 hb (by kernel_rfl) ?_
      refine SL.run ht hn 5 ⟨[(1, .sv (.one (.ptr 0 0))), (3, .sv (.one (LS intT r.1))), (4, .sv (.one (I r.2))), (18, .sv (.one (I r.2))), (19, .sv (.one (B (r.2 != 0)))), (20, .sv (.one (B false))), (21, .sv (.one (LS intT r.1))), (22, .sv (.one (I (r.1.length : Int)))), (23, .sv (.one (B ((r.1.length : Int) != 2)))), (24, .sv (.one (B ((r.1.length : Int) != 2)))), (25, .sv (.one (B ((r.1.length : Int) != 2))))], [.box [I g.fLetters, I g.fPlaces, LS ApiArrow.ty g.fArrows] 48 false, .gone]⟩ (by kernel_rfl) ?_
      refine splitB ((r.1.length : Int) != 2) (fun hb => ?_) (fun hb => ?_)
      · replace h := h.1 hb
        refine SL.setB 25 hb (by kernel_rfl) ?_
        refine SL.run ht hn 8 ⟨[(1, .sv (.one (.ptr 0 0))), (3, .sv (.one (LS intT r.1))), (4, .sv (.one (I r.2))), (18, .sv (.one (I r.2))), (19, .sv (.one (B (r.2 != 0)))), (20, .sv (.one (B false))), (21, .sv (.one (LS intT r.1))), (22, .sv (.one (I (r.1.length : Int)))), (23, .sv (.one (B ((r.1.length : Int) != 2)))), (24, .sv (.one (B ((r.1.length : Int) != 2)))), (25, .sv (.one (B true))), (26, .tup []), (27, .tup []), (28, .tup []), (29, .tup []), (30, .tup []), (31, .tup []), (32, .tup []), (33, .sv (.one (B true)))], [.box [I g.fLetters, I g.fPlaces, LS ApiArrow.ty g.fArrows] 48 false, .gone]⟩ (by kernel_rfl) ?_
        refine SL.nil ⟨by kernel_rfl, ?_⟩
        exact En.at (I := fun zz => J zz) (T := fun zz => ⟨[(1, .sv (.one (.ptr 0 0))), (33, .sv (.one (B zz)))], [.box [I g.fLetters, I g.fPlaces, LS ApiArrow.ty g.fArrows] 48 false, .gone]⟩) true h (by kernel_rfl)
      · replace h := h.2 hb
        refine SL.setB 25 hb (by kernel_rfl) ?_
        refine SL.run ht hn 1 ⟨[(1, .sv (.one (.ptr 0 0))), (3, .sv (.one (LS intT r.1))), (4, .sv (.one (I r.2))), (18, .sv (.one (I r.2))), (19, .sv (.one (B (r.2 != 0)))), (20, .sv (.one (B false))), (21, .sv (.one (LS intT r.1))), (22, .sv (.one (I (r.1.length : Int)))), (23, .sv (.one (B ((r.1.length : Int) != 2)))), (24, .sv (.one (B ((r.1.length : Int) != 2)))), (25, .sv (.one (B false))), (26, .sv (.one (LS intT r.1)))], [.box [I g.fLetters, I g.fPlaces, LS ApiArrow.ty g.fArrows] 48 false, .gone]⟩ (by kernel_rfl) ?_
        obtain ⟨e, he, h⟩ := h
        refine SL.val hn (by rfl) (val_index (T := intT) (l := r.1) (i := 0) ht rfl (by rfl) (by rfl) (by rfl) (by rfl) (by rfl) (by rfl) he) (by rfl) ?_
        refine SL.val hn (by rfl) (val_load (s := .one (I e)) ht rfl (by rfl) (by rfl) (by rfl) (by rfl) (by rfl)) (by rfl) ?_
        refine SL.run ht hn 1 ⟨[(1, .sv (.one (.ptr 0 0))), (3, .sv (.one (LS intT r.1))), (4, .sv (.one (I r.2))), (18, .sv (.one (I r.2))), (19, .sv (.one (B (r.2 != 0)))), (20, .sv (.one (B false))), (21, .sv (.one (LS intT r.1))), (22, .sv (.one (I (r.1.length : Int)))), (23, .sv (.one (B ((r.1.length : Int) != 2)))), (24, .sv (.one (B ((r.1.length : Int) != 2)))), (25, .sv (.one (B false))), (26, .sv (.one (LS intT r.1))), (27, .sv (.one (.pe (svR (.one (I e))) 1))), (28, .sv (.one (I e))), (29, .sv (.one (LS intT r.1)))], [.box [I g.fLetters, I g.fPlaces, LS ApiArrow.ty g.fArrows] 48 false, .gone]⟩ (by kernel_rfl) ?_
        obtain ⟨e_2, he_2, h⟩ := h
        refine SL.val hn (by rfl) (val_index (T := intT) (l := r.1) (i := 1) ht rfl (by rfl) (by rfl) (by rfl) (by rfl) (by rfl) (by rfl) he_2) (by rfl) ?_
        refine SL.val hn (by rfl) (val_load (s := .one (I e_2)) ht rfl (by rfl) (by rfl) (by rfl) (by rfl) (by rfl)) (by rfl) ?_
        refine SL.run ht hn 2 ⟨[(1, .sv (.one (.ptr 0 0))), (3, .sv (.one (LS intT r.1))), (4, .sv (.one (I r.2))), (18, .sv (.one (I r.2))), (19, .sv (.one (B (r.2 != 0)))), (20, .sv (.one (B false))), (21, .sv (.one (LS intT r.1))), (22, .sv (.one (I (r.1.length : Int)))), (23, .sv (.one (B ((r.1.length : Int) != 2)))), (24, .sv (.one (B ((r.1.length : Int) != 2)))), (25, .sv (.one (B false))), (26, .sv (.one (LS intT r.1))), (27, .sv (.one (.pe (svR (.one (I e))) 1))), (28, .sv (.one (I e))), (29, .sv (.one (LS intT r.1))), (30, .sv (.one (.pe (svR (.one (I e_2))) 1))), (31, .sv (.one (I e_2))), (32, .sv (.one (B (e == e_2)))), (33, .sv (.one (B (e == e_2))))], [.box [I g.fLetters, I g.fPlaces, LS ApiArrow.ty g.fArrows] 48 false, .gone]⟩ (by kernel_rfl) ?_
        refine SL.nil ⟨by kernel_rfl, ?_⟩
        exact En.at (I := fun zz => J zz) (T := fun zz => ⟨[(1, .sv (.one (.ptr 0 0))), (33, .sv (.one (B zz)))], [.box [I g.fLetters, I g.fPlaces, LS ApiArrow.ty g.fArrows] 48 false, .gone]⟩) (e == e_2) h (by kernel_rfl)
  · intro x33 h
    replace h := hJ _ h
    show En c ⟨[(1, .sv (.one (.ptr 0 0))), (33, .sv (.one (B x33)))], [.box [I g.fLetters, I g.fPlaces, LS ApiArrow.ty g.fArrows] 48 false, .gone]⟩ _
    refine En.cond (b := x33) (by kernel_rfl) (fun hb => ?_) (fun hb => ?_)
    · replace h := h.1 hb
      refine En.seq ?_
      refine En.region ?_
      refine WL.run ht hn 1 ⟨[(2, .sv (.one (B false)))], [.gone, .gone]⟩ (by kernel_rfl) ?_
      refine WL.nil ?_
      refine En.ret ?_
      exact En.back ht false h (by kernel_rfl) rfl
    · replace h := h.2 hb
      refine En.skip ?_
      refine En.seq ?_
      refine En.region ?_
      refine WL.run ht hn 1 ⟨[(1, .sv (.one (.ptr 0 0))), (35, .sv (.agg [I g.fLetters, I g.fPlaces, LS ApiArrow.ty g.fArrows]))], [.box [I g.fLetters, I g.fPlaces, LS ApiArrow.ty g.fArrows] 48 false, .gone]⟩ (by kernel_rfl) ?_
      refine WL.mtQ (Q := ServesQ g) (x := fun (r : ((List (List Bool)) × Int)) => .tup [.one (LS (lsT boolT) r.1), .one (I r.2)]) (p := fun _ => none) hn (by rfl) (mtq_call (samServes_ct g) en20 (caps := []) [] rfl (by rfl) (by kernel_rfl) (by kernel_rfl) (by rfl) (fun _ => rfl) (by rfl)) (fun r_2 hr_2_2 => ⟨by rfl, _, by rfl, ?_⟩)
      replace h := h r_2 hr_2_2
      refine WL.run ht hn 5 ⟨[(1, .sv (.one (.ptr 0 0))), (4, .sv (.one (I r_2.2))), (5, .sv (.one (LS (lsT boolT) r_2.1)))], [.box [I g.fLetters, I g.fPlaces, LS ApiArrow.ty g.fArrows] 48 false, .gone]⟩ (by kernel_rfl) ?_
      refine WL.nil ?_
      refine En.seq ?_
      refine En.region ?_
      refine WL.run ht hn 1 ⟨[(4, .sv (.one (I r_2.2))), (5, .sv (.one (LS (lsT boolT) r_2.1))), (40, .sv (.agg [I g.fLetters, I g.fPlaces, LS ApiArrow.ty g.fArrows]))], [.gone, .gone]⟩ (by kernel_rfl) ?_
      refine WL.mtQ (Q := ClassesQ g) (x := fun (r : ((List Int) × Int)) => .tup [.one (LS intT r.1), .one (I r.2)]) (p := fun _ => none) hn (by rfl) (mtq_call (samClasses_ct g) en19 (caps := []) [] rfl (by rfl) (by kernel_rfl) (by kernel_rfl) (by rfl) (fun _ => rfl) (by rfl)) (fun r_3 hr_3 => ⟨by rfl, _, by rfl, ?_⟩)
      replace h := h r_3 hr_3
      refine WL.run ht hn 5 ⟨[(3, .sv (.one (LS intT r_3.1))), (4, .sv (.one (I r_2.2))), (5, .sv (.one (LS (lsT boolT) r_2.1))), (6, .sv (.one (I r_3.2)))], [.gone, .gone]⟩ (by kernel_rfl) ?_
      refine WL.nil ?_
      refine En.seq ?_
      refine En.seq ?_
      refine En.region ?_
      refine WL.run ht hn 3 ⟨[(3, .sv (.one (LS intT r_3.1))), (4, .sv (.one (I r_2.2))), (5, .sv (.one (LS (lsT boolT) r_2.1))), (46, .sv (.one (B (r_2.2 != r_3.2))))], [.gone, .gone]⟩ (by kernel_rfl) ?_
      refine WL.nil ?_
      refine En.cond (b := (r_2.2 != r_3.2)) (by kernel_rfl) (fun hb => ?_) (fun hb => ?_)
      · replace h := h.1 hb
        refine En.seq ?_
        refine En.region ?_
        refine WL.run ht hn 1 ⟨[(2, .sv (.one (B false)))], [.gone, .gone]⟩ (by kernel_rfl) ?_
        refine WL.nil ?_
        refine En.ret ?_
        exact En.back ht false h (by kernel_rfl) rfl
      · replace h := h.2 hb
        refine En.skip ?_
        refine En.seq ?_
        refine En.seq ?_
        refine En.region ?_
        refine WL.run ht hn 2 ⟨[(3, .sv (.one (LS intT r_3.1))), (5, .sv (.one (LS (lsT boolT) r_2.1))), (48, .sv (.one (B (r_2.2 != 0))))], [.gone, .gone]⟩ (by kernel_rfl) ?_
        refine WL.nil ?_
        refine En.cond (b := (r_2.2 != 0)) (by kernel_rfl) (fun hb => ?_) (fun hb => ?_)
        · replace h := h.1 hb
          refine En.seq ?_
          refine En.region ?_
          refine WL.run ht hn 1 ⟨[(2, .sv (.one (B true)))], [.gone, .gone]⟩ (by kernel_rfl) ?_
          refine WL.nil ?_
          refine En.ret ?_
          exact En.back ht true h (by kernel_rfl) rfl
        · replace h := h.2 hb
          refine En.skip ?_
          refine En.seq ?_
          refine En.region ?_
          refine WL.run ht hn 3 ⟨[(3, .sv (.one (LS intT r_3.1))), (5, .sv (.one (LS (lsT boolT) r_2.1))), (7, .sv (.one (I (r_2.1.length : Int))))], [.gone, .gone]⟩ (by kernel_rfl) ?_
          refine WL.nil ?_
          refine En.seq ?_
          refine En.seq ?_
          refine En.region ?_
          refine WL.run ht hn 1 ⟨[(3, .sv (.one (LS intT r_3.1))), (5, .sv (.one (LS (lsT boolT) r_2.1))), (7, .sv (.one (I (r_2.1.length : Int)))), (8, .sv (.one (I 0)))], [.gone, .gone]⟩ (by kernel_rfl) ?_
          refine WL.nil ?_
          refine En.block ?_
          obtain ⟨Inv, mu, h0_3, hI_3⟩ := h
          refine En.loop (σ := Int) (fun zz => Inv zz) (fun zz => mu zz) (fun zz => ⟨[(3, .sv (.one (LS intT r_3.1))), (5, .sv (.one (LS (lsT boolT) r_2.1))), (7, .sv (.one (I (r_2.1.length : Int)))), (8, .sv (.one (I zz)))], [.gone, .gone]⟩) 0 h0_3 (sub_ok (by kernel_rfl)) ?_
          intro x8 h
          replace h := hI_3 _ h
          show En c ⟨[(3, .sv (.one (LS intT r_3.1))), (5, .sv (.one (LS (lsT boolT) r_2.1))), (7, .sv (.one (I (r_2.1.length : Int)))), (8, .sv (.one (I x8)))], [.gone, .gone]⟩ _
          refine En.seq ?_
          refine En.seq ?_
          refine En.region ?_
          refine WL.run ht hn 3 ⟨[(3, .sv (.one (LS intT r_3.1))), (5, .sv (.one (LS (lsT boolT) r_2.1))), (7, .sv (.one (I (r_2.1.length : Int)))), (8, .sv (.one (I x8))), (53, .sv (.one (B (decide (x8 < (r_2.1.length : Int))))))], [.gone, .gone]⟩ (by kernel_rfl) ?_
          refine WL.nil ?_
          refine En.cond (b := (decide (x8 < (r_2.1.length : Int)))) (by kernel_rfl) (fun hb => ?_) (fun hb => ?_)
          · replace h := h.1 hb
            refine En.skip ?_
            refine En.seq ?_
            refine En.block ?_
            refine En.seq ?_
            refine En.seq ?_
            refine En.region ?_
            refine WL.run ht hn 2 ⟨[(3, .sv (.one (LS intT r_3.1))), (5, .sv (.one (LS (lsT boolT) r_2.1))), (7, .sv (.one (I (r_2.1.length : Int)))), (8, .sv (.one (I x8))), (56, .sv (.one (LS (lsT boolT) r_2.1))), (57, .sv (.one (I x8)))], [.gone, .gone]⟩ (by kernel_rfl) ?_
            obtain ⟨e_3, he_3, h⟩ := h
            refine WL.val hn (by rfl) (val_index (T := (lsT boolT)) (l := r_2.1) (i := x8) ht rfl (by rfl) (by rfl) (by rfl) (by rfl) (by rfl) (by rfl) he_3) (by rfl) ?_
            refine WL.val hn (by rfl) (val_load (s := .one (LS boolT e_3)) ht rfl (by rfl) (by rfl) (by rfl) (by rfl) (by rfl)) (by rfl) ?_
            refine WL.run ht hn 1 ⟨[(3, .sv (.one (LS intT r_3.1))), (5, .sv (.one (LS (lsT boolT) r_2.1))), (7, .sv (.one (I (r_2.1.length : Int)))), (8, .sv (.one (I x8))), (59, .sv (.one (LS boolT e_3))), (60, .sv (.one (I x8)))], [.gone, .gone]⟩ (by kernel_rfl) ?_
            obtain ⟨e_4, he_4, h⟩ := h
            refine WL.val hn (by rfl) (val_index (T := boolT) (l := e_3) (i := x8) ht rfl (by rfl) (by rfl) (by rfl) (by rfl) (by rfl) (by rfl) he_4) (by rfl) ?_
            refine WL.val hn (by rfl) (val_load (s := .one (B e_4)) ht rfl (by rfl) (by rfl) (by rfl) (by rfl) (by rfl)) (by rfl) ?_
            refine WL.run ht hn 1 ⟨[(3, .sv (.one (LS intT r_3.1))), (5, .sv (.one (LS (lsT boolT) r_2.1))), (7, .sv (.one (I (r_2.1.length : Int)))), (8, .sv (.one (I x8))), (63, .sv (.one (B (!e_4))))], [.gone, .gone]⟩ (by kernel_rfl) ?_
            refine WL.nil ?_
            refine En.cond (b := (!e_4)) (by kernel_rfl) (fun hb => ?_) (fun hb => ?_)
            · replace h := h.1 hb
              refine En.seq ?_
              refine En.region ?_
              refine WL.run ht hn 1 ⟨[(2, .sv (.one (B false)))], [.gone, .gone]⟩ (by kernel_rfl) ?_
              refine WL.nil ?_
              refine En.ret ?_
              exact En.back ht false h (by kernel_rfl) rfl
            · replace h := h.2 hb
              refine En.skip ?_
              refine En.seq ?_
              refine En.region ?_
              refine WL.run ht hn 1 ⟨[(3, .sv (.one (LS intT r_3.1))), (5, .sv (.one (LS (lsT boolT) r_2.1))), (7, .sv (.one (I (r_2.1.length : Int)))), (8, .sv (.one (I x8))), (9, .sv (.one (I 0)))], [.gone, .gone]⟩ (by kernel_rfl) ?_
              refine WL.nil ?_
              refine En.block ?_
              obtain ⟨Inv_2, mu_2, h0_2, hI_2⟩ := h
              refine En.loop (σ := Int) (fun zz => Inv_2 zz) (fun zz => mu_2 zz) (fun zz => ⟨[(3, .sv (.one (LS intT r_3.1))), (5, .sv (.one (LS (lsT boolT) r_2.1))), (7, .sv (.one (I (r_2.1.length : Int)))), (8, .sv (.one (I x8))), (9, .sv (.one (I zz)))], [.gone, .gone]⟩) 0 h0_2 (sub_ok (by kernel_rfl)) ?_
              intro x9 h
              replace h := hI_2 _ h
              show En c ⟨[(3, .sv (.one (LS intT r_3.1))), (5, .sv (.one (LS (lsT boolT) r_2.1))), (7, .sv (.one (I (r_2.1.length : Int)))), (8, .sv (.one (I x8))), (9, .sv (.one (I x9)))], [.gone, .gone]⟩ _
              refine En.seq ?_
              refine En.seq ?_
              refine En.region ?_
              refine WL.run ht hn 3 ⟨[(3, .sv (.one (LS intT r_3.1))), (5, .sv (.one (LS (lsT boolT) r_2.1))), (7, .sv (.one (I (r_2.1.length : Int)))), (8, .sv (.one (I x8))), (9, .sv (.one (I x9))), (66, .sv (.one (B (decide (x9 < (r_2.1.length : Int))))))], [.gone, .gone]⟩ (by kernel_rfl) ?_
              refine WL.nil ?_
              refine En.cond (b := (decide (x9 < (r_2.1.length : Int)))) (by kernel_rfl) (fun hb => ?_) (fun hb => ?_)
              · replace h := h.1 hb
                refine En.skip ?_
                refine En.seq ?_
                refine En.block ?_
                refine En.seq ?_
                obtain ⟨J_2, h, hJ_2⟩ := h
                refine En.seqJ (σ := Bool) (fun zz => J_2 zz) (fun zz => ⟨[(3, .sv (.one (LS intT r_3.1))), (5, .sv (.one (LS (lsT boolT) r_2.1))), (7, .sv (.one (I (r_2.1.length : Int)))), (8, .sv (.one (I x8))), (9, .sv (.one (I x9))), (87, .sv (.one (B zz)))], [.gone, .gone]⟩) ?_ ?_
                · refine En.regionS (by kernel_rfl) (by kernel_rfl) ?_
                  refine SL.run ht hn 2 ⟨[(3, .sv (.one (LS intT r_3.1))), (5, .sv (.one (LS (lsT boolT) r_2.1))), (7, .sv (.one (I (r_2.1.length : Int)))), (8, .sv (.one (I x8))), (9, .sv (.one (I x9))), (69, .sv (.one (LS intT r_3.1))), (70, .sv (.one (I x8)))], [.gone, .gone]⟩ (by kernel_rfl) ?_
                  obtain ⟨e_5, he_5, h⟩ := h
                  refine SL.val hn (by rfl) (val_index (T := intT) (l := r_3.1) (i := x8) ht rfl (by rfl) (by rfl) (by rfl) (by rfl) (by rfl) (by rfl) he_5) (by rfl) ?_
                  refine SL.val hn (by rfl) (val_load (s := .one (I e_5)) ht rfl (by rfl) (by rfl) (by rfl) (by rfl) (by rfl)) (by rfl) ?_
                  refine SL.run ht hn 2 ⟨[(3, .sv (.one (LS intT r_3.1))), (5, .sv (.one (LS (lsT boolT) r_2.1))), (7, .sv (.one (I (r_2.1.length : Int)))), (8, .sv (.one (I x8))), (9, .sv (.one (I x9))), (69, .sv (.one (LS intT r_3.1))), (70, .sv (.one (I x8))), (71, .sv (.one (.pe (svR (.one (I e_5))) 1))), (72, .sv (.one (I e_5))), (73, .sv (.one (LS intT r_3.1))), (74, .sv (.one (I x9)))], [.gone, .gone]⟩ (by kernel_rfl) ?_
                  obtain ⟨e_6, he_6, h⟩ := h
                  refine SL.val hn (by rfl) (val_index (T := intT) (l := r_3.1) (i := x9) ht rfl (by rfl) (by rfl) (by rfl) (by rfl) (by rfl) (by rfl) he_6) (by rfl) ?_
                  refine SL.val hn (by rfl) (val_load (s := .one (I e_6)) ht rfl (by rfl) (by rfl) (by rfl) (by rfl) (by rfl)) (by rfl) ?_
                  refine SL.run ht hn 2 ⟨[(3, .sv (.one (LS intT r_3.1))), (5, .sv (.one (LS (lsT boolT) r_2.1))), (7, .sv (.one (I (r_2.1.length : Int)))), (8, .sv (.one (I x8))), (9, .sv (.one (I x9))), (69, .sv (.one (LS intT r_3.1))), (70, .sv (.one (I x8))), (71, .sv (.one (.pe (svR (.one (I e_5))) 1))), (72, .sv (.one (I e_5))), (73, .sv (.one (LS intT r_3.1))), (74, .sv (.one (I x9))), (75, .sv (.one (.pe (svR (.one (I e_6))) 1))), (76, .sv (.one (I e_6))), (77, .sv (.one (B (e_5 == e_6)))), (78, .sv (.one (B (e_5 == e_6))))], [.gone, .gone]⟩ (by kernel_rfl) ?_
                  refine splitB (e_5 == e_6) (fun hb => ?_) (fun hb => ?_)
                  · replace h := h.1 hb
                    refine SL.setB 78 hb (by kernel_rfl) ?_
                    refine SL.run ht hn 2 ⟨[(3, .sv (.one (LS intT r_3.1))), (5, .sv (.one (LS (lsT boolT) r_2.1))), (7, .sv (.one (I (r_2.1.length : Int)))), (8, .sv (.one (I x8))), (9, .sv (.one (I x9))), (69, .sv (.one (LS intT r_3.1))), (70, .sv (.one (I x8))), (71, .sv (.one (.pe (svR (.one (I e_5))) 1))), (72, .sv (.one (I e_5))), (73, .sv (.one (LS intT r_3.1))), (74, .sv (.one (I x9))), (75, .sv (.one (.pe (svR (.one (I e_6))) 1))), (76, .sv (.one (I e_6))), (77, .sv (.one (B (e_5 == e_6)))), (78, .sv (.one (B true))), (79, .sv (.one (LS (lsT boolT) r_2.1))), (80, .sv (.one (I x8)))], [.gone, .gone]⟩ (by kernel_rfl) ?_
                    obtain ⟨e_7, he_7, h⟩ := h
                    refine SL.val hn (by rfl) (val_index (T := (lsT boolT)) (l := r_2.1) (i := x8) ht rfl (by rfl) (by rfl) (by rfl) (by rfl) (by rfl) (by rfl) he_7) (by rfl) ?_
                    refine SL.val hn (by rfl) (val_load (s := .one (LS boolT e_7)) ht rfl (by rfl) (by rfl) (by rfl) (by rfl) (by rfl)) (by rfl) ?_
                    refine SL.run ht hn 1 ⟨[(3, .sv (.one (LS intT r_3.1))), (5, .sv (.one (LS (lsT boolT) r_2.1))), (7, .sv (.one (I (r_2.1.length : Int)))), (8, .sv (.one (I x8))), (9, .sv (.one (I x9))), (69, .sv (.one (LS intT r_3.1))), (70, .sv (.one (I x8))), (71, .sv (.one (.pe (svR (.one (I e_5))) 1))), (72, .sv (.one (I e_5))), (73, .sv (.one (LS intT r_3.1))), (74, .sv (.one (I x9))), (75, .sv (.one (.pe (svR (.one (I e_6))) 1))), (76, .sv (.one (I e_6))), (77, .sv (.one (B (e_5 == e_6)))), (78, .sv (.one (B true))), (79, .sv (.one (LS (lsT boolT) r_2.1))), (80, .sv (.one (I x8))), (81, .sv (.one (.pe (svR (.one (LS boolT e_7))) 1))), (82, .sv (.one (LS boolT e_7))), (83, .sv (.one (I x9)))], [.gone, .gone]⟩ (by kernel_rfl) ?_
                    obtain ⟨e_8, he_8, h⟩ := h
                    refine SL.val hn (by rfl) (val_index (T := boolT) (l := e_7) (i := x9) ht rfl (by rfl) (by rfl) (by rfl) (by rfl) (by rfl) (by rfl) he_8) (by rfl) ?_
                    refine SL.val hn (by rfl) (val_load (s := .one (B e_8)) ht rfl (by rfl) (by rfl) (by rfl) (by rfl) (by rfl)) (by rfl) ?_
                    refine SL.run ht hn 2 ⟨[(3, .sv (.one (LS intT r_3.1))), (5, .sv (.one (LS (lsT boolT) r_2.1))), (7, .sv (.one (I (r_2.1.length : Int)))), (8, .sv (.one (I x8))), (9, .sv (.one (I x9))), (69, .sv (.one (LS intT r_3.1))), (70, .sv (.one (I x8))), (71, .sv (.one (.pe (svR (.one (I e_5))) 1))), (72, .sv (.one (I e_5))), (73, .sv (.one (LS intT r_3.1))), (74, .sv (.one (I x9))), (75, .sv (.one (.pe (svR (.one (I e_6))) 1))), (76, .sv (.one (I e_6))), (77, .sv (.one (B (e_5 == e_6)))), (78, .sv (.one (B true))), (79, .sv (.one (LS (lsT boolT) r_2.1))), (80, .sv (.one (I x8))), (81, .sv (.one (.pe (svR (.one (LS boolT e_7))) 1))), (82, .sv (.one (LS boolT e_7))), (83, .sv (.one (I x9))), (84, .sv (.one (.pe (svR (.one (B e_8))) 1))), (85, .sv (.one (B e_8))), (86, .sv (.one (B (!e_8)))), (87, .sv (.one (B (!e_8))))], [.gone, .gone]⟩ (by kernel_rfl) ?_
                    refine SL.nil ⟨by kernel_rfl, ?_⟩
                    exact En.at (I := fun zz => J_2 zz) (T := fun zz => ⟨[(3, .sv (.one (LS intT r_3.1))), (5, .sv (.one (LS (lsT boolT) r_2.1))), (7, .sv (.one (I (r_2.1.length : Int)))), (8, .sv (.one (I x8))), (9, .sv (.one (I x9))), (87, .sv (.one (B zz)))], [.gone, .gone]⟩) (!e_8) h (by kernel_rfl)
                  · replace h := h.2 hb
                    refine SL.setB 78 hb (by kernel_rfl) ?_
                    refine SL.run ht hn 9 ⟨[(3, .sv (.one (LS intT r_3.1))), (5, .sv (.one (LS (lsT boolT) r_2.1))), (7, .sv (.one (I (r_2.1.length : Int)))), (8, .sv (.one (I x8))), (9, .sv (.one (I x9))), (69, .sv (.one (LS intT r_3.1))), (70, .sv (.one (I x8))), (71, .sv (.one (.pe (svR (.one (I e_5))) 1))), (72, .sv (.one (I e_5))), (73, .sv (.one (LS intT r_3.1))), (74, .sv (.one (I x9))), (75, .sv (.one (.pe (svR (.one (I e_6))) 1))), (76, .sv (.one (I e_6))), (77, .sv (.one (B (e_5 == e_6)))), (78, .sv (.one (B false))), (79, .tup []), (80, .tup []), (81, .tup []), (82, .tup []), (83, .tup []), (84, .tup []), (85, .tup []), (86, .tup []), (87, .sv (.one (B false)))], [.gone, .gone]⟩ (by kernel_rfl) ?_
                    refine SL.nil ⟨by kernel_rfl, ?_⟩
                    exact En.at (I := fun zz => J_2 zz) (T := fun zz => ⟨[(3, .sv (.one (LS intT r_3.1))), (5, .sv (.one (LS (lsT boolT) r_2.1))), (7, .sv (.one (I (r_2.1.length : Int)))), (8, .sv (.one (I x8))), (9, .sv (.one (I x9))), (87, .sv (.one (B zz)))], [.gone, .gone]⟩) false h (by kernel_rfl)
                · intro x87 h
                  replace h := hJ_2 _ h
                  show En c ⟨[(3, .sv (.one (LS intT r_3.1))), (5, .sv (.one (LS (lsT boolT) r_2.1))), (7, .sv (.one (I (r_2.1.length : Int)))), (8, .sv (.one (I x8))), (9, .sv (.one (I x9))), (87, .sv (.one (B x87)))], [.gone, .gone]⟩ _
                  refine En.cond (b := x87) (by kernel_rfl) (fun hb => ?_) (fun hb => ?_)
                  · replace h := h.1 hb
                    refine En.seq ?_
                    refine En.region ?_
                    refine WL.run ht hn 1 ⟨[(2, .sv (.one (B false)))], [.gone, .gone]⟩ (by kernel_rfl) ?_
                    refine WL.nil ?_
                    refine En.ret ?_
                    exact En.back ht false h (by kernel_rfl) rfl
                  · replace h := h.2 hb
                    refine En.skip ?_
                    refine En.seq ?_
                    refine En.region ?_
                    refine WL.run ht hn 1 ⟨[(3, .sv (.one (LS intT r_3.1))), (5, .sv (.one (LS (lsT boolT) r_2.1))), (7, .sv (.one (I (r_2.1.length : Int)))), (8, .sv (.one (I x8))), (9, .sv (.one (I x9))), (10, .sv (.one (I 0)))], [.gone, .gone]⟩ (by kernel_rfl) ?_
                    refine WL.nil ?_
                    refine En.block ?_
                    obtain ⟨Inv_3, mu_3, h0, hI⟩ := h
                    refine En.loop (σ := Int) (fun zz => Inv_3 zz) (fun zz => mu_3 zz) (fun zz => ⟨[(3, .sv (.one (LS intT r_3.1))), (5, .sv (.one (LS (lsT boolT) r_2.1))), (7, .sv (.one (I (r_2.1.length : Int)))), (8, .sv (.one (I x8))), (9, .sv (.one (I x9))), (10, .sv (.one (I zz)))], [.gone, .gone]⟩) 0 h0 (sub_ok (by kernel_rfl)) ?_
                    intro x10 h
                    replace h := hI _ h
                    show En c ⟨[(3, .sv (.one (LS intT r_3.1))), (5, .sv (.one (LS (lsT boolT) r_2.1))), (7, .sv (.one (I (r_2.1.length : Int)))), (8, .sv (.one (I x8))), (9, .sv (.one (I x9))), (10, .sv (.one (I x10)))], [.gone, .gone]⟩ _
                    refine En.seq ?_
                    refine En.seq ?_
                    refine En.region ?_
                    refine WL.run ht hn 3 ⟨[(3, .sv (.one (LS intT r_3.1))), (5, .sv (.one (LS (lsT boolT) r_2.1))), (7, .sv (.one (I (r_2.1.length : Int)))), (8, .sv (.one (I x8))), (9, .sv (.one (I x9))), (10, .sv (.one (I x10))), (90, .sv (.one (B (decide (x10 < (r_2.1.length : Int))))))], [.gone, .gone]⟩ (by kernel_rfl) ?_
                    refine WL.nil ?_
                    refine En.cond (b := (decide (x10 < (r_2.1.length : Int)))) (by kernel_rfl) (fun hb => ?_) (fun hb => ?_)
                    · replace h := h.1 hb
                      refine En.skip ?_
                      refine En.seq ?_
                      refine En.block ?_
                      obtain ⟨J_3, h, hJ_3⟩ := h
                      refine En.seqJ (σ := Bool) (fun zz => J_3 zz) (fun zz => ⟨[(3, .sv (.one (LS intT r_3.1))), (5, .sv (.one (LS (lsT boolT) r_2.1))), (7, .sv (.one (I (r_2.1.length : Int)))), (8, .sv (.one (I x8))), (9, .sv (.one (I x9))), (10, .sv (.one (I x10))), (118, .sv (.one (B zz)))], [.gone, .gone]⟩) ?_ ?_
                      · refine En.region ?_
                        refine WL.run ht hn 2 ⟨[(3, .sv (.one (LS intT r_3.1))), (5, .sv (.one (LS (lsT boolT) r_2.1))), (7, .sv (.one (I (r_2.1.length : Int)))), (8, .sv (.one (I x8))), (9, .sv (.one (I x9))), (10, .sv (.one (I x10))), (93, .sv (.one (LS (lsT boolT) r_2.1))), (94, .sv (.one (I x8)))], [.gone, .gone]⟩ (by kernel_rfl) ?_
                        obtain ⟨e_9, he_9, h⟩ := h
                        refine WL.val hn (by rfl) (val_index (T := (lsT boolT)) (l := r_2.1) (i := x8) ht rfl (by rfl) (by rfl) (by rfl) (by rfl) (by rfl) (by rfl) he_9) (by rfl) ?_
                        refine WL.val hn (by rfl) (val_load (s := .one (LS boolT e_9)) ht rfl (by rfl) (by rfl) (by rfl) (by rfl) (by rfl)) (by rfl) ?_
                        refine WL.run ht hn 1 ⟨[(3, .sv (.one (LS intT r_3.1))), (5, .sv (.one (LS (lsT boolT) r_2.1))), (7, .sv (.one (I (r_2.1.length : Int)))), (8, .sv (.one (I x8))), (9, .sv (.one (I x9))), (10, .sv (.one (I x10))), (96, .sv (.one (LS boolT e_9))), (97, .sv (.one (I x9)))], [.gone, .gone]⟩ (by kernel_rfl) ?_
                        obtain ⟨e_10, he_10, h⟩ := h
                        refine WL.val hn (by rfl) (val_index (T := boolT) (l := e_9) (i := x9) ht rfl (by rfl) (by rfl) (by rfl) (by rfl) (by rfl) (by rfl) he_10) (by rfl) ?_
                        refine WL.val hn (by rfl) (val_load (s := .one (B e_10)) ht rfl (by rfl) (by rfl) (by rfl) (by rfl) (by rfl)) (by rfl) ?_
                        refine WL.run ht hn 1 ⟨[(3, .sv (.one (LS intT r_3.1))), (5, .sv (.one (LS (lsT boolT) r_2.1))), (7, .sv (.one (I (r_2.1.length : Int)))), (8, .sv (.one (I x8))), (9, .sv (.one (I x9))), (10, .sv (.one (I x10))), (100, .sv (.one (B e_10)))], [.gone, .gone]⟩ (by kernel_rfl) ?_
                        refine splitB e_10 (fun hb => ?_) (fun hb => ?_)
                        · replace h := h.1 hb
                          refine WL.setB 100 hb (by kernel_rfl) ?_
                          refine WL.run ht hn 2 ⟨[(3, .sv (.one (LS intT r_3.1))), (5, .sv (.one (LS (lsT boolT) r_2.1))), (7, .sv (.one (I (r_2.1.length : Int)))), (8, .sv (.one (I x8))), (9, .sv (.one (I x9))), (10, .sv (.one (I x10))), (100, .sv (.one (B true))), (101, .sv (.one (LS (lsT boolT) r_2.1))), (102, .sv (.one (I x9)))], [.gone, .gone]⟩ (by kernel_rfl) ?_
                          obtain ⟨e_11, he_11, h⟩ := h
                          refine WL.val hn (by rfl) (val_index (T := (lsT boolT)) (l := r_2.1) (i := x9) ht rfl (by rfl) (by rfl) (by rfl) (by rfl) (by rfl) (by rfl) he_11) (by rfl) ?_
                          refine WL.val hn (by rfl) (val_load (s := .one (LS boolT e_11)) ht rfl (by rfl) (by rfl) (by rfl) (by rfl) (by rfl)) (by rfl) ?_
                          refine WL.run ht hn 1 ⟨[(3, .sv (.one (LS intT r_3.1))), (5, .sv (.one (LS (lsT boolT) r_2.1))), (7, .sv (.one (I (r_2.1.length : Int)))), (8, .sv (.one (I x8))), (9, .sv (.one (I x9))), (10, .sv (.one (I x10))), (100, .sv (.one (B true))), (104, .sv (.one (LS boolT e_11))), (105, .sv (.one (I x10)))], [.gone, .gone]⟩ (by kernel_rfl) ?_
                          obtain ⟨e_12, he_12, h⟩ := h
                          refine WL.val hn (by rfl) (val_index (T := boolT) (l := e_11) (i := x10) ht rfl (by rfl) (by rfl) (by rfl) (by rfl) (by rfl) (by rfl) he_12) (by rfl) ?_
                          refine WL.val hn (by rfl) (val_load (s := .one (B e_12)) ht rfl (by rfl) (by rfl) (by rfl) (by rfl) (by rfl)) (by rfl) ?_
                          refine WL.run ht hn 2 ⟨[(3, .sv (.one (LS intT r_3.1))), (5, .sv (.one (LS (lsT boolT) r_2.1))), (7, .sv (.one (I (r_2.1.length : Int)))), (8, .sv (.one (I x8))), (9, .sv (.one (I x9))), (10, .sv (.one (I x10))), (109, .sv (.one (B e_12)))], [.gone, .gone]⟩ (by kernel_rfl) ?_
                          refine splitB e_12 (fun hb => ?_) (fun hb => ?_)
                          · replace h := h.1 hb
                            refine WL.setB 109 hb (by kernel_rfl) ?_
                            refine WL.run ht hn 2 ⟨[(3, .sv (.one (LS intT r_3.1))), (5, .sv (.one (LS (lsT boolT) r_2.1))), (7, .sv (.one (I (r_2.1.length : Int)))), (8, .sv (.one (I x8))), (9, .sv (.one (I x9))), (10, .sv (.one (I x10))), (109, .sv (.one (B true))), (110, .sv (.one (LS (lsT boolT) r_2.1))), (111, .sv (.one (I x8)))], [.gone, .gone]⟩ (by kernel_rfl) ?_
                            obtain ⟨e_13, he_13, h⟩ := h
                            refine WL.val hn (by rfl) (val_index (T := (lsT boolT)) (l := r_2.1) (i := x8) ht rfl (by rfl) (by rfl) (by rfl) (by rfl) (by rfl) (by rfl) he_13) (by rfl) ?_
                            refine WL.val hn (by rfl) (val_load (s := .one (LS boolT e_13)) ht rfl (by rfl) (by rfl) (by rfl) (by rfl) (by rfl)) (by rfl) ?_
                            refine WL.run ht hn 1 ⟨[(3, .sv (.one (LS intT r_3.1))), (5, .sv (.one (LS (lsT boolT) r_2.1))), (7, .sv (.one (I (r_2.1.length : Int)))), (8, .sv (.one (I x8))), (9, .sv (.one (I x9))), (10, .sv (.one (I x10))), (109, .sv (.one (B true))), (113, .sv (.one (LS boolT e_13))), (114, .sv (.one (I x10)))], [.gone, .gone]⟩ (by kernel_rfl) ?_
                            obtain ⟨e_14, he_14, h⟩ := h
                            refine WL.val hn (by rfl) (val_index (T := boolT) (l := e_13) (i := x10) ht rfl (by rfl) (by rfl) (by rfl) (by rfl) (by rfl) (by rfl) he_14) (by rfl) ?_
                            refine WL.val hn (by rfl) (val_load (s := .one (B e_14)) ht rfl (by rfl) (by rfl) (by rfl) (by rfl) (by rfl)) (by rfl) ?_
                            refine WL.run ht hn 2 ⟨[(3, .sv (.one (LS intT r_3.1))), (5, .sv (.one (LS (lsT boolT) r_2.1))), (7, .sv (.one (I (r_2.1.length : Int)))), (8, .sv (.one (I x8))), (9, .sv (.one (I x9))), (10, .sv (.one (I x10))), (118, .sv (.one (B (!e_14))))], [.gone, .gone]⟩ (by kernel_rfl) ?_
                            refine WL.nil ?_
                            exact En.at (I := fun zz => J_3 zz) (T := fun zz => ⟨[(3, .sv (.one (LS intT r_3.1))), (5, .sv (.one (LS (lsT boolT) r_2.1))), (7, .sv (.one (I (r_2.1.length : Int)))), (8, .sv (.one (I x8))), (9, .sv (.one (I x9))), (10, .sv (.one (I x10))), (118, .sv (.one (B zz)))], [.gone, .gone]⟩) (!e_14) h (by kernel_rfl)
                          · replace h := h.2 hb
                            refine WL.setB 109 hb (by kernel_rfl) ?_
                            refine WL.run ht hn 9 ⟨[(3, .sv (.one (LS intT r_3.1))), (5, .sv (.one (LS (lsT boolT) r_2.1))), (7, .sv (.one (I (r_2.1.length : Int)))), (8, .sv (.one (I x8))), (9, .sv (.one (I x9))), (10, .sv (.one (I x10))), (118, .sv (.one (B false)))], [.gone, .gone]⟩ (by kernel_rfl) ?_
                            refine WL.nil ?_
                            exact En.at (I := fun zz => J_3 zz) (T := fun zz => ⟨[(3, .sv (.one (LS intT r_3.1))), (5, .sv (.one (LS (lsT boolT) r_2.1))), (7, .sv (.one (I (r_2.1.length : Int)))), (8, .sv (.one (I x8))), (9, .sv (.one (I x9))), (10, .sv (.one (I x10))), (118, .sv (.one (B zz)))], [.gone, .gone]⟩) false h (by kernel_rfl)
                        · replace h := h.2 hb
                          refine WL.setB 100 hb (by kernel_rfl) ?_
                          refine WL.run ht hn 18 ⟨[(3, .sv (.one (LS intT r_3.1))), (5, .sv (.one (LS (lsT boolT) r_2.1))), (7, .sv (.one (I (r_2.1.length : Int)))), (8, .sv (.one (I x8))), (9, .sv (.one (I x9))), (10, .sv (.one (I x10))), (118, .sv (.one (B false)))], [.gone, .gone]⟩ (by kernel_rfl) ?_
                          refine WL.nil ?_
                          exact En.at (I := fun zz => J_3 zz) (T := fun zz => ⟨[(3, .sv (.one (LS intT r_3.1))), (5, .sv (.one (LS (lsT boolT) r_2.1))), (7, .sv (.one (I (r_2.1.length : Int)))), (8, .sv (.one (I x8))), (9, .sv (.one (I x9))), (10, .sv (.one (I x10))), (118, .sv (.one (B zz)))], [.gone, .gone]⟩) false h (by kernel_rfl)
                      · intro x118 h
                        replace h := hJ_3 _ h
                        show En c ⟨[(3, .sv (.one (LS intT r_3.1))), (5, .sv (.one (LS (lsT boolT) r_2.1))), (7, .sv (.one (I (r_2.1.length : Int)))), (8, .sv (.one (I x8))), (9, .sv (.one (I x9))), (10, .sv (.one (I x10))), (118, .sv (.one (B x118)))], [.gone, .gone]⟩ _
                        refine En.cond (b := x118) (by kernel_rfl) (fun hb => ?_) (fun hb => ?_)
                        · replace h := h.1 hb
                          refine En.seq ?_
                          refine En.region ?_
                          refine WL.run ht hn 1 ⟨[(2, .sv (.one (B false)))], [.gone, .gone]⟩ (by kernel_rfl) ?_
                          refine WL.nil ?_
                          refine En.ret ?_
                          exact En.back ht false h (by kernel_rfl) rfl
                        · replace h := h.2 hb
                          refine En.skip ?_
                          refine En.region ?_
                          refine WL.run ht hn 3 ⟨[(3, .sv (.one (LS intT r_3.1))), (5, .sv (.one (LS (lsT boolT) r_2.1))), (7, .sv (.one (I (r_2.1.length : Int)))), (8, .sv (.one (I x8))), (9, .sv (.one (I x9))), (10, .sv (.one (I (wr (x10 + 1)))))], [.gone, .gone]⟩ (by kernel_rfl) ?_
                          refine WL.nil ?_
                          exact En.at (I := fun zz => Inv_3 zz ∧ mu_3 zz < mu_3 x10) (T := fun zz => ⟨[(3, .sv (.one (LS intT r_3.1))), (5, .sv (.one (LS (lsT boolT) r_2.1))), (7, .sv (.one (I (r_2.1.length : Int)))), (8, .sv (.one (I x8))), (9, .sv (.one (I x9))), (10, .sv (.one (I zz)))], [.gone, .gone]⟩) (wr (x10 + 1)) h (by kernel_rfl)
                    · replace h := h.2 hb
                      refine En.exit rfl ?_
                      refine En.region ?_
                      refine WL.run ht hn 3 ⟨[(3, .sv (.one (LS intT r_3.1))), (5, .sv (.one (LS (lsT boolT) r_2.1))), (7, .sv (.one (I (r_2.1.length : Int)))), (8, .sv (.one (I x8))), (9, .sv (.one (I (wr (x9 + 1)))))], [.gone, .gone]⟩ (by kernel_rfl) ?_
                      refine WL.nil ?_
                      exact En.at (I := fun zz => Inv_2 zz ∧ mu_2 zz < mu_2 x9) (T := fun zz => ⟨[(3, .sv (.one (LS intT r_3.1))), (5, .sv (.one (LS (lsT boolT) r_2.1))), (7, .sv (.one (I (r_2.1.length : Int)))), (8, .sv (.one (I x8))), (9, .sv (.one (I zz)))], [.gone, .gone]⟩) (wr (x9 + 1)) h (by kernel_rfl)
              · replace h := h.2 hb
                refine En.exit rfl ?_
                refine En.region ?_
                refine WL.run ht hn 3 ⟨[(3, .sv (.one (LS intT r_3.1))), (5, .sv (.one (LS (lsT boolT) r_2.1))), (7, .sv (.one (I (r_2.1.length : Int)))), (8, .sv (.one (I (wr (x8 + 1)))))], [.gone, .gone]⟩ (by kernel_rfl) ?_
                refine WL.nil ?_
                exact En.at (I := fun zz => Inv zz ∧ mu zz < mu x8) (T := fun zz => ⟨[(3, .sv (.one (LS intT r_3.1))), (5, .sv (.one (LS (lsT boolT) r_2.1))), (7, .sv (.one (I (r_2.1.length : Int)))), (8, .sv (.one (I zz)))], [.gone, .gone]⟩) (wr (x8 + 1)) h (by kernel_rfl)
          · replace h := h.2 hb
            refine En.exit rfl ?_
            refine En.seq ?_
            refine En.region ?_
            refine WL.run ht hn 1 ⟨[(2, .sv (.one (B true)))], [.gone, .gone]⟩ (by kernel_rfl) ?_
            refine WL.nil ?_
            refine En.ret ?_
            exact En.back ht true h (by kernel_rfl) rfl
theorem stab_closed {r : List Int} (h : StableC (ApiGraph.mk 1 2 [ApiArrow.mk 0 0 1]) r) : r.length = 2 ∧ r.getD 0 0 ≠ r.getD 1 0 := by
  refine ⟨h.len, fun e => ?_⟩
  obtain ⟨_, h1, _⟩ := StepS.iff.1 (h.same 0 1 (by decide) (by decide) e)
  obtain ⟨y, hy, h2, _⟩ := ansB_iff.1 h1 (ApiArrow.mk 0 0 1) (by simp) rfl
  rw [List.mem_singleton] at hy
  subst hy
  cases h2
theorem serves_refl {g : ApiGraph} {n : Nat} {t : List (List Bool)} (h : SvB g n t) (hn : g.fPlaces = n) (hg : GraphOk g) {p : Nat} (hp : p < n) : atT t p p = true := by
  refine h.great (fun p q => p = q) (fun p q hp hq e x hx hf => ?_) p p hp hp rfl
  subst e
  exact ⟨x, hx, hf, rfl, rfl⟩
theorem serves_trans {g : ApiGraph} {n : Nat} {t : List (List Bool)} (h : SvB g n t) (hn : g.fPlaces = n) (hg : GraphOk g) (hs : ∀ p q, p < n → q < n → atT t p q = true → ansB g p q (okT t) = true) {p q r : Nat} (hp : p < n) (hq : q < n) (hr : r < n) (h1 : atT t p q = true) (h2 : atT t q r = true) : atT t p r = true := by
  refine h.great (fun p r => ∃ q, q < n ∧ atT t p q = true ∧ atT t q r = true) (fun p r hp hr ⟨q, hq, k1, k2⟩ x hx hf => ?_) p r hp hr ⟨q, hq, h1, h2⟩
  obtain ⟨y, hy, y1, y2, y3⟩ := ansB_iff.1 (hs p q hp hq k1) x hx hf
  obtain ⟨z, hz, z1, z2, z3⟩ := ansB_iff.1 (hs q r hq hr k2) y hy y1
  have ay := hg.arr y hy
  exact ⟨z, hz, z1, z2.trans y2, y.fTo.toNat, by omega, y3, z3⟩
theorem serves_class {g : ApiGraph} {n : Nat} {t : List (List Bool)} {cl : List Int} (h : SvB g n t) (hn : g.fPlaces = n) (hg : GraphOk g) (hc : StableC g cl) {p q : Nat} (hp : p < n) (hq : q < n) (e : cl.getD p 0 = cl.getD q 0) : atT t p q = true := by
  refine h.great (fun p q => cl.getD p 0 = cl.getD q 0) (fun p q hp hq e x hx hf => ?_) p q hp hq e
  obtain ⟨_, h1, _⟩ := StepS.iff.1 (hc.same p q (by omega) (by omega) e)
  obtain ⟨y, hy, y1, y2, y3⟩ := ansB_iff.1 h1 x hx hf
  exact ⟨y, hy, y1, y2, alikeC_iff.1 y3⟩
theorem sameOrder_ct (g : ApiGraph)  : Ct 5 [.sv (.agg [I g.fLetters, I g.fPlaces, LS ApiArrow.ty g.fArrows])] [] (fun (_ : Unit) => True) (fun _ => .sv (.one (B (true)))) := by
  refine (sameOrder_walk g (fun res_ => res_ = (true)) ?_).fun
  unfold sameOrder_vc
  intro _ r hr
  have he : samErr (ApiGraph.mk 1 2 [ApiArrow.mk 0 0 1]) = 0 := by decide
  obtain ⟨c1, c2⟩ := stab_closed (hr.2 he)
  have c3 : r.2 = 0 := hr.1.trans he
  refine ⟨fun b => b = false, ⟨fun h => ?_, fun _ => ⟨fun h => ?_, fun _ => ⟨_, idx_getS (s := 0) 0 (by omega), _, idx_getS (s := 1) 0 (by omega), by simpa using c2⟩⟩⟩, ?_⟩
  · rw [c3] at h; cases h
  · rw [c1] at h; cases h
  rintro b rfl
  refine ⟨fun h => (by cases h), fun _ r2 h2 r3 h3 => ⟨fun h => ?_, fun _ => ⟨fun _ => rfl, fun h => ?_⟩⟩⟩
  · rw [h2.1, h3.1] at h
    simp at h
  have h0 : samErr g = 0 := by have := h2.1; simp at h; omega
  have hg := samErr_ok h0
  have hpl := hg.pl
  obtain ⟨n, hn⟩ : ∃ n : Nat, g.fPlaces = n := ⟨g.fPlaces.toNat, by omega⟩
  have hnn : g.fPlaces.toNat = n := by omega
  obtain ⟨hB, hS⟩ := h2.2 h0
  have hC := h3.2 h0
  rw [hnn] at hB hS
  have hcl := hC.len
  have htl := hB.tab.len
  have hrow := hB.tab.row
  rw [htl]
  refine ⟨fun i => ∃ p : Nat, i = p ∧ p ≤ n, fun i => n - i.toNat, ⟨0, rfl, Nat.zero_le _⟩, ?_⟩
  rintro i ⟨p, rfl, hp⟩
  refine ⟨fun hb => ?_, fun _ => rfl⟩
  have hlt := dlt hb
  have hr1 := hrow p hlt
  refine ⟨_, idx_getS [] (by omega), _, idx_getS false (by omega), fun h => ?_, fun _ => ?_⟩
  · have : atT r2.1 p p = true := serves_refl hB hn hg hlt
    have h : (!(atT r2.1 p p)) = true := h
    rw [this] at h
    cases h
  refine ⟨fun i => ∃ q : Nat, i = q ∧ q ≤ n, fun i => n - i.toNat, ⟨0, rfl, Nat.zero_le _⟩, ?_⟩
  rintro i ⟨q, rfl, hq⟩
  refine ⟨fun hb2 => ?_, fun _ => ⟨⟨p + 1, wsucc (by omega), hlt⟩, mu_up hlt (by omega)⟩⟩
  have hqt := dlt hb2
  have hr2 := hrow q hqt
  refine ⟨fun b => b = false, ⟨_, idx_getS 0 (by omega), _, idx_getS 0 (by omega), fun h => ⟨_, idx_getS [] (by omega), _, idx_getS false (by omega), ?_⟩, fun _ => rfl⟩, ?_⟩
  · have : atT r2.1 p q = true := serves_class hB hn hg hC hlt hqt (by simpa using h)
    show (!(atT r2.1 p q)) = false
    rw [this]
    rfl
  rintro b rfl
  refine ⟨fun h => (by cases h), fun _ => ?_⟩
  refine ⟨fun i => ∃ q : Nat, i = q ∧ q ≤ n, fun i => n - i.toNat, ⟨0, rfl, Nat.zero_le _⟩, ?_⟩
  rintro i ⟨s, rfl, hs⟩
  refine ⟨fun hb3 => ?_, fun _ => ⟨⟨q + 1, wsucc (by omega), hqt⟩, mu_up hqt (by omega)⟩⟩
  have hst := dlt hb3
  refine ⟨fun b => b = false, ⟨_, idx_getS [] (by omega), _, idx_getS false (by omega), fun h1 => ⟨_, idx_getS [] (by omega), _, idx_getS false (by omega), fun h2 => ⟨_, idx_getS [] (by omega), _, idx_getS false (by omega), ?_⟩, fun _ => rfl⟩, fun _ => rfl⟩, ?_⟩
  · have : atT r2.1 p s = true := serves_trans hB hn hg hS hlt hqt hst h1 h2
    show (!(atT r2.1 p s)) = false
    rw [this]
    rfl
  rintro b rfl
  exact ⟨fun h => (by cases h), fun _ => ⟨⟨s + 1, wsucc (by omega), hst⟩, mu_up hst (by omega)⟩⟩
end Go.Proofs.Ytapnmjeadbhffaa

