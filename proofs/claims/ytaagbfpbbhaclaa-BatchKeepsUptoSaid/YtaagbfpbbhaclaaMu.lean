/- Contracts taken from disk (written by lift.py). -/
import Derived.Test.YtaagbfpbbhaclaaTy
import Derived.Test.YtaagbfpbbhaclaaAbsRR
set_option linter.unusedSimpArgs false
set_option linter.unusedVariables false
namespace Go.Proofs.Ytaagbfpbbhaclaa
open Go.Abs
set_option maxHeartbeats 4000000 in
theorem mul64_ev (k : Nat) (hk : k ≤ 8192) (n : Nat) (h : AH) : Ev Try.prog none' 70 #[.int .u64 1, .int .u64 (k : Nat)] n h (.tuple #[.int .u64 0, .int .u64 (k : Nat)]) n h := by
  refine RF.pure (by simp [flat]) fun n' hn => ?_
  refine RF.of Try.func70 rfl rfl (Nat.le_of_ble_eq_true rfl) ?_; dsimp only [argEnv]
  repeat' (first | refine stpS ?_ | (refine stp2 ?_ ?_ <;> intro _))
  have h1 : (k : Int) % 4294967296 = k := by omega
  have h2 : ((k : Int)).toNat >>> Int.toNat 32 = 0 := by
    rw [Int.toNat_natCast]
    show k >>> 32 = 0
    rw [Nat.shiftRight_eq_div_pow]; omega
  have h3 : Int.toNat 1 >>> Int.toNat 32 = 0 := rfl
  have h4 : (1 : Int) % 4294967296 = 1 := rfl
  have h5 : Int.toNat 0 >>> Int.toNat 32 = 0 := rfl
  have h6 : ((0 : Nat) : Int) = 0 := rfl
  simp only [h1, h2, h3, h4, Int.one_mul, h6, Int.zero_mul, Int.zero_emod, Int.add_zero, Int.zero_add, Int.mul_zero, h5]
set_option maxHeartbeats 4000000 in
theorem mul_ev (k : Nat) (hk : k ≤ 8192) (n : Nat) (h : AH) : Ev Try.prog none' 62 #[.int .u64 1, .int .u64 (k : Nat)] n h (.tuple #[.int .u64 0, .int .u64 (k : Nat)]) n h := by
  refine RF.pure (by simp [flat]) fun n' hn => ?_
  refine RF.of Try.func62 rfl rfl (Nat.le_of_ble_eq_true rfl) ?_; dsimp only [argEnv]
  repeat' (first | refine stpS ?_ | (refine stp2 ?_ ?_ <;> intro _) | refine RS.call1 rfl opds (mul64_ev k hk _ _) none'W ?_)
  rfl
end Go.Proofs.Ytaagbfpbbhaclaa
