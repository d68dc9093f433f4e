/- Contracts of codec: how long an int's form is. -/
import Derived.Test.YtflhhipemmlgpaaDoorPl
set_option linter.unusedSimpArgs false
set_option linter.unusedVariables false
namespace Go.Proofs.YtflhhipemmlgpaaDoor
open Go.Abs

theorem shD (x : Int) (y : Nat) (hx : x = y) (k : Int) (c : Nat) (hc : 2 ^ k.toNat = c) : ((x.toNat >>> k.toNat : Nat) : Int) = ((y / c : Nat) : Int) := by
  subst hx
  rw [Int.toNat_natCast, Nat.shiftRight_eq_div_pow, hc]
set_option maxHeartbeats 4000000 in
theorem len64_ev (m : Nat) (hm : m < 18446744073709551616) (n : Nat) (h : AH) : Ev Tryd.prog none' 40 #[.int .u64 (m : Nat)] n h (.int .i64 (bl m : Nat)) n h := by
  refine RF.pure rfl fun n' hn => ?_
  refine RF.of Tryd.func40 rfl rfl (Nat.le_of_ble_eq_true rfl) ?_; dsimp only [argEnv]
  have s8 := shD (m : Int) m rfl 8 256 rfl
  have s16 := shD (m : Int) m rfl 16 65536 rfl
  have s32 := shD (m : Int) m rfl 32 4294967296 rfl
  have s168 := shD _ _ s16 8 256 rfl
  have s328 := shD _ _ s32 8 256 rfl
  have s3216 := shD _ _ s32 16 65536 rfl
  have s32168 := shD _ _ s3216 8 256 rfl
  rcases (by omega : m < 256 ∨ (256 ≤ m ∧ m < 65536) ∨ (65536 ≤ m ∧ m < 16777216) ∨ (16777216 ≤ m ∧ m < 4294967296) ∨ (4294967296 ≤ m ∧ m < 1099511627776) ∨ (1099511627776 ≤ m ∧ m < 281474976710656) ∨ (281474976710656 ≤ m ∧ m < 72057594037927936) ∨ 72057594037927936 ≤ m) with q | q | q | q | q | q | q | q
  all_goals repeat' (first | refine stpS ?_ | (refine stp2 ?_ ?_ <;> intro _))
  · have hk : m < 256 := by omega
    refine RS.put (v := .int .u8 (UInt8.ofNat (bl (m))).toNat) rfl rfl (op_indexS Uc.out (Opd.ev opd) (Opd.ev opd) (Int.natCast_nonneg _) ?_) ?_
    · rw [Int.toNat_natCast]
      generalize m = k at hk ⊢
      revert hk
      revert k
      decide +kernel
    · have hb := bl_le (k := 8) hk
      rw [show (UInt8.ofNat (bl (m))).toNat = bl (m) by rw [UInt8.toNat_ofNat', Nat.mod_eq_of_lt (by omega)]]
      repeat' (first | refine stpS ?_ | (refine stp2 ?_ ?_ <;> intro _))
      exact congrArg (Value.int .i64) (by omega)
  · have hk : m / 256 < 256 := by omega
    rw [s8]
    refine RS.put (v := .int .u8 (UInt8.ofNat (bl (m / 256))).toNat) rfl rfl (op_indexS Uc.out (Opd.ev opd) (Opd.ev opd) (Int.natCast_nonneg _) ?_) ?_
    · rw [Int.toNat_natCast]
      generalize m / 256 = k at hk ⊢
      revert hk
      revert k
      decide +kernel
    · have hb := bl_le (k := 8) hk
      have hs : bl m = 8 + bl (m / 256) := by
        have := bl_shift (m := m) (k := 8) (by omega)
        rw [this]
      rw [show (UInt8.ofNat (bl (m / 256))).toNat = bl (m / 256) by rw [UInt8.toNat_ofNat', Nat.mod_eq_of_lt (by omega)]]
      repeat' (first | refine stpS ?_ | (refine stp2 ?_ ?_ <;> intro _))
      exact congrArg (Value.int .i64) (by omega)
  · have hk : m / 65536 < 256 := by omega
    rw [s16]
    refine RS.put (v := .int .u8 (UInt8.ofNat (bl (m / 65536))).toNat) rfl rfl (op_indexS Uc.out (Opd.ev opd) (Opd.ev opd) (Int.natCast_nonneg _) ?_) ?_
    · rw [Int.toNat_natCast]
      generalize m / 65536 = k at hk ⊢
      revert hk
      revert k
      decide +kernel
    · have hb := bl_le (k := 8) hk
      have hs : bl m = 16 + bl (m / 65536) := by
        have := bl_shift (m := m) (k := 16) (by omega)
        rw [this]
      rw [show (UInt8.ofNat (bl (m / 65536))).toNat = bl (m / 65536) by rw [UInt8.toNat_ofNat', Nat.mod_eq_of_lt (by omega)]]
      repeat' (first | refine stpS ?_ | (refine stp2 ?_ ?_ <;> intro _))
      exact congrArg (Value.int .i64) (by omega)
  · have hk : m / 65536 / 256 < 256 := by omega
    rw [s168]
    refine RS.put (v := .int .u8 (UInt8.ofNat (bl (m / 65536 / 256))).toNat) rfl rfl (op_indexS Uc.out (Opd.ev opd) (Opd.ev opd) (Int.natCast_nonneg _) ?_) ?_
    · rw [Int.toNat_natCast]
      generalize m / 65536 / 256 = k at hk ⊢
      revert hk
      revert k
      decide +kernel
    · have hb := bl_le (k := 8) hk
      have hs : bl m = 24 + bl (m / 65536 / 256) := by
        have := bl_shift (m := m) (k := 24) (by omega)
        rw [this]; congr 2; simp only [Nat.div_div_eq_div_mul]
      rw [show (UInt8.ofNat (bl (m / 65536 / 256))).toNat = bl (m / 65536 / 256) by rw [UInt8.toNat_ofNat', Nat.mod_eq_of_lt (by omega)]]
      repeat' (first | refine stpS ?_ | (refine stp2 ?_ ?_ <;> intro _))
      exact congrArg (Value.int .i64) (by omega)
  · have hk : m / 4294967296 < 256 := by omega
    rw [s32]
    refine RS.put (v := .int .u8 (UInt8.ofNat (bl (m / 4294967296))).toNat) rfl rfl (op_indexS Uc.out (Opd.ev opd) (Opd.ev opd) (Int.natCast_nonneg _) ?_) ?_
    · rw [Int.toNat_natCast]
      generalize m / 4294967296 = k at hk ⊢
      revert hk
      revert k
      decide +kernel
    · have hb := bl_le (k := 8) hk
      have hs : bl m = 32 + bl (m / 4294967296) := by
        have := bl_shift (m := m) (k := 32) (by omega)
        rw [this]
      rw [show (UInt8.ofNat (bl (m / 4294967296))).toNat = bl (m / 4294967296) by rw [UInt8.toNat_ofNat', Nat.mod_eq_of_lt (by omega)]]
      repeat' (first | refine stpS ?_ | (refine stp2 ?_ ?_ <;> intro _))
      exact congrArg (Value.int .i64) (by omega)
  · have hk : m / 4294967296 / 256 < 256 := by omega
    rw [s328]
    refine RS.put (v := .int .u8 (UInt8.ofNat (bl (m / 4294967296 / 256))).toNat) rfl rfl (op_indexS Uc.out (Opd.ev opd) (Opd.ev opd) (Int.natCast_nonneg _) ?_) ?_
    · rw [Int.toNat_natCast]
      generalize m / 4294967296 / 256 = k at hk ⊢
      revert hk
      revert k
      decide +kernel
    · have hb := bl_le (k := 8) hk
      have hs : bl m = 40 + bl (m / 4294967296 / 256) := by
        have := bl_shift (m := m) (k := 40) (by omega)
        rw [this]; congr 2; simp only [Nat.div_div_eq_div_mul]
      rw [show (UInt8.ofNat (bl (m / 4294967296 / 256))).toNat = bl (m / 4294967296 / 256) by rw [UInt8.toNat_ofNat', Nat.mod_eq_of_lt (by omega)]]
      repeat' (first | refine stpS ?_ | (refine stp2 ?_ ?_ <;> intro _))
      exact congrArg (Value.int .i64) (by omega)
  · have hk : m / 4294967296 / 65536 < 256 := by omega
    rw [s3216]
    refine RS.put (v := .int .u8 (UInt8.ofNat (bl (m / 4294967296 / 65536))).toNat) rfl rfl (op_indexS Uc.out (Opd.ev opd) (Opd.ev opd) (Int.natCast_nonneg _) ?_) ?_
    · rw [Int.toNat_natCast]
      generalize m / 4294967296 / 65536 = k at hk ⊢
      revert hk
      revert k
      decide +kernel
    · have hb := bl_le (k := 8) hk
      have hs : bl m = 48 + bl (m / 4294967296 / 65536) := by
        have := bl_shift (m := m) (k := 48) (by omega)
        rw [this]; congr 2; simp only [Nat.div_div_eq_div_mul]
      rw [show (UInt8.ofNat (bl (m / 4294967296 / 65536))).toNat = bl (m / 4294967296 / 65536) by rw [UInt8.toNat_ofNat', Nat.mod_eq_of_lt (by omega)]]
      repeat' (first | refine stpS ?_ | (refine stp2 ?_ ?_ <;> intro _))
      exact congrArg (Value.int .i64) (by omega)
  · have hk : m / 4294967296 / 65536 / 256 < 256 := by omega
    rw [s32168]
    refine RS.put (v := .int .u8 (UInt8.ofNat (bl (m / 4294967296 / 65536 / 256))).toNat) rfl rfl (op_indexS Uc.out (Opd.ev opd) (Opd.ev opd) (Int.natCast_nonneg _) ?_) ?_
    · rw [Int.toNat_natCast]
      generalize m / 4294967296 / 65536 / 256 = k at hk ⊢
      revert hk
      revert k
      decide +kernel
    · have hb := bl_le (k := 8) hk
      have hs : bl m = 56 + bl (m / 4294967296 / 65536 / 256) := by
        have := bl_shift (m := m) (k := 56) (by omega)
        rw [this]; congr 2; simp only [Nat.div_div_eq_div_mul]
      rw [show (UInt8.ofNat (bl (m / 4294967296 / 65536 / 256))).toNat = bl (m / 4294967296 / 65536 / 256) by rw [UInt8.toNat_ofNat', Nat.mod_eq_of_lt (by omega)]]
      repeat' (first | refine stpS ?_ | (refine stp2 ?_ ?_ <;> intro _))
      exact congrArg (Value.int .i64) (by omega)
end Go.Proofs.YtflhhipemmlgpaaDoor
