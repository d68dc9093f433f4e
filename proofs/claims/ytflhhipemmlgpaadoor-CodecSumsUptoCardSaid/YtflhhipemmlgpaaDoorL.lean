/- Contracts of codec: the sum. -/
import Derived.Test.YtflhhipemmlgpaaDoorK
set_option linter.unusedSimpArgs false
set_option linter.unusedVariables false
namespace Go.Proofs.YtflhhipemmlgpaaDoor
open Go.Abs

set_option maxHeartbeats 4000000 in
theorem sum_ev (ls : List (List UInt8)) (ad : Nat → Option Addr) (a : Option Addr) (m n : Nat) (h : AH) (S : SlQ h n a ad ls) (e : m = ls.length) (hm : m ≤ 1099511627776) (ht : ls.flatten.length ≤ 1099511627776) :
    Ev Tryd.prog none' 18 #[.slice a m m] n h (.int .u32 (crc ls.flatten : Nat)) n h := by
  subst e
  refine RF.pure rfl fun n' hn => ?_
  have S := S.ext (Ext.refl n h) hn
  refine RF.of Tryd.func18 rfl rfl (Nat.le_of_ble_eq_true rfl) ?_; dsimp only [argEnv]
  repeat' (first | refine stpS ?_ | (refine stp2 ?_ ?_ <;> intro _))
  refine RS.call rfl opds (concat_rf ls ad a _ _ _ S rfl hm ht) none'W ?_
  rintro r n1 h1 hle ⟨a1, rfl, hE1, hO1⟩
  generalize ls.flatten = l at *
  have S1 : SlB h1 n1 a1 l := OwnSl.slbE hO1
  repeat' (first | refine stpS ?_ | (refine stp2 ?_ ?_ <;> intro _))
  refine RC.loop ?_
  refine RL.inv (α := Nat) (fun i => [(9, .int .i64 (i : Nat)), (8, .int .i64 (l.length : Nat)), (7, .slice a1 l.length l.length), (3, .int .u32 (crcR (l.take i) : Nat))])
    (fun i n2 h2 => i ≤ l.length ∧ n2 = n1 ∧ h2 = h1)
    (fun i => l.length - i) 0 envs ⟨by omega, rfl, rfl⟩ ?_
  rintro i n2 h2 ⟨hi, rfl, rfl⟩
  have hc := crcR_lt (l.take i)
  by_cases hlt : i < l.length
  · have hsu := crcR_succ l i hlt
    have hb : (l.getD (i : Int).toNat 0).toNat < 256 := UInt8.toNat_lt _
    repeat' (first | refine stpS ?_ | (refine stp2 ?_ ?_ <;> intro _))
    simp only [Int.toNat_natCast]
    obtain ⟨c0, hc0⟩ : ∃ c0, c0 = crcR (l.take i) ^^^ (l.getD i 0).toNat := ⟨_, rfl⟩
    have hc0l : c0 < 4294967296 := by rw [hc0]; exact xor_lt hc (by have := (l.getD i 0).toNat_lt; omega)
    have hby : crcR (l.take (i + 1)) = stepN 8 c0 := by rw [hsu, hc0]; rfl
    rw [← hc0]
    refine RC.loop ?_
    refine RL.inv (α := Nat) (fun k => [(17, .int .i64 (k : Nat)), (3, .int .u32 (stepN k c0 : Nat)), (9, .int .i64 (i : Nat)), (8, .int .i64 (l.length : Nat)), (7, .slice a1 l.length l.length)])
      (fun k n3 h3 => k ≤ 8 ∧ n3 = n2 ∧ h3 = h2)
      (fun k => 8 - k) 0 envs ⟨by omega, rfl, rfl⟩ ?_
    rintro k n3 h3 ⟨hk, rfl, rfl⟩
    have hsl := stepN_lt hc0l k
    have hst : stepN (k + 1) c0 = step (stepN k c0) := rfl
    unfold step at hst
    by_cases hk8 : k < 8
    · iterate 40 (try refine stpS ?_)
      by_cases hodd : stepN k c0 % 2 = 1
      · rw [if_pos hodd] at hst
        have hw : IntKind.u32.wrap (0 - (stepN k c0 : Int) % 2) = 4294967295 := by
          rw [show (stepN k c0 : Int) % 2 = 1 by omega]; rfl
        rw [hw]
        repeat' (first | refine stpS ?_ | (refine stp2 ?_ ?_ <;> intro _))
        rw [show ((stepN k c0 : Int) / 2).toNat = stepN k c0 / 2 by omega, show ((2197175160 : Int) % 4294967296).toNat = 2197175160 from rfl, ← hst]
        exact nextC.normal ⟨k + 1, by omega, envs, by omega, rfl, rfl⟩
      · rw [if_neg hodd] at hst
        have hw : IntKind.u32.wrap (0 - (stepN k c0 : Int) % 2) = 0 := by
          rw [show (stepN k c0 : Int) % 2 = 0 by omega]; rfl
        rw [hw]
        repeat' (first | refine stpS ?_ | (refine stp2 ?_ ?_ <;> intro _))
        rw [show ((stepN k c0 : Int) / 2).toNat = stepN k c0 / 2 by omega, show ((2197175160 : Int) % 1).toNat = 0 from rfl, Nat.xor_zero, ← hst]
        exact nextC.normal ⟨k + 1, by omega, envs, by omega, rfl, rfl⟩
    · obtain rfl : k = 8 := by omega
      rw [← hby]
      repeat' (first | refine stpS ?_ | (refine stp2 ?_ ?_ <;> intro _))
      exact nextC.normal ⟨i + 1, by omega, envs, by omega, rfl, rfl⟩
  · obtain rfl : i = l.length := by omega
    rw [List.take_of_length_le (Nat.le_refl _)] at hc ⊢
    repeat' (first | refine stpS ?_ | (refine stp2 ?_ ?_ <;> intro _))
    exact congrArg (Value.int .u32) (by unfold crc; omega)
end Go.Proofs.YtflhhipemmlgpaaDoor
