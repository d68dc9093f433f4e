/- Contracts of the document's sum. -/
import Derived.Test.YtflhhipemmlgpaaDoorJ
set_option linter.unusedSimpArgs false
set_option linter.unusedVariables false
namespace Go.Proofs.YtflhhipemmlgpaaDoor
open Go.Abs

def step (c : Nat) : Nat := if c % 2 = 1 then (c / 2) ^^^ 2197175160 else c / 2
def stepN : Nat → Nat → Nat
  | 0, c => c
  | k + 1, c => step (stepN k c)
def byteStep (c : Nat) (b : UInt8) : Nat := stepN 8 (c ^^^ b.toNat)
def crcR (l : List UInt8) : Nat := l.foldl byteStep 4294967295
def crc (l : List UInt8) : Nat := 4294967295 - crcR l
theorem step_lt {c : Nat} (h : c < 4294967296) : step c < 4294967296 := by
  unfold step
  split
  · exact Nat.xor_lt_two_pow (n := 32) (by omega) (by omega)
  · omega
theorem stepN_lt {c : Nat} (h : c < 4294967296) (k : Nat) : stepN k c < 4294967296 := by
  induction k with
  | zero => exact h
  | succ k ih => exact step_lt ih
theorem xor_lt {c d : Nat} (h : c < 4294967296) (g : d < 4294967296) : c ^^^ d < 4294967296 := Nat.xor_lt_two_pow (n := 32) h g
theorem byteStep_lt {c : Nat} (h : c < 4294967296) (b : UInt8) : byteStep c b < 4294967296 := stepN_lt (xor_lt h (by have := b.toNat_lt; omega)) 8
theorem foldl_lt (l : List UInt8) : ∀ c, c < 4294967296 → l.foldl byteStep c < 4294967296 := by
  induction l with
  | nil => exact fun c h => h
  | cons b l ih => exact fun c h => ih _ (byteStep_lt h b)
theorem crcR_lt (l : List UInt8) : crcR l < 4294967296 := foldl_lt l _ (by omega)
theorem crcR_succ (l : List UInt8) (i : Nat) (hi : i < l.length) : crcR (l.take (i + 1)) = byteStep (crcR (l.take i)) (l.getD i 0) := by
  unfold crcR
  rw [List.take_succ_eq_append_getElem hi, List.foldl_append]
  simp [List.getD, hi]
set_option maxHeartbeats 4000000 in
theorem refSum_ev (l : List UInt8) (a : Option Addr) (m n : Nat) (h : AH) (S : SlB h n a l) (e : m = l.length) (hm : m ≤ 1099511627776) :
    Ev Tryd.prog none' 19 #[.slice a m m] n h (.int .u32 (crc l : Nat)) n h := by
  subst e
  refine RF.pure rfl fun n' hn => ?_
  have S := S.ext (Ext.refl n h) hn
  refine RF.of Tryd.func19 rfl rfl (Nat.le_of_ble_eq_true rfl) ?_; dsimp only [argEnv]
  repeat' (first | refine stpS ?_ | (refine stp2 ?_ ?_ <;> intro _))
  refine RC.loop ?_
  refine RL.inv (α := Nat) (fun i => [(4, .int .i64 (i : Nat)), (3, .int .u32 (crcR (l.take i) : Nat)), (0, .slice a l.length l.length)])
    (fun i n1 h1 => i ≤ l.length ∧ n1 = n' ∧ h1 = h)
    (fun i => l.length - i) 0 envs ⟨by omega, rfl, rfl⟩ ?_
  rintro i n1 h1 ⟨hi, rfl, rfl⟩
  have hc := crcR_lt (l.take i)
  by_cases hlt : i < l.length
  · have hsu := crcR_succ l i hlt
    have hb : (l.getD (i : Int).toNat 0).toNat < 256 := UInt8.toNat_lt _
    repeat' (first | refine stpS ?_ | (refine stp2 ?_ ?_ <;> intro _))
    simp only [Int.toNat_natCast]
    obtain ⟨c0, hc0⟩ : ∃ c0, c0 = crcR (l.take i) ^^^ (l.getD i 0).toNat := ⟨_, rfl⟩
    have hc0l : c0 < 4294967296 := by rw [hc0]; exact xor_lt hc (by have := (l.getD i 0).toNat_lt; omega)
    have hby : crcR (l.take (i + 1)) = stepN 8 c0 := by rw [hsu, hc0]; rfl
    rw [← hc0]
    refine RC.loop ?_
    refine RL.inv (α := Nat) (fun k => [(5, .int .i64 (k : Nat)), (3, .int .u32 (stepN k c0 : Nat)), (4, .int .i64 (i : Nat)), (0, .slice a l.length l.length)])
      (fun k n2 h2 => k ≤ 8 ∧ n2 = n1 ∧ h2 = h1)
      (fun k => 8 - k) 0 envs ⟨by omega, rfl, rfl⟩ ?_
    rintro k n2 h2 ⟨hk, rfl, rfl⟩
    have hsl := stepN_lt hc0l k
    have hst : stepN (k + 1) c0 = step (stepN k c0) := rfl
    unfold step at hst
    by_cases hk8 : k < 8
    · by_cases hodd : stepN k c0 % 2 = 1
      · rw [if_pos hodd] at hst
        repeat' (first | refine stpS ?_ | (refine stp2 ?_ ?_ <;> intro _))
        rw [show ((stepN k c0 : Int) / 2).toNat = stepN k c0 / 2 by omega, show Int.toNat 2197175160 = 2197175160 from rfl, ← hst]
        exact nextC.normal ⟨k + 1, by omega, envs, by omega, rfl, rfl⟩
      · rw [if_neg hodd] at hst
        repeat' (first | refine stpS ?_ | (refine stp2 ?_ ?_ <;> intro _))
        refine nextC.normal ⟨k + 1, by omega, ?_, by omega, rfl, rfl⟩
        rw [hst, Int.natCast_ediv]
        exact envs
    · obtain rfl : k = 8 := by omega
      rw [← hby]
      repeat' (first | refine stpS ?_ | (refine stp2 ?_ ?_ <;> intro _))
      exact nextC.normal ⟨i + 1, by omega, envs, by omega, rfl, rfl⟩
  · obtain rfl : i = l.length := by omega
    rw [List.take_of_length_le (Nat.le_refl _)] at hc ⊢
    repeat' (first | refine stpS ?_ | (refine stp2 ?_ ?_ <;> intro _))
    exact congrArg (Value.int .u32) (by unfold crc; omega)
end Go.Proofs.YtflhhipemmlgpaaDoor
