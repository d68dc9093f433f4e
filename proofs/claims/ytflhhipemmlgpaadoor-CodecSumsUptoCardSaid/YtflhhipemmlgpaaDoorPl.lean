/- The plain law of forms. -/
import Derived.Test.YtflhhipemmlgpaaDoorTy
import Derived.Test.YtflhhipemmlgpaaDoorAbsIt
set_option linter.unusedSimpArgs false
set_option linter.unusedVariables false
namespace Go.Proofs.YtflhhipemmlgpaaDoor
open Go.Abs

/-- How many bits a number has. -/
def bl (m : Nat) : Nat := if m = 0 then 0 else Nat.log2 m + 1
/-- How many bytes a number takes; at least one. -/
def nb (m : Nat) : Nat := max 1 ((bl m + 7) / 8)
/-- The bytes of a number, the great ones first. -/
def be (k m : Nat) : List UInt8 := (List.range k).map fun i => UInt8.ofNat (m / 256 ^ (k - 1 - i))
def formUp (n : Nat) : List UInt8 := if n < 120 then [UInt8.ofNat (128 + n)] else UInt8.ofNat (247 + nb (n - 120)) :: be (nb (n - 120)) (n - 120)
def turn (l : List UInt8) : List UInt8 := l.map (255 - ·)
def form (n : Int) : List UInt8 := if n < 0 then turn (formUp (-n - 1).toNat) else formUp n.toNat
theorem bl_le {m k : Nat} (h : m < 2 ^ k) : bl m ≤ k := by
  unfold bl
  split
  · omega
  · rename_i q
    have := (Nat.log2_lt q).2 h
    omega
theorem bl_shift {m k : Nat} (h : 2 ^ k ≤ m) : bl m = k + bl (m / 2 ^ k) := by
  have hm : m ≠ 0 := fun e => by subst e; have := Nat.two_pow_pos k; omega
  have hd : 0 < m / 2 ^ k := Nat.div_pos h (Nat.two_pow_pos k)
  unfold bl
  rw [if_neg hm, if_neg (by omega)]
  have h1 : Nat.log2 m = Nat.log2 (m / 2 ^ k) + k := by
    rw [Nat.log2_eq_iff hm]
    have hd' : m / 2 ^ k ≠ 0 := by omega
    have a1 := Nat.log2_self_le hd'
    have a2 : m / 2 ^ k < 2 ^ (Nat.log2 (m / 2 ^ k) + 1) := Nat.lt_log2_self
    have hp := Nat.two_pow_pos k
    constructor
    · rw [Nat.pow_add]
      exact Nat.le_trans (Nat.mul_le_mul_right _ a1) (Nat.div_mul_le_self m (2 ^ k))
    · rw [show Nat.log2 (m / 2 ^ k) + k + 1 = (Nat.log2 (m / 2 ^ k) + 1) + k by omega, Nat.pow_add]
      exact (Nat.div_lt_iff_lt_mul hp).1 a2
  omega
theorem be_length (k m : Nat) : (be k m).length = k := by simp [be]
theorem nb_pos (m : Nat) : 1 ≤ nb m := Nat.le_max_left _ _
theorem nb_le {m : Nat} (h : m < 2 ^ 63) : nb m ≤ 8 := by
  have := bl_le h
  unfold nb; omega
theorem formUp_length (n : Nat) : (formUp n).length = if n < 120 then 1 else 1 + nb (n - 120) := by
  unfold formUp
  split
  · rfl
  · rw [List.length_cons, be_length]; omega
theorem form_length (n : Int) : (form n).length = (formUp (if n < 0 then (-n - 1).toNat else n.toNat)).length := by
  unfold form turn
  split <;> simp
end Go.Proofs.YtflhhipemmlgpaaDoor
