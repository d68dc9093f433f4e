/- Whole numbers' operations, a law a kind (written by gen_num.py). -/
import Derived.Test.YtflhhipemmlgpaaDoorAbsStep5
import Derived.Test.YtflhhipemmlgpaaDoorAbsRows2
set_option linter.unusedSimpArgs false
set_option linter.unusedVariables false
namespace Go.Abs
open Go.RowKit

section
variable {P : Program} {T : Nat → Prop} {env : Env} {n : Nat} {g : AH}
variable {dst : Option Tmp} {ty : TypeId} {pos : String} {after : Array Edge} {gd : Option (Nat × Bool)}
theorem nat_shr_lt {x k : Nat} {c : Int} (h : (x : Int) < c) : ((x >>> k : Nat) : Int) < c := by
  have : x >>> k ≤ x := by rw [Nat.shiftRight_eq_div_pow]; exact Nat.div_le_self _ _
  omega
theorem nat_and_lt {x y : Nat} {c : Int} (h : (x : Int) < c) : ((x &&& y : Nat) : Int) < c := by
  have : x &&& y ≤ x := Nat.and_le_left
  omega
theorem nat_and_lt2 {x y : Nat} {c : Int} (h : (y : Int) < c) : ((x &&& y : Nat) : Int) < c := by
  have : x &&& y ≤ y := Nat.and_le_right
  omega
theorem o_shrN {t t' : TypeId} {x y : Operand} {k yk : IntKind} {a b : Int} (hx : Opd env x (.int k a)) (hy : Opd env y (.int yk b)) (h0 : 0 ≤ a) (hb : 0 ≤ b) (ha : a < 2 ^ k.bits) :
    OpEv P T ⟨dst, .binOp .shr t x y t', ty, pos, after, gd⟩ env n g (.int k ((a.toNat >>> b.toNat : Nat) : Int)) n .nil := by
  have := o_shr (P := P) (T := T) (n := n) (g := g) (dst := dst) (ty := ty) (pos := pos) (after := after) (gd := gd) (t := t) (t' := t') hx hy hb
  obtain ⟨x, rfl⟩ := Int.eq_ofNat_of_zero_le h0
  have e : Int.fdiv (x : Int) (2 ^ (min b.toNat k.bits)) = (((x : Int).toNat >>> b.toNat : Nat) : Int) := by
    rw [Int.fdiv_eq_ediv_of_nonneg _ (Int.le_of_lt (Int.pow_pos (by decide))), Int.toNat_natCast, Nat.shiftRight_eq_div_pow]
    have hx : x < 2 ^ k.bits := by exact_mod_cast ha
    rcases Nat.lt_or_ge b.toNat k.bits with h | h
    · rw [Nat.min_eq_left (by omega)]; push_cast; rfl
    · rw [Nat.min_eq_right h, Nat.div_eq_of_lt (Nat.lt_of_lt_of_le hx (Nat.pow_le_pow_right (by decide) h))]
      rw [Int.ediv_eq_zero_of_lt (by omega) (by exact_mod_cast hx)]; rfl
  rw [e] at this; exact this

theorem o_and_u8 {t t' : TypeId} {x y : Operand} {a b : Int} (hx : Opd env x (.int .u8 a)) (hy : Opd env y (.int .u8 b)) (h0 : 0 ≤ a) (h1 : 0 ≤ b) (h2 : a < 256) (h3 : b < 256) :
    OpEv P T ⟨dst, .binOp .and t x y t', ty, pos, after, gd⟩ env n g (.int .u8 ((a.toNat &&& b.toNat : Nat) : Int)) n .nil := op_bin hx.ev hy.ev (by
      have e : _ = a.toNat &&& b.toNat := bv_and 8 h0 h1 (by omega) (by omega)
      have l : a.toNat &&& b.toNat < 256 := Nat.lt_of_le_of_lt Nat.and_le_left (by omega)
      show some (Value.int .u8 (IntKind.wrap .u8 _)) = _
      rw [show IntKind.bits .u8 = 8 from rfl, e]
      rw [wrapU rfl (by omega) (by show _ < (2 : Int) ^ 8; omega)])
theorem o_or_u8 {t t' : TypeId} {x y : Operand} {a b : Int} (hx : Opd env x (.int .u8 a)) (hy : Opd env y (.int .u8 b)) (h0 : 0 ≤ a) (h1 : 0 ≤ b) (h2 : a < 256) (h3 : b < 256) :
    OpEv P T ⟨dst, .binOp .or t x y t', ty, pos, after, gd⟩ env n g (.int .u8 ((a.toNat ||| b.toNat : Nat) : Int)) n .nil := op_bin hx.ev hy.ev (by
      have e : _ = a.toNat ||| b.toNat := bv_or 8 h0 h1 (by omega) (by omega)
      have l : a.toNat ||| b.toNat < 256 := Nat.or_lt_two_pow (n := 8) (by omega) (by omega)
      show some (Value.int .u8 (IntKind.wrap .u8 _)) = _
      rw [show IntKind.bits .u8 = 8 from rfl, e]
      rw [wrapU rfl (by omega) (by show _ < (2 : Int) ^ 8; omega)])
theorem o_xor_u8 {t t' : TypeId} {x y : Operand} {a b : Int} (hx : Opd env x (.int .u8 a)) (hy : Opd env y (.int .u8 b)) (h0 : 0 ≤ a) (h1 : 0 ≤ b) (h2 : a < 256) (h3 : b < 256) :
    OpEv P T ⟨dst, .binOp .xor t x y t', ty, pos, after, gd⟩ env n g (.int .u8 ((a.toNat ^^^ b.toNat : Nat) : Int)) n .nil := op_bin hx.ev hy.ev (by
      have e : _ = a.toNat ^^^ b.toNat := bv_xor 8 h0 h1 (by omega) (by omega)
      have l : a.toNat ^^^ b.toNat < 256 := Nat.xor_lt_two_pow (n := 8) (by omega) (by omega)
      show some (Value.int .u8 (IntKind.wrap .u8 _)) = _
      rw [show IntKind.bits .u8 = 8 from rfl, e]
      rw [wrapU rfl (by omega) (by show _ < (2 : Int) ^ 8; omega)])
theorem o_andNot_u8 {t t' : TypeId} {x y : Operand} {a b : Int} (hx : Opd env x (.int .u8 a)) (hy : Opd env y (.int .u8 b)) (h0 : 0 ≤ a) (h1 : 0 ≤ b) (h2 : a < 256) (h3 : b < 256) :
    OpEv P T ⟨dst, .binOp .andNot t x y t', ty, pos, after, gd⟩ env n g (.int .u8 ((a.toNat &&& (255 - b.toNat) : Nat) : Int)) n .nil := op_bin hx.ev hy.ev (by
      have e : _ = a.toNat &&& (255 - b.toNat) := bv_andNot 8 h0 h1 (by omega) (by omega)
      have l : a.toNat &&& (255 - b.toNat) < 256 := Nat.lt_of_le_of_lt Nat.and_le_left (by omega)
      show some (Value.int .u8 (IntKind.wrap .u8 _)) = _
      rw [show IntKind.bits .u8 = 8 from rfl, e]
      rw [wrapU rfl (by omega) (by show _ < (2 : Int) ^ 8; omega)])
/-- With a mask of the lowest bits: the rest of a division. -/
theorem o_mask_u8 {t t' : TypeId} {x y : Operand} {a b m : Int} (hx : Opd env x (.int .u8 a)) (hy : Opd env y (.int .u8 b)) (h0 : 0 ≤ a) (h1 : 0 ≤ b) (h3 : b < 256) (hm : b + 1 = m) (hp : (2 : Nat) ^ (Nat.log2 (b.toNat + 1)) = b.toNat + 1) :
    OpEv P T ⟨dst, .binOp .and t x y t', ty, pos, after, gd⟩ env n g (.int .u8 (a % m)) n .nil := op_bin hx.ev hy.ev (by
      obtain ⟨x, rfl⟩ := Int.eq_ofNat_of_zero_le h0
      obtain ⟨y, rfl⟩ := Int.eq_ofNat_of_zero_le h1
      have hy : y < 256 := by omega
      rw [Int.toNat_natCast] at hp
      have hj : Nat.log2 (y + 1) ≤ 8 := (Nat.pow_le_pow_iff_right (a := 2) (by decide)).1 (by rw [hp]; omega)
      have e : (BitVec.ofInt 8 (x : Int) &&& BitVec.ofInt 8 (y : Int)).toNat = x % (y + 1) := by
        rw [BitVec.toNat_and, BitVec.ofInt_natCast, BitVec.ofInt_natCast, BitVec.toNat_ofNat, BitVec.toNat_ofNat, Nat.mod_eq_of_lt (a := y) (by omega)]
        have hy' : y = 2 ^ (Nat.log2 (y + 1)) - 1 := by rw [hp]; omega
        rw [hy', Nat.and_two_pow_sub_one_eq_mod, ← hy', Nat.mod_mod_of_dvd _ (Nat.pow_dvd_pow 2 hj), hp]
      have l : x % (y + 1) < y + 1 := Nat.mod_lt _ (by omega)
      show some (Value.int .u8 (IntKind.wrap .u8 _)) = _
      rw [show IntKind.bits .u8 = 8 from rfl, e]
      rw [wrapU rfl (by omega) (by show _ < (2 : Int) ^ 8; omega)]
      subst hm
      rw [Int.natCast_emod]; rfl)
theorem o_shrN_u8 {t t' : TypeId} {x y : Operand} {yk : IntKind} {a b : Int} (hx : Opd env x (.int .u8 a)) (hy : Opd env y (.int yk b)) (h0 : 0 ≤ a) (hb : 0 ≤ b) (ha : a < 256) :
    OpEv P T ⟨dst, .binOp .shr t x y t', ty, pos, after, gd⟩ env n g (.int .u8 ((a.toNat >>> b.toNat : Nat) : Int)) n .nil := o_shrN hx hy h0 hb (by show _ < (2 : Int) ^ 8; omega)
theorem o_shl_u8 {t t' : TypeId} {x y : Operand} {yk : IntKind} {a b : Int} (hx : Opd env x (.int .u8 a)) (hy : Opd env y (.int yk b)) (h0 : 0 ≤ a) (hb : 0 ≤ b) :
    OpEv P T ⟨dst, .binOp .shl t x y t', ty, pos, after, gd⟩ env n g (.int .u8 (((a.toNat <<< b.toNat) % 256 : Nat) : Int)) n .nil := by
  have := o_shl (P := P) (T := T) (n := n) (g := g) (dst := dst) (ty := ty) (pos := pos) (after := after) (gd := gd) (t := t) (t' := t') hx hy hb
  have e : IntKind.wrap .u8 (a * 2 ^ (min b.toNat (IntKind.bits .u8))) = (((a.toNat <<< b.toNat) % 256 : Nat) : Int) := by
    show (a * 2 ^ (min b.toNat 8)) % ((2 : Int) ^ 8) = _
    obtain ⟨x, rfl⟩ := Int.eq_ofNat_of_zero_le h0
    have e1 : (Int.ofNat x).toNat = x := rfl
    have e2 : ((x : Nat) : Int) * 2 ^ (min b.toNat 8) = ((x * 2 ^ (min b.toNat 8) : Nat) : Int) := by push_cast; rfl
    rw [Nat.shiftLeft_eq, Int.toNat_natCast, e2, show ((2 : Int) ^ 8) = ((256 : Nat) : Int) from rfl, ← Int.natCast_emod]
    congr 1
    rcases Nat.lt_or_ge b.toNat 8 with h | h
    · rw [Nat.min_eq_left (by omega)]
    · rw [Nat.min_eq_right h]
      have : ∃ d, b.toNat = 8 + d := ⟨b.toNat - 8, by omega⟩
      obtain ⟨d, hd⟩ := this
      rw [hd, Nat.pow_add, show (2 : Nat) ^ 8 = 256 from rfl, ← Nat.mul_assoc, Nat.mul_assoc, Nat.mul_comm 256 (2 ^ d), ← Nat.mul_assoc, Nat.mul_mod_left, Nat.mul_mod_left]
  rw [e] at this; exact this
theorem o_compl_u8 {t : TypeId} {x : Operand} {a : Int} (hx : Opd env x (.int .u8 a)) (h0 : 0 ≤ a) (h2 : a < 256) :
    OpEv P T ⟨dst, .unOp .xor t x, ty, pos, after, gd⟩ env n g (.int .u8 (255 - a)) n .nil := by
  have := o_compl (P := P) (T := T) (n := n) (g := g) (dst := dst) (ty := ty) (pos := pos) (after := after) (gd := gd) (t := t) hx
  have e : IntKind.wrap .u8 (BitVec.ofInt (IntKind.bits .u8) (if IntKind.signed .u8 then -1 else IntKind.max .u8) ^^^ BitVec.ofInt (IntKind.bits .u8) a).toNat = 255 - a := by
    obtain ⟨x, rfl⟩ := Int.eq_ofNat_of_zero_le h0
    show (((BitVec.ofInt 8 255 ^^^ BitVec.ofInt 8 (x : Int)).toNat : Nat) : Int) % ((2 : Int) ^ 8) = _
    have h1 : BitVec.ofInt 8 255 = BitVec.allOnes 8 := by decide
    rw [h1, BitVec.allOnes_xor, BitVec.toNat_not, BitVec.ofInt_natCast, BitVec.toNat_ofNat]
    have hx : x < 256 := by omega
    rw [Nat.mod_eq_of_lt (by exact hx)]
    omega
  rw [e] at this; exact this
theorem o_conv_u8 {s t : TypeId} {x : Operand} {k : IntKind} {a : Int} {d : TypeDesc} [hs : Uc P s d] [ht : Uc P t (.int .u8)] (hx : Opd env x (.int k a)) (h0 : 0 ≤ a) (h1 : a < 256) :
    OpEv P T ⟨dst, .convert s t x, ty, pos, after, gd⟩ env n g (.int .u8 a) n .nil := by
  have := o_conv (P := P) (T := T) (n := n) (g := g) (dst := dst) (ty := ty) (pos := pos) (after := after) (gd := gd) hs.out ht.out hx
  rw [wrapU rfl h0 (by exact h1)] at this; exact this
theorem o_convM_u8 {s t : TypeId} {x : Operand} {k : IntKind} {a : Int} {d : TypeDesc} [hs : Uc P s d] [ht : Uc P t (.int .u8)] (hx : Opd env x (.int k a)) :
    OpEv P T ⟨dst, .convert s t x, ty, pos, after, gd⟩ env n g (.int .u8 (a % 256)) n .nil := by
  have := o_conv (P := P) (T := T) (n := n) (g := g) (dst := dst) (ty := ty) (pos := pos) (after := after) (gd := gd) hs.out ht.out hx
  exact this
theorem o_add_u8 {t t' : TypeId} {x y : Operand} {a b : Int} (hx : Opd env x (.int .u8 a)) (hy : Opd env y (.int .u8 b)) (h0 : 0 ≤ a + b) (h1 : a + b < 256) :
    OpEv P T ⟨dst, .binOp .add t x y t', ty, pos, after, gd⟩ env n g (.int .u8 (a + b)) n .nil := op_bin hx.ev hy.ev (by
      show some (Value.int .u8 (IntKind.wrap .u8 _)) = _
      rw [wrapU rfl h0 (by exact h1)])
theorem o_addM_u8 {t t' : TypeId} {x y : Operand} {a b : Int} (hx : Opd env x (.int .u8 a)) (hy : Opd env y (.int .u8 b)) :
    OpEv P T ⟨dst, .binOp .add t x y t', ty, pos, after, gd⟩ env n g (.int .u8 ((a + b) % 256)) n .nil := op_bin hx.ev hy.ev rfl
theorem o_sub_u8 {t t' : TypeId} {x y : Operand} {a b : Int} (hx : Opd env x (.int .u8 a)) (hy : Opd env y (.int .u8 b)) (h0 : 0 ≤ a - b) (h1 : a - b < 256) :
    OpEv P T ⟨dst, .binOp .sub t x y t', ty, pos, after, gd⟩ env n g (.int .u8 (a - b)) n .nil := op_bin hx.ev hy.ev (by
      show some (Value.int .u8 (IntKind.wrap .u8 _)) = _
      rw [wrapU rfl h0 (by exact h1)])
theorem o_subM_u8 {t t' : TypeId} {x y : Operand} {a b : Int} (hx : Opd env x (.int .u8 a)) (hy : Opd env y (.int .u8 b)) :
    OpEv P T ⟨dst, .binOp .sub t x y t', ty, pos, after, gd⟩ env n g (.int .u8 ((a - b) % 256)) n .nil := op_bin hx.ev hy.ev rfl
theorem o_mul_u8 {t t' : TypeId} {x y : Operand} {a b : Int} (hx : Opd env x (.int .u8 a)) (hy : Opd env y (.int .u8 b)) (h0 : 0 ≤ a * b) (h1 : a * b < 256) :
    OpEv P T ⟨dst, .binOp .mul t x y t', ty, pos, after, gd⟩ env n g (.int .u8 (a * b)) n .nil := op_bin hx.ev hy.ev (by
      show some (Value.int .u8 (IntKind.wrap .u8 _)) = _
      rw [wrapU rfl h0 (by exact h1)])
theorem o_mulM_u8 {t t' : TypeId} {x y : Operand} {a b : Int} (hx : Opd env x (.int .u8 a)) (hy : Opd env y (.int .u8 b)) :
    OpEv P T ⟨dst, .binOp .mul t x y t', ty, pos, after, gd⟩ env n g (.int .u8 ((a * b) % 256)) n .nil := op_bin hx.ev hy.ev rfl
theorem o_quo_u8 {t t' : TypeId} {x y : Operand} {a b : Int} (hx : Opd env x (.int .u8 a)) (hy : Opd env y (.int .u8 b)) (ha : 0 ≤ a) (hb : 0 < b) (h2 : a < 256) :
    OpEv P T ⟨dst, .binOp .quo t x y t', ty, pos, after, gd⟩ env n g (.int .u8 (a / b)) n .nil := op_bin hx.ev hy.ev (by
      have hb' : b ≠ 0 := by omega
      simp only [binI, if_neg hb', Int.tdiv_eq_ediv_of_nonneg ha]
      rw [wrapU rfl (Int.ediv_nonneg ha (by omega)) (by have := Int.ediv_le_self b ha; show _ < (2 : Int) ^ 8; omega)])
theorem o_and_u16 {t t' : TypeId} {x y : Operand} {a b : Int} (hx : Opd env x (.int .u16 a)) (hy : Opd env y (.int .u16 b)) (h0 : 0 ≤ a) (h1 : 0 ≤ b) (h2 : a < 65536) (h3 : b < 65536) :
    OpEv P T ⟨dst, .binOp .and t x y t', ty, pos, after, gd⟩ env n g (.int .u16 ((a.toNat &&& b.toNat : Nat) : Int)) n .nil := op_bin hx.ev hy.ev (by
      have e : _ = a.toNat &&& b.toNat := bv_and 16 h0 h1 (by omega) (by omega)
      have l : a.toNat &&& b.toNat < 65536 := Nat.lt_of_le_of_lt Nat.and_le_left (by omega)
      show some (Value.int .u16 (IntKind.wrap .u16 _)) = _
      rw [show IntKind.bits .u16 = 16 from rfl, e]
      rw [wrapU rfl (by omega) (by show _ < (2 : Int) ^ 16; omega)])
theorem o_or_u16 {t t' : TypeId} {x y : Operand} {a b : Int} (hx : Opd env x (.int .u16 a)) (hy : Opd env y (.int .u16 b)) (h0 : 0 ≤ a) (h1 : 0 ≤ b) (h2 : a < 65536) (h3 : b < 65536) :
    OpEv P T ⟨dst, .binOp .or t x y t', ty, pos, after, gd⟩ env n g (.int .u16 ((a.toNat ||| b.toNat : Nat) : Int)) n .nil := op_bin hx.ev hy.ev (by
      have e : _ = a.toNat ||| b.toNat := bv_or 16 h0 h1 (by omega) (by omega)
      have l : a.toNat ||| b.toNat < 65536 := Nat.or_lt_two_pow (n := 16) (by omega) (by omega)
      show some (Value.int .u16 (IntKind.wrap .u16 _)) = _
      rw [show IntKind.bits .u16 = 16 from rfl, e]
      rw [wrapU rfl (by omega) (by show _ < (2 : Int) ^ 16; omega)])
theorem o_xor_u16 {t t' : TypeId} {x y : Operand} {a b : Int} (hx : Opd env x (.int .u16 a)) (hy : Opd env y (.int .u16 b)) (h0 : 0 ≤ a) (h1 : 0 ≤ b) (h2 : a < 65536) (h3 : b < 65536) :
    OpEv P T ⟨dst, .binOp .xor t x y t', ty, pos, after, gd⟩ env n g (.int .u16 ((a.toNat ^^^ b.toNat : Nat) : Int)) n .nil := op_bin hx.ev hy.ev (by
      have e : _ = a.toNat ^^^ b.toNat := bv_xor 16 h0 h1 (by omega) (by omega)
      have l : a.toNat ^^^ b.toNat < 65536 := Nat.xor_lt_two_pow (n := 16) (by omega) (by omega)
      show some (Value.int .u16 (IntKind.wrap .u16 _)) = _
      rw [show IntKind.bits .u16 = 16 from rfl, e]
      rw [wrapU rfl (by omega) (by show _ < (2 : Int) ^ 16; omega)])
theorem o_andNot_u16 {t t' : TypeId} {x y : Operand} {a b : Int} (hx : Opd env x (.int .u16 a)) (hy : Opd env y (.int .u16 b)) (h0 : 0 ≤ a) (h1 : 0 ≤ b) (h2 : a < 65536) (h3 : b < 65536) :
    OpEv P T ⟨dst, .binOp .andNot t x y t', ty, pos, after, gd⟩ env n g (.int .u16 ((a.toNat &&& (65535 - b.toNat) : Nat) : Int)) n .nil := op_bin hx.ev hy.ev (by
      have e : _ = a.toNat &&& (65535 - b.toNat) := bv_andNot 16 h0 h1 (by omega) (by omega)
      have l : a.toNat &&& (65535 - b.toNat) < 65536 := Nat.lt_of_le_of_lt Nat.and_le_left (by omega)
      show some (Value.int .u16 (IntKind.wrap .u16 _)) = _
      rw [show IntKind.bits .u16 = 16 from rfl, e]
      rw [wrapU rfl (by omega) (by show _ < (2 : Int) ^ 16; omega)])
/-- With a mask of the lowest bits: the rest of a division. -/
theorem o_mask_u16 {t t' : TypeId} {x y : Operand} {a b m : Int} (hx : Opd env x (.int .u16 a)) (hy : Opd env y (.int .u16 b)) (h0 : 0 ≤ a) (h1 : 0 ≤ b) (h3 : b < 65536) (hm : b + 1 = m) (hp : (2 : Nat) ^ (Nat.log2 (b.toNat + 1)) = b.toNat + 1) :
    OpEv P T ⟨dst, .binOp .and t x y t', ty, pos, after, gd⟩ env n g (.int .u16 (a % m)) n .nil := op_bin hx.ev hy.ev (by
      obtain ⟨x, rfl⟩ := Int.eq_ofNat_of_zero_le h0
      obtain ⟨y, rfl⟩ := Int.eq_ofNat_of_zero_le h1
      have hy : y < 65536 := by omega
      rw [Int.toNat_natCast] at hp
      have hj : Nat.log2 (y + 1) ≤ 16 := (Nat.pow_le_pow_iff_right (a := 2) (by decide)).1 (by rw [hp]; omega)
      have e : (BitVec.ofInt 16 (x : Int) &&& BitVec.ofInt 16 (y : Int)).toNat = x % (y + 1) := by
        rw [BitVec.toNat_and, BitVec.ofInt_natCast, BitVec.ofInt_natCast, BitVec.toNat_ofNat, BitVec.toNat_ofNat, Nat.mod_eq_of_lt (a := y) (by omega)]
        have hy' : y = 2 ^ (Nat.log2 (y + 1)) - 1 := by rw [hp]; omega
        rw [hy', Nat.and_two_pow_sub_one_eq_mod, ← hy', Nat.mod_mod_of_dvd _ (Nat.pow_dvd_pow 2 hj), hp]
      have l : x % (y + 1) < y + 1 := Nat.mod_lt _ (by omega)
      show some (Value.int .u16 (IntKind.wrap .u16 _)) = _
      rw [show IntKind.bits .u16 = 16 from rfl, e]
      rw [wrapU rfl (by omega) (by show _ < (2 : Int) ^ 16; omega)]
      subst hm
      rw [Int.natCast_emod]; rfl)
theorem o_shrN_u16 {t t' : TypeId} {x y : Operand} {yk : IntKind} {a b : Int} (hx : Opd env x (.int .u16 a)) (hy : Opd env y (.int yk b)) (h0 : 0 ≤ a) (hb : 0 ≤ b) (ha : a < 65536) :
    OpEv P T ⟨dst, .binOp .shr t x y t', ty, pos, after, gd⟩ env n g (.int .u16 ((a.toNat >>> b.toNat : Nat) : Int)) n .nil := o_shrN hx hy h0 hb (by show _ < (2 : Int) ^ 16; omega)
theorem o_shl_u16 {t t' : TypeId} {x y : Operand} {yk : IntKind} {a b : Int} (hx : Opd env x (.int .u16 a)) (hy : Opd env y (.int yk b)) (h0 : 0 ≤ a) (hb : 0 ≤ b) :
    OpEv P T ⟨dst, .binOp .shl t x y t', ty, pos, after, gd⟩ env n g (.int .u16 (((a.toNat <<< b.toNat) % 65536 : Nat) : Int)) n .nil := by
  have := o_shl (P := P) (T := T) (n := n) (g := g) (dst := dst) (ty := ty) (pos := pos) (after := after) (gd := gd) (t := t) (t' := t') hx hy hb
  have e : IntKind.wrap .u16 (a * 2 ^ (min b.toNat (IntKind.bits .u16))) = (((a.toNat <<< b.toNat) % 65536 : Nat) : Int) := by
    show (a * 2 ^ (min b.toNat 16)) % ((2 : Int) ^ 16) = _
    obtain ⟨x, rfl⟩ := Int.eq_ofNat_of_zero_le h0
    have e1 : (Int.ofNat x).toNat = x := rfl
    have e2 : ((x : Nat) : Int) * 2 ^ (min b.toNat 16) = ((x * 2 ^ (min b.toNat 16) : Nat) : Int) := by push_cast; rfl
    rw [Nat.shiftLeft_eq, Int.toNat_natCast, e2, show ((2 : Int) ^ 16) = ((65536 : Nat) : Int) from rfl, ← Int.natCast_emod]
    congr 1
    rcases Nat.lt_or_ge b.toNat 16 with h | h
    · rw [Nat.min_eq_left (by omega)]
    · rw [Nat.min_eq_right h]
      have : ∃ d, b.toNat = 16 + d := ⟨b.toNat - 16, by omega⟩
      obtain ⟨d, hd⟩ := this
      rw [hd, Nat.pow_add, show (2 : Nat) ^ 16 = 65536 from rfl, ← Nat.mul_assoc, Nat.mul_assoc, Nat.mul_comm 65536 (2 ^ d), ← Nat.mul_assoc, Nat.mul_mod_left, Nat.mul_mod_left]
  rw [e] at this; exact this
theorem o_compl_u16 {t : TypeId} {x : Operand} {a : Int} (hx : Opd env x (.int .u16 a)) (h0 : 0 ≤ a) (h2 : a < 65536) :
    OpEv P T ⟨dst, .unOp .xor t x, ty, pos, after, gd⟩ env n g (.int .u16 (65535 - a)) n .nil := by
  have := o_compl (P := P) (T := T) (n := n) (g := g) (dst := dst) (ty := ty) (pos := pos) (after := after) (gd := gd) (t := t) hx
  have e : IntKind.wrap .u16 (BitVec.ofInt (IntKind.bits .u16) (if IntKind.signed .u16 then -1 else IntKind.max .u16) ^^^ BitVec.ofInt (IntKind.bits .u16) a).toNat = 65535 - a := by
    obtain ⟨x, rfl⟩ := Int.eq_ofNat_of_zero_le h0
    show (((BitVec.ofInt 16 65535 ^^^ BitVec.ofInt 16 (x : Int)).toNat : Nat) : Int) % ((2 : Int) ^ 16) = _
    have h1 : BitVec.ofInt 16 65535 = BitVec.allOnes 16 := by decide
    rw [h1, BitVec.allOnes_xor, BitVec.toNat_not, BitVec.ofInt_natCast, BitVec.toNat_ofNat]
    have hx : x < 65536 := by omega
    rw [Nat.mod_eq_of_lt (by exact hx)]
    omega
  rw [e] at this; exact this
theorem o_conv_u16 {s t : TypeId} {x : Operand} {k : IntKind} {a : Int} {d : TypeDesc} [hs : Uc P s d] [ht : Uc P t (.int .u16)] (hx : Opd env x (.int k a)) (h0 : 0 ≤ a) (h1 : a < 65536) :
    OpEv P T ⟨dst, .convert s t x, ty, pos, after, gd⟩ env n g (.int .u16 a) n .nil := by
  have := o_conv (P := P) (T := T) (n := n) (g := g) (dst := dst) (ty := ty) (pos := pos) (after := after) (gd := gd) hs.out ht.out hx
  rw [wrapU rfl h0 (by exact h1)] at this; exact this
theorem o_convM_u16 {s t : TypeId} {x : Operand} {k : IntKind} {a : Int} {d : TypeDesc} [hs : Uc P s d] [ht : Uc P t (.int .u16)] (hx : Opd env x (.int k a)) :
    OpEv P T ⟨dst, .convert s t x, ty, pos, after, gd⟩ env n g (.int .u16 (a % 65536)) n .nil := by
  have := o_conv (P := P) (T := T) (n := n) (g := g) (dst := dst) (ty := ty) (pos := pos) (after := after) (gd := gd) hs.out ht.out hx
  exact this
theorem o_add_u16 {t t' : TypeId} {x y : Operand} {a b : Int} (hx : Opd env x (.int .u16 a)) (hy : Opd env y (.int .u16 b)) (h0 : 0 ≤ a + b) (h1 : a + b < 65536) :
    OpEv P T ⟨dst, .binOp .add t x y t', ty, pos, after, gd⟩ env n g (.int .u16 (a + b)) n .nil := op_bin hx.ev hy.ev (by
      show some (Value.int .u16 (IntKind.wrap .u16 _)) = _
      rw [wrapU rfl h0 (by exact h1)])
theorem o_addM_u16 {t t' : TypeId} {x y : Operand} {a b : Int} (hx : Opd env x (.int .u16 a)) (hy : Opd env y (.int .u16 b)) :
    OpEv P T ⟨dst, .binOp .add t x y t', ty, pos, after, gd⟩ env n g (.int .u16 ((a + b) % 65536)) n .nil := op_bin hx.ev hy.ev rfl
theorem o_sub_u16 {t t' : TypeId} {x y : Operand} {a b : Int} (hx : Opd env x (.int .u16 a)) (hy : Opd env y (.int .u16 b)) (h0 : 0 ≤ a - b) (h1 : a - b < 65536) :
    OpEv P T ⟨dst, .binOp .sub t x y t', ty, pos, after, gd⟩ env n g (.int .u16 (a - b)) n .nil := op_bin hx.ev hy.ev (by
      show some (Value.int .u16 (IntKind.wrap .u16 _)) = _
      rw [wrapU rfl h0 (by exact h1)])
theorem o_subM_u16 {t t' : TypeId} {x y : Operand} {a b : Int} (hx : Opd env x (.int .u16 a)) (hy : Opd env y (.int .u16 b)) :
    OpEv P T ⟨dst, .binOp .sub t x y t', ty, pos, after, gd⟩ env n g (.int .u16 ((a - b) % 65536)) n .nil := op_bin hx.ev hy.ev rfl
theorem o_mul_u16 {t t' : TypeId} {x y : Operand} {a b : Int} (hx : Opd env x (.int .u16 a)) (hy : Opd env y (.int .u16 b)) (h0 : 0 ≤ a * b) (h1 : a * b < 65536) :
    OpEv P T ⟨dst, .binOp .mul t x y t', ty, pos, after, gd⟩ env n g (.int .u16 (a * b)) n .nil := op_bin hx.ev hy.ev (by
      show some (Value.int .u16 (IntKind.wrap .u16 _)) = _
      rw [wrapU rfl h0 (by exact h1)])
theorem o_mulM_u16 {t t' : TypeId} {x y : Operand} {a b : Int} (hx : Opd env x (.int .u16 a)) (hy : Opd env y (.int .u16 b)) :
    OpEv P T ⟨dst, .binOp .mul t x y t', ty, pos, after, gd⟩ env n g (.int .u16 ((a * b) % 65536)) n .nil := op_bin hx.ev hy.ev rfl
theorem o_quo_u16 {t t' : TypeId} {x y : Operand} {a b : Int} (hx : Opd env x (.int .u16 a)) (hy : Opd env y (.int .u16 b)) (ha : 0 ≤ a) (hb : 0 < b) (h2 : a < 65536) :
    OpEv P T ⟨dst, .binOp .quo t x y t', ty, pos, after, gd⟩ env n g (.int .u16 (a / b)) n .nil := op_bin hx.ev hy.ev (by
      have hb' : b ≠ 0 := by omega
      simp only [binI, if_neg hb', Int.tdiv_eq_ediv_of_nonneg ha]
      rw [wrapU rfl (Int.ediv_nonneg ha (by omega)) (by have := Int.ediv_le_self b ha; show _ < (2 : Int) ^ 16; omega)])
theorem o_and_u32 {t t' : TypeId} {x y : Operand} {a b : Int} (hx : Opd env x (.int .u32 a)) (hy : Opd env y (.int .u32 b)) (h0 : 0 ≤ a) (h1 : 0 ≤ b) (h2 : a < 4294967296) (h3 : b < 4294967296) :
    OpEv P T ⟨dst, .binOp .and t x y t', ty, pos, after, gd⟩ env n g (.int .u32 ((a.toNat &&& b.toNat : Nat) : Int)) n .nil := op_bin hx.ev hy.ev (by
      have e : _ = a.toNat &&& b.toNat := bv_and 32 h0 h1 (by omega) (by omega)
      have l : a.toNat &&& b.toNat < 4294967296 := Nat.lt_of_le_of_lt Nat.and_le_left (by omega)
      show some (Value.int .u32 (IntKind.wrap .u32 _)) = _
      rw [show IntKind.bits .u32 = 32 from rfl, e]
      rw [wrapU rfl (by omega) (by show _ < (2 : Int) ^ 32; omega)])
theorem o_or_u32 {t t' : TypeId} {x y : Operand} {a b : Int} (hx : Opd env x (.int .u32 a)) (hy : Opd env y (.int .u32 b)) (h0 : 0 ≤ a) (h1 : 0 ≤ b) (h2 : a < 4294967296) (h3 : b < 4294967296) :
    OpEv P T ⟨dst, .binOp .or t x y t', ty, pos, after, gd⟩ env n g (.int .u32 ((a.toNat ||| b.toNat : Nat) : Int)) n .nil := op_bin hx.ev hy.ev (by
      have e : _ = a.toNat ||| b.toNat := bv_or 32 h0 h1 (by omega) (by omega)
      have l : a.toNat ||| b.toNat < 4294967296 := Nat.or_lt_two_pow (n := 32) (by omega) (by omega)
      show some (Value.int .u32 (IntKind.wrap .u32 _)) = _
      rw [show IntKind.bits .u32 = 32 from rfl, e]
      rw [wrapU rfl (by omega) (by show _ < (2 : Int) ^ 32; omega)])
theorem o_xor_u32 {t t' : TypeId} {x y : Operand} {a b : Int} (hx : Opd env x (.int .u32 a)) (hy : Opd env y (.int .u32 b)) (h0 : 0 ≤ a) (h1 : 0 ≤ b) (h2 : a < 4294967296) (h3 : b < 4294967296) :
    OpEv P T ⟨dst, .binOp .xor t x y t', ty, pos, after, gd⟩ env n g (.int .u32 ((a.toNat ^^^ b.toNat : Nat) : Int)) n .nil := op_bin hx.ev hy.ev (by
      have e : _ = a.toNat ^^^ b.toNat := bv_xor 32 h0 h1 (by omega) (by omega)
      have l : a.toNat ^^^ b.toNat < 4294967296 := Nat.xor_lt_two_pow (n := 32) (by omega) (by omega)
      show some (Value.int .u32 (IntKind.wrap .u32 _)) = _
      rw [show IntKind.bits .u32 = 32 from rfl, e]
      rw [wrapU rfl (by omega) (by show _ < (2 : Int) ^ 32; omega)])
theorem o_andNot_u32 {t t' : TypeId} {x y : Operand} {a b : Int} (hx : Opd env x (.int .u32 a)) (hy : Opd env y (.int .u32 b)) (h0 : 0 ≤ a) (h1 : 0 ≤ b) (h2 : a < 4294967296) (h3 : b < 4294967296) :
    OpEv P T ⟨dst, .binOp .andNot t x y t', ty, pos, after, gd⟩ env n g (.int .u32 ((a.toNat &&& (4294967295 - b.toNat) : Nat) : Int)) n .nil := op_bin hx.ev hy.ev (by
      have e : _ = a.toNat &&& (4294967295 - b.toNat) := bv_andNot 32 h0 h1 (by omega) (by omega)
      have l : a.toNat &&& (4294967295 - b.toNat) < 4294967296 := Nat.lt_of_le_of_lt Nat.and_le_left (by omega)
      show some (Value.int .u32 (IntKind.wrap .u32 _)) = _
      rw [show IntKind.bits .u32 = 32 from rfl, e]
      rw [wrapU rfl (by omega) (by show _ < (2 : Int) ^ 32; omega)])
/-- With a mask of the lowest bits: the rest of a division. -/
theorem o_mask_u32 {t t' : TypeId} {x y : Operand} {a b m : Int} (hx : Opd env x (.int .u32 a)) (hy : Opd env y (.int .u32 b)) (h0 : 0 ≤ a) (h1 : 0 ≤ b) (h3 : b < 4294967296) (hm : b + 1 = m) (hp : (2 : Nat) ^ (Nat.log2 (b.toNat + 1)) = b.toNat + 1) :
    OpEv P T ⟨dst, .binOp .and t x y t', ty, pos, after, gd⟩ env n g (.int .u32 (a % m)) n .nil := op_bin hx.ev hy.ev (by
      obtain ⟨x, rfl⟩ := Int.eq_ofNat_of_zero_le h0
      obtain ⟨y, rfl⟩ := Int.eq_ofNat_of_zero_le h1
      have hy : y < 4294967296 := by omega
      rw [Int.toNat_natCast] at hp
      have hj : Nat.log2 (y + 1) ≤ 32 := (Nat.pow_le_pow_iff_right (a := 2) (by decide)).1 (by rw [hp]; omega)
      have e : (BitVec.ofInt 32 (x : Int) &&& BitVec.ofInt 32 (y : Int)).toNat = x % (y + 1) := by
        rw [BitVec.toNat_and, BitVec.ofInt_natCast, BitVec.ofInt_natCast, BitVec.toNat_ofNat, BitVec.toNat_ofNat, Nat.mod_eq_of_lt (a := y) (by omega)]
        have hy' : y = 2 ^ (Nat.log2 (y + 1)) - 1 := by rw [hp]; omega
        rw [hy', Nat.and_two_pow_sub_one_eq_mod, ← hy', Nat.mod_mod_of_dvd _ (Nat.pow_dvd_pow 2 hj), hp]
      have l : x % (y + 1) < y + 1 := Nat.mod_lt _ (by omega)
      show some (Value.int .u32 (IntKind.wrap .u32 _)) = _
      rw [show IntKind.bits .u32 = 32 from rfl, e]
      rw [wrapU rfl (by omega) (by show _ < (2 : Int) ^ 32; omega)]
      subst hm
      rw [Int.natCast_emod]; rfl)
theorem o_shrN_u32 {t t' : TypeId} {x y : Operand} {yk : IntKind} {a b : Int} (hx : Opd env x (.int .u32 a)) (hy : Opd env y (.int yk b)) (h0 : 0 ≤ a) (hb : 0 ≤ b) (ha : a < 4294967296) :
    OpEv P T ⟨dst, .binOp .shr t x y t', ty, pos, after, gd⟩ env n g (.int .u32 ((a.toNat >>> b.toNat : Nat) : Int)) n .nil := o_shrN hx hy h0 hb (by show _ < (2 : Int) ^ 32; omega)
theorem o_shl_u32 {t t' : TypeId} {x y : Operand} {yk : IntKind} {a b : Int} (hx : Opd env x (.int .u32 a)) (hy : Opd env y (.int yk b)) (h0 : 0 ≤ a) (hb : 0 ≤ b) :
    OpEv P T ⟨dst, .binOp .shl t x y t', ty, pos, after, gd⟩ env n g (.int .u32 (((a.toNat <<< b.toNat) % 4294967296 : Nat) : Int)) n .nil := by
  have := o_shl (P := P) (T := T) (n := n) (g := g) (dst := dst) (ty := ty) (pos := pos) (after := after) (gd := gd) (t := t) (t' := t') hx hy hb
  have e : IntKind.wrap .u32 (a * 2 ^ (min b.toNat (IntKind.bits .u32))) = (((a.toNat <<< b.toNat) % 4294967296 : Nat) : Int) := by
    show (a * 2 ^ (min b.toNat 32)) % ((2 : Int) ^ 32) = _
    obtain ⟨x, rfl⟩ := Int.eq_ofNat_of_zero_le h0
    have e1 : (Int.ofNat x).toNat = x := rfl
    have e2 : ((x : Nat) : Int) * 2 ^ (min b.toNat 32) = ((x * 2 ^ (min b.toNat 32) : Nat) : Int) := by push_cast; rfl
    rw [Nat.shiftLeft_eq, Int.toNat_natCast, e2, show ((2 : Int) ^ 32) = ((4294967296 : Nat) : Int) from rfl, ← Int.natCast_emod]
    congr 1
    rcases Nat.lt_or_ge b.toNat 32 with h | h
    · rw [Nat.min_eq_left (by omega)]
    · rw [Nat.min_eq_right h]
      have : ∃ d, b.toNat = 32 + d := ⟨b.toNat - 32, by omega⟩
      obtain ⟨d, hd⟩ := this
      rw [hd, Nat.pow_add, show (2 : Nat) ^ 32 = 4294967296 from rfl, ← Nat.mul_assoc, Nat.mul_assoc, Nat.mul_comm 4294967296 (2 ^ d), ← Nat.mul_assoc, Nat.mul_mod_left, Nat.mul_mod_left]
  rw [e] at this; exact this
theorem o_compl_u32 {t : TypeId} {x : Operand} {a : Int} (hx : Opd env x (.int .u32 a)) (h0 : 0 ≤ a) (h2 : a < 4294967296) :
    OpEv P T ⟨dst, .unOp .xor t x, ty, pos, after, gd⟩ env n g (.int .u32 (4294967295 - a)) n .nil := by
  have := o_compl (P := P) (T := T) (n := n) (g := g) (dst := dst) (ty := ty) (pos := pos) (after := after) (gd := gd) (t := t) hx
  have e : IntKind.wrap .u32 (BitVec.ofInt (IntKind.bits .u32) (if IntKind.signed .u32 then -1 else IntKind.max .u32) ^^^ BitVec.ofInt (IntKind.bits .u32) a).toNat = 4294967295 - a := by
    obtain ⟨x, rfl⟩ := Int.eq_ofNat_of_zero_le h0
    show (((BitVec.ofInt 32 4294967295 ^^^ BitVec.ofInt 32 (x : Int)).toNat : Nat) : Int) % ((2 : Int) ^ 32) = _
    have h1 : BitVec.ofInt 32 4294967295 = BitVec.allOnes 32 := by decide
    rw [h1, BitVec.allOnes_xor, BitVec.toNat_not, BitVec.ofInt_natCast, BitVec.toNat_ofNat]
    have hx : x < 4294967296 := by omega
    rw [Nat.mod_eq_of_lt (by exact hx)]
    omega
  rw [e] at this; exact this
theorem o_conv_u32 {s t : TypeId} {x : Operand} {k : IntKind} {a : Int} {d : TypeDesc} [hs : Uc P s d] [ht : Uc P t (.int .u32)] (hx : Opd env x (.int k a)) (h0 : 0 ≤ a) (h1 : a < 4294967296) :
    OpEv P T ⟨dst, .convert s t x, ty, pos, after, gd⟩ env n g (.int .u32 a) n .nil := by
  have := o_conv (P := P) (T := T) (n := n) (g := g) (dst := dst) (ty := ty) (pos := pos) (after := after) (gd := gd) hs.out ht.out hx
  rw [wrapU rfl h0 (by exact h1)] at this; exact this
theorem o_convM_u32 {s t : TypeId} {x : Operand} {k : IntKind} {a : Int} {d : TypeDesc} [hs : Uc P s d] [ht : Uc P t (.int .u32)] (hx : Opd env x (.int k a)) :
    OpEv P T ⟨dst, .convert s t x, ty, pos, after, gd⟩ env n g (.int .u32 (a % 4294967296)) n .nil := by
  have := o_conv (P := P) (T := T) (n := n) (g := g) (dst := dst) (ty := ty) (pos := pos) (after := after) (gd := gd) hs.out ht.out hx
  exact this
theorem o_add_u32 {t t' : TypeId} {x y : Operand} {a b : Int} (hx : Opd env x (.int .u32 a)) (hy : Opd env y (.int .u32 b)) (h0 : 0 ≤ a + b) (h1 : a + b < 4294967296) :
    OpEv P T ⟨dst, .binOp .add t x y t', ty, pos, after, gd⟩ env n g (.int .u32 (a + b)) n .nil := op_bin hx.ev hy.ev (by
      show some (Value.int .u32 (IntKind.wrap .u32 _)) = _
      rw [wrapU rfl h0 (by exact h1)])
theorem o_addM_u32 {t t' : TypeId} {x y : Operand} {a b : Int} (hx : Opd env x (.int .u32 a)) (hy : Opd env y (.int .u32 b)) :
    OpEv P T ⟨dst, .binOp .add t x y t', ty, pos, after, gd⟩ env n g (.int .u32 ((a + b) % 4294967296)) n .nil := op_bin hx.ev hy.ev rfl
theorem o_sub_u32 {t t' : TypeId} {x y : Operand} {a b : Int} (hx : Opd env x (.int .u32 a)) (hy : Opd env y (.int .u32 b)) (h0 : 0 ≤ a - b) (h1 : a - b < 4294967296) :
    OpEv P T ⟨dst, .binOp .sub t x y t', ty, pos, after, gd⟩ env n g (.int .u32 (a - b)) n .nil := op_bin hx.ev hy.ev (by
      show some (Value.int .u32 (IntKind.wrap .u32 _)) = _
      rw [wrapU rfl h0 (by exact h1)])
theorem o_subM_u32 {t t' : TypeId} {x y : Operand} {a b : Int} (hx : Opd env x (.int .u32 a)) (hy : Opd env y (.int .u32 b)) :
    OpEv P T ⟨dst, .binOp .sub t x y t', ty, pos, after, gd⟩ env n g (.int .u32 ((a - b) % 4294967296)) n .nil := op_bin hx.ev hy.ev rfl
theorem o_mul_u32 {t t' : TypeId} {x y : Operand} {a b : Int} (hx : Opd env x (.int .u32 a)) (hy : Opd env y (.int .u32 b)) (h0 : 0 ≤ a * b) (h1 : a * b < 4294967296) :
    OpEv P T ⟨dst, .binOp .mul t x y t', ty, pos, after, gd⟩ env n g (.int .u32 (a * b)) n .nil := op_bin hx.ev hy.ev (by
      show some (Value.int .u32 (IntKind.wrap .u32 _)) = _
      rw [wrapU rfl h0 (by exact h1)])
theorem o_mulM_u32 {t t' : TypeId} {x y : Operand} {a b : Int} (hx : Opd env x (.int .u32 a)) (hy : Opd env y (.int .u32 b)) :
    OpEv P T ⟨dst, .binOp .mul t x y t', ty, pos, after, gd⟩ env n g (.int .u32 ((a * b) % 4294967296)) n .nil := op_bin hx.ev hy.ev rfl
theorem o_quo_u32 {t t' : TypeId} {x y : Operand} {a b : Int} (hx : Opd env x (.int .u32 a)) (hy : Opd env y (.int .u32 b)) (ha : 0 ≤ a) (hb : 0 < b) (h2 : a < 4294967296) :
    OpEv P T ⟨dst, .binOp .quo t x y t', ty, pos, after, gd⟩ env n g (.int .u32 (a / b)) n .nil := op_bin hx.ev hy.ev (by
      have hb' : b ≠ 0 := by omega
      simp only [binI, if_neg hb', Int.tdiv_eq_ediv_of_nonneg ha]
      rw [wrapU rfl (Int.ediv_nonneg ha (by omega)) (by have := Int.ediv_le_self b ha; show _ < (2 : Int) ^ 32; omega)])
theorem o_and_u64 {t t' : TypeId} {x y : Operand} {a b : Int} (hx : Opd env x (.int .u64 a)) (hy : Opd env y (.int .u64 b)) (h0 : 0 ≤ a) (h1 : 0 ≤ b) (h2 : a < 18446744073709551616) (h3 : b < 18446744073709551616) :
    OpEv P T ⟨dst, .binOp .and t x y t', ty, pos, after, gd⟩ env n g (.int .u64 ((a.toNat &&& b.toNat : Nat) : Int)) n .nil := op_bin hx.ev hy.ev (by
      have e : _ = a.toNat &&& b.toNat := bv_and 64 h0 h1 (by omega) (by omega)
      have l : a.toNat &&& b.toNat < 18446744073709551616 := Nat.lt_of_le_of_lt Nat.and_le_left (by omega)
      show some (Value.int .u64 (IntKind.wrap .u64 _)) = _
      rw [show IntKind.bits .u64 = 64 from rfl, e]
      rw [wrapU rfl (by omega) (by show _ < (2 : Int) ^ 64; omega)])
theorem o_or_u64 {t t' : TypeId} {x y : Operand} {a b : Int} (hx : Opd env x (.int .u64 a)) (hy : Opd env y (.int .u64 b)) (h0 : 0 ≤ a) (h1 : 0 ≤ b) (h2 : a < 18446744073709551616) (h3 : b < 18446744073709551616) :
    OpEv P T ⟨dst, .binOp .or t x y t', ty, pos, after, gd⟩ env n g (.int .u64 ((a.toNat ||| b.toNat : Nat) : Int)) n .nil := op_bin hx.ev hy.ev (by
      have e : _ = a.toNat ||| b.toNat := bv_or 64 h0 h1 (by omega) (by omega)
      have l : a.toNat ||| b.toNat < 18446744073709551616 := Nat.or_lt_two_pow (n := 64) (by omega) (by omega)
      show some (Value.int .u64 (IntKind.wrap .u64 _)) = _
      rw [show IntKind.bits .u64 = 64 from rfl, e]
      rw [wrapU rfl (by omega) (by show _ < (2 : Int) ^ 64; omega)])
theorem o_xor_u64 {t t' : TypeId} {x y : Operand} {a b : Int} (hx : Opd env x (.int .u64 a)) (hy : Opd env y (.int .u64 b)) (h0 : 0 ≤ a) (h1 : 0 ≤ b) (h2 : a < 18446744073709551616) (h3 : b < 18446744073709551616) :
    OpEv P T ⟨dst, .binOp .xor t x y t', ty, pos, after, gd⟩ env n g (.int .u64 ((a.toNat ^^^ b.toNat : Nat) : Int)) n .nil := op_bin hx.ev hy.ev (by
      have e : _ = a.toNat ^^^ b.toNat := bv_xor 64 h0 h1 (by omega) (by omega)
      have l : a.toNat ^^^ b.toNat < 18446744073709551616 := Nat.xor_lt_two_pow (n := 64) (by omega) (by omega)
      show some (Value.int .u64 (IntKind.wrap .u64 _)) = _
      rw [show IntKind.bits .u64 = 64 from rfl, e]
      rw [wrapU rfl (by omega) (by show _ < (2 : Int) ^ 64; omega)])
theorem o_andNot_u64 {t t' : TypeId} {x y : Operand} {a b : Int} (hx : Opd env x (.int .u64 a)) (hy : Opd env y (.int .u64 b)) (h0 : 0 ≤ a) (h1 : 0 ≤ b) (h2 : a < 18446744073709551616) (h3 : b < 18446744073709551616) :
    OpEv P T ⟨dst, .binOp .andNot t x y t', ty, pos, after, gd⟩ env n g (.int .u64 ((a.toNat &&& (18446744073709551615 - b.toNat) : Nat) : Int)) n .nil := op_bin hx.ev hy.ev (by
      have e : _ = a.toNat &&& (18446744073709551615 - b.toNat) := bv_andNot 64 h0 h1 (by omega) (by omega)
      have l : a.toNat &&& (18446744073709551615 - b.toNat) < 18446744073709551616 := Nat.lt_of_le_of_lt Nat.and_le_left (by omega)
      show some (Value.int .u64 (IntKind.wrap .u64 _)) = _
      rw [show IntKind.bits .u64 = 64 from rfl, e]
      rw [wrapU rfl (by omega) (by show _ < (2 : Int) ^ 64; omega)])
/-- With a mask of the lowest bits: the rest of a division. -/
theorem o_mask_u64 {t t' : TypeId} {x y : Operand} {a b m : Int} (hx : Opd env x (.int .u64 a)) (hy : Opd env y (.int .u64 b)) (h0 : 0 ≤ a) (h1 : 0 ≤ b) (h3 : b < 18446744073709551616) (hm : b + 1 = m) (hp : (2 : Nat) ^ (Nat.log2 (b.toNat + 1)) = b.toNat + 1) :
    OpEv P T ⟨dst, .binOp .and t x y t', ty, pos, after, gd⟩ env n g (.int .u64 (a % m)) n .nil := op_bin hx.ev hy.ev (by
      obtain ⟨x, rfl⟩ := Int.eq_ofNat_of_zero_le h0
      obtain ⟨y, rfl⟩ := Int.eq_ofNat_of_zero_le h1
      have hy : y < 18446744073709551616 := by omega
      rw [Int.toNat_natCast] at hp
      have hj : Nat.log2 (y + 1) ≤ 64 := (Nat.pow_le_pow_iff_right (a := 2) (by decide)).1 (by rw [hp]; omega)
      have e : (BitVec.ofInt 64 (x : Int) &&& BitVec.ofInt 64 (y : Int)).toNat = x % (y + 1) := by
        rw [BitVec.toNat_and, BitVec.ofInt_natCast, BitVec.ofInt_natCast, BitVec.toNat_ofNat, BitVec.toNat_ofNat, Nat.mod_eq_of_lt (a := y) (by omega)]
        have hy' : y = 2 ^ (Nat.log2 (y + 1)) - 1 := by rw [hp]; omega
        rw [hy', Nat.and_two_pow_sub_one_eq_mod, ← hy', Nat.mod_mod_of_dvd _ (Nat.pow_dvd_pow 2 hj), hp]
      have l : x % (y + 1) < y + 1 := Nat.mod_lt _ (by omega)
      show some (Value.int .u64 (IntKind.wrap .u64 _)) = _
      rw [show IntKind.bits .u64 = 64 from rfl, e]
      rw [wrapU rfl (by omega) (by show _ < (2 : Int) ^ 64; omega)]
      subst hm
      rw [Int.natCast_emod]; rfl)
theorem o_shrN_u64 {t t' : TypeId} {x y : Operand} {yk : IntKind} {a b : Int} (hx : Opd env x (.int .u64 a)) (hy : Opd env y (.int yk b)) (h0 : 0 ≤ a) (hb : 0 ≤ b) (ha : a < 18446744073709551616) :
    OpEv P T ⟨dst, .binOp .shr t x y t', ty, pos, after, gd⟩ env n g (.int .u64 ((a.toNat >>> b.toNat : Nat) : Int)) n .nil := o_shrN hx hy h0 hb (by show _ < (2 : Int) ^ 64; omega)
theorem o_shl_u64 {t t' : TypeId} {x y : Operand} {yk : IntKind} {a b : Int} (hx : Opd env x (.int .u64 a)) (hy : Opd env y (.int yk b)) (h0 : 0 ≤ a) (hb : 0 ≤ b) :
    OpEv P T ⟨dst, .binOp .shl t x y t', ty, pos, after, gd⟩ env n g (.int .u64 (((a.toNat <<< b.toNat) % 18446744073709551616 : Nat) : Int)) n .nil := by
  have := o_shl (P := P) (T := T) (n := n) (g := g) (dst := dst) (ty := ty) (pos := pos) (after := after) (gd := gd) (t := t) (t' := t') hx hy hb
  have e : IntKind.wrap .u64 (a * 2 ^ (min b.toNat (IntKind.bits .u64))) = (((a.toNat <<< b.toNat) % 18446744073709551616 : Nat) : Int) := by
    show (a * 2 ^ (min b.toNat 64)) % ((2 : Int) ^ 64) = _
    obtain ⟨x, rfl⟩ := Int.eq_ofNat_of_zero_le h0
    have e1 : (Int.ofNat x).toNat = x := rfl
    have e2 : ((x : Nat) : Int) * 2 ^ (min b.toNat 64) = ((x * 2 ^ (min b.toNat 64) : Nat) : Int) := by push_cast; rfl
    rw [Nat.shiftLeft_eq, Int.toNat_natCast, e2, show ((2 : Int) ^ 64) = ((18446744073709551616 : Nat) : Int) from rfl, ← Int.natCast_emod]
    congr 1
    rcases Nat.lt_or_ge b.toNat 64 with h | h
    · rw [Nat.min_eq_left (by omega)]
    · rw [Nat.min_eq_right h]
      have : ∃ d, b.toNat = 64 + d := ⟨b.toNat - 64, by omega⟩
      obtain ⟨d, hd⟩ := this
      rw [hd, Nat.pow_add, show (2 : Nat) ^ 64 = 18446744073709551616 from rfl, ← Nat.mul_assoc, Nat.mul_assoc, Nat.mul_comm 18446744073709551616 (2 ^ d), ← Nat.mul_assoc, Nat.mul_mod_left, Nat.mul_mod_left]
  rw [e] at this; exact this
theorem o_compl_u64 {t : TypeId} {x : Operand} {a : Int} (hx : Opd env x (.int .u64 a)) (h0 : 0 ≤ a) (h2 : a < 18446744073709551616) :
    OpEv P T ⟨dst, .unOp .xor t x, ty, pos, after, gd⟩ env n g (.int .u64 (18446744073709551615 - a)) n .nil := by
  have := o_compl (P := P) (T := T) (n := n) (g := g) (dst := dst) (ty := ty) (pos := pos) (after := after) (gd := gd) (t := t) hx
  have e : IntKind.wrap .u64 (BitVec.ofInt (IntKind.bits .u64) (if IntKind.signed .u64 then -1 else IntKind.max .u64) ^^^ BitVec.ofInt (IntKind.bits .u64) a).toNat = 18446744073709551615 - a := by
    obtain ⟨x, rfl⟩ := Int.eq_ofNat_of_zero_le h0
    show (((BitVec.ofInt 64 18446744073709551615 ^^^ BitVec.ofInt 64 (x : Int)).toNat : Nat) : Int) % ((2 : Int) ^ 64) = _
    have h1 : BitVec.ofInt 64 18446744073709551615 = BitVec.allOnes 64 := by decide
    rw [h1, BitVec.allOnes_xor, BitVec.toNat_not, BitVec.ofInt_natCast, BitVec.toNat_ofNat]
    have hx : x < 18446744073709551616 := by omega
    rw [Nat.mod_eq_of_lt (by exact hx)]
    omega
  rw [e] at this; exact this
theorem o_conv_u64 {s t : TypeId} {x : Operand} {k : IntKind} {a : Int} {d : TypeDesc} [hs : Uc P s d] [ht : Uc P t (.int .u64)] (hx : Opd env x (.int k a)) (h0 : 0 ≤ a) (h1 : a < 18446744073709551616) :
    OpEv P T ⟨dst, .convert s t x, ty, pos, after, gd⟩ env n g (.int .u64 a) n .nil := by
  have := o_conv (P := P) (T := T) (n := n) (g := g) (dst := dst) (ty := ty) (pos := pos) (after := after) (gd := gd) hs.out ht.out hx
  rw [wrapU rfl h0 (by exact h1)] at this; exact this
theorem o_convM_u64 {s t : TypeId} {x : Operand} {k : IntKind} {a : Int} {d : TypeDesc} [hs : Uc P s d] [ht : Uc P t (.int .u64)] (hx : Opd env x (.int k a)) :
    OpEv P T ⟨dst, .convert s t x, ty, pos, after, gd⟩ env n g (.int .u64 (a % 18446744073709551616)) n .nil := by
  have := o_conv (P := P) (T := T) (n := n) (g := g) (dst := dst) (ty := ty) (pos := pos) (after := after) (gd := gd) hs.out ht.out hx
  exact this
theorem o_add_u64 {t t' : TypeId} {x y : Operand} {a b : Int} (hx : Opd env x (.int .u64 a)) (hy : Opd env y (.int .u64 b)) (h0 : 0 ≤ a + b) (h1 : a + b < 18446744073709551616) :
    OpEv P T ⟨dst, .binOp .add t x y t', ty, pos, after, gd⟩ env n g (.int .u64 (a + b)) n .nil := op_bin hx.ev hy.ev (by
      show some (Value.int .u64 (IntKind.wrap .u64 _)) = _
      rw [wrapU rfl h0 (by exact h1)])
theorem o_addM_u64 {t t' : TypeId} {x y : Operand} {a b : Int} (hx : Opd env x (.int .u64 a)) (hy : Opd env y (.int .u64 b)) :
    OpEv P T ⟨dst, .binOp .add t x y t', ty, pos, after, gd⟩ env n g (.int .u64 ((a + b) % 18446744073709551616)) n .nil := op_bin hx.ev hy.ev rfl
theorem o_sub_u64 {t t' : TypeId} {x y : Operand} {a b : Int} (hx : Opd env x (.int .u64 a)) (hy : Opd env y (.int .u64 b)) (h0 : 0 ≤ a - b) (h1 : a - b < 18446744073709551616) :
    OpEv P T ⟨dst, .binOp .sub t x y t', ty, pos, after, gd⟩ env n g (.int .u64 (a - b)) n .nil := op_bin hx.ev hy.ev (by
      show some (Value.int .u64 (IntKind.wrap .u64 _)) = _
      rw [wrapU rfl h0 (by exact h1)])
theorem o_subM_u64 {t t' : TypeId} {x y : Operand} {a b : Int} (hx : Opd env x (.int .u64 a)) (hy : Opd env y (.int .u64 b)) :
    OpEv P T ⟨dst, .binOp .sub t x y t', ty, pos, after, gd⟩ env n g (.int .u64 ((a - b) % 18446744073709551616)) n .nil := op_bin hx.ev hy.ev rfl
theorem o_mul_u64 {t t' : TypeId} {x y : Operand} {a b : Int} (hx : Opd env x (.int .u64 a)) (hy : Opd env y (.int .u64 b)) (h0 : 0 ≤ a * b) (h1 : a * b < 18446744073709551616) :
    OpEv P T ⟨dst, .binOp .mul t x y t', ty, pos, after, gd⟩ env n g (.int .u64 (a * b)) n .nil := op_bin hx.ev hy.ev (by
      show some (Value.int .u64 (IntKind.wrap .u64 _)) = _
      rw [wrapU rfl h0 (by exact h1)])
theorem o_mulM_u64 {t t' : TypeId} {x y : Operand} {a b : Int} (hx : Opd env x (.int .u64 a)) (hy : Opd env y (.int .u64 b)) :
    OpEv P T ⟨dst, .binOp .mul t x y t', ty, pos, after, gd⟩ env n g (.int .u64 ((a * b) % 18446744073709551616)) n .nil := op_bin hx.ev hy.ev rfl
theorem o_quo_u64 {t t' : TypeId} {x y : Operand} {a b : Int} (hx : Opd env x (.int .u64 a)) (hy : Opd env y (.int .u64 b)) (ha : 0 ≤ a) (hb : 0 < b) (h2 : a < 18446744073709551616) :
    OpEv P T ⟨dst, .binOp .quo t x y t', ty, pos, after, gd⟩ env n g (.int .u64 (a / b)) n .nil := op_bin hx.ev hy.ev (by
      have hb' : b ≠ 0 := by omega
      simp only [binI, if_neg hb', Int.tdiv_eq_ediv_of_nonneg ha]
      rw [wrapU rfl (Int.ediv_nonneg ha (by omega)) (by have := Int.ediv_le_self b ha; show _ < (2 : Int) ^ 64; omega)])
theorem o_and_i64 {t t' : TypeId} {x y : Operand} {a b : Int} (hx : Opd env x (.int .i64 a)) (hy : Opd env y (.int .i64 b)) (h0 : 0 ≤ a) (h1 : 0 ≤ b) (h2 : a < 9223372036854775808) (h3 : b < 9223372036854775808) :
    OpEv P T ⟨dst, .binOp .and t x y t', ty, pos, after, gd⟩ env n g (.int .i64 ((a.toNat &&& b.toNat : Nat) : Int)) n .nil := op_bin hx.ev hy.ev (by
      have e : _ = a.toNat &&& b.toNat := bv_and 64 h0 h1 (by omega) (by omega)
      have l : a.toNat &&& b.toNat < 9223372036854775808 := Nat.lt_of_le_of_lt Nat.and_le_left (by omega)
      show some (Value.int .i64 (IntKind.wrap .i64 _)) = _
      rw [show IntKind.bits .i64 = 64 from rfl, e]
      rw [wrap_id (by omega) (by show _ < (2 : Int) ^ 63; omega)])
theorem o_or_i64 {t t' : TypeId} {x y : Operand} {a b : Int} (hx : Opd env x (.int .i64 a)) (hy : Opd env y (.int .i64 b)) (h0 : 0 ≤ a) (h1 : 0 ≤ b) (h2 : a < 9223372036854775808) (h3 : b < 9223372036854775808) :
    OpEv P T ⟨dst, .binOp .or t x y t', ty, pos, after, gd⟩ env n g (.int .i64 ((a.toNat ||| b.toNat : Nat) : Int)) n .nil := op_bin hx.ev hy.ev (by
      have e : _ = a.toNat ||| b.toNat := bv_or 64 h0 h1 (by omega) (by omega)
      have l : a.toNat ||| b.toNat < 9223372036854775808 := Nat.or_lt_two_pow (n := 63) (by omega) (by omega)
      show some (Value.int .i64 (IntKind.wrap .i64 _)) = _
      rw [show IntKind.bits .i64 = 64 from rfl, e]
      rw [wrap_id (by omega) (by show _ < (2 : Int) ^ 63; omega)])
theorem o_xor_i64 {t t' : TypeId} {x y : Operand} {a b : Int} (hx : Opd env x (.int .i64 a)) (hy : Opd env y (.int .i64 b)) (h0 : 0 ≤ a) (h1 : 0 ≤ b) (h2 : a < 9223372036854775808) (h3 : b < 9223372036854775808) :
    OpEv P T ⟨dst, .binOp .xor t x y t', ty, pos, after, gd⟩ env n g (.int .i64 ((a.toNat ^^^ b.toNat : Nat) : Int)) n .nil := op_bin hx.ev hy.ev (by
      have e : _ = a.toNat ^^^ b.toNat := bv_xor 64 h0 h1 (by omega) (by omega)
      have l : a.toNat ^^^ b.toNat < 9223372036854775808 := Nat.xor_lt_two_pow (n := 63) (by omega) (by omega)
      show some (Value.int .i64 (IntKind.wrap .i64 _)) = _
      rw [show IntKind.bits .i64 = 64 from rfl, e]
      rw [wrap_id (by omega) (by show _ < (2 : Int) ^ 63; omega)])
theorem o_andNot_i64 {t t' : TypeId} {x y : Operand} {a b : Int} (hx : Opd env x (.int .i64 a)) (hy : Opd env y (.int .i64 b)) (h0 : 0 ≤ a) (h1 : 0 ≤ b) (h2 : a < 9223372036854775808) (h3 : b < 9223372036854775808) :
    OpEv P T ⟨dst, .binOp .andNot t x y t', ty, pos, after, gd⟩ env n g (.int .i64 ((a.toNat &&& (18446744073709551615 - b.toNat) : Nat) : Int)) n .nil := op_bin hx.ev hy.ev (by
      have e : _ = a.toNat &&& (18446744073709551615 - b.toNat) := bv_andNot 64 h0 h1 (by omega) (by omega)
      have l : a.toNat &&& (18446744073709551615 - b.toNat) < 9223372036854775808 := Nat.lt_of_le_of_lt Nat.and_le_left (by omega)
      show some (Value.int .i64 (IntKind.wrap .i64 _)) = _
      rw [show IntKind.bits .i64 = 64 from rfl, e]
      rw [wrap_id (by omega) (by show _ < (2 : Int) ^ 63; omega)])
/-- With a mask of the lowest bits: the rest of a division. -/
theorem o_mask_i64 {t t' : TypeId} {x y : Operand} {a b m : Int} (hx : Opd env x (.int .i64 a)) (hy : Opd env y (.int .i64 b)) (h0 : 0 ≤ a) (h1 : 0 ≤ b) (h3 : b < 9223372036854775808) (hm : b + 1 = m) (hp : (2 : Nat) ^ (Nat.log2 (b.toNat + 1)) = b.toNat + 1) :
    OpEv P T ⟨dst, .binOp .and t x y t', ty, pos, after, gd⟩ env n g (.int .i64 (a % m)) n .nil := op_bin hx.ev hy.ev (by
      obtain ⟨x, rfl⟩ := Int.eq_ofNat_of_zero_le h0
      obtain ⟨y, rfl⟩ := Int.eq_ofNat_of_zero_le h1
      have hy : y < 9223372036854775808 := by omega
      rw [Int.toNat_natCast] at hp
      have hj : Nat.log2 (y + 1) ≤ 64 := (Nat.pow_le_pow_iff_right (a := 2) (by decide)).1 (by rw [hp]; omega)
      have e : (BitVec.ofInt 64 (x : Int) &&& BitVec.ofInt 64 (y : Int)).toNat = x % (y + 1) := by
        rw [BitVec.toNat_and, BitVec.ofInt_natCast, BitVec.ofInt_natCast, BitVec.toNat_ofNat, BitVec.toNat_ofNat, Nat.mod_eq_of_lt (a := y) (by omega)]
        have hy' : y = 2 ^ (Nat.log2 (y + 1)) - 1 := by rw [hp]; omega
        rw [hy', Nat.and_two_pow_sub_one_eq_mod, ← hy', Nat.mod_mod_of_dvd _ (Nat.pow_dvd_pow 2 hj), hp]
      have l : x % (y + 1) < y + 1 := Nat.mod_lt _ (by omega)
      show some (Value.int .i64 (IntKind.wrap .i64 _)) = _
      rw [show IntKind.bits .i64 = 64 from rfl, e]
      rw [wrap_id (by omega) (by show _ < (2 : Int) ^ 63; omega)]
      subst hm
      rw [Int.natCast_emod]; rfl)
theorem o_shrN_i64 {t t' : TypeId} {x y : Operand} {yk : IntKind} {a b : Int} (hx : Opd env x (.int .i64 a)) (hy : Opd env y (.int yk b)) (h0 : 0 ≤ a) (hb : 0 ≤ b) (ha : a < 18446744073709551616) :
    OpEv P T ⟨dst, .binOp .shr t x y t', ty, pos, after, gd⟩ env n g (.int .i64 ((a.toNat >>> b.toNat : Nat) : Int)) n .nil := o_shrN hx hy h0 hb (by show _ < (2 : Int) ^ 64; omega)
theorem o_conv_i64 {s t : TypeId} {x : Operand} {k : IntKind} {a : Int} {d : TypeDesc} [hs : Uc P s d] [ht : Uc P t (.int .i64)] (hx : Opd env x (.int k a)) (h0 : -9223372036854775808 ≤ a) (h1 : a < 9223372036854775808) :
    OpEv P T ⟨dst, .convert s t x, ty, pos, after, gd⟩ env n g (.int .i64 a) n .nil := by
  have := o_conv (P := P) (T := T) (n := n) (g := g) (dst := dst) (ty := ty) (pos := pos) (after := after) (gd := gd) hs.out ht.out hx
  have e : IntKind.wrap .i64 a = a := by simp only [IntKind.wrap, IntKind.signed]; simp [IntKind.bits]; omega
  rw [e] at this; exact this
theorem o_shl_i64 {t t' : TypeId} {x y : Operand} {yk : IntKind} {a b : Int} (hx : Opd env x (.int .i64 a)) (hy : Opd env y (.int yk b)) (hb : 0 ≤ b) (hb2 : b ≤ 64) (h0 : -9223372036854775808 ≤ a * 2 ^ b.toNat) (h1 : a * 2 ^ b.toNat < 9223372036854775808) :
    OpEv P T ⟨dst, .binOp .shl t x y t', ty, pos, after, gd⟩ env n g (.int .i64 (a * 2 ^ b.toNat)) n .nil := by
  have := o_shl (P := P) (T := T) (n := n) (g := g) (dst := dst) (ty := ty) (pos := pos) (after := after) (gd := gd) (t := t) (t' := t') hx hy hb
  rw [show min b.toNat (IntKind.bits .i64) = b.toNat from Nat.min_eq_left (by show _ ≤ 64; omega)] at this
  have e : IntKind.wrap .i64 (a * 2 ^ b.toNat) = a * 2 ^ b.toNat := by generalize a * 2 ^ b.toNat = q at *; simp only [IntKind.wrap, IntKind.signed]; simp [IntKind.bits]; omega
  rw [e] at this; exact this
theorem o_and_i32 {t t' : TypeId} {x y : Operand} {a b : Int} (hx : Opd env x (.int .i32 a)) (hy : Opd env y (.int .i32 b)) (h0 : 0 ≤ a) (h1 : 0 ≤ b) (h2 : a < 2147483648) (h3 : b < 2147483648) :
    OpEv P T ⟨dst, .binOp .and t x y t', ty, pos, after, gd⟩ env n g (.int .i32 ((a.toNat &&& b.toNat : Nat) : Int)) n .nil := op_bin hx.ev hy.ev (by
      have e : _ = a.toNat &&& b.toNat := bv_and 32 h0 h1 (by omega) (by omega)
      have l : a.toNat &&& b.toNat < 2147483648 := Nat.lt_of_le_of_lt Nat.and_le_left (by omega)
      show some (Value.int .i32 (IntKind.wrap .i32 _)) = _
      rw [show IntKind.bits .i32 = 32 from rfl, e]
      rw [wrap_id (by omega) (by show _ < (2 : Int) ^ 31; omega)])
theorem o_or_i32 {t t' : TypeId} {x y : Operand} {a b : Int} (hx : Opd env x (.int .i32 a)) (hy : Opd env y (.int .i32 b)) (h0 : 0 ≤ a) (h1 : 0 ≤ b) (h2 : a < 2147483648) (h3 : b < 2147483648) :
    OpEv P T ⟨dst, .binOp .or t x y t', ty, pos, after, gd⟩ env n g (.int .i32 ((a.toNat ||| b.toNat : Nat) : Int)) n .nil := op_bin hx.ev hy.ev (by
      have e : _ = a.toNat ||| b.toNat := bv_or 32 h0 h1 (by omega) (by omega)
      have l : a.toNat ||| b.toNat < 2147483648 := Nat.or_lt_two_pow (n := 31) (by omega) (by omega)
      show some (Value.int .i32 (IntKind.wrap .i32 _)) = _
      rw [show IntKind.bits .i32 = 32 from rfl, e]
      rw [wrap_id (by omega) (by show _ < (2 : Int) ^ 31; omega)])
theorem o_xor_i32 {t t' : TypeId} {x y : Operand} {a b : Int} (hx : Opd env x (.int .i32 a)) (hy : Opd env y (.int .i32 b)) (h0 : 0 ≤ a) (h1 : 0 ≤ b) (h2 : a < 2147483648) (h3 : b < 2147483648) :
    OpEv P T ⟨dst, .binOp .xor t x y t', ty, pos, after, gd⟩ env n g (.int .i32 ((a.toNat ^^^ b.toNat : Nat) : Int)) n .nil := op_bin hx.ev hy.ev (by
      have e : _ = a.toNat ^^^ b.toNat := bv_xor 32 h0 h1 (by omega) (by omega)
      have l : a.toNat ^^^ b.toNat < 2147483648 := Nat.xor_lt_two_pow (n := 31) (by omega) (by omega)
      show some (Value.int .i32 (IntKind.wrap .i32 _)) = _
      rw [show IntKind.bits .i32 = 32 from rfl, e]
      rw [wrap_id (by omega) (by show _ < (2 : Int) ^ 31; omega)])
theorem o_andNot_i32 {t t' : TypeId} {x y : Operand} {a b : Int} (hx : Opd env x (.int .i32 a)) (hy : Opd env y (.int .i32 b)) (h0 : 0 ≤ a) (h1 : 0 ≤ b) (h2 : a < 2147483648) (h3 : b < 2147483648) :
    OpEv P T ⟨dst, .binOp .andNot t x y t', ty, pos, after, gd⟩ env n g (.int .i32 ((a.toNat &&& (4294967295 - b.toNat) : Nat) : Int)) n .nil := op_bin hx.ev hy.ev (by
      have e : _ = a.toNat &&& (4294967295 - b.toNat) := bv_andNot 32 h0 h1 (by omega) (by omega)
      have l : a.toNat &&& (4294967295 - b.toNat) < 2147483648 := Nat.lt_of_le_of_lt Nat.and_le_left (by omega)
      show some (Value.int .i32 (IntKind.wrap .i32 _)) = _
      rw [show IntKind.bits .i32 = 32 from rfl, e]
      rw [wrap_id (by omega) (by show _ < (2 : Int) ^ 31; omega)])
/-- With a mask of the lowest bits: the rest of a division. -/
theorem o_mask_i32 {t t' : TypeId} {x y : Operand} {a b m : Int} (hx : Opd env x (.int .i32 a)) (hy : Opd env y (.int .i32 b)) (h0 : 0 ≤ a) (h1 : 0 ≤ b) (h3 : b < 2147483648) (hm : b + 1 = m) (hp : (2 : Nat) ^ (Nat.log2 (b.toNat + 1)) = b.toNat + 1) :
    OpEv P T ⟨dst, .binOp .and t x y t', ty, pos, after, gd⟩ env n g (.int .i32 (a % m)) n .nil := op_bin hx.ev hy.ev (by
      obtain ⟨x, rfl⟩ := Int.eq_ofNat_of_zero_le h0
      obtain ⟨y, rfl⟩ := Int.eq_ofNat_of_zero_le h1
      have hy : y < 2147483648 := by omega
      rw [Int.toNat_natCast] at hp
      have hj : Nat.log2 (y + 1) ≤ 32 := (Nat.pow_le_pow_iff_right (a := 2) (by decide)).1 (by rw [hp]; omega)
      have e : (BitVec.ofInt 32 (x : Int) &&& BitVec.ofInt 32 (y : Int)).toNat = x % (y + 1) := by
        rw [BitVec.toNat_and, BitVec.ofInt_natCast, BitVec.ofInt_natCast, BitVec.toNat_ofNat, BitVec.toNat_ofNat, Nat.mod_eq_of_lt (a := y) (by omega)]
        have hy' : y = 2 ^ (Nat.log2 (y + 1)) - 1 := by rw [hp]; omega
        rw [hy', Nat.and_two_pow_sub_one_eq_mod, ← hy', Nat.mod_mod_of_dvd _ (Nat.pow_dvd_pow 2 hj), hp]
      have l : x % (y + 1) < y + 1 := Nat.mod_lt _ (by omega)
      show some (Value.int .i32 (IntKind.wrap .i32 _)) = _
      rw [show IntKind.bits .i32 = 32 from rfl, e]
      rw [wrap_id (by omega) (by show _ < (2 : Int) ^ 31; omega)]
      subst hm
      rw [Int.natCast_emod]; rfl)
theorem o_shrN_i32 {t t' : TypeId} {x y : Operand} {yk : IntKind} {a b : Int} (hx : Opd env x (.int .i32 a)) (hy : Opd env y (.int yk b)) (h0 : 0 ≤ a) (hb : 0 ≤ b) (ha : a < 4294967296) :
    OpEv P T ⟨dst, .binOp .shr t x y t', ty, pos, after, gd⟩ env n g (.int .i32 ((a.toNat >>> b.toNat : Nat) : Int)) n .nil := o_shrN hx hy h0 hb (by show _ < (2 : Int) ^ 32; omega)
theorem o_conv_i32 {s t : TypeId} {x : Operand} {k : IntKind} {a : Int} {d : TypeDesc} [hs : Uc P s d] [ht : Uc P t (.int .i32)] (hx : Opd env x (.int k a)) (h0 : -2147483648 ≤ a) (h1 : a < 2147483648) :
    OpEv P T ⟨dst, .convert s t x, ty, pos, after, gd⟩ env n g (.int .i32 a) n .nil := by
  have := o_conv (P := P) (T := T) (n := n) (g := g) (dst := dst) (ty := ty) (pos := pos) (after := after) (gd := gd) hs.out ht.out hx
  have e : IntKind.wrap .i32 a = a := by simp only [IntKind.wrap, IntKind.signed]; simp [IntKind.bits]; omega
  rw [e] at this; exact this
theorem o_shl_i32 {t t' : TypeId} {x y : Operand} {yk : IntKind} {a b : Int} (hx : Opd env x (.int .i32 a)) (hy : Opd env y (.int yk b)) (hb : 0 ≤ b) (hb2 : b ≤ 32) (h0 : -2147483648 ≤ a * 2 ^ b.toNat) (h1 : a * 2 ^ b.toNat < 2147483648) :
    OpEv P T ⟨dst, .binOp .shl t x y t', ty, pos, after, gd⟩ env n g (.int .i32 (a * 2 ^ b.toNat)) n .nil := by
  have := o_shl (P := P) (T := T) (n := n) (g := g) (dst := dst) (ty := ty) (pos := pos) (after := after) (gd := gd) (t := t) (t' := t') hx hy hb
  rw [show min b.toNat (IntKind.bits .i32) = b.toNat from Nat.min_eq_left (by show _ ≤ 32; omega)] at this
  have e : IntKind.wrap .i32 (a * 2 ^ b.toNat) = a * 2 ^ b.toNat := by generalize a * 2 ^ b.toNat = q at *; simp only [IntKind.wrap, IntKind.signed]; simp [IntKind.bits]; omega
  rw [e] at this; exact this
/-- A shift to the right by a written number. -/
theorem o_shrC {t t' : TypeId} {x y : Operand} {k yk : IntKind} {a b m : Int} (hx : Opd env x (.int k a)) (hy : Opd env y (.int yk b)) (hb : 0 ≤ b) (hk : b < 8) (hm : (2 : Int) ^ b.toNat = m) :
    OpEv P T ⟨dst, .binOp .shr t x y t', ty, pos, after, gd⟩ env n g (.int k (a / m)) n .nil := by
  have := o_shr (P := P) (T := T) (n := n) (g := g) (dst := dst) (ty := ty) (pos := pos) (after := after) (gd := gd) (t := t) (t' := t') hx hy hb
  have e : min b.toNat k.bits = b.toNat := by cases k <;> simp [IntKind.bits] <;> omega
  rw [e, hm, Int.fdiv_eq_ediv_of_nonneg _ (by rw [← hm]; exact Int.le_of_lt (Int.pow_pos (by decide)))] at this
  exact this
theorem o_shrC64 {t t' : TypeId} {x y : Operand} {k yk : IntKind} {a b m : Int} (hx : Opd env x (.int k a)) (hy : Opd env y (.int yk b)) (hb : 0 ≤ b) (hk : b ≤ (k.bits : Int)) (hm : (2 : Int) ^ b.toNat = m) :
    OpEv P T ⟨dst, .binOp .shr t x y t', ty, pos, after, gd⟩ env n g (.int k (a / m)) n .nil := by
  have := o_shr (P := P) (T := T) (n := n) (g := g) (dst := dst) (ty := ty) (pos := pos) (after := after) (gd := gd) (t := t) (t' := t') hx hy hb
  have e : min b.toNat k.bits = b.toNat := by omega
  rw [e, hm, Int.fdiv_eq_ediv_of_nonneg _ (by rw [← hm]; exact Int.le_of_lt (Int.pow_pos (by decide)))] at this
  exact this

end
end Go.Abs

/- New blocks, strings, rows: the operations' laws as the stepping takes them. -/
namespace Go.Abs
open Go.RowKit

/-- Parts written out, their values looked up. -/
inductive Prts (env : Env) : List (Nat × Operand) → List (Nat × Value) → Prop
  | nil : Prts env [] []
  | cons {i x v r s} (h : Opd env x v) (t : Prts env r s) : Prts env ((i, x) :: r) ((i, v) :: s)
theorem Prts.map {env : Env} {ps vs} (h : Prts env ps vs) : ps.map (fun p => (p.1, ev env p.2)) = vs := by
  induction h with
  | nil => rfl
  | cons h _ ih => simp [h.ev, ih]
theorem Prts.fst {env : Env} {ps vs} (h : Prts env ps vs) : ps.map (·.1) = vs.map (·.1) := by
  induction h with
  | nil => rfl
  | cons h _ ih => simp [ih]
theorem Prts.snd {env : Env} {ps vs} (h : Prts env ps vs) : (ps.map (·.2)).map (ev env) = vs.map (·.2) := by
  induction h with
  | nil => rfl
  | cons h _ ih => simp [h.ev, ih]
/-- Values of z cells each, their cells one behind the other. -/
inductive Cs (z : Nat) : List (Nat × Value) → List Value → Prop
  | nil : Cs z [] []
  | one {i v r cs} (hz : z = 1) (ho : v.cells = #[v]) (hk : okV v = true) (t : Cs z r cs) : Cs z ((i, v) :: r) (v :: cs)
  | agg {i l r cs cs'} (hz : l.length = z) (hk : known l = true) (t : Cs z r cs) (hcs : l ++ cs = cs') : Cs z ((i, .agg l.toArray) :: r) cs'
theorem Cs.spec {z : Nat} {ps cs} (h : Cs z ps cs) : cellsOf (ps.map (·.2)) = cs ∧ ∀ p, p ∈ ps → okV p.2 = true ∧ p.2.cells.size = z := by
  induction h with
  | nil => exact ⟨rfl, fun _ h => by simp at h⟩
  | one hz ho hk t ih =>
    refine ⟨by simp [cellsOf, ho] at ih ⊢; exact ih.1, fun p hp => ?_⟩
    rcases List.mem_cons.1 hp with rfl | hp
    · exact ⟨hk, by simp [ho, hz]⟩
    · exact ih.2 p hp
  | agg hz hk t hcs ih =>
    subst hcs
    refine ⟨by simp only [cellsOf, List.map_cons, List.flatMap_cons] at ih ⊢; rw [ih.1]; rfl, fun p hp => ?_⟩
    rcases List.mem_cons.1 hp with rfl | hp
    · exact ⟨by simpa [okV] using hk, by simpa [Value.cells] using hz⟩
    · exact ih.2 p hp

section
variable {P : Program} {T : Nat → Prop} {env : Env} {n : Nat} {g : AH}
variable {dst : Option Tmp} {ty : TypeId} {pos : String} {after : Array Edge} {gd : Option (Nat × Bool)}

theorem o_buildP {t : TypeId} {ps : List (Nat × Operand)} {vs : List (Nat × Value)} {places : List (Nat × Nat)} {zero cs : List Value} [s : Sc P t places zero] (hx : Prts env ps vs) (hok : vs.all (fun p => okV p.2) = true) (hb : Bl places zero vs cs) :
    OpEv P T ⟨dst, .build t ps.toArray, ty, pos, after, gd⟩ env n g (.agg cs.toArray) n .nil := by
  obtain ⟨fs, z, by_, zv, h1, h2, h3, h4⟩ := s.out
  have hm := hx.map
  refine op_build h1 h2 h4 ?_ ?_
  · rw [← hm, List.all_map] at hok
    simpa [Function.comp_def] using hok
  · have := hb.fill
    rw [← h3] at this
    rw [show ps.toArray.toList = ps from rfl, hm]
    simpa using this

theorem o_buildSliceP {t e : TypeId} {len : Nat} {ps : List (Nat × Operand)} {vs : List (Nat × Value)} {cs : List Value} {d : TypeDesc} {z by_ : Nat} {zv : Value} [hu : Uc P t (.slice e)] [hz : Tc P e d z by_ zv] (hf : zv.cells.toList.all (flat 8) = true)
    (hzz : zv.cells.size = z) (hz0 : z ≠ 0) (hx : Prts env ps vs) (hi : vs.map (·.1) = List.range len) (hbig : Nat.ble (len * z) 16777216 = true) (hc : Cs z vs cs) :
    OpEv P T ⟨dst, .buildSlice t len ps.toArray, ty, pos, after, gd⟩ env n g (.slice (some ⟨n, 0, none⟩) len len) (n + 1) (.new n ⟨cs.length, 0, true, z⟩ cs) := by
  obtain ⟨c1, c2⟩ := hc.spec
  have hlen : ps.length = len := by have := congrArg List.length (hx.fst.trans hi); simpa using this
  have e : ps = ((ps.map (·.2)).zipIdx.map fun p => (p.2, p.1)) := by
    apply List.ext_getElem
    · simp
    · intro i h1 h2
      have e1 : (ps.map (·.1))[i]'(by simpa using h1) = i := by
        have : ps.map (·.1) = List.range len := hx.fst.trans hi
        simp [this]
      simp at e1 ⊢
      exact Prod.ext e1 rfl
  have := op_buildSlice (P := P) (T := T) (n := n) (g := g) (env := env) (dst := dst) (ty := ty) (pos := pos) (after := after) (gd := gd) (t := t) (len := len) (xs := ps.map (·.2)) hu.out hz.out (by simpa using hf) hzz hz0 (by simpa using hlen) (Nat.le_of_ble_eq_true hbig) (fun x hx' => by
    have h1 : ev env x ∈ (ps.map (·.2)).map (ev env) := List.mem_map_of_mem hx'
    rw [hx.snd] at h1
    obtain ⟨p, hp, he⟩ := List.mem_map.1 h1
    rw [← he]; exact c2 p hp)
  rw [hx.snd, c1, ← e] at this
  exact this

theorem o_alloc1 {e : TypeId} {d : TypeDesc} {by_ : Nat} {zv : Value} [hz : Tc P e d 1 by_ zv] (hc : zv.cells = #[zv]) (hf : flat 8 zv = true) :
    OpEv P T ⟨dst, .alloc e, ty, pos, after, gd⟩ env n g (.pointer (some ⟨n, 0, none⟩)) (n + 1) (.new n ⟨1, 0, true, 0⟩ [zv]) := by
  have := op_alloc (P := P) (T := T) (n := n) (g := g) (e := e) (env := env) (dst := dst) (ty := ty) (pos := pos) (after := after) (gd := gd) hz.out (by rw [hc]; simpa using hf)
  rw [hc] at this; exact this
theorem o_allocAgg {e : TypeId} {d : TypeDesc} {z by_ : Nat} {l : List Value} [hz : Tc P e d z by_ (.agg l.toArray)] (hl : l.length = z) (hf : l.all (flat 8) = true) :
    OpEv P T ⟨dst, .alloc e, ty, pos, after, gd⟩ env n g (.pointer (some ⟨n, 0, none⟩)) (n + 1) (.new n ⟨z, 0, true, 0⟩ l) := by
  have := op_alloc (P := P) (T := T) (n := n) (g := g) (e := e) (env := env) (dst := dst) (ty := ty) (pos := pos) (after := after) (gd := gd) hz.out (by simpa [Value.cells] using hf)
  simp only [Value.cells, hl] at this; exact this
theorem o_box1 {e : TypeId} {x : Operand} {v : Value} (hx : Opd env x v) (hc : v.cells = #[v]) (hy : okV v = true) :
    OpEv P T ⟨dst, .box e x, ty, pos, after, gd⟩ env n g (.pointer (some ⟨n, 0, none⟩)) (n + 1) (.new n ⟨1, 0, true, 0⟩ [v]) := by
  have := o_box (P := P) (T := T) (n := n) (g := g) (e := e) (env := env) (dst := dst) (ty := ty) (pos := pos) (after := after) (gd := gd) hx hy
  rw [hc] at this; exact this
theorem o_boxAgg {e : TypeId} {x : Operand} {l : List Value} (hx : Opd env x (.agg l.toArray)) (hy : known l = true) :
    OpEv P T ⟨dst, .box e x, ty, pos, after, gd⟩ env n g (.pointer (some ⟨n, 0, none⟩)) (n + 1) (.new n ⟨l.length, 0, true, 0⟩ l) := by
  have := o_box (P := P) (T := T) (n := n) (g := g) (e := e) (env := env) (dst := dst) (ty := ty) (pos := pos) (after := after) (gd := gd) hx hy
  exact this
theorem o_makeSlice1 {t e : TypeId} {x y : Operand} {a c : Int} {d : TypeDesc} {by_ : Nat} {zv : Value} [hu : Uc P t (.slice e)] [hz : Tc P e d 1 by_ zv] (hx : Opd env x (.int .i64 a)) (hy : Opd env y (.int .i64 c)) (hc : zv.cells = #[zv]) (hf : flat 8 zv = true)
    (h0 : 0 ≤ a) (hac : a ≤ c) (hb : c.toNat * by_ ≤ 281474976710656) (hM : c ≤ 9223372036854775807) :
    OpEv P T ⟨dst, .makeSlice t x y, ty, pos, after, gd⟩ env n g (.slice (some ⟨n, 0, none⟩) a.toNat a.toNat) (n + 1) (.new n ⟨a.toNat, 0, true, 1⟩ (List.replicate a.toNat zv)) := by
  have hx' := hx.ev
  have hy' := hy.ev
  rw [← Int.toNat_of_nonneg h0] at hx'
  rw [← Int.toNat_of_nonneg (Int.le_trans h0 hac)] at hy'
  have := op_makeSlice (P := P) (T := T) (n := n) (g := g) (dst := dst) (ty := ty) (pos := pos) (after := after) (gd := gd) hu.out hz.out (by rw [hc]; simpa using hf) (by rw [hc]; rfl) (by decide) hx' hy' (by omega) hb (by omega)
  rw [hc, zrow_one, List.length_replicate] at this
  exact this
theorem o_makeSliceZ {t e : TypeId} {x y : Operand} {a c : Int} {d : TypeDesc} {z by_ : Nat} {l : List Value} [hu : Uc P t (.slice e)] [hz : Tc P e d z by_ (.agg l.toArray)] (hx : Opd env x (.int .i64 a)) (hy : Opd env y (.int .i64 c)) (hl : l.length = z) (hz0 : z ≠ 0) (hf : l.all (flat 8) = true)
    (h0 : 0 ≤ a) (hac : a ≤ c) (hb : c.toNat * by_ ≤ 281474976710656) (hM : c ≤ 9223372036854775807) :
    OpEv P T ⟨dst, .makeSlice t x y, ty, pos, after, gd⟩ env n g (.slice (some ⟨n, 0, none⟩) a.toNat a.toNat) (n + 1) (.new n ⟨a.toNat * z, 0, true, z⟩ (zrow l a.toNat)) := by
  have hx' := hx.ev
  have hy' := hy.ev
  rw [← Int.toNat_of_nonneg h0] at hx'
  rw [← Int.toNat_of_nonneg (Int.le_trans h0 hac)] at hy'
  have := op_makeSlice (P := P) (T := T) (n := n) (g := g) (dst := dst) (ty := ty) (pos := pos) (after := after) (gd := gd) hu.out hz.out (by simpa [Value.cells] using hf) (by simpa [Value.cells] using hl) hz0 hx' hy' (by omega) hb (by omega)
  rw [show (Value.agg l.toArray).cells.toList = l from rfl, zrow_length, hl] at this
  exact this

/-! Strings. -/
theorem baList {a b : ByteArray} : a.toList = b.toList ↔ a = b := by
  rw [ByteArray.toList_eq, ByteArray.toList_eq]
  constructor
  · intro h
    cases a; cases b
    simp only [ByteArray.mk.injEq]
    exact Array.ext' h
  · intro h; rw [h]
theorem o_eqS {t t' : TypeId} {x y : Operand} {a b : ByteArray} (hx : Opd env x (.string a)) (hy : Opd env y (.string b)) :
    OpEv P T ⟨dst, .binOp .eql t x y t', ty, pos, after, gd⟩ env n g (.bool (decide (a = b))) n .nil :=
  op_str hx.ev hy.ev (fun w => by simp only [Op.stringOp, Sem.run_pure]; congr 2; by_cases h : a = b <;> simp [h, baList]) (fun _ => .bool _) (by decide)
theorem o_neS {t t' : TypeId} {x y : Operand} {a b : ByteArray} (hx : Opd env x (.string a)) (hy : Opd env y (.string b)) :
    OpEv P T ⟨dst, .binOp .neq t x y t', ty, pos, after, gd⟩ env n g (.bool (decide (a ≠ b))) n .nil :=
  op_str hx.ev hy.ev (fun w => by simp only [Op.stringOp, Sem.run_pure]; congr 2; by_cases h : a = b <;> simp [h, bne, baList]) (fun _ => .bool _) (by decide)
theorem o_s2b {s t e : TypeId} {x : Operand} {u : ByteArray} [hs : Uc P s .string] [ht : Uc P t (.slice e)] [he : Uc P e (.int .u8)] (hx : Opd env x (.string u)) :
    OpEv P T ⟨dst, .convert s t x, ty, pos, after, gd⟩ env n g (.slice (some ⟨n, 0, none⟩) u.size u.size) (n + 1) (.new n ⟨(bytesV u.data.toList).length, 0, true, 1⟩ (bytesV u.data.toList)) := op_s2b hs.out ht.out he.out hx.ev
/-- A byte's cell. -/
def bytesF (l : List UInt8) : Nat → Value := fun j => .int .u8 ((l.getD j 0).toNat : Nat)
abbrev SlB (h : AH) (n : Nat) (a : Option Addr) (l : List UInt8) : Prop := SlR h n a 1 l.length (bytesF l)
theorem SlB.rd {h h' : AH} {n : Nat} {a : Option Addr} {l : List UInt8} (s : SlB h n a l) (e : Ext n h h') : rd h' (sb a) (so a) l.length = bytesV l := by
  have := SlR.rd s e (i := 0) (k := l.length) (by omega)
  rw [Nat.add_zero] at this
  rw [this]
  apply List.ext_getElem
  · simp [bytesV]
  · intro i h1 h2
    have hi : i < l.length := by simpa using h1
    simp [bytesV, bytesF, List.getD, hi]
theorem o_b2s {s t e : TypeId} {x : Operand} {a : Option Addr} {m : Nat} {l : List UInt8} {n0 : Nat} {h0 : AH} [hs : Uc P s (.slice e)] [he : Uc P e (.int .u8)] [ht : Uc P t .string] (hx : Opd env x (.slice a m m)) (S : SlB h0 n0 a l) (E : Ext n0 h0 g) (hm : m = l.length) :
    OpEv P T ⟨dst, .convert s t x, ty, pos, after, gd⟩ env n g (.string ⟨l.toArray⟩) n .nil := by
  subst hm
  rcases S.shape with ⟨k1, k2⟩ | ⟨k1, _⟩
  · have : l = [] := List.eq_nil_of_length_eq_zero k2
    subst this; subst k1
    exact op_b2sNil hs.out he.out ht.out hx.ev
  · have hx' := hx.ev
    rw [k1] at hx'
    exact op_b2s hs.out he.out ht.out hx' (S.rd E)
theorem o_func {f : FuncId} {caps : List Operand} {vs : List Value} (hx : Opds env caps vs) : OpEv P T ⟨dst, .makeFunc (.func f) #[] caps.toArray, ty, pos, after, gd⟩ env n g (.func (.func f) #[] vs.toArray) n .nil := by
  have := op_func (P := P) (T := T) (n := n) (g := g) (env := env) (f := f) (caps := caps.toArray) (dst := dst) (ty := ty) (pos := pos) (after := after) (gd := gd)
  rw [hx.mapA] at this; exact this
end
end Go.Abs
