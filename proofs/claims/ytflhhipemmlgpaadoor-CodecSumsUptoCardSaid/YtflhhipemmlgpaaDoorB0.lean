/- The complement of an int. -/
import Derived.Test.YtflhhipemmlgpaaDoorA
set_option linter.unusedSimpArgs false
set_option linter.unusedVariables false
namespace Go.Proofs.YtflhhipemmlgpaaDoor
open Go.Abs Go.RowKit
theorem not_i64 {a : Int} (hlo : -9223372036854775808 ≤ a) (hhi : a < 9223372036854775808) :
    IntKind.i64.wrap (BitVec.ofInt IntKind.i64.bits (if IntKind.i64.signed then -1 else IntKind.i64.max) ^^^ BitVec.ofInt IntKind.i64.bits a).toNat = -a - 1 := by
  have e : (BitVec.ofInt 64 (-1) ^^^ BitVec.ofInt 64 a) = ~~~ BitVec.ofInt 64 a := by
    rw [show BitVec.ofInt 64 (-1) = BitVec.allOnes 64 by decide, BitVec.allOnes_xor]
  show IntKind.i64.wrap ((BitVec.ofInt 64 (-1) ^^^ BitVec.ofInt 64 a).toNat : Nat) = -a - 1
  rw [e, BitVec.toNat_not, BitVec.toNat_ofInt]
  simp only [IntKind.wrap, show IntKind.i64.bits = 64 from rfl, show IntKind.i64.signed = true from rfl, Bool.true_and, decide_eq_true_eq]
  split <;> omega
theorem o_notI {P : Program} {T : Nat → Prop} {env : Env} {n : Nat} {g : AH} {dst : Option Tmp} {ty : TypeId} {pos : String} {after : Array Edge} {gd : Option (Nat × Bool)} {t : TypeId} {x : Operand} {a : Int} (hx : Opd env x (.int .i64 a)) (hlo : -9223372036854775808 ≤ a) (hhi : a < 9223372036854775808) :
    OpEv P T ⟨dst, .unOp .xor t x, ty, pos, after, gd⟩ env n g (.int .i64 (-a - 1)) n .nil := by
  have := op_compl (P := P) (T := T) (n := n) (g := g) (dst := dst) (ty := ty) (pos := pos) (after := after) (gd := gd) (t := t) hx.ev
  rwa [not_i64 hlo hhi] at this
end Go.Proofs.YtflhhipemmlgpaaDoor
