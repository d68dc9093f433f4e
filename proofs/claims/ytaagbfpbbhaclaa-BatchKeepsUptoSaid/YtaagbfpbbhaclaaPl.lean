/- The plain law of batches: types, values, rows. -/
import Derived.Test.YtaagbfpbbhaclaaTy
import Derived.Test.YtaagbfpbbhaclaaAbsEq
set_option linter.unusedSimpArgs false
set_option linter.unusedVariables false
namespace Go.Proofs.Ytaagbfpbbhaclaa
open Go.Abs

structure Ty where
  kind : Int
  scale : Int
deriving DecidableEq
structure Val where
  ty : Ty
  null : Bool
  num : Int
  txt : ByteArray
def tyC (t : Ty) : List Value := [.int .i64 t.kind, .int .i64 t.scale]
def valC (v : Val) : List Value := [.int .i64 v.ty.kind, .int .i64 v.ty.scale, .bool v.null, .int .i64 v.num, .string v.txt]
/-- Whether a type may be. -/
def Ty.may (t : Ty) : Prop := 1 ≤ t.kind ∧ t.kind ≤ 5 ∧ 0 ≤ t.scale ∧ t.scale ≤ 18 ∧ (t.scale = 0 ∨ t.kind = 3)
instance (t : Ty) : Decidable t.may := by unfold Ty.may; infer_instance
def Ty.check (t : Ty) : Int := if t.may then 0 else 21
/-- Whether a value of a type that may be may be. -/
def Val.may (v : Val) : Prop :=
  if v.null = true then v.num = 0 ∧ v.txt.size = 0
  else if v.ty.kind = 4 then v.num = 0 ∧ v.txt.size ≤ 256
  else v.txt.size = 0 ∧ (v.ty.kind = 1 → v.num = 0 ∨ v.num = 1) ∧ (v.ty.kind = 3 → -999999999999999999 ≤ v.num ∧ v.num ≤ 999999999999999999) ∧ (v.ty.kind = 5 → -719162 ≤ v.num ∧ v.num ≤ 2932896)
instance (v : Val) : Decidable v.may := by unfold Val.may; infer_instance
def Val.check (v : Val) : Int := if v.ty.may then (if v.may then 0 else 20) else 21
def i64 (x : Int) : Prop := -9223372036854775808 ≤ x ∧ x ≤ 9223372036854775807
structure Ty.Wf (t : Ty) : Prop where
  kind : i64 t.kind
  scale : i64 t.scale
structure Val.Wf (v : Val) : Prop where
  ty : v.ty.Wf
  num : i64 v.num
end Go.Proofs.Ytaagbfpbbhaclaa
