/- Functions that tell another function values which they make. -/
import Derived.Test.YtflhhipemmlgpaaDoorAbsRR
set_option linter.unusedSimpArgs false
set_option linter.unusedVariables false
namespace Go.Abs

/-- What a function that is told values does: of value i, val tells. -/
structure IterP (P : Program) (W : Nat → Prop) (fv : Value) (k : Nat) (val : Nat → List Value → Nat → AH → Prop) (I : Nat → Nat → AH → Prop) (D : Nat → AH → Prop) : Prop where
  mono : ∀ i n h n' h', I i n h → n ≤ n' → Ext n h h' → I i n' h'
  step : ∀ (i : Nat) (vs : List Value) n h, i < k → val i vs n h → I i n h → VF P W fv vs.toArray n h fun r n' h' => (r = .bool true ∧ I (i + 1) n' h') ∨ (r = .bool false ∧ D n' h')
/-- f, with what it captured, tells a function k values; K: what it needs of memory. -/
def IterFP (P : Program) (f : FuncId) (caps : List Value) (k : Nat) (val : Nat → List Value → Nat → AH → Prop) (K : Nat → AH → Prop) : Prop :=
  ∀ (W : Nat → Prop) (fv : Value) (I : Nat → Nat → AH → Prop) (D : Nat → AH → Prop) (n : Nat) (h : AH), IterP P W fv k val I D → (∀ i n h, I i n h → K n h) → I 0 n h → 0 < n →
    RF P W f (fv :: caps).toArray n h fun _ n' h' => I k n' h' ∨ D n' h'
end Go.Abs
