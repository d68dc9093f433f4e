/- Contracts of batches: types and values, held against each other. -/
import Derived.Test.YtaagbfpbbhaclaaB
import Derived.Test.YtaagbfpbbhaclaaB2
set_option linter.unusedSimpArgs false
set_option linter.unusedVariables false
namespace Go.Proofs.Ytaagbfpbbhaclaa
open Go.Abs

theorem run_ty (w : World) (a b c d : Int) (D : Nat) : (Op.equalIn (D + 2) 51 (.agg #[.int .i64 a, .int .i64 b]) (.agg #[.int .i64 c, .int .i64 d])).run Try.prog w = .ok (decide (a = c ∧ b = d)) w := by
  have hS : Try.prog.underlying 51 = some (.struct (Try.prog.fieldsOf 51)) := by kernel_rfl
  have hp : Try.prog.stoodInHeld 51 = false := by kernel_rfl
  have a3 : ∀ w, (isAgg 3).run Try.prog w = .ok false w := fun w => (ty3.run_isAgg w).trans (by rfl)
  rw [run_equalIn_agg w (D + 1) 51 _ _ hS hp]
  simp only [Program.fieldsOf, Try.underlying51]
  have e3 : ∀ (x y : Int) w, (Op.equalIn (D + 1) 3 (.int .i64 x) (.int .i64 y)).run Try.prog w = .ok (x == y) w := fun x y w => run_equalIn_int w D 3 .i64 .i64 x y Try.underlying3
  simp [Op.eqFields, part, a3, e3]
  by_cases h1 : a = c <;> by_cases h2 : b = d <;> simp [h1, h2]
theorem run_val (w : World) (a b : Int) (p : Bool) (m : Int) (x : ByteArray) (c d : Int) (q : Bool) (k : Int) (y : ByteArray) (D : Nat) :
    (Op.equalIn (D + 3) 53 (.agg #[.int .i64 a, .int .i64 b, .bool p, .int .i64 m, .string x]) (.agg #[.int .i64 c, .int .i64 d, .bool q, .int .i64 k, .string y])).run Try.prog w = .ok (decide ((a = c ∧ b = d) ∧ p = q ∧ m = k ∧ x = y)) w := by
  have hS : Try.prog.underlying 53 = some (.struct (Try.prog.fieldsOf 53)) := by kernel_rfl
  have hp : Try.prog.stoodInHeld 53 = false := by kernel_rfl
  have a51 : ∀ w, (isAgg 51).run Try.prog w = .ok true w := fun w => (ty51.run_isAgg w).trans (by rfl)
  have z51 : ∀ w, (sizeOf 51).run Try.prog w = .ok 2 w := fun w => ty51.run_sizeOf w
  have a4 : ∀ w, (isAgg 4).run Try.prog w = .ok false w := fun w => (ty4.run_isAgg w).trans (by rfl)
  have a2 : ∀ w, (isAgg 2).run Try.prog w = .ok false w := fun w => (ty2.run_isAgg w).trans (by rfl)
  have a9 : ∀ w, (isAgg 9).run Try.prog w = .ok false w := fun w => (ty9.run_isAgg w).trans (by rfl)
  rw [run_equalIn_agg w (D + 2) 53 _ _ hS hp]
  simp only [Program.fieldsOf, Try.underlying53]
  have e51 : ∀ (a b c d : Int) w, (Op.equalIn (D + 2) 51 (.agg #[.int .i64 a, .int .i64 b]) (.agg #[.int .i64 c, .int .i64 d])).run Try.prog w = .ok (decide (a = c ∧ b = d)) w := fun a b c d w => run_ty w a b c d D
  have e4 : ∀ (x y : Bool) w, (Op.equalIn (D + 2) 4 (.bool x) (.bool y)).run Try.prog w = .ok (x == y) w := fun x y w => run_equalIn_bool' w (D + 1) 4 x y Try.underlying4
  have e2 : ∀ (x y : Int) w, (Op.equalIn (D + 2) 2 (.int .i64 x) (.int .i64 y)).run Try.prog w = .ok (x == y) w := fun x y w => run_equalIn_int w (D + 1) 2 .i64 .i64 x y Try.underlying2
  have e9 : ∀ (x y : ByteArray) w, (Op.equalIn (D + 2) 9 (.string x) (.string y)).run Try.prog w = .ok (decide (x = y)) w := fun x y w => by
    rw [run_equalIn_string w (D + 1) 9 x y Try.underlying9]
    have e : (x.toList == y.toList) = decide (x = y) := by
      by_cases h : x = y <;> simp [h, baList]
    rw [e]
  simp [Op.eqFields, part, a51, z51, a4, a2, a9, e51, e4, e2, e9]
  by_cases h1 : a = c <;> by_cases h2 : b = d <;> by_cases h3 : p = q <;> by_cases h4 : m = k <;> by_cases h5 : x = y <;> simp [h1, h2, h3, h4, h5]
section
variable {P : Program} {T : Nat → Prop} {env : Env} {n : Nat} {g : AH} {dst : Option Tmp} {ty : TypeId} {pos : String} {after : Array Edge} {gd : Option (Nat × Bool)}
theorem o_neTy {t' : TypeId} {x y : Operand} {a b c d : Int} {r : Bool} (hx : Opd env x (.agg #[.int .i64 a, .int .i64 b])) (hy : Opd env y (.agg #[.int .i64 c, .int .i64 d])) (hr : r = !decide (a = c ∧ b = d)) :
    OpEv Try.prog T ⟨dst, .binOp .neq 51 x y t', ty, pos, after, gd⟩ env n g (.bool r) n .nil := by
  subst hr
  refine op_eqA (.inr rfl) (by kernel_rfl) hx.ev hy.ev (fun i hi => ?_) (fun i hi => ?_) fun w => ?_
  · have hi : i < 2 := hi
    rcases (show i = 0 ∨ i = 1 by omega) with rfl | rfl <;> rfl
  · have hi : i < 2 := hi
    rcases (show i = 0 ∨ i = 1 by omega) with rfl | rfl <;> rfl
  · rw [run_neq_struct, show (10000 : Nat) = 9998 + 2 from rfl, run_ty]; rfl
theorem o_neVal {t' : TypeId} {x y : Operand} {a b : Int} {p : Bool} {m : Int} {u : ByteArray} {c d : Int} {q : Bool} {k : Int} {v : ByteArray} {r : Bool} (hx : Opd env x (.agg #[.int .i64 a, .int .i64 b, .bool p, .int .i64 m, .string u])) (hy : Opd env y (.agg #[.int .i64 c, .int .i64 d, .bool q, .int .i64 k, .string v]))
    (hr : r = !decide ((a = c ∧ b = d) ∧ p = q ∧ m = k ∧ u = v)) :
    OpEv Try.prog T ⟨dst, .binOp .neq 53 x y t', ty, pos, after, gd⟩ env n g (.bool r) n .nil := by
  subst hr
  refine op_eqA (.inr rfl) (by kernel_rfl) hx.ev hy.ev (fun i hi => ?_) (fun i hi => ?_) fun w => ?_
  · have hi : i < 5 := hi
    rcases (show i = 0 ∨ i = 1 ∨ i = 2 ∨ i = 3 ∨ i = 4 by omega) with rfl | rfl | rfl | rfl | rfl <;> rfl
  · have hi : i < 5 := hi
    rcases (show i = 0 ∨ i = 1 ∨ i = 2 ∨ i = 3 ∨ i = 4 by omega) with rfl | rfl | rfl | rfl | rfl <;> rfl
  · rw [run_neq_struct, show (10000 : Nat) = 9997 + 3 from rfl, run_val]; rfl
end
/-- A row of values in memory. -/
def valsC (l : List Val) : List Value := l.flatMap valC
theorem valsC_length (l : List Val) : (valsC l).length = l.length * 5 := by
  induction l with
  | nil => rfl
  | cons x l ih => simp only [valsC, List.flatMap_cons, List.length_append, valC, List.length_cons, List.length_nil] at ih ⊢; omega
theorem valsC_at : ∀ (l : List Val) (i : Nat) (v : Val), l[i]? = some v → ∀ j x, (valC v)[j]? = some x → (valsC l)[i * 5 + j]? = some x
  | [], i, v, h => by simp at h
  | u :: l, 0, v, h => by
    simp only [List.getElem?_cons_zero, Option.some.injEq] at h
    subst h
    intro j x hx
    have hj : j < 5 := (List.getElem?_eq_some_iff.1 hx).1
    rw [valsC, List.flatMap_cons, List.getElem?_append_left (by show 0 * 5 + j < 5; omega)]
    simpa using hx
  | u :: l, i + 1, v, h => by
    intro j x hx
    have := valsC_at l i v (by simpa using h) j x hx
    rw [valsC, List.flatMap_cons, List.getElem?_append_right (by show 5 ≤ _; omega), show (i + 1) * 5 + j - (valC u).length = i * 5 + j by show (i + 1) * 5 + j - 5 = _; omega]
    exact this
theorem valsC_known (l : List Val) : known (valsC l) = true := by
  induction l with
  | nil => rfl
  | cons x l ih => simpa [valsC, valC, known] using ih
theorem valsC_app (l m : List Val) : valsC (l ++ m) = valsC l ++ valsC m := by simp [valsC]
abbrev SlV (h : AH) (n : Nat) (a : Option Addr) (l : List Val) : Prop := SlR h n a 5 l.length (fun j => (valsC l).getD j (.tuple #[]))
theorem SlV.at_ {h : AH} {n : Nat} {a : Option Addr} {l : List Val} (s : SlV h n a l) {i : Nat} {v : Val} (hi : l[i]? = some v) :
    SlA a l.length ∧ sb a < n ∧ h.cell (sb a) (so a + i * 5) = .int .i64 v.ty.kind ∧ h.cell (sb a) (so a + i * 5 + 1) = .int .i64 v.ty.scale ∧ h.cell (sb a) (so a + i * 5 + 2) = .bool v.null ∧ h.cell (sb a) (so a + i * 5 + 3) = .int .i64 v.num ∧ h.cell (sb a) (so a + i * 5 + 4) = .string v.txt := by
  have hil := (List.getElem?_eq_some_iff.1 hi).1
  have go : ∀ j x, (valC v)[j]? = some x → h.cell (sb a) (so a + (i * 5 + j)) = x := fun j x hx => by
    have hj : j < 5 := (List.getElem?_eq_some_iff.1 hx).1
    have := valsC_at l i v hi j x hx
    exact (s.cell (i * 5 + j) (by omega)).trans (by simp [List.getD, this])
  exact ⟨s.sla, s.lt (by omega), go 0 _ rfl, go 1 _ rfl, go 2 _ rfl, go 3 _ rfl, go 4 _ rfl⟩
end Go.Proofs.Ytaagbfpbbhaclaa
