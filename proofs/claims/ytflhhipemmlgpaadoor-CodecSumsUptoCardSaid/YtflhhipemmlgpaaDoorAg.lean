/- How much the arguments hold (from disk). -/
import Derived.Test.YtflhhipemmlgpaaDoorRows
import Derived.Test.YtflhhipemmlgpaaDoorAbsEq
import Derived.Test.YtflhhipemmlgpaaDoorTy
import Derived.Test.YtflhhipemmlgpaaDoorPl
set_option linter.unusedSimpArgs false
set_option linter.unusedVariables false
namespace Go.Proofs.YtflhhipemmlgpaaDoor
open Go.Abs

section
def i64 (x : Int) : Prop := -9223372036854775808 ≤ x ∧ x ≤ 9223372036854775807
variable {H : Type}
theorem bulk_one (d : DataW H) : 1 ≤ Rows.uptoBulk d := by
  cases d with
  | lit l => cases l <;> simp [Rows.uptoBulk]
  | _ => simp [Rows.uptoBulk]
theorem bulk_mem {d : DataW H} {l : List (DataW H)} (h : d ∈ l) : Rows.uptoBulk d ≤ Rows.uptoBulkAll l := by
  induction l with
  | nil => cases h
  | cons x r ih =>
    simp only [Rows.uptoBulkAll]
    rcases List.mem_cons.1 h with e | e
    · subst e; omega
    · have := ih e; omega
theorem bulk_len (l : List (DataW H)) : l.length ≤ Rows.uptoBulkAll l := by
  induction l with
  | nil => simp
  | cons x r ih => have := bulk_one x; simp only [Rows.uptoBulkAll, List.length_cons]; omega
theorem bulk_elems {d : DataW H} {elems spare : List (DataW H)} (h : (d = .nil ∧ elems = []) ∨ d = .slice elems spare) : elems.length ≤ Rows.uptoBulk d := by
  rcases h with ⟨_, rfl⟩ | rfl
  · simp
  · have := bulk_len elems
    simp only [Rows.uptoBulk]; omega
theorem bulk_elem {d x : DataW H} {elems spare : List (DataW H)} (h : (d = .nil ∧ elems = []) ∨ d = .slice elems spare) (hx : x ∈ elems) : Rows.uptoBulk x ≤ Rows.uptoBulk d := by
  rcases h with ⟨_, rfl⟩ | rfl
  · cases hx
  · have := bulk_mem hx
    simp only [Rows.uptoBulk]; omega
theorem bulk_part {x : DataW H} {parts : List (DataW H)} (hx : x ∈ parts) : Rows.uptoBulk x ≤ Rows.uptoBulk (.agg parts) := by
  have := bulk_mem hx
  simp only [Rows.uptoBulk]; omega
variable {h : AH} {n : Nat} {d : DataW H} {a : Value}
theorem int_of {x : Int} (w : (Lit.int .i64 x).wf = true) : i64 x := by
  simp [Lit.wf, IntKind.min, IntKind.max, IntKind.signed, IntKind.bits] at w
  exact ⟨w.1, by omega⟩
end
end Go.Proofs.YtflhhipemmlgpaaDoor
