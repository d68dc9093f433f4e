/- What the arguments of bits' laws read as. -/
import Derived.Test.YtnaklmjndiodfaaRows
import Derived.Test.YtnaklmjndiodfaaAbsRep
import Derived.Test.YtnaklmjndiodfaaTy
namespace Go.Proofs.Ytnaklmjndiodfaa
open Go.Abs Go.RowKit

section
variable {H : Type}
theorem bulk_one (d : DataW H) : 1 ≤ Rows.uptoBulk d := by
  cases d with
  | lit l => cases l <;> simp [Rows.uptoBulk]
  | _ => simp [Rows.uptoBulk]
theorem bulk_mem {d : DataW H} {l : List (DataW H)} (h : d ∈ l) : Rows.uptoBulk d ≤ Rows.uptoBulkAll l := by
  induction l with
  | nil => cases h
  | cons x r ih =>
    simp only [Rows.uptoBulkAll]
    rcases List.mem_cons.1 h with e | e
    · subst e; omega
    · have := ih e; omega
theorem bulk_len (l : List (DataW H)) : l.length ≤ Rows.uptoBulkAll l := by
  induction l with
  | nil => simp
  | cons x r ih => have := bulk_one x; simp only [Rows.uptoBulkAll, List.length_cons]; omega
theorem bulk_elems {d : DataW H} {elems spare : List (DataW H)} (h : (d = .nil ∧ elems = []) ∨ d = .slice elems spare) : elems.length ≤ Rows.uptoBulk d := by
  rcases h with ⟨_, rfl⟩ | rfl
  · simp
  · have := bulk_len elems
    simp only [Rows.uptoBulk]; omega
theorem bulk_elem {d x : DataW H} {elems spare : List (DataW H)} (h : (d = .nil ∧ elems = []) ∨ d = .slice elems spare) (hx : x ∈ elems) : Rows.uptoBulk x ≤ Rows.uptoBulk d := by
  rcases h with ⟨_, rfl⟩ | rfl
  · cases hx
  · have := bulk_mem hx
    simp only [Rows.uptoBulk]; omega
theorem bulk_part {x : DataW H} {parts : List (DataW H)} (hx : x ∈ parts) : Rows.uptoBulk x ≤ Rows.uptoBulk (.agg parts) := by
  have := bulk_mem hx
  simp only [Rows.uptoBulk]; omega
variable {h : AH} {n : Nat} {d : DataW H} {a : Value}
theorem bits_cells {cs : List Value} (lo : Low n h) (r : RepD Try.prog h 24 cs d) : ∃ (N : Int) (a : Option Addr) (l : List UInt8), cs = [.int .i64 N, .slice a l.length l.length] ∧ SlB h n a l ∧ l.length ≤ Rows.uptoBulk d ∧ (Lit.int .i64 N).wf = true := by
  obtain ⟨parts, rfl, h1, h2, h3⟩ := r.struct_ Try.underlying24
  have h1 : cs.length = 2 := h1
  match parts, h2 with
  | [d1, d2], _ =>
    match cs, h1 with
    | [c1, c2], _ =>
      have r1 := h3 0 _ d1 rfl rfl
      have r2 := h3 1 _ d2 rfl rfl
      obtain ⟨N, e1, _, w⟩ := RepD.int_ Try.underlying3 r1
      obtain ⟨b, l, elems, spare, e2, e3, e4, S⟩ := RepD.bytes_ lo Try.underlying22 Try.underlying5 (by kernel_rfl) r2
      have e1' : [c1] = [.int .i64 N] := e1
      have e2' : [c2] = [.slice b l.length l.length] := e2
      cases e1'; cases e2'
      have k1 := bulk_elems e3
      have k2 : Rows.uptoBulk d2 ≤ Rows.uptoBulk (.agg [d1, d2]) := bulk_part (by simp)
      exact ⟨N, b, l, rfl, S, by omega, w⟩
theorem bits_arg (lo : Low n h) (r : RepA Try.prog h 24 a d) : ∃ (N : Int) (b : Option Addr) (l : List UInt8), a = .agg #[.int .i64 N, .slice b l.length l.length] ∧ SlB h n b l ∧ l.length ≤ Rows.uptoBulk d ∧ (Lit.int .i64 N).wf = true := by
  obtain ⟨cs, rfl, r'⟩ := RepA.agg Try.underlying24 r
  obtain ⟨N, b, l, rfl, S, h1, h2⟩ := bits_cells lo r'
  exact ⟨N, b, l, rfl, S, h1, h2⟩
theorem int_arg (r : RepA Try.prog h 3 a d) : ∃ x : Int, a = .int .i64 x ∧ -9223372036854775808 ≤ x ∧ x ≤ 9223372036854775807 := by
  obtain ⟨x, h1, _, w⟩ := RepD.int_ Try.underlying3 (RepA.one Try.underlying3 (by intro fs h; cases h) r)
  cases h1
  simp [Lit.wf, IntKind.min, IntKind.max, IntKind.signed, IntKind.bits] at w
  exact ⟨x, rfl, w.1, by omega⟩
theorem u16_arg (r : RepA Try.prog h 34 a d) : ∃ x : Int, a = .int .u16 x ∧ 0 ≤ x ∧ x < 65536 := by
  obtain ⟨x, h1, _, w⟩ := RepD.int_ Try.underlying34 (RepA.one Try.underlying34 (by intro fs h; cases h) r)
  cases h1
  simp [Lit.wf, IntKind.min, IntKind.max, IntKind.signed, IntKind.bits] at w
  exact ⟨x, rfl, w.1, by omega⟩
theorem bool_arg (r : RepA Try.prog h 4 a d) : ∃ x : Bool, a = .bool x := by
  obtain ⟨x, h1⟩ := RepD.bool_ Try.underlying4 (RepA.one Try.underlying4 (by intro fs h; cases h) r)
  cases h1
  exact ⟨x, rfl⟩
theorem bools_arg (lo : Low n h) (r : RepA Try.prog h 33 a d) : ∃ (b : Option Addr) (l : List Bool), a = .slice b l.length l.length ∧ SlT h n b l ∧ l.length ≤ Rows.uptoBulk d := by
  obtain ⟨b, l, elems, spare, e2, e3, e4, S⟩ := RepD.bools_ lo Try.underlying33 Try.underlying4 (by kernel_rfl) (RepA.one Try.underlying33 (by intro fs h; cases h) r)
  cases e2
  have k1 := bulk_elems e3
  exact ⟨b, l, rfl, S, by omega⟩
end
end Go.Proofs.Ytnaklmjndiodfaa
