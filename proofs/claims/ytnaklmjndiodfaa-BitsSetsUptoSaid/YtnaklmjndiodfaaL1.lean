/- The law BitsSets, over its arguments. -/
import Derived.Test.YtnaklmjndiodfaaD
import Derived.Test.YtnaklmjndiodfaaArg
namespace Go.Proofs.Ytnaklmjndiodfaa
open Go.Abs Go.RowKit
theorem bodyBitsSets {H : Type} {h : AH} {n : Nat} {vs : List Value} {ds : List (DataW H)} (lo : Low n h) (hr : RepArgs Try.prog h [24, 3, 4] vs ds) (hb : Rows.uptoBulkAll ds ≤ 1048576) :
    ∃ n' h', Ev Try.prog none' 3 vs.toArray n h (.bool true) n' h' := by
  obtain ⟨a1, d1, vs, ds, rfl, rfl, r1, hr⟩ := hr.cons_
  obtain ⟨a2, d2, vs, ds, rfl, rfl, r2, hr⟩ := hr.cons_
  obtain ⟨a3, d3, vs, ds, rfl, rfl, r3, hr⟩ := hr.cons_
  obtain ⟨rfl, rfl⟩ := hr.nil_
  obtain ⟨N, b, l, rfl, S, hl, _⟩ := bits_arg lo r1
  obtain ⟨i, rfl, _⟩ := int_arg r2
  obtain ⟨yes, rfl⟩ := bool_arg r3
  simp only [Rows.uptoBulkAll] at hb
  obtain ⟨r, n', h', k, rfl⟩ := law_BitsSets N l b n h i yes S (by omega)
  exact ⟨n', h', k⟩
end Go.Proofs.Ytnaklmjndiodfaa
