/- The law BitsCounts, over its arguments. -/
import Derived.Test.YtnaklmjndiodfaaT
import Derived.Test.YtnaklmjndiodfaaArg
namespace Go.Proofs.Ytnaklmjndiodfaa
open Go.Abs Go.RowKit
theorem bodyBitsCounts {H : Type} {h : AH} {n : Nat} {vs : List Value} {ds : List (DataW H)} (lo : Low n h) (hn : 0 < n) (hr : RepArgs Try.prog h [24, 3, 3, 3] vs ds) (hb : Rows.uptoBulkAll ds ≤ 1048576) :
    ∃ n' h', Ev Try.prog none' 5 vs.toArray n h (.bool true) n' h' := by
  obtain ⟨a1, d1, vs, ds, rfl, rfl, r1, hr⟩ := hr.cons_
  obtain ⟨a2, d2, vs, ds, rfl, rfl, r2, hr⟩ := hr.cons_
  obtain ⟨a3, d3, vs, ds, rfl, rfl, r3, hr⟩ := hr.cons_
  obtain ⟨a4, d4, vs, ds, rfl, rfl, r4, hr⟩ := hr.cons_
  obtain ⟨rfl, rfl⟩ := hr.nil_
  obtain ⟨N, c, l, rfl, S, hl⟩ := bits_arg lo r1
  obtain ⟨i, rfl, hi⟩ := int_arg r2
  obtain ⟨k, rfl, hk⟩ := int_arg r3
  obtain ⟨s, rfl, hs⟩ := int_arg r4
  simp only [Rows.uptoBulkAll] at hb
  obtain ⟨r, n', h', k, rfl⟩ := law_BitsCounts N l c n h i k s S (by omega) hk.1 hk.2 hn
  exact ⟨n', h', k⟩
end Go.Proofs.Ytnaklmjndiodfaa
