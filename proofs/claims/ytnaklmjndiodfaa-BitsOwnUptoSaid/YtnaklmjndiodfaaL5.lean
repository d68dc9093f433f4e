/- The law BitsOwn, over its arguments. -/
import Derived.Test.YtnaklmjndiodfaaM
import Derived.Test.YtnaklmjndiodfaaArg
namespace Go.Proofs.Ytnaklmjndiodfaa
open Go.Abs Go.RowKit
theorem bodyBitsOwn {H : Type} {h : AH} {n : Nat} {vs : List Value} {ds : List (DataW H)} (lo : Low n h) (hn : 0 < n) (hr : RepArgs Try.prog h [24, 3] vs ds) (hb : Rows.uptoBulkAll ds ≤ 1048576) :
    ∃ n' h', Ev Try.prog none' 10 vs.toArray n h (.bool true) n' h' := by
  obtain ⟨a1, d1, vs, ds, rfl, rfl, r1, hr⟩ := hr.cons_
  obtain ⟨a2, d2, vs, ds, rfl, rfl, r2, hr⟩ := hr.cons_
  obtain ⟨rfl, rfl⟩ := hr.nil_
  obtain ⟨N, b, l, rfl, S, hl, w⟩ := bits_arg lo r1
  obtain ⟨i, rfl, hi⟩ := int_arg r2
  simp only [Rows.uptoBulkAll] at hb
  simp [Lit.wf, IntKind.min, IntKind.max, IntKind.signed, IntKind.bits] at w
  obtain ⟨r, n', h', k, rfl⟩ := law_BitsOwn N l b n h i S (by omega) hn hi ⟨w.1, by omega⟩
  exact ⟨n', h', k⟩
end Go.Proofs.Ytnaklmjndiodfaa
