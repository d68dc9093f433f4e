/- The law BitsMakes, over its arguments. -/
import Derived.Test.YtnaklmjndiodfaaE
import Derived.Test.YtnaklmjndiodfaaArg
namespace Go.Proofs.Ytnaklmjndiodfaa
open Go.Abs Go.RowKit
theorem bodyBitsMakes {H : Type} {h : AH} {n : Nat} {vs : List Value} {ds : List (DataW H)} (lo : Low n h) (hn : 0 < n) (hr : RepArgs Try.prog h [33, 24, 34] vs ds) (hb : Rows.uptoBulkAll ds ≤ 1048576) :
    ∃ n' h', Ev Try.prog none' 4 vs.toArray n h (.bool true) n' h' := by
  obtain ⟨a1, d1, vs, ds, rfl, rfl, r1, hr⟩ := hr.cons_
  obtain ⟨a2, d2, vs, ds, rfl, rfl, r2, hr⟩ := hr.cons_
  obtain ⟨a3, d3, vs, ds, rfl, rfl, r3, hr⟩ := hr.cons_
  obtain ⟨rfl, rfl⟩ := hr.nil_
  obtain ⟨c, t, rfl, S2, ht⟩ := bools_arg lo r1
  obtain ⟨N, b, l, rfl, S, hl, _⟩ := bits_arg lo r2
  obtain ⟨k, rfl, hk⟩ := u16_arg r3
  simp only [Rows.uptoBulkAll] at hb
  obtain ⟨r, n', h', k, rfl⟩ := law_BitsMakes t c N l b n h k S S2 (by omega) (by omega) hk
  exact ⟨n', h', k⟩
end Go.Proofs.Ytnaklmjndiodfaa
