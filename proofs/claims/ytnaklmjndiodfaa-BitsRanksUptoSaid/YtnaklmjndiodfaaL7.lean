/- The law BitsRanks, over its arguments. -/
import Derived.Test.YtnaklmjndiodfaaU
import Derived.Test.YtnaklmjndiodfaaArg
namespace Go.Proofs.Ytnaklmjndiodfaa
open Go.Abs Go.RowKit
theorem bodyBitsRanks {H : Type} {h : AH} {n : Nat} {vs : List Value} {ds : List (DataW H)} (lo : Low n h) (hn : 0 < n) (hr : RepArgs Try.prog h [33] vs ds) (hb : Rows.uptoBulkAll ds ≤ 1048576) :
    ∃ n' h', Ev Try.prog none' 6 vs.toArray n h (.bool true) n' h' := by
  obtain ⟨a1, d1, vs, ds, rfl, rfl, r1, hr⟩ := hr.cons_
  obtain ⟨rfl, rfl⟩ := hr.nil_
  obtain ⟨c, t, rfl, S, ht⟩ := bools_arg lo r1
  simp only [Rows.uptoBulkAll] at hb
  obtain ⟨r, n', h', k, rfl⟩ := law_BitsRanks t c n h S (by omega) hn
  exact ⟨n', h', k⟩
end Go.Proofs.Ytnaklmjndiodfaa
