/- The laws BitsCuts and BitsMorgan, over their arguments. -/
import Derived.Test.YtnaklmjndiodfaaJ
import Derived.Test.YtnaklmjndiodfaaArg
namespace Go.Proofs.Ytnaklmjndiodfaa
open Go.Abs Go.RowKit
theorem bodyBitsCuts {H : Type} {h : AH} {n : Nat} {vs : List Value} {ds : List (DataW H)} (lo : Low n h) (hn : 0 < n) (hr : RepArgs Try.prog h [33, 34] vs ds) (hb : Rows.uptoBulkAll ds ≤ 1048576) :
    ∃ n' h', Ev Try.prog none' 7 vs.toArray n h (.bool true) n' h' := by
  obtain ⟨a1, d1, vs, ds, rfl, rfl, r1, hr⟩ := hr.cons_
  obtain ⟨a2, d2, vs, ds, rfl, rfl, r2, hr⟩ := hr.cons_
  obtain ⟨rfl, rfl⟩ := hr.nil_
  obtain ⟨c, t, rfl, S, ht⟩ := bools_arg lo r1
  obtain ⟨k, rfl, hk⟩ := u16_arg r2
  simp only [Rows.uptoBulkAll] at hb
  obtain ⟨r, n', h', k, rfl⟩ := law_BitsCuts t c k n h S (by omega) hn hk.1 hk.2
  exact ⟨n', h', k⟩
theorem bodyBitsMorgan {H : Type} {h : AH} {n : Nat} {vs : List Value} {ds : List (DataW H)} (lo : Low n h) (hn : 0 < n) (hr : RepArgs Try.prog h [33, 33] vs ds) (hb : Rows.uptoBulkAll ds ≤ 1048576) :
    ∃ n' h', Ev Try.prog none' 8 vs.toArray n h (.bool true) n' h' := by
  obtain ⟨a1, d1, vs, ds, rfl, rfl, r1, hr⟩ := hr.cons_
  obtain ⟨a2, d2, vs, ds, rfl, rfl, r2, hr⟩ := hr.cons_
  obtain ⟨rfl, rfl⟩ := hr.nil_
  obtain ⟨c, t, rfl, S, ht⟩ := bools_arg lo r1
  obtain ⟨d, u, rfl, S2, hu⟩ := bools_arg lo r2
  simp only [Rows.uptoBulkAll] at hb
  obtain ⟨r, n', h', k, rfl⟩ := law_BitsMorgan t u c d n h S S2 (by omega) (by omega) hn
  exact ⟨n', h', k⟩
end Go.Proofs.Ytnaklmjndiodfaa
