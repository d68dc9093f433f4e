/- The law DiskOwn, over its arguments. -/
import Derived.Test.YtchfnjfmlhacfaaQ
import Derived.Test.YtchfnjfmlhacfaaArg
namespace Go.Proofs.Ytchfnjfmlhacfaa
open Go.Abs Go.RowKit
theorem bodyDiskOwn {H : Type} {h : AH} {n : Nat} {vs : List Value} {ds : List (DataW H)} (lo : Low n h) (hn : 0 < n) (hr : RepArgs Try.prog h [22, 23] vs ds) (hb : Rows.uptoBulkAll ds ≤ 1048576) :
    ∃ n' h', Ev Try.prog none' 3 vs.toArray n h (.bool true) n' h' := by
  obtain ⟨a1, d1, vs, ds, rfl, rfl, r1, hr⟩ := hr.cons_
  obtain ⟨a2, d2, vs, ds, rfl, rfl, r2, hr⟩ := hr.cons_
  obtain ⟨rfl, rfl⟩ := hr.nil_
  obtain ⟨c, l, rfl, S, hl⟩ := bytes_arg lo r1
  obtain ⟨b, t, rfl, S2, ht⟩ := bools_arg lo r2
  simp only [Rows.uptoBulkAll] at hb
  obtain ⟨r, n', h', k, rfl⟩ := law_DiskOwn l c _ n h S (by omega) hn
  exact ⟨n', h', k⟩
end Go.Proofs.Ytchfnjfmlhacfaa
