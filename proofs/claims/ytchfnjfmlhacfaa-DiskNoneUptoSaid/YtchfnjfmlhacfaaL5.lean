/- The law DiskNone, over its arguments. -/
import Derived.Test.YtchfnjfmlhacfaaZn
namespace Go.Proofs.Ytchfnjfmlhacfaa
open Go.Abs Go.RowKit
theorem bodyDiskNone {H : Type} {h : AH} {n : Nat} {vs : List Value} {ds : List (DataW H)} (lo : Low n h) (hn : 0 < n) (hr : RepArgs Try.prog h [36] vs ds) (hb : Rows.uptoBulkAll ds ≤ 1048576) :
    ∃ n' h', Ev Try.prog none' 8 vs.toArray n h (.bool true) n' h' := by
  obtain ⟨a1, d1, vs, ds, rfl, rfl, r1, hr⟩ := hr.cons_
  obtain ⟨rfl, rfl⟩ := hr.nil_
  obtain ⟨x, rfl, ok⟩ := op_arg lo r1
  obtain ⟨r, n', h', k, rfl⟩ := law_DiskNone x n h _ ok hn
  exact ⟨n', h', k⟩
end Go.Proofs.Ytchfnjfmlhacfaa
