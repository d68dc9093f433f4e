/- CodecSums, over its arguments. -/
import Derived.Test.YtflhhipemmlgpaaDoorL1
import Derived.Test.YtflhhipemmlgpaaDoorArg
set_option linter.unusedSimpArgs false
set_option linter.unusedVariables false
namespace Go.Proofs.YtflhhipemmlgpaaDoor
open Go.Abs Go.RowKit
set_option maxRecDepth 100000 in
theorem bodyCodecSums {H : Type} {h : AH} {n : Nat} {vs : List Value} {ds : List (DataW H)} (lo : Low n h) (hn : 0 < n) (hr : RepArgs Tryd.prog h [22, 23, 24] vs ds) (hb : Rows.uptoBulkAll ds ≤ 1048576) :
    ∃ n' h', Ev Tryd.prog none' 3 vs.toArray n h (.bool true) n' h' := by
  obtain ⟨a0, d0, vs, ds, rfl, rfl, r0, hr⟩ := hr.cons_
  obtain ⟨a1, d1, vs, ds, rfl, rfl, r1, hr⟩ := hr.cons_
  obtain ⟨a2, d2, vs, ds, rfl, rfl, r2, hr⟩ := hr.cons_
  obtain ⟨rfl, rfl⟩ := hr.nil_
  obtain ⟨a, l, rfl, S0, k0, l0⟩ := ints_arg lo r0
  obtain ⟨b, t, rfl, S1, l1⟩ := bytes_arg lo r1
  obtain ⟨k, rfl, hk⟩ := u16_arg r2
  simp only [Rows.uptoBulkAll] at hb
  obtain ⟨r, n', h', e, rfl⟩ := law_CodecSums a b l t k n h S0 k0 S1 (by omega) (by omega) hk
  exact ⟨n', h', e⟩
end Go.Proofs.YtflhhipemmlgpaaDoor
