/- LE, over their arguments. -/
import Derived.Test.YtaagbfpbbhaclaaL5
set_option linter.unusedSimpArgs false
set_option linter.unusedVariables false
namespace Go.Proofs.Ytaagbfpbbhaclaa
open Go.Abs Go.RowKit
set_option maxRecDepth 100000 in
theorem bodyBatchKeeps {H : Type} {h : AH} {n : Nat} {vs : List Value} {ds : List (DataW H)} (lo : Low n h) (hn : 0 < n) (hr : RepArgs Try.prog h [26, 44, 24, 51, 40] vs ds) (hb : Rows.uptoBulkAll ds ≤ 1048576) :
    ∃ n' h', Ev Try.prog none' 9 vs.toArray n h (.bool true) n' h' := by
  obtain ⟨a0, d0, vs, ds, rfl, rfl, r0, hr⟩ := hr.cons_
  obtain ⟨a1, d1, vs, ds, rfl, rfl, r1, hr⟩ := hr.cons_
  obtain ⟨a2, d2, vs, ds, rfl, rfl, r2, hr⟩ := hr.cons_
  obtain ⟨a3, d3, vs, ds, rfl, rfl, r3, hr⟩ := hr.cons_
  obtain ⟨a4, d4, vs, ds, rfl, rfl, r4, hr⟩ := hr.cons_
  obtain ⟨rfl, rfl⟩ := hr.nil_
  obtain ⟨ta, ts, N, ca, cs, sa, sel, rfl, B⟩ := batch_arg lo r0
  obtain ⟨M, ba, bl, rfl, S1, l1⟩ := bits_arg lo r1
  obtain ⟨xa, l, rfl, S2, l2, -⟩ := ints_arg lo r2
  obtain ⟨t, rfl⟩ := ty_arg r3
  obtain ⟨⟨la, vl⟩, rfl, S4, l4⟩ := vals_arg lo r4
  simp only [Rows.uptoBulkAll] at hb
  have k0 := bulk_one d0
  have k1 := bulk_one d1
  dsimp only at l4
  obtain ⟨r, n', h', k, rfl⟩ := law_BatchKeeps ta ca sa ba xa la ts N cs sel M bl l t vl (Rows.uptoBulk d0) n h B S1 S2 S4 (by omega) (by omega) (by omega) (by omega)
  exact ⟨n', h', k⟩
end Go.Proofs.Ytaagbfpbbhaclaa
