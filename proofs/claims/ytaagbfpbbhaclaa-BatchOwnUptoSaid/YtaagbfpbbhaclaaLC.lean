/- LC, over their arguments. -/
import Derived.Test.YtaagbfpbbhaclaaL3
set_option linter.unusedSimpArgs false
set_option linter.unusedVariables false
namespace Go.Proofs.Ytaagbfpbbhaclaa
open Go.Abs Go.RowKit
set_option maxRecDepth 100000 in
theorem bodyBatchOwn {H : Type} {h : AH} {n : Nat} {vs : List Value} {ds : List (DataW H)} (lo : Low n h) (hn : 0 < n) (hr : RepArgs Try.prog h [22, 23] vs ds) (hb : Rows.uptoBulkAll ds ≤ 1048576) :
    ∃ n' h', Ev Try.prog none' 6 vs.toArray n h (.bool true) n' h' := by
  obtain ⟨a0, d0, vs, ds, rfl, rfl, r0, hr⟩ := hr.cons_
  obtain ⟨a1, d1, vs, ds, rfl, rfl, r1, hr⟩ := hr.cons_
  obtain ⟨rfl, rfl⟩ := hr.nil_
  obtain ⟨ta, ts, rfl, S0, l0⟩ := types_arg lo r0
  obtain ⟨ra, rs, rfl, S1, l1, e1⟩ := rows_arg lo r1
  simp only [Rows.uptoBulkAll] at hb
  have k0 := bulk_one d0
  have k1 := bulk_one d1
  obtain ⟨r, n', h', k, rfl⟩ := law_BatchOwn ta ra ts rs (Rows.uptoBulk d0 + Rows.uptoBulk d1) n h S0 S1 (by omega) (by omega) (fun e he => by have := e1 e he; omega) (by omega)
  exact ⟨n', h', k⟩
end Go.Proofs.Ytaagbfpbbhaclaa
