/- LD, over their arguments. -/
import Derived.Test.YtaagbfpbbhaclaaL4
set_option linter.unusedSimpArgs false
set_option linter.unusedVariables false
namespace Go.Proofs.Ytaagbfpbbhaclaa
open Go.Abs Go.RowKit
set_option maxRecDepth 100000 in
theorem bodyBatchCuts {H : Type} {h : AH} {n : Nat} {vs : List Value} {ds : List (DataW H)} (lo : Low n h) (hn : 0 < n) (hr : RepArgs Try.prog h [22, 3, 23, 3] vs ds) (hb : Rows.uptoBulkAll ds ≤ 1048576) :
    ∃ n' h', Ev Try.prog none' 7 vs.toArray n h (.bool true) n' h' := by
  obtain ⟨a0, d0, vs, ds, rfl, rfl, r0, hr⟩ := hr.cons_
  obtain ⟨a1, d1, vs, ds, rfl, rfl, r1, hr⟩ := hr.cons_
  obtain ⟨a2, d2, vs, ds, rfl, rfl, r2, hr⟩ := hr.cons_
  obtain ⟨a3, d3, vs, ds, rfl, rfl, r3, hr⟩ := hr.cons_
  obtain ⟨rfl, rfl⟩ := hr.nil_
  obtain ⟨ta, ts, rfl, S0, l0⟩ := types_arg lo r0
  obtain ⟨size, rfl, w1⟩ := int_arg r1
  obtain ⟨ra, rs, rfl, S1, l1, e1⟩ := rows_arg lo r2
  obtain ⟨stop, rfl, w3⟩ := int_arg r3
  simp only [Rows.uptoBulkAll] at hb
  have k0 := bulk_one d0
  have k1 := bulk_one d1
  have k2 := bulk_one d2
  have k3 := bulk_one d3
  obtain ⟨r, n', h', k, rfl⟩ := law_BatchCuts ta ra ts size rs stop (Rows.uptoBulk d0 + Rows.uptoBulk d2) n h S0 S1 (by omega) (by omega) (fun e he => by have := e1 e he; omega) (by omega) hn
  exact ⟨n', h', k⟩
set_option maxRecDepth 100000 in
theorem bodyBatchAll {H : Type} {h : AH} {n : Nat} {vs : List Value} {ds : List (DataW H)} (lo : Low n h) (hn : 0 < n) (hr : RepArgs Try.prog h [22, 60, 23] vs ds) (hb : Rows.uptoBulkAll ds ≤ 1048576) :
    ∃ n' h', Ev Try.prog none' 8 vs.toArray n h (.bool true) n' h' := by
  obtain ⟨a0, d0, vs, ds, rfl, rfl, r0, hr⟩ := hr.cons_
  obtain ⟨a1, d1, vs, ds, rfl, rfl, r1, hr⟩ := hr.cons_
  obtain ⟨a2, d2, vs, ds, rfl, rfl, r2, hr⟩ := hr.cons_
  obtain ⟨rfl, rfl⟩ := hr.nil_
  obtain ⟨ta, ts, rfl, S0, l0⟩ := types_arg lo r0
  obtain ⟨size, rfl, w1⟩ := u16_arg r1
  obtain ⟨ra, rs, rfl, S1, l1, e1⟩ := rows_arg lo r2
  simp only [Rows.uptoBulkAll] at hb
  have k0 := bulk_one d0
  have k1 := bulk_one d1
  have k2 := bulk_one d2
  obtain ⟨r, n', h', k, rfl⟩ := law_BatchAll ta ra ts size rs (Rows.uptoBulk d0 + Rows.uptoBulk d2) n h S0 S1 (by omega) (by omega) (fun e he => by have := e1 e he; omega) (by omega) hn w1
  exact ⟨n', h', k⟩
end Go.Proofs.Ytaagbfpbbhaclaa
