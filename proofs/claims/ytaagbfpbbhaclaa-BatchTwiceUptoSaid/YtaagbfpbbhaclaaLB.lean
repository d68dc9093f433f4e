/- LB, over their arguments. -/
import Derived.Test.YtaagbfpbbhaclaaL2
namespace Go.Proofs.Ytaagbfpbbhaclaa
open Go.Abs Go.RowKit
set_option maxRecDepth 100000 in
theorem bodyBatchTwice {H : Type} {h : AH} {n : Nat} {vs : List Value} {ds : List (DataW H)} (lo : Low n h) (hn : 0 < n) (hr : RepArgs Try.prog h [22, 23, 39, 39] vs ds) (hb : Rows.uptoBulkAll ds ≤ 1048576) :
    ∃ n' h', Ev Try.prog none' 5 vs.toArray n h (.bool true) n' h' := by
  obtain ⟨a0, d0, vs, ds, rfl, rfl, r0, hr⟩ := hr.cons_
  obtain ⟨a1, d1, vs, ds, rfl, rfl, r1, hr⟩ := hr.cons_
  obtain ⟨a2, d2, vs, ds, rfl, rfl, r2, hr⟩ := hr.cons_
  obtain ⟨a3, d3, vs, ds, rfl, rfl, r3, hr⟩ := hr.cons_
  obtain ⟨rfl, rfl⟩ := hr.nil_
  obtain ⟨ta, ts, rfl, S0, l0⟩ := types_arg lo r0
  obtain ⟨ra, rs, rfl, S1, l1, e1⟩ := rows_arg lo r1
  obtain ⟨oa, one, rfl, S2, l2⟩ := bools_arg lo r2
  obtain ⟨wa, two, rfl, S3, l3⟩ := bools_arg lo r3
  simp only [Rows.uptoBulkAll] at hb
  have k0 := bulk_one d0
  have k1 := bulk_one d1
  have k2 := bulk_one d2
  have k3 := bulk_one d3
  obtain ⟨r, n', h', k, rfl⟩ := law_BatchTwice ta ra oa wa ts rs one two (Rows.uptoBulk d0 + Rows.uptoBulk d1 + Rows.uptoBulk d2 + Rows.uptoBulk d3) n h S0 S1 S2 S3 (by omega) (by omega) (fun e he => by have := e1 e he; omega) (by omega) (by omega) (by omega) hn
  exact ⟨n', h', k⟩
end Go.Proofs.Ytaagbfpbbhaclaa
