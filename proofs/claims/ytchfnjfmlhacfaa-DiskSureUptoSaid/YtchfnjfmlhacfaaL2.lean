/- The law DiskSure, over its arguments. -/
import Derived.Test.YtchfnjfmlhacfaaR
namespace Go.Proofs.Ytchfnjfmlhacfaa
open Go.Abs Go.RowKit
theorem sq_bound {a b c d : Nat} (h1 : a ≤ c) (h2 : b ≤ d) (h : c + d ≤ 1048575) : a * c + b * d ≤ 1099511627000 := by
  have e1 : a * c ≤ c * c := Nat.mul_le_mul_right _ h1
  have e2 : b * d ≤ d * d := Nat.mul_le_mul_right _ h2
  have e3 : (c + d) * (c + d) ≤ 1048575 * 1048575 := Nat.mul_le_mul h h
  have e4 : (c + d) * (c + d) = c * c + d * d + 2 * (c * d) := by rw [Nat.add_mul, Nat.mul_add, Nat.mul_add, Nat.mul_comm d c]; omega
  omega
theorem bodyDiskSure {H : Type} {h : AH} {n : Nat} {vs : List Value} {ds : List (DataW H)} (lo : Low n h) (hn : 0 < n) (hr : RepArgs Try.prog h [34, 34, 23] vs ds) (hb : Rows.uptoBulkAll ds ≤ 1048576) :
    ∃ n' h', Ev Try.prog none' 4 vs.toArray n h (.bool true) n' h' := by
  obtain ⟨a1, d1, vs, ds, rfl, rfl, r1, hr⟩ := hr.cons_
  obtain ⟨a2, d2, vs, ds, rfl, rfl, r2, hr⟩ := hr.cons_
  obtain ⟨a3, d3, vs, ds, rfl, rfl, r3, hr⟩ := hr.cons_
  obtain ⟨rfl, rfl⟩ := hr.nil_
  obtain ⟨c1, L1, rfl, B1, hl1⟩ := ops_arg lo r1
  obtain ⟨c2, L2, rfl, B2, hl2⟩ := ops_arg lo r2
  obtain ⟨c3, ks, rfl, S3, hl3⟩ := bools_arg lo r3
  simp only [Rows.uptoBulkAll] at hb
  have k1 := bulk_one d1
  have k2 := bulk_one d2
  have k3 := bulk_one d3
  obtain ⟨r, n', h', k, rfl⟩ := law_DiskSure L1 L2 ks c1 c2 c3 (Rows.uptoBulk d1) (Rows.uptoBulk d2) n h B1 B2 S3 hn (by omega) (by omega) (by omega) (sq_bound hl1 hl2 (by omega)) k2 (by omega)
  exact ⟨n', h', k⟩
end Go.Proofs.Ytchfnjfmlhacfaa
