/- The law DiskFuse, over its arguments. -/
import Derived.Test.YtchfnjfmlhacfaaV
namespace Go.Proofs.Ytchfnjfmlhacfaa
open Go.Abs Go.RowKit
theorem sq_one {a c : Nat} (h1 : a ≤ c) (h : c ≤ 1048575) : a * c ≤ 1099511627000 := by
  have e1 : a * c ≤ c * c := Nat.mul_le_mul_right _ h1
  have e3 : c * c ≤ 1048575 * 1048575 := Nat.mul_le_mul h h
  omega
theorem bodyDiskFuse {H : Type} {h : AH} {n : Nat} {vs : List Value} {ds : List (DataW H)} (lo : Low n h) (hn : 0 < n) (hr : RepArgs Try.prog h [34, 5, 23] vs ds) (hb : Rows.uptoBulkAll ds ≤ 1048576) :
    ∃ n' h', Ev Try.prog none' 5 vs.toArray n h (.bool true) n' h' := by
  obtain ⟨a1, d1, vs, ds, rfl, rfl, r1, hr⟩ := hr.cons_
  obtain ⟨a2, d2, vs, ds, rfl, rfl, r2, hr⟩ := hr.cons_
  obtain ⟨a3, d3, vs, ds, rfl, rfl, r3, hr⟩ := hr.cons_
  obtain ⟨rfl, rfl⟩ := hr.nil_
  obtain ⟨c1, L1, rfl, B1, hl1⟩ := ops_arg lo r1
  obtain ⟨x, rfl, hx⟩ := u8_arg r2
  obtain ⟨c3, ks, rfl, S3, hl3⟩ := bools_arg lo r3
  simp only [Rows.uptoBulkAll] at hb
  have k1 := bulk_one d1
  have k2 := bulk_one d2
  have k3 := bulk_one d3
  obtain ⟨r, n', h', k, rfl⟩ := law_DiskFuse L1 x ks c1 c3 (Rows.uptoBulk d1) n h B1 hx S3 hn (by omega) (by omega) (sq_one hl1 (by omega)) k1 (by omega)
  exact ⟨n', h', k⟩
end Go.Proofs.Ytchfnjfmlhacfaa
