/- The law DiskWhole, over its arguments. -/
import Derived.Test.YtchfnjfmlhacfaaWh
namespace Go.Proofs.Ytchfnjfmlhacfaa
open Go.Abs Go.RowKit
theorem u16_arg {H : Type} {h : AH} {a : Value} {d : DataW H} (r : RepA Try.prog h 63 a d) : ∃ x : Int, a = .int .u16 x ∧ 0 ≤ x ∧ x < 65536 := by
  obtain ⟨x, h1, _, w⟩ := RepD.int_ Try.underlying63 (RepA.one Try.underlying63 (by intro fs h; cases h) r)
  cases h1
  simp [Lit.wf, IntKind.min, IntKind.max, IntKind.signed, IntKind.bits] at w
  exact ⟨x, rfl, w.1, by omega⟩
theorem bodyDiskWhole {H : Type} {h : AH} {n : Nat} {vs : List Value} {ds : List (DataW H)} (lo : Low n h) (hn : 0 < n) (hr : RepArgs Try.prog h [63, 63, 23] vs ds) (hb : Rows.uptoBulkAll ds ≤ 1048576) :
    ∃ n' h', Ev Try.prog none' 9 vs.toArray n h (.bool true) n' h' := by
  obtain ⟨a1, d1, vs, ds, rfl, rfl, r1, hr⟩ := hr.cons_
  obtain ⟨a2, d2, vs, ds, rfl, rfl, r2, hr⟩ := hr.cons_
  obtain ⟨a3, d3, vs, ds, rfl, rfl, r3, hr⟩ := hr.cons_
  obtain ⟨rfl, rfl⟩ := hr.nil_
  obtain ⟨x, rfl, hx⟩ := u16_arg r1
  obtain ⟨y, rfl, hy⟩ := u16_arg r2
  obtain ⟨c3, ks, rfl, S3, hl3⟩ := bools_arg lo r3
  simp only [Rows.uptoBulkAll] at hb
  obtain ⟨r, n', h', k, rfl⟩ := law_DiskWhole x y ks c3 n h hx hy S3 hn (by omega)
  exact ⟨n', h', k⟩
end Go.Proofs.Ytchfnjfmlhacfaa
