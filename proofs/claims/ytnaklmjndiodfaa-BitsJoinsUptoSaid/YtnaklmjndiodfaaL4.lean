/- The law BitsJoins, over its arguments. -/
import Derived.Test.YtnaklmjndiodfaaK
import Derived.Test.YtnaklmjndiodfaaArg
namespace Go.Proofs.Ytnaklmjndiodfaa
open Go.Abs Go.RowKit
theorem bitsRow_arg {H : Type} {h : AH} {n : Nat} {a : Value} {d : DataW H} (lo : Low n h) (r : RepA Try.prog h 58 a d) : ∃ (c : Option Addr) (L : List BsE), a = .slice c L.length L.length ∧ BsRep h n c L ∧ L.length ≤ Rows.uptoBulk d ∧ ∀ x ∈ L, x.2.2.length ≤ Rows.uptoBulk d := by
  obtain ⟨c, L, elems, spare, e1, e2, e3, S, hx⟩ := RepD.list_ (fun cs d (x : BsE) => cs = [.int .i64 x.1, .slice x.2.1 x.2.2.length x.2.2.length] ∧ SlB h n x.2.1 x.2.2 ∧ x.2.2.length ≤ Rows.uptoBulk d) lo Try.underlying58 (fun cs d r => by
    obtain ⟨N, b, l, k1, k2, k3, _⟩ := bits_cells lo r
    exact ⟨(N, b, l), k1, k2, k3⟩) (RepA.one Try.underlying58 (by intro fs h; cases h) r)
  cases e1
  have hz : Try.prog.cellsOf 24 = 2 := by kernel_rfl
  rw [hz] at S hx
  have k1 := bulk_elems e2
  refine ⟨c, L, rfl, ⟨Shp.of S, fun i x hi => ?_⟩, by omega, fun x hm => ?_⟩
  · obtain ⟨d', _, q1, q2, _⟩ := hx i x hi
    simp only [elC, List.range_succ, List.range_zero, List.nil_append, List.map_append, List.map_cons, List.map_nil, List.cons_append, List.cons.injEq, and_true] at q1
    exact ⟨q1.1, q1.2, q2⟩
  · obtain ⟨i, hi⟩ := List.getElem?_of_mem hm
    obtain ⟨d', hd, _, _, q3⟩ := hx i x hi
    have := bulk_elem e2 (List.mem_of_getElem? hd)
    omega
theorem bodyBitsJoins {H : Type} {h : AH} {n : Nat} {vs : List Value} {ds : List (DataW H)} (lo : Low n h) (hn : 0 < n) (hr : RepArgs Try.prog h [58, 3, 3] vs ds) (hb : Rows.uptoBulkAll ds ≤ 1048576) :
    ∃ n' h', Ev Try.prog none' 9 vs.toArray n h (.bool true) n' h' := by
  obtain ⟨a1, d1, vs, ds, rfl, rfl, r1, hr⟩ := hr.cons_
  obtain ⟨a2, d2, vs, ds, rfl, rfl, r2, hr⟩ := hr.cons_
  obtain ⟨a3, d3, vs, ds, rfl, rfl, r3, hr⟩ := hr.cons_
  obtain ⟨rfl, rfl⟩ := hr.nil_
  obtain ⟨c, L, rfl, B, hl, hL⟩ := bitsRow_arg lo r1
  obtain ⟨f, rfl, hf⟩ := int_arg r2
  obtain ⟨k, rfl, hk⟩ := int_arg r3
  simp only [Rows.uptoBulkAll] at hb
  obtain ⟨r, n', h', k, rfl⟩ := law_BitsJoins L c n h f k B (by omega) (fun x hx => by have := hL x hx; omega) hn hf hk
  exact ⟨n', h', k⟩
end Go.Proofs.Ytnaklmjndiodfaa
