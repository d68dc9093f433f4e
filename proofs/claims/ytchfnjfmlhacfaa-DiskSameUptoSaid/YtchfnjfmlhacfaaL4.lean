/- The laws DiskDoes and DiskSame, over their arguments. -/
import Derived.Test.YtchfnjfmlhacfaaZd
namespace Go.Proofs.Ytchfnjfmlhacfaa
open Go.Abs Go.RowKit
section
variable {H : Type} {h : AH} {n : Nat} {d : DataW H} {a : Value}
theorem op_bulk {cs : List Value} (r : RepD Try.prog h 36 cs d) : 7 ≤ Rows.uptoBulk d := by
  obtain ⟨parts, rfl, h1, h2, h3⟩ := r.struct_ Try.underlying36
  have := bulk_len parts
  have h2 : parts.length = 6 := h2
  simp only [Rows.uptoBulk]; omega
theorem bulk_all {l : List (DataW H)} {k : Nat} (h : ∀ d ∈ l, k ≤ Rows.uptoBulk d) : l.length * k ≤ Rows.uptoBulkAll l := by
  induction l with
  | nil => simp [Rows.uptoBulkAll]
  | cons x r ih =>
    have h1 := h x (by simp)
    have h2 := ih fun d hd => h d (by simp [hd])
    simp only [Rows.uptoBulkAll, List.length_cons, Nat.succ_mul]; omega
theorem ops_arg2 (lo : Low n h) (r : RepA Try.prog h 34 a d) : ∃ (c : Option Addr) (L : List OpE), a = .slice c L.length L.length ∧ OpsRep h n c L (Rows.uptoBulk d) ∧ L.length * 7 ≤ Rows.uptoBulk d := by
  obtain ⟨c, L, elems, spare, e1, e2, e3, S, hx⟩ := RepD.list_ (fun cs d (x : OpE) => (cs = x.cells ∧ x.Ok h n (Rows.uptoBulk d)) ∧ 7 ≤ Rows.uptoBulk d) lo Try.underlying34 (fun cs d r => by
    obtain ⟨x, k⟩ := op_cells lo r
    exact ⟨x, k, op_bulk r⟩) (RepA.one Try.underlying34 (by intro fs h; cases h) r)
  cases e1
  have hz : Try.prog.cellsOf 36 = 6 := by kernel_rfl
  rw [hz] at S hx
  have k1 : elems.length * 7 ≤ Rows.uptoBulk d := by
    have k2 : elems.length * 7 ≤ Rows.uptoBulkAll elems := bulk_all fun x hm => by
      obtain ⟨i, hi⟩ := List.getElem?_of_mem hm
      have hil : i < L.length := by rw [← e3]; exact (List.getElem?_eq_some_iff.1 hi).1
      obtain ⟨d', hd, _, q⟩ := hx i L[i] (by simp [hil])
      rw [hi] at hd; cases hd; exact q
    rcases e2 with ⟨_, rfl⟩ | rfl
    · simp
    · simp only [Rows.uptoBulk]; omega
  refine ⟨c, L, rfl, ⟨Shp.of S, fun i x hi => ?_⟩, by omega⟩
  obtain ⟨d', hd, ⟨q1, q2⟩, _⟩ := hx i x hi
  have kb := bulk_elem e2 (List.mem_of_getElem? hd)
  simp only [elC, List.range_succ, List.range_zero, List.nil_append, List.map_append, List.map_cons, List.map_nil, List.cons_append, OpE.cells, List.cons.injEq, and_true] at q1
  exact ⟨q1, q2.do_, q2.file, q2.at_, q2.num, q2.data, q2.keep, by have := q2.dl; omega, by have := q2.kl; omega⟩
end
theorem sq_two {a c : Nat} (h1 : a * 7 ≤ c) (h : c ≤ 1048576) : a * c ≤ 1099510000000 := by
  have e1 : a * c ≤ 149796 * 1048576 := Nat.mul_le_mul (by omega) h
  omega
theorem bodyDiskDoes {H : Type} {h : AH} {n : Nat} {vs : List Value} {ds : List (DataW H)} (lo : Low n h) (hn : 0 < n) (hr : RepArgs Try.prog h [34] vs ds) (hb : Rows.uptoBulkAll ds ≤ 1048576) :
    ∃ n' h', Ev Try.prog none' 7 vs.toArray n h (.bool true) n' h' := by
  obtain ⟨a1, d1, vs, ds, rfl, rfl, r1, hr⟩ := hr.cons_
  obtain ⟨rfl, rfl⟩ := hr.nil_
  obtain ⟨c1, L1, rfl, B1, hl1⟩ := ops_arg2 lo r1
  simp only [Rows.uptoBulkAll] at hb
  have k1 := bulk_one d1
  obtain ⟨r, n', h', k, rfl⟩ := law_DiskDoes L1 c1 (Rows.uptoBulk d1) n h B1 hn (by omega) (sq_two hl1 (by omega)) k1 (by omega)
  exact ⟨n', h', k⟩
theorem bodyDiskSame {H : Type} {h : AH} {n : Nat} {vs : List Value} {ds : List (DataW H)} (lo : Low n h) (hn : 0 < n) (hr : RepArgs Try.prog h [34, 34] vs ds) (hb : Rows.uptoBulkAll ds ≤ 1048576) :
    ∃ n' h', Ev Try.prog none' 6 vs.toArray n h (.bool true) n' h' := by
  obtain ⟨a1, d1, vs, ds, rfl, rfl, r1, hr⟩ := hr.cons_
  obtain ⟨a2, d2, vs, ds, rfl, rfl, r2, hr⟩ := hr.cons_
  obtain ⟨rfl, rfl⟩ := hr.nil_
  obtain ⟨c1, L1, rfl, B1, hl1⟩ := ops_arg2 lo r1
  obtain ⟨c2, L2, rfl, B2, hl2⟩ := ops_arg2 lo r2
  simp only [Rows.uptoBulkAll] at hb
  have k1 := bulk_one d1
  have k2 := bulk_one d2
  obtain ⟨r, n', h', k, rfl⟩ := law_DiskSame L1 L2 c1 c2 (Rows.uptoBulk d1) (Rows.uptoBulk d2) n h B1 B2 hn (by omega) (by omega) (sq_two hl1 (by omega)) (sq_two hl2 (by omega)) k1 k2 (by omega) (by omega)
  exact ⟨n', h', k⟩
end Go.Proofs.Ytchfnjfmlhacfaa
