/- What the arguments of the codec's laws read as. -/
import Derived.Test.YtflhhipemmlgpaaDoorAg
import Derived.Test.YtflhhipemmlgpaaDoorV
set_option linter.unusedSimpArgs false
set_option linter.unusedVariables false
namespace Go.Proofs.YtflhhipemmlgpaaDoor
open Go.Abs Go.RowKit

/-- A piece. -/
structure Pc where
  w : Int
  v : Int
  s : List UInt8
def Pc.cells (x : Pc) : List Value := [.int .u8 x.w, .int .i64 x.v, .string ⟨x.s.toArray⟩]
structure Pc.Ok (x : Pc) (m : Nat) : Prop where
  w0 : 0 ≤ x.w
  w1 : x.w < 256
  v0 : -9223372036854775808 ≤ x.v
  v1 : x.v < 9223372036854775808
  sl : x.s.length ≤ m
structure PcsR (h : AH) (n : Nat) (a : Option Addr) (L : List Pc) (m : Nat) : Prop where
  shp : Shp h n a 3 L.length
  at_ : ∀ (i : Nat) (x : Pc), L[i]? = some x → (h.cell (sb a) (so a + i * 3) = .int .u8 x.w ∧ h.cell (sb a) (so a + i * 3 + 1) = .int .i64 x.v ∧ h.cell (sb a) (so a + i * 3 + 2) = .string ⟨x.s.toArray⟩) ∧ x.Ok m
theorem PcsR.ext {h h' : AH} {n n' m : Nat} {a : Option Addr} {L : List Pc} (B : PcsR h n a L m) (E : Ext n h h') (hn : n ≤ n') : PcsR h' n' a L m := by
  refine ⟨B.shp.ext E hn, fun i x hx => ?_⟩
  obtain ⟨⟨h0, h1, h2⟩, ok⟩ := B.at_ i x hx
  have hi : i < L.length := (List.getElem?_eq_some_iff.1 hx).1
  have hb : sb a < n := B.shp.lt (by omega)
  exact ⟨⟨(E.cell _ _ hb).trans h0, (E.cell _ _ hb).trans h1, (E.cell _ _ hb).trans h2⟩, ok⟩
section
variable {H : Type} {h : AH} {n : Nat} {d : DataW H} {a : Value}
set_option maxRecDepth 100000 in
theorem pc_cells {cs : List Value} (r : RepD Tryd.prog h 43 cs d) : ∃ x : Pc, cs = x.cells ∧ x.Ok (Rows.uptoBulk d) := by
  obtain ⟨parts, rfl, h1, h2, h3⟩ := r.struct_ Tryd.underlying43
  have h1 : cs.length = 3 := h1
  match parts, h2 with
  | [d1, d2, d3], _ =>
    match cs, h1 with
    | [c1, c2, c3], _ =>
      have r1 := h3 0 _ d1 rfl rfl
      have r2 := h3 1 _ d2 rfl rfl
      have r3 := h3 2 _ d3 rfl rfl
      obtain ⟨N1, e1, _, w1⟩ := RepD.int_ Tryd.underlying5 r1
      obtain ⟨N2, e2, _, w2⟩ := RepD.int_ Tryd.underlying2 r2
      obtain ⟨l3, e3, q3⟩ := RepD.str_ Tryd.underlying9 r3
      have e1' : [c1] = [.int .u8 N1] := e1
      have e2' : [c2] = [.int .i64 N2] := e2
      have e3' : [c3] = [.string ⟨l3.toArray⟩] := e3
      cases e1'; cases e2'; cases e3'
      have k3 : Rows.uptoBulk d3 ≤ Rows.uptoBulk (.agg [d1, d2, d3]) := bulk_part (by simp)
      have k4 : l3.length ≤ Rows.uptoBulk d3 := by rw [q3]; simp [Rows.uptoBulk]
      have i2 := int_of w2
      simp [Lit.wf, IntKind.min, IntKind.max, IntKind.signed, IntKind.bits] at w1
      exact ⟨⟨N1, N2, l3⟩, rfl, w1.1, by dsimp only; omega, i2.1, by have := i2.2; dsimp only; omega, by dsimp only; omega⟩
set_option maxRecDepth 100000 in
theorem pc_arg (r : RepA Tryd.prog h 43 a d) : ∃ x : Pc, a = .agg x.cells.toArray ∧ x.Ok (Rows.uptoBulk d) := by
  obtain ⟨cs, rfl, r'⟩ := RepA.agg Tryd.underlying43 r
  obtain ⟨x, rfl, ok⟩ := pc_cells r'
  exact ⟨x, rfl, ok⟩
set_option maxRecDepth 100000 in
theorem pcs_arg (lo : Low n h) (r : RepA Tryd.prog h 41 a d) : ∃ (c : Option Addr) (L : List Pc), a = .slice c L.length L.length ∧ PcsR h n c L (Rows.uptoBulk d) ∧ L.length ≤ Rows.uptoBulk d := by
  obtain ⟨c, L, elems, spare, e1, e2, e3, S, hx⟩ := RepD.list_ (fun cs d (x : Pc) => cs = x.cells ∧ x.Ok (Rows.uptoBulk d)) lo Tryd.underlying41 (fun cs d r => pc_cells r) (RepA.one Tryd.underlying41 (by intro fs h; cases h) r)
  cases e1
  have hz : Tryd.prog.cellsOf 43 = 3 := by kernel_rfl
  rw [hz] at S hx
  have k1 := bulk_elems e2
  refine ⟨c, L, rfl, ⟨Shp.of S, fun i x hi => ?_⟩, by omega⟩
  obtain ⟨d', hd, q1, q2⟩ := hx i x hi
  have kb := bulk_elem e2 (List.mem_of_getElem? hd)
  simp only [elC, List.range_succ, List.range_zero, List.nil_append, List.map_append, List.map_cons, List.map_nil, List.cons_append, Pc.cells, List.cons.injEq, and_true] at q1
  exact ⟨q1, q2.w0, q2.w1, q2.v0, q2.v1, by have := q2.sl; omega⟩
set_option maxRecDepth 100000 in
theorem u16_arg (r : RepA Tryd.prog h 24 a d) : ∃ x : Nat, a = .int .u16 x ∧ x < 65536 := by
  obtain ⟨x, h1, _, w⟩ := RepD.int_ Tryd.underlying24 (RepA.one Tryd.underlying24 (by intro fs h; cases h) r)
  cases h1
  simp [Lit.wf, IntKind.min, IntKind.max, IntKind.signed, IntKind.bits] at w
  refine ⟨x.toNat, by rw [Int.toNat_of_nonneg w.1], by omega⟩
set_option maxRecDepth 100000 in
theorem i64_arg (r : RepA Tryd.prog h 2 a d) : ∃ x : Int, a = .int .i64 x ∧ -9223372036854775808 ≤ x ∧ x < 9223372036854775808 := by
  obtain ⟨x, h1, _, w⟩ := RepD.int_ Tryd.underlying2 (RepA.one Tryd.underlying2 (by intro fs h; cases h) r)
  cases h1
  have := int_of w
  exact ⟨x, rfl, this.1, by have := this.2; omega⟩
set_option maxRecDepth 100000 in
theorem str_arg (r : RepA Tryd.prog h 9 a d) : ∃ l : List UInt8, a = .string ⟨l.toArray⟩ ∧ l.length ≤ Rows.uptoBulk d := by
  obtain ⟨l, h1, h2⟩ := RepD.str_ Tryd.underlying9 (RepA.one Tryd.underlying9 (by intro fs h; cases h) r)
  cases h1
  exact ⟨l, rfl, by rw [h2]; simp [Rows.uptoBulk]⟩
set_option maxRecDepth 100000 in
theorem bytes_arg (lo : Low n h) (r : RepA Tryd.prog h 23 a d) : ∃ (b : Option Addr) (l : List UInt8), a = .slice b l.length l.length ∧ SlB h n b l ∧ l.length ≤ Rows.uptoBulk d := by
  obtain ⟨b, l, elems, spare, e2, e3, e4, S⟩ := RepD.bytes_ lo Tryd.underlying23 Tryd.underlying5 (by kernel_rfl) (RepA.one Tryd.underlying23 (by intro fs h; cases h) r)
  cases e2
  have k1 := bulk_elems e3
  exact ⟨b, l, rfl, S, by omega⟩
set_option maxRecDepth 100000 in
theorem ints_arg (lo : Low n h) (r : RepA Tryd.prog h 22 a d) : ∃ (b : Option Addr) (l : List Int), a = .slice b l.length l.length ∧ SlN h n b .i64 l ∧ In64 l ∧ l.length ≤ Rows.uptoBulk d := by
  obtain ⟨b, l, elems, spare, e2, e3, e4, S, w⟩ := RepD.ints_ lo Tryd.underlying22 Tryd.underlying2 (by kernel_rfl) (RepA.one Tryd.underlying22 (by intro fs h; cases h) r)
  cases e2
  have k1 := bulk_elems e3
  exact ⟨b, l, rfl, S, fun v hv => by have := int_of (w v hv); exact ⟨this.1, by have := this.2; omega⟩, by omega⟩
end
end Go.Proofs.YtflhhipemmlgpaaDoor
