/- What the arguments of the disk's laws read as. -/
import Derived.Test.YtchfnjfmlhacfaaRows
import Derived.Test.YtchfnjfmlhacfaaAbsCut
import Derived.Test.YtchfnjfmlhacfaaTy
namespace Go.Proofs.Ytchfnjfmlhacfaa
open Go.Abs Go.RowKit

/-- An operation of a script, and where its rows lie. -/
structure OpE where
  do_ : Int
  file : Int
  at_ : Int
  n : Int
  da : Option Addr
  data : List UInt8
  ka : Option Addr
  keep : List Bool
def OpE.cells (x : OpE) : List Value := [.int .i64 x.do_, .int .i64 x.file, .int .i64 x.at_, .int .i64 x.n, .slice x.da x.data.length x.data.length, .slice x.ka x.keep.length x.keep.length]
def i64 (x : Int) : Prop := -9223372036854775808 ≤ x ∧ x ≤ 9223372036854775807
structure OpE.Ok (x : OpE) (h : AH) (n : Nat) (m : Nat) : Prop where
  do_ : i64 x.do_
  file : i64 x.file
  at_ : i64 x.at_
  num : i64 x.n
  data : SlB h n x.da x.data
  keep : SlT h n x.ka x.keep
  dl : x.data.length ≤ m
  kl : x.keep.length ≤ m
structure OpsRep (h : AH) (n : Nat) (a : Option Addr) (L : List OpE) (m : Nat) : Prop where
  shp : Shp h n a 6 L.length
  at_ : ∀ (i : Nat) (x : OpE), L[i]? = some x → (h.cell (sb a) (so a + i * 6) = .int .i64 x.do_ ∧ h.cell (sb a) (so a + i * 6 + 1) = .int .i64 x.file ∧ h.cell (sb a) (so a + i * 6 + 2) = .int .i64 x.at_ ∧ h.cell (sb a) (so a + i * 6 + 3) = .int .i64 x.n ∧ h.cell (sb a) (so a + i * 6 + 4) = .slice x.da x.data.length x.data.length ∧ h.cell (sb a) (so a + i * 6 + 5) = .slice x.ka x.keep.length x.keep.length) ∧ x.Ok h n m
theorem OpE.Ok.ext {h h' : AH} {n n' m : Nat} {x : OpE} (B : x.Ok h n m) (E : Ext n h h') (hn : n ≤ n') : x.Ok h' n' m :=
  ⟨B.do_, B.file, B.at_, B.num, B.data.ext E hn, B.keep.ext E hn, B.dl, B.kl⟩
theorem OpsRep.ext {h h' : AH} {n n' m : Nat} {a : Option Addr} {L : List OpE} (B : OpsRep h n a L m) (E : Ext n h h') (hn : n ≤ n') : OpsRep h' n' a L m := by
  refine ⟨B.shp.ext E hn, fun i x hx => ?_⟩
  obtain ⟨⟨h0, h1, h2, h3, h4, h5⟩, ok⟩ := B.at_ i x hx
  have hi : i < L.length := (List.getElem?_eq_some_iff.1 hx).1
  have hb : sb a < n := B.shp.lt (by omega)
  exact ⟨⟨(E.cell _ _ hb).trans h0, (E.cell _ _ hb).trans h1, (E.cell _ _ hb).trans h2, (E.cell _ _ hb).trans h3, (E.cell _ _ hb).trans h4, (E.cell _ _ hb).trans h5⟩, ok.ext E hn⟩
section
variable {H : Type}
theorem bulk_one (d : DataW H) : 1 ≤ Rows.uptoBulk d := by
  cases d with
  | lit l => cases l <;> simp [Rows.uptoBulk]
  | _ => simp [Rows.uptoBulk]
theorem bulk_mem {d : DataW H} {l : List (DataW H)} (h : d ∈ l) : Rows.uptoBulk d ≤ Rows.uptoBulkAll l := by
  induction l with
  | nil => cases h
  | cons x r ih =>
    simp only [Rows.uptoBulkAll]
    rcases List.mem_cons.1 h with e | e
    · subst e; omega
    · have := ih e; omega
theorem bulk_len (l : List (DataW H)) : l.length ≤ Rows.uptoBulkAll l := by
  induction l with
  | nil => simp
  | cons x r ih => have := bulk_one x; simp only [Rows.uptoBulkAll, List.length_cons]; omega
theorem bulk_elems {d : DataW H} {elems spare : List (DataW H)} (h : (d = .nil ∧ elems = []) ∨ d = .slice elems spare) : elems.length ≤ Rows.uptoBulk d := by
  rcases h with ⟨_, rfl⟩ | rfl
  · simp
  · have := bulk_len elems
    simp only [Rows.uptoBulk]; omega
theorem bulk_elem {d x : DataW H} {elems spare : List (DataW H)} (h : (d = .nil ∧ elems = []) ∨ d = .slice elems spare) (hx : x ∈ elems) : Rows.uptoBulk x ≤ Rows.uptoBulk d := by
  rcases h with ⟨_, rfl⟩ | rfl
  · cases hx
  · have := bulk_mem hx
    simp only [Rows.uptoBulk]; omega
theorem bulk_part {x : DataW H} {parts : List (DataW H)} (hx : x ∈ parts) : Rows.uptoBulk x ≤ Rows.uptoBulk (.agg parts) := by
  have := bulk_mem hx
  simp only [Rows.uptoBulk]; omega
variable {h : AH} {n : Nat} {d : DataW H} {a : Value}
theorem int_of {x : Int} (w : (Lit.int .i64 x).wf = true) : i64 x := by
  simp [Lit.wf, IntKind.min, IntKind.max, IntKind.signed, IntKind.bits] at w
  exact ⟨w.1, by omega⟩
set_option maxRecDepth 100000 in
theorem op_cells {cs : List Value} (lo : Low n h) (r : RepD Try.prog h 36 cs d) : ∃ x : OpE, cs = x.cells ∧ x.Ok h n (Rows.uptoBulk d) := by
  obtain ⟨parts, rfl, h1, h2, h3⟩ := r.struct_ Try.underlying36
  have h1 : cs.length = 6 := h1
  match parts, h2 with
  | [d1, d2, d3, d4, d5, d6], _ =>
    match cs, h1 with
    | [c1, c2, c3, c4, c5, c6], _ =>
      have r1 := h3 0 _ d1 rfl rfl
      have r2 := h3 1 _ d2 rfl rfl
      have r3 := h3 2 _ d3 rfl rfl
      have r4 := h3 3 _ d4 rfl rfl
      have r5 := h3 4 _ d5 rfl rfl
      have r6 := h3 5 _ d6 rfl rfl
      obtain ⟨N1, e1, _, w1⟩ := RepD.int_ Try.underlying3 r1
      obtain ⟨N2, e2, _, w2⟩ := RepD.int_ Try.underlying3 r2
      obtain ⟨N3, e3, _, w3⟩ := RepD.int_ Try.underlying3 r3
      obtain ⟨N4, e4, _, w4⟩ := RepD.int_ Try.underlying3 r4
      obtain ⟨b5, l5, elems5, spare5, e5, q5, _, S5⟩ := RepD.bytes_ lo Try.underlying22 Try.underlying5 (by kernel_rfl) r5
      obtain ⟨b6, l6, elems6, spare6, e6, q6, _, S6⟩ := RepD.bools_ lo Try.underlying23 Try.underlying4 (by kernel_rfl) r6
      have e1' : [c1] = [.int .i64 N1] := e1
      have e2' : [c2] = [.int .i64 N2] := e2
      have e3' : [c3] = [.int .i64 N3] := e3
      have e4' : [c4] = [.int .i64 N4] := e4
      have e5' : [c5] = [.slice b5 l5.length l5.length] := e5
      have e6' : [c6] = [.slice b6 l6.length l6.length] := e6
      cases e1'; cases e2'; cases e3'; cases e4'; cases e5'; cases e6'
      have k5 := bulk_elems q5
      have k5' : Rows.uptoBulk d5 ≤ Rows.uptoBulk (.agg [d1, d2, d3, d4, d5, d6]) := bulk_part (by simp)
      have k6 := bulk_elems q6
      have k6' : Rows.uptoBulk d6 ≤ Rows.uptoBulk (.agg [d1, d2, d3, d4, d5, d6]) := bulk_part (by simp)
      exact ⟨⟨N1, N2, N3, N4, b5, l5, b6, l6⟩, rfl, int_of w1, int_of w2, int_of w3, int_of w4, S5, S6, by dsimp only; omega, by dsimp only; omega⟩
theorem op_arg (lo : Low n h) (r : RepA Try.prog h 36 a d) : ∃ x : OpE, a = .agg x.cells.toArray ∧ x.Ok h n (Rows.uptoBulk d) := by
  obtain ⟨cs, rfl, r'⟩ := RepA.agg Try.underlying36 r
  obtain ⟨x, rfl, ok⟩ := op_cells lo r'
  exact ⟨x, rfl, ok⟩
theorem ops_arg (lo : Low n h) (r : RepA Try.prog h 34 a d) : ∃ (c : Option Addr) (L : List OpE), a = .slice c L.length L.length ∧ OpsRep h n c L (Rows.uptoBulk d) ∧ L.length ≤ Rows.uptoBulk d := by
  obtain ⟨c, L, elems, spare, e1, e2, e3, S, hx⟩ := RepD.list_ (fun cs d (x : OpE) => cs = x.cells ∧ x.Ok h n (Rows.uptoBulk d)) lo Try.underlying34 (fun cs d r => op_cells lo r) (RepA.one Try.underlying34 (by intro fs h; cases h) r)
  cases e1
  have hz : Try.prog.cellsOf 36 = 6 := by kernel_rfl
  rw [hz] at S hx
  have k1 := bulk_elems e2
  refine ⟨c, L, rfl, ⟨Shp.of S, fun i x hi => ?_⟩, by omega⟩
  obtain ⟨d', hd, q1, q2⟩ := hx i x hi
  have kb := bulk_elem e2 (List.mem_of_getElem? hd)
  simp only [elC, List.range_succ, List.range_zero, List.nil_append, List.map_append, List.map_cons, List.map_nil, List.cons_append, OpE.cells, List.cons.injEq, and_true] at q1
  exact ⟨q1, q2.do_, q2.file, q2.at_, q2.num, q2.data, q2.keep, by have := q2.dl; omega, by have := q2.kl; omega⟩
theorem u8_arg (r : RepA Try.prog h 5 a d) : ∃ x : Int, a = .int .u8 x ∧ 0 ≤ x ∧ x < 256 := by
  obtain ⟨x, h1, _, w⟩ := RepD.int_ Try.underlying5 (RepA.one Try.underlying5 (by intro fs h; cases h) r)
  cases h1
  simp [Lit.wf, IntKind.min, IntKind.max, IntKind.signed, IntKind.bits] at w
  exact ⟨x, rfl, w.1, by omega⟩
theorem bytes_arg (lo : Low n h) (r : RepA Try.prog h 22 a d) : ∃ (b : Option Addr) (l : List UInt8), a = .slice b l.length l.length ∧ SlB h n b l ∧ l.length ≤ Rows.uptoBulk d := by
  obtain ⟨b, l, elems, spare, e2, e3, e4, S⟩ := RepD.bytes_ lo Try.underlying22 Try.underlying5 (by kernel_rfl) (RepA.one Try.underlying22 (by intro fs h; cases h) r)
  cases e2
  have k1 := bulk_elems e3
  exact ⟨b, l, rfl, S, by omega⟩
theorem bools_arg (lo : Low n h) (r : RepA Try.prog h 23 a d) : ∃ (b : Option Addr) (l : List Bool), a = .slice b l.length l.length ∧ SlT h n b l ∧ l.length ≤ Rows.uptoBulk d := by
  obtain ⟨b, l, elems, spare, e2, e3, e4, S⟩ := RepD.bools_ lo Try.underlying23 Try.underlying4 (by kernel_rfl) (RepA.one Try.underlying23 (by intro fs h; cases h) r)
  cases e2
  have k1 := bulk_elems e3
  exact ⟨b, l, rfl, S, by omega⟩
end
end Go.Proofs.Ytchfnjfmlhacfaa
