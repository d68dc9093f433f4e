/- What the arguments of batches' laws read as. -/
import Derived.Test.YtaagbfpbbhaclaaAg
import Derived.Test.YtaagbfpbbhaclaaK2
set_option linter.unusedSimpArgs false
set_option linter.unusedVariables false
namespace Go.Proofs.Ytaagbfpbbhaclaa
open Go.Abs Go.RowKit

section
variable {H : Type} {h : AH} {n : Nat} {d : DataW H} {a : Value} {cs : List Value}
set_option maxRecDepth 100000 in
theorem ty_cells (r : RepD Try.prog h 51 cs d) : ∃ t : Ty, cs = tyC t := by
  obtain ⟨parts, rfl, h1, h2, h3⟩ := r.struct_ Try.underlying51
  have h1 : cs.length = 2 := h1
  match parts, h2 with
  | [d1, d2], _ =>
    match cs, h1 with
    | [c1, c2], _ =>
      obtain ⟨N, e1, _, _⟩ := RepD.int_ Try.underlying3 (h3 0 _ d1 rfl rfl)
      obtain ⟨M, e2, _, _⟩ := RepD.int_ Try.underlying3 (h3 1 _ d2 rfl rfl)
      have e1' : [c1] = [.int .i64 N] := e1
      have e2' : [c2] = [.int .i64 M] := e2
      cases e1'; cases e2'
      exact ⟨⟨N, M⟩, rfl⟩
set_option maxRecDepth 100000 in
theorem val_cells (r : RepD Try.prog h 53 cs d) : ∃ v : Val, cs = valC v := by
  obtain ⟨parts, rfl, h1, h2, h3⟩ := r.struct_ Try.underlying53
  have h1 : cs.length = 5 := h1
  match parts, h2 with
  | [d1, d2, d3, d4], _ =>
    match cs, h1 with
    | [c1, c2, c3, c4, c5], _ =>
      obtain ⟨t, e1⟩ := ty_cells (h3 0 _ d1 rfl rfl)
      obtain ⟨p, e2⟩ := RepD.bool_ Try.underlying4 (h3 1 _ d2 rfl rfl)
      obtain ⟨N, e3, _, _⟩ := RepD.int_ Try.underlying2 (h3 2 _ d3 rfl rfl)
      obtain ⟨l, e4, _⟩ := RepD.str_ Try.underlying9 (h3 3 _ d4 rfl rfl)
      have e1' : [c1, c2] = tyC t := e1
      have e2' : [c3] = [.bool p] := e2
      have e3' : [c4] = [.int .i64 N] := e3
      have e4' : [c5] = [.string ⟨l.toArray⟩] := e4
      cases e1'; cases e2'; cases e3'; cases e4'
      exact ⟨⟨t, p, N, ⟨l.toArray⟩⟩, rfl⟩
theorem flatMap_one {α β : Type} (f : α → β) : ∀ L : List α, L.flatMap (fun x => [f x]) = L.map f
  | [] => rfl
  | x :: L => by rw [List.flatMap_cons, flatMap_one f L]; rfl
set_option maxRecDepth 100000 in
theorem vals_cells (lo : Low n h) (r : RepD Try.prog h 40 cs d) : ∃ e : RowE, cs = [rowV e] ∧ SlV h n e.1 e.2 ∧ e.2.length ≤ Rows.uptoBulk d := by
  obtain ⟨c, L, elems, spare, e1, e2, e3, S, hx⟩ := RepD.list_ (fun cs _ (x : Val) => cs = valC x) lo Try.underlying40 (fun cs d r => val_cells r) r
  have hz : Try.prog.cellsOf 53 = 5 := by kernel_rfl
  rw [hz] at S hx
  have k1 := bulk_elems e2
  exact ⟨(c, L), e1, SlR.of_el S (fun _ => rfl) (fun i x hi => by obtain ⟨_, _, q⟩ := hx i x hi; exact q), by dsimp only; omega⟩
set_option maxRecDepth 100000 in
theorem types_cells (lo : Low n h) (r : RepD Try.prog h 22 cs d) : ∃ (c : Option Addr) (L : List Ty), cs = [.slice c L.length L.length] ∧ SlTy h n c L ∧ L.length ≤ Rows.uptoBulk d := by
  obtain ⟨c, L, elems, spare, e1, e2, e3, S, hx⟩ := RepD.list_ (fun cs _ (x : Ty) => cs = tyC x) lo Try.underlying22 (fun cs d r => ty_cells r) r
  have hz : Try.prog.cellsOf 51 = 2 := by kernel_rfl
  rw [hz] at S hx
  have k1 := bulk_elems e2
  exact ⟨c, L, e1, SlR.of_el S (fun _ => rfl) (fun i x hi => by obtain ⟨_, _, q⟩ := hx i x hi; exact q), by omega⟩
set_option maxRecDepth 100000 in
theorem rows_cells (lo : Low n h) (r : RepD Try.prog h 23 cs d) : ∃ (c : Option Addr) (L : List RowE), cs = [.slice c L.length L.length] ∧ RowsR h n c L ∧ L.length ≤ Rows.uptoBulk d ∧ ∀ e ∈ L, e.2.length ≤ Rows.uptoBulk d := by
  obtain ⟨c, L, elems, spare, e1, e2, e3, S, hx⟩ := RepD.list_ (fun cs d (x : RowE) => cs = [rowV x] ∧ SlV h n x.1 x.2 ∧ x.2.length ≤ Rows.uptoBulk d) lo Try.underlying23 (fun cs d r => vals_cells lo r) r
  have hz : Try.prog.cellsOf 40 = 1 := by kernel_rfl
  rw [hz] at S hx
  have k1 := bulk_elems e2
  refine ⟨c, L, e1, ⟨?_, fun e he => ?_⟩, by omega, fun e he => ?_⟩
  · have := SlR.of_el (C := fun x => [rowV x]) S (fun _ => rfl) (fun i x hi => by obtain ⟨_, _, q, _⟩ := hx i x hi; exact q)
    rwa [flatMap_one] at this
  · obtain ⟨i, hi⟩ := List.getElem?_of_mem he
    obtain ⟨_, _, _, q, _⟩ := hx i e hi
    exact q
  · obtain ⟨i, hi⟩ := List.getElem?_of_mem he
    obtain ⟨d', hd, _, _, q⟩ := hx i e hi
    have := bulk_elem e2 (List.mem_of_getElem? hd)
    omega
set_option maxRecDepth 100000 in
theorem ints_cells (lo : Low n h) (r : RepD Try.prog h 24 cs d) : ∃ (c : Option Addr) (L : List Int), cs = [.slice c L.length L.length] ∧ SlN h n c L ∧ L.length ≤ Rows.uptoBulk d ∧ ∀ x ∈ L, i64 x := by
  obtain ⟨b, l, elems, spare, e2, e3, e4, S, w⟩ := RepD.ints_ lo Try.underlying24 Try.underlying3 (by kernel_rfl) r
  have k1 := bulk_elems e3
  exact ⟨b, l, e2, S, by omega, fun x hx => int_of (w x hx)⟩
/-- A batch, and where it lies. -/
structure BatA (h : AH) (n m : Nat) (ta : Option Addr) (ts : List Ty) (ca : Option Addr) (cs : List RowE) (sa : Option Addr) (sel : List Int) : Prop where
  types : SlTy h n ta ts
  cols : RowsR h n ca cs
  snum : SlN h n sa sel
  tl : ts.length ≤ m
  cl : cs.length ≤ m
  sl : sel.length ≤ m
  rl : ∀ e ∈ cs, e.2.length ≤ m
set_option maxRecDepth 100000 in
theorem batch_arg (lo : Low n h) (r : RepA Try.prog h 26 a d) : ∃ ta ts N ca cs sa sel, a = batV ta ts N ca cs sa sel ∧ BatA h n (Rows.uptoBulk d) ta ts ca cs sa sel := by
  obtain ⟨cs, rfl, r'⟩ := RepA.agg Try.underlying26 r
  obtain ⟨parts, rfl, h1, h2, h3⟩ := r'.struct_ Try.underlying26
  have h1 : cs.length = 4 := h1
  match parts, h2 with
  | [d1, d2, d3, d4], _ =>
    match cs, h1 with
    | [c1, c2, c3, c4], _ =>
      obtain ⟨ta, ts, e1, S1, l1⟩ := types_cells lo (h3 0 _ d1 rfl rfl)
      obtain ⟨N, e2, _, _⟩ := RepD.int_ Try.underlying3 (h3 1 _ d2 rfl rfl)
      obtain ⟨ca, L, e3, S3, l3, r3⟩ := rows_cells lo (h3 2 _ d3 rfl rfl)
      obtain ⟨sa, sel, e4, S4, l4, w4⟩ := ints_cells lo (h3 3 _ d4 rfl rfl)
      have e1' : [c1] = [.slice ta ts.length ts.length] := e1
      have e2' : [c2] = [.int .i64 N] := e2
      have e3' : [c3] = [.slice ca L.length L.length] := e3
      have e4' : [c4] = [.slice sa sel.length sel.length] := e4
      cases e1'; cases e2'; cases e3'; cases e4'
      have b1 : Rows.uptoBulk d1 ≤ Rows.uptoBulk (.agg [d1, d2, d3, d4]) := bulk_part (by simp)
      have b3 : Rows.uptoBulk d3 ≤ Rows.uptoBulk (.agg [d1, d2, d3, d4]) := bulk_part (by simp)
      have b4 : Rows.uptoBulk d4 ≤ Rows.uptoBulk (.agg [d1, d2, d3, d4]) := bulk_part (by simp)
      exact ⟨ta, ts, N, ca, L, sa, sel, rfl, S1, S3, S4, by omega, by omega, by omega, fun e he => by have := r3 e he; omega⟩
set_option maxRecDepth 100000 in
theorem bits_arg (lo : Low n h) (r : RepA Try.prog h 44 a d) : ∃ (N : Int) (b : Option Addr) (l : List UInt8), a = .agg #[.int .i64 N, .slice b l.length l.length] ∧ SlB h n b l ∧ l.length ≤ Rows.uptoBulk d := by
  obtain ⟨cs, rfl, r'⟩ := RepA.agg Try.underlying44 r
  obtain ⟨parts, rfl, h1, h2, h3⟩ := r'.struct_ Try.underlying44
  have h1 : cs.length = 2 := h1
  match parts, h2 with
  | [d1, d2], _ =>
    match cs, h1 with
    | [c1, c2], _ =>
      obtain ⟨N, e1, _, w⟩ := RepD.int_ Try.underlying3 (h3 0 _ d1 rfl rfl)
      obtain ⟨b, l, elems, spare, e2, e3, e4, S⟩ := RepD.bytes_ lo Try.underlying42 Try.underlying5 (by kernel_rfl) (h3 1 _ d2 rfl rfl)
      have e1' : [c1] = [.int .i64 N] := e1
      have e2' : [c2] = [.slice b l.length l.length] := e2
      cases e1'; cases e2'
      have k1 := bulk_elems e3
      have k2 : Rows.uptoBulk d2 ≤ Rows.uptoBulk (.agg [d1, d2]) := bulk_part (by simp)
      exact ⟨N, b, l, rfl, S, by omega⟩
set_option maxRecDepth 100000 in
theorem ty_arg (r : RepA Try.prog h 51 a d) : ∃ t : Ty, a = .agg #[.int .i64 t.kind, .int .i64 t.scale] := by
  obtain ⟨cs, rfl, r'⟩ := RepA.agg Try.underlying51 r
  obtain ⟨t, rfl⟩ := ty_cells r'
  exact ⟨t, rfl⟩
set_option maxRecDepth 100000 in
theorem vals_arg (lo : Low n h) (r : RepA Try.prog h 40 a d) : ∃ e : RowE, a = rowV e ∧ SlV h n e.1 e.2 ∧ e.2.length ≤ Rows.uptoBulk d := by
  obtain ⟨e, q, k⟩ := vals_cells lo (RepA.one Try.underlying40 (by intro fs h; cases h) r)
  cases q
  exact ⟨e, rfl, k⟩
set_option maxRecDepth 100000 in
theorem types_arg (lo : Low n h) (r : RepA Try.prog h 22 a d) : ∃ (c : Option Addr) (L : List Ty), a = .slice c L.length L.length ∧ SlTy h n c L ∧ L.length ≤ Rows.uptoBulk d := by
  obtain ⟨c, L, q, k⟩ := types_cells lo (RepA.one Try.underlying22 (by intro fs h; cases h) r)
  cases q
  exact ⟨c, L, rfl, k⟩
set_option maxRecDepth 100000 in
theorem rows_arg (lo : Low n h) (r : RepA Try.prog h 23 a d) : ∃ (c : Option Addr) (L : List RowE), a = .slice c L.length L.length ∧ RowsR h n c L ∧ L.length ≤ Rows.uptoBulk d ∧ ∀ e ∈ L, e.2.length ≤ Rows.uptoBulk d := by
  obtain ⟨c, L, q, k⟩ := rows_cells lo (RepA.one Try.underlying23 (by intro fs h; cases h) r)
  cases q
  exact ⟨c, L, rfl, k⟩
set_option maxRecDepth 100000 in
theorem ints_arg (lo : Low n h) (r : RepA Try.prog h 24 a d) : ∃ (c : Option Addr) (L : List Int), a = .slice c L.length L.length ∧ SlN h n c L ∧ L.length ≤ Rows.uptoBulk d ∧ ∀ x ∈ L, i64 x := by
  obtain ⟨c, L, q, k⟩ := ints_cells lo (RepA.one Try.underlying24 (by intro fs h; cases h) r)
  cases q
  exact ⟨c, L, rfl, k⟩
set_option maxRecDepth 100000 in
theorem bools_arg (lo : Low n h) (r : RepA Try.prog h 39 a d) : ∃ (b : Option Addr) (l : List Bool), a = .slice b l.length l.length ∧ SlT h n b l ∧ l.length ≤ Rows.uptoBulk d := by
  obtain ⟨b, l, elems, spare, e2, e3, e4, S⟩ := RepD.bools_ lo Try.underlying39 Try.underlying4 (by kernel_rfl) (RepA.one Try.underlying39 (by intro fs h; cases h) r)
  cases e2
  have k1 := bulk_elems e3
  exact ⟨b, l, rfl, S, by omega⟩
set_option maxRecDepth 100000 in
theorem int_arg (r : RepA Try.prog h 3 a d) : ∃ x : Int, a = .int .i64 x ∧ i64 x := by
  obtain ⟨x, h1, _, w⟩ := RepD.int_ Try.underlying3 (RepA.one Try.underlying3 (by intro fs h; cases h) r)
  cases h1
  exact ⟨x, rfl, int_of w⟩
set_option maxRecDepth 100000 in
theorem u16_arg (r : RepA Try.prog h 60 a d) : ∃ x : Int, a = .int .u16 x ∧ 0 ≤ x ∧ x < 65536 := by
  obtain ⟨x, h1, _, w⟩ := RepD.int_ Try.underlying60 (RepA.one Try.underlying60 (by intro fs h; cases h) r)
  cases h1
  simp [Lit.wf, IntKind.min, IntKind.max, IntKind.signed, IntKind.bits] at w
  exact ⟨x, rfl, w.1, by omega⟩
end
end Go.Proofs.Ytaagbfpbbhaclaa
