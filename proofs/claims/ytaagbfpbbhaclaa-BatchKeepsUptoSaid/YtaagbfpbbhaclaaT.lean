/- Contracts of batches: batches told one by one. -/
import Derived.Test.YtaagbfpbbhaclaaS
import Derived.Test.YtaagbfpbbhaclaaAbsIt
set_option linter.unusedSimpArgs false
set_option linter.unusedVariables false
namespace Go.Proofs.Ytaagbfpbbhaclaa
open Go.Abs

theorem BatsR.at_ {h : AH} {n : Nat} {a : Option Addr} {L : List BatE} (r : BatsR h n a L) {i : Nat} {b : BatE} (hi : L[i]? = some b) : SlA a L.length ∧ sb a < n ∧ h.cell (sb a) (so a + i * 4) = .slice b.ta b.types.length b.types.length ∧ h.cell (sb a) (so a + i * 4 + 1) = .int .i64 b.num ∧
    h.cell (sb a) (so a + i * 4 + 2) = .slice b.ca b.cols.length b.cols.length ∧ h.cell (sb a) (so a + i * 4 + 3) = .slice b.sa b.sel.length b.sel.length ∧ BatR h n b := by
  have hil := (List.getElem?_eq_some_iff.1 hi).1
  have go : ∀ (j : Nat), j < 4 → h.cell (sb a) (so a + (i * 4 + j)) = b.cells.getD j (.tuple #[]) := fun j hj => (r.out.cell (i * 4 + j) (by omega)).trans (flatMap_getD (C := BatE.cells) (z := 4) (fun _ => rfl) L i j b hi hj)
  exact ⟨r.out.sla, r.out.lt (by omega), go 0 (by decide), go 1 (by decide), go 2 (by decide), go 3 (by decide), r.in_ b (List.mem_of_getElem? hi)⟩
structure BatE.Sm (b : BatE) : Prop where
  t : b.types.length ≤ 1099511627776
  c : b.cols.length ≤ 1099511627776
  s : b.sel.length ≤ 1099511627776
  r : ∀ e ∈ b.cols, e.2.length ≤ 1099511627776
/-- Whether a plain batch is small. -/
structure Bat.Sm (b : Bat) : Prop where
  t : b.types.length ≤ 1099511627776
  c : b.cols.length ≤ 1099511627776
  s : b.sel.length ≤ 1099511627776
  r : ∀ l ∈ b.cols, l.length ≤ 1099511627776
theorem Bat.Sm.of {b : BatE} (k : b.plain.Sm) : b.Sm := ⟨k.t, by have := k.c; simpa [BatE.plain] using this, k.s, fun e he => k.r _ (List.mem_map_of_mem he)⟩
theorem ofB_sm {ts : List Ty} {rs : List (List Val)} (h1 : ts.length ≤ 1099511627776) (h2 : rs.length ≤ 1099511627776) : (ofB ts rs).Sm :=
  ⟨h1, by simp only [ofB, colsOf, List.length_map, List.length_range]; exact h1, by simp only [ofB, selAll_length]; exact h2, fun l hl => by
    simp only [ofB, colsOf, List.mem_map] at hl
    obtain ⟨k, -, rfl⟩ := hl
    rw [colOf, List.length_map]; exact h2⟩
def CutK (q : Nat) (a : Option Addr) (L : List BatE) (n : Nat) (h : AH) : Prop := q < n ∧ h.cell q 0 = .slice a L.length L.length ∧ BatsR h n a L
/-- Value i is a batch as that of L. -/
def batVal (L : List BatE) (i : Nat) (vs : List Value) (n : Nat) (h : AH) : Prop := ∃ x : BatE, vs = [.agg x.cells.toArray] ∧ (L[i]?).map BatE.plain = some x.plain ∧ BatR h n x
set_option maxHeartbeats 4000000 in
theorem cut1_iter (q : Nat) (a : Option Addr) (L : List BatE) (hL : L.length ≤ 1099511627776) (hs : ∀ b ∈ L, b.plain.Sm) : IterFP Try.prog 42 [.pointer (some ⟨q, 0, none⟩)] L.length (batVal L) (CutK q a L) := by
  intro W fv I D n h it hK h0 hn
  obtain ⟨k1, k2, k3⟩ := hK 0 n h h0
  refine RF.of Try.func42 rfl rfl (Nat.le_of_ble_eq_true rfl) ?_; dsimp only [argEnv]
  repeat' (first | refine stpS ?_ | (refine stp2 ?_ ?_ <;> intro _))
  refine RC.loop ?_
  refine RL.inv (α := Nat) (fun y => [(7, .int .i64 (y : Nat)), (6, .int .i64 L.length), (5, .slice a L.length L.length), (0, fv)])
    (fun y n1 h1 => y ≤ L.length ∧ n ≤ n1 ∧ I y n1 h1) (fun y => L.length - y) 0 envs ⟨Nat.zero_le _, Nat.le_refl _, h0⟩ ?_
  rintro i n1 h1 ⟨hi, hn1, hI⟩
  obtain ⟨q1, q2, q3⟩ := hK i n1 h1 hI
  by_cases hlt : i < L.length
  · obtain ⟨b, hb⟩ : ∃ b, L[i]? = some b := ⟨_, List.getElem?_eq_getElem hlt⟩
    obtain ⟨hA, hsn, d0, d1, d2, d3, R⟩ := q3.at_ hb
    have sm := (hs b (List.mem_of_getElem? hb)).of
    repeat' (first | refine stpS ?_ | (refine stp2 ?_ ?_ <;> intro _))
    obtain ⟨g, hg⟩ : ∃ g, g = (h1.app (.new n1 ⟨4, 0, true, 0⟩ [.slice none 0 0, .int .i64 0, .slice none 0 0, .slice none 0 0])).app (.sets n1 0 b.cells) := ⟨_, rfl⟩
    refine RS.heap hg ?_
    have E1 : Ext n1 h1 g := by rw [hg]; exact ext
    clear hg
    have R1 := R.ext E1 (Nat.le_succ n1)
    refine RS.call rfl opds (clone_rf b.ta b.ca b.sa b.types b.num b.cols b.sel (n1 + 1) g R1.types R1.cols R1.sel sm.r sm.s sm.t sm.c) none'W ?_
    rintro r n2 h2 hle2 ⟨E2, hB⟩
    obtain ⟨x, rfl, hxp, hxr, -⟩ := IsBat.batE hB
    have hI2 := it.mono i n1 h1 n2 h2 hI (by omega) (E1.trans (Nat.le_succ n1) E2)
    have hval : batVal L i [.agg x.cells.toArray] n2 h2 := ⟨x, rfl, by rw [hb, hxp]; rfl, hxr⟩
    refine RS.callV rfl opd opds (it.step i _ n2 h2 hlt hval hI2) (fun b hb => .inl hb) ?_
    rintro r n3 h3 hle3 (⟨rfl, hI3⟩ | ⟨rfl, hD⟩)
    · repeat' (first | refine stpS ?_ | (refine stp2 ?_ ?_ <;> intro _))
      refine nextC.normal ⟨i + 1, by omega, envs, by omega, by omega, hI3⟩
    · repeat' (first | refine stpS ?_ | (refine stp2 ?_ ?_ <;> intro _))
      exact .inr hD
  · have : i = L.length := by omega
    subst this
    repeat' (first | refine stpS ?_ | (refine stp2 ?_ ?_ <;> intro _))
    exact .inl hI
end Go.Proofs.Ytaagbfpbbhaclaa
