/- Contracts of batches: lists of rows; how a batch lies in memory. -/
import Derived.Test.YtaagbfpbbhaclaaE
set_option linter.unusedSimpArgs false
set_option linter.unusedVariables false
namespace Go.Proofs.Ytaagbfpbbhaclaa
open Go.Abs

/-- A row of values, and where it lies. -/
abbrev RowE := Option Addr × List Val
def rowV (e : RowE) : Value := .slice e.1 e.2.length e.2.length
structure RowsR (h : AH) (n : Nat) (a : Option Addr) (L : List RowE) : Prop where
  out : SlR h n a 1 L.length (fun j => (L.map rowV).getD j (.tuple #[]))
  in_ : ∀ e ∈ L, SlV h n e.1 e.2
theorem RowsR.ext {h h' : AH} {n n' : Nat} {a : Option Addr} {L : List RowE} (r : RowsR h n a L) (e : Ext n h h') (hn : n ≤ n') : RowsR h' n' a L := ⟨SlR.ext r.out e hn, fun x hx => SlR.ext (r.in_ x hx) e hn⟩
theorem RowsR.at_ {h : AH} {n : Nat} {a : Option Addr} {L : List RowE} (r : RowsR h n a L) {i : Nat} {e : RowE} (hi : L[i]? = some e) : SlA a L.length ∧ sb a < n ∧ h.cell (sb a) (so a + i) = .slice e.1 e.2.length e.2.length ∧ SlV h n e.1 e.2 := by
  have hil := (List.getElem?_eq_some_iff.1 hi).1
  refine ⟨r.out.sla, r.out.lt (by omega), (r.out.cell i (by omega)).trans ?_, r.in_ e (List.mem_of_getElem? hi)⟩
  simp [List.getD, hi, rowV]
set_option maxHeartbeats 4000000 in
theorem refSameRows_ev (L M : List RowE) (a b : Option Addr) (n : Nat) (h : AH) (S : RowsR h n a L) (S2 : RowsR h n b M) (hl : L.length ≤ 1099511627776) (hr : ∀ e ∈ L, e.2.length ≤ 1099511627776) :
    Ev Try.prog none' 15 #[.slice a L.length L.length, .slice b M.length M.length] n h (.bool (decide (L.map Prod.snd = M.map Prod.snd))) n h := by
  refine RF.pure rfl fun n' hn => ?_
  have S := S.ext (Ext.refl n h) hn
  have S2 := S2.ext (Ext.refl n h) hn
  refine RF.of Try.func15 rfl rfl (Nat.le_of_ble_eq_true rfl) ?_; dsimp only [argEnv]
  by_cases hlm : L.length = M.length
  · rw [← hlm]
    repeat' (first | refine stpS ?_ | (refine stp2 ?_ ?_ <;> intro _))
    refine RC.loop ?_
    refine RL.inv (α := Nat) (fun y => [(5, .int .i64 (y : Nat)), (0, .slice a L.length L.length), (1, .slice b L.length L.length)])
      (fun y n1 h1 => y ≤ L.length ∧ n' ≤ n1 ∧ h1 = h ∧ (L.map Prod.snd).take y = (M.map Prod.snd).take y) (fun y => L.length - y) 0 envs ⟨by omega, Nat.le_refl _, rfl, by simp⟩ ?_
    rintro i n1 h1 ⟨hi, hn1, rfl, hno⟩
    by_cases hlt : i < L.length
    · obtain ⟨v, hv⟩ : ∃ v, L[i]? = some v := ⟨_, List.getElem?_eq_getElem hlt⟩
      obtain ⟨u, hu⟩ : ∃ u, M[i]? = some u := ⟨_, List.getElem?_eq_getElem (by omega)⟩
      obtain ⟨hA, hsn, d0, V1⟩ := S.at_ hv
      obtain ⟨hB, hsn2, f0, V2⟩ := S2.at_ hu
      rw [← hlm] at hB
      have hq1 : sb a < n1 := by omega
      have hq2 : sb b < n1 := by omega
      have hmv : (L.map Prod.snd)[i]? = some v.2 := by rw [List.getElem?_map, hv]; rfl
      have hmu : (M.map Prod.snd)[i]? = some u.2 := by rw [List.getElem?_map, hu]; rfl
      have htk : (L.map Prod.snd).take (i + 1) = (L.map Prod.snd).take i ++ [v.2] := by rw [List.take_add_one, hmv]; rfl
      have htk2 : (M.map Prod.snd).take (i + 1) = (M.map Prod.snd).take i ++ [u.2] := by rw [List.take_add_one, hmu]; rfl
      have hsm := refSame_ev v.2 u.2 v.1 u.1 n1 (h1.below n1) (SlR.ext (SlR.ext V1 (Ext.refl _ _) hn1) (AH.below_ext h1 n1) (Nat.le_refl _)) (SlR.ext (SlR.ext V2 (Ext.refl _ _) hn1) (AH.below_ext h1 n1) (Nat.le_refl _)) (hr v (List.mem_of_getElem? hv))
      obtain ⟨va, v⟩ := v
      obtain ⟨ua, u⟩ := u
      dsimp only at d0 f0 hsm hmv hmu htk htk2
      by_cases q : v = u
      · rw [decide_eq_true q] at hsm
        repeat' (first | refine stpS ?_ | (refine stp2 ?_ ?_ <;> intro _))
        repeat' (first | refine stp ?_ | (refine stp2 ?_ ?_ <;> intro _))
        refine RD.callP n1 rfl opds hsm (Nat.le_refl _) cfc ?_
        repeat' (first | refine stp ?_ | (refine stp2 ?_ ?_ <;> intro _))
        refine nextC.normal ⟨i + 1, by omega, envs, by omega, hn1, rfl, by rw [htk, htk2, hno, q]⟩
      · rw [decide_eq_false q] at hsm
        repeat' (first | refine stpS ?_ | (refine stp2 ?_ ?_ <;> intro _))
        repeat' (first | refine stp ?_ | (refine stp2 ?_ ?_ <;> intro _))
        refine RD.callP n1 rfl opds hsm (Nat.le_refl _) cfc ?_
        repeat' (first | refine stp ?_ | (refine stp2 ?_ ?_ <;> intro _))
        have : ¬ L.map Prod.snd = M.map Prod.snd := fun g => by rw [g, hmu] at hmv; cases hmv; exact q rfl
        simp [this]
    · have hie : i = L.length := by omega
      subst hie
      have e1 : (L.map Prod.snd).take L.length = L.map Prod.snd := List.take_of_length_le (by simp)
      have e2 : (M.map Prod.snd).take L.length = M.map Prod.snd := List.take_of_length_le (by simp; omega)
      rw [e1, e2] at hno
      repeat' (first | refine stpS ?_ | (refine stp2 ?_ ?_ <;> intro _))
      simp [hno]
  · repeat' (first | refine stpS ?_ | (refine stp2 ?_ ?_ <;> intro _))
    have : ¬ L.map Prod.snd = M.map Prod.snd := fun g => hlm (by simpa using congrArg List.length g)
    simp [this]
def tysC (l : List Ty) : List Value := l.flatMap tyC
theorem tysC_length (l : List Ty) : (tysC l).length = l.length * 2 := by
  induction l with
  | nil => rfl
  | cons x l ih => simp only [tysC, List.flatMap_cons, List.length_append, tyC, List.length_cons, List.length_nil] at ih ⊢; omega
theorem tysC_at : ∀ (l : List Ty) (i : Nat) (v : Ty), l[i]? = some v → ∀ j x, (tyC v)[j]? = some x → (tysC l)[i * 2 + j]? = some x
  | [], i, v, h => by simp at h
  | u :: l, 0, v, h => by
    simp only [List.getElem?_cons_zero, Option.some.injEq] at h
    subst h
    intro j x hx
    have hj : j < 2 := (List.getElem?_eq_some_iff.1 hx).1
    rw [tysC, List.flatMap_cons, List.getElem?_append_left (by show 0 * 2 + j < 2; omega)]
    simpa using hx
  | u :: l, i + 1, v, h => by
    intro j x hx
    have := tysC_at l i v (by simpa using h) j x hx
    rw [tysC, List.flatMap_cons, List.getElem?_append_right (by show 2 ≤ _; omega), show (i + 1) * 2 + j - (tyC u).length = i * 2 + j by show (i + 1) * 2 + j - 2 = _; omega]
    exact this
abbrev SlTy (h : AH) (n : Nat) (a : Option Addr) (l : List Ty) : Prop := SlR h n a 2 l.length (fun j => (tysC l).getD j (.tuple #[]))
theorem SlTy.at_ {h : AH} {n : Nat} {a : Option Addr} {l : List Ty} (s : SlTy h n a l) {i : Nat} {v : Ty} (hi : l[i]? = some v) :
    SlA a l.length ∧ sb a < n ∧ h.cell (sb a) (so a + i * 2) = .int .i64 v.kind ∧ h.cell (sb a) (so a + i * 2 + 1) = .int .i64 v.scale := by
  have hil := (List.getElem?_eq_some_iff.1 hi).1
  have go : ∀ j x, (tyC v)[j]? = some x → h.cell (sb a) (so a + (i * 2 + j)) = x := fun j x hx => by
    have hj : j < 2 := (List.getElem?_eq_some_iff.1 hx).1
    have := tysC_at l i v hi j x hx
    exact (s.cell (i * 2 + j) (by omega)).trans (by simp [List.getD, this])
  exact ⟨s.sla, s.lt (by omega), go 0 _ rfl, go 1 _ rfl⟩
abbrev SlN (h : AH) (n : Nat) (a : Option Addr) (l : List Int) : Prop := SlR h n a 1 l.length (fun j => .int .i64 (l.getD j 0))
/-- A batch, and where its rows lie. -/
structure BatE where
  ta : Option Addr
  types : List Ty
  num : Int
  ca : Option Addr
  cols : List RowE
  sa : Option Addr
  sel : List Int
def BatE.cells (b : BatE) : List Value := [.slice b.ta b.types.length b.types.length, .int .i64 b.num, .slice b.ca b.cols.length b.cols.length, .slice b.sa b.sel.length b.sel.length]
structure BatR (h : AH) (n : Nat) (b : BatE) : Prop where
  types : SlTy h n b.ta b.types
  cols : RowsR h n b.ca b.cols
  sel : SlN h n b.sa b.sel
theorem BatR.ext {h h' : AH} {n n' : Nat} {b : BatE} (r : BatR h n b) (e : Ext n h h') (hn : n ≤ n') : BatR h' n' b := ⟨SlR.ext r.types e hn, r.cols.ext e hn, SlR.ext r.sel e hn⟩
/-- The place of a batch's selected rows: rising, of those that there are. -/
def selP (N : Int) (l : List Int) : Prop := ∀ (i : Nat) (k : Int), l[i]? = some k → k < N ∧ 0 ≤ k ∧ ∀ (j : Nat) (p : Int), j + 1 = i → l[j]? = some p → p < k
def colsP (N : Int) (ts : List Ty) (es : List RowE) : Prop := ∀ (i : Nat) (t : Ty) (e : RowE), ts[i]? = some t → es[i]? = some e → (e.2.length : Int) = N ∧ colMay t e.2
/-- Whether a batch may be. -/
def BatE.may (b : BatE) : Prop := b.types.length ≤ 32 ∧ b.cols.length = b.types.length ∧ 0 ≤ b.num ∧ b.num ≤ 2048 ∧ colsP b.num b.types b.cols ∧ selP b.num b.sel
end Go.Proofs.Ytaagbfpbbhaclaa
