/- Contracts of batches: copies of types and numbers; the batch of rows. -/
import Derived.Test.YtaagbfpbbhaclaaH
import Derived.Test.YtaagbfpbbhaclaaAbsRR
set_option linter.unusedSimpArgs false
set_option linter.unusedVariables false
namespace Go.Proofs.Ytaagbfpbbhaclaa
open Go.Abs

theorem known_valsC : ∀ l : List Val, known (valsC l) = true
  | [] => rfl
  | v :: l => by
    have := known_valsC l
    simp only [valsC, List.flatMap_cons, valC] at this ⊢
    simpa [known] using this
theorem known_tysC : ∀ l : List Ty, known (tysC l) = true
  | [] => rfl
  | v :: l => by
    have := known_tysC l
    simp only [tysC, List.flatMap_cons, tyC] at this ⊢
    simpa [known] using this
theorem known_ints (k : IntKind) : ∀ l : List Int, known (intsV k l) = true
  | [] => rfl
  | v :: l => by simpa [intsV, known] using known_ints k l
theorem map_range_getD : ∀ (l : List Value) (m : Nat), m = l.length → (List.range m).map (fun j => l.getD j (.tuple #[])) = l := by
  rintro l m rfl
  apply List.ext_getElem?
  intro i
  simp only [List.getElem?_map, List.getD]
  by_cases h : i < l.length
  · simp [h]
  · simp [h]
theorem SlR.srcL {h : AH} {n z m : Nat} {a : Option Addr} {l : List Value} (s : SlR h n a z m (fun j => l.getD j (.tuple #[]))) (e : l.length = m * z) (hk : known l = true) : Src h z (.slice a m m) m l := by
  have := SlR.src s (by rw [map_range_getD l _ e.symm]; exact hk)
  rwa [map_range_getD l _ e.symm] at this
theorem SlTy.src {h : AH} {n : Nat} {a : Option Addr} {l : List Ty} (s : SlTy h n a l) : Src h 2 (.slice a l.length l.length) l.length (tysC l) := SlR.srcL s (tysC_length l) (known_tysC l)
theorem SlV.src {h : AH} {n : Nat} {a : Option Addr} {l : List Val} (s : SlV h n a l) : Src h 5 (.slice a l.length l.length) l.length (valsC l) := SlR.srcL s (valsC_length l) (known_valsC l)
theorem ints_range (l : List Int) : (List.range (l.length * 1)).map (fun j => Value.int .i64 (l.getD j 0)) = intsV .i64 l := by
  apply List.ext_getElem?
  intro i
  simp only [List.getElem?_map, intsV, List.getD, Nat.mul_one]
  by_cases h : i < l.length <;> simp [h]
theorem SlN.src {h : AH} {n : Nat} {a : Option Addr} {l : List Int} (s : SlN h n a l) : Src h 1 (.slice a l.length l.length) l.length (intsV .i64 l) := by
  have := SlR.src s (by rw [ints_range]; exact known_ints .i64 l)
  rwa [ints_range] at this
set_option maxHeartbeats 4000000 in
theorem cloneT_rf (l : List Ty) (a : Option Addr) (n : Nat) (h : AH) (S : SlTy h n a l) (hm : l.length ≤ 1099511627776) :
    RF Try.prog none' 34 #[.slice a l.length l.length] n h (fun r n' h' => ∃ a', r = .slice a' l.length l.length ∧ Ext n h h' ∧ OwnSl h' n n' a' 2 l.length (tysC l)) := by
  refine RF.of Try.func34 rfl rfl (Nat.le_of_ble_eq_true rfl) ?_; dsimp only [argEnv]
  rcases S.two with ⟨ha, hl⟩ | ⟨b, o, ha⟩
  · have : l = [] := List.eq_nil_of_length_eq_zero hl
    subst this; subst ha
    repeat' (first | refine stpS ?_ | (refine stp2 ?_ ?_ <;> intro _))
    exact ⟨none, rfl, ext, OwnSl.nil (by omega)⟩
  · subst ha
    repeat' (first | refine stpS ?_ | (refine stp2 ?_ ?_ <;> intro _))
    refine RS.append rfl opd opd (OwnSl.new (z := 2) (m := 0) (cs := []) (Nat.le_refl n) rfl rfl) (SlTy.src (SlR.ext S ext (Nat.le_refl _))) full_slice (fun b hb => Or.inr (by omega)) (by omega) ?_
    intro a' n1 h1 hle hO hX hnew
    have hE := hX.ext (OwnSl.new (z := 2) (m := 0) (cs := []) (Nat.le_refl n) rfl rfl)
    simp only [Nat.zero_add, List.nil_append] at hO ⊢
    repeat' (first | refine stpS ?_ | (refine stp2 ?_ ?_ <;> intro _))
    exact ⟨a', rfl, ext, hO⟩
set_option maxHeartbeats 4000000 in
theorem cloneN_rf (l : List Int) (a : Option Addr) (n : Nat) (h : AH) (S : SlN h n a l) (hm : l.length ≤ 1099511627776) :
    RF Try.prog none' 56 #[.slice a l.length l.length] n h (fun r n' h' => ∃ a', r = .slice a' l.length l.length ∧ Ext n h h' ∧ OwnSl h' n n' a' 1 l.length (intsV .i64 l)) := by
  refine RF.of Try.func56 rfl rfl (Nat.le_of_ble_eq_true rfl) ?_; dsimp only [argEnv]
  rcases S.two with ⟨ha, hl⟩ | ⟨b, o, ha⟩
  · have : l = [] := List.eq_nil_of_length_eq_zero hl
    subst this; subst ha
    repeat' (first | refine stpS ?_ | (refine stp2 ?_ ?_ <;> intro _))
    exact ⟨none, rfl, ext, OwnSl.nil (by omega)⟩
  · subst ha
    repeat' (first | refine stpS ?_ | (refine stp2 ?_ ?_ <;> intro _))
    refine RS.append rfl opd opd (OwnSl.new (z := 1) (m := 0) (cs := []) (Nat.le_refl n) rfl rfl) (SlN.src (SlR.ext S ext (Nat.le_refl _))) full_slice (fun b hb => Or.inr (by omega)) (by omega) ?_
    intro a' n1 h1 hle hO hX hnew
    have hE := hX.ext (OwnSl.new (z := 1) (m := 0) (cs := []) (Nat.le_refl n) rfl rfl)
    simp only [Nat.zero_add, List.nil_append] at hO ⊢
    repeat' (first | refine stpS ?_ | (refine stp2 ?_ ?_ <;> intro _))
    exact ⟨a', rfl, ext, hO⟩
end Go.Proofs.Ytaagbfpbbhaclaa
