/- Contracts of batches: types and values that may be. -/
import Derived.Test.YtaagbfpbbhaclaaPl
set_option linter.unusedSimpArgs false
set_option linter.unusedVariables false
namespace Go.Proofs.Ytaagbfpbbhaclaa
open Go.Abs

theorem size_nil (s : ByteArray) : s = ByteArray.empty ↔ s.size = 0 := by
  constructor
  · intro h; rw [h]; rfl
  · intro h
    apply ByteArray.ext
    apply Array.ext
    · exact h
    · intro i h1 h2; exact absurd h1 (by show ¬ i < s.size; omega)
set_option maxHeartbeats 4000000 in
theorem scaled_ev (k : Int) (n : Nat) (h : AH) : Ev Try.prog none' 63 #[.int .i64 k] n h (.bool (decide (0 ≤ k ∧ k ≤ 18))) n h := by
  refine RF.pure rfl fun n' hn => ?_
  refine RF.of Try.func63 rfl rfl (Nat.le_of_ble_eq_true rfl) ?_; dsimp only [argEnv]
  by_cases h0 : 0 ≤ k
  · by_cases h1 : k ≤ 18
    · repeat' (first | refine stpS ?_ | (refine stp2 ?_ ?_ <;> intro _))
      simp [h0, h1]
    · repeat' (first | refine stpS ?_ | (refine stp2 ?_ ?_ <;> intro _))
      simp [h1]
  · repeat' (first | refine stpS ?_ | (refine stp2 ?_ ?_ <;> intro _))
    simp [h0]
set_option maxHeartbeats 4000000 in
theorem checkType_ev (t : Ty) (n : Nat) (h : AH) : Ev Try.prog none' 48 #[.agg (tyC t).toArray] n h (.int .i64 t.check) n h := by
  refine RF.pure rfl fun n' hn => ?_
  refine RF.of Try.func48 rfl rfl (Nat.le_of_ble_eq_true rfl) ?_; dsimp only [argEnv]
  unfold Ty.check
  by_cases h1 : 1 ≤ t.kind
  · by_cases h2 : t.kind ≤ 5
    · have hs := scaled_ev t.scale (n' + 1) (h.app (.new n' ⟨2, 0, true, 0⟩ (tyC t)))
      by_cases h3 : 0 ≤ t.scale ∧ t.scale ≤ 18
      · rw [decide_eq_true h3] at hs
        by_cases h4 : t.scale = 0
        · repeat' (first | refine stpS ?_ | (refine stp2 ?_ ?_ <;> intro _) | refine RS.call1 rfl opds (hs) none'W ?_)
          rw [if_pos (show t.may from ⟨h1, h2, h3.1, h3.2, .inl h4⟩)]
        · by_cases h5 : t.kind = 3
          · repeat' (first | refine stpS ?_ | (refine stp2 ?_ ?_ <;> intro _) | refine RS.call1 rfl opds (hs) none'W ?_)
            rw [if_pos (show t.may from ⟨h1, h2, h3.1, h3.2, .inr h5⟩)]
          · repeat' (first | refine stpS ?_ | (refine stp2 ?_ ?_ <;> intro _) | refine RS.call1 rfl opds (hs) none'W ?_)
            rw [if_neg (fun q : t.may => q.2.2.2.2.elim h4 h5)]
      · rw [decide_eq_false h3] at hs
        repeat' (first | refine stpS ?_ | (refine stp2 ?_ ?_ <;> intro _) | refine RS.call1 rfl opds (hs) none'W ?_)
        rw [if_neg (fun q : t.may => h3 ⟨q.2.2.1, q.2.2.2.1⟩)]
    · repeat' (first | refine stpS ?_ | (refine stp2 ?_ ?_ <;> intro _))
      rw [if_neg (fun q : t.may => h2 q.2.1)]
  · repeat' (first | refine stpS ?_ | (refine stp2 ?_ ?_ <;> intro _))
    rw [if_neg (fun q : t.may => h1 q.1)]
set_option maxHeartbeats 4000000 in
theorem refCheckType_ev (t : Ty) (n : Nat) (h : AH) : Ev Try.prog none' 53 #[.agg (tyC t).toArray] n h (.int .i64 t.check) n h := by
  refine RF.pure rfl fun n' hn => ?_
  refine RF.of Try.func53 rfl rfl (Nat.le_of_ble_eq_true rfl) ?_; dsimp only [argEnv]
  unfold Ty.check
  by_cases h1 : 1 ≤ t.kind
  · by_cases h2 : t.kind ≤ 5
    · by_cases h3 : 0 ≤ t.scale
      · by_cases h3' : t.scale ≤ 18
        · by_cases h5 : t.kind = 3
          · repeat' (first | refine stpS ?_ | (refine stp2 ?_ ?_ <;> intro _))
            rw [if_pos (show t.may from ⟨h1, h2, h3, h3', .inr h5⟩)]
          · by_cases h4 : t.scale = 0
            · repeat' (first | refine stpS ?_ | (refine stp2 ?_ ?_ <;> intro _))
              rw [if_pos (show t.may from ⟨h1, h2, h3, h3', .inl h4⟩)]
            · repeat' (first | refine stpS ?_ | (refine stp2 ?_ ?_ <;> intro _))
              rw [if_neg (fun q : t.may => q.2.2.2.2.elim h4 h5)]
        · repeat' (first | refine stpS ?_ | (refine stp2 ?_ ?_ <;> intro _))
          rw [if_neg (fun q : t.may => h3' q.2.2.2.1)]
      · repeat' (first | refine stpS ?_ | (refine stp2 ?_ ?_ <;> intro _))
        rw [if_neg (fun q : t.may => h3 q.2.2.1)]
    · repeat' (first | refine stpS ?_ | (refine stp2 ?_ ?_ <;> intro _))
      rw [if_neg (fun q : t.may => h2 q.2.1)]
  · repeat' (first | refine stpS ?_ | (refine stp2 ?_ ?_ <;> intro _))
    rw [if_neg (fun q : t.may => h1 q.1)]
set_option maxHeartbeats 4000000 in
theorem fits_ev (k : Int) (n : Nat) (h : AH) : Ev Try.prog none' 65 #[.int .i64 k] n h (.bool (decide (-999999999999999999 ≤ k ∧ k ≤ 999999999999999999))) n h := by
  refine RF.pure rfl fun n' hn => ?_
  refine RF.of Try.func65 rfl rfl (Nat.le_of_ble_eq_true rfl) ?_; dsimp only [argEnv]
  by_cases h0 : -999999999999999999 ≤ k
  · by_cases h1 : k ≤ 999999999999999999
    · repeat' (first | refine stpS ?_ | (refine stp2 ?_ ?_ <;> intro _))
      simp [h0, h1]
    · repeat' (first | refine stpS ?_ | (refine stp2 ?_ ?_ <;> intro _))
      simp [h1]
  · repeat' (first | refine stpS ?_ | (refine stp2 ?_ ?_ <;> intro _))
    simp [h0]
set_option maxHeartbeats 4000000 in
theorem refFits_ev (k : Int) (n : Nat) (h : AH) : Ev Try.prog none' 66 #[.int .i64 k] n h (.bool (decide (-999999999999999999 ≤ k ∧ k ≤ 999999999999999999))) n h := by
  refine RF.pure rfl fun n' hn => ?_
  refine RF.of Try.func66 rfl rfl (Nat.le_of_ble_eq_true rfl) ?_; dsimp only [argEnv]
  by_cases h0 : -999999999999999999 ≤ k
  · by_cases h1 : k ≤ 999999999999999999
    · repeat' (first | refine stpS ?_ | (refine stp2 ?_ ?_ <;> intro _))
      simp [h0, h1]
    · repeat' (first | refine stpS ?_ | (refine stp2 ?_ ?_ <;> intro _))
      simp [h1]
  · repeat' (first | refine stpS ?_ | (refine stp2 ?_ ?_ <;> intro _))
    simp [h0]
end Go.Proofs.Ytaagbfpbbhaclaa
