/- Contracts of batches: values that may be. -/
import Derived.Test.YtaagbfpbbhaclaaA
set_option linter.unusedSimpArgs false
set_option linter.unusedVariables false
namespace Go.Proofs.Ytaagbfpbbhaclaa
open Go.Abs

theorem empty_dec (x : ByteArray) : x = (⟨#[]⟩ : ByteArray) ∨ (x ≠ (⟨#[]⟩ : ByteArray) ∧ 0 < x.size) := by
  by_cases h : x.size = 0
  · exact .inl ((size_nil x).2 h)
  · exact .inr ⟨fun q => h ((size_nil x).1 q), by omega⟩
theorem val_may_null {k s m : Int} {x : ByteArray} : Val.may ⟨⟨k, s⟩, true, m, x⟩ ↔ m = 0 ∧ x.size = 0 := by simp [Val.may]
theorem val_may_4 {s m : Int} {x : ByteArray} : Val.may ⟨⟨4, s⟩, false, m, x⟩ ↔ m = 0 ∧ x.size ≤ 256 := by simp [Val.may]
theorem val_may_1 {s m : Int} {x : ByteArray} : Val.may ⟨⟨1, s⟩, false, m, x⟩ ↔ x.size = 0 ∧ (m = 0 ∨ m = 1) := by simp [Val.may]
theorem val_may_2 {s m : Int} {x : ByteArray} : Val.may ⟨⟨2, s⟩, false, m, x⟩ ↔ x.size = 0 := by simp [Val.may]
theorem val_may_3 {s m : Int} {x : ByteArray} : Val.may ⟨⟨3, s⟩, false, m, x⟩ ↔ x.size = 0 ∧ (-999999999999999999 ≤ m ∧ m ≤ 999999999999999999) := by simp [Val.may]
theorem val_may_5 {s m : Int} {x : ByteArray} : Val.may ⟨⟨5, s⟩, false, m, x⟩ ↔ x.size = 0 ∧ (-719162 ≤ m ∧ m ≤ 2932896) := by simp [Val.may]
set_option maxHeartbeats 4000000 in
theorem check_ev (k s : Int) (nl : Bool) (m : Int) (x : ByteArray) (n : Nat) (h : AH) : Ev Try.prog none' 51 #[.agg #[.int .i64 k, .int .i64 s, .bool nl, .int .i64 m, .string x]] n h (.int .i64 (Val.check ⟨⟨k, s⟩, nl, m, x⟩)) n h := by
  refine RF.pure rfl fun n' hn => ?_
  refine RF.of Try.func51 rfl rfl (Nat.le_of_ble_eq_true rfl) ?_; dsimp only [argEnv]
  have hct : Ev Try.prog none' 48 #[.agg #[.int .i64 k, .int .i64 s]] (n' + 1) (h.app (.new n' ⟨5, 0, true, 0⟩ [.int .i64 k, .int .i64 s, .bool nl, .int .i64 m, .string x])) (.int .i64 (Ty.check ⟨k, s⟩)) (n' + 1) _ := checkType_ev ⟨k, s⟩ _ _
  have hft := fits_ev m (n' + 1) (h.app (.new n' ⟨5, 0, true, 0⟩ [.int .i64 k, .int .i64 s, .bool nl, .int .i64 m, .string x]))
  unfold Ty.check at hct
  unfold Val.check
  by_cases ht : Ty.may ⟨k, s⟩
  · rw [if_pos ht] at hct ⊢
    obtain ⟨t1, t2, -, -, -⟩ := ht
    have t1 : 1 ≤ k := t1
    have t2 : k ≤ 5 := t2
    rcases empty_dec x with rfl | ⟨hx, hx0⟩
    · cases nl
      · rcases (show k = 1 ∨ k = 2 ∨ k = 3 ∨ k = 4 ∨ k = 5 by omega) with rfl | rfl | rfl | rfl | rfl
        · by_cases m0 : m = 0
          · repeat' (first | refine stpS ?_ | (refine stp2 ?_ ?_ <;> intro _) | refine RS.call1 rfl opds (hct) none'W ?_)
            rw [if_pos (val_may_1.2 ⟨rfl, .inl m0⟩)]
          · by_cases m1 : m = 1
            · repeat' (first | refine stpS ?_ | (refine stp2 ?_ ?_ <;> intro _) | refine RS.call1 rfl opds (hct) none'W ?_)
              rw [if_pos (val_may_1.2 ⟨rfl, .inr m1⟩)]
            · repeat' (first | refine stpS ?_ | (refine stp2 ?_ ?_ <;> intro _) | refine RS.call1 rfl opds (hct) none'W ?_)
              rw [if_neg (fun q => (val_may_1.1 q).2.elim m0 m1)]
        · repeat' (first | refine stpS ?_ | (refine stp2 ?_ ?_ <;> intro _) | refine RS.call1 rfl opds (hct) none'W ?_)
          rw [if_pos (val_may_2.2 rfl)]
        · by_cases hm : -999999999999999999 ≤ m ∧ m ≤ 999999999999999999
          · rw [decide_eq_true hm] at hft
            repeat' (first | refine stpS ?_ | (refine stp2 ?_ ?_ <;> intro _) | refine RS.call1 rfl opds (hct) none'W ?_ | refine RS.call1 rfl opds (hft) none'W ?_)
            rw [if_pos (val_may_3.2 ⟨rfl, hm⟩)]
          · rw [decide_eq_false hm] at hft
            repeat' (first | refine stpS ?_ | (refine stp2 ?_ ?_ <;> intro _) | refine RS.call1 rfl opds (hct) none'W ?_ | refine RS.call1 rfl opds (hft) none'W ?_)
            rw [if_neg (fun q => hm (val_may_3.1 q).2)]
        · by_cases m0 : m = 0
          · repeat' (first | refine stpS ?_ | (refine stp2 ?_ ?_ <;> intro _) | refine RS.call1 rfl opds (hct) none'W ?_)
            rw [if_pos (val_may_4.2 ⟨m0, Nat.zero_le _⟩)]
          · repeat' (first | refine stpS ?_ | (refine stp2 ?_ ?_ <;> intro _) | refine RS.call1 rfl opds (hct) none'W ?_)
            rw [if_neg (fun q => m0 (val_may_4.1 q).1)]
        · by_cases h1 : -719162 ≤ m
          · by_cases h2 : m ≤ 2932896
            · repeat' (first | refine stpS ?_ | (refine stp2 ?_ ?_ <;> intro _) | refine RS.call1 rfl opds (hct) none'W ?_)
              rw [if_pos (val_may_5.2 ⟨rfl, h1, h2⟩)]
            · repeat' (first | refine stpS ?_ | (refine stp2 ?_ ?_ <;> intro _) | refine RS.call1 rfl opds (hct) none'W ?_)
              rw [if_neg (fun q => h2 (val_may_5.1 q).2.2)]
          · repeat' (first | refine stpS ?_ | (refine stp2 ?_ ?_ <;> intro _) | refine RS.call1 rfl opds (hct) none'W ?_)
            rw [if_neg (fun q => h1 (val_may_5.1 q).2.1)]
      · by_cases m0 : m = 0
        · repeat' (first | refine stpS ?_ | (refine stp2 ?_ ?_ <;> intro _) | refine RS.call1 rfl opds (hct) none'W ?_)
          rw [if_pos (val_may_null.2 ⟨m0, rfl⟩)]
        · repeat' (first | refine stpS ?_ | (refine stp2 ?_ ?_ <;> intro _) | refine RS.call1 rfl opds (hct) none'W ?_)
          rw [if_neg (fun q => m0 (val_may_null.1 q).1)]
    · cases nl
      · rcases (show k = 1 ∨ k = 2 ∨ k = 3 ∨ k = 4 ∨ k = 5 by omega) with rfl | rfl | rfl | rfl | rfl
        · repeat' (first | refine stpS ?_ | (refine stp2 ?_ ?_ <;> intro _) | refine RS.call1 rfl opds (hct) none'W ?_)
          all_goals first | (exfalso; apply hx; assumption) | (rw [if_neg (fun q => by have := (val_may_1.1 q).1; omega)])
        · repeat' (first | refine stpS ?_ | (refine stp2 ?_ ?_ <;> intro _) | refine RS.call1 rfl opds (hct) none'W ?_)
          all_goals first | (exfalso; apply hx; assumption) | (rw [if_neg (fun q => by have := val_may_2.1 q; omega)])
        · repeat' (first | refine stpS ?_ | (refine stp2 ?_ ?_ <;> intro _) | refine RS.call1 rfl opds (hct) none'W ?_)
          all_goals first | (exfalso; apply hx; assumption) | (rw [if_neg (fun q => by have := (val_may_3.1 q).1; omega)])
        · by_cases m0 : m = 0
          · by_cases h1 : x.size ≤ 256
            · repeat' (first | refine stpS ?_ | (refine stp2 ?_ ?_ <;> intro _) | refine RS.call1 rfl opds (hct) none'W ?_)
              all_goals first | (exfalso; apply hx; assumption) | (rw [if_pos (val_may_4.2 ⟨m0, h1⟩)])
            · repeat' (first | refine stpS ?_ | (refine stp2 ?_ ?_ <;> intro _) | refine RS.call1 rfl opds (hct) none'W ?_)
              all_goals first | (exfalso; apply hx; assumption) | (rw [if_neg (fun q => h1 (val_may_4.1 q).2)])
          · repeat' (first | refine stpS ?_ | (refine stp2 ?_ ?_ <;> intro _) | refine RS.call1 rfl opds (hct) none'W ?_)
            all_goals first | (exfalso; apply hx; assumption) | (rw [if_neg (fun q => m0 (val_may_4.1 q).1)])
        · repeat' (first | refine stpS ?_ | (refine stp2 ?_ ?_ <;> intro _) | refine RS.call1 rfl opds (hct) none'W ?_)
          all_goals first | (exfalso; apply hx; assumption) | (rw [if_neg (fun q => by have := (val_may_5.1 q).1; omega)])
      · repeat' (first | refine stpS ?_ | (refine stp2 ?_ ?_ <;> intro _) | refine RS.call1 rfl opds (hct) none'W ?_)
        all_goals first | (exfalso; apply hx; assumption) | (rw [if_neg (fun q => by have := (val_may_null.1 q).2; omega)])
  · rw [if_neg ht] at hct ⊢
    repeat' (first | refine stpS ?_ | (refine stp2 ?_ ?_ <;> intro _) | refine RS.call1 rfl opds (hct) none'W ?_)
    rfl
end Go.Proofs.Ytaagbfpbbhaclaa
