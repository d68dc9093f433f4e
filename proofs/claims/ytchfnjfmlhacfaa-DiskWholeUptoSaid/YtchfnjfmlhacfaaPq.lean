/- The plain law DiskWhole: what a crash leaves of one write. -/
import Derived.Test.YtchfnjfmlhacfaaPs
namespace Go.Proofs.Ytchfnjfmlhacfaa
open Go.Abs

theorem chunks_count (f : Nat) : ∀ (k at_ : Nat) (l : List UInt8), l.length ≤ k → 0 < l.length → (chunks f k at_ l).length = (at_ + l.length - 1) / 512 - at_ / 512 + 1 := by
  intro k
  induction k with
  | zero => intro at_ l h h0; omega
  | succ k ih =>
    intro at_ l h h0
    cases l with
    | nil => simp at h0
    | cons x r =>
      simp only [chunks, List.length_cons] at h ⊢
      have hd : ((x :: r).drop (512 - at_ % 512)).length = r.length + 1 - (512 - at_ % 512) := by rw [List.length_drop, List.length_cons]
      by_cases h1 : r.length + 1 ≤ 512 - at_ % 512
      · have e : (x :: r).drop (512 - at_ % 512) = [] := List.drop_of_length_le (by rw [List.length_cons]; omega)
        rw [e]
        have : ∀ k a, chunks f k a [] = [] := fun k a => by cases k <;> rfl
        rw [this, List.length_nil]
        omega
      · rw [ih _ _ (by rw [hd]; omega) (by rw [hd]; omega), hd]
        omega
theorem lose_chunks (c : UInt8) : ∀ (k at_ : Nat) (l : List UInt8) (ks : List Bool) (sure : Nat → List UInt8), l.length ≤ k → at_ + l.length ≤ (sure 0).length →
    (loseP sure (chunks 0 k at_ l) ks 0).length = (sure 0).length ∧ ∀ i, (loseP sure (chunks 0 k at_ l) ks 0).getD i 0 = if at_ ≤ i ∧ i < at_ + l.length ∧ ks.getD (i / 512 - at_ / 512) false = true then l.getD (i - at_) 0 else (sure 0).getD i 0 := by
  intro k
  induction k with
  | zero =>
    intro at_ l ks sure h _
    have : l = [] := List.eq_nil_of_length_eq_zero (by omega)
    subst this
    refine ⟨rfl, fun i => ?_⟩
    rw [if_neg (by simp; omega)]; rfl
  | succ k ih =>
    intro at_ l ks sure h hs
    cases l with
    | nil =>
      refine ⟨rfl, fun i => ?_⟩
      rw [if_neg (by simp; omega)]; rfl
    | cons x r =>
      cases ks with
      | nil =>
        rw [loseP_none]
        refine ⟨rfl, fun i => ?_⟩
        rw [if_neg (by simp)]
      | cons b ks =>
        have hm : 0 < 512 - at_ % 512 := by omega
        generalize hmm : 512 - at_ % 512 = m at *
        have hl : (x :: r).length = r.length + 1 := rfl
        have ht : ((x :: r).take m).length = min m (r.length + 1) := by rw [List.length_take, hl]
        have hd : ((x :: r).drop m).length = r.length + 1 - m := by rw [List.length_drop, hl]
        have hc : chunks 0 (k + 1) at_ (x :: r) = ⟨0, false, at_, (x :: r).take m⟩ :: chunks 0 k (at_ + min (r.length + 1) m) ((x :: r).drop m) := by
          simp only [chunks, hmm]
        rw [hc]
        simp only [loseP]
        have hne : (x :: r).take m ≠ [] := fun q => by rw [q] at ht; simp only [List.length_nil] at ht; omega
        have hw : (wr (sure 0) at_ ((x :: r).take m)).length = (sure 0).length := by
          rw [wr_length, if_neg hne, ht]; rw [hl] at hs; omega
        rw [hl] at h hs
        have hs0 : (if b = true then upd sure 0 (doP (sure 0) ⟨0, false, at_, (x :: r).take m⟩) else sure) 0 = if b = true then wr (sure 0) at_ ((x :: r).take m) else sure 0 := by
          cases b
          · rfl
          · simp only [if_true]; rw [upd_same, doP_wr _ _ _ _ hne]
        have hs0l : ((if b = true then upd sure 0 (doP (sure 0) ⟨0, false, at_, (x :: r).take m⟩) else sure) 0).length = (sure 0).length := by
          rw [hs0]; split
          · exact hw
          · rfl
        obtain ⟨q1, q2⟩ := ih (at_ + min (r.length + 1) m) ((x :: r).drop m) ks (if b = true then upd sure 0 (doP (sure 0) ⟨0, false, at_, (x :: r).take m⟩) else sure) (by rw [hd]; omega) (by rw [hd, hs0l]; omega)
        refine ⟨q1.trans hs0l, fun i => ?_⟩
        rw [q2 i, hd, hs0, hl]
        have eg : ∀ j, ((x :: r).drop m).getD j 0 = (x :: r).getD (m + j) 0 := fun j => by simp only [List.getD, List.getElem?_drop]
        have et : ∀ j, j < m → ((x :: r).take m).getD j 0 = (x :: r).getD j 0 := fun j hj => by simp only [List.getD]; rw [List.getElem?_take, if_pos hj]
        by_cases h1 : at_ ≤ i ∧ i < at_ + min (r.length + 1) m
        · have hi : i / 512 - at_ / 512 = 0 := by omega
          rw [if_neg (by omega), hi, List.getD_cons_zero]
          cases b
          · simp
          · rw [if_pos rfl, if_pos ⟨h1.1, by omega, rfl⟩, wr_getD, if_pos (by rw [ht]; omega), et _ (by omega)]
        · have hb : (if b = true then wr (sure 0) at_ ((x :: r).take m) else sure 0).getD i 0 = (sure 0).getD i 0 := by
            cases b
            · rfl
            · rw [if_pos rfl, wr_getD, if_neg (by rw [ht]; omega)]
          rw [hb]
          by_cases h2 : at_ + m ≤ i ∧ i < at_ + (r.length + 1)
          · have hi : i / 512 - at_ / 512 = (i / 512 - (at_ + min (r.length + 1) m) / 512) + 1 := by omega
            rw [hi, List.getD_cons_succ]
            by_cases h3 : ks.getD (i / 512 - (at_ + min (r.length + 1) m) / 512) false = true
            · rw [if_pos ⟨by omega, by omega, h3⟩, if_pos ⟨by omega, by omega, h3⟩, eg]
              congr 1; omega
            · rw [if_neg (fun q => h3 q.2.2), if_neg (fun q => h3 q.2.2)]
          · rw [if_neg (by omega), if_neg (by omega)]
end Go.Proofs.Ytchfnjfmlhacfaa
