/- Contracts of batches: which may be, by the document. -/
import Derived.Test.YtaagbfpbbhaclaaH
set_option linter.unusedSimpArgs false
set_option linter.unusedVariables false
namespace Go.Proofs.Ytaagbfpbbhaclaa
open Go.Abs

theorem selP_take {N : Int} {l : List Int} {i : Nat} {k : Int} (hk : l[i]? = some k) : (selP N (l.take i) ∧ 0 ≤ k ∧ k < N ∧ (i = 0 ∨ ∃ p, l[i - 1]? = some p ∧ p < k)) ↔ selP N (l.take (i + 1)) := by
  have hi := (List.getElem?_eq_some_iff.1 hk).1
  have g : ∀ (m j : Nat), (l.take m)[j]? = if j < m then l[j]? else none := fun m j => by
    rw [List.getElem?_take]
  constructor
  · rintro ⟨h1, h2, h3, h4⟩ j x hj
    rw [g] at hj
    split at hj
    · by_cases e : j < i
      · have := h1 j x (by rw [g, if_pos e]; exact hj)
        refine ⟨this.1, this.2.1, fun j' p hj' hp => this.2.2 j' p hj' ?_⟩
        rw [g] at hp ⊢
        rw [if_pos (by omega)] at hp ⊢; exact hp
      · obtain rfl : j = i := by omega
        rw [hk] at hj; cases hj
        refine ⟨h3, h2, fun j' p hj' hp => ?_⟩
        rw [g, if_pos (by omega)] at hp
        rcases h4 with e | ⟨q, hq, hlt⟩
        · omega
        · rw [show j - 1 = j' by omega, hp] at hq
          cases hq; exact hlt
    · cases hj
  · intro h
    refine ⟨fun j x hj => ?_, ?_⟩
    · rw [g] at hj
      split at hj
      · have := h j x (by rw [g, if_pos (by omega)]; exact hj)
        refine ⟨this.1, this.2.1, fun j' p hj' hp => this.2.2 j' p hj' ?_⟩
        rw [g] at hp ⊢
        split at hp
        · rw [if_pos (by omega)]; exact hp
        · cases hp
      · cases hj
    · have := h i k (by rw [g, if_pos (by omega)]; exact hk)
      refine ⟨this.2.1, this.1, ?_⟩
      by_cases e : i = 0
      · exact .inl e
      · obtain ⟨p, hp⟩ : ∃ p, l[i - 1]? = some p := ⟨_, List.getElem?_eq_getElem (by omega)⟩
        exact .inr ⟨p, hp, this.2.2 (i - 1) p (by omega) (by rw [g, if_pos (by omega)]; exact hp)⟩
theorem selP_mono {N : Int} {l : List Int} {i : Nat} (h : selP N l) : selP N (l.take i) := fun j x hj => by
  rw [List.getElem?_take] at hj
  split at hj
  · have := h j x hj
    refine ⟨this.1, this.2.1, fun j' p hj' hp => this.2.2 j' p hj' ?_⟩
    rw [List.getElem?_take] at hp
    split at hp
    · exact hp
    · cases hp
  · cases hj
end Go.Proofs.Ytaagbfpbbhaclaa
