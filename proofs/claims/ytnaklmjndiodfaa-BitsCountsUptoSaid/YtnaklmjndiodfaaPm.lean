/- The plain law of bits: how many are set; not, and, or. -/
import Derived.Test.YtnaklmjndiodfaaHh
namespace Go.Proofs.Ytnaklmjndiodfaa
open Go.Abs

theorem onesB_snoc (l : List UInt8) (c : UInt8) : onesB (l ++ [c]) = onesB l + ones8 c.toNat := by simp [onesB]
theorem bitAt_append (l : List UInt8) (c : UInt8) (i : Nat) : bitAt (l ++ [c]) i = if i < 8 * l.length then bitAt l i else if i < 8 * l.length + 8 then c.toNat.testBit (i - 8 * l.length) else false := by
  unfold bitAt
  by_cases h : i < 8 * l.length
  · rw [if_pos h]
    have : i / 8 < l.length := by omega
    simp only [List.getD, List.getElem?_append_left this]
  · rw [if_neg h]
    by_cases h2 : i < 8 * l.length + 8
    · rw [if_pos h2]
      have e : i / 8 = l.length := by omega
      have e2 : i % 8 = i - 8 * l.length := by omega
      rw [e, e2]; simp [List.getD]
    · rw [if_neg h2]
      have : l.length + 1 ≤ i / 8 := by omega
      have e : (l ++ [c])[i / 8]? = none := List.getElem?_eq_none (by simpa using this)
      simp [List.getD, e]
theorem range_8 (m : Nat) : List.range (8 * (m + 1)) = List.range (8 * m) ++ (List.range 8).map (8 * m + ·) := by
  rw [show 8 * (m + 1) = 8 * m + 8 by omega, List.range_add]
theorem onesB_count (l : List UInt8) : onesB l = ((List.range (8 * l.length)).filter (bitAt l)).length := by
  suffices key : ∀ (m : Nat) (l : List UInt8), l.length = m → onesB l = ((List.range (8 * m)).filter (bitAt l)).length from key _ l rfl
  intro m
  induction m with
  | zero => intro l h; have := List.eq_nil_of_length_eq_zero h; subst this; rfl
  | succ m ih =>
    intro l h
    obtain ⟨l, c, rfl⟩ : ∃ k c, l = k ++ [c] := ⟨l.dropLast, l.getLast (by intro e; subst e; simp at h), (List.dropLast_concat_getLast _).symm⟩
    have hl : l.length = m := by simpa using h
    rw [onesB_snoc, ih l hl, range_8, List.filter_append, List.length_append]
    congr 1
    · congr 1
      apply List.filter_congr
      intro i hi
      rw [List.mem_range] at hi
      rw [bitAt_append, if_pos (by omega)]
    · unfold ones8
      rw [List.filter_map, List.length_map]
      congr 1
      apply List.filter_congr
      intro i hi
      rw [List.mem_range] at hi
      simp only [Function.comp]
      rw [bitAt_append, if_neg (by omega), if_pos (by omega)]
      congr 1; omega
/-- The places that are set. -/
def wheres (t : List Bool) : List Nat := (List.range t.length).filter fun i => t.getD i false
theorem onesB_pack (t : List Bool) : onesB (packB t) = (wheres t).length := by
  rw [onesB_count, packB_length]
  have hK : t.length ≤ 8 * ((t.length + 7) / 8) := by omega
  obtain ⟨d, hd⟩ : ∃ d, 8 * ((t.length + 7) / 8) = t.length + d := ⟨8 * ((t.length + 7) / 8) - t.length, by omega⟩
  rw [hd, List.range_add, List.filter_append, List.length_append]
  have e1 : (List.filter (bitAt (packB t)) (List.map (t.length + ·) (List.range d))) = [] := by
    rw [List.filter_eq_nil_iff]
    intro i hi
    obtain ⟨j, _, rfl⟩ := List.mem_map.1 hi
    rw [bitAt_packB]; simp [List.getD]
  rw [e1, List.length_nil, Nat.add_zero]
  unfold wheres
  congr 1
  apply List.filter_congr
  intro i hi
  rw [bitAt_packB]
theorem wheres_len (t : List Bool) : (wheres t).length = t.count true := by
  suffices key : ∀ (m : Nat) (t : List Bool), t.length = m → (wheres t).length = t.count true from key _ t rfl
  intro m
  induction m with
  | zero => intro t h; have := List.eq_nil_of_length_eq_zero h; subst this; rfl
  | succ m ih =>
    intro t h
    obtain ⟨t, c, rfl⟩ : ∃ k c, t = k ++ [c] := ⟨t.dropLast, t.getLast (by intro e; subst e; simp at h), (List.dropLast_concat_getLast _).symm⟩
    have hl : t.length = m := by simpa using h
    rw [List.count_append, ← ih t hl]
    unfold wheres
    rw [List.length_append, List.length_singleton, List.range_succ, List.filter_append, List.length_append]
    congr 1
    · congr 1
      apply List.filter_congr
      intro i hi
      rw [List.mem_range] at hi
      simp only [List.getD, List.getElem?_append_left hi]
    · cases c <;> simp [List.getD]
theorem count_not (t : List Bool) : t.count true + (t.map (!·)).count true = t.length := by
  induction t with
  | nil => rfl
  | cons b t ih => cases b <;> simp [List.count_cons] at ih ⊢ <;> omega
theorem not_both (t u : List Bool) : (bothT and t u).map (!·) = bothT or (t.map (!·)) (u.map (!·)) := by
  unfold bothT
  induction t generalizing u with
  | nil => rfl
  | cons b t ih =>
    cases u with
    | nil => rfl
    | cons c u => simp [ih, Bool.not_and]
theorem not_bothOr (t u : List Bool) : (bothT or t u).map (!·) = bothT and (t.map (!·)) (u.map (!·)) := by
  unfold bothT
  induction t generalizing u with
  | nil => rfl
  | cons b t ih =>
    cases u with
    | nil => rfl
    | cons c u => simp [ih, Bool.not_or]
theorem not_not (t : List Bool) : (t.map (!·)).map (!·) = t := by simp [Function.comp_def]
theorem merge_not (t : List Bool) (r : List (List Bool)) : mergeT and (t.map (!·)) (r.map (·.map (!·))) = (mergeT or t r).map (·.map (!·)) := by
  induction r generalizing t with
  | nil => rfl
  | cons u r ih =>
    simp only [List.map_cons, mergeT, List.length_map]
    by_cases h : u.length = t.length
    · rw [if_pos h, if_pos h, ← not_bothOr, ih]
    · rw [if_neg h, if_neg h]; rfl
theorem all_not (r : List (List Bool)) : allT and (r.map (·.map (!·))) = (allT or r).map (·.map (!·)) := by
  cases r with
  | nil => rfl
  | cons t r => exact merge_not t r
end Go.Proofs.Ytnaklmjndiodfaa
