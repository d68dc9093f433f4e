/- The plain law of bits: the places that are set, byte by byte. -/
import Derived.Test.YtnaklmjndiodfaaPm
namespace Go.Proofs.Ytnaklmjndiodfaa
open Go.Abs

/-- The places that are set in a byte; the first of them. -/
def bitsL (c : Nat) : List Nat := (List.range 8).filter fun j => c.testBit j
def tz8 (c : Nat) : Nat := (bitsL c).headD 8
theorem bitsL_zero : bitsL 0 = [] := by decide
theorem bitsL_step : ∀ c, c < 256 → c ≠ 0 → bitsL c = tz8 c :: bitsL (c &&& (c - 1)) := by decide +kernel
theorem tz8_le : ∀ c, c < 256 → tz8 c ≤ 8 := by decide +kernel
/-- The places that are set in bytes from the i-th on. -/
def setL : Nat → List UInt8 → List Nat
  | _, [] => []
  | i, c :: r => (bitsL c.toNat).map (8 * i + ·) ++ setL (i + 1) r
theorem setL_eq : ∀ (l : List UInt8) (i : Nat), setL i l = ((List.range (8 * l.length)).filter (bitAt l)).map (8 * i + ·)
  | [], i => by simp [setL]
  | c :: r, i => by
    simp only [setL, setL_eq r (i + 1), List.length_cons]
    rw [show 8 * (r.length + 1) = 8 + 8 * r.length by omega, List.range_add, List.filter_append, List.map_append]
    have e0 : bitsL c.toNat = List.filter (bitAt (c :: r)) (List.range 8) := by
      unfold bitsL
      apply List.filter_congr
      intro j hj
      rw [List.mem_range] at hj
      unfold bitAt
      rw [Nat.div_eq_of_lt hj, Nat.mod_eq_of_lt hj]; rfl
    rw [e0]
    rw [List.append_right_inj]
    · rw [List.filter_map, List.map_map]
      have e : (bitAt (c :: r) ∘ fun x => 8 + x) = bitAt r := by
        funext j
        simp only [Function.comp, bitAt]
        rw [show (8 + j) / 8 = j / 8 + 1 by omega, show (8 + j) % 8 = j % 8 by omega]; rfl
      rw [e]
      apply List.map_congr_left
      intro j _
      simp only [Function.comp]; omega
theorem setL_pack (t : List Bool) : setL 0 (packB t) = wheres t := by
  rw [setL_eq, packB_length]
  have hK : t.length ≤ 8 * ((t.length + 7) / 8) := by omega
  obtain ⟨d, hd⟩ : ∃ d, 8 * ((t.length + 7) / 8) = t.length + d := ⟨8 * ((t.length + 7) / 8) - t.length, by omega⟩
  rw [hd, List.range_add, List.filter_append]
  have e1 : (List.filter (bitAt (packB t)) (List.map (t.length + ·) (List.range d))) = [] := by
    rw [List.filter_eq_nil_iff]
    intro i hi
    obtain ⟨j, _, rfl⟩ := List.mem_map.1 hi
    rw [bitAt_packB]; simp [List.getD]
  rw [e1, List.append_nil]
  have e2 : (fun x => 8 * 0 + x) = (id : Nat → Nat) := by funext x; simp
  rw [e2, List.map_id]
  unfold wheres
  apply List.filter_congr
  intro i hi
  rw [bitAt_packB]
theorem wheres_mem {t : List Bool} {i : Nat} : i ∈ wheres t ↔ i < t.length ∧ t.getD i false = true := by simp [wheres]
theorem wheres_take (t : List Bool) (j : Nat) : wheres (t.take j) = (wheres t).filter fun i => decide (i < j) := by
  unfold wheres
  rw [List.filter_filter, List.length_take]
  rcases Nat.le_total j t.length with h | h
  · rw [Nat.min_eq_left h]
    have e0 : List.range t.length = List.range (j + (t.length - j)) := by congr 1; omega
    rw [e0, List.range_add, List.filter_append]
    have e : List.filter (fun a => decide (a < j) && t.getD a false) (List.map (j + ·) (List.range (t.length - j))) = [] := by
      rw [List.filter_eq_nil_iff]
      intro i hi
      obtain ⟨k, _, rfl⟩ := List.mem_map.1 hi
      have : ¬ (j + k < j) := by omega
      simp [this]
    rw [e, List.append_nil]
    apply List.filter_congr
    intro i hi
    rw [List.mem_range] at hi
    simp [List.getD, hi]
  · rw [Nat.min_eq_right h]
    apply List.filter_congr
    intro i hi
    rw [List.mem_range] at hi
    simp [List.getD, show i < j by omega]
theorem wheres_snoc (t : List Bool) (i : Nat) (h : i < t.length) : wheres (t.take (i + 1)) = wheres (t.take i) ++ (if t.getD i false = true then [i] else []) := by
  unfold wheres
  rw [List.length_take, List.length_take, Nat.min_eq_left (by omega), Nat.min_eq_left (by omega), List.range_succ, List.filter_append]
  congr 1
  · apply List.filter_congr
    intro j hj
    rw [List.mem_range] at hj
    simp [List.getD, hj, show j < i + 1 by omega]
  · cases hb : t.getD i false <;> simp [List.getD] at hb ⊢ <;> simp [hb]
theorem wheres_lt {t : List Bool} {i : Nat} (h : i < (wheres t).length) : (wheres t)[i] < t.length := (wheres_mem.1 (List.getElem_mem h)).1
theorem wheres_le (t : List Bool) : (wheres t).length ≤ t.length := by
  have := List.length_filter_le (fun i => t.getD i false) (List.range t.length)
  simpa [wheres] using this
end Go.Proofs.Ytnaklmjndiodfaa
