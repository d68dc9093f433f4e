/- The plain law of bits: rows of truths, packed into bytes. -/
import Derived.Test.YtnaklmjndiodfaaTy
import Derived.Test.YtnaklmjndiodfaaAbsRep
namespace Go.Proofs.Ytnaklmjndiodfaa
open Go.Abs

/-- How many places there are. -/
def plc (N : Int) (m : Nat) : Int := max 0 (min N (m * 8))
def bitAt (l : List UInt8) (i : Nat) : Bool := (l.getD (i / 8) 0).toNat.testBit (i % 8)
/-- The truths of bits. -/
def truths (N : Int) (l : List UInt8) : List Bool := (List.range (plc N l.length).toNat).map (bitAt l)
def byteN (f : Nat → Bool) : Nat → Nat
  | 0 => 0
  | k + 1 => byteN f k ||| (if f k then 2 ^ k else 0)
theorem byteN_lt (f : Nat → Bool) : ∀ k, byteN f k < 2 ^ k
  | 0 => by simp [byteN]
  | k + 1 => by
    have h := byteN_lt f k
    have h2 : (2 : Nat) ^ k < 2 ^ (k + 1) := Nat.pow_lt_pow_right (by decide) (by omega)
    simp only [byteN]
    refine Nat.or_lt_two_pow (by omega) ?_
    split <;> omega
theorem byteN_bit (f : Nat → Bool) (j : Nat) : ∀ k, (byteN f k).testBit j = (decide (j < k) && f j)
  | 0 => by simp [byteN]
  | k + 1 => by
    simp only [byteN, Nat.testBit_or, byteN_bit f j k]
    by_cases hj : j = k
    · subst hj; cases hf : f j <;> simp
    · have e : decide (j < k + 1) = decide (j < k) := by congr 1; exact propext (by omega)
      rw [e]
      cases f k <;> simp [Nat.testBit_two_pow, Ne.symm hj]
def packB (t : List Bool) : List UInt8 := (List.range ((t.length + 7) / 8)).map fun j => UInt8.ofNat (byteN (fun k => t.getD (8 * j + k) false) 8)
theorem packB_length (t : List Bool) : (packB t).length = (t.length + 7) / 8 := by simp [packB]
theorem bitAt_packB (t : List Bool) (i : Nat) : bitAt (packB t) i = t.getD i false := by
  unfold bitAt
  by_cases h : i / 8 < (t.length + 7) / 8
  · have e : (packB t).getD (i / 8) 0 = UInt8.ofNat (byteN (fun k => t.getD (8 * (i / 8) + k) false) 8) := by simp [packB, List.getD, h]
    rw [e, UInt8.toNat_ofNat']
    rw [Nat.mod_eq_of_lt (byteN_lt _ 8), byteN_bit]
    have h8 : i % 8 < 8 := Nat.mod_lt _ (by decide)
    simp only [h8, decide_true, Bool.true_and]
    congr 1; omega
  · have e : (packB t).getD (i / 8) 0 = 0 := by simp [packB, List.getD, h]
    rw [e, List.getD, List.getElem?_eq_none (by omega)]
    simp
theorem bitAt_out (l : List UInt8) (i : Nat) (h : 8 * l.length ≤ i) : bitAt l i = false := by
  unfold bitAt
  rw [List.getD, List.getElem?_eq_none (by omega)]; simp
theorem u8_ext {a b : UInt8} (h : ∀ k, k < 8 → a.toNat.testBit k = b.toNat.testBit k) : a = b := by
  apply UInt8.toNat_inj.1
  apply Nat.eq_of_testBit_eq
  intro i
  by_cases hi : i < 8
  · exact h i hi
  · have ha := a.toNat_lt; have hb := b.toNat_lt
    have h2 : (2 : Nat) ^ 8 ≤ 2 ^ i := Nat.pow_le_pow_right (by decide) (by omega)
    rw [Nat.testBit_lt_two_pow (by omega), Nat.testBit_lt_two_pow (by omega)]
/-- Bytes are the packed truths if they are as many and have these bits. -/
theorem pack_eq {l : List UInt8} {t : List Bool} (hl : l.length = (t.length + 7) / 8) (h : ∀ i, i < 8 * l.length → bitAt l i = t.getD i false) : l = packB t := by
  apply List.ext_getElem
  · rw [hl, packB_length]
  · intro j h1 h2
    apply u8_ext
    intro k hk
    have e := h (8 * j + k) (by omega)
    rw [← bitAt_packB] at e
    unfold bitAt at e
    rw [show (8 * j + k) / 8 = j by omega, show (8 * j + k) % 8 = k by omega] at e
    simpa [List.getD, h1, h2] using e
theorem pack_inj {t u : List Bool} (hl : t.length = u.length) (h : packB t = packB u) : t = u := by
  apply List.ext_getElem hl
  intro i h1 h2
  have e : bitAt (packB t) i = bitAt (packB u) i := by rw [h]
  rw [bitAt_packB, bitAt_packB] at e
  simpa [List.getD, h1, h2] using e
theorem truths_length (N : Int) (l : List UInt8) : (truths N l).length = (plc N l.length).toNat := by simp [truths]
theorem plc_le (N : Int) (m : Nat) : 0 ≤ plc N m ∧ plc N m ≤ m * 8 := by unfold plc; omega
theorem truths_getD (N : Int) (l : List UInt8) (i : Nat) : (truths N l).getD i false = (decide ((i : Int) < plc N l.length) && bitAt l i) := by
  by_cases h : i < (plc N l.length).toNat
  · have h' : (i : Int) < plc N l.length := by omega
    simp [truths, List.getD, h, h']
  · have h' : ¬ (i : Int) < plc N l.length := by have := (plc_le N l.length).1; omega
    simp [truths, List.getD, h, h']
/-- The truths of packed truths. -/
theorem truths_pack (t : List Bool) : truths t.length (packB t) = t := by
  have e : (plc t.length (packB t).length).toNat = t.length := by rw [packB_length]; unfold plc; omega
  apply List.ext_getElem
  · rw [truths_length, e]
  · intro i h1 h2
    simp [truths, bitAt_packB, List.getD, h2]
theorem bitAt_take (l : List UInt8) (k i : Nat) (h : i < 8 * k) : bitAt (l.take k) i = bitAt l i := by
  unfold bitAt
  congr 2
  simp only [List.getD, List.getElem?_take]
  rw [if_pos (by omega)]
/-- Whole bits where the last byte is full, and where it is not. -/
theorem whole_full (N : Int) (l : List UInt8) (hr : ¬ 0 < plc N l.length % 8) : packB (truths N l) = l.take ((plc N l.length + 7) / 8).toNat := by
  have hp := plc_le N l.length
  symm
  apply pack_eq
  · rw [truths_length, List.length_take]; omega
  · intro i hi
    rw [List.length_take] at hi
    rw [bitAt_take _ _ _ (by omega), truths_getD]
    have : (i : Int) < plc N l.length := by omega
    simp [this]
theorem mask_bit {r k : Nat} (h0 : 0 < r) (h8 : r < 8) : ((((((1 : Int).toNat <<< r) % 256 : Nat) : Int) - 1) % 256).toNat.testBit k = decide (k < r) := by
  have e : ((((((1 : Int).toNat <<< r) % 256 : Nat) : Int) - 1) % 256).toNat = 2 ^ r - 1 := by
    have : r = 1 ∨ r = 2 ∨ r = 3 ∨ r = 4 ∨ r = 5 ∨ r = 6 ∨ r = 7 := by omega
    rcases this with rfl | rfl | rfl | rfl | rfl | rfl | rfl <;> rfl
  rw [e, Nat.testBit_two_pow_sub_one]
theorem whole_rest (N : Int) (l : List UInt8) (hr : 0 < plc N l.length % 8) (v : Nat) (hv : v = ((l.take ((plc N l.length + 7) / 8).toNat).getD (plc N l.length / 8).toNat 0).toNat &&& (((((1 : Int).toNat <<< (plc N l.length % 8).toNat) % 256 : Nat) - 1 : Int) % 256).toNat) :
    packB (truths N l) = (l.take ((plc N l.length + 7) / 8).toNat).set (plc N l.length / 8).toNat (UInt8.ofNat v) := by
  have hp := plc_le N l.length
  have hv2 : v < 256 := by rw [hv]; exact Nat.lt_of_le_of_lt Nat.and_le_left (UInt8.toNat_lt _)
  symm
  apply pack_eq
  · rw [truths_length, List.length_set, List.length_take]; omega
  · intro i hi
    rw [List.length_set, List.length_take] at hi
    rw [truths_getD]
    have hK : i / 8 < (l.take ((plc N l.length + 7) / 8).toNat).length := by rw [List.length_take]; omega
    by_cases hj : i / 8 = (plc N l.length / 8).toNat
    · unfold bitAt
      rw [show ((l.take ((plc N l.length + 7) / 8).toNat).set (plc N l.length / 8).toNat (UInt8.ofNat v)).getD (i / 8) 0 = UInt8.ofNat v by
        rw [← hj]; simp only [List.getD, List.getElem?_set_self hK]; rfl]
      rw [UInt8.toNat_ofNat', Nat.mod_eq_of_lt (by omega), hv, Nat.testBit_and, mask_bit (by omega) (by omega), ← hj]
      rw [show (l.take ((plc N l.length + 7) / 8).toNat).getD (i / 8) 0 = l.getD (i / 8) 0 by
        simp only [List.getD, List.getElem?_take]; rw [if_pos (by omega)]]
      rw [Bool.and_comm]
      congr 1
      exact decide_eq_decide.2 (by omega)
    · have : (i : Int) < plc N l.length := by omega
      simp only [this, decide_true, Bool.true_and]
      rw [← bitAt_take l ((plc N l.length + 7) / 8).toNat i (by omega)]
      unfold bitAt
      congr 2
      simp only [List.getD]
      rw [List.getElem?_set_ne (Ne.symm hj)]
/-- The first i truths, and none behind. -/
def curT (t : List Bool) (i : Nat) : List Bool := t.take i ++ List.replicate (t.length - i) false
theorem curT_length (t : List Bool) (i : Nat) (h : i ≤ t.length) : (curT t i).length = t.length := by simp [curT]; omega
theorem curT_all (t : List Bool) : curT t t.length = t := by simp [curT]
theorem curT_none (t : List Bool) : curT t 0 = List.replicate t.length false := by simp [curT]
theorem curT_getD (t : List Bool) (i j : Nat) : (curT t i).getD j false = (decide (j < i) && t.getD j false) := by
  unfold curT
  by_cases h : j < i
  · by_cases h2 : j < t.length
    · simp only [List.getD]
      rw [List.getElem?_append_left (by rw [List.length_take]; omega), List.getElem?_take, if_pos h]
      simp [h]
    · simp only [List.getD]
      rw [List.getElem?_append_right (by rw [List.length_take]; omega), List.getElem?_replicate, List.getElem?_eq_none (l := t) (by omega)]
      split <;> simp
  · simp only [List.getD]
    by_cases h3 : j < t.length
    · rw [List.getElem?_append_right (by rw [List.length_take]; omega), List.getElem?_replicate]
      split <;> simp [h]
    · rw [List.getElem?_append_right (by rw [List.length_take]; omega), List.getElem?_replicate]
      split <;> simp [h]
theorem getD_ext {t u : List Bool} (hl : t.length = u.length) (h : ∀ j, t.getD j false = u.getD j false) : t = u := by
  apply List.ext_getElem hl
  intro j h1 h2
  have := h j
  simpa [List.getD, h1, h2] using this
theorem getD_set (t : List Bool) (i j : Nat) (b : Bool) (hi : i < t.length) : (t.set i b).getD j false = if j = i then b else t.getD j false := by
  simp only [List.getD]
  by_cases h : j = i
  · subst h; simp [hi]
  · rw [List.getElem?_set_ne (Ne.symm h), if_neg h]
theorem curT_true {t : List Bool} {i : Nat} (hi : i < t.length) (ht : t.getD i false = true) : curT t (i + 1) = (curT t i).set i true := by
  apply getD_ext
  · rw [List.length_set, curT_length _ _ (by omega), curT_length _ _ (by omega)]
  · intro j
    rw [getD_set _ _ _ _ (by rw [curT_length _ _ (by omega)]; exact hi), curT_getD, curT_getD]
    by_cases h : j = i
    · subst h; rw [if_pos rfl, ht]; simp
    · rw [if_neg h]; congr 1; exact decide_eq_decide.2 (by omega)
theorem curT_false {t : List Bool} {i : Nat} (hi : i < t.length) (ht : t.getD i false = false) : curT t (i + 1) = curT t i := by
  apply getD_ext
  · rw [curT_length _ _ (by omega), curT_length _ _ (by omega)]
  · intro j
    rw [curT_getD, curT_getD]
    by_cases h : j = i
    · subst h; rw [ht]; simp
    · congr 1; exact decide_eq_decide.2 (by omega)
theorem one_shl_bit {r k : Nat} (h8 : r < 8) : ((1 <<< r) % 256).testBit k = decide (r = k) := by
  have e : (1 <<< r) % 256 = 2 ^ r := by
    rw [Nat.one_shiftLeft]
    exact Nat.mod_eq_of_lt (Nat.pow_lt_pow_right (a := 2) (by decide) h8)
  rw [e, Nat.testBit_two_pow]
/-- A bit is set, in its byte. -/
theorem pack_set {u : List Bool} {i : Nat} (hi : i < u.length) {b : Bool} {V : Nat} (hv : V < 256)
    (h : ∀ k, k < 8 → V.testBit k = if k = i % 8 then b else ((packB u).getD (i / 8) 0).toNat.testBit k) : packB (u.set i b) = (packB u).set (i / 8) (UInt8.ofNat V) := by
  symm
  apply pack_eq
  · rw [List.length_set, packB_length, List.length_set]
  · intro j hj
    rw [List.length_set, packB_length] at hj
    rw [getD_set _ _ _ _ hi]
    have hin : i / 8 < (packB u).length := by rw [packB_length]; omega
    by_cases hj8 : j / 8 = i / 8
    · unfold bitAt
      rw [hj8]
      rw [show ((packB u).set (i / 8) (UInt8.ofNat V)).getD (i / 8) 0 = UInt8.ofNat V by simp only [List.getD, List.getElem?_set_self hin]; rfl]
      rw [UInt8.toNat_ofNat', Nat.mod_eq_of_lt (by omega), h _ (Nat.mod_lt _ (by decide))]
      by_cases e : j = i
      · subst e; simp
      · rw [if_neg e, if_neg (by omega), ← hj8]
        have := bitAt_packB u j
        unfold bitAt at this
        rw [this]
    · have e : j ≠ i := fun e => hj8 (by rw [e])
      rw [if_neg e, ← bitAt_packB u j]
      unfold bitAt
      congr 2
      simp only [List.getD]
      rw [List.getElem?_set_ne (Ne.symm hj8)]
theorem pack_or {u : List Bool} {i : Nat} (hi : i < u.length) {V : Nat} (h : V = ((packB u).getD (i / 8) 0).toNat ||| (1 <<< (i % 8)) % 256) : packB (u.set i true) = (packB u).set (i / 8) (UInt8.ofNat V) ∧ V < 256 := by
  have hv : V < 256 := by rw [h]; exact Nat.or_lt_two_pow (n := 8) (UInt8.toNat_lt _) (by omega)
  refine ⟨pack_set hi hv fun k hk => ?_, hv⟩
  rw [h, Nat.testBit_or, one_shl_bit (Nat.mod_lt _ (by decide))]
  by_cases e : k = i % 8
  · subst e; simp
  · rw [if_neg e]; simp [Ne.symm e]
theorem pack_andNot {u : List Bool} {i : Nat} (hi : i < u.length) {V : Nat} (h : V = ((packB u).getD (i / 8) 0).toNat &&& (255 - (1 <<< (i % 8)) % 256)) : packB (u.set i false) = (packB u).set (i / 8) (UInt8.ofNat V) ∧ V < 256 := by
  have hv : V < 256 := by rw [h]; exact Nat.lt_of_le_of_lt Nat.and_le_left (UInt8.toNat_lt _)
  refine ⟨pack_set hi hv fun k hk => ?_, hv⟩
  have h8 : i % 8 < 8 := Nat.mod_lt _ (by decide)
  have hm : (255 - (1 <<< (i % 8)) % 256).testBit k = !decide (i % 8 = k) := by
    have hc : i % 8 = 0 ∨ i % 8 = 1 ∨ i % 8 = 2 ∨ i % 8 = 3 ∨ i % 8 = 4 ∨ i % 8 = 5 ∨ i % 8 = 6 ∨ i % 8 = 7 := by omega
    have hd : k = 0 ∨ k = 1 ∨ k = 2 ∨ k = 3 ∨ k = 4 ∨ k = 5 ∨ k = 6 ∨ k = 7 := by omega
    rcases hc with e | e | e | e | e | e | e | e <;> rw [e] <;> rcases hd with rfl | rfl | rfl | rfl | rfl | rfl | rfl | rfl <;> rfl
  rw [h, Nat.testBit_and, hm]
  by_cases e : k = i % 8
  · subst e; simp
  · rw [if_neg e]; simp [Ne.symm e]
end Go.Proofs.Ytnaklmjndiodfaa
