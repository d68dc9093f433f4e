/- Contracts taken from bits (written by lift.py). -/
import Derived.Test.YtaagbfpbbhaclaaTy
import Derived.Test.YtaagbfpbbhaclaaAbsRR
set_option linter.unusedSimpArgs false
set_option linter.unusedVariables false
namespace Go.Proofs.Ytaagbfpbbhaclaa.Bt
open Go.Abs
/-- How many places there are. -/
def plc (N : Int) (m : Nat) : Int := max 0 (min N (m * 8))
def bitAt (l : List UInt8) (i : Nat) : Bool := (l.getD (i / 8) 0).toNat.testBit (i % 8)
/-- The truths of bits. -/
def truths (N : Int) (l : List UInt8) : List Bool := (List.range (plc N l.length).toNat).map (bitAt l)
def byteN (f : Nat → Bool) : Nat → Nat
  | 0 => 0
  | k + 1 => byteN f k ||| (if f k then 2 ^ k else 0)
theorem byteN_lt (f : Nat → Bool) : ∀ k, byteN f k < 2 ^ k
  | 0 => by simp [byteN]
  | k + 1 => by
    have h := byteN_lt f k
    have h2 : (2 : Nat) ^ k < 2 ^ (k + 1) := Nat.pow_lt_pow_right (by decide) (by omega)
    simp only [byteN]
    refine Nat.or_lt_two_pow (by omega) ?_
    split <;> omega
theorem byteN_bit (f : Nat → Bool) (j : Nat) : ∀ k, (byteN f k).testBit j = (decide (j < k) && f j)
  | 0 => by simp [byteN]
  | k + 1 => by
    simp only [byteN, Nat.testBit_or, byteN_bit f j k]
    by_cases hj : j = k
    · subst hj; cases hf : f j <;> simp
    · have e : decide (j < k + 1) = decide (j < k) := by congr 1; exact propext (by omega)
      rw [e]
      cases f k <;> simp [Nat.testBit_two_pow, Ne.symm hj]
def packB (t : List Bool) : List UInt8 := (List.range ((t.length + 7) / 8)).map fun j => UInt8.ofNat (byteN (fun k => t.getD (8 * j + k) false) 8)
theorem packB_length (t : List Bool) : (packB t).length = (t.length + 7) / 8 := by simp [packB]
theorem bitAt_packB (t : List Bool) (i : Nat) : bitAt (packB t) i = t.getD i false := by
  unfold bitAt
  by_cases h : i / 8 < (t.length + 7) / 8
  · have e : (packB t).getD (i / 8) 0 = UInt8.ofNat (byteN (fun k => t.getD (8 * (i / 8) + k) false) 8) := by simp [packB, List.getD, h]
    rw [e, UInt8.toNat_ofNat']
    rw [Nat.mod_eq_of_lt (byteN_lt _ 8), byteN_bit]
    have h8 : i % 8 < 8 := Nat.mod_lt _ (by decide)
    simp only [h8, decide_true, Bool.true_and]
    congr 1; omega
  · have e : (packB t).getD (i / 8) 0 = 0 := by simp [packB, List.getD, h]
    rw [e, List.getD, List.getElem?_eq_none (by omega)]
    simp
theorem u8_ext {a b : UInt8} (h : ∀ k, k < 8 → a.toNat.testBit k = b.toNat.testBit k) : a = b := by
  apply UInt8.toNat_inj.1
  apply Nat.eq_of_testBit_eq
  intro i
  by_cases hi : i < 8
  · exact h i hi
  · have ha := a.toNat_lt; have hb := b.toNat_lt
    have h2 : (2 : Nat) ^ 8 ≤ 2 ^ i := Nat.pow_le_pow_right (by decide) (by omega)
    rw [Nat.testBit_lt_two_pow (by omega), Nat.testBit_lt_two_pow (by omega)]
/-- Bytes are the packed truths if they are as many and have these bits. -/
theorem pack_eq {l : List UInt8} {t : List Bool} (hl : l.length = (t.length + 7) / 8) (h : ∀ i, i < 8 * l.length → bitAt l i = t.getD i false) : l = packB t := by
  apply List.ext_getElem
  · rw [hl, packB_length]
  · intro j h1 h2
    apply u8_ext
    intro k hk
    have e := h (8 * j + k) (by omega)
    rw [← bitAt_packB] at e
    unfold bitAt at e
    rw [show (8 * j + k) / 8 = j by omega, show (8 * j + k) % 8 = k by omega] at e
    simpa [List.getD, h1, h2] using e
theorem truths_length (N : Int) (l : List UInt8) : (truths N l).length = (plc N l.length).toNat := by simp [truths]
theorem plc_le (N : Int) (m : Nat) : 0 ≤ plc N m ∧ plc N m ≤ m * 8 := by unfold plc; omega
theorem truths_getD (N : Int) (l : List UInt8) (i : Nat) : (truths N l).getD i false = (decide ((i : Int) < plc N l.length) && bitAt l i) := by
  by_cases h : i < (plc N l.length).toNat
  · have h' : (i : Int) < plc N l.length := by omega
    simp [truths, List.getD, h, h']
  · have h' : ¬ (i : Int) < plc N l.length := by have := (plc_le N l.length).1; omega
    simp [truths, List.getD, h, h']
/-- The truths of packed truths. -/
theorem truths_pack (t : List Bool) : truths t.length (packB t) = t := by
  have e : (plc t.length (packB t).length).toNat = t.length := by rw [packB_length]; unfold plc; omega
  apply List.ext_getElem
  · rw [truths_length, e]
  · intro i h1 h2
    simp [truths, bitAt_packB, List.getD, h2]
theorem bitAt_take (l : List UInt8) (k i : Nat) (h : i < 8 * k) : bitAt (l.take k) i = bitAt l i := by
  unfold bitAt
  congr 2
  simp only [List.getD, List.getElem?_take]
  rw [if_pos (by omega)]
/-- Whole bits where the last byte is full, and where it is not. -/
theorem whole_full (N : Int) (l : List UInt8) (hr : ¬ 0 < plc N l.length % 8) : packB (truths N l) = l.take ((plc N l.length + 7) / 8).toNat := by
  have hp := plc_le N l.length
  symm
  apply pack_eq
  · rw [truths_length, List.length_take]; omega
  · intro i hi
    rw [List.length_take] at hi
    rw [bitAt_take _ _ _ (by omega), truths_getD]
    have : (i : Int) < plc N l.length := by omega
    simp [this]
theorem mask_bit {r k : Nat} (h0 : 0 < r) (h8 : r < 8) : ((((((1 : Int).toNat <<< r) % 256 : Nat) : Int) - 1) % 256).toNat.testBit k = decide (k < r) := by
  have e : ((((((1 : Int).toNat <<< r) % 256 : Nat) : Int) - 1) % 256).toNat = 2 ^ r - 1 := by
    have : r = 1 ∨ r = 2 ∨ r = 3 ∨ r = 4 ∨ r = 5 ∨ r = 6 ∨ r = 7 := by omega
    rcases this with rfl | rfl | rfl | rfl | rfl | rfl | rfl <;> rfl
  rw [e, Nat.testBit_two_pow_sub_one]
theorem whole_rest (N : Int) (l : List UInt8) (hr : 0 < plc N l.length % 8) (v : Nat) (hv : v = ((l.take ((plc N l.length + 7) / 8).toNat).getD (plc N l.length / 8).toNat 0).toNat &&& (((((1 : Int).toNat <<< (plc N l.length % 8).toNat) % 256 : Nat) - 1 : Int) % 256).toNat) :
    packB (truths N l) = (l.take ((plc N l.length + 7) / 8).toNat).set (plc N l.length / 8).toNat (UInt8.ofNat v) := by
  have hp := plc_le N l.length
  have hv2 : v < 256 := by rw [hv]; exact Nat.lt_of_le_of_lt Nat.and_le_left (UInt8.toNat_lt _)
  symm
  apply pack_eq
  · rw [truths_length, List.length_set, List.length_take]; omega
  · intro i hi
    rw [List.length_set, List.length_take] at hi
    rw [truths_getD]
    have hK : i / 8 < (l.take ((plc N l.length + 7) / 8).toNat).length := by rw [List.length_take]; omega
    by_cases hj : i / 8 = (plc N l.length / 8).toNat
    · unfold bitAt
      rw [show ((l.take ((plc N l.length + 7) / 8).toNat).set (plc N l.length / 8).toNat (UInt8.ofNat v)).getD (i / 8) 0 = UInt8.ofNat v by
        rw [← hj]; simp only [List.getD, List.getElem?_set_self hK]; rfl]
      rw [UInt8.toNat_ofNat', Nat.mod_eq_of_lt (by omega), hv, Nat.testBit_and, mask_bit (by omega) (by omega), ← hj]
      rw [show (l.take ((plc N l.length + 7) / 8).toNat).getD (i / 8) 0 = l.getD (i / 8) 0 by
        simp only [List.getD, List.getElem?_take]; rw [if_pos (by omega)]]
      rw [Bool.and_comm]
      congr 1
      exact decide_eq_decide.2 (by omega)
    · have : (i : Int) < plc N l.length := by omega
      simp only [this, decide_true, Bool.true_and]
      rw [← bitAt_take l ((plc N l.length + 7) / 8).toNat i (by omega)]
      unfold bitAt
      congr 2
      simp only [List.getD]
      rw [List.getElem?_set_ne (Ne.symm hj)]
theorem getD_set (t : List Bool) (i j : Nat) (b : Bool) (hi : i < t.length) : (t.set i b).getD j false = if j = i then b else t.getD j false := by
  simp only [List.getD]
  by_cases h : j = i
  · subst h; simp [hi]
  · rw [List.getElem?_set_ne (Ne.symm h), if_neg h]
theorem one_shl_bit {r k : Nat} (h8 : r < 8) : ((1 <<< r) % 256).testBit k = decide (r = k) := by
  have e : (1 <<< r) % 256 = 2 ^ r := by
    rw [Nat.one_shiftLeft]
    exact Nat.mod_eq_of_lt (Nat.pow_lt_pow_right (a := 2) (by decide) h8)
  rw [e, Nat.testBit_two_pow]
/-- A bit is set, in its byte. -/
theorem pack_set {u : List Bool} {i : Nat} (hi : i < u.length) {b : Bool} {V : Nat} (hv : V < 256)
    (h : ∀ k, k < 8 → V.testBit k = if k = i % 8 then b else ((packB u).getD (i / 8) 0).toNat.testBit k) : packB (u.set i b) = (packB u).set (i / 8) (UInt8.ofNat V) := by
  symm
  apply pack_eq
  · rw [List.length_set, packB_length, List.length_set]
  · intro j hj
    rw [List.length_set, packB_length] at hj
    rw [getD_set _ _ _ _ hi]
    have hin : i / 8 < (packB u).length := by rw [packB_length]; omega
    by_cases hj8 : j / 8 = i / 8
    · unfold bitAt
      rw [hj8]
      rw [show ((packB u).set (i / 8) (UInt8.ofNat V)).getD (i / 8) 0 = UInt8.ofNat V by simp only [List.getD, List.getElem?_set_self hin]; rfl]
      rw [UInt8.toNat_ofNat', Nat.mod_eq_of_lt (by omega), h _ (Nat.mod_lt _ (by decide))]
      by_cases e : j = i
      · subst e; simp
      · rw [if_neg e, if_neg (by omega), ← hj8]
        have := bitAt_packB u j
        unfold bitAt at this
        rw [this]
    · have e : j ≠ i := fun e => hj8 (by rw [e])
      rw [if_neg e, ← bitAt_packB u j]
      unfold bitAt
      congr 2
      simp only [List.getD]
      rw [List.getElem?_set_ne (Ne.symm hj8)]
theorem pack_or {u : List Bool} {i : Nat} (hi : i < u.length) {V : Nat} (h : V = ((packB u).getD (i / 8) 0).toNat ||| (1 <<< (i % 8)) % 256) : packB (u.set i true) = (packB u).set (i / 8) (UInt8.ofNat V) ∧ V < 256 := by
  have hv : V < 256 := by rw [h]; exact Nat.or_lt_two_pow (n := 8) (UInt8.toNat_lt _) (by omega)
  refine ⟨pack_set hi hv fun k hk => ?_, hv⟩
  rw [h, Nat.testBit_or, one_shl_bit (Nat.mod_lt _ (by decide))]
  by_cases e : k = i % 8
  · subst e; simp
  · rw [if_neg e]; simp [Ne.symm e]
set_option maxHeartbeats 4000000 in
theorem places_ev (N : Int) (a : Option Addr) (m n : Nat) (h : AH) (hm : m ≤ 140737488355328) : Ev Try.prog none' 54 #[.agg #[.int .i64 N, .slice a m m]] n h (.int .i64 (plc N m)) n h := by
  refine RF.pure rfl fun n _ => ?_
  refine RF.of Try.func54 rfl rfl (Nat.le_of_ble_eq_true rfl) ?_; dsimp only [argEnv]
  repeat' (first | refine stpS ?_ | (refine stp2 ?_ ?_ <;> intro _))
  rfl
set_option maxHeartbeats 4000000 in
theorem refPlaces_ev (N : Int) (a : Option Addr) (m n : Nat) (h : AH) (hm : m ≤ 140737488355328) : Ev Try.prog none' 43 #[.agg #[.int .i64 N, .slice a m m]] n h (.int .i64 (plc N m)) n h := by
  refine RF.pure rfl fun n _ => ?_
  refine RF.of Try.func43 rfl rfl (Nat.le_of_ble_eq_true rfl) ?_; dsimp only [argEnv]
  repeat' (first | refine stpS ?_ | (refine stp2 ?_ ?_ <;> intro _))
  rw [Int.mul_comm]; rfl
set_option maxHeartbeats 4000000 in
theorem clone_rf (l : List UInt8) (a : Option Addr) (m n : Nat) (h : AH) (S : SlB h n a l) (e : m = l.length) (hm : m ≤ 1099511627776) :
    RF Try.prog none' 68 #[.slice a m m] n h (fun r n' h' => ∃ a', r = .slice a' m m ∧ Ext n h h' ∧ OwnSl h' n n' a' 1 m (bytesV l)) := by
  subst e
  refine RF.of Try.func68 rfl rfl (Nat.le_of_ble_eq_true rfl) ?_; dsimp only [argEnv]
  rcases S.two with ⟨ha, hl⟩ | ⟨b, o, ha⟩
  · have : l = [] := List.eq_nil_of_length_eq_zero hl
    subst this; subst ha
    repeat' (first | refine stpS ?_ | (refine stp2 ?_ ?_ <;> intro _))
    exact ⟨none, rfl, ext, OwnSl.nil (by omega)⟩
  · subst ha
    repeat' (first | refine stpS ?_ | (refine stp2 ?_ ?_ <;> intro _))
    refine RS.append rfl opd opd (OwnSl.new (z := 1) (m := 0) (cs := []) (Nat.le_refl n) rfl rfl) (SlB.src (S.ext ext (Nat.le_refl _))) full_slice (fun b hb => Or.inr (by omega)) (by omega) ?_
    intro a' n1 h1 hle hO hX hnew
    have hE := hX.ext (OwnSl.new (z := 1) (m := 0) (cs := []) (Nat.le_refl n) rfl rfl)
    simp only [Nat.zero_add, List.nil_append] at hO ⊢
    repeat' (first | refine stpS ?_ | (refine stp2 ?_ ?_ <;> intro _))
    exact ⟨a', rfl, ext, hO⟩
theorem known_replicate (v : Value) (k : Nat) (h : known [v] = true) : known (List.replicate k v) = true := by
  induction k with
  | zero => rfl
  | succ k ih => rw [List.replicate_succ]; cases v <;> simp_all [known]
/-- The answer is bits of the truths t, in memory of their own. -/
def BitsRes (n : Nat) (h : AH) (t : List Bool) (r : Value) (n' : Nat) (h' : AH) : Prop :=
  ∃ a', r = .agg #[.int .i64 t.length, .slice a' (packB t).length (packB t).length] ∧ Ext n h h' ∧ OwnSl h' n n' a' 1 (packB t).length (bytesV (packB t))
theorem packB_replicate (k : Nat) : packB (List.replicate k false) = List.replicate ((k + 7) / 8) 0 := by
  symm
  apply pack_eq
  · simp
  · intro i hi
    simp only [List.length_replicate] at hi
    unfold bitAt
    have : (List.replicate ((k + 7) / 8) (0 : UInt8)).getD (i / 8) 0 = 0 := by simp [List.getD, List.getElem?_replicate]; split <;> rfl
    rw [this]
    have : (List.replicate k false).getD i false = false := by simp [List.getD, List.getElem?_replicate]; split <;> rfl
    rw [this]; simp
set_option maxHeartbeats 4000000 in
theorem new_rf (c : Int) (n : Nat) (h : AH) (hc : -9223372036854775808 ≤ c) (hc2 : c ≤ 9223372036854775807) :
    RF Try.prog none' 67 #[.int .i64 c] n h (BitsRes n h (List.replicate (min (max c 0) 1048576).toNat false)) := by
  refine RF.of Try.func67 rfl rfl (Nat.le_of_ble_eq_true rfl) ?_; dsimp only [argEnv]
  repeat' (first | refine stpS ?_ | (refine stp2 ?_ ?_ <;> intro _))
  refine ⟨some ⟨n + 1, 0, none⟩, ?_, ext, ?_⟩
  · rw [packB_replicate]
    simp only [List.length_replicate]
    have e1 : ((min (max c 0) 1048576).toNat : Int) = min (max c 0) 1048576 := by omega
    have e2 : ((min (max c 0) 1048576 + 7) / 8).toNat = ((min (max c 0) 1048576).toNat + 7) / 8 := by omega
    rw [e1, e2]
  · rw [packB_replicate]
    have e2 : ((min (max c 0) 1048576 + 7) / 8).toNat = ((min (max c 0) 1048576).toNat + 7) / 8 := by omega
    rw [e2]
    simp only [List.length_replicate, bytesV, List.map_replicate]
    refine ((OwnSl.new1 (n0 := n + 1) (Nat.le_refl _) (by simp) ?_).sets (by omega)).mono (by omega)
    exact known_replicate _ _ rfl
set_option maxHeartbeats 4000000 in
theorem whole_rf (N : Int) (l : List UInt8) (a : Option Addr) (m n : Nat) (h : AH) (S : SlB h n a l) (e : m = l.length) (hm : m ≤ 1099511627776) :
    RF Try.prog none' 57 #[.agg #[.int .i64 N, .slice a m m]] n h (BitsRes n h (truths N l)) := by
  refine RF.of Try.func57 rfl rfl (Nat.le_of_ble_eq_true rfl) ?_; dsimp only [argEnv]
  subst e
  have hp := plc_le N l.length
  repeat' (first | refine stpS ?_ | (refine stp2 ?_ ?_ <;> intro _))
  refine RS.call1 rfl opds (places_ev N a l.length _ _ (by omega)) none'W ?_
  repeat' (first | refine stpS ?_ | (refine stp2 ?_ ?_ <;> intro _))
  refine RS.call rfl opds (new_rf 0 _ _ (by decide) (by decide)) none'W ?_
  rintro r n1 h1 hle ⟨a1, rfl, hE1, hO1⟩
  simp only [List.length_replicate] at hO1 ⊢
  repeat' (first | refine stpS ?_ | (refine stp2 ?_ ?_ <;> intro _))
  refine RS.call rfl opds (clone_rf _ _ _ _ _ ((S.take (u := ((plc N l.length + 7) / 8).toNat) (by omega)).ext (n' := n1 + 1) ext (by omega)) (by simp; omega) (by omega)) none'W ?_
  rintro r n2 h2 hle2 ⟨a2, rfl, hE2, hO2⟩
  have hS2 := hO2.slbE
  have hlen : (l.take ((plc N l.length + 7) / 8).toNat).length = ((plc N l.length + 7) / 8).toNat := by simp; omega
  have hb : ((l.take ((plc N l.length + 7) / 8).toNat).getD (plc N l.length / 8).toNat 0).toNat < 256 := UInt8.toNat_lt _
  have e1 : ((plc N l.length).toNat : Int) = plc N l.length := by omega
  have e2 : ((plc N l.length).toNat + 7) / 8 = ((plc N l.length + 7) / 8).toNat := by omega
  by_cases hr : 0 < plc N l.length % 8
  · obtain ⟨ho, hlo, hhi, hI, hA, hC⟩ := hO2.facts (by omega)
    repeat' (first | refine stp ?_ | (refine stp2 ?_ ?_ <;> intro _))
    refine ⟨a2, ?_, ext, ?_⟩
    · rw [packB_length, truths_length, e1, e2]
    · rw [packB_length, truths_length, e2]
      generalize hV : (((l.take ((plc N l.length + 7) / 8).toNat).getD (plc N l.length / 8).toNat 0).toNat : Int).toNat &&& (((((1 : Int).toNat <<< (plc N l.length % 8).toNat) % 256 : Nat) - 1 : Int) % 256).toNat = V
      have hv : V < 256 := by rw [← hV]; exact Nat.lt_of_le_of_lt Nat.and_le_left (by omega)
      rw [whole_rest N l hr V hV.symm]
      have h3 := (((hO2.sets (b := n1) (o' := 0 + 0) (vs := [Value.int .i64 (plc N l.length)]) (by omega)).sets (b := n1) (o' := 0 + 1) (vs := [Value.slice a2 ((plc N l.length + 7) / 8).toNat ((plc N l.length + 7) / 8).toNat]) (by omega)).set1 (i := (plc N l.length / 8).toNat) (v := .int .u8 (V : Nat)) (by omega) rfl)
      rw [bytesV_set _ _ _ hv] at h3
      exact (h3.sets (by omega)).mono (by omega)
  · repeat' (first | refine stpS ?_ | (refine stp2 ?_ ?_ <;> intro _))
    refine ⟨a2, ?_, ext, ?_⟩
    · rw [packB_length, truths_length, e1, e2]
    · rw [packB_length, truths_length, e2, whole_full N l hr]
      exact ((hO2.sets (by omega)).sets (by omega)).sets (by omega) |>.mono (by omega)
/-- Is place i set? -/
def getB (N : Int) (l : List UInt8) (i : Int) : Bool := decide (0 ≤ i) && (decide (i < plc N l.length) && bitAt l i.toNat)
theorem getB_truths (N : Int) (l : List UInt8) (i : Nat) : getB N l i = (truths N l).getD i false := by
  rw [truths_getD]; simp [getB]
theorem bit_val (l : List UInt8) (i : Int) (h0 : 0 ≤ i) : ((((l.getD (i / 8).toNat 0).toNat : Int).toNat >>> (i % 8).toNat : Nat) : Int) % 2 = if bitAt l i.toNat then 1 else 0 := by
  unfold bitAt
  rw [show i.toNat / 8 = (i / 8).toNat by omega, show i.toNat % 8 = (i % 8).toNat by omega]
  rw [Int.toNat_natCast]
  generalize (l.getD (i / 8).toNat 0).toNat = x
  rw [Nat.testBit, Nat.one_and_eq_mod_two]
  have e : ((x >>> (i % 8).toNat : Nat) : Int) % 2 = (((x >>> (i % 8).toNat) % 2 : Nat) : Int) := by omega
  rw [e]
  have := Nat.mod_two_eq_zero_or_one (x >>> (i % 8).toNat)
  rcases this with h | h
  · rw [h]; rfl
  · rw [h]; rfl
set_option maxHeartbeats 4000000 in
theorem get_ev (N : Int) (l : List UInt8) (a : Option Addr) (m n : Nat) (h : AH) (i : Int) (S : SlB h n a l) (e : m = l.length) (hm : m ≤ 1099511627776) :
    Ev Try.prog none' 55 #[.agg #[.int .i64 N, .slice a m m], .int .i64 i] n h (.bool (getB N l i)) n h := by
  subst e
  have hp := plc_le N l.length
  refine RF.pure rfl fun n' hn => ?_
  have S := S.ext (Ext.refl n h) hn
  refine RF.of Try.func55 rfl rfl (Nat.le_of_ble_eq_true rfl) ?_; dsimp only [argEnv]
  have hb : (l.getD (i / 8).toNat 0).toNat < 256 := UInt8.toNat_lt _
  have hbv := bit_val l i
  repeat' (first | refine stpS ?_ | (refine stp2 ?_ ?_ <;> intro _) | refine RS.call1 rfl opds (places_ev _ _ _ _ _ (by omega)) none'W ?_)
  · rename_i h1 h2 h3
    rw [hbv h1] at h3
    simp only [getB, h1, h2, decide_true, Bool.true_and]
    cases hx : bitAt l i.toNat <;> simp_all
  · rename_i h1 h2 h3
    rw [hbv h1] at h3
    simp only [getB, h1, h2, decide_true, Bool.true_and]
    cases hx : bitAt l i.toNat <;> simp_all
  · rename_i h1 h2
    simp [getB, h2]
  · rename_i h1
    simp [getB, h1]
set_option maxHeartbeats 4000000 in
theorem refGet_ev (N : Int) (l : List UInt8) (a : Option Addr) (m n : Nat) (h : AH) (i : Int) (S : SlB h n a l) (e : m = l.length) (hm : m ≤ 1099511627776) :
    Ev Try.prog none' 44 #[.agg #[.int .i64 N, .slice a m m], .int .i64 i] n h (.bool (getB N l i)) n h := by
  subst e
  have hp := plc_le N l.length
  refine RF.pure rfl fun n' hn => ?_
  have S := S.ext (Ext.refl n h) hn
  refine RF.of Try.func44 rfl rfl (Nat.le_of_ble_eq_true rfl) ?_; dsimp only [argEnv]
  have hb : (l.getD (i / 8).toNat 0).toNat < 256 := UInt8.toNat_lt _
  have hbv := bit_val l i
  repeat' (first | refine stpS ?_ | (refine stp2 ?_ ?_ <;> intro _) | refine RS.call1 rfl opds (refPlaces_ev _ _ _ _ _ (by omega)) none'W ?_)
  · rename_i h1 h2 h3
    rw [hbv h1] at h3
    simp only [getB, h1, h2, decide_true, Bool.true_and]
    cases hx : bitAt l i.toNat <;> simp_all
  · rename_i h1 h2 h3
    rw [hbv h1] at h3
    simp only [getB, h1, h2, decide_true, Bool.true_and]
    cases hx : bitAt l i.toNat <;> simp_all
  · rename_i h1 h2
    simp [getB, h2]
  · rename_i h1
    simp [getB, h1]
set_option maxHeartbeats 4000000 in
theorem list_rf (N : Int) (l : List UInt8) (a : Option Addr) (m n : Nat) (h : AH) (S : SlB h n a l) (e : m = l.length) (hm : m ≤ 1099511627776) :
    RF Try.prog none' 36 #[.agg #[.int .i64 N, .slice a m m]] n h (fun r n' h' => ∃ a', r = .slice a' (truths N l).length (truths N l).length ∧ Ext n h h' ∧ OwnSl h' n n' a' 1 (truths N l).length (boolsV (truths N l))) := by
  subst e
  have hp := plc_le N l.length
  refine RF.of Try.func36 rfl rfl (Nat.le_of_ble_eq_true rfl) ?_; dsimp only [argEnv]
  repeat' (first | refine stpS ?_ | (refine stp2 ?_ ?_ <;> intro _) | refine RS.call1 rfl opds (places_ev _ _ _ _ _ (by omega)) none'W ?_)
  refine RC.loop ?_
  refine RL.inv (α := Nat × Option Addr) (fun s => [(7, .int .i64 (s.1 : Nat)), (6, .int .i64 (plc N l.length)), (3, .slice s.2 s.1 s.1), (1, .pointer (some ⟨n, 0, none⟩))])
    (fun s n1 h1 => s.1 ≤ (plc N l.length).toNat ∧ n + 1 ≤ n1 ∧ Ext (n + 1) (h.app (.new n ⟨2, 0, true, 0⟩ [.int .i64 N, .slice a l.length l.length])) h1 ∧ OwnSl h1 (n + 1) n1 s.2 1 s.1 (boolsV ((truths N l).take s.1)))
    (fun s => (plc N l.length).toNat - s.1) (0, none) envs ⟨by omega, by omega, Ext.refl _ _, OwnSl.nil (by omega)⟩ ?_
  rintro ⟨i, a'⟩ n1 h1 ⟨hi, hn, hE, hO⟩
  dsimp only at hi hn hE hO ⊢
  repeat' (first | refine stpS ?_ | (refine stp2 ?_ ?_ <;> intro _) | refine RS.call1 rfl opds (get_ev _ _ _ _ _ _ _ (S.ext ext (by omega)) rfl (by omega)) none'W ?_)
  · rename_i hlt
    refine RS.append rfl opd opd (hO.ext ext (Nat.le_succ _)) (OwnSl.src (OwnSl.new1 (n0 := n1) (m := 1) (Nat.le_refl _) rfl rfl)) full_slice (fun b hb => Or.inr (by omega)) (by omega) ?_
    intro a2 n2 h2 hle2 hO2 hX hnew
    have hE2 := hX.ext (hO.ext ext (Nat.le_succ _))
    repeat' (first | refine stpS ?_ | (refine stp2 ?_ ?_ <;> intro _))
    refine nextC.normal ⟨(i + 1, a2), by dsimp only; omega, envs, by dsimp only; omega, by omega, ext, ?_⟩
    have e : boolsV ((truths N l).take (i + 1)) = boolsV ((truths N l).take i) ++ [.bool (getB N l i)] := by
      have h3 : i < (truths N l).length := by rw [truths_length]; omega
      have h4 : (truths N l).getD i false = (truths N l)[i] := by simp [List.getD, h3]
      unfold boolsV
      rw [List.take_succ_eq_append_getElem h3, List.map_append, getB_truths, h4]
      rfl
    dsimp only
    rw [e]; exact hO2
  · rename_i hlt
    have e : i = (truths N l).length := by rw [truths_length]; omega
    refine ⟨a', by rw [e], ext, ?_⟩
    rw [List.take_of_length_le (by omega)] at hO
    rw [← e]; exact hO.mono (by omega)
theorem getD_snocF (u : List Bool) (i : Nat) : (u ++ [false]).getD i false = u.getD i false := by
  simp only [List.getD, List.getElem?_append]
  split
  · rfl
  · rw [List.getElem?_eq_none (l := u) (by omega)]
    cases (i - u.length) <;> simp
theorem pack_snoc (u : List Bool) (h : u.length % 8 ≠ 0) : packB (u ++ [false]) = packB u := by
  symm
  apply pack_eq
  · rw [packB_length, List.length_append, List.length_singleton]; omega
  · intro i _; rw [bitAt_packB, getD_snocF]
theorem bitAt_snoc0 (l : List UInt8) (i : Nat) : bitAt (l ++ [0]) i = bitAt l i := by
  unfold bitAt
  simp only [List.getD, List.getElem?_append]
  split
  · rfl
  · rw [List.getElem?_eq_none (l := l) (by omega)]
    cases (i / 8 - l.length) <;> simp
theorem pack_snoc0 (u : List Bool) (h : u.length % 8 = 0) : packB (u ++ [false]) = packB u ++ [0] := by
  symm
  apply pack_eq
  · rw [List.length_append, packB_length, List.length_append, List.length_singleton, List.length_singleton]; omega
  · intro i _; rw [bitAt_snoc0, bitAt_packB, getD_snocF]
theorem take_succ_b (t : List Bool) (i : Nat) (h : i < t.length) : t.take (i + 1) = t.take i ++ [t.getD i false] := by
  rw [List.take_succ_eq_append_getElem h]
  simp [List.getD, h]
theorem bytesV_snoc (l : List UInt8) : bytesV (l ++ [0]) = bytesV l ++ [.int .u8 (0 : Int)] := by simp [bytesV]
theorem set_snoc (u : List Bool) (b c : Bool) (i : Nat) (h : u.length = i) : (u ++ [b]).set i c = u ++ [c] := by
  subst h; simp
set_option maxHeartbeats 4000000 in
theorem refOf_rf (t : List Bool) (a : Option Addr) (m n : Nat) (h : AH) (S : SlT h n a t) (e : m = t.length) (hm : m ≤ 1099511627776) :
    RF Try.prog none' 20 #[.slice a m m] n h (BitsRes n h t) := by
  subst e
  refine RF.of Try.func20 rfl rfl (Nat.le_of_ble_eq_true rfl) ?_; dsimp only [argEnv]
  repeat' (first | refine stpS ?_ | (refine stp2 ?_ ?_ <;> intro _))
  refine RC.loop ?_
  refine RL.gen (fun h0 => Ext n h h0 ∧ h0.info n = some ⟨2, 0, true, 0⟩ ∧ h0.info (n + 1) = some ⟨2, 0, true, 0⟩ ∧ h0.cell (n + 1) 0 = .int .i64 t.length ∧ h0.cell (n + 1) 1 = .slice none 0 0) ⟨ext, info, info, cell, cell⟩ ?_
  rintro h0 ⟨E0, F1, F2, F3, F4⟩
  have hO0 : OwnSl h0 (n + 1 + 1) (n + 1 + 1) none 1 ((0 + 7) / 8) (bytesV (packB (t.take 0))) := by
    have e : packB (t.take 0) = [] := by simp [packB]
    rw [e]; exact OwnSl.nil (Nat.le_refl _)
  refine RL.inv (α := Nat × Option Addr) (fun s => [(4, .int .i64 (s.1 : Nat)), (3, .pointer (some ⟨n + 1, 0, none⟩)), (2, .pointer (some ⟨n, 0, none⟩)), (0, .slice a t.length t.length)])
    (fun s n1 h1 => s.1 ≤ t.length ∧ n + 1 + 1 ≤ n1 ∧ Ext (n + 1) h0 h1 ∧ h1.info (n + 1) = some ⟨2, 0, true, 0⟩ ∧ h1.cell (n + 1) 0 = .int .i64 t.length ∧ h1.cell (n + 1) 1 = .slice s.2 ((s.1 + 7) / 8) ((s.1 + 7) / 8) ∧
      OwnSl h1 (n + 1 + 1) n1 s.2 1 ((s.1 + 7) / 8) (bytesV (packB (t.take s.1))))
    (fun s => t.length - s.1) (0, none) envs ⟨by omega, by omega, Ext.refl _ _, F2, F3, F4, hO0⟩ ?_
  rintro ⟨i, a'⟩ n1 h1 ⟨hi, hn, hE1, G1, G2, G3, hO⟩
  dsimp only at hi hn hE1 G1 G2 G3 hO ⊢
  have hE : Ext n h h1 := E0.trans (by omega) hE1
  have F1 : h1.info n = some ⟨2, 0, true, 0⟩ := (hE1.info n (by omega)).trans F1
  by_cases hlt : i < t.length
  · have hsa : sb a < n := S.lt (by omega)
    have hcl : (t.take i).length = i := by simp; omega
    have hc : h1.cell (sb a) (so a + (i : Int).toNat) = .bool (t.getD i false) := S.at hE (by omega)
    cases ht : t.getD i false
    · rw [ht] at hc
      by_cases h8 : (i : Int) % 8 = 0
      · repeat' (first | refine stpS ?_ | (refine stp2 ?_ ?_ <;> intro _))
        refine RS.append rfl opd opd (hO.ext ext (Nat.le_succ _)) (OwnSl.src (OwnSl.new1 (n0 := n1) (m := 1) (Nat.le_refl _) rfl rfl)) full_slice (fun b hb => Or.inr (by omega)) (by omega) ?_
        intro a2 n2 h2 hle2 hO2 hX hnew
        have hE2 := hX.ext (hO.ext ext (Nat.le_succ _))
        have em : (i + 1 + 7) / 8 = (i + 7) / 8 + 1 := by omega
        have hO2 : OwnSl h2 (n + 1 + 1) n2 a2 1 ((i + 7) / 8 + 1) (bytesV (packB (t.take i ++ [false]))) := by
          rw [pack_snoc0 _ (by rw [hcl]; omega), bytesV_snoc]; exact hO2
        have hO3 := hO2.sets (b := n + 1) (o' := 0 + 1) (vs := [.slice a2 ((i + 7) / 8 + 1) ((i + 7) / 8 + 1)]) (by omega)
        have hS3 := hO3.slbE
        have hb : ((packB (t.take i ++ [false])).getD ((i : Int) / 8).toNat 0).toNat < 256 := UInt8.toNat_lt _
        have hl3 : (packB (t.take i ++ [false])).length = ((i + 7) / 8 + 1) := by rw [packB_length, List.length_append, hcl, List.length_singleton]; omega
        obtain ⟨ho, hlo, hhi, hI, hA, hC⟩ := hO3.facts (by omega)
        rw [Nat.mul_one] at hI
        repeat' (first | refine stp ?_ | (refine stp2 ?_ ?_ <;> intro _))
        rw [show boolsF t (i : Int).toNat = .bool (t.getD i false) from rfl, ht]
        repeat' (first | refine stp ?_ | (refine stp2 ?_ ?_ <;> intro _))
        refine nextC.normal ⟨(i + 1, a2), by dsimp only; omega, envs, by dsimp only; omega, by omega, ext, info, cell, ?_, ?_⟩
        · dsimp only; rw [em]; exact cell
        · dsimp only; rw [em, take_succ_b t i hlt, ht]; exact hO3
      · have em : (i + 1 + 7) / 8 = (i + 7) / 8 := by omega
        have hO3 : OwnSl h1 (n + 1 + 1) n1 a' 1 ((i + 7) / 8) (bytesV (packB (t.take i ++ [false]))) := by
          rw [pack_snoc _ (by rw [hcl]; omega)]; exact hO
        have hS3 := hO3.slbE
        have hb : ((packB (t.take i ++ [false])).getD ((i : Int) / 8).toNat 0).toNat < 256 := UInt8.toNat_lt _
        have hl3 : (packB (t.take i ++ [false])).length = ((i + 7) / 8) := by rw [packB_length, List.length_append, hcl, List.length_singleton]; omega
        obtain ⟨ho, hlo, hhi, hI, hA, hC⟩ := hO3.facts (by omega)
        rw [Nat.mul_one] at hI
        repeat' (first | refine stp ?_ | (refine stp2 ?_ ?_ <;> intro _))
        refine nextC.normal ⟨(i + 1, a'), by dsimp only; omega, envs, by dsimp only; omega, by omega, ext, info, cell, ?_, ?_⟩
        · dsimp only; rw [em]; exact cell
        · dsimp only; rw [em, take_succ_b t i hlt, ht]; exact hO3
    · rw [ht] at hc
      by_cases h8 : (i : Int) % 8 = 0
      · repeat' (first | refine stpS ?_ | (refine stp2 ?_ ?_ <;> intro _))
        refine RS.append rfl opd opd (hO.ext ext (Nat.le_succ _)) (OwnSl.src (OwnSl.new1 (n0 := n1) (m := 1) (Nat.le_refl _) rfl rfl)) full_slice (fun b hb => Or.inr (by omega)) (by omega) ?_
        intro a2 n2 h2 hle2 hO2 hX hnew
        have hE2 := hX.ext (hO.ext ext (Nat.le_succ _))
        have em : (i + 1 + 7) / 8 = (i + 7) / 8 + 1 := by omega
        have hO2 : OwnSl h2 (n + 1 + 1) n2 a2 1 ((i + 7) / 8 + 1) (bytesV (packB (t.take i ++ [false]))) := by
          rw [pack_snoc0 _ (by rw [hcl]; omega), bytesV_snoc]; exact hO2
        have hO3 := hO2.sets (b := n + 1) (o' := 0 + 1) (vs := [.slice a2 ((i + 7) / 8 + 1) ((i + 7) / 8 + 1)]) (by omega)
        have hS3 := hO3.slbE
        have hb : ((packB (t.take i ++ [false])).getD ((i : Int) / 8).toNat 0).toNat < 256 := UInt8.toNat_lt _
        have hl3 : (packB (t.take i ++ [false])).length = ((i + 7) / 8 + 1) := by rw [packB_length, List.length_append, hcl, List.length_singleton]; omega
        obtain ⟨ho, hlo, hhi, hI, hA, hC⟩ := hO3.facts (by omega)
        rw [Nat.mul_one] at hI
        repeat' (first | refine stp ?_ | (refine stp2 ?_ ?_ <;> intro _))
        rw [show boolsF t (i : Int).toNat = .bool (t.getD i false) from rfl, ht]
        repeat' (first | refine stp ?_ | (refine stp2 ?_ ?_ <;> intro _))
        generalize hV : ((((packB (t.take i ++ [false])).getD ((i : Int) / 8).toNat 0).toNat : Int).toNat ||| (((Int.toNat 1 <<< ((i : Int) % 8).toNat % 256 : Nat) : Int)).toNat) = V
        have e8 : ((i : Int) / 8).toNat = i / 8 := by omega
        have e9 : ((i : Int) % 8).toNat = i % 8 := by omega
        obtain ⟨hp, hv⟩ := pack_or (u := t.take i ++ [false]) (i := i) (by rw [List.length_append, hcl, List.length_singleton]; omega) (V := V) (by rw [← hV, e8, e9]; rfl)
        have h3 := hO3.set1 (i := ((i : Int) / 8).toNat) (v := .int .u8 (V : Nat)) (by omega) rfl
        rw [bytesV_set _ _ _ hv, e8, ← hp, set_snoc _ _ _ _ hcl, ← ht, ← take_succ_b t i hlt] at h3
        refine nextC.normal ⟨(i + 1, a2), by dsimp only; omega, envs, by dsimp only; omega, by omega, ext, info, cell, ?_, ?_⟩
        · dsimp only; rw [em]; exact cell
        · dsimp only; rw [em]; rw [e8]; exact h3
      · have em : (i + 1 + 7) / 8 = (i + 7) / 8 := by omega
        have hO3 : OwnSl h1 (n + 1 + 1) n1 a' 1 ((i + 7) / 8) (bytesV (packB (t.take i ++ [false]))) := by
          rw [pack_snoc _ (by rw [hcl]; omega)]; exact hO
        have hS3 := hO3.slbE
        have hb : ((packB (t.take i ++ [false])).getD ((i : Int) / 8).toNat 0).toNat < 256 := UInt8.toNat_lt _
        have hl3 : (packB (t.take i ++ [false])).length = ((i + 7) / 8) := by rw [packB_length, List.length_append, hcl, List.length_singleton]; omega
        obtain ⟨ho, hlo, hhi, hI, hA, hC⟩ := hO3.facts (by omega)
        rw [Nat.mul_one] at hI
        repeat' (first | refine stp ?_ | (refine stp2 ?_ ?_ <;> intro _))
        generalize hV : ((((packB (t.take i ++ [false])).getD ((i : Int) / 8).toNat 0).toNat : Int).toNat ||| (((Int.toNat 1 <<< ((i : Int) % 8).toNat % 256 : Nat) : Int)).toNat) = V
        have e8 : ((i : Int) / 8).toNat = i / 8 := by omega
        have e9 : ((i : Int) % 8).toNat = i % 8 := by omega
        obtain ⟨hp, hv⟩ := pack_or (u := t.take i ++ [false]) (i := i) (by rw [List.length_append, hcl, List.length_singleton]; omega) (V := V) (by rw [← hV, e8, e9]; rfl)
        have h3 := hO3.set1 (i := ((i : Int) / 8).toNat) (v := .int .u8 (V : Nat)) (by omega) rfl
        rw [bytesV_set _ _ _ hv, e8, ← hp, set_snoc _ _ _ _ hcl, ← ht, ← take_succ_b t i hlt] at h3
        refine nextC.normal ⟨(i + 1, a'), by dsimp only; omega, envs, by dsimp only; omega, by omega, ext, info, cell, ?_, ?_⟩
        · dsimp only; rw [em]; exact cell
        · dsimp only; rw [em]; rw [e8]; exact h3
  · repeat' (first | refine stpS ?_ | (refine stp2 ?_ ?_ <;> intro _))
    have e : i = t.length := by omega
    subst e
    rw [List.take_length] at hO
    refine ⟨a', by rw [packB_length], ext, ?_⟩
    rw [packB_length]
    exact (hO.sets (by omega)).mono (by omega)
/-- The places that are set. -/
def wheres (t : List Bool) : List Nat := (List.range t.length).filter fun i => t.getD i false
/-- The places that are set in a byte; the first of them. -/
def bitsL (c : Nat) : List Nat := (List.range 8).filter fun j => c.testBit j
def tz8 (c : Nat) : Nat := (bitsL c).headD 8
theorem bitsL_zero : bitsL 0 = [] := by decide
theorem bitsL_step : ∀ c, c < 256 → c ≠ 0 → bitsL c = tz8 c :: bitsL (c &&& (c - 1)) := by decide +kernel
theorem tz8_le : ∀ c, c < 256 → tz8 c ≤ 8 := by decide +kernel
/-- The places that are set in bytes from the i-th on. -/
def setL : Nat → List UInt8 → List Nat
  | _, [] => []
  | i, c :: r => (bitsL c.toNat).map (8 * i + ·) ++ setL (i + 1) r
theorem setL_eq : ∀ (l : List UInt8) (i : Nat), setL i l = ((List.range (8 * l.length)).filter (bitAt l)).map (8 * i + ·)
  | [], i => by simp [setL]
  | c :: r, i => by
    simp only [setL, setL_eq r (i + 1), List.length_cons]
    rw [show 8 * (r.length + 1) = 8 + 8 * r.length by omega, List.range_add, List.filter_append, List.map_append]
    have e0 : bitsL c.toNat = List.filter (bitAt (c :: r)) (List.range 8) := by
      unfold bitsL
      apply List.filter_congr
      intro j hj
      rw [List.mem_range] at hj
      unfold bitAt
      rw [Nat.div_eq_of_lt hj, Nat.mod_eq_of_lt hj]; rfl
    rw [e0]
    rw [List.append_right_inj]
    · rw [List.filter_map, List.map_map]
      have e : (bitAt (c :: r) ∘ fun x => 8 + x) = bitAt r := by
        funext j
        simp only [Function.comp, bitAt]
        rw [show (8 + j) / 8 = j / 8 + 1 by omega, show (8 + j) % 8 = j % 8 by omega]; rfl
      rw [e]
      apply List.map_congr_left
      intro j _
      simp only [Function.comp]; omega
theorem setL_pack (t : List Bool) : setL 0 (packB t) = wheres t := by
  rw [setL_eq, packB_length]
  have hK : t.length ≤ 8 * ((t.length + 7) / 8) := by omega
  obtain ⟨d, hd⟩ : ∃ d, 8 * ((t.length + 7) / 8) = t.length + d := ⟨8 * ((t.length + 7) / 8) - t.length, by omega⟩
  rw [hd, List.range_add, List.filter_append]
  have e1 : (List.filter (bitAt (packB t)) (List.map (t.length + ·) (List.range d))) = [] := by
    rw [List.filter_eq_nil_iff]
    intro i hi
    obtain ⟨j, _, rfl⟩ := List.mem_map.1 hi
    rw [bitAt_packB]; simp [List.getD]
  rw [e1, List.append_nil]
  have e2 : (fun x => 8 * 0 + x) = (id : Nat → Nat) := by funext x; simp
  rw [e2, List.map_id]
  unfold wheres
  apply List.filter_congr
  intro i hi
  rw [bitAt_packB]
theorem wheres_mem {t : List Bool} {i : Nat} : i ∈ wheres t ↔ i < t.length ∧ t.getD i false = true := by simp [wheres]
theorem wheres_take (t : List Bool) (j : Nat) : wheres (t.take j) = (wheres t).filter fun i => decide (i < j) := by
  unfold wheres
  rw [List.filter_filter, List.length_take]
  rcases Nat.le_total j t.length with h | h
  · rw [Nat.min_eq_left h]
    have e0 : List.range t.length = List.range (j + (t.length - j)) := by congr 1; omega
    rw [e0, List.range_add, List.filter_append]
    have e : List.filter (fun a => decide (a < j) && t.getD a false) (List.map (j + ·) (List.range (t.length - j))) = [] := by
      rw [List.filter_eq_nil_iff]
      intro i hi
      obtain ⟨k, _, rfl⟩ := List.mem_map.1 hi
      have : ¬ (j + k < j) := by omega
      simp [this]
    rw [e, List.append_nil]
    apply List.filter_congr
    intro i hi
    rw [List.mem_range] at hi
    simp [List.getD, hi]
  · rw [Nat.min_eq_right h]
    apply List.filter_congr
    intro i hi
    rw [List.mem_range] at hi
    simp [List.getD, show i < j by omega]
theorem wheres_snoc (t : List Bool) (i : Nat) (h : i < t.length) : wheres (t.take (i + 1)) = wheres (t.take i) ++ (if t.getD i false = true then [i] else []) := by
  unfold wheres
  rw [List.length_take, List.length_take, Nat.min_eq_left (by omega), Nat.min_eq_left (by omega), List.range_succ, List.filter_append]
  congr 1
  · apply List.filter_congr
    intro j hj
    rw [List.mem_range] at hj
    simp [List.getD, hj, show j < i + 1 by omega]
  · cases hb : t.getD i false <;> simp [List.getD] at hb ⊢ <;> simp [hb]
theorem wheres_le (t : List Bool) : (wheres t).length ≤ t.length := by
  have := List.length_filter_le (fun i => t.getD i false) (List.range t.length)
  simpa [wheres] using this
/-- Bytes that may be turned. -/
structure Byt (h : AH) (a : Option Addr) (m : Nat) : Prop where
  out : (a = none ∧ m = 0) ∨ (a = some ⟨sb a, 0, none⟩ ∧ h.info (sb a) = some ⟨m, 0, true, 1⟩ ∧ ∀ j, j < m → ∃ c : UInt8, h.cell (sb a) j = .int .u8 c.toNat)
theorem Byt.of {h : AH} {n0 n : Nat} {a : Option Addr} {m : Nat} {l : List UInt8} (o : OwnSl h n0 n a 1 m (bytesV l)) : Byt h a m := by
  rcases o.or with k | ⟨k1, k2, k3, k4, k5⟩
  · exact ⟨.inl k⟩
  · refine ⟨.inr ⟨k1, by rw [Nat.mul_one] at k4; exact k4, fun j hj => ?_⟩⟩
    have := o.len
    rw [bytesV_length, Nat.mul_one] at this
    have hf := (o.facts (by omega)).2.2.2.2.2 j (by omega)
    have hso : so a = 0 := by rw [k1]; rfl
    rw [hso, Nat.zero_add] at hf
    exact ⟨l.getD j 0, by rw [hf]; simp [bytesV, List.getD, show j < l.length by omega]⟩
theorem Byt.ext {h h1 : AH} {n : Nat} {a : Option Addr} {m : Nat} (B : Byt h a m) (E : Ext n h h1) (hb : a = none ∨ sb a < n) : Byt h1 a m := by
  rcases B.out with k | ⟨k1, k2, k3⟩
  · exact ⟨.inl k⟩
  · rcases hb with q | q
    · rw [q] at k1; cases k1
    · exact ⟨.inr ⟨k1, by rw [E.info _ q]; exact k2, fun j hj => by obtain ⟨c, hc⟩ := k3 j hj; exact ⟨c, by rw [E.cell _ _ q]; exact hc⟩⟩⟩
set_option maxHeartbeats 4000000 in
theorem tz8_ev (c : UInt8) (n : Nat) (h : AH) : Ev Try.prog none' 59 #[.int .u8 c.toNat] n h (.int .i64 (tz8 c.toNat)) n h := by
  refine RF.pure rfl fun n' hn => ?_
  refine RF.of Try.func59 rfl rfl (Nat.le_of_ble_eq_true rfl) ?_; dsimp only [argEnv]
  have hc : ((c.toNat : Nat) : Int) < 256 := u8lt
  repeat' (first | refine stpS ?_ | (refine stp2 ?_ ?_ <;> intro _))
  have hb := tz8_le c.toNat c.toNat_lt
  refine RS.put (v := .int .u8 (UInt8.ofNat (tz8 c.toNat)).toNat) rfl rfl (op_indexS Uc.out (Opd.ev opd) (Opd.ev opd) (Int.natCast_nonneg _) ?_) ?_
  · rw [Int.toNat_natCast]
    have := c.toNat_lt
    generalize c.toNat = k at *
    clear hc hb
    revert k
    decide +kernel
  · rw [show (UInt8.ofNat (tz8 c.toNat)).toNat = tz8 c.toNat by rw [UInt8.toNat_ofNat', Nat.mod_eq_of_lt (by omega)]]
    repeat' (first | refine stpS ?_ | (refine stp2 ?_ ?_ <;> intro _))
    rfl
/-- What the iterator needs of memory. -/
def AllK (bc : Nat) (a : Option Addr) (l : List UInt8) (n : Nat) (h : AH) : Prop := bc < n ∧ h.cell bc 1 = .slice a l.length l.length ∧ SlB h n a l
def placesV (l : List Nat) : List (List Value) := l.map fun p => [.int .i64 (p : Nat)]
set_option maxHeartbeats 4000000 in
theorem all1_iter (bc : Nat) (a : Option Addr) (l : List UInt8) (hm : l.length ≤ 137438953472) : IterF Try.prog 58 [.pointer (some ⟨bc, 0, none⟩)] (placesV (setL 0 l)) (AllK bc a l) := by
  intro W fv I D n h it hK h0 hn
  obtain ⟨k1, k2, S⟩ := hK 0 n h h0
  refine RF.of Try.func58 rfl rfl (Nat.le_of_ble_eq_true rfl) ?_; dsimp only [argEnv]
  repeat' (first | refine stpS ?_ | (refine stp2 ?_ ?_ <;> intro _))
  refine RC.loop ?_
  refine RL.inv (α := Nat × Nat) (fun s => [(8, .int .i64 (s.1 : Nat)), (7, .int .i64 l.length), (6, .slice a l.length l.length), (0, fv)])
    (fun s n1 h1 => s.1 ≤ l.length ∧ n ≤ n1 ∧ s.2 ≤ (setL 0 l).length ∧ (setL 0 l).drop s.2 = setL s.1 (l.drop s.1) ∧ I s.2 n1 h1) (fun s => l.length - s.1) (0, 0) envs ⟨by omega, by omega, by omega, by simp, h0⟩ ?_
  rintro ⟨i, p⟩ n1 h1 ⟨hi, hn1, hp, hd, hI⟩
  dsimp only at hi hp hd hI ⊢
  obtain ⟨-, -, S1⟩ := hK p n1 h1 hI
  repeat' (first | refine stpS ?_ | (refine stp2 ?_ ?_ <;> intro _))
  · rename_i hlt
    have hi' : i < l.length := by omega
    have hdl : l.drop i = l.getD i 0 :: l.drop (i + 1) := by rw [List.drop_eq_getElem_cons hi']; simp [List.getD, hi']
    refine RC.loop ?_
    refine RL.inv (α := UInt8 × Nat) (fun s => [(4, .int .u8 s.1.toNat), (3, .int .i64 (i : Nat)), (8, .int .i64 (i : Nat)), (7, .int .i64 l.length), (6, .slice a l.length l.length), (0, fv)])
      (fun s n2 h2 => n ≤ n2 ∧ s.2 ≤ (setL 0 l).length ∧ (setL 0 l).drop s.2 = (bitsL s.1.toNat).map (8 * i + ·) ++ setL (i + 1) (l.drop (i + 1)) ∧ I s.2 n2 h2) (fun s => (bitsL s.1.toNat).length) (l.getD i 0, p) envs ⟨hn1, hp, by rw [hd, hdl]; rfl, hI⟩ ?_
    rintro ⟨c, q⟩ n2 h2 ⟨hn2, hq, hd2, hI2⟩
    dsimp only at hq hd2 hI2 ⊢
    have hc : ((c.toNat : Nat) : Int) < 256 := u8lt
    by_cases h0 : c.toNat = 0
    · repeat' (first | refine stpS ?_ | (refine stp2 ?_ ?_ <;> intro _))
      refine nextC.normal ⟨(i + 1, q), by dsimp only; omega, envs, by dsimp only; omega, by omega, hq, ?_, hI2⟩
      rw [hd2, h0, bitsL_zero]; rfl
    · have hcn := c.toNat_lt
      have hstep := bitsL_step c.toNat hcn h0
      have hv : (setL 0 l)[q]? = some (8 * i + tz8 c.toNat) := by
        have : ((setL 0 l).drop q)[0]? = some (8 * i + tz8 c.toNat) := by rw [hd2, hstep]; rfl
        simpa using this
      have h8 := tz8_le c.toNat hcn
      repeat' (first | refine stpS ?_ | (refine stp2 ?_ ?_ <;> intro _) | refine RS.call1 rfl opds (tz8_ev c _ _) none'W ?_)
      refine RS.callV rfl opd opds (it.step q [.int .i64 ((8 * i + tz8 c.toNat : Nat) : Int)] _ _ (by simp [placesV, hv]) hI2 |> fun k => by rw [show ((i : Int) * 8 + (tz8 c.toNat : Int)) = ((8 * i + tz8 c.toNat : Nat) : Int) by omega]; exact k) (fun b hb => .inl hb) ?_
      rintro r n3 h3 hle (⟨rfl, hI3⟩ | ⟨rfl, hD⟩)
      · repeat' (first | refine stpS ?_ | (refine stp2 ?_ ?_ <;> intro _))
        have hX : c.toNat &&& (c.toNat - 1) < 256 := Nat.lt_of_le_of_lt Nat.and_le_left hcn
        have e1 : (UInt8.ofNat (c.toNat &&& (c.toNat - 1))).toNat = c.toNat &&& (c.toNat - 1) := by rw [UInt8.toNat_ofNat', Nat.mod_eq_of_lt hX]
        refine nextC.normal ⟨(UInt8.ofNat (c.toNat &&& (c.toNat - 1)), q + 1), ?_, ?_, by omega, ?_, ?_, hI3⟩
        · dsimp only; rw [e1, hstep]; simp
        · dsimp only
          rw [e1, show ((c.toNat : Int) - 1).toNat = c.toNat - 1 by omega, Int.toNat_natCast]
          exact envs
        · have := (List.getElem?_eq_some_iff.1 hv).1
          dsimp only; omega
        · dsimp only
          rw [e1, ← List.drop_drop, hd2, hstep]
          rfl
      · repeat' (first | refine stpS ?_ | (refine stp2 ?_ ?_ <;> intro _))
        exact .inr hD
  · repeat' (first | refine stpS ?_ | (refine stp2 ?_ ?_ <;> intro _))
    have e : (placesV (setL 0 l)).length = p := by
      have hi2 : i = l.length := by omega
      rw [hi2, List.drop_length] at hd
      have := congrArg List.length hd
      rw [List.length_drop] at this
      simp only [setL, List.length_nil] at this
      simp only [placesV, List.length_map]; omega
    rw [e]; exact .inl hI
set_option maxHeartbeats 4000000 in
theorem all_rf (N : Int) (l : List UInt8) (a : Option Addr) (m n : Nat) (h : AH) (S : SlB h n a l) (e : m = l.length) (hm : m ≤ 137438953472) :
    RF Try.prog none' 38 #[.agg #[.int .i64 N, .slice a m m]] n h (fun r n' h' => ∃ bc a', r = .func (.func 58) #[] #[.pointer (some ⟨bc, 0, none⟩)] ∧ Ext n h h' ∧ n ≤ bc ∧ (a' = none ∨ n ≤ sb a') ∧ AllK bc a' (packB (truths N l)) n' h') := by
  subst e
  refine RF.of Try.func38 rfl rfl (Nat.le_of_ble_eq_true rfl) ?_; dsimp only [argEnv]
  repeat' (first | refine stpS ?_ | (refine stp2 ?_ ?_ <;> intro _))
  refine RS.call rfl opds (whole_rf N l a l.length _ _ (S.ext ext (by omega)) rfl (by omega)) none'W ?_
  rintro r n1 h1 hle ⟨a1, rfl, hE1, hO1⟩
  have hS := hO1.slbE
  repeat' (first | refine stpS ?_ | (refine stp2 ?_ ?_ <;> intro _))
  exact ⟨n1, a1, rfl, ext, by omega, hO1.at'.imp id (fun q => by omega), by omega, cell, hS.ext ext (by omega)⟩
end Go.Proofs.Ytaagbfpbbhaclaa.Bt
