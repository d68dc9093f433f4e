/- Contracts of bits' functions: a changed bit, how many are set, the begin; the law BitsSets. -/
import Derived.Test.YtnaklmjndiodfaaC
namespace Go.Proofs.Ytnaklmjndiodfaa
open Go.Abs

/-- May place i be changed? -/
abbrev may (N : Int) (m : Nat) (i : Int) : Prop := 0 ≤ i ∧ i < plc N m
theorem may_truths {N : Int} {l : List UInt8} {i : Int} (h0 : 0 ≤ i) (h1 : i < plc N l.length) : i.toNat < (truths N l).length := by rw [truths_length]; omega
theorem set_twice (t : List Bool) (i : Nat) (b c : Bool) : (t.set i b).set i c = t.set i c := by simp
set_option maxHeartbeats 4000000 in
theorem set_rf (N : Int) (l : List UInt8) (a : Option Addr) (m n : Nat) (h : AH) (i : Int) (yes : Bool) (S : SlB h n a l) (e : m = l.length) (hm : m ≤ 1099511627776) :
    RF Try.prog none' 12 #[.agg #[.int .i64 N, .slice a m m], .int .i64 i, .bool yes] n h (fun r n' h' => ∃ v, r = .tuple #[v, .int .i64 (if may N m i then 0 else 1)] ∧ BitsRes n h (if may N m i then (truths N l).set i.toNat yes else []) v n' h') := by
  subst e
  have hp := plc_le N l.length
  refine RF.of Try.func12 rfl rfl (Nat.le_of_ble_eq_true rfl) ?_; dsimp only [argEnv]
  by_cases hmay : may N l.length i
  · rw [if_pos hmay, if_pos hmay]
    obtain ⟨h0, h1⟩ := hmay
    repeat' (first | refine stpS ?_ | (refine stp2 ?_ ?_ <;> intro _) | refine RS.call1 rfl opds (places_ev _ _ _ _ _ (by omega)) none'W ?_)
    refine RS.call rfl opds (whole_rf N l a l.length _ _ (S.ext ext (by omega)) rfl (by omega)) none'W ?_
    rintro r n1 g1 hle ⟨a1, rfl, hE1, hO1⟩
    have hT := may_truths h0 h1
    obtain ⟨-, -, hhi1, -⟩ := hO1.facts (by rw [packB_length]; omega)
    have hO2 := (hO1.ext (n1 := n1 + 1) (h1 := (g1.app (.new n1 ⟨2, 0, true, 0⟩ [.int .i64 0, .slice none 0 0])).app (.sets n1 0 [.int .i64 (truths N l).length, .slice a1 (packB (truths N l)).length (packB (truths N l)).length])) ext (by omega))
    have hS2 := hO2.slbE
    have hl := packB_length (truths N l)
    have hb : ((packB (truths N l)).getD (i / 8).toNat 0).toNat < 256 := UInt8.toNat_lt _
    obtain ⟨ho, hlo, hhi, hI, hA, hC⟩ := hO2.facts (by omega)
    rw [Nat.mul_one] at hI
    repeat' (first | refine stp ?_ | (refine stp2 ?_ ?_ <;> intro _))
    have e8 : (i / 8).toNat = i.toNat / 8 := by omega
    have e9 : (i % 8).toNat = i.toNat % 8 := by omega
    generalize hV : ((((packB (truths N l)).getD (i / 8).toNat 0).toNat : Int).toNat &&& 255 - (((Int.toNat 1 <<< (i % 8).toNat % 256 : Nat) : Int)).toNat) = V
    obtain ⟨hp1, hv⟩ := pack_andNot (u := truths N l) (i := i.toNat) hT (V := V) (by rw [← hV, e8, e9]; rfl)
    have h3 := hO2.set1 (i := (i / 8).toNat) (v := .int .u8 (V : Nat)) (by omega) rfl
    rw [bytesV_set _ _ _ hv, e8, ← hp1] at h3
    rw [e8]
    have hl3 : (packB ((truths N l).set i.toNat false)).length = (packB (truths N l)).length := by rw [packB_length, packB_length, List.length_set]
    cases yes
    · repeat' (first | refine stp ?_ | (refine stp2 ?_ ?_ <;> intro _))
      refine ⟨_, rfl, a1, ?_, ext, ?_⟩
      · rw [hl3, List.length_set]
      · rw [hl3]
        exact (h3.sets (by omega)).mono (by omega)
    · have hS3 := h3.slbE
      obtain ⟨-, -, -, hI3, hA3, hC3⟩ := h3.facts (by omega)
      rw [Nat.mul_one] at hI3
      repeat' (first | refine stp ?_ | (refine stp2 ?_ ?_ <;> intro _))
      generalize hW : ((((packB ((truths N l).set i.toNat false)).getD (i / 8).toNat 0).toNat : Int).toNat ||| (((Int.toNat 1 <<< (i % 8).toNat % 256 : Nat) : Int)).toNat) = W
      obtain ⟨hp2, hw⟩ := pack_or (u := (truths N l).set i.toNat false) (i := i.toNat) (by rw [List.length_set]; exact hT) (V := W) (by rw [← hW, e8, e9]; rfl)
      have h4 := h3.set1 (i := (i / 8).toNat) (v := .int .u8 (W : Nat)) (by omega) rfl
      rw [bytesV_set _ _ _ hw, e8, ← hp2, set_twice] at h4
      have hl4 : (packB ((truths N l).set i.toNat true)).length = (packB (truths N l)).length := by rw [packB_length, packB_length, List.length_set]
      refine ⟨_, rfl, a1, ?_, ext, ?_⟩
      · rw [hl4, List.length_set]
      · rw [hl4, e8]
        exact (h4.sets (by omega)).mono (by omega)
  · rw [if_neg hmay, if_neg hmay]
    by_cases h0 : 0 ≤ i
    · have h1 : ¬ i < plc N l.length := fun h => hmay ⟨h0, h⟩
      repeat' (first | refine stpS ?_ | (refine stp2 ?_ ?_ <;> intro _) | refine RS.call1 rfl opds (places_ev _ _ _ _ _ (by omega)) none'W ?_)
      exact ⟨_, rfl, none, rfl, ext, OwnSl.nil (by omega)⟩
    · repeat' (first | refine stpS ?_ | (refine stp2 ?_ ?_ <;> intro _))
      exact ⟨_, rfl, none, rfl, ext, OwnSl.nil (by omega)⟩
theorem boolsV_set (t : List Bool) (i : Nat) (b : Bool) : (boolsV t).set i (.bool b) = boolsV (t.set i b) := by simp [boolsV, List.map_set]
set_option maxHeartbeats 4000000 in
theorem refSet_rf (N : Int) (l : List UInt8) (a : Option Addr) (m n : Nat) (h : AH) (i : Int) (yes : Bool) (S : SlB h n a l) (e : m = l.length) (hm : m ≤ 137438953472) :
    RF Try.prog none' 13 #[.agg #[.int .i64 N, .slice a m m], .int .i64 i, .bool yes] n h (fun r n' h' => ∃ v, r = .tuple #[v, .int .i64 (if may N m i then 0 else 1)] ∧ BitsRes n h (if may N m i then (truths N l).set i.toNat yes else []) v n' h') := by
  subst e
  have hp := plc_le N l.length
  have htl := truths_length N l
  refine RF.of Try.func13 rfl rfl (Nat.le_of_ble_eq_true rfl) ?_; dsimp only [argEnv]
  repeat' (first | refine stpS ?_ | (refine stp2 ?_ ?_ <;> intro _))
  refine RS.call rfl opds (refList_rf N l a l.length _ _ (S.ext ext (by omega)) rfl (by omega)) none'W ?_
  rintro r n1 h1 hle ⟨a1, rfl, hE1, hO1⟩
  by_cases h0 : 0 ≤ i
  · by_cases h2 : i < plc N l.length
    · rw [if_pos ⟨h0, h2⟩, if_pos ⟨h0, h2⟩]
      obtain ⟨ho, hlo, hhi, hI, hA, hC⟩ := hO1.facts (by omega)
      rw [Nat.mul_one] at hI
      repeat' (first | refine stpS ?_ | (refine stp2 ?_ ?_ <;> intro _))
      have h3 := hO1.set1 (i := i.toNat) (v := .bool yes) (by omega) rfl
      rw [boolsV_set] at h3
      have hl3 : ((truths N l).set i.toNat yes).length = (truths N l).length := List.length_set ..
      refine RS.call rfl opds (refOf_rf ((truths N l).set i.toNat yes) a1 (truths N l).length _ _ h3.slt (by omega) (by omega)) none'W ?_
      rintro r n2 h2 hle2 ⟨a2, rfl, hE2, hO2⟩
      repeat' (first | refine stpS ?_ | (refine stp2 ?_ ?_ <;> intro _))
      refine ⟨_, rfl, a2, rfl, ext, ?_⟩
      exact (hO2.sets (by omega)).mono (by omega)
    · rw [if_neg (fun h => h2 h.2), if_neg (fun h => h2 h.2)]
      repeat' (first | refine stpS ?_ | (refine stp2 ?_ ?_ <;> intro _))
      exact ⟨_, rfl, none, rfl, ext, OwnSl.nil (by omega)⟩
  · rw [if_neg (fun h => h0 h.1), if_neg (fun h => h0 h.1)]
    repeat' (first | refine stpS ?_ | (refine stp2 ?_ ?_ <;> intro _))
    exact ⟨_, rfl, none, rfl, ext, OwnSl.nil (by omega)⟩
/-- How many bits of a byte are set; of bytes. -/
def ones8 (c : Nat) : Nat := ((List.range 8).filter fun j => c.testBit j).length
def onesB (l : List UInt8) : Nat := (l.map fun c => ones8 c.toNat).sum
theorem onesB_take (l : List UInt8) (i : Nat) (h : i < l.length) : onesB (l.take (i + 1)) = onesB (l.take i) + ones8 (l.getD i 0).toNat := by
  unfold onesB
  rw [List.take_succ_eq_append_getElem h, List.map_append, List.sum_append]
  simp [List.getD, h]
theorem ones8_le (c : Nat) : ones8 c ≤ 8 := by
  have := List.length_filter_le (fun j => c.testBit j) (List.range 8)
  simpa [ones8] using this
theorem onesB_le (l : List UInt8) : onesB l ≤ 8 * l.length := by
  induction l with
  | nil => simp [onesB]
  | cons c l ih => have := ones8_le c.toNat; simp only [onesB, List.map_cons, List.sum_cons, List.length_cons] at ih ⊢; omega
set_option maxHeartbeats 4000000 in
theorem ones8_ev (c : UInt8) (n : Nat) (h : AH) : Ev Try.prog none' 54 #[.int .u8 c.toNat] n h (.int .i64 (ones8 c.toNat)) n h := by
  refine RF.pure rfl fun n' hn => ?_
  refine RF.of Try.func54 rfl rfl (Nat.le_of_ble_eq_true rfl) ?_; dsimp only [argEnv]
  have hc : ((c.toNat : Nat) : Int) < 256 := u8lt
  repeat' (first | refine stpS ?_ | (refine stp2 ?_ ?_ <;> intro _))
  have hb := ones8_le c.toNat
  refine RS.put (v := .int .u8 (UInt8.ofNat (ones8 c.toNat)).toNat) rfl rfl (op_indexS Uc.out (Opd.ev opd) (Opd.ev opd) (Int.natCast_nonneg _) ?_) ?_
  · rw [Int.toNat_natCast]
    have := c.toNat_lt
    generalize c.toNat = k at *
    clear hc hb
    revert k
    decide +kernel
  · rw [show (UInt8.ofNat (ones8 c.toNat)).toNat = ones8 c.toNat by rw [UInt8.toNat_ofNat', Nat.mod_eq_of_lt (by omega)]]
    repeat' (first | refine stpS ?_ | (refine stp2 ?_ ?_ <;> intro _))
    rfl
set_option maxHeartbeats 4000000 in
theorem count_ev (N : Int) (l : List UInt8) (a : Option Addr) (m n : Nat) (h : AH) (S : SlB h n a l) (e : m = l.length) (hm : m ≤ 137438953472) :
    Ev Try.prog none' 30 #[.agg #[.int .i64 N, .slice a m m]] n h (.int .i64 (onesB (packB (truths N l)))) n h := by
  subst e
  have hp := plc_le N l.length
  have htl := truths_length N l
  have hpl := packB_length (truths N l)
  refine RF.pure rfl fun n' hn => ?_
  have S := S.ext (Ext.refl n h) hn
  refine RF.of Try.func30 rfl rfl (Nat.le_of_ble_eq_true rfl) ?_; dsimp only [argEnv]
  repeat' (first | refine stpS ?_ | (refine stp2 ?_ ?_ <;> intro _))
  refine RS.call rfl opds (whole_rf N l a l.length _ _ (S.ext ext (by omega)) rfl (by omega)) none'W ?_
  rintro r n1 h1 hle ⟨a1, rfl, hE1, hO1⟩
  have hS := hO1.slbE
  repeat' (first | refine stpS ?_ | (refine stp2 ?_ ?_ <;> intro _))
  refine RC.loop ?_
  refine RL.inv (α := Nat) (fun i => [(10, .int .i64 (i : Nat)), (9, .int .i64 (packB (truths N l)).length), (8, .slice a1 (packB (truths N l)).length (packB (truths N l)).length), (3, .int .i64 (onesB ((packB (truths N l)).take i)))])
    (fun i n2 h2 => i ≤ (packB (truths N l)).length ∧ n2 = n1 ∧ h2 = h1) (fun i => (packB (truths N l)).length - i) 0 envs ⟨by omega, rfl, rfl⟩ ?_
  rintro i n2 h2 ⟨hi, rfl, rfl⟩
  have hob := onesB_le ((packB (truths N l)).take i)
  rw [List.length_take] at hob
  have ho8 := ones8_le ((packB (truths N l)).getD (i : Int).toNat 0).toNat
  repeat' (first | refine stpS ?_ | (refine stp2 ?_ ?_ <;> intro _) | refine RS.call1 rfl opds (ones8_ev _ _ _) none'W ?_)
  · rename_i hlt
    refine nextC.normal ⟨i + 1, by omega, ?_, by omega, rfl, rfl⟩
    rw [onesB_take _ _ (by omega), Int.natCast_add]
    exact envs
  · rename_i hlt
    rw [List.take_of_length_le (by omega)]
theorem exactT_ev (N : Int) (l : List UInt8) (a b : Option Addr) (m n : Nat) (h : AH) (S : SlB h n a l) (S2 : SlB h n b l) (e : m = l.length) :
    Ev Try.prog none' 17 #[.agg #[.int .i64 N, .slice a m m], .agg #[.int .i64 N, .slice b m m]] n h (.bool true) n h := by
  have := exact_ev N N l l a b m m n h S S2 e e
  simpa using this
set_option maxHeartbeats 4000000 in
theorem begun_ev (n : Nat) (h : AH) : Ev Try.prog none' 14 #[] n h (.bool true) n h := by
  refine RF.pure rfl fun n' hn => ?_
  refine RF.of Try.func14 rfl rfl (Nat.le_of_ble_eq_true rfl) ?_; dsimp only [argEnv]
  repeat' (first | refine stpS ?_ | (refine stp2 ?_ ?_ <;> intro _))
  have hO := OwnSl.slt (t := [true, false, true]) (OwnSl.new1 (h := h) (n0 := n') (n := n') (m := 3) (cs := boolsV [true, false, true]) (Nat.le_refl _) rfl rfl)
  have hof : RF Try.prog none' 18 #[.slice (some ⟨n', 0, none⟩) 3 3] (n' + 1) _ (fun r n1 h1 => ∃ a1, r = .agg #[.int .i64 3, .slice a1 1 1] ∧ Ext (n' + 1) _ h1 ∧ OwnSl h1 (n' + 1) n1 a1 1 1 [.int .u8 5]) := of_rf [true, false, true] (some ⟨n', 0, none⟩) 3 _ _ hO rfl (by omega)
  refine RS.call rfl opds hof none'W ?_
  rintro r n1 h1 hle ⟨a1, rfl, hE1, hO1⟩
  have hS : SlB h1 n1 a1 [5] := OwnSl.slbE (l := [5]) hO1
  obtain ⟨ho, hlo, hhi, hI, hA, hC⟩ := hO1.facts (by omega)
  have hC0 : h1.cell (sb a1) (so a1 + (0 : Int).toNat) = .int .u8 5 := hC 0 (by omega)
  have hcnt : ∀ n h, SlB h n a1 [5] → Ev Try.prog none' 30 #[.agg #[.int .i64 3, .slice a1 1 1]] n h (.int .i64 2) n h := fun n h S => count_ev 3 [5] a1 1 n h S rfl (by omega)
  have hg2 : ∀ n h, SlB h n a1 [5] → Ev Try.prog none' 15 #[.agg #[.int .i64 3, .slice a1 1 1], .int .i64 2] n h (.bool true) n h := fun n h S => get_ev 3 [5] a1 1 n h 2 S rfl (by omega)
  have hg1 : ∀ n h, SlB h n a1 [5] → Ev Try.prog none' 15 #[.agg #[.int .i64 3, .slice a1 1 1], .int .i64 1] n h (.bool false) n h := fun n h S => get_ev 3 [5] a1 1 n h 1 S rfl (by omega)
  repeat' (first | refine stpS ?_ | (refine stp2 ?_ ?_ <;> intro _) | refine RS.call1 rfl opds (hcnt _ _ (hS.ext ext (by omega))) none'W ?_ | refine RS.call1 rfl opds (hg2 _ _ (hS.ext ext (by omega))) none'W ?_ | refine RS.call1 rfl opds (hg1 _ _ (hS.ext ext (by omega))) none'W ?_)
  rfl
set_option maxHeartbeats 4000000 in
theorem law_BitsSets (N : Int) (l : List UInt8) (a : Option Addr) (n : Nat) (h : AH) (i : Int) (yes : Bool) (S : SlB h n a l) (hl : l.length ≤ 1048576) :
    RF Try.prog none' 3 #[.agg #[.int .i64 N, .slice a l.length l.length], .int .i64 i, .bool yes] n h (fun r _ _ => r = .bool true) := by
  refine RF.of Try.func3 rfl rfl (Nat.le_of_ble_eq_true rfl) ?_; dsimp only [argEnv]
  repeat' (first | refine stpS ?_ | (refine stp2 ?_ ?_ <;> intro _))
  refine RS.call rfl opds (small_rf N l a l.length _ _ (S.ext ext (by omega)) rfl) none'W ?_
  rintro r n1 h1 hle ⟨rfl, hE1, hS1⟩
  have hS1 : SlB h n a (l.take 4096) := SlB.takeA S 4096
  have hk : (l.take 4096).length ≤ 4096 := by rw [List.length_take]; omega
  repeat' (first | refine stpS ?_ | (refine stp2 ?_ ?_ <;> intro _))
  refine RS.call rfl opds (set_rf N (l.take 4096) a _ _ _ i yes (hS1.ext ext (by omega)) rfl (by omega)) none'W ?_
  rintro r n2 h2 hle2 ⟨v2, rfl, a2, rfl, hE2, hO2⟩
  repeat' (first | refine stpS ?_ | (refine stp2 ?_ ?_ <;> intro _))
  refine RS.call rfl opds (refSet_rf N (l.take 4096) a _ _ _ i yes (hS1.ext ext (by omega)) rfl (by omega)) none'W ?_
  rintro r n3 h3 hle3 ⟨v3, rfl, a3, rfl, hE3, hO3⟩
  have hS2 := hO2.slbE
  have hS3 := hO3.slbE
  repeat' (first | refine stp ?_ | (refine stp2 ?_ ?_ <;> intro _) | refine RS.call1 rfl opds (begun_ev _ _) none'W ?_ | refine RS.call1 rfl opds (get_ev _ _ _ _ _ _ _ (hS1.ext ext (by omega)) rfl (by omega)) none'W ?_ | refine RS.call1 rfl opds (refGet_ev _ _ _ _ _ _ _ (hS1.ext ext (by omega)) rfl (by omega)) none'W ?_ | refine RS.call1 rfl opds (exactT_ev _ _ _ _ _ _ _ (hS2.ext ext (by omega)) (hS3.ext ext (by omega)) rfl) none'W ?_ | refine RD.call1 _ rfl opds (begun_ev _ _) (Nat.le_refl _) cfc (fun _ => ?_) | refine RD.call1 _ rfl opds (get_ev _ _ _ _ _ _ _ (hS1.ext ext (by omega)) rfl (by omega)) (Nat.le_refl _) cfc (fun _ => ?_) | refine RD.call1 _ rfl opds (refGet_ev _ _ _ _ _ _ _ (hS1.ext ext (by omega)) rfl (by omega)) (Nat.le_refl _) cfc (fun _ => ?_) | refine RD.call1 _ rfl opds (exactT_ev _ _ _ _ _ _ _ (hS2.ext ext (by omega)) (hS3.ext ext (by omega)) rfl) (Nat.le_refl _) cfc (fun _ => ?_))
  rfl
end Go.Proofs.Ytnaklmjndiodfaa
