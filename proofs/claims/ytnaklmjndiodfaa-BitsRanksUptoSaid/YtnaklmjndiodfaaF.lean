/- Contracts of bits' functions: not, cut, the same. -/
import Derived.Test.YtnaklmjndiodfaaE
namespace Go.Proofs.Ytnaklmjndiodfaa
open Go.Abs

def flip8 (c : UInt8) : UInt8 := UInt8.ofNat (255 - c.toNat)
theorem flip8_bit (c : UInt8) {k : Nat} (hk : k < 8) : (flip8 c).toNat.testBit k = !c.toNat.testBit k := by
  have hc := c.toNat_lt
  unfold flip8
  rw [UInt8.toNat_ofNat', Nat.mod_eq_of_lt (by omega), show 255 - c.toNat = 2 ^ 8 - (c.toNat + 1) by omega, Nat.testBit_two_pow_sub_succ (by omega)]
  simp [hk]
theorem truths_not (t : List Bool) : truths t.length ((packB t).mapIdx fun _ c => flip8 c) = t.map (!·) := by
  have hl : ((packB t).mapIdx fun _ c => flip8 c).length = (t.length + 7) / 8 := by simp [packB_length]
  have hp : plc t.length ((packB t).mapIdx fun _ c => flip8 c).length = t.length := by rw [hl]; unfold plc; omega
  apply getD_ext
  · rw [truths_length, hp, List.length_map]; omega
  · intro i
    rw [truths_getD, hp]
    by_cases hi : i < t.length
    · have h8 : i / 8 < (packB t).length := by rw [packB_length]; omega
      have e : bitAt ((packB t).mapIdx fun _ c => flip8 c) i = !bitAt (packB t) i := by
        unfold bitAt
        have : ((packB t).mapIdx fun _ c => flip8 c).getD (i / 8) 0 = flip8 ((packB t).getD (i / 8) 0) := by simp [List.getD, h8]
        rw [this, flip8_bit _ (Nat.mod_lt _ (by decide))]
      rw [e, bitAt_packB]
      simp [List.getD, hi]
    · rw [decide_eq_false (by omega)]
      simp [List.getD, hi]
set_option maxHeartbeats 4000000 in
theorem not_rf (N : Int) (l : List UInt8) (a : Option Addr) (m n : Nat) (h : AH) (S : SlB h n a l) (e : m = l.length) (hm : m ≤ 137438953472) :
    RF Try.prog none' 39 #[.agg #[.int .i64 N, .slice a m m]] n h (BitsRes n h ((truths N l).map (!·))) := by
  subst e
  have hp := plc_le N l.length
  have htl := truths_length N l
  have hpl := packB_length (truths N l)
  refine RF.of Try.func39 rfl rfl (Nat.le_of_ble_eq_true rfl) ?_; dsimp only [argEnv]
  repeat' (first | refine stpS ?_ | (refine stp2 ?_ ?_ <;> intro _))
  refine RS.call rfl opds (whole_rf N l a l.length _ _ (S.ext ext (by omega)) rfl (by omega)) none'W ?_
  rintro r n1 h1 hle ⟨a1, rfl, hE1, hO1⟩
  repeat' (first | refine stpS ?_ | (refine stp2 ?_ ?_ <;> intro _))
  refine RC.loop ?_
  generalize hM : (packB (truths N l)).length = M at *
  refine RL.gen (fun g => Ext n h g ∧ g.info (n + 1) = some ⟨2, 0, true, 0⟩ ∧ g.info n1 = some ⟨2, 0, true, 0⟩ ∧ g.cell n1 0 = .int .i64 (truths N l).length ∧ g.cell n1 1 = .slice a1 M M ∧ OwnSl g (n + 1 + 1) (n1 + 1) a1 1 M (bytesV (updI (fun _ c => flip8 c) (packB (truths N l)) 0)))
    ⟨ext, info, info, cell, cell, by rw [updI_zero]; exact hO1.ext ext (by omega)⟩ ?_
  rintro g ⟨E0, I0, I1, C0, C1, O0⟩
  refine RL.inv (α := Nat) (fun i => [(10, .int .i64 (i : Nat)), (9, .int .i64 M), (3, .pointer (some ⟨n1, 0, none⟩)), (2, .pointer (some ⟨n + 1, 0, none⟩))])
    (fun i n2 h2 => i ≤ M ∧ n2 = n1 + 1 ∧ Ext n h h2 ∧ h2.info (n + 1) = some ⟨2, 0, true, 0⟩ ∧ h2.cell n1 0 = .int .i64 (truths N l).length ∧ h2.cell n1 1 = .slice a1 M M ∧
      OwnSl h2 (n + 1 + 1) (n1 + 1) a1 1 M (bytesV (updI (fun _ c => flip8 c) (packB (truths N l)) i)))
    (fun i => M - i) 0 envs ⟨by omega, rfl, E0, I0, C0, C1, O0⟩ ?_
  rintro i n2 h2 ⟨hi, rfl, hE2, G0, G1, G2, hO⟩
  have hS := hO.slbE
  have hul := updI_length (fun _ c => flip8 c) (packB (truths N l)) i
  by_cases hlt : i < M
  · obtain ⟨-, -, hhi1, -⟩ := hO1.facts (by omega)
    obtain ⟨ho, hlo, hhi, hI, hA, hC⟩ := hO.facts (by omega)
    rw [Nat.mul_one] at hI
    repeat' (first | refine stp ?_ | (refine stp2 ?_ ?_ <;> intro _))
    have e1 : (updI (fun _ c => flip8 c) (packB (truths N l)) i).getD i 0 = (packB (truths N l)).getD i 0 := updI_getD _ _ _ _
    have h3 := hO.set1 (i := i) (v := .int .u8 ((255 - ((updI (fun _ c => flip8 c) (packB (truths N l)) i).getD i 0).toNat : Nat) : Int)) (by omega) rfl
    rw [bytesV_set _ _ _ (by omega), e1, show UInt8.ofNat (255 - ((packB (truths N l)).getD i 0).toNat) = (fun _ c => flip8 c : Nat → UInt8 → UInt8) i ((packB (truths N l)).getD i 0) from rfl, ← updI_succ _ _ _ _ (by omega)] at h3
    have hx := ((updI (fun _ c => flip8 c) (packB (truths N l)) i).getD i 0).toNat_lt
    have eV : (255 - ((((updI (fun _ c => flip8 c) (packB (truths N l)) i).getD (i : Int).toNat 0).toNat : Nat) : Int)) = ((255 - ((updI (fun _ c => flip8 c) (packB (truths N l)) i).getD i 0).toNat : Nat) : Int) := by rw [Int.toNat_natCast]; omega
    rw [eV, e1]
    exact nextC.normal ⟨i + 1, by omega, envs, by omega, rfl, ext, info, cell, cell, h3⟩
  · repeat' (first | refine stp ?_ | (refine stp2 ?_ ?_ <;> intro _))
    rw [updI_all _ _ (by omega)] at hS
    refine RS.call rfl opds (whole_rf (truths N l).length ((packB (truths N l)).mapIdx fun _ c => flip8 c) a1 M _ _ (hS.ext ext (by omega)) (by simp; omega) (by omega)) none'W ?_
    rintro r n3 h3 hle3 ⟨a3, rfl, hE3, hO3⟩
    rw [truths_not] at hO3 ⊢
    repeat' (first | refine stp ?_ | (refine stp2 ?_ ?_ <;> intro _))
    refine ⟨a3, rfl, ext, ?_⟩
    exact (hO3.sets (by omega)).mono (by omega)
set_option maxHeartbeats 4000000 in
theorem refNot_rf (N : Int) (l : List UInt8) (a : Option Addr) (m n : Nat) (h : AH) (S : SlB h n a l) (e : m = l.length) (hm : m ≤ 137438953472) :
    RF Try.prog none' 41 #[.agg #[.int .i64 N, .slice a m m]] n h (BitsRes n h ((truths N l).map (!·))) := by
  subst e
  have hp := plc_le N l.length
  have htl := truths_length N l
  refine RF.of Try.func41 rfl rfl (Nat.le_of_ble_eq_true rfl) ?_; dsimp only [argEnv]
  repeat' (first | refine stpS ?_ | (refine stp2 ?_ ?_ <;> intro _))
  refine RS.call rfl opds (refList_rf N l a l.length _ _ (S.ext ext (by omega)) rfl (by omega)) none'W ?_
  rintro r n1 h1 hle ⟨a1, rfl, hE1, hO1⟩
  repeat' (first | refine stpS ?_ | (refine stp2 ?_ ?_ <;> intro _))
  refine RC.loop ?_
  generalize hM : (truths N l).length = M at *
  refine RL.inv (α := Nat) (fun i => [(4, .int .i64 (i : Nat)), (3, .slice a1 M M), (2, .pointer (some ⟨n + 1, 0, none⟩))])
    (fun i n2 h2 => i ≤ M ∧ n2 = n1 ∧ Ext n h h2 ∧ h2.info (n + 1) = some ⟨2, 0, true, 0⟩ ∧ OwnSl h2 (n + 1 + 1) n1 a1 1 M (boolsV (updI (fun _ c => !c) (truths N l) i)))
    (fun i => M - i) 0 envs ⟨by omega, rfl, ext, info, by rw [updI_zero]; exact hO1⟩ ?_
  rintro i n2 h2 ⟨hi, rfl, hE2, G0, hO⟩
  have hS := hO.slt
  have hul := updI_length (fun _ c => !c) (truths N l) i
  rw [hM] at hul
  by_cases hlt : i < M
  · obtain ⟨ho, hlo, hhi, hI, hA, hC⟩ := hO.facts (by omega)
    rw [Nat.mul_one] at hI
    repeat' (first | refine stpS ?_ | (refine stp2 ?_ ?_ <;> intro _))
    have e1 : (updI (fun _ c => !c) (truths N l) i).getD i false = (truths N l).getD i false := updI_getD _ _ _ _
    have h3 := hO.set1 (i := i) (v := .bool (!((updI (fun _ c => !c) (truths N l) i).getD i false))) (by omega) rfl
    rw [boolsV_set, e1, show (!((truths N l).getD i false)) = (fun _ c => !c : Nat → Bool → Bool) i ((truths N l).getD i false) from rfl, ← updI_succ _ _ _ _ (by omega)] at h3
    have eV : (!((updI (fun _ c => !c) (truths N l) i).getD (i : Int).toNat false)) = (fun _ c => !c : Nat → Bool → Bool) i ((truths N l).getD i false) := by rw [Int.toNat_natCast, e1]
    rw [eV]
    exact nextC.normal ⟨i + 1, by omega, envs, by omega, rfl, ext, info, h3⟩
  · repeat' (first | refine stpS ?_ | (refine stp2 ?_ ?_ <;> intro _))
    rw [updI_all _ _ (by omega)] at hS
    have e2 : ((truths N l).mapIdx fun _ c => !c) = (truths N l).map (!·) := by apply List.ext_getElem?; intro j; simp
    rw [e2] at hS
    refine RS.call rfl opds (refOf_rf ((truths N l).map (!·)) a1 M _ _ hS (by simp [hM]) (by omega)) none'W ?_
    rintro r n3 h3 hle3 ⟨a3, rfl, hE3, hO3⟩
    repeat' (first | refine stpS ?_ | (refine stp2 ?_ ?_ <;> intro _))
    refine ⟨a3, rfl, ext, ?_⟩
    exact (hO3.sets (by omega)).mono (by omega)
/-- The truths from a place on, so many. -/
def cutT (t : List Bool) (f k : Int) : List Bool := (t.drop (min (max f 0) t.length).toNat).take (max k 0).toNat
theorem SlT.cut {h : AH} {n : Nat} {a : Option Addr} {t : List Bool} (S : SlT h n a t) {i u : Nat} (hi : i ≤ u) (hu : u ≤ t.length) : SlT h n (sub a i) ((t.take u).drop i) := by
  have s := SlR.sub S hi hu
  rw [Nat.mul_one] at s
  have hl : ((t.take u).drop i).length = u - i := by simp; omega
  unfold SlT
  rw [hl]
  refine s.congr fun j hj => ?_
  rw [Nat.mul_one] at hj
  simp only [boolsF, List.getD, List.getElem?_drop, List.getElem?_take]
  rw [if_pos (by omega)]
set_option maxHeartbeats 4000000 in
theorem cut_rf (N : Int) (l : List UInt8) (a : Option Addr) (m n : Nat) (h : AH) (f k : Int) (S : SlB h n a l) (e : m = l.length) (hm : m ≤ 137438953472) (hf : -9223372036854775808 ≤ f ∧ f ≤ 9223372036854775807) (hk : -9223372036854775808 ≤ k ∧ k ≤ 9223372036854775807) :
    RF Try.prog none' 34 #[.agg #[.int .i64 N, .slice a m m], .int .i64 f, .int .i64 k] n h (BitsRes n h (cutT (truths N l) f k)) := by
  subst e
  have hp := plc_le N l.length
  have htl := truths_length N l
  refine RF.of Try.func34 rfl rfl (Nat.le_of_ble_eq_true rfl) ?_; dsimp only [argEnv]
  repeat' (first | refine stpS ?_ | (refine stp2 ?_ ?_ <;> intro _))
  refine RS.call rfl opds (list_rf N l a l.length _ _ (S.ext ext (by omega)) rfl (by omega)) none'W ?_
  rintro r n1 h1 hle ⟨a1, rfl, hE1, hO1⟩
  have hS := hO1.slt
  have hsh : Shp h1 n1 (sub a1 (min (max f 0) ((truths N l).length : Int)).toNat) 1 ((truths N l).length - (min (max f 0) ((truths N l).length : Int)).toNat) := by
    have := (Shp.of hS).sub (l := (min (max f 0) ((truths N l).length : Int)).toNat) (u := (truths N l).length) (by omega) (by omega)
    rwa [Nat.mul_one] at this
  repeat' (first | refine stpS ?_ | (refine stp2 ?_ ?_ <;> intro _))
  have hS2 := SlT.cut hS (i := (min (max f 0) ((truths N l).length : Int)).toNat) (u := (min (max f 0) ((truths N l).length : Int)).toNat + (min (max k 0) (((truths N l).length - (min (max f 0) ((truths N l).length : Int)).toNat : Nat) : Int)).toNat) (by omega) (by omega)
  have hc : (List.drop (min (max f 0) ((truths N l).length : Int)).toNat (List.take ((min (max f 0) ((truths N l).length : Int)).toNat + (min (max k 0) (((truths N l).length - (min (max f 0) ((truths N l).length : Int)).toNat : Nat) : Int)).toNat) (truths N l))) = cutT (truths N l) f k := by
    unfold cutT
    rw [List.drop_take, Nat.add_sub_cancel_left]
    by_cases hk2 : max k 0 ≤ (((truths N l).length - (min (max f 0) ((truths N l).length : Int)).toNat : Nat) : Int)
    · congr 1; omega
    · rw [List.take_of_length_le (by rw [List.length_drop]; omega), List.take_of_length_le (by rw [List.length_drop]; omega)]
  have hcl : (cutT (truths N l) f k).length = (min (max k 0) (((truths N l).length - (min (max f 0) ((truths N l).length : Int)).toNat : Nat) : Int)).toNat := by
    rw [← hc, List.length_drop, List.length_take]; omega
  rw [hc] at hS2
  refine RS.call rfl opds (of_rf (cutT (truths N l) f k) _ _ _ _ hS2 hcl.symm (by omega)) none'W ?_
  rintro r n2 h2 hle2 ⟨a2, rfl, hE2, hO2⟩
  repeat' (first | refine stpS ?_ | (refine stp2 ?_ ?_ <;> intro _))
  refine ⟨a2, rfl, ext, ?_⟩
  exact (hO2.sets (by omega)).mono (by omega)
set_option maxHeartbeats 4000000 in
theorem refCut_rf (N : Int) (l : List UInt8) (a : Option Addr) (m n : Nat) (h : AH) (f k : Int) (S : SlB h n a l) (e : m = l.length) (hm : m ≤ 137438953472) (hf : -9223372036854775808 ≤ f ∧ f ≤ 9223372036854775807) (hk : -9223372036854775808 ≤ k ∧ k ≤ 9223372036854775807) :
    RF Try.prog none' 42 #[.agg #[.int .i64 N, .slice a m m], .int .i64 f, .int .i64 k] n h (BitsRes n h (cutT (truths N l) f k)) := by
  subst e
  have hp := plc_le N l.length
  have htl := truths_length N l
  refine RF.of Try.func42 rfl rfl (Nat.le_of_ble_eq_true rfl) ?_; dsimp only [argEnv]
  repeat' (first | refine stpS ?_ | (refine stp2 ?_ ?_ <;> intro _))
  refine RS.call rfl opds (refList_rf N l a l.length _ _ (S.ext ext (by omega)) rfl (by omega)) none'W ?_
  rintro r n1 h1 hle ⟨a1, rfl, hE1, hO1⟩
  have hS := hO1.slt
  repeat' (first | refine stpS ?_ | (refine stp2 ?_ ?_ <;> intro _))
  generalize hF : (min (max f 0) ((truths N l).length : Int)) = F
  generalize hK : min (max k 0) (((truths N l).length : Int) - F) = K
  have hS2 := SlT.cut hS (i := F.toNat) (u := (F + K).toNat) (by omega) (by omega)
  have hc : (List.drop F.toNat (List.take (F + K).toNat (truths N l))) = cutT (truths N l) f k := by
    unfold cutT
    rw [hF, List.drop_take]
    by_cases hk2 : max k 0 ≤ ((truths N l).length : Int) - F
    · congr 1; omega
    · rw [List.take_of_length_le (by rw [List.length_drop]; omega), List.take_of_length_le (by rw [List.length_drop]; omega)]
  have hcl : (cutT (truths N l) f k).length = (F + K).toNat - F.toNat := by
    rw [← hc, List.length_drop, List.length_take]; omega
  rw [hc] at hS2
  refine RS.call rfl opds (refOf_rf (cutT (truths N l) f k) _ _ _ _ hS2 hcl.symm (by omega)) none'W ?_
  rintro r n2 h2 hle2 ⟨a2, rfl, hE2, hO2⟩
  repeat' (first | refine stpS ?_ | (refine stp2 ?_ ?_ <;> intro _))
  refine ⟨a2, rfl, ext, ?_⟩
  exact (hO2.sets (by omega)).mono (by omega)
set_option maxHeartbeats 4000000 in
theorem same_ev (N M : Int) (l k : List UInt8) (a b : Option Addr) (m m2 n : Nat) (h : AH) (S : SlB h n a l) (S2 : SlB h n b k) (e : m = l.length) (e2 : m2 = k.length) (hm : m ≤ 137438953472) (hm2 : m2 ≤ 137438953472) :
    Ev Try.prog none' 35 #[.agg #[.int .i64 N, .slice a m m], .agg #[.int .i64 M, .slice b m2 m2]] n h (.bool (decide (truths N l = truths M k))) n h := by
  subst e; subst e2
  have hp := plc_le N l.length
  have htl := truths_length N l
  have hpl := packB_length (truths N l)
  have hp2 := plc_le M k.length
  have htl2 := truths_length M k
  have hpl2 := packB_length (truths M k)
  refine RF.pure rfl fun n' hn => ?_
  have S := S.ext (Ext.refl n h) hn
  have S2 := S2.ext (Ext.refl n h) hn
  refine RF.of Try.func35 rfl rfl (Nat.le_of_ble_eq_true rfl) ?_; dsimp only [argEnv]
  repeat' (first | refine stp ?_ | (refine stp2 ?_ ?_ <;> intro _))
  refine RD.call _ rfl opds (whole_rf N l a _ _ _ (S.ext ext (by omega)) rfl (by omega)) (Nat.le_refl _) cfc ?_
  rintro r n1 h1 hle ⟨a1, rfl, hE1, hO1⟩
  repeat' (first | refine stp ?_ | (refine stp2 ?_ ?_ <;> intro _))
  refine RD.call n1 rfl opds (whole_rf M k b _ _ _ (S2.ext ext (by omega)) rfl (by omega)) (Nat.le_refl _) cfc ?_
  rintro r n2 h2 hle2 ⟨a2, rfl, hE2, hO2⟩
  have hS1 := hO1.slbE
  have hS2 := hO2.slbE
  repeat' (first | refine stp ?_ | (refine stp2 ?_ ?_ <;> intro _))
  · rename_i hlen
    by_cases ht : truths N l = truths M k
    · rw [decide_eq_true ht]
      repeat' (first | refine stp ?_ | (refine stp2 ?_ ?_ <;> intro _) | refine RS.call1 rfl opds (eqBytesT_ev _ _ _ _ _ _ _ _ (hS1.ext ext (by omega)) (hS2.ext ext (by omega)) rfl rfl (by omega) (by omega) (by rw [ht])) none'W ?_ | refine RD.call1 _ rfl opds (eqBytesT_ev _ _ _ _ _ _ _ _ (hS1.ext ext (by omega)) (hS2.ext ext (by omega)) rfl rfl (by omega) (by omega) (by rw [ht])) (Nat.le_refl _) cfc (fun _ => ?_))
      rfl
    · rw [decide_eq_false ht]
      repeat' (first | refine stp ?_ | (refine stp2 ?_ ?_ <;> intro _) | refine RS.call1 rfl opds (eqBytesF_ev _ _ _ _ _ _ _ _ (hS1.ext ext (by omega)) (hS2.ext ext (by omega)) rfl rfl (by omega) (by omega) (fun q => ht (pack_inj (by omega) q))) none'W ?_ | refine RD.call1 _ rfl opds (eqBytesF_ev _ _ _ _ _ _ _ _ (hS1.ext ext (by omega)) (hS2.ext ext (by omega)) rfl rfl (by omega) (by omega) (fun q => ht (pack_inj (by omega) q))) (Nat.le_refl _) cfc (fun _ => ?_))
      rfl
  · rename_i hlen
    rw [decide_eq_false (fun q => hlen (by rw [q]))]
set_option maxHeartbeats 4000000 in
theorem refSame_ev (N M : Int) (l k : List UInt8) (a b : Option Addr) (m m2 n : Nat) (h : AH) (S : SlB h n a l) (S2 : SlB h n b k) (e : m = l.length) (e2 : m2 = k.length) (hm : m ≤ 137438953472) (hm2 : m2 ≤ 137438953472) :
    Ev Try.prog none' 43 #[.agg #[.int .i64 N, .slice a m m], .agg #[.int .i64 M, .slice b m2 m2]] n h (.bool (decide (truths N l = truths M k))) n h := by
  subst e; subst e2
  have hp := plc_le N l.length
  have htl := truths_length N l
  have hp2 := plc_le M k.length
  have htl2 := truths_length M k
  refine RF.pure rfl fun n' hn => ?_
  have S := S.ext (Ext.refl n h) hn
  have S2 := S2.ext (Ext.refl n h) hn
  refine RF.of Try.func43 rfl rfl (Nat.le_of_ble_eq_true rfl) ?_; dsimp only [argEnv]
  repeat' (first | refine stp ?_ | (refine stp2 ?_ ?_ <;> intro _))
  refine RS.call rfl opds (refList_rf N l a _ _ _ (S.ext ext (by omega)) rfl (by omega)) none'W ?_
  rintro r n1 h1 hle ⟨a1, rfl, hE1, hO1⟩
  repeat' (first | refine stp ?_ | (refine stp2 ?_ ?_ <;> intro _))
  refine RS.call rfl opds (refList_rf M k b _ _ _ (S2.ext ext (by omega)) rfl (by omega)) none'W ?_
  rintro r n2 h2 hle2 ⟨a2, rfl, hE2, hO2⟩
  have hS1 := hO1.slt
  have hS2 := hO2.slt
  generalize hT : truths N l = t at *
  generalize hU : truths M k = u at *
  by_cases hl : t.length = u.length
  · repeat' (first | refine stp ?_ | (refine stp2 ?_ ?_ <;> intro _))
    refine RC.loop ?_
    refine RL.inv (α := Nat) (fun i => [(7, .int .i64 (i : Nat)), (5, .slice a1 t.length t.length), (6, .slice a2 u.length u.length)])
      (fun i n3 h3 => i ≤ t.length ∧ n3 = n2 ∧ h3 = h2 ∧ ∀ j, j < i → t.getD j false = u.getD j false) (fun i => t.length - i) 0 envs ⟨by omega, rfl, rfl, fun j hj => by omega⟩ ?_
    rintro i n3 h3 ⟨hi, rfl, rfl, hj⟩
    by_cases hlt : i < t.length
    · repeat' (first | refine stp ?_ | (refine stp2 ?_ ?_ <;> intro _))
      · rename_i hne
        have : t ≠ u := fun e => hne (by rw [e])
        simp [this]
      · rename_i hne
        have he : t.getD i false = u.getD i false := Decidable.not_not.1 hne
        refine nextC.normal ⟨i + 1, by omega, envs, by omega, rfl, rfl, fun j hj' => ?_⟩
        by_cases e : j = i
        · subst e; exact he
        · exact hj j (by omega)
    · repeat' (first | refine stp ?_ | (refine stp2 ?_ ?_ <;> intro _))
      have : t = u := getD_ext hl fun j => by
        by_cases hj' : j < t.length
        · exact hj j (by omega)
        · simp only [List.getD]; rw [List.getElem?_eq_none (by omega), List.getElem?_eq_none (by omega)]
      simp [this]
  · repeat' (first | refine stp ?_ | (refine stp2 ?_ ?_ <;> intro _))
    have : t ≠ u := fun e => hl (by rw [e])
    simp [this]
end Go.Proofs.Ytnaklmjndiodfaa
