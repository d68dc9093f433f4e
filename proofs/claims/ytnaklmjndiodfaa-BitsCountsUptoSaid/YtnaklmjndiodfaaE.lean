/- Contracts of bits' functions: equal rows, which bits may be; the law BitsMakes. -/
import Derived.Test.YtnaklmjndiodfaaD
namespace Go.Proofs.Ytnaklmjndiodfaa
open Go.Abs

set_option maxHeartbeats 4000000 in
theorem eqBools_ev (t u : List Bool) (a b : Option Addr) (m k n : Nat) (h : AH) (S : SlT h n a t) (S2 : SlT h n b u) (e : m = t.length) (e2 : k = u.length) (hm : m ≤ 1099511627776) (hk : k ≤ 1099511627776) :
    Ev Try.prog none' 20 #[.slice a m m, .slice b k k] n h (.bool (decide (t = u))) n h := by
  subst e; subst e2
  refine RF.pure rfl fun n' hn => ?_
  have S := S.ext (Ext.refl n h) hn
  have S2 := S2.ext (Ext.refl n h) hn
  refine RF.of Try.func20 rfl rfl (Nat.le_of_ble_eq_true rfl) ?_; dsimp only [argEnv]
  by_cases hl : t.length = u.length
  · repeat' (first | refine stpS ?_ | (refine stp2 ?_ ?_ <;> intro _))
    refine RC.loop ?_
    refine RL.inv (α := Nat) (fun i => [(13, .int .i64 (i : Nat)), (12, .int .i64 t.length), (0, .slice a t.length t.length), (1, .slice b u.length u.length)])
      (fun i n1 h1 => i ≤ t.length ∧ n1 = n' ∧ h1 = h ∧ ∀ j, j < i → t.getD j false = u.getD j false) (fun i => t.length - i) 0 envs ⟨by omega, rfl, rfl, fun j hj => by omega⟩ ?_
    rintro i n1 h1 ⟨hi, rfl, rfl, hj⟩
    by_cases hlt : i < t.length
    · repeat' (first | refine stp ?_ | (refine stp2 ?_ ?_ <;> intro _))
      · rename_i hne
        have : t ≠ u := fun e => hne (by rw [e])
        simp [this]
      · rename_i hne
        have he : t.getD i false = u.getD i false := Decidable.not_not.1 hne
        refine nextC.normal ⟨i + 1, by omega, envs, by omega, rfl, rfl, fun j hj' => ?_⟩
        by_cases e : j = i
        · subst e; exact he
        · exact hj j (by omega)
    · repeat' (first | refine stp ?_ | (refine stp2 ?_ ?_ <;> intro _))
      have : t = u := getD_ext hl fun j => by
        by_cases hj' : j < t.length
        · exact hj j (by omega)
        · simp only [List.getD]; rw [List.getElem?_eq_none (by omega), List.getElem?_eq_none (by omega)]
      simp [this]
  · repeat' (first | refine stpS ?_ | (refine stp2 ?_ ?_ <;> intro _))
    have : t ≠ u := fun e => hl (by rw [e])
    simp [this]
set_option maxHeartbeats 4000000 in
theorem eqBytes_ev (t u : List UInt8) (a b : Option Addr) (m k n : Nat) (h : AH) (S : SlB h n a t) (S2 : SlB h n b u) (e : m = t.length) (e2 : k = u.length) (hm : m ≤ 1099511627776) (hk : k ≤ 1099511627776) :
    Ev Try.prog none' 48 #[.slice a m m, .slice b k k] n h (.bool (decide (t = u))) n h := by
  subst e; subst e2
  refine RF.pure rfl fun n' hn => ?_
  have S := S.ext (Ext.refl n h) hn
  have S2 := S2.ext (Ext.refl n h) hn
  refine RF.of Try.func48 rfl rfl (Nat.le_of_ble_eq_true rfl) ?_; dsimp only [argEnv]
  by_cases hl : t.length = u.length
  · repeat' (first | refine stpS ?_ | (refine stp2 ?_ ?_ <;> intro _))
    refine RC.loop ?_
    refine RL.inv (α := Nat) (fun i => [(13, .int .i64 (i : Nat)), (12, .int .i64 t.length), (0, .slice a t.length t.length), (1, .slice b u.length u.length)])
      (fun i n1 h1 => i ≤ t.length ∧ n1 = n' ∧ h1 = h ∧ ∀ j, j < i → t.getD j 0 = u.getD j 0) (fun i => t.length - i) 0 envs ⟨by omega, rfl, rfl, fun j hj => by omega⟩ ?_
    rintro i n1 h1 ⟨hi, rfl, rfl, hj⟩
    by_cases hlt : i < t.length
    · repeat' (first | refine stp ?_ | (refine stp2 ?_ ?_ <;> intro _))
      · rename_i hne
        have : t ≠ u := fun e => hne (by rw [e])
        simp [this]
      · rename_i hne
        have he : t.getD i 0 = u.getD i 0 := by
          exact UInt8.toNat_inj.1 (Int.ofNat.inj (Decidable.not_not.1 hne))
        refine nextC.normal ⟨i + 1, by omega, envs, by omega, rfl, rfl, fun j hj' => ?_⟩
        by_cases e : j = i
        · subst e; exact he
        · exact hj j (by omega)
    · repeat' (first | refine stp ?_ | (refine stp2 ?_ ?_ <;> intro _))
      have : t = u := by
        apply List.ext_getElem hl
        intro j h1 h2
        have := hj j (by omega)
        simpa [List.getD, h1, h2] using this
      simp [this]
  · repeat' (first | refine stpS ?_ | (refine stp2 ?_ ?_ <;> intro _))
    have : t ≠ u := fun e => hl (by rw [e])
    simp [this]
theorem eqBytesT_ev (t u : List UInt8) (a b : Option Addr) (m k n : Nat) (h : AH) (S : SlB h n a t) (S2 : SlB h n b u) (e : m = t.length) (e2 : k = u.length) (hm : m ≤ 1099511627776) (hk : k ≤ 1099511627776) (he : t = u) :
    Ev Try.prog none' 48 #[.slice a m m, .slice b k k] n h (.bool true) n h := by
  have := eqBytes_ev t u a b m k n h S S2 e e2 hm hk
  rwa [decide_eq_true he] at this
theorem eqBytesF_ev (t u : List UInt8) (a b : Option Addr) (m k n : Nat) (h : AH) (S : SlB h n a t) (S2 : SlB h n b u) (e : m = t.length) (e2 : k = u.length) (hm : m ≤ 1099511627776) (hk : k ≤ 1099511627776) (he : t ≠ u) :
    Ev Try.prog none' 48 #[.slice a m m, .slice b k k] n h (.bool false) n h := by
  have := eqBytes_ev t u a b m k n h S S2 e e2 hm hk
  rwa [decide_eq_false he] at this
theorem eqBoolsT_ev (t : List Bool) (a b : Option Addr) (m k n : Nat) (h : AH) (S : SlT h n a t) (S2 : SlT h n b t) (e : m = t.length) (e2 : k = t.length) (hm : m ≤ 1099511627776) (hk : k ≤ 1099511627776) :
    Ev Try.prog none' 20 #[.slice a m m, .slice b k k] n h (.bool true) n h := by
  have := eqBools_ev t t a b m k n h S S2 e e2 hm hk
  rwa [decide_eq_true rfl] at this
/-- Which bits may be. -/
def chk (N : Int) (l : List UInt8) : Int := if N = plc N l.length ∧ packB (truths N l) = l then 0 else 70
set_option maxHeartbeats 4000000 in
theorem check_ev (N : Int) (l : List UInt8) (a : Option Addr) (m n : Nat) (h : AH) (S : SlB h n a l) (e : m = l.length) (hm : m ≤ 137438953472) :
    Ev Try.prog none' 23 #[.agg #[.int .i64 N, .slice a m m]] n h (.int .i64 (chk N l)) n h := by
  subst e
  have hp := plc_le N l.length
  have htl := truths_length N l
  have hpl := packB_length (truths N l)
  refine RF.pure rfl fun n' hn => ?_
  have S := S.ext (Ext.refl n h) hn
  refine RF.of Try.func23 rfl rfl (Nat.le_of_ble_eq_true rfl) ?_; dsimp only [argEnv]
  repeat' (first | refine stpS ?_ | (refine stp2 ?_ ?_ <;> intro _))
  refine RS.call rfl opds (whole_rf N l a l.length _ _ (S.ext ext (by omega)) rfl (by omega)) none'W ?_
  rintro r n1 h1 hle ⟨a1, rfl, hE1, hO1⟩
  have hS := hO1.slbE
  by_cases hN : N = plc N l.length
  · by_cases hl : packB (truths N l) = l
    · repeat' (first | refine stpS ?_ | (refine stp2 ?_ ?_ <;> intro _) | refine RS.call1 rfl opds (eqBytesT_ev (packB (truths N l)) l _ _ _ _ _ _ (hS.ext ext (by omega)) (S.ext ext (by omega)) rfl rfl (by omega) (by omega) hl) none'W ?_)
      simp only [chk, if_pos (And.intro hN hl)]
    · repeat' (first | refine stpS ?_ | (refine stp2 ?_ ?_ <;> intro _) | refine RS.call1 rfl opds (eqBytesF_ev (packB (truths N l)) l _ _ _ _ _ _ (hS.ext ext (by omega)) (S.ext ext (by omega)) rfl rfl (by omega) (by omega) hl) none'W ?_)
      simp only [chk, if_neg (fun h : _ ∧ _ => hl h.2)]
  · repeat' (first | refine stpS ?_ | (refine stp2 ?_ ?_ <;> intro _))
    simp only [chk, if_neg (fun h : _ ∧ _ => hN h.1)]
theorem exactF_ev (N M : Int) (l k : List UInt8) (a b : Option Addr) (m m2 n : Nat) (h : AH) (S : SlB h n a l) (S2 : SlB h n b k) (e : m = l.length) (e2 : m2 = k.length) (he : ¬ (N = M ∧ l = k)) :
    Ev Try.prog none' 17 #[.agg #[.int .i64 N, .slice a m m], .agg #[.int .i64 M, .slice b m2 m2]] n h (.bool false) n h := by
  have := exact_ev N M l k a b m m2 n h S S2 e e2
  rwa [show (decide (N = M) && decide (l = k)) = false by rw [← Bool.decide_and]; exact decide_eq_false he] at this
theorem exactE_ev (N M : Int) (l k : List UInt8) (a b : Option Addr) (m m2 n : Nat) (h : AH) (S : SlB h n a l) (S2 : SlB h n b k) (e : m = l.length) (e2 : m2 = k.length) (he : N = M ∧ l = k) :
    Ev Try.prog none' 17 #[.agg #[.int .i64 N, .slice a m m], .agg #[.int .i64 M, .slice b m2 m2]] n h (.bool true) n h := by
  have := exact_ev N M l k a b m m2 n h S S2 e e2
  rwa [show (decide (N = M) && decide (l = k)) = true by rw [← Bool.decide_and]; exact decide_eq_true he] at this
set_option maxHeartbeats 4000000 in
theorem refCheck_ev (N : Int) (l : List UInt8) (a : Option Addr) (m n : Nat) (h : AH) (S : SlB h n a l) (e : m = l.length) (hm : m ≤ 137438953472) :
    Ev Try.prog none' 24 #[.agg #[.int .i64 N, .slice a m m]] n h (.int .i64 (chk N l)) n h := by
  subst e
  have hp := plc_le N l.length
  have htl := truths_length N l
  have hpl := packB_length (truths N l)
  refine RF.pure rfl fun n' hn => ?_
  have S := S.ext (Ext.refl n h) hn
  refine RF.of Try.func24 rfl rfl (Nat.le_of_ble_eq_true rfl) ?_; dsimp only [argEnv]
  by_cases h0 : N < 0
  · repeat' (first | refine stp ?_ | (refine stp2 ?_ ?_ <;> intro _))
    simp only [chk, if_neg (show ¬ (N = plc N l.length ∧ packB (truths N l) = l) from fun h => by omega)]
  · repeat' (first | refine stp ?_ | (refine stp2 ?_ ?_ <;> intro _))
    refine RD.call _ rfl opds (refList_rf N l a l.length _ _ (S.ext ext (by omega)) rfl (by omega)) (Nat.le_refl _) cfc ?_
    rintro r n1 h1 hle ⟨a1, rfl, hE1, hO1⟩
    repeat' (first | refine stp ?_ | (refine stp2 ?_ ?_ <;> intro _))
    refine RD.call _ rfl opds (refOf_rf (truths N l) a1 _ _ _ (hO1.slt.ext ext (by omega)) rfl (by omega)) (Nat.le_refl _) cfc ?_
    rintro r n2 h2 hle2 ⟨a2, rfl, hE2, hO2⟩
    have hS2 := hO2.slbE
    by_cases hN : N = plc N l.length ∧ packB (truths N l) = l
    · repeat' (first | refine stp ?_ | (refine stp2 ?_ ?_ <;> intro _) | refine RS.call1 rfl opds (exactE_ev _ _ _ _ _ _ _ _ _ _ (S.ext ext (by omega)) (hS2.ext ext (by omega)) rfl rfl ⟨by omega, hN.2.symm⟩) none'W ?_ | refine RD.call1 _ rfl opds (exactE_ev _ _ _ _ _ _ _ _ _ _ (S.ext ext (by omega)) (hS2.ext ext (by omega)) rfl rfl ⟨by omega, hN.2.symm⟩) (Nat.le_refl _) cfc (fun _ => ?_))
      simp only [chk, if_pos hN]
    · repeat' (first | refine stp ?_ | (refine stp2 ?_ ?_ <;> intro _) | refine RS.call1 rfl opds (exactF_ev _ _ _ _ _ _ _ _ _ _ (S.ext ext (by omega)) (hS2.ext ext (by omega)) rfl rfl (fun q => hN ⟨by omega, q.2.symm⟩)) none'W ?_ | refine RD.call1 _ rfl opds (exactF_ev _ _ _ _ _ _ _ _ _ _ (S.ext ext (by omega)) (hS2.ext ext (by omega)) rfl rfl (fun q => hN ⟨by omega, q.2.symm⟩)) (Nat.le_refl _) cfc (fun _ => ?_))
      simp only [chk, if_neg hN]
set_option maxHeartbeats 4000000 in
theorem refNew_rf (c : Int) (n : Nat) (h : AH) (hc : -9223372036854775808 ≤ c) (hc2 : c ≤ 9223372036854775807) :
    RF Try.prog none' 26 #[.int .i64 c] n h (BitsRes n h (List.replicate (min (max c 0) 1048576).toNat false)) := by
  refine RF.of Try.func26 rfl rfl (Nat.le_of_ble_eq_true rfl) ?_; dsimp only [argEnv]
  repeat' (first | refine stpS ?_ | (refine stp2 ?_ ?_ <;> intro _))
  have hO := OwnSl.slt (t := List.replicate (min (max c 0) 1048576).toNat false) (OwnSl.new1 (h := h.app (.new n ⟨2, 0, true, 0⟩ [.int .i64 0, .slice none 0 0])) (n0 := n + 1) (n := n + 1) (m := (min (max c 0) 1048576).toNat) (Nat.le_refl _) (by simp [boolsV]) (by
    rw [boolsV, List.map_replicate]; exact known_replicate _ _ rfl))
  rw [boolsV, List.map_replicate] at hO
  refine RS.call rfl opds (refOf_rf _ _ _ _ _ hO (by simp) (by omega)) none'W ?_
  rintro r n1 h1 hle ⟨a1, rfl, hE1, hO1⟩
  repeat' (first | refine stpS ?_ | (refine stp2 ?_ ?_ <;> intro _))
  refine ⟨a1, rfl, ext, ?_⟩
  exact (hO1.sets (by omega)).mono (by omega)
set_option maxHeartbeats 4000000 in
theorem law_BitsMakes (t : List Bool) (c : Option Addr) (N : Int) (l : List UInt8) (a : Option Addr) (n : Nat) (h : AH) (k : Int) (S : SlB h n a l) (S2 : SlT h n c t) (hl : l.length ≤ 1048576) (ht : t.length ≤ 1048576) (hk : 0 ≤ k ∧ k < 65536) :
    RF Try.prog none' 4 #[.slice c t.length t.length, .agg #[.int .i64 N, .slice a l.length l.length], .int .u16 k] n h (fun r _ _ => r = .bool true) := by
  refine RF.of Try.func4 rfl rfl (Nat.le_of_ble_eq_true rfl) ?_; dsimp only [argEnv]
  repeat' (first | refine stpS ?_ | (refine stp2 ?_ ?_ <;> intro _))
  refine RS.call rfl opds (small_rf N l a l.length _ _ (S.ext ext (by omega)) rfl) none'W ?_
  rintro r n1 h1 hle ⟨rfl, hE1, -⟩
  have hS1 : SlB h n a (l.take 4096) := SlB.takeA S 4096
  have hq : (l.take 4096).length ≤ 4096 := by rw [List.length_take]; omega
  have hp := plc_le N (l.take 4096).length
  have htl := truths_length N (l.take 4096)
  obtain ⟨hk0, hk1⟩ := hk
  repeat' (first | refine stp ?_ | (refine stp2 ?_ ?_ <;> intro _) | refine RS.call1 rfl opds (begun_ev _ _) none'W ?_ | refine RD.call1 _ rfl opds (begun_ev _ _) (Nat.le_refl _) cfc (fun _ => ?_))
  refine RD.call _ rfl opds (of_rf t c _ _ _ (S2.ext ext (by omega)) rfl (by omega)) (Nat.le_refl _) cfc ?_
  rintro r n2 h2 hle2 ⟨a2, rfl, hE2, hO2⟩
  repeat' (first | refine stp ?_ | (refine stp2 ?_ ?_ <;> intro _))
  refine RD.call _ rfl opds (refOf_rf t c _ _ _ (S2.ext ext (by omega)) rfl (by omega)) (Nat.le_refl _) cfc ?_
  rintro r n3 h3 hle3 ⟨a3, rfl, hE3, hO3⟩
  have hS2 := hO2.slbE
  have hS3 := hO3.slbE
  repeat' (first | refine stp ?_ | (refine stp2 ?_ ?_ <;> intro _) | refine RS.call1 rfl opds (exactT_ev _ _ _ _ _ _ _ (hS2.ext ext (by omega)) (hS3.ext ext (by omega)) rfl) none'W ?_ | refine RD.call1 _ rfl opds (exactT_ev _ _ _ _ _ _ _ (hS2.ext ext (by omega)) (hS3.ext ext (by omega)) rfl) (Nat.le_refl _) cfc (fun _ => ?_))
  refine RD.call _ rfl opds (list_rf N (l.take 4096) a _ _ _ (hS1.ext ext (by omega)) rfl (by omega)) (Nat.le_refl _) cfc ?_
  rintro r n4 h4 hle4 ⟨a4, rfl, hE4, hO4⟩
  repeat' (first | refine stp ?_ | (refine stp2 ?_ ?_ <;> intro _))
  refine RD.call _ rfl opds (refList_rf N (l.take 4096) a _ _ _ (hS1.ext ext (by omega)) rfl (by omega)) (Nat.le_refl _) cfc ?_
  rintro r n5 h5 hle5 ⟨a5, rfl, hE5, hO5⟩
  repeat' (first | refine stp ?_ | (refine stp2 ?_ ?_ <;> intro _) | refine RS.call1 rfl opds (eqBoolsT_ev _ _ _ _ _ _ _ (hO4.slt.ext ext (by omega)) (hO5.slt.ext ext (by omega)) rfl rfl (by omega) (by omega)) none'W ?_ | refine RS.call1 rfl opds (check_ev _ _ _ _ _ _ (hS1.ext ext (by omega)) rfl (by omega)) none'W ?_ | refine RS.call1 rfl opds (refCheck_ev _ _ _ _ _ _ (hS1.ext ext (by omega)) rfl (by omega)) none'W ?_ | refine RD.call1 _ rfl opds (eqBoolsT_ev _ _ _ _ _ _ _ (hO4.slt.ext ext (by omega)) (hO5.slt.ext ext (by omega)) rfl rfl (by omega) (by omega)) (Nat.le_refl _) cfc (fun _ => ?_) | refine RD.call1 _ rfl opds (check_ev _ _ _ _ _ _ (hS1.ext ext (by omega)) rfl (by omega)) (Nat.le_refl _) cfc (fun _ => ?_) | refine RD.call1 _ rfl opds (refCheck_ev _ _ _ _ _ _ (hS1.ext ext (by omega)) rfl (by omega)) (Nat.le_refl _) cfc (fun _ => ?_))
  refine RD.call _ rfl opds (new_rf k _ _ (by omega) (by omega)) (Nat.le_refl _) cfc ?_
  rintro r n6 h6 hle6 ⟨a6, rfl, hE6, hO6⟩
  repeat' (first | refine stp ?_ | (refine stp2 ?_ ?_ <;> intro _))
  refine RD.call _ rfl opds (refNew_rf k _ _ (by omega) (by omega)) (Nat.le_refl _) cfc ?_
  rintro r n7 h7 hle7 ⟨a7, rfl, hE7, hO7⟩
  have hS6 := hO6.slbE
  have hS7 := hO7.slbE
  repeat' (first | refine stp ?_ | (refine stp2 ?_ ?_ <;> intro _) | refine RS.call1 rfl opds (exactT_ev _ _ _ _ _ _ _ (hS6.ext ext (by omega)) (hS7.ext ext (by omega)) rfl) none'W ?_ | refine RD.call1 _ rfl opds (exactT_ev _ _ _ _ _ _ _ (hS6.ext ext (by omega)) (hS7.ext ext (by omega)) rfl) (Nat.le_refl _) cfc (fun _ => ?_))
  refine RD.call _ rfl opds (new_rf (-k) _ _ (by omega) (by omega)) (Nat.le_refl _) cfc ?_
  rintro r n8 h8 hle8 ⟨a8, rfl, hE8, hO8⟩
  rw [List.length_replicate]
  repeat' (first | refine stp ?_ | (refine stp2 ?_ ?_ <;> intro _))
  rfl
end Go.Proofs.Ytnaklmjndiodfaa
