/- Contracts of bits' functions: are just these places told? -/
import Derived.Test.YtnaklmjndiodfaaR
namespace Go.Proofs.Ytnaklmjndiodfaa
open Go.Abs

set_option maxHeartbeats 4000000 in
theorem told_ev (f : FuncId) (caps : List Value) (ps : List Nat) (K : Nat → AH → Prop) (c : Option Addr) (k n : Nat) (h : AH) (stop : Int) (hI : IterF Try.prog f caps (placesV ps) K) (hK : ∀ n2 h2, n ≤ n2 → Ext n h h2 → K n2 h2)
    (S : SlN h n c .i64 (ps.map Int.ofNat)) (e : k = ps.length) (hk : k ≤ 1099511627776) :
    Ev Try.prog none' 33 #[.func (.func f) #[] caps.toArray, .slice c k k, .int .i64 stop] n h (.bool true) n h := by
  subst e
  refine RF.pure rfl fun n' hn => ?_
  have S := S.ext (Ext.refl n h) hn
  rw [List.length_map] at S
  refine RF.of Try.func33 rfl rfl (Nat.le_of_ble_eq_true rfl) ?_; dsimp only [argEnv]
  repeat' (first | refine stpS ?_ | (refine stp2 ?_ ?_ <;> intro _))
  refine RC.gen (fun g => Ext n' h g ∧ g.info (n' + 1 + 1) = some ⟨1, 0, true, 0⟩ ∧ g.info (n' + 1 + 1 + 1) = some ⟨1, 0, true, 0⟩ ∧ g.cell n' 0 = .slice c ps.length ps.length ∧ g.cell (n' + 1) 0 = .int .i64 stop ∧ g.cell (n' + 1 + 1 + 1) 0 = .int .i64 0) ⟨ext, info, info, cell, cell, cell⟩ ?_
  rintro hb ⟨hE, i6, i7, c4, c5, c7⟩
  refine RC.rangeFunc opd (env0 := [(4, .pointer (some ⟨n', 0, none⟩)), (5, .pointer (some ⟨n' + 1, 0, none⟩)), (6, .pointer (some ⟨n' + 1 + 1, 0, none⟩)), (7, .pointer (some ⟨n' + 1 + 1 + 1, 0, none⟩))]) envs (W := fun b => n' + 1 + 1 ≤ b ∧ b ≤ n' + 1 + 1 + 1 + 1) (by intro b hb; first | omega | (dsimp only at hb ⊢; omega) | (dsimp only at hb; omega) | (dsimp only; omega)) ?_
  intro A hA
  refine (hI _ _
    (fun i n2 h2 => n' + 1 + 1 + 1 + 1 + 1 ≤ n2 ∧ ExtW (fun b => n' + 1 + 1 ≤ b ∧ b ≤ n' + 1 + 1 + 1 + 1) (n' + 1 + 1 + 1 + 1) hb h2 ∧ h2.info (n' + 1 + 1 + 1 + 1) = some (AObj.loop A).m ∧ h2.info (n' + 1 + 1) = some ⟨1, 0, true, 0⟩ ∧ h2.info (n' + 1 + 1 + 1) = some ⟨1, 0, true, 0⟩ ∧
      h2.cell (n' + 1 + 1 + 1) 0 = .int .i64 (i : Nat) ∧ i ≤ ps.length)
    (fun n2 h2 => n' + 1 + 1 + 1 + 1 + 1 ≤ n2 ∧ h2.info (n' + 1 + 1 + 1 + 1) = some (AObj.loop (A.at (some .ret))).m ∧ h2.cell (n' + 1 + 1) 0 = .bool true) _ _ ⟨?_, ?_⟩ ?_ ?_ (by omega)).mono ?_
  · rintro i n2 h2 n3 h3 ⟨q1, q2, q3, q4, q5, q6, q7⟩ hn3 hE3
    exact ⟨by omega, extW, info, info, info, cell, q7⟩
  · rintro i vs n2 h2 hv ⟨q1, q2, q3, q4, q5, q6, q7⟩
    simp only [placesV, List.getElem?_map, Option.map_eq_some_iff] at hv
    obtain ⟨p, hv, rfl⟩ := hv
    have hil := (List.getElem?_eq_some_iff.1 hv).1
    have hEx : Ext n' h h2 := hE.trans (Nat.le_refl _) (q2.extM (by omega) (by intro b hb; omega))
    have S2 := S.ext hEx (n' := n2) (by omega)
    have hSA := S2.sla
    have hcl : h2.cell (sb c) (so c + i) = .int .i64 (p : Nat) := by
      have := S2.cell i (by omega)
      rw [this]
      simp [intsF, List.getD, hv]
    have hlt : sb c < n' := S.lt (by omega)
    refine VF.yield1 hA q3 rfl (by first | omega | (dsimp only; omega)) (by omega) ?_
    repeat' (first | refine stpS ?_ | (refine stp2 ?_ ?_ <;> intro _))
    · exact .inr ⟨rfl, by omega, info, cell⟩
    · exact .inl ⟨rfl, by omega, extW, info, info, info, cell, by omega⟩
  · rintro i n2 h2 ⟨q1, q2, q3, q4, q5, q6, q7⟩
    exact hK _ _ (by omega) ((Ext.mono hE hn).trans hn (q2.extM (by omega) (by intro b hb; omega)))
  · refine ⟨by omega, extW, info, info, info, cell, by omega⟩
  · rintro r n2 h2 (⟨q1, q2, q3, q4, q5, q6, q7⟩ | ⟨q1, q2, q3⟩)
    · refine rangeC.normal q3 ?_
      rw [placesV, List.length_map] at q6
      repeat' (first | refine stpS ?_ | (refine stp2 ?_ ?_ <;> intro _))
      rfl
    · refine rangeC.ret q2 ?_
      repeat' (first | refine stpS ?_ | (refine stp2 ?_ ?_ <;> intro _))
      rfl
theorem AllK.ext {bc : Nat} {a : Option Addr} {l : List UInt8} {n n' : Nat} {h h' : AH} (k : AllK bc a l n h) (hn : n ≤ n') (e : Ext n h h') : AllK bc a l n' h' := by
  obtain ⟨k1, k2, k3⟩ := k
  exact ⟨by omega, (e.cell _ _ k1).trans k2, k3.ext e hn⟩
set_option maxHeartbeats 4000000 in
theorem law_BitsCounts (N : Int) (l : List UInt8) (a : Option Addr) (n : Nat) (h : AH) (i k stop : Int) (S : SlB h n a l) (hl : l.length ≤ 1048576) (hk1 : -9223372036854775808 ≤ k) (hk2 : k ≤ 9223372036854775807) (hn : 0 < n) :
    RF Try.prog none' 5 #[.agg #[.int .i64 N, .slice a l.length l.length], .int .i64 i, .int .i64 k, .int .i64 stop] n h (fun r _ _ => r = .bool true) := by
  refine RF.of Try.func5 rfl rfl (Nat.le_of_ble_eq_true rfl) ?_; dsimp only [argEnv]
  repeat' (first | refine stpS ?_ | (refine stp2 ?_ ?_ <;> intro _))
  refine RS.call rfl opds (small_rf N l a l.length _ _ (S.ext ext (by omega)) rfl) none'W ?_
  rintro r n1 h1 hle ⟨rfl, hE1, hS1⟩
  have hS1 : SlB h n a (l.take 4096) := SlB.takeA S 4096
  have hq : (l.take 4096).length ≤ 4096 := by rw [List.length_take]; omega
  generalize l.take 4096 = l at hS1 hq ⊢
  repeat' (first | refine stpS ?_ | (refine stp2 ?_ ?_ <;> intro _))
  refine RS.call rfl opds (refWhere_rf N l a l.length _ _ (hS1.ext ext (by omega)) rfl (by omega)) none'W ?_
  rintro r n2 h2 hle2 ⟨a2, rfl, hE2, hO2⟩
  have hS2 : SlN h2 n2 a2 .i64 ((wheres (truths N l)).map Int.ofNat) := by
    have := hO2; rw [← whereI_length] at this; exact this.sln
  have hwl := wheres_le (truths N l)
  have htl := truths_length N l
  have hp := plc_le N l.length
  have hwI := whereI_length (truths N l)
  by_cases hkk : 0 ≤ k ∧ k < (wheres (truths N l)).length
  · have hpv : pickV (wheres (truths N l)) k = ((((wheres (truths N l)).getD k.toNat 0 : Nat) : Int), true) := by unfold pickV; rw [if_pos hkk]
    have hpk : ∀ n3 h3, n ≤ n3 → Ext n h h3 → Ev Try.prog none' 28 #[.agg #[.int .i64 N, .slice a l.length l.length], .int .i64 k] n3 h3 (.tuple #[.int .i64 ((wheres (truths N l)).getD k.toNat 0 : Nat), .bool true]) n3 h3 := fun n3 h3 q1 q2 => by
      have := pick_ev N l a l.length n3 h3 k (hS1.ext q2 q1) rfl (by omega) hk1 hk2
      rwa [hpv] at this
    have hSA := hS2.sla
    rw [List.length_map] at hSA
    have hcl : h2.cell (sb a2) (so a2 + k.toNat) = .int .i64 ((wheres (truths N l)).getD k.toNat 0 : Nat) := by
      rw [hS2.cell k.toNat (by rw [List.length_map]; omega), ← whereI_getD]; rfl
    repeat' (first | refine stpS ?_ | (refine stp2 ?_ ?_ <;> intro _) | refine RS.call1 rfl opds (hpk _ _ (by omega) ext) none'W ?_)
    refine RS.call rfl opds (all_rf N l a l.length _ _ (hS1.ext ext (by omega)) rfl (by omega)) none'W ?_
    rintro r n3 h3 hle3 ⟨bc, a3, rfl, hE3, hbc, ha3, hK⟩
    have hit := all1_iter bc a3 (packB (truths N l)) (by rw [packB_length]; omega)
    rw [setL_pack] at hit
    have hct : ∀ n4 h4, n ≤ n4 → Ext n h h4 → Ev Try.prog none' 30 #[.agg #[.int .i64 N, .slice a l.length l.length]] n4 h4 (.int .i64 (wheres (truths N l)).length) n4 h4 := fun n4 h4 q1 q2 => by
      have := count_ev N l a l.length n4 h4 (hS1.ext q2 q1) rfl (by omega)
      rwa [onesB_pack] at this
    have htold : ∀ n4 h4 s, n3 ≤ n4 → Ext n3 h3 h4 → Ev Try.prog none' 33 #[.func (.func 52) #[] #[.pointer (some ⟨bc, 0, none⟩)], .slice a2 (wheres (truths N l)).length (wheres (truths N l)).length, .int .i64 s] n4 h4 (.bool true) n4 h4 := fun n4 h4 s q1 q2 =>
      told_ev _ _ (wheres (truths N l)) _ a2 _ n4 h4 s hit (fun n5 h5 r1 r2 => (hK.ext q1 q2).ext r1 r2) (hS2.ext ((ext : Ext n2 h2 h3).trans (by omega) q2) (by omega)) rfl (by omega)
    repeat' (first | refine stp ?_ | (refine stp2 ?_ ?_ <;> intro _) | refine RS.call1 rfl opds (begun_ev _ _) none'W ?_ | refine RS.call1 rfl opds (hct _ _ (by omega) ext) none'W ?_ | refine RS.call1 rfl opds (rank_ev _ _ _ _ _ _ _ (hS1.ext ext (by omega)) rfl (by omega)) none'W ?_ | refine RS.call1 rfl opds (refRank_ev _ _ _ _ _ _ _ (hS1.ext ext (by omega)) rfl (by omega)) none'W ?_ | refine RS.call1 rfl opds (htold _ _ _ (by omega) ext) none'W ?_ | refine RD.call1 _ rfl opds (begun_ev _ _) (Nat.le_refl _) cfc (fun _ => ?_) | refine RD.call1 _ rfl opds (hct _ _ (by omega) ext) (Nat.le_refl _) cfc (fun _ => ?_) | refine RD.call1 _ rfl opds (rank_ev _ _ _ _ _ _ _ (hS1.ext ext (by omega)) rfl (by omega)) (Nat.le_refl _) cfc (fun _ => ?_) | refine RD.call1 _ rfl opds (refRank_ev _ _ _ _ _ _ _ (hS1.ext ext (by omega)) rfl (by omega)) (Nat.le_refl _) cfc (fun _ => ?_) | refine RD.call1 _ rfl opds (htold _ _ _ (by omega) ext) (Nat.le_refl _) cfc (fun _ => ?_))
    rfl
  · have hpv : pickV (wheres (truths N l)) k = (0, false) := by unfold pickV; rw [if_neg hkk]
    have hpk : ∀ n3 h3, n ≤ n3 → Ext n h h3 → Ev Try.prog none' 28 #[.agg #[.int .i64 N, .slice a l.length l.length], .int .i64 k] n3 h3 (.tuple #[.int .i64 0, .bool false]) n3 h3 := fun n3 h3 q1 q2 => by
      have := pick_ev N l a l.length n3 h3 k (hS1.ext q2 q1) rfl (by omega) hk1 hk2
      rwa [hpv] at this
    by_cases hk0 : 0 ≤ k
    · have hk2 : ¬ k < (wheres (truths N l)).length := fun q => hkk ⟨hk0, q⟩
      repeat' (first | refine stpS ?_ | (refine stp2 ?_ ?_ <;> intro _) | refine RS.call1 rfl opds (hpk _ _ (by omega) ext) none'W ?_)
      refine RS.call rfl opds (all_rf N l a l.length _ _ (hS1.ext ext (by omega)) rfl (by omega)) none'W ?_
      rintro r n3 h3 hle3 ⟨bc, a3, rfl, hE3, hbc, ha3, hK⟩
      have hit := all1_iter bc a3 (packB (truths N l)) (by rw [packB_length]; omega)
      rw [setL_pack] at hit
      have hct : ∀ n4 h4, n ≤ n4 → Ext n h h4 → Ev Try.prog none' 30 #[.agg #[.int .i64 N, .slice a l.length l.length]] n4 h4 (.int .i64 (wheres (truths N l)).length) n4 h4 := fun n4 h4 q1 q2 => by
        have := count_ev N l a l.length n4 h4 (hS1.ext q2 q1) rfl (by omega)
        rwa [onesB_pack] at this
      have htold : ∀ n4 h4 s, n3 ≤ n4 → Ext n3 h3 h4 → Ev Try.prog none' 33 #[.func (.func 52) #[] #[.pointer (some ⟨bc, 0, none⟩)], .slice a2 (wheres (truths N l)).length (wheres (truths N l)).length, .int .i64 s] n4 h4 (.bool true) n4 h4 := fun n4 h4 s q1 q2 =>
        told_ev _ _ (wheres (truths N l)) _ a2 _ n4 h4 s hit (fun n5 h5 r1 r2 => (hK.ext q1 q2).ext r1 r2) (hS2.ext ((ext : Ext n2 h2 h3).trans (by omega) q2) (by omega)) rfl (by omega)
      repeat' (first | refine stp ?_ | (refine stp2 ?_ ?_ <;> intro _) | refine RS.call1 rfl opds (begun_ev _ _) none'W ?_ | refine RS.call1 rfl opds (hct _ _ (by omega) ext) none'W ?_ | refine RS.call1 rfl opds (rank_ev _ _ _ _ _ _ _ (hS1.ext ext (by omega)) rfl (by omega)) none'W ?_ | refine RS.call1 rfl opds (refRank_ev _ _ _ _ _ _ _ (hS1.ext ext (by omega)) rfl (by omega)) none'W ?_ | refine RS.call1 rfl opds (htold _ _ _ (by omega) ext) none'W ?_ | refine RD.call1 _ rfl opds (begun_ev _ _) (Nat.le_refl _) cfc (fun _ => ?_) | refine RD.call1 _ rfl opds (hct _ _ (by omega) ext) (Nat.le_refl _) cfc (fun _ => ?_) | refine RD.call1 _ rfl opds (rank_ev _ _ _ _ _ _ _ (hS1.ext ext (by omega)) rfl (by omega)) (Nat.le_refl _) cfc (fun _ => ?_) | refine RD.call1 _ rfl opds (refRank_ev _ _ _ _ _ _ _ (hS1.ext ext (by omega)) rfl (by omega)) (Nat.le_refl _) cfc (fun _ => ?_) | refine RD.call1 _ rfl opds (htold _ _ _ (by omega) ext) (Nat.le_refl _) cfc (fun _ => ?_))
      rfl
    · repeat' (first | refine stpS ?_ | (refine stp2 ?_ ?_ <;> intro _) | refine RS.call1 rfl opds (hpk _ _ (by omega) ext) none'W ?_)
      refine RS.call rfl opds (all_rf N l a l.length _ _ (hS1.ext ext (by omega)) rfl (by omega)) none'W ?_
      rintro r n3 h3 hle3 ⟨bc, a3, rfl, hE3, hbc, ha3, hK⟩
      have hit := all1_iter bc a3 (packB (truths N l)) (by rw [packB_length]; omega)
      rw [setL_pack] at hit
      have hct : ∀ n4 h4, n ≤ n4 → Ext n h h4 → Ev Try.prog none' 30 #[.agg #[.int .i64 N, .slice a l.length l.length]] n4 h4 (.int .i64 (wheres (truths N l)).length) n4 h4 := fun n4 h4 q1 q2 => by
        have := count_ev N l a l.length n4 h4 (hS1.ext q2 q1) rfl (by omega)
        rwa [onesB_pack] at this
      have htold : ∀ n4 h4 s, n3 ≤ n4 → Ext n3 h3 h4 → Ev Try.prog none' 33 #[.func (.func 52) #[] #[.pointer (some ⟨bc, 0, none⟩)], .slice a2 (wheres (truths N l)).length (wheres (truths N l)).length, .int .i64 s] n4 h4 (.bool true) n4 h4 := fun n4 h4 s q1 q2 =>
        told_ev _ _ (wheres (truths N l)) _ a2 _ n4 h4 s hit (fun n5 h5 r1 r2 => (hK.ext q1 q2).ext r1 r2) (hS2.ext ((ext : Ext n2 h2 h3).trans (by omega) q2) (by omega)) rfl (by omega)
      repeat' (first | refine stp ?_ | (refine stp2 ?_ ?_ <;> intro _) | refine RS.call1 rfl opds (begun_ev _ _) none'W ?_ | refine RS.call1 rfl opds (hct _ _ (by omega) ext) none'W ?_ | refine RS.call1 rfl opds (rank_ev _ _ _ _ _ _ _ (hS1.ext ext (by omega)) rfl (by omega)) none'W ?_ | refine RS.call1 rfl opds (refRank_ev _ _ _ _ _ _ _ (hS1.ext ext (by omega)) rfl (by omega)) none'W ?_ | refine RS.call1 rfl opds (htold _ _ _ (by omega) ext) none'W ?_ | refine RD.call1 _ rfl opds (begun_ev _ _) (Nat.le_refl _) cfc (fun _ => ?_) | refine RD.call1 _ rfl opds (hct _ _ (by omega) ext) (Nat.le_refl _) cfc (fun _ => ?_) | refine RD.call1 _ rfl opds (rank_ev _ _ _ _ _ _ _ (hS1.ext ext (by omega)) rfl (by omega)) (Nat.le_refl _) cfc (fun _ => ?_) | refine RD.call1 _ rfl opds (refRank_ev _ _ _ _ _ _ _ (hS1.ext ext (by omega)) rfl (by omega)) (Nat.le_refl _) cfc (fun _ => ?_) | refine RD.call1 _ rfl opds (htold _ _ _ (by omega) ext) (Nat.le_refl _) cfc (fun _ => ?_))
      rfl
end Go.Proofs.Ytnaklmjndiodfaa
