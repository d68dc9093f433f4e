/- Contracts of bytes.Replace: each zero gets a one behind it. -/
import Derived.Test.YtflhhipemmlgpaaDoorT
set_option linter.unusedSimpArgs false
set_option linter.unusedVariables false
namespace Go.Proofs.YtflhhipemmlgpaaDoor
open Go.Abs

set_option maxHeartbeats 4000000 in
theorem replace_rf (l : List UInt8) (a d0 d1 : Option Addr) (m n : Nat) (h : AH) (S : SlB h n a l) (S0 : SlB h n d0 [0]) (S1 : SlB h n d1 [0, 1]) (e : m = l.length) (hm : m ≤ 1099511627776) :
    RF Tryd.prog none' 62 #[.slice a m m, .slice d0 1 1, .slice d1 2 2, .int .i64 (-1)] n h (fun r n' h' => ∃ a', r = .slice a' (esc l).length (esc l).length ∧ Ext n h h' ∧ OwnSl h' n n' a' 1 (esc l).length (bytesV (esc l))) := by
  subst e
  have hel := esc_length l
  have hcl : l.count 0 ≤ l.length := List.count_le_length
  refine RF.of Tryd.func62 rfl rfl (Nat.le_of_ble_eq_true rfl) ?_; dsimp only [argEnv]
  by_cases hz : l.count 0 = 0
  · have h0 : esc l = l := by
      have := esc_end (l := l) (s := 0) (by simpa using hz)
      simpa [esc] using this
    repeat' (first | refine stpS ?_ | (refine stp2 ?_ ?_ <;> intro _) | refine RS.call1 rfl opds (count_ev l 0 a d0 _ _ _ S S0 rfl hm) none'W ?_)
    refine RS.append rfl opd opd (OwnSl.nil (n0 := n) (Nat.le_refl n)) (SlB.src S) full_slice (fun b hb => Or.inr (by omega)) (by omega) ?_
    intro a2 n2 h2 hle2 hO2 hX2 hnew
    have hE2 := hX2.ext (OwnSl.nil (h := h) (n0 := n) (z := 1) (Nat.le_refl n))
    simp only [Nat.zero_add, List.nil_append] at hO2 ⊢
    rw [h0]
    repeat' (first | refine stpS ?_ | (refine stp2 ?_ ?_ <;> intro _))
    exact ⟨a2, rfl, ext, hO2⟩
  · repeat' (first | refine stpS ?_ | (refine stp2 ?_ ?_ <;> intro _) | refine RS.call1 rfl opds (count_ev l 0 a d0 _ _ _ S S0 rfl hm) none'W ?_)
    have hM : ((l.length : Int) + (l.count 0 : Nat) * ((2 : Nat) - (1 : Nat) : Int)).toNat = (esc l).length := by omega
    rw [hM]
    have hO0 : OwnSl (h.app (.new n ⟨(esc l).length, 0, true, 1⟩ (List.replicate (esc l).length (.int .u8 0)))) n (n + 1) (some ⟨n, 0, none⟩) 1 (esc l).length (bytesV (List.replicate (esc l).length 0)) := by
      have e9 : List.replicate (esc l).length (Value.int .u8 0) = bytesV (List.replicate (esc l).length 0) := by simp [bytesV]
      rw [e9]
      exact OwnSl.new1 (Nat.le_refl n) (by rw [bytesV_length, List.length_replicate]) (bytesV_known _)
    have hE0 : Ext n h (h.app (.new n ⟨(esc l).length, 0, true, 1⟩ (List.replicate (esc l).length (.int .u8 0)))) := ext
    refine RC.gen (fun g => OwnSl g n (n + 1) (some ⟨n, 0, none⟩) 1 (esc l).length (bytesV (List.replicate (esc l).length 0)) ∧ Ext n h g) ⟨hO0, hE0⟩ ?_
    rintro g ⟨hO, hE⟩
    obtain ⟨aN, haN⟩ : ∃ aN : Option Addr, aN = some ⟨n, 0, none⟩ := ⟨_, rfl⟩
    have hsb : sb aN = n := by rw [haN]; rfl
    have hne : aN ≠ none := by rw [haN]; simp
    rw [← haN] at hO ⊢
    have hs0 : sub aN 0 = aN := by rw [haN]; rfl
    clear haN hO0 hE0
    refine RC.loop ?_
    refine RL.inv (α := Nat × Nat) (fun s => [(49, .int .i64 (s.1 : Nat)), (48, .int .i64 (l.count 0 : Nat)), (12, .int .i64 (s.2 : Nat)), (11, .int .i64 ((esc (l.take s.2)).length : Nat)), (10, .slice aN (esc l).length (esc l).length), (0, .slice a l.length l.length), (1, .slice d0 1 1), (2, .slice d1 2 2)])
      (fun s n1 h1 => s.2 ≤ l.length ∧ (l.drop s.2).count 0 + s.1 = l.count 0 ∧ n1 = n + 1 ∧ Ext n h h1 ∧ OwnSl h1 n n1 aN 1 (esc l).length (bytesV (esc (l.take s.2) ++ List.replicate ((esc l).length - (esc (l.take s.2)).length) 0)))
      (fun s => l.count 0 - s.1) (0, 0) envs ⟨by omega, by simp, rfl, hE, by simpa [esc] using hO⟩ ?_
    rintro ⟨i, s⟩ n1 h1 ⟨hs, hcn, rfl, hE1, hO1⟩
    dsimp only at hs hcn hE1 hO1 ⊢
    have hS1 : SlB h1 (n + 1) a l := S.ext hE1 (by omega)
    have hS0 : SlB h1 (n + 1) d0 [0] := S0.ext hE1 (by omega)
    have hS2 : SlB h1 (n + 1) d1 [0, 1] := S1.ext hE1 (by omega)
    have hw : (esc (l.take s)).length ≤ (esc l).length := by
      have := congrArg List.length (esc_app (l.take s) (l.drop s))
      rw [List.take_append_drop, List.length_append] at this
      omega
    have hIN : SlI h1 aN 1 (esc l).length := SlI.of hO1.slr (Ext.refl _ _)
    have hlN : sb aN < n + 1 := by omega
    by_cases hlt : i < l.count 0
    · obtain ⟨k, hk, hkl, hkc, hke⟩ := index_at (l := l) (s := s) (by omega)
      have hSd : SlB h1 (n + 1) (sub a s) (l.drop s) := by
        have := hS1.cut (i := s) (u := l.length) hs (Nat.le_refl _)
        rwa [List.take_length] at this
      have hidx := index_ev (l.drop s) 0 (sub a s) d0 (l.length - s) _ _ hSd hS0 (by rw [List.length_drop]; omega) (by rw [List.length_drop])
      rw [hk] at hidx
      have hSm : SlB h1 (n + 1) (sub a s) ((l.take (s + k)).drop s) := hS1.cut (by omega) (by omega)
      have hml : ((l.take (s + k)).drop s).length = k := by rw [List.length_drop, List.length_take]; omega
      have hle : (esc (l.take s)).length + k + 2 ≤ (esc l).length := by
        have h1 := congrArg List.length hke
        have h2 := congrArg List.length (esc_app (l.take (s + k + 1)) (l.drop (s + k + 1)))
        rw [List.take_append_drop, List.length_append] at h2
        rw [List.length_append, List.length_append, hml] at h1
        have : ([0, 1] : List UInt8).length = 2 := rfl
        omega
      repeat' (first | refine stpS ?_ | (refine stp2 ?_ ?_ <;> intro _))
      rw [show (s : Int).toNat = s by omega]
      refine RS.call1 rfl opds hidx none'W ?_
      repeat' (first | refine stp ?_ | (refine stp2 ?_ ?_ <;> intro _))
      rw [show (s : Int).toNat = s by omega, show ((s : Int) + (k : Int)).toNat - s = ((l.take (s + k)).drop s).length by omega]
      rw [Int.toNat_natCast]
      refine RD.copyO (nb := n + 1) (k := (esc l).length - (esc (l.take s)).length) rfl opd opd hO1 hSm (by omega) hne (by omega) (.inl (.inr (by omega))) (Nat.le_refl _) cfw ?_
      intro hO2
      have hE2 : Ext n h (h1.app (.sets (sb aN) (so aN + (esc (l.take s)).length) (bytesV ((l.take (s + k)).drop s)))) := hE1.appSets (by omega)
      rw [splice_room _ _ _ _ (by omega)] at hO2
      refine RD.gen (fun g => OwnSl g n (n + 1) aN 1 (esc l).length (bytesV (esc (l.take s) ++ (l.take (s + k)).drop s ++ List.replicate ((esc l).length - (esc (l.take s) ++ (l.take (s + k)).drop s).length) 0)) ∧ Ext n h g) ⟨hO2, hE2⟩ ?_
      clear hO2 hE2
      rintro g2 ⟨hO2, hE2⟩
      have hS2' : SlB g2 (n + 1) d1 [0, 1] := S1.ext hE2 (by omega)
      have hIN2 : SlI g2 aN 1 (esc l).length := SlI.of hO2.slr (Ext.refl _ _)
      have hl3 : (esc (l.take s) ++ (l.take (s + k)).drop s).length = (esc (l.take s)).length + k := by rw [List.length_append, hml]
      have hl4 : (esc (l.take (s + k + 1))).length = (esc (l.take s) ++ (l.take (s + k)).drop s).length + 2 := by rw [hke, List.length_append]; rfl
      repeat' (first | refine stp ?_ | (refine stp2 ?_ ?_ <;> intro _))
      rw [show ((esc (l.take s)).length : Int) + (((l.take (s + k)).drop s).length : Nat) = ((esc (l.take s) ++ (l.take (s + k)).drop s).length : Nat) by rw [List.length_append]; omega]
      rw [Int.toNat_natCast]
      refine RS.copyO (k := (esc l).length - (esc (l.take s) ++ (l.take (s + k)).drop s).length) (s := [0, 1]) rfl opd opd hO2 hS2' (by omega) hne (by show 2 ≤ _; omega) (.inl (.inr (by omega))) ?_
      intro hO3
      have hE3 := hE2.appSets (b := sb aN) (o := so aN + (esc (l.take s) ++ (l.take (s + k)).drop s).length) (vs := bytesV [0, 1]) (by omega)
      rw [splice_room _ _ _ _ (by show _ + 2 ≤ _; omega), ← hke] at hO3
      rw [show (([0, 1] : List UInt8).length : Int) = 2 from rfl]
      repeat' (first | refine stpS ?_ | (refine stp2 ?_ ?_ <;> intro _))
      refine nextC.normal ⟨(i + 1, s + k + 1), by dsimp only; omega, ?_, by dsimp only; omega, by dsimp only; omega, rfl, hE3, hO3⟩
      dsimp only
      rw [show ((esc (l.take (s + k + 1))).length : Int) = ((esc (l.take s) ++ (l.take (s + k)).drop s).length : Nat) + 2 by omega]
      rw [show ((s + k + 1 : Nat) : Int) = (s : Int) + k + (1 : Nat) by omega, show ((i + 1 : Nat) : Int) = (i : Int) + 1 by omega]
      exact envs
    · have hz0 : (l.drop s).count 0 = 0 := by omega
      have hend := esc_end hz0
      have hSd : SlB h1 (n + 1) (sub a s) (l.drop s) := by
        have := hS1.cut (i := s) (u := l.length) hs (Nat.le_refl _)
        rwa [List.take_length] at this
      have hle : (esc (l.take s)).length + (l.drop s).length = (esc l).length := by
        have := congrArg List.length hend
        rw [List.length_append] at this
        omega
      have hdl : (l.drop s).length = l.length - s := List.length_drop
      repeat' (first | refine stp ?_ | (refine stp2 ?_ ?_ <;> intro _))
      rw [show (s : Int).toNat = s by omega, Int.toNat_natCast, ← hdl]
      refine RD.copyO (nb := n + 1) (k := (esc l).length - (esc (l.take s)).length) rfl opd opd hO1 hSd (by omega) hne (by omega) (.inl (.inr (by omega))) (Nat.le_refl _) cfw ?_
      intro hO2
      have hE2 : Ext n h (h1.app (.sets (sb aN) (so aN + (esc (l.take s)).length) (bytesV (l.drop s)))) := hE1.appSets (by omega)
      rw [splice_room _ _ _ _ (by omega), ← hend, Nat.sub_self] at hO2
      rw [show List.replicate 0 (0 : UInt8) = [] from rfl, List.append_nil] at hO2
      refine RD.gen (fun g => OwnSl g n (n + 1) aN 1 (esc l).length (bytesV (esc l)) ∧ Ext n h g) ⟨hO2, hE2⟩ ?_
      clear hO2 hE2
      rintro g2 ⟨hO2, hE2⟩
      have hIN2 : SlI g2 aN 1 (esc l).length := SlI.of hO2.slr (Ext.refl _ _)
      repeat' (first | refine stp ?_ | (refine stp2 ?_ ?_ <;> intro _))
      rw [show ((esc (l.take s)).length : Int) + ((l.drop s).length : Nat) = ((esc l).length : Nat) by omega]
      refine ⟨aN, ?_, hE2, hO2⟩
      rw [show Int.toNat 0 = 0 from rfl, hs0, Int.toNat_natCast, Nat.sub_zero]
      done
end Go.Proofs.YtflhhipemmlgpaaDoor
