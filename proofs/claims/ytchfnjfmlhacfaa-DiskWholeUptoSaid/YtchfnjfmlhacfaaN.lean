/- Contracts of the disk's methods: new, same, clone. -/
import Derived.Test.YtchfnjfmlhacfaaM
namespace Go.Proofs.Ytchfnjfmlhacfaa
open Go.Abs

section
variable {h h1 h2 : AH} {n n1 n2 d : Nat} {F G F1 G1 F2 G2 : Nat → Prop} {S S1 S2 : DS}
theorem init_ok : DSOk DS.init := ⟨fun p hp => (by cases hp), fun f => by simp [DS.init], by simp [DS.init], by simp [DS.init], by simp [DS.init]⟩
set_option maxHeartbeats 4000000 in
theorem new_rf (n : Nat) (h : AH) (hn : 0 < n) : RF Try.prog none' 10 #[] n h (fun r n' h' => ∃ d F G, r = .pointer (some ⟨d, 0, none⟩) ∧ Dk h' n' d F G DS.init ∧ (∀ b, F b → n ≤ b) ∧ (∀ b, ¬ G b) ∧ Ext n h h') := by
  refine RF.of Try.func10 rfl rfl (Nat.le_of_ble_eq_true rfl) ?_; dsimp only [argEnv]
  repeat' (first | refine stpS ?_ | (refine stp2 ?_ ?_ <;> intro _))
  refine ⟨n, DkF n (fun _ => none), DkG none [], rfl, ⟨init_ok, fun _ => none, none, [], rfl, rfl, ?_⟩, ?_, ?_, ext⟩
  · have e : ∀ i, flOf DS.init i = [] := fun i => by unfold flOf; split <;> rfl
    refine ⟨Nat.lt_succ_self n, i_new, cell, fun i hi => ?_, cell, cell, cell, cell, cell, fun i hi => by rw [e]; exact .nil (Nat.zero_le _), .nil (Nat.zero_le _), .nil, fun i p hp => (by cases hp), rfl, fun i hi => .inl rfl, fun i j _ _ _ => .inl rfl, fun i x _ _ => .inl rfl, fun x hx => ?_, fun x hx q => ?_⟩
    · rw [e]
      rcases (show i = 0 ∨ i = 1 ∨ i = 2 ∨ i = 3 by omega) with rfl | rfl | rfl | rfl <;> exact cell
    · simp at hx; exact .inl hx
    · simp at hx; exact absurd hx q
  · rintro b (rfl | ⟨i, _, q, _⟩)
    · exact Nat.le_refl _
    · exact absurd rfl q
  · rintro b ⟨x, hx, q, _⟩
    simp at hx; exact q hx
set_option maxHeartbeats 4000000 in
theorem same_ev {d2 : Nat} (D1 : Dk h n d F1 G1 S1) (D2 : Dk h n d2 F2 G2 S2) : Ev Try.prog none' 22 #[.pointer (some ⟨d, 0, none⟩), .pointer (some ⟨d2, 0, none⟩)] n h (.bool (decide (S1.now 0 = S2.now 0 ∧ S1.now 1 = S2.now 1))) n h := by
  refine RF.pure rfl fun n' hn => ?_
  have D1 := D1.ext (Ext.refl n h) hn
  have D2 := D2.ext (Ext.refl n h) hn
  refine RF.of Try.func22 rfl rfl (Nat.le_of_ble_eq_true rfl) ?_; dsimp only [argEnv]
  have hno1 := none_dk (D1.ext (AH.below_ext h n') (Nat.le_refl _))
  have hno2 := none_dk (D2.ext (AH.below_ext h n') (Nat.le_refl _))
  obtain ⟨ok1, o1, ka1, pa1, -, -, R1⟩ := id D1
  obtain ⟨ok2, o2, ka2, pa2, -, -, R2⟩ := id D2
  have c10 : h.cell d 1 = .slice (o1 0) (S1.now 0).length (S1.now 0).length := now_cell R1 (i := 0) (by omega)
  have c11 : h.cell d 2 = .slice (o1 1) (S1.now 1).length (S1.now 1).length := now_cell R1 (i := 1) (by omega)
  have c20 : h.cell d2 1 = .slice (o2 0) (S2.now 0).length (S2.now 0).length := now_cell R2 (i := 0) (by omega)
  have c21 : h.cell d2 2 = .slice (o2 1) (S2.now 1).length (S2.now 1).length := now_cell R2 (i := 1) (by omega)
  have hl1 := D1.lt
  have hl2 := D2.lt
  repeat' (first | refine stp ?_ | (refine stp2 ?_ ?_ <;> intro _))
  refine RD.callP n' rfl opds hno1 (Nat.le_refl _) cfc ?_
  repeat' (first | refine stp ?_ | (refine stp2 ?_ ?_ <;> intro _))
  refine RD.callP n' rfl opds hno2 (Nat.le_refl _) cfc ?_
  repeat' (first | refine stp ?_ | (refine stp2 ?_ ?_ <;> intro _))
  have hs : ∀ (i : Nat), i < 2 → SlB (h.below n') n' (o1 i) (S1.now i) ∧ SlB (h.below n') n' (o2 i) (S2.now i) := fun i hi => by
    have k1 := (R1.fo i (by omega)).slb
    have k2 := (R2.fo i (by omega)).slb
    rw [flOf_lt _ hi] at k1 k2
    exact ⟨k1.ext (AH.below_ext h n') (Nat.le_refl _), k2.ext (AH.below_ext h n') (Nat.le_refl _)⟩
  have q0 := equal_ev (S1.now 0) (S2.now 0) (o1 0) (o2 0) _ _ n' (h.below n') (hs 0 (by omega)).1 (hs 0 (by omega)).2 rfl rfl
  have q1 := equal_ev (S1.now 1) (S2.now 1) (o1 1) (o2 1) _ _ n' (h.below n') (hs 1 (by omega)).1 (hs 1 (by omega)).2 rfl rfl
  by_cases e0 : S1.now 0 = S2.now 0
  · rw [decide_eq_true e0] at q0
    refine RD.callP n' rfl opds q0 (Nat.le_refl _) cfc ?_
    repeat' (first | refine stp ?_ | (refine stp2 ?_ ?_ <;> intro _))
    refine RD.callP n' rfl opds q1 (Nat.le_refl _) cfc ?_
    repeat' (first | refine stp ?_ | (refine stp2 ?_ ?_ <;> intro _))
    simp [e0]
  · rw [decide_eq_false e0] at q0
    refine RD.callP n' rfl opds q0 (Nat.le_refl _) cfc ?_
    repeat' (first | refine stp ?_ | (refine stp2 ?_ ?_ <;> intro _))
    simp [e0]
end
end Go.Proofs.Ytchfnjfmlhacfaa
