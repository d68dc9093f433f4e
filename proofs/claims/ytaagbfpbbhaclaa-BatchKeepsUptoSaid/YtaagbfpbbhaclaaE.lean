/- Contracts of batches: the document's column; rows that are the same. -/
import Derived.Test.YtaagbfpbbhaclaaD
set_option linter.unusedSimpArgs false
set_option linter.unusedVariables false
namespace Go.Proofs.Ytaagbfpbbhaclaa
open Go.Abs

theorem val_eq {a b : Val} : a = b ↔ (a.ty.kind = b.ty.kind ∧ a.ty.scale = b.ty.scale) ∧ a.null = b.null ∧ a.num = b.num ∧ a.txt = b.txt := by
  obtain ⟨⟨k, s⟩, p, m, x⟩ := a
  obtain ⟨⟨k', s'⟩, p', m', x'⟩ := b
  constructor
  · intro h; cases h; exact ⟨⟨rfl, rfl⟩, rfl, rfl, rfl⟩
  · rintro ⟨⟨h1, h2⟩, h3, h4, h5⟩
    dsimp only at h1 h2 h3 h4 h5
    subst h1; subst h2; subst h3; subst h4; subst h5; rfl
instance : DecidableEq Val := fun a b => decidable_of_iff _ val_eq.symm
set_option maxHeartbeats 4000000 in
theorem refColumn_rf (k s : Int) (l : List Val) (a : Option Addr) (z : Int) (n : Nat) (h : AH) (S : SlV h n a l) (hl : l.length ≤ 1099511627776) :
    RF Try.prog none' 32 #[.agg #[.int .i64 k, .int .i64 s], .slice a l.length l.length, .int .i64 z] n h (fun r n' h' => Ext n h h' ∧ r = .bool (decide (colMay ⟨k, s⟩ l ∧ (l.length : Int) = z))) := by
  refine RF.of Try.func32 rfl rfl (Nat.le_of_ble_eq_true rfl) ?_; dsimp only [argEnv]
  have E0 : Ext n h (h.app (.new n ⟨2, 0, true, 0⟩ [.int .i64 k, .int .i64 s])) := ext
  have S0 : SlV (h.app (.new n ⟨2, 0, true, 0⟩ [.int .i64 k, .int .i64 s])) (n + 1) a l := SlR.ext S E0 (Nat.le_succ n)
  have c0 : (h.app (.new n ⟨2, 0, true, 0⟩ [.int .i64 k, .int .i64 s])).cell n 0 = .int .i64 k := cell
  have c1 : (h.app (.new n ⟨2, 0, true, 0⟩ [.int .i64 k, .int .i64 s])).cell n 1 = .int .i64 s := cell
  repeat' (first | refine stpS ?_ | (refine stp2 ?_ ?_ <;> intro _))
  generalize h.app (.new n ⟨2, 0, true, 0⟩ [.int .i64 k, .int .i64 s]) = g at *
  refine RC.loop ?_
  refine RL.inv (α := Nat) (fun y => [(7, .int .i64 (y : Nat)), (1, .slice a l.length l.length), (2, .int .i64 z), (3, .pointer (some ⟨n, 0, none⟩))])
    (fun y n1 h1 => y ≤ l.length ∧ n + 1 ≤ n1 ∧ h1 = g ∧ ∀ v ∈ l.take y, good ⟨k, s⟩ v) (fun y => l.length - y) 0 envs ⟨by omega, Nat.le_refl _, rfl, by simp⟩ ?_
  rintro i n1 h1 ⟨hi, hn1, rfl, hno⟩
  have hnn : n < n1 := by omega
  by_cases hlt : i < l.length
  · obtain ⟨v, hv⟩ : ∃ v, l[i]? = some v := ⟨_, List.getElem?_eq_getElem hlt⟩
    have S1 : SlV h1 n1 a l := SlR.ext S0 (Ext.refl _ _) hn1
    obtain ⟨hA, hsn, d0, d1, d2, d3, d4⟩ := S1.at_ hv
    have htk : l.take (i + 1) = l.take i ++ [v] := by rw [List.take_add_one, hv]; rfl
    have hmem := List.mem_of_getElem? hv
    obtain ⟨⟨a', b'⟩, p, m, x⟩ := v
    dsimp only at d0 d1 d2 d3 d4
    have hck := refCheck_ev a' b' p m x n1 (h1.below n1)
    by_cases e : a' = k ∧ b' = s
    · repeat' (first | refine stpS ?_ | (refine stp2 ?_ ?_ <;> intro _))
      repeat' (first | refine stp ?_ | (refine stp2 ?_ ?_ <;> intro _))
      refine RD.put rfl rfl (o_neTy (r := false) opd opd (by simp [e])) ?_
      repeat' (first | refine stp ?_ | (refine stp2 ?_ ?_ <;> intro _))
      by_cases q : Val.check ⟨⟨a', b'⟩, p, m, x⟩ = 0
      · rw [q] at hck
        refine RD.callP n1 rfl opds hck (Nat.le_refl _) cfc ?_
        repeat' (first | refine stp ?_ | (refine stp2 ?_ ?_ <;> intro _))
        refine nextC.normal ⟨i + 1, by omega, envs, by omega, hn1, rfl, fun y hy => ?_⟩
        rw [htk] at hy
        rcases List.mem_append.1 hy with w | w
        · exact hno y w
        · simp at w; subst w
          refine ⟨?_, q⟩
          show Ty.mk a' b' = Ty.mk k s
          rw [e.1, e.2]
      · refine RD.callP n1 rfl opds hck (Nat.le_refl _) cfc ?_
        repeat' (first | refine stp ?_ | (refine stp2 ?_ ?_ <;> intro _))
        exact ⟨E0, by rw [decide_eq_false (fun g => q (g.1.2 _ hmem).2)]⟩
    · repeat' (first | refine stpS ?_ | (refine stp2 ?_ ?_ <;> intro _))
      repeat' (first | refine stp ?_ | (refine stp2 ?_ ?_ <;> intro _))
      refine RD.put rfl rfl (o_neTy (r := true) opd opd (by simp [e])) ?_
      repeat' (first | refine stp ?_ | (refine stp2 ?_ ?_ <;> intro _))
      exact ⟨E0, by rw [decide_eq_false (fun g => e ⟨congrArg Ty.kind (g.1.2 _ hmem).1, congrArg Ty.scale (g.1.2 _ hmem).1⟩)]⟩
  · have hie : i = l.length := by omega
    subst hie
    rw [List.take_length] at hno
    have hct : Ev Try.prog none' 53 #[.agg #[.int .i64 k, .int .i64 s]] n1 h1 (.int .i64 (Ty.check ⟨k, s⟩)) n1 h1 := refCheckType_ev ⟨k, s⟩ _ _
    unfold Ty.check at hct
    by_cases hz : (l.length : Int) = z
    · by_cases ht : Ty.may ⟨k, s⟩
      · rw [if_pos ht] at hct
        repeat' (first | refine stpS ?_ | (refine stp2 ?_ ?_ <;> intro _) | refine RS.call1 rfl opds (hct) none'W ?_)
        exact ⟨E0, by rw [decide_eq_true ⟨⟨ht, hno⟩, hz⟩]⟩
      · rw [if_neg ht] at hct
        repeat' (first | refine stpS ?_ | (refine stp2 ?_ ?_ <;> intro _) | refine RS.call1 rfl opds (hct) none'W ?_)
        exact ⟨E0, by rw [decide_eq_false (fun q => ht q.1.1)]⟩
    · repeat' (first | refine stpS ?_ | (refine stp2 ?_ ?_ <;> intro _))
      exact ⟨E0, by rw [decide_eq_false (fun q => hz q.2)]⟩
set_option maxHeartbeats 4000000 in
theorem refSame_ev (l m : List Val) (a b : Option Addr) (n : Nat) (h : AH) (S : SlV h n a l) (S2 : SlV h n b m) (hl : l.length ≤ 1099511627776) :
    Ev Try.prog none' 33 #[.slice a l.length l.length, .slice b m.length m.length] n h (.bool (decide (l = m))) n h := by
  refine RF.pure rfl fun n' hn => ?_
  have S := SlR.ext S (Ext.refl n h) hn
  have S2 := SlR.ext S2 (Ext.refl n h) hn
  refine RF.of Try.func33 rfl rfl (Nat.le_of_ble_eq_true rfl) ?_; dsimp only [argEnv]
  by_cases hlm : l.length = m.length
  · rw [← hlm]
    repeat' (first | refine stpS ?_ | (refine stp2 ?_ ?_ <;> intro _))
    refine RC.loop ?_
    refine RL.inv (α := Nat) (fun y => [(5, .int .i64 (y : Nat)), (0, .slice a l.length l.length), (1, .slice b l.length l.length)])
      (fun y n1 h1 => y ≤ l.length ∧ n' ≤ n1 ∧ h1 = h ∧ l.take y = m.take y) (fun y => l.length - y) 0 envs ⟨by omega, Nat.le_refl _, rfl, by simp⟩ ?_
    rintro i n1 h1 ⟨hi, hn1, rfl, hno⟩
    by_cases hlt : i < l.length
    · obtain ⟨v, hv⟩ : ∃ v, l[i]? = some v := ⟨_, List.getElem?_eq_getElem hlt⟩
      obtain ⟨u, hu⟩ : ∃ u, m[i]? = some u := ⟨_, List.getElem?_eq_getElem (by omega)⟩
      obtain ⟨hA, hsn, d0, d1, d2, d3, d4⟩ := SlV.at_ S hv
      obtain ⟨hB, hsn2, f0, f1, f2, f3, f4⟩ := SlV.at_ S2 hu
      rw [← hlm] at hB
      have hq1 : sb a < n1 := by omega
      have hq2 : sb b < n1 := by omega
      have hvu : (decide ((v.ty.kind = u.ty.kind ∧ v.ty.scale = u.ty.scale) ∧ v.null = u.null ∧ v.num = u.num ∧ v.txt = u.txt)) = decide (v = u) := by
        congr 1; exact propext val_eq.symm
      have htk : l.take (i + 1) = l.take i ++ [v] := by rw [List.take_add_one, hv]; rfl
      have htk2 : m.take (i + 1) = m.take i ++ [u] := by rw [List.take_add_one, hu]; rfl
      repeat' (first | refine stpS ?_ | (refine stp2 ?_ ?_ <;> intro _))
      repeat' (first | refine stp ?_ | (refine stp2 ?_ ?_ <;> intro _))
      refine RD.put rfl rfl (o_neVal (r := !decide (v = u)) opd opd (by rw [hvu])) ?_
      by_cases q : v = u
      · rw [decide_eq_true q]
        repeat' (first | refine stp ?_ | (refine stp2 ?_ ?_ <;> intro _))
        refine nextC.normal ⟨i + 1, by omega, envs, by omega, hn1, rfl, by rw [htk, htk2, hno, q]⟩
      · rw [decide_eq_false q]
        repeat' (first | refine stp ?_ | (refine stp2 ?_ ?_ <;> intro _))
        have : ¬ l = m := fun g => by subst g; rw [hv] at hu; cases hu; exact q rfl
        simp [this]
    · have hie : i = l.length := by omega
      subst hie
      rw [List.take_length, hlm, List.take_length] at hno
      repeat' (first | refine stpS ?_ | (refine stp2 ?_ ?_ <;> intro _))
      simp [hno]
  · repeat' (first | refine stpS ?_ | (refine stp2 ?_ ?_ <;> intro _))
    have : ¬ l = m := fun g => hlm (by rw [g])
    simp [this]
end Go.Proofs.Ytaagbfpbbhaclaa
