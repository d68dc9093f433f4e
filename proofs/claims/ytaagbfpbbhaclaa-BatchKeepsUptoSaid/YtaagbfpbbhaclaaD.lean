/- Contracts of batches: columns. -/
import Derived.Test.YtaagbfpbbhaclaaC
set_option linter.unusedSimpArgs false
set_option linter.unusedVariables false
namespace Go.Proofs.Ytaagbfpbbhaclaa
open Go.Abs

/-- A value that a column of the type may hold. -/
def good (t : Ty) (v : Val) : Prop := v.ty = t ∧ v.check = 0
instance (t : Ty) (v : Val) : Decidable (good t v) := by unfold good; infer_instance
def colMay (t : Ty) (l : List Val) : Prop := t.may ∧ ∀ v ∈ l, good t v
instance (t : Ty) (l : List Val) : Decidable (colMay t l) := by unfold colMay; infer_instance
set_option maxHeartbeats 4000000 in
theorem col1_ev (k s : Int) (v : Val) (bt n : Nat) (h : AH) (hb : bt < n) (c0 : h.cell bt 0 = .int .i64 k) (c1 : h.cell bt 1 = .int .i64 s) :
    Ev Try.prog none' 50 #[.agg #[.int .i64 v.ty.kind, .int .i64 v.ty.scale, .bool v.null, .int .i64 v.num, .string v.txt], .pointer (some ⟨bt, 0, none⟩)] n h (.bool (!decide (good ⟨k, s⟩ v))) n h := by
  obtain ⟨⟨a, b⟩, p, m, x⟩ := v
  dsimp only
  refine RF.pure rfl fun n' hn => ?_
  refine RF.of Try.func50 rfl rfl (Nat.le_of_ble_eq_true rfl) ?_; dsimp only [argEnv]
  have hb' : bt < n' := by omega
  have hck := check_ev a b p m x (n' + 1) (h.app (.new n' ⟨5, 0, true, 0⟩ [.int .i64 a, .int .i64 b, .bool p, .int .i64 m, .string x]))
  by_cases e : a = k ∧ b = s
  · repeat' (first | refine stpS ?_ | (refine stp2 ?_ ?_ <;> intro _))
    refine RS.put rfl rfl (o_neTy (r := false) opd opd (by simp [e])) ?_
    by_cases q : Val.check ⟨⟨a, b⟩, p, m, x⟩ = 0
    · rw [q] at hck
      repeat' (first | refine stpS ?_ | (refine stp2 ?_ ?_ <;> intro _) | refine RS.call1 rfl opds (hck) none'W ?_)
      simp [good, e.1, e.2]
      rw [← e.1, ← e.2]; exact q
    · repeat' (first | refine stpS ?_ | (refine stp2 ?_ ?_ <;> intro _) | refine RS.call1 rfl opds (hck) none'W ?_)
      have : ¬ good ⟨k, s⟩ ⟨⟨a, b⟩, p, m, x⟩ := fun g => q g.2
      simp [this]
  · repeat' (first | refine stpS ?_ | (refine stp2 ?_ ?_ <;> intro _))
    refine RS.put rfl rfl (o_neTy (r := true) opd opd (by simp [e])) ?_
    repeat' (first | refine stpS ?_ | (refine stp2 ?_ ?_ <;> intro _))
    have : ¬ good ⟨k, s⟩ ⟨⟨a, b⟩, p, m, x⟩ := fun g => e ⟨congrArg Ty.kind g.1, congrArg Ty.scale g.1⟩
    simp [this]
set_option maxHeartbeats 4000000 in
theorem index_rf (k s : Int) (l : List Val) (a : Option Addr) (bt n : Nat) (h : AH) (S : SlV h n a l) (hl : l.length ≤ 1099511627776) (hb : bt < n) (c0 : h.cell bt 0 = .int .i64 k) (c1 : h.cell bt 1 = .int .i64 s) :
    RF Try.prog none' 64 #[.slice a l.length l.length, .func (.func 50) #[] #[.pointer (some ⟨bt, 0, none⟩)]] n h (fun r n' h' => Ext n h h' ∧
      ((r = .int .i64 (-1) ∧ ∀ v ∈ l, good ⟨k, s⟩ v) ∨ ∃ j : Nat, r = .int .i64 (j : Nat) ∧ ∃ v ∈ l, ¬ good ⟨k, s⟩ v)) := by
  refine RF.of Try.func64 rfl rfl (Nat.le_of_ble_eq_true rfl) ?_; dsimp only [argEnv]
  repeat' (first | refine stpS ?_ | (refine stp2 ?_ ?_ <;> intro _))
  refine RC.loop ?_
  refine RL.inv (α := Nat) (fun z => [(8, .int .i64 (z : Nat)), (7, .int .i64 l.length), (1, .func (.func 50) #[] #[.pointer (some ⟨bt, 0, none⟩)]), (0, .slice a l.length l.length)])
    (fun z n1 h1 => z ≤ l.length ∧ n ≤ n1 ∧ Ext n h h1 ∧ ∀ v ∈ l.take z, good ⟨k, s⟩ v) (fun z => l.length - z) 0 envs ⟨by omega, by omega, Ext.refl _ _, by simp⟩ ?_
  rintro i n1 h1 ⟨hi, hn1, hE, hno⟩
  repeat' (first | refine stpS ?_ | (refine stp2 ?_ ?_ <;> intro _))
  · have hi' : i < l.length := by omega
    obtain ⟨v, hv⟩ : ∃ v, l[i]? = some v := ⟨_, List.getElem?_eq_getElem hi'⟩
    have S1 : SlV h1 n1 a l := SlR.ext S hE hn1
    obtain ⟨hA, hsn, d0, d1, d2, d3, d4⟩ := S1.at_ hv
    have hs := col1_ev k s v bt n1 h1 (by omega) ((hE.cell bt 0 hb).trans c0) ((hE.cell bt 1 hb).trans c1)
    obtain ⟨⟨a', b'⟩, p, m, x⟩ := v
    dsimp only at d0 d1 d2 d3 d4 hs
    repeat' (first | refine stpS ?_ | (refine stp2 ?_ ?_ <;> intro _))
    refine RS.callv (caps := [.pointer (some ⟨bt, 0, none⟩)]) rfl opd opds (RF.ev hs (Q := fun r n2 h2 => r = .bool (!decide (good ⟨k, s⟩ ⟨⟨a', b'⟩, p, m, x⟩)) ∧ n2 = n1 ∧ h2 = h1) ⟨rfl, rfl, rfl⟩) none'W ?_
    rintro r n2 h2 hle ⟨rfl, rfl, rfl⟩
    have htk : l.take (i + 1) = l.take i ++ [⟨⟨a', b'⟩, p, m, x⟩] := by rw [List.take_add_one, hv]; rfl
    by_cases q : good ⟨k, s⟩ ⟨⟨a', b'⟩, p, m, x⟩
    · rw [decide_eq_true q]
      repeat' (first | refine stpS ?_ | (refine stp2 ?_ ?_ <;> intro _))
      refine nextC.normal ⟨i + 1, by omega, envs, by omega, hn1, hE, fun y hy => ?_⟩
      rw [htk] at hy
      rcases List.mem_append.1 hy with z | z
      · exact hno y z
      · simp at z; subst z; exact q
    · rw [decide_eq_false q]
      repeat' (first | refine stpS ?_ | (refine stp2 ?_ ?_ <;> intro _))
      exact ⟨hE, .inr ⟨i, rfl, _, List.mem_of_getElem? hv, q⟩⟩
  · repeat' (first | refine stpS ?_ | (refine stp2 ?_ ?_ <;> intro _))
    rw [List.take_of_length_le (by omega)] at hno
    exact ⟨hE, .inl ⟨rfl, hno⟩⟩
set_option maxHeartbeats 4000000 in
theorem contains_rf (k s : Int) (l : List Val) (a : Option Addr) (bt n : Nat) (h : AH) (S : SlV h n a l) (hl : l.length ≤ 1099511627776) (hb : bt < n) (c0 : h.cell bt 0 = .int .i64 k) (c1 : h.cell bt 1 = .int .i64 s) :
    RF Try.prog none' 49 #[.slice a l.length l.length, .func (.func 50) #[] #[.pointer (some ⟨bt, 0, none⟩)]] n h (fun r n' h' => Ext n h h' ∧ r = .bool (!decide (∀ v ∈ l, good ⟨k, s⟩ v))) := by
  refine RF.of Try.func49 rfl rfl (Nat.le_of_ble_eq_true rfl) ?_; dsimp only [argEnv]
  repeat' (first | refine stpS ?_ | (refine stp2 ?_ ?_ <;> intro _))
  refine RS.call rfl opds (index_rf k s l a bt n h S hl hb c0 c1) none'W ?_
  rintro r n1 h1 hle ⟨hE, ⟨rfl, hg⟩ | ⟨j, rfl, v, hv, hb⟩⟩
  · repeat' (first | refine stpS ?_ | (refine stp2 ?_ ?_ <;> intro _))
    exact ⟨hE, by rw [decide_eq_true hg]; rfl⟩
  · repeat' (first | refine stpS ?_ | (refine stp2 ?_ ?_ <;> intro _))
    exact ⟨hE, by rw [decide_eq_false (fun q => hb (q v hv))]; rfl⟩
set_option maxHeartbeats 4000000 in
theorem column_rf (k s : Int) (l : List Val) (a : Option Addr) (n : Nat) (h : AH) (S : SlV h n a l) (hl : l.length ≤ 1099511627776) :
    RF Try.prog none' 31 #[.agg #[.int .i64 k, .int .i64 s], .slice a l.length l.length] n h (fun r n' h' => Ext n h h' ∧ r = .bool (decide (colMay ⟨k, s⟩ l))) := by
  refine RF.of Try.func31 rfl rfl (Nat.le_of_ble_eq_true rfl) ?_; dsimp only [argEnv]
  have E0 : Ext n h (h.app (.new n ⟨2, 0, true, 0⟩ [.int .i64 k, .int .i64 s])) := ext
  have S0 : SlV (h.app (.new n ⟨2, 0, true, 0⟩ [.int .i64 k, .int .i64 s])) (n + 1) a l := SlR.ext S E0 (Nat.le_succ n)
  have c0 : (h.app (.new n ⟨2, 0, true, 0⟩ [.int .i64 k, .int .i64 s])).cell n 0 = .int .i64 k := cell
  have c1 : (h.app (.new n ⟨2, 0, true, 0⟩ [.int .i64 k, .int .i64 s])).cell n 1 = .int .i64 s := cell
  have hct : Ev Try.prog none' 48 #[.agg #[.int .i64 k, .int .i64 s]] (n + 1) (h.app (.new n ⟨2, 0, true, 0⟩ [.int .i64 k, .int .i64 s])) (.int .i64 (Ty.check ⟨k, s⟩)) (n + 1) _ := checkType_ev ⟨k, s⟩ _ _
  unfold Ty.check at hct
  by_cases ht : Ty.may ⟨k, s⟩
  · rw [if_pos ht] at hct
    repeat' (first | refine stpS ?_ | (refine stp2 ?_ ?_ <;> intro _) | refine RS.call1 rfl opds (hct) none'W ?_)
    refine RS.call rfl opds (contains_rf k s l a n (n + 1) _ S0 hl (Nat.lt_succ_self n) c0 c1) none'W ?_
    rintro r n1 h1 hle ⟨hE, rfl⟩
    have e : decide (colMay ⟨k, s⟩ l) = decide (∀ v ∈ l, good ⟨k, s⟩ v) := by
      congr 1
      exact propext ⟨fun q => q.2, fun q => ⟨ht, q⟩⟩
    rw [e]
    cases decide (∀ v ∈ l, good ⟨k, s⟩ v)
    · repeat' (first | refine stpS ?_ | (refine stp2 ?_ ?_ <;> intro _))
      exact ⟨E0.trans (Nat.le_succ n) hE, rfl⟩
    · repeat' (first | refine stpS ?_ | (refine stp2 ?_ ?_ <;> intro _))
      exact ⟨E0.trans (Nat.le_succ n) hE, rfl⟩
  · rw [if_neg ht] at hct
    repeat' (first | refine stpS ?_ | (refine stp2 ?_ ?_ <;> intro _) | refine RS.call1 rfl opds (hct) none'W ?_)
    exact ⟨E0, by rw [decide_eq_false (fun q => ht q.1)]⟩
end Go.Proofs.Ytaagbfpbbhaclaa
