/- Contracts of codec: a writer's bytes. -/
import Derived.Test.YtflhhipemmlgpaaDoorL
set_option linter.unusedSimpArgs false
set_option linter.unusedVariables false
namespace Go.Proofs.YtflhhipemmlgpaaDoor
open Go.Abs

/-- A writer that a call made: the block w, its bytes b at a. -/
structure WrR (h : AH) (n0 n w : Nat) (a : Option Addr) (b : List UInt8) : Prop where
  lo : n0 ≤ w
  hi : w < n
  inf : h.info w = some ⟨2, 0, true, 0⟩
  made : h.cell w 0 = .bool true
  sl : h.cell w 1 = .slice a b.length b.length
  own : OwnSl h n0 n a 1 b.length (bytesV b)
  ne : a = none ∨ sb a ≠ w
  le : b.length ≤ 1048576
def inW (w : Nat) (a : Option Addr) (x : Nat) : Prop := x = w ∨ inA a x
set_option maxHeartbeats 4000000 in
theorem newWriter_rf (n : Nat) (h : AH) : RF Tryd.prog none' 20 #[] n h (fun r n' h' => r = .pointer (some ⟨n, 0, none⟩) ∧ Ext n h h' ∧ WrR h' n n' n none []) := by
  refine RF.of Tryd.func20 rfl rfl (Nat.le_of_ble_eq_true rfl) ?_; dsimp only [argEnv]
  repeat' (first | refine stpS ?_ | (refine stp2 ?_ ?_ <;> intro _))
  exact ⟨rfl, ext, ⟨Nat.le_refl _, by omega, info, cell, cell, OwnSl.nil (by omega), .inl rfl, by simp⟩⟩
set_option maxHeartbeats 4000000 in
theorem more_rf (w : Nat) (a c : Option Addr) (b x : List UInt8) (m n0 n : Nat) (h : AH) (R : WrR h n0 n w a b) (S : SlB h n c x) (e : m = x.length) (hm : m ≤ 1099511627776) :
    RF Tryd.prog (inW w a) 48 #[.pointer (some ⟨w, 0, none⟩), .slice c m m] n h (fun r n' h' => ∃ a', r = .int .i64 (if x.length + b.length ≤ 1048576 then 0 else 3) ∧
      WrR h' n0 n' w a' (if x.length + b.length ≤ 1048576 then b ++ x else b) ∧ ExtW (inW w a) n h h' ∧ (a' = a ∨ n ≤ sb a')) := by
  subst e
  refine RF.of Tryd.func48 rfl rfl (Nat.le_of_ble_eq_true rfl) ?_; dsimp only [argEnv]
  obtain ⟨hlo, hhi, hinf, hmade, hsl, hown, hne, hle⟩ := R
  have hT : inW w a w ∨ n ≤ w := .inl (.inl rfl)
  by_cases q : x.length + b.length ≤ 1048576
  · rw [if_pos q, if_pos q]
    repeat' (first | refine stpS ?_ | (refine stp2 ?_ ?_ <;> intro _))
    refine RS.appendT rfl opd opd hown (SlB.src S) full_slice (fun q => .inl (.inr ⟨q, rfl⟩)) (by omega) ?_
    intro a2 n2 h2 hle2 hO2 hX hnew
    have hne' : a = none ∨ w ≠ sb a := hne.imp_right Ne.symm
    have hinf2 : h2.info w = some ⟨2, 0, true, 0⟩ := (hX w hhi hne').1.trans hinf
    have hmade2 : h2.cell w 0 = .bool true := ((hX w hhi hne').2 0).trans hmade
    have hne2 : a2 = none ∨ sb a2 ≠ w := by
      rcases hnew with k | k
      · rw [k]; exact hne
      · exact .inr (by omega)
    have hwn2 : w < n2 := by omega
    repeat' (first | refine stpS ?_ | (refine stp2 ?_ ?_ <;> intro _))
    refine ⟨a2, rfl, ⟨hlo, hwn2, ?_, ?_, ?_, ?_, hne2, by rw [List.length_append]; omega⟩, ?_, hnew⟩
    · rw [sets_info]; exact hinf2
    · exact cell
    · rw [List.length_append]; exact cell
    · rw [List.length_append, bytesV_app]
      exact hO2.setsN hne2
    · refine ⟨fun k hk hW => ?_, fun k i hk hW => ?_⟩
      · rw [sets_info]
        exact (hX k hk (by
          by_cases e : a = none
          · exact .inl e
          · exact .inr fun e2 => hW (.inr ⟨e, e2⟩))).1
      · rw [c_out (.inl fun e => hW (.inl e)) rfl]
        exact (hX k hk (by
          by_cases e : a = none
          · exact .inl e
          · exact .inr fun e2 => hW (.inr ⟨e, e2⟩))).2 i
  · rw [if_neg q, if_neg q]
    repeat' (first | refine stpS ?_ | (refine stp2 ?_ ?_ <;> intro _))
    exact ⟨a, rfl, ⟨hlo, hhi, hinf, hmade, hsl, hown, hne, hle⟩, ExtW.refl _ _ _, .inl rfl⟩
end Go.Proofs.YtflhhipemmlgpaaDoor
