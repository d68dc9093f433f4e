/- Contracts of the forms of ints: the document's, and put. -/
import Derived.Test.YtflhhipemmlgpaaDoorD
set_option linter.unusedSimpArgs false
set_option linter.unusedVariables false
namespace Go.Proofs.YtflhhipemmlgpaaDoor
open Go.Abs

set_option maxHeartbeats 4000000 in
theorem refInt_rf (v : Int) (hlo : -9223372036854775808 ≤ v) (hhi : v < 9223372036854775808) (n : Nat) (h : AH) :
    RF Tryd.prog none' 13 #[.int .i64 v] n h (fun r n' h' => ∃ a', r = .slice a' (form v).length (form v).length ∧ Ext n h h' ∧ OwnSl h' n n' a' 1 (form v).length (bytesV (form v))) := by
  refine RF.of Tryd.func13 rfl rfl (Nat.le_of_ble_eq_true rfl) ?_; dsimp only [argEnv]
  by_cases q : v < 0
  · have hf : form v = turn (formUp (-v - 1).toNat) := by unfold form; rw [if_pos q]
    obtain ⟨x, hx⟩ : ∃ x : Nat, x = (-v - 1).toNat := ⟨_, rfl⟩
    have hxv : -(v + 1) = (x : Int) := by omega
    rw [← hx] at hf
    have hfl : (formUp x).length ≤ 9 := by
      rw [formUp_length]
      have := nb_le (m := x - 120) (by omega)
      split <;> omega
    repeat' (first | refine stpS ?_ | (refine stp2 ?_ ?_ <;> intro _))
    rw [hxv]
    refine RS.call rfl opds (up_rf x (by omega) _ _) none'W ?_
    rintro r n1 h1 hle ⟨a1, rfl, hE1, hO1⟩
    have S1 : SlB h1 n1 a1 (formUp x) := OwnSl.slbE hO1
    repeat' (first | refine stpS ?_ | (refine stp2 ?_ ?_ <;> intro _))
    refine RS.call rfl opds (turned_rf (formUp x) a1 _ _ _ S1 rfl (by omega)) none'W ?_
    rintro r n2 h2 hle2 ⟨a2, rfl, hE2, hO2⟩
    repeat' (first | refine stpS ?_ | (refine stp2 ?_ ?_ <;> intro _))
    have hl : (form v).length = (formUp x).length := by rw [hf, turn_length]
    refine ⟨a2, by rw [hl], ext, ?_⟩
    rw [hl, hf]
    exact hO2.mono hle
  · have hf : form v = formUp v.toNat := by unfold form; rw [if_neg q]
    obtain ⟨x, hx⟩ : ∃ x : Nat, x = v.toNat := ⟨_, rfl⟩
    have hxv : v = (x : Int) := by omega
    rw [← hx] at hf
    rw [hf]
    subst hxv
    repeat' (first | refine stpS ?_ | (refine stp2 ?_ ?_ <;> intro _))
    refine RS.call rfl opds (up_rf x (by omega) _ _) none'W ?_
    rintro r n1 h1 hle ⟨a1, rfl, hE1, hO1⟩
    repeat' (first | refine stpS ?_ | (refine stp2 ?_ ?_ <;> intro _))
    exact ⟨a1, rfl, ext, hO1⟩
end Go.Proofs.YtflhhipemmlgpaaDoor
