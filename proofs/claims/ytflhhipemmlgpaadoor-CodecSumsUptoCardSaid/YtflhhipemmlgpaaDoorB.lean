/- Contracts of codec: the size of an int's form. -/
import Derived.Test.YtflhhipemmlgpaaDoorB0
set_option linter.unusedSimpArgs false
set_option linter.unusedVariables false
namespace Go.Proofs.YtflhhipemmlgpaaDoor
open Go.Abs

theorem len64I_ev (x : Int) (h0 : 0 ≤ x) (hx : x < 18446744073709551616) (n : Nat) (h : AH) : Ev Tryd.prog none' 40 #[.int .u64 x] n h (.int .i64 (bl x.toNat : Nat)) n h := by
  have := len64_ev x.toNat (by omega) n h
  rwa [Int.toNat_of_nonneg h0] at this
theorem form_lenN {v : Int} (q : v < 0) : (form v).length = if (-v - 1).toNat < 120 then 1 else 1 + nb ((-v - 1).toNat - 120) := by
  rw [form_length, formUp_length, if_pos q]
theorem form_lenP {v : Int} (q : ¬ v < 0) : (form v).length = if v.toNat < 120 then 1 else 1 + nb (v.toNat - 120) := by
  rw [form_length, formUp_length, if_neg q]
set_option maxHeartbeats 4000000 in
theorem size_ev (v : Int) (hlo : -9223372036854775808 ≤ v) (hhi : v < 9223372036854775808) (n : Nat) (h : AH) : Ev Tryd.prog none' 12 #[.int .i64 v] n h (.int .i64 ((form v).length : Nat)) n h := by
  refine RF.pure rfl fun n' hn => ?_
  refine RF.of Tryd.func12 rfl rfl (Nat.le_of_ble_eq_true rfl) ?_; dsimp only [argEnv]
  rcases (by omega : v < -120 ∨ (-120 ≤ v ∧ v < 0) ∨ (0 ≤ v ∧ v < 120) ∨ 120 ≤ v) with q | q | q | q
  · have hL := form_lenN (v := v) (by omega)
    rw [if_neg (by omega)] at hL
    have hbl := bl_le (m := (-v - 1 - 120).toNat) (k := 63) (by omega)
    rw [show (-v - 1).toNat - 120 = (-v - 1 - 120).toNat by omega] at hL
    repeat (first | (refine RS.put (v := .int .i64 (-v - 1)) rfl rfl (o_notI (Opd.tmp Look.here) hlo hhi) ?_) | refine stpS ?_)
    repeat' (first | refine stpS ?_ | (refine stp2 ?_ ?_ <;> intro _) | refine RS.call1 rfl opds (len64I_ev _ (by omega) (by omega) _ _) none'W ?_)
    rw [hL]
    unfold nb
    exact congrArg (Value.int .i64) (by omega)
  · have hL := form_lenN (v := v) (by omega)
    rw [if_pos (by omega)] at hL
    rw [hL]
    repeat (first | (refine RS.put (v := .int .i64 (-v - 1)) rfl rfl (o_notI (Opd.tmp Look.here) hlo hhi) ?_) | refine stpS ?_)
    repeat' (first | refine stpS ?_ | (refine stp2 ?_ ?_ <;> intro _))
    rfl
  · have hL := form_lenP (v := v) (by omega)
    rw [if_pos (by omega)] at hL
    rw [hL]
    repeat' (first | refine stpS ?_ | (refine stp2 ?_ ?_ <;> intro _))
    rfl
  · have hL := form_lenP (v := v) (by omega)
    rw [if_neg (by omega)] at hL
    have hbl := bl_le (m := (v - 120).toNat) (k := 63) (by omega)
    rw [show v.toNat - 120 = (v - 120).toNat by omega] at hL
    repeat' (first | refine stpS ?_ | (refine stp2 ?_ ?_ <;> intro _) | refine RS.call1 rfl opds (len64I_ev _ (by omega) (by omega) _ _) none'W ?_)
    rw [hL]
    unfold nb
    exact congrArg (Value.int .i64) (by omega)
end Go.Proofs.YtflhhipemmlgpaaDoor
