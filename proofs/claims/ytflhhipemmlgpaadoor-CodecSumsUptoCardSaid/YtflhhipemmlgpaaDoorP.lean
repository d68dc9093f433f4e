/- Contracts of codec: the document's form of bytes. -/
import Derived.Test.YtflhhipemmlgpaaDoorO
set_option linter.unusedSimpArgs false
set_option linter.unusedVariables false
namespace Go.Proofs.YtflhhipemmlgpaaDoor
open Go.Abs

def escB (c : UInt8) : List UInt8 := if c.toNat = 0 then [c, 1] else [c]
def esc (l : List UInt8) : List UInt8 := l.flatMap escB
def formB (l : List UInt8) : List UInt8 := esc l ++ [0, 0]
theorem escB_le (c : UInt8) : (escB c).length ≤ 2 := by unfold escB; split <;> simp
theorem esc_le (l : List UInt8) : (esc l).length ≤ 2 * l.length := by
  induction l with
  | nil => simp [esc]
  | cons c l ih =>
    have := escB_le c
    simp only [esc, List.flatMap_cons, List.length_append, List.length_cons] at ih ⊢
    omega
theorem esc_take_le (l : List UInt8) (i : Nat) : (esc (l.take i)).length ≤ 2 * l.length := by
  have := esc_le (l.take i)
  rw [List.length_take] at this
  omega
theorem esc_succ (l : List UInt8) (i : Nat) (hi : i < l.length) : esc (l.take (i + 1)) = esc (l.take i) ++ escB (l.getD i 0) := by
  unfold esc
  rw [List.take_succ_eq_append_getElem hi, List.flatMap_append]
  simp [List.getD, hi]
set_option maxHeartbeats 4000000 in
theorem refBytes_rf (l : List UInt8) (a : Option Addr) (m n : Nat) (h : AH) (S : SlB h n a l) (e : m = l.length) (hm : m ≤ 1099511627776) :
    RF Tryd.prog none' 46 #[.slice a m m] n h (Row (formB l) n h) := by
  subst e
  refine RF.of Tryd.func46 rfl rfl (Nat.le_of_ble_eq_true rfl) ?_; dsimp only [argEnv]
  repeat' (first | refine stpS ?_ | (refine stp2 ?_ ?_ <;> intro _))
  refine RC.loop ?_
  refine RL.inv (α := Nat × Option Addr) (fun s => [(4, .int .i64 (s.1 : Nat)), (3, .slice s.2 (esc (l.take s.1)).length (esc (l.take s.1)).length), (0, .slice a l.length l.length)])
    (fun s n1 h1 => s.1 ≤ l.length ∧ n ≤ n1 ∧ Ext n h h1 ∧ OwnSl h1 n n1 s.2 1 (esc (l.take s.1)).length (bytesV (esc (l.take s.1))))
    (fun s => l.length - s.1) (0, none) envs ⟨by omega, by omega, Ext.refl _ _, OwnSl.nil (by omega)⟩ ?_
  rintro ⟨i, a'⟩ n1 h1 ⟨hi, hn, hE, hO⟩
  dsimp only at hi hn hE hO ⊢
  have hS : SlB h1 n1 a l := S.ext hE hn
  have hel := esc_take_le l i
  by_cases hlt : i < l.length
  · have hb : (l.getD (i : Int).toNat 0).toNat < 256 := UInt8.toNat_lt _
    have hsu := esc_succ l i hlt
    repeat' (first | refine stpS ?_ | (refine stp2 ?_ ?_ <;> intro _))
    refine RS.append rfl opd opd (hO.ext ext (Nat.le_succ _)) (OwnSl.src (OwnSl.new1 (n0 := n1) (m := 1) (Nat.le_refl _) rfl rfl)) full_slice (fun b hb => Or.inr (by omega)) (by omega) ?_
    intro a2 n2 h2 hle2 hO2 hX2 hnew2
    have hE2 := hX2.ext (hO.ext ext (Nat.le_succ _))
    have hS2 : SlB h2 n2 a l := S.ext ext (by omega)
    by_cases hz : (l.getD (i : Int).toNat 0).toNat = 0
    · repeat' (first | refine stpS ?_ | (refine stp2 ?_ ?_ <;> intro _))
      refine RS.append rfl opd opd (hO2.ext ext (Nat.le_succ _)) (OwnSl.src (OwnSl.new1 (n0 := n2) (m := 1) (Nat.le_refl _) rfl rfl)) full_slice (fun b hb => Or.inr (by omega)) (by omega) ?_
      intro a3 n3 h3 hle3 hO3 hX3 hnew3
      have hE3 := hX3.ext (hO2.ext ext (Nat.le_succ _))
      repeat' (first | refine stpS ?_ | (refine stp2 ?_ ?_ <;> intro _))
      rw [Int.toNat_natCast] at hz
      have he : escB (l.getD i 0) = [l.getD i 0, 1] := by unfold escB; rw [if_pos hz]
      have hl : (esc (l.take (i + 1))).length = (esc (l.take i)).length + 1 + 1 := by rw [hsu, List.length_append, he]; rfl
      refine nextC.normal ⟨(i + 1, a3), by dsimp only; omega, ?_, by dsimp only; omega, by omega, ext, ?_⟩
      · dsimp only
        rw [hl]; exact envs
      · dsimp only
        have hv : bytesV (esc (l.take (i + 1))) = (bytesV (esc (l.take i)) ++ [.int .u8 (l.getD i 0).toNat]) ++ [.int .u8 1] := by
          rw [hsu, he, bytesV_app, List.append_assoc]; rfl
        rw [hl, hv]
        rw [Int.toNat_natCast] at hO3
        exact hO3
    · repeat' (first | refine stpS ?_ | (refine stp2 ?_ ?_ <;> intro _))
      rw [Int.toNat_natCast] at hz
      have he : escB (l.getD i 0) = [l.getD i 0] := by unfold escB; rw [if_neg hz]
      have hl : (esc (l.take (i + 1))).length = (esc (l.take i)).length + 1 := by rw [hsu, List.length_append, he]; rfl
      refine nextC.normal ⟨(i + 1, a2), by dsimp only; omega, ?_, by dsimp only; omega, by omega, ext, ?_⟩
      · dsimp only
        rw [hl]; exact envs
      · dsimp only
        have hv : bytesV (esc (l.take (i + 1))) = bytesV (esc (l.take i)) ++ [.int .u8 (l.getD i 0).toNat] := by
          rw [hsu, he, bytesV_app]; rfl
        rw [hl, hv]
        rw [Int.toNat_natCast] at hO2
        exact hO2
  · repeat' (first | refine stpS ?_ | (refine stp2 ?_ ?_ <;> intro _))
    refine RS.append rfl opd opd (hO.ext ext (Nat.le_succ _)) (OwnSl.src (OwnSl.new1 (n0 := n1) (m := 2) (Nat.le_refl _) rfl rfl)) full_slice (fun b hb => Or.inr (by omega)) (by omega) ?_
    intro a2 n2 h2 hle2 hO2 hX2 hnew2
    have hE2 := hX2.ext (hO.ext ext (Nat.le_succ _))
    obtain rfl : i = l.length := by omega
    rw [List.take_of_length_le (Nat.le_refl _)] at hO2 ⊢
    repeat' (first | refine stpS ?_ | (refine stp2 ?_ ?_ <;> intro _))
    have hl : (formB l).length = (esc l).length + 2 := by unfold formB; rw [List.length_append]; rfl
    refine ⟨a2, by rw [hl], ext, ?_⟩
    rw [hl]
    unfold formB
    rw [bytesV_app]
    exact hO2
end Go.Proofs.YtflhhipemmlgpaaDoor
