/- Contracts of codec: bytes put together. -/
import Derived.Test.YtflhhipemmlgpaaDoorI
set_option linter.unusedSimpArgs false
set_option linter.unusedVariables false
namespace Go.Proofs.YtflhhipemmlgpaaDoor
open Go.Abs

def rowsF (ad : Nat → Option Addr) (ls : List (List UInt8)) : Nat → Value := fun j => .slice (ad j) (ls.getD j []).length (ls.getD j []).length
/-- A row of rows of bytes. -/
structure SlQ (h : AH) (n : Nat) (a : Option Addr) (ad : Nat → Option Addr) (ls : List (List UInt8)) : Prop where
  out : SlR h n a 1 ls.length (rowsF ad ls)
  row : ∀ j, j < ls.length → SlB h n (ad j) (ls.getD j [])
theorem SlQ.ext {h h1 : AH} {n n1 : Nat} {a : Option Addr} {ad : Nat → Option Addr} {ls : List (List UInt8)} (S : SlQ h n a ad ls) (E : Ext n h h1) (hn : n ≤ n1) : SlQ h1 n1 a ad ls :=
  ⟨S.out.ext E hn, fun j hj => (S.row j hj).ext E hn⟩
theorem flat_succ (ls : List (List UInt8)) (i : Nat) (hi : i < ls.length) : (ls.take (i + 1)).flatten = (ls.take i).flatten ++ ls.getD i [] := by
  rw [List.take_succ_eq_append_getElem hi, List.flatten_append]
  simp [List.getD, hi]
theorem flat_le (ls : List (List UInt8)) (i : Nat) : (ls.take i).flatten.length ≤ ls.flatten.length := by
  have : ls.flatten = (ls.take i).flatten ++ (ls.drop i).flatten := by rw [← List.flatten_append, List.take_append_drop]
  rw [this, List.length_append]; omega
set_option maxHeartbeats 4000000 in
theorem concat_rf (ls : List (List UInt8)) (ad : Nat → Option Addr) (a : Option Addr) (m n : Nat) (h : AH) (S : SlQ h n a ad ls) (e : m = ls.length) (hm : m ≤ 1099511627776) (ht : ls.flatten.length ≤ 1099511627776) :
    RF Tryd.prog none' 45 #[.slice a m m] n h (Row ls.flatten n h) := by
  subst e
  refine RF.of Tryd.func45 rfl rfl (Nat.le_of_ble_eq_true rfl) ?_; dsimp only [argEnv]
  repeat' (first | refine stpS ?_ | (refine stp2 ?_ ?_ <;> intro _))
  refine RC.loop ?_
  refine RL.inv (α := Nat) (fun i => [(11, .int .i64 (i : Nat)), (10, .int .i64 (ls.length : Nat)), (9, .slice a ls.length ls.length), (3, .int .i64 ((ls.take i).flatten.length : Nat)), (0, .slice a ls.length ls.length)])
    (fun i n1 h1 => i ≤ ls.length ∧ n1 = n ∧ h1 = h)
    (fun i => ls.length - i) 0 envs ⟨by omega, rfl, rfl⟩ ?_
  rintro i n1 h1 ⟨hi, rfl, rfl⟩
  have hfl := flat_le ls i
  have S1 := S.out
  by_cases hlt : i < ls.length
  · have hsu := flat_succ ls i hlt
    have hfl2 := flat_le ls (i + 1)
    rw [hsu, List.length_append] at hfl2
    have hfl3 : (ls.take i).flatten.length + (ls.getD (i : Int).toNat []).length ≤ ls.flatten.length := by rw [Int.toNat_natCast]; exact hfl2
    have hl : (ls.take (i + 1)).flatten.length = (ls.take i).flatten.length + (ls.getD (i : Int).toNat []).length := by rw [hsu, List.length_append, Int.toNat_natCast]
    repeat' (first | refine stpS ?_ | (refine stp2 ?_ ?_ <;> intro _))
    refine nextC.normal ⟨i + 1, by omega, ?_, by omega, rfl, rfl⟩
    rw [hl, Int.natCast_add]
    exact envs
  · have e : i = ls.length := by omega
    rw [e, List.take_of_length_le (Nat.le_refl _)]
    repeat' (first | refine stpS ?_ | (refine stp2 ?_ ?_ <;> intro _))
    refine RS.call rfl opds (grow_rf _ (by omega) (by omega) _ _) none'W ?_
    rintro r n2 h2 hle ⟨a2, rfl, hE2, hO2⟩
    repeat' (first | refine stpS ?_ | (refine stp2 ?_ ?_ <;> intro _))
    refine RC.loop ?_
    refine RL.inv (α := Nat × Option Addr) (fun s => [(27, .int .i64 (s.1 : Nat)), (26, .int .i64 (ls.length : Nat)), (25, .slice a ls.length ls.length), (6, .slice s.2 (ls.take s.1).flatten.length (ls.take s.1).flatten.length)])
      (fun s n3 h3 => s.1 ≤ ls.length ∧ n1 ≤ n3 ∧ Ext n1 h1 h3 ∧ OwnSl h3 n1 n3 s.2 1 (ls.take s.1).flatten.length (bytesV (ls.take s.1).flatten))
      (fun s => ls.length - s.1) (0, a2) envs ⟨by omega, by omega, hE2, hO2⟩ ?_
    rintro ⟨j, a3⟩ n3 h3 ⟨hj, hn3, hE3, hO3⟩
    dsimp only at hj hn3 hE3 hO3 ⊢
    have S3 := S.ext hE3 hn3
    have S3o := S3.out
    by_cases hlt2 : j < ls.length
    · have hsu := flat_succ ls j hlt2
      have hfl2 := flat_le ls (j + 1)
      rw [hsu, List.length_append] at hfl2
      repeat' (first | refine stpS ?_ | (refine stp2 ?_ ?_ <;> intro _))
      rw [show (j : Int).toNat = j by omega]
      rw [show rowsF ad ls j = .slice (ad j) (ls.getD j []).length (ls.getD j []).length from rfl]
      refine RS.append rfl opd opd hO3 (SlB.src (S3.row j hlt2)) full_slice (fun b hb => Or.inr (by omega)) (by omega) ?_
      intro a4 n4 h4 hle4 hO4 hX4 hnew4
      have hE4 := hX4.ext hO3
      rw [← bytesV_app, ← List.length_append, ← hsu] at hO4
      rw [← List.length_append, ← hsu]
      repeat' (first | refine stpS ?_ | (refine stp2 ?_ ?_ <;> intro _))
      exact nextC.normal ⟨(j + 1, a4), by dsimp only; omega, envs, by dsimp only; omega, by omega, ext, hO4⟩
    · repeat' (first | refine stpS ?_ | (refine stp2 ?_ ?_ <;> intro _))
      have e : j = ls.length := by omega
      rw [e, List.take_of_length_le (Nat.le_refl _)] at hO3 ⊢
      exact ⟨a3, rfl, ext, hO3⟩
end Go.Proofs.YtflhhipemmlgpaaDoor
