/- Contracts of the document's forms of ints. -/
import Derived.Test.YtflhhipemmlgpaaDoorB
set_option linter.unusedSimpArgs false
set_option linter.unusedVariables false
namespace Go.Proofs.YtflhhipemmlgpaaDoor
open Go.Abs

theorem bytesV_take_succ (l : List UInt8) (i : Nat) (hi : i < l.length) : bytesV (l.take (i + 1)) = bytesV (l.take i) ++ [.int .u8 (l.getD i 0).toNat] := by
  unfold bytesV
  rw [List.take_succ_eq_append_getElem hi, List.map_append]
  simp [List.getD, hi]
theorem turn_getD (l : List UInt8) (i : Nat) (hi : i < l.length) : ((turn l).getD i 0).toNat = 255 - (l.getD i 0).toNat := by
  unfold turn
  have : (l.map fun x => 255 - x)[i]? = some (255 - l[i]) := by simp [hi]
  rw [List.getD_eq_getElem?_getD, this, Option.getD_some, List.getD_eq_getElem?_getD, List.getElem?_eq_getElem hi, Option.getD_some]
  generalize l[i] = x
  have := x.toNat_lt
  rw [UInt8.toNat_sub_of_le _ _ (by rw [UInt8.le_iff_toNat_le]; show x.toNat ≤ 255; omega)]
  rfl
theorem turn_length (l : List UInt8) : (turn l).length = l.length := by simp [turn]
set_option maxHeartbeats 4000000 in
theorem turned_rf (l : List UInt8) (a : Option Addr) (m n : Nat) (h : AH) (S : SlB h n a l) (e : m = l.length) (hm : m ≤ 1099511627776) :
    RF Tryd.prog none' 41 #[.slice a m m] n h (fun r n' h' => ∃ a', r = .slice a' l.length l.length ∧ Ext n h h' ∧ OwnSl h' n n' a' 1 l.length (bytesV (turn l))) := by
  subst e
  refine RF.of Tryd.func41 rfl rfl (Nat.le_of_ble_eq_true rfl) ?_; dsimp only [argEnv]
  repeat' (first | refine stpS ?_ | (refine stp2 ?_ ?_ <;> intro _))
  refine RC.loop ?_
  refine RL.inv (α := Nat × Option Addr) (fun s => [(4, .int .i64 (s.1 : Nat)), (3, .slice s.2 s.1 s.1), (0, .slice a l.length l.length)])
    (fun s n1 h1 => s.1 ≤ l.length ∧ n ≤ n1 ∧ Ext n h h1 ∧ OwnSl h1 n n1 s.2 1 s.1 (bytesV ((turn l).take s.1)))
    (fun s => l.length - s.1) (0, none) envs ⟨by omega, by omega, Ext.refl _ _, OwnSl.nil (by omega)⟩ ?_
  rintro ⟨i, a'⟩ n1 h1 ⟨hi, hn, hE, hO⟩
  dsimp only at hi hn hE hO ⊢
  have hS := S.ext hE hn
  have hb : (l.getD (i : Int).toNat 0).toNat < 256 := UInt8.toNat_lt _
  repeat' (first | refine stpS ?_ | (refine stp2 ?_ ?_ <;> intro _))
  · rename_i hlt
    refine RS.append rfl opd opd (hO.ext ext (Nat.le_succ _)) (OwnSl.src (OwnSl.new1 (n0 := n1) (m := 1) (Nat.le_refl _) rfl rfl)) full_slice (fun b hb => Or.inr (by omega)) (by omega) ?_
    intro a2 n2 h2 hle2 hO2 hX hnew
    have hE2 := hX.ext (hO.ext ext (Nat.le_succ _))
    repeat' (first | refine stpS ?_ | (refine stp2 ?_ ?_ <;> intro _))
    refine nextC.normal ⟨(i + 1, a2), by dsimp only; omega, envs, by dsimp only; omega, by omega, ext, ?_⟩
    dsimp only
    rw [bytesV_take_succ _ _ (by rw [turn_length]; omega), turn_getD _ _ (by omega)]
    rw [Int.toNat_natCast] at hO2 hb
    rw [Int.natCast_sub (by omega)]
    exact hO2
  · rename_i hlt
    have e : i = l.length := by omega
    subst e
    refine ⟨a', rfl, ext, ?_⟩
    rw [List.take_of_length_le (by rw [turn_length]; omega)] at hO
    exact hO
end Go.Proofs.YtflhhipemmlgpaaDoor
