/- bytes.Repeat of one byte. -/
import Derived.Test.YtchfnjfmlhacfaaMn
namespace Go.Proofs.Ytchfnjfmlhacfaa
open Go.Abs

set_option maxHeartbeats 4000000 in
theorem mul64_ev (k : Nat) (hk : k ≤ 8192) (n : Nat) (h : AH) : Ev Try.prog none' 61 #[.int .u64 1, .int .u64 (k : Nat)] n h (.tuple #[.int .u64 0, .int .u64 (k : Nat)]) n h := by
  refine RF.pure (by simp [flat]) fun n' hn => ?_
  refine RF.of Try.func61 rfl rfl (Nat.le_of_ble_eq_true rfl) ?_; dsimp only [argEnv]
  repeat' (first | refine stpS ?_ | (refine stp2 ?_ ?_ <;> intro _))
  have h1 : (k : Int) % 4294967296 = k := by omega
  have h2 : ((k : Int)).toNat >>> Int.toNat 32 = 0 := by
    rw [Int.toNat_natCast]
    show k >>> 32 = 0
    rw [Nat.shiftRight_eq_div_pow]; omega
  have h3 : Int.toNat 1 >>> Int.toNat 32 = 0 := rfl
  have h4 : (1 : Int) % 4294967296 = 1 := rfl
  have h5 : Int.toNat 0 >>> Int.toNat 32 = 0 := rfl
  have h6 : ((0 : Nat) : Int) = 0 := rfl
  simp only [h1, h2, h3, h4, Int.one_mul, h6, Int.zero_mul, Int.zero_emod, Int.add_zero, Int.zero_add, Int.mul_zero, h5]
set_option maxHeartbeats 4000000 in
theorem mul_ev (k : Nat) (hk : k ≤ 8192) (n : Nat) (h : AH) : Ev Try.prog none' 52 #[.int .u64 1, .int .u64 (k : Nat)] n h (.tuple #[.int .u64 0, .int .u64 (k : Nat)]) n h := by
  refine RF.pure (by simp [flat]) fun n' hn => ?_
  refine RF.of Try.func52 rfl rfl (Nat.le_of_ble_eq_true rfl) ?_; dsimp only [argEnv]
  repeat' (first | refine stpS ?_ | (refine stp2 ?_ ?_ <;> intro _) | refine RS.call1 rfl opds (mul64_ev k hk _ _) none'W ?_)
  rfl
set_option maxHeartbeats 4000000 in
theorem repeat_rf (c : UInt8) (a : Option Addr) (k n : Nat) (h : AH) (S : SlB h n a [c]) (hk1 : 1 ≤ k) (hk : k ≤ 8192) :
    RF Try.prog none' 32 #[.slice a 1 1, .int .i64 (k : Nat)] n h (fun r n' h' => ∃ a', r = .slice a' k k ∧ Ext n h h' ∧ SlB h' n' a' (List.replicate k c) ∧ n ≤ sb a') := by
  refine RF.of Try.func32 rfl rfl (Nat.le_of_ble_eq_true rfl) ?_; dsimp only [argEnv]
  repeat' (first | refine stpS ?_ | (refine stp2 ?_ ?_ <;> intro _) | refine RS.call1 rfl opds (mul_ev k hk _ _) none'W ?_)
  refine RS.mem rfl rfl (op_makeNoZero (f := 53) (ps := #[3]) (t := 22) Try.func53 (by kernel_rfl) (by kernel_rfl) (by kernel_rfl) (by kernel_rfl) Uc.out Tc.out (Opd.ev opd) (by omega)) ?_
  have S1 : SlB (h.app (.new n ⟨k, 0, true, 1⟩ (List.replicate k (.tuple #[])))) (n + 1) a [c] := S.ext ext (Nat.le_succ n)
  have E1 : Ext n h (h.app (.new n ⟨k, 0, true, 1⟩ (List.replicate k (.tuple #[])))) := ext
  have i1 : (h.app (.new n ⟨k, 0, true, 1⟩ (List.replicate k (.tuple #[])))).info n = some ⟨k, 0, true, 1⟩ := info
  have hba : sb a < n := S.lt (by simp)
  generalize h.app (.new n ⟨k, 0, true, 1⟩ (List.replicate k (.tuple #[]))) = g at *
  repeat' (first | refine stpS ?_ | (refine stp2 ?_ ?_ <;> intro _))
  refine RS.put rfl rfl (op_slice3 Uc.out Tc.out (Opd.ev opd) (Opd.ev opd) (Opd.ev opd) i1 (.inr rfl)) ?_
  repeat' (first | refine stpS ?_ | (refine stp2 ?_ ?_ <;> intro _))
  have hs1 : Src g 1 (.slice a 1 1) 1 [.int .u8 (c.toNat : Nat)] := SlB.src S1
  refine RS.mem rfl rfl (op_copy (k := 1) (kk := 1) Uc.out Tc.out (by decide) (Opd.ev opd) (Opd.ev opd) hs1 full_slice (fun c w q => lenOf_slice q) (by omega) i1 (Nat.zero_le _) (by show 0 + 1 * 1 ≤ k; omega) (.inl (.inr (Nat.le_refl n))) (Nat.lt_succ_self n)) ?_
  repeat' (first | refine stpS ?_ | (refine stp2 ?_ ?_ <;> intro _))
  have c0 : (g.app (.sets n 0 [.int .u8 (c.toNat : Nat)])).cell n 0 = .int .u8 (c.toNat : Nat) := cell
  have E2 : Ext n h (g.app (.sets n 0 [.int .u8 (c.toNat : Nat)])) := E1.trans (Nat.le_refl n) ext
  have i2 : (g.app (.sets n 0 [.int .u8 (c.toNat : Nat)])).info n = some ⟨k, 0, true, 1⟩ := i_sets i1
  generalize g.app (.sets n 0 [.int .u8 (c.toNat : Nat)]) = g2 at *
  refine RC.loop ?_
  refine RL.inv (α := Nat) (fun s => [(10, .int .i64 (s : Nat)), (7, .int .i64 (k : Nat)), (8, .int .i64 (k : Nat)), (9, .slice (some ⟨n, 0, none⟩) k k)])
    (fun s n2 h2 => 1 ≤ s ∧ s ≤ k ∧ n + 1 ≤ n2 ∧ Ext n h h2 ∧ h2.info n = some ⟨k, 0, true, 1⟩ ∧ ∀ j, j < s → h2.cell n j = .int .u8 (c.toNat : Nat)) (fun s => k - s) 1 envs ⟨by omega, hk1, Nat.le_refl _, E2, i2, fun j hj => by rw [show j = 0 by omega]; exact c0⟩ ?_
  rintro bp n2 h2 ⟨hb1, hbk, hn2, E3, i3, hc⟩
  by_cases hlt : bp < k
  · have hnn : n < n2 := by omega
    repeat' (first | refine stpS ?_ | (refine stp2 ?_ ?_ <;> intro _))
    obtain ⟨aN, haN⟩ : ∃ aN : Option Addr, aN = some ⟨n, 0, none⟩ := ⟨_, rfl⟩
    have hsb : sb aN = n := by rw [haN]; rfl
    have hso : so aN = 0 := by rw [haN]; rfl
    have hsl : sb aN < n2 := by omega
    rw [← haN]
    have hI : SlI h2 aN 1 k := .inr ⟨by rw [hsb, hso]; exact haN, _, by rw [hsb]; exact i3, rfl⟩
    repeat' (first | refine stp ?_ | (refine stp2 ?_ ?_ <;> intro _))
    have e1 : (min (bp : Int) (k : Int)).toNat = bp := by omega
    rw [e1, Int.toNat_natCast, haN]
    have hrd : rd (h2.only n) n 0 (min bp (k - bp) * 1) = List.replicate (min bp (k - bp)) (.int .u8 (c.toNat : Nat)) := by
      apply List.ext_getElem
      · rw [rd_length, List.length_replicate, Nat.mul_one]
      · intro i p1 p2
        have hi : i < min bp (k - bp) := by simpa using p2
        have := rd_getD (h2.only n) n (min bp (k - bp) * 1) 0 i (by omega)
        rw [Nat.zero_add, c_only (hc i (by omega))] at this
        rw [List.getElem_replicate, ← this]
        simp only [List.getD, List.getElem?_eq_getElem p1, Option.getD_some]
    have hkn : known (rd (h2.only n) n 0 (min bp (k - bp) * 1)) = true := by rw [hrd]; exact known_replicate _ _ rfl
    have hsr : Src (h2.only n) 1 (.slice (some ⟨n, 0, none⟩) bp bp) (min bp (k - bp)) (rd (h2.only n) n 0 (min bp (k - bp) * 1)) := .slice (Nat.min_le_left _ _) hkn
    refine RD.op (fun b => b = n) (fun b => b = n) (g := h2.only n) rfl (op_copy (k := min bp (k - bp)) (kk := bp) (b := n) (o := 0 + bp) (m := k - bp) Uc.out Tc.out (by decide) (Opd.ev opd) (Opd.ev opd) hsr full_slice (fun c w q => lenOf_slice q) rfl (i_only i3) (Nat.zero_le _) (by show 0 + bp + min bp (k - bp) * 1 ≤ k; omega) (.inl (.inr (Nat.le_refl n))) hnn) (AH.only_le _ _) (fun _ hx => AH.only_looks hx) (fun _ e => by subst e; exact hnn) (fun b hb => .inl (sets_touches hb)) cfs (.refl _) ?_
    rw [hrd]
    have hq : ((bp : Int) + (min bp (k - bp) : Nat)) = ((bp + min bp (k - bp) : Nat) : Int) := by omega
    repeat' (first | refine stp ?_ | (refine stp2 ?_ ?_ <;> intro _))
    rw [hq]
    refine nextC.normal ⟨bp + min bp (k - bp), by omega, envs, by omega, by omega, hn2, E3.trans (Nat.le_refl n) ext, i_sets i3, fun j hj => ?_⟩
    by_cases e : j < bp
    · exact c_out (.inr (.inl (by omega))) (hc j e)
    · refine c_in (by omega) ?_
      rw [List.getElem?_replicate, if_pos (by omega)]
  · have hbe : bp = k := by omega
    subst hbe
    have hS : SlB h2 n2 (some ⟨n, 0, none⟩) (List.replicate bp c) := by
      refine ⟨.inr ⟨rfl, by show n < n2; omega, _, i3, rfl⟩, fun j hj => ?_⟩
      have hj : j < bp := by simpa using hj
      have := hc j hj
      show h2.cell n (0 + j) = bytesF (List.replicate bp c) j
      rw [Nat.zero_add, this, bytesF]
      simp [List.getD, hj]
    repeat' (first | refine stpS ?_ | (refine stp2 ?_ ?_ <;> intro _))
    exact ⟨some ⟨n, 0, none⟩, rfl, E3, hS, Nat.le_refl n⟩
end Go.Proofs.Ytchfnjfmlhacfaa
