/- Contracts of bits' functions: the places that are set. -/
import Derived.Test.YtnaklmjndiodfaaM
import Derived.Test.YtnaklmjndiodfaaPn
namespace Go.Proofs.Ytnaklmjndiodfaa
open Go.Abs

set_option maxHeartbeats 4000000 in
theorem tz8_ev (c : UInt8) (n : Nat) (h : AH) : Ev Try.prog none' 53 #[.int .u8 c.toNat] n h (.int .i64 (tz8 c.toNat)) n h := by
  refine RF.pure rfl fun n' hn => ?_
  refine RF.of Try.func53 rfl rfl (Nat.le_of_ble_eq_true rfl) ?_; dsimp only [argEnv]
  have hc : ((c.toNat : Nat) : Int) < 256 := u8lt
  repeat' (first | refine stpS ?_ | (refine stp2 ?_ ?_ <;> intro _))
  have hb := tz8_le c.toNat c.toNat_lt
  refine RS.put (v := .int .u8 (UInt8.ofNat (tz8 c.toNat)).toNat) rfl rfl (op_indexS Uc.out (Opd.ev opd) (Opd.ev opd) (Int.natCast_nonneg _) ?_) ?_
  · rw [Int.toNat_natCast]
    have := c.toNat_lt
    generalize c.toNat = k at *
    clear hc hb
    revert k
    decide +kernel
  · rw [show (UInt8.ofNat (tz8 c.toNat)).toNat = tz8 c.toNat by rw [UInt8.toNat_ofNat', Nat.mod_eq_of_lt (by omega)]]
    repeat' (first | refine stpS ?_ | (refine stp2 ?_ ?_ <;> intro _))
    rfl
/-- What the iterator needs of memory. -/
def AllK (bc : Nat) (a : Option Addr) (l : List UInt8) (n : Nat) (h : AH) : Prop := bc < n ∧ h.cell bc 1 = .slice a l.length l.length ∧ SlB h n a l
def placesV (l : List Nat) : List (List Value) := l.map fun p => [.int .i64 (p : Nat)]
set_option maxHeartbeats 4000000 in
theorem all1_iter (bc : Nat) (a : Option Addr) (l : List UInt8) (hm : l.length ≤ 137438953472) : IterF Try.prog 52 [.pointer (some ⟨bc, 0, none⟩)] (placesV (setL 0 l)) (AllK bc a l) := by
  intro W fv I D n h it hK h0 hn
  obtain ⟨k1, k2, S⟩ := hK 0 n h h0
  refine RF.of Try.func52 rfl rfl (Nat.le_of_ble_eq_true rfl) ?_; dsimp only [argEnv]
  repeat' (first | refine stpS ?_ | (refine stp2 ?_ ?_ <;> intro _))
  refine RC.loop ?_
  refine RL.inv (α := Nat × Nat) (fun s => [(8, .int .i64 (s.1 : Nat)), (7, .int .i64 l.length), (6, .slice a l.length l.length), (0, fv)])
    (fun s n1 h1 => s.1 ≤ l.length ∧ n ≤ n1 ∧ s.2 ≤ (setL 0 l).length ∧ (setL 0 l).drop s.2 = setL s.1 (l.drop s.1) ∧ I s.2 n1 h1) (fun s => l.length - s.1) (0, 0) envs ⟨by omega, by omega, by omega, by simp, h0⟩ ?_
  rintro ⟨i, p⟩ n1 h1 ⟨hi, hn1, hp, hd, hI⟩
  dsimp only at hi hp hd hI ⊢
  obtain ⟨-, -, S1⟩ := hK p n1 h1 hI
  repeat' (first | refine stpS ?_ | (refine stp2 ?_ ?_ <;> intro _))
  · rename_i hlt
    have hi' : i < l.length := by omega
    have hdl : l.drop i = l.getD i 0 :: l.drop (i + 1) := by rw [List.drop_eq_getElem_cons hi']; simp [List.getD, hi']
    refine RC.loop ?_
    refine RL.inv (α := UInt8 × Nat) (fun s => [(4, .int .u8 s.1.toNat), (3, .int .i64 (i : Nat)), (8, .int .i64 (i : Nat)), (7, .int .i64 l.length), (6, .slice a l.length l.length), (0, fv)])
      (fun s n2 h2 => n ≤ n2 ∧ s.2 ≤ (setL 0 l).length ∧ (setL 0 l).drop s.2 = (bitsL s.1.toNat).map (8 * i + ·) ++ setL (i + 1) (l.drop (i + 1)) ∧ I s.2 n2 h2) (fun s => (bitsL s.1.toNat).length) (l.getD i 0, p) envs ⟨hn1, hp, by rw [hd, hdl]; rfl, hI⟩ ?_
    rintro ⟨c, q⟩ n2 h2 ⟨hn2, hq, hd2, hI2⟩
    dsimp only at hq hd2 hI2 ⊢
    have hc : ((c.toNat : Nat) : Int) < 256 := u8lt
    by_cases h0 : c.toNat = 0
    · repeat' (first | refine stpS ?_ | (refine stp2 ?_ ?_ <;> intro _))
      refine nextC.normal ⟨(i + 1, q), by dsimp only; omega, envs, by dsimp only; omega, by omega, hq, ?_, hI2⟩
      rw [hd2, h0, bitsL_zero]; rfl
    · have hcn := c.toNat_lt
      have hstep := bitsL_step c.toNat hcn h0
      have hv : (setL 0 l)[q]? = some (8 * i + tz8 c.toNat) := by
        have : ((setL 0 l).drop q)[0]? = some (8 * i + tz8 c.toNat) := by rw [hd2, hstep]; rfl
        simpa using this
      have h8 := tz8_le c.toNat hcn
      repeat' (first | refine stpS ?_ | (refine stp2 ?_ ?_ <;> intro _) | refine RS.call1 rfl opds (tz8_ev c _ _) none'W ?_)
      refine RS.callV rfl opd opds (it.step q [.int .i64 ((8 * i + tz8 c.toNat : Nat) : Int)] _ _ (by simp [placesV, hv]) hI2 |> fun k => by rw [show ((i : Int) * 8 + (tz8 c.toNat : Int)) = ((8 * i + tz8 c.toNat : Nat) : Int) by omega]; exact k) (fun b hb => .inl hb) ?_
      rintro r n3 h3 hle (⟨rfl, hI3⟩ | ⟨rfl, hD⟩)
      · repeat' (first | refine stpS ?_ | (refine stp2 ?_ ?_ <;> intro _))
        have hX : c.toNat &&& (c.toNat - 1) < 256 := Nat.lt_of_le_of_lt Nat.and_le_left hcn
        have e1 : (UInt8.ofNat (c.toNat &&& (c.toNat - 1))).toNat = c.toNat &&& (c.toNat - 1) := by rw [UInt8.toNat_ofNat', Nat.mod_eq_of_lt hX]
        refine nextC.normal ⟨(UInt8.ofNat (c.toNat &&& (c.toNat - 1)), q + 1), ?_, ?_, by omega, ?_, ?_, hI3⟩
        · dsimp only; rw [e1, hstep]; simp
        · dsimp only
          rw [e1, show ((c.toNat : Int) - 1).toNat = c.toNat - 1 by omega, Int.toNat_natCast]
          exact envs
        · have := (List.getElem?_eq_some_iff.1 hv).1
          dsimp only; omega
        · dsimp only
          rw [e1, ← List.drop_drop, hd2, hstep]
          rfl
      · repeat' (first | refine stpS ?_ | (refine stp2 ?_ ?_ <;> intro _))
        exact .inr hD
  · repeat' (first | refine stpS ?_ | (refine stp2 ?_ ?_ <;> intro _))
    have e : (placesV (setL 0 l)).length = p := by
      have hi2 : i = l.length := by omega
      rw [hi2, List.drop_length] at hd
      have := congrArg List.length hd
      rw [List.length_drop] at this
      simp only [setL, List.length_nil] at this
      simp only [placesV, List.length_map]; omega
    rw [e]; exact .inl hI
end Go.Proofs.Ytnaklmjndiodfaa
