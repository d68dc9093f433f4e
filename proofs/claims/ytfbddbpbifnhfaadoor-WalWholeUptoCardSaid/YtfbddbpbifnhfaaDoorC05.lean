/- Contracts and laws that a statement of this seat is proved by (part 5). -/
import Derived.Test.YtfbddbpbifnhfaaDoorC04
set_option linter.unusedSimpArgs false
set_option linter.unusedVariables false
/- Contracts taken from codec (written by port.py). -/
namespace Go.Proofs.YtfbddbpbifnhfaaDoor.Cd
open Go.Abs
def pIV (x : Int × Nat × Nat) : Value := .tuple #[.int .i64 x.1, .int .i64 (x.2.1 : Nat), .int .i64 (x.2.2 : Nat)]
theorem val_succ (low : Bool) (r : List UInt8) (i : Nat) (hi : i < r.length) : val ((r.take (i + 1)).map (flipU low)) = val ((r.take i).map (flipU low)) * 256 + (flipU low (r.getD i 0)).toNat := by
  rw [List.take_succ_eq_append_getElem hi, List.map_append, List.map_cons, List.map_nil, val_snoc]
  simp [List.getD, hi]
theorem val_take_lt (low : Bool) (r : List UInt8) (i : Nat) (hi : i ≤ 7) : val ((r.take i).map (flipU low)) < 72057594037927936 := by
  have h1 := val_lt ((r.take i).map (flipU low))
  have h2 : ((r.take i).map (flipU low)).length ≤ 7 := by rw [List.length_map, List.length_take]; omega
  have h3 : 256 ^ ((r.take i).map (flipU low)).length ≤ 256 ^ 7 := Nat.pow_le_pow_right (by omega) h2
  omega
theorem or_byte (m b : Nat) (hm : m < 72057594037927936) (hb : b < 256) : (m <<< 8) % 18446744073709551616 ||| b = m * 256 + b := by
  rw [Nat.mod_eq_of_lt (by rw [Nat.shiftLeft_eq]; omega), ← Nat.shiftLeft_add_eq_or_of_lt (i := 8) (by omega), Nat.shiftLeft_eq]
set_option maxHeartbeats 4000000 in
theorem get_ev (b : List UInt8) (a : Option Addr) (m n : Nat) (h : AH) (S : SlB h n a b) (e : m = b.length) (hm : m ≤ 1099511627776) :
    Ev Tryd.prog none' 63 #[.slice a m m] n h (pIV (pI b)) n h := by
  subst e
  refine RF.pure (by simp [pIV, flat]) fun n' hn => ?_
  have S := S.ext (Ext.refl n h) hn
  refine RF.of Tryd.func63 rfl rfl (Nat.le_of_ble_eq_true rfl) ?_; dsimp only [argEnv]
  cases b with
  | nil =>
    repeat' (first | refine stpS ?_ | (refine stp2 ?_ ?_ <;> intro _))
    rfl
  | cons c r =>
    have hc := c.toNat_lt
    have q0 : ((c :: r).getD (Int.toNat 0) 0).toNat = c.toNat := rfl
    have q1 : (((((c :: r).getD (Int.toNat 0) 0).toNat : Nat) : Int).toNat ^^^ Int.toNat 255) = 255 - c.toNat := xor255 c.toNat hc
    have q2 : (((((c :: r).getD (Int.toNat 0) 0).toNat : Nat) : Int).toNat ^^^ Int.toNat 0) = c.toNat := Nat.xor_zero _
    have ql : (c :: r).length = r.length + 1 := rfl
    by_cases hlow : c.toNat < 128
    · have hfx : (flipU true c).toNat = 255 - c.toNat := flip_nat c
      have hdec : decide (c.toNat < 128) = true := decide_eq_true hlow
      have hpI : pI (c :: r) = pI (c :: r) := rfl
      conv at hpI => rhs; unfold pI
      simp only [hdec, hfx] at hpI
      by_cases hs : 255 - c.toNat < 248
      · rw [if_pos hs] at hpI
        repeat' (first | refine stpS ?_ | (refine stp2 ?_ ?_ <;> intro _))
        refine RS.put rfl rfl (o_xorN opd opd (by rfl) (by omega) (by omega)) ?_
        repeat' (first | refine stpS ?_ | (refine stp2 ?_ ?_ <;> intro _))
        rw [q1, hpI]
        have e1 : -(((255 - c.toNat : Nat) : Int) - 128) - 1 = sgn true (255 - c.toNat - 128) := by unfold sgn; simp only [if_true]; omega
        rw [e1]; rfl
      · rw [if_neg hs] at hpI
        by_cases hr : r.length < 255 - c.toNat - 247
        · rw [if_pos hr] at hpI
          repeat' (first | refine stpS ?_ | (refine stp2 ?_ ?_ <;> intro _))
          rw [hpI]; rfl
        · rw [if_neg hr] at hpI
          have hSd : SlB h n' (sub a (Int.toNat 1)) r := by
            have := SlB.cut S (i := 1) (u := (c :: r).length) (by omega) (Nat.le_refl _)
            rwa [List.take_length] at this
          have hSe : SlR h n' (sub a (Int.toNat 1)) 1 ((c :: r).length - Int.toNat 1) (bytesF r) := hSd
          obtain ⟨k, hk⟩ : ∃ k, k = 255 - c.toNat - 247 := ⟨_, rfl⟩
          have hSk : SlR h n' (sub a (Int.toNat 1)) 1 k (bytesF r) := SlR.take hSd (by omega)
          rw [← hk] at hpI
          repeat' (first | refine stpS ?_ | (refine stp2 ?_ ?_ <;> intro _))
          rw [q1, show (((255 - c.toNat : Nat) : Int) - 247) = (k : Nat) by omega, Int.toNat_natCast]
          refine RC.loop ?_
          refine RL.inv (α := Nat) (fun i => [(46, .int .i64 (i : Nat)), (45, .int .i64 (k : Nat)), (44, .slice (sub a (Int.toNat 1)) k k), (8, .int .u64 (val ((r.take i).map (flipU true)) : Nat)), (5, .int .u8 255), (7, .int .i64 (k : Nat))])
            (fun i n1 h1 => i ≤ k ∧ n1 = n' ∧ h1 = h)
            (fun i => k - i) 0 envs ⟨by omega, rfl, rfl⟩ ?_
          rintro i n1 h1 ⟨hi, rfl, rfl⟩
          by_cases hlt : i < k
          · have hv := val_take_lt true r i (by omega)
            have hvs := val_succ true r i (by omega)
            have hb : (r.getD (i : Int).toNat 0).toNat < 256 := UInt8.toNat_lt _
            have hb' : (r.getD i 0).toNat < 256 := UInt8.toNat_lt _
            have hx : ((((r.getD (i : Int).toNat 0).toNat : Nat) : Int).toNat ^^^ Int.toNat 255) = (flipU true (r.getD i 0)).toNat := by
              rw [Int.toNat_natCast, Int.toNat_natCast]
              exact (xor255 _ hb).trans (flip_nat _).symm
            have hfb : (flipU true (r.getD i 0)).toNat < 256 := UInt8.toNat_lt _
            repeat' (first | refine stpS ?_ | (refine stp2 ?_ ?_ <;> intro _))
            simp only [Int.toNat_natCast]
            simp only [Int.toNat_natCast] at hx
            rw [hx, show Int.toNat 8 = 8 from rfl, or_byte _ _ hv hfb, ← hvs]
            exact nextC.normal ⟨i + 1, by omega, envs, by omega, rfl, rfl⟩
          · obtain rfl : i = k := by omega
            have hs2 := form_sgn false (val ((r.take i).map (flipU true)) + 120)
            have hs3 : (form (((val ((r.take i).map (flipU true)) : Nat) : Int) + 120)).length = 1 + nb (val ((r.take i).map (flipU true))) := by
              have e0 : sgn false (val ((r.take i).map (flipU true)) + 120) = ((val ((r.take i).map (flipU true)) : Nat) : Int) + 120 := by unfold sgn; simp only [Bool.false_eq_true, if_false]; omega
              rw [← e0, hs2, List.length_map, formUp_length, if_neg (by omega), Nat.add_sub_cancel]
            by_cases hbig : 9223372036854775687 < val ((r.take i).map (flipU true))
            · rw [if_pos hbig] at hpI
              repeat' (first | refine stpS ?_ | (refine stp2 ?_ ?_ <;> intro _))
              rw [hpI]; rfl
            · rw [if_neg hbig] at hpI
              repeat' (first | refine stpS ?_ | (refine stp2 ?_ ?_ <;> intro _))
              refine RS.call1 rfl opds (size_ev _ (by omega) (by omega) _ _) none'W ?_
              by_cases hnb : nb (val ((r.take i).map (flipU true))) = i
              · rw [if_neg (by simpa using hnb)] at hpI
                repeat' (first | refine stpS ?_ | (refine stp2 ?_ ?_ <;> intro _))
                refine RS.put rfl rfl (o_xorN opd opd (by rfl) (by omega) (by omega)) ?_
                repeat' (first | refine stpS ?_ | (refine stp2 ?_ ?_ <;> intro _))
                rw [hpI]
                have e1 : -(((val ((r.take i).map (flipU true)) : Nat) : Int) + 120) - 1 = sgn true (val ((r.take i).map (flipU true)) + 120) := by unfold sgn; simp only [if_true]; omega
                rw [e1]; unfold pIV; rw [show ((1 + i : Nat) : Int) = 1 + (i : Int) by omega]; rfl
              · rw [if_pos (by simpa using hnb)] at hpI
                repeat' (first | refine stpS ?_ | (refine stp2 ?_ ?_ <;> intro _))
                rw [hpI]; rfl
    · have hfx : (flipU false c).toNat = c.toNat := rfl
      have hdec : decide (c.toNat < 128) = false := decide_eq_false hlow
      have hpI : pI (c :: r) = pI (c :: r) := rfl
      conv at hpI => rhs; unfold pI
      simp only [hdec, hfx] at hpI
      by_cases hs : c.toNat < 248
      · rw [if_pos hs] at hpI
        repeat' (first | refine stpS ?_ | (refine stp2 ?_ ?_ <;> intro _))
        rw [q2, hpI]
        have e1 : (((((c.toNat : Nat) : Int) - 128).toNat ^^^ (-(0 % 2 : Int)).toNat : Nat) : Int) = sgn false (c.toNat - 128) := by
          unfold sgn
          rw [show (-(0 % 2 : Int)).toNat = 0 from rfl, Nat.xor_zero]
          simp only [Bool.false_eq_true, if_false]; omega
        rw [e1]; rfl
      · rw [if_neg hs] at hpI
        by_cases hr : r.length < c.toNat - 247
        · rw [if_pos hr] at hpI
          repeat' (first | refine stpS ?_ | (refine stp2 ?_ ?_ <;> intro _))
          rw [hpI]; rfl
        · rw [if_neg hr] at hpI
          have hSd : SlB h n' (sub a (Int.toNat 1)) r := by
            have := SlB.cut S (i := 1) (u := (c :: r).length) (by omega) (Nat.le_refl _)
            rwa [List.take_length] at this
          have hSe : SlR h n' (sub a (Int.toNat 1)) 1 ((c :: r).length - Int.toNat 1) (bytesF r) := hSd
          obtain ⟨k, hk⟩ : ∃ k, k = c.toNat - 247 := ⟨_, rfl⟩
          have hSk : SlR h n' (sub a (Int.toNat 1)) 1 k (bytesF r) := SlR.take hSd (by omega)
          rw [← hk] at hpI
          repeat' (first | refine stpS ?_ | (refine stp2 ?_ ?_ <;> intro _))
          rw [q2, show (((c.toNat : Nat) : Int) - 247) = (k : Nat) by omega, Int.toNat_natCast]
          refine RC.loop ?_
          refine RL.inv (α := Nat) (fun i => [(46, .int .i64 (i : Nat)), (45, .int .i64 (k : Nat)), (44, .slice (sub a (Int.toNat 1)) k k), (8, .int .u64 (val ((r.take i).map (flipU false)) : Nat)), (5, .int .u8 0), (7, .int .i64 (k : Nat))])
            (fun i n1 h1 => i ≤ k ∧ n1 = n' ∧ h1 = h)
            (fun i => k - i) 0 envs ⟨by omega, rfl, rfl⟩ ?_
          rintro i n1 h1 ⟨hi, rfl, rfl⟩
          by_cases hlt : i < k
          · have hv := val_take_lt false r i (by omega)
            have hvs := val_succ false r i (by omega)
            have hb : (r.getD (i : Int).toNat 0).toNat < 256 := UInt8.toNat_lt _
            have hb' : (r.getD i 0).toNat < 256 := UInt8.toNat_lt _
            have hx : ((((r.getD (i : Int).toNat 0).toNat : Nat) : Int).toNat ^^^ Int.toNat 0) = (flipU false (r.getD i 0)).toNat := by
              rw [Int.toNat_natCast, Int.toNat_natCast]
              exact Nat.xor_zero _
            have hfb : (flipU false (r.getD i 0)).toNat < 256 := UInt8.toNat_lt _
            repeat' (first | refine stpS ?_ | (refine stp2 ?_ ?_ <;> intro _))
            simp only [Int.toNat_natCast]
            simp only [Int.toNat_natCast] at hx
            rw [hx, show Int.toNat 8 = 8 from rfl, or_byte _ _ hv hfb, ← hvs]
            exact nextC.normal ⟨i + 1, by omega, envs, by omega, rfl, rfl⟩
          · obtain rfl : i = k := by omega
            have hs2 := form_sgn false (val ((r.take i).map (flipU false)) + 120)
            have hs3 : (form (((val ((r.take i).map (flipU false)) : Nat) : Int) + 120)).length = 1 + nb (val ((r.take i).map (flipU false))) := by
              have e0 : sgn false (val ((r.take i).map (flipU false)) + 120) = ((val ((r.take i).map (flipU false)) : Nat) : Int) + 120 := by unfold sgn; simp only [Bool.false_eq_true, if_false]; omega
              rw [← e0, hs2, List.length_map, formUp_length, if_neg (by omega), Nat.add_sub_cancel]
            by_cases hbig : 9223372036854775687 < val ((r.take i).map (flipU false))
            · rw [if_pos hbig] at hpI
              repeat' (first | refine stpS ?_ | (refine stp2 ?_ ?_ <;> intro _))
              rw [hpI]; rfl
            · rw [if_neg hbig] at hpI
              repeat' (first | refine stpS ?_ | (refine stp2 ?_ ?_ <;> intro _))
              refine RS.call1 rfl opds (size_ev _ (by omega) (by omega) _ _) none'W ?_
              by_cases hnb : nb (val ((r.take i).map (flipU false))) = i
              · rw [if_neg (by simpa using hnb)] at hpI
                repeat' (first | refine stpS ?_ | (refine stp2 ?_ ?_ <;> intro _))
                rw [hpI]
                have e1 : (((((val ((r.take i).map (flipU false)) : Nat) : Int) + 120).toNat ^^^ (-(0 % 2 : Int)).toNat : Nat) : Int) = sgn false (val ((r.take i).map (flipU false)) + 120) := by
                  unfold sgn
                  rw [show (-(0 % 2 : Int)).toNat = 0 from rfl, Nat.xor_zero]
                  simp only [Bool.false_eq_true, if_false]; omega
                rw [e1]; unfold pIV; rw [show ((1 + i : Nat) : Int) = 1 + (i : Int) by omega]; rfl
              · rw [if_pos (by simpa using hnb)] at hpI
                repeat' (first | refine stpS ?_ | (refine stp2 ?_ ?_ <;> intro _))
                rw [hpI]; rfl
end Go.Proofs.YtfbddbpbifnhfaaDoor.Cd

/- Contracts taken from codec (written by port.py). -/
namespace Go.Proofs.YtfbddbpbifnhfaaDoor.Cd
open Go.Abs
set_option maxHeartbeats 4000000 in
theorem parseInt_ev (b : List UInt8) (a : Option Addr) (m n : Nat) (h : AH) (S : SlB h n a b) (e : m = b.length) (hm : m ≤ 1099511627776) :
    Ev Tryd.prog none' 37 #[.slice a m m] n h (pIV (pI b)) n h := by
  subst e
  refine RF.pure (by simp [pIV, flat]) fun n' hn => ?_
  have S := S.ext (Ext.refl n h) hn
  refine RF.of Tryd.func37 rfl rfl (Nat.le_of_ble_eq_true rfl) ?_; dsimp only [argEnv]
  cases b with
  | nil =>
    repeat' (first | refine stpS ?_ | (refine stp2 ?_ ?_ <;> intro _))
    rfl
  | cons c r =>
    have hc := c.toNat_lt
    have q0 : ((c :: r).getD (Int.toNat 0) 0).toNat = c.toNat := rfl
    have ql : (c :: r).length = r.length + 1 := rfl
    by_cases hlow : c.toNat < 128
    · have hfx : (flipU true c).toNat = 255 - c.toNat := flip_nat c
      have hdec : decide (c.toNat < 128) = true := decide_eq_true hlow
      have hpI : pI (c :: r) = pI (c :: r) := rfl
      conv at hpI => rhs; unfold pI
      simp only [hdec, hfx] at hpI
      by_cases hs : 255 - c.toNat < 248
      · rw [if_pos hs] at hpI
        repeat' (first | refine stpS ?_ | (refine stp2 ?_ ?_ <;> intro _))
        rw [hpI]
        have e1 : -(255 - (c.toNat : Int) - 128) - 1 = sgn true (255 - c.toNat - 128) := by unfold sgn; simp only [if_true]; omega
        refine Eq.trans ?_ (congrArg (fun x => Value.tuple #[.int .i64 x, .int .i64 1, .int .i64 0]) e1)
        rfl
      · rw [if_neg hs] at hpI
        by_cases hr : r.length < 255 - c.toNat - 247
        · rw [if_pos hr] at hpI
          repeat' (first | refine stpS ?_ | (refine stp2 ?_ ?_ <;> intro _))
          rw [hpI]; rfl
        · rw [if_neg hr] at hpI
          obtain ⟨k, hk⟩ : ∃ k, k = 255 - c.toNat - 247 := ⟨_, rfl⟩
          rw [← hk] at hpI
          have hkI : (255 - (((c :: r).getD (Int.toNat 0) 0).toNat : Int)) - 247 = (k : Nat) := by rw [q0]; omega
          repeat' (first | refine stpS ?_ | (refine stp2 ?_ ?_ <;> intro _))
          rw [hkI]
          refine RC.loop ?_
          refine RL.inv (α := Nat) (fun i => [(10, .int .i64 ((i : Nat) + 1)), (9, .int .u64 (val ((r.take i).map (flipU true)) : Nat)), (8, .int .i64 (k : Nat)), (5, .bool true), (0, .slice a (c :: r).length (c :: r).length)])
            (fun i n1 h1 => i ≤ k ∧ n1 = n' ∧ h1 = h)
            (fun i => k - i) 0 envs ⟨by omega, rfl, rfl⟩ ?_
          rintro i n1 h1 ⟨hi, rfl, rfl⟩
          by_cases hlt : i < k
          · have hv := val_take_lt true r i (by omega)
            have hvs := val_succ true r i (by omega)
            have hgi : (c :: r).getD ((i : Int) + 1).toNat 0 = r.getD i 0 := by rw [show ((i : Int) + 1).toNat = i + 1 by omega]; rfl
            have hb' : (r.getD i 0).toNat < 256 := UInt8.toNat_lt _
            have hb : ((c :: r).getD ((i : Int) + 1).toNat 0).toNat < 256 := UInt8.toNat_lt _
            repeat' (first | refine stpS ?_ | (refine stp2 ?_ ?_ <;> intro _))
            refine nextC.normal ⟨i + 1, by omega, ?_, by omega, rfl, rfl⟩
            rw [show ((i + 1 : Nat) : Int) = (i : Int) + 1 by omega, hvs]
            rw [show ((val ((r.take i).map (flipU true)) * 256 + (flipU true (r.getD i 0)).toNat : Nat) : Int) = (val ((r.take i).map (flipU true)) : Int) * 256 + (255 - (((c :: r).getD ((i : Int) + 1).toNat 0).toNat : Int)) by rw [hgi]; rw [flip_nat]; omega]
            exact envs
          · obtain rfl : i = k := by omega
            have hs2 := form_sgn true (val ((r.take i).map (flipU true)) + 120)
            have hs3 : (form (sgn true (val ((r.take i).map (flipU true)) + 120))).length = 1 + nb (val ((r.take i).map (flipU true))) := by
              rw [hs2, List.length_map, formUp_length, if_neg (by omega), Nat.add_sub_cancel]
            by_cases hbig : 9223372036854775687 < val ((r.take i).map (flipU true))
            · rw [if_pos hbig] at hpI
              repeat' (first | refine stpS ?_ | (refine stp2 ?_ ?_ <;> intro _))
              rw [hpI]; rfl
            · rw [if_neg hbig] at hpI
              have e2 : -((((val ((r.take i).map (flipU true)) : Nat) : Int) + 120)) - 1 = sgn true (val ((r.take i).map (flipU true)) + 120) := by unfold sgn; simp only [if_true]; omega
              have hb2 : -9223372036854775808 ≤ sgn true (val ((r.take i).map (flipU true)) + 120) ∧ sgn true (val ((r.take i).map (flipU true)) + 120) < 9223372036854775808 := by omega
              repeat' (first | refine stpS ?_ | (refine stp2 ?_ ?_ <;> intro _))
              rw [e2]
              have hfl := form_le _ hb2.1 hb2.2
              refine RS.call rfl opds (refInt_rf _ hb2.1 hb2.2 _ _) none'W ?_
              rintro r2 n2 h2 hle2 ⟨a2, rfl, hE2, hO2⟩
              rw [hs3] at hfl ⊢
              by_cases hnb : nb (val ((r.take i).map (flipU true))) = i
              · rw [if_neg (by simpa using hnb)] at hpI
                repeat' (first | refine stpS ?_ | (refine stp2 ?_ ?_ <;> intro _))
                rw [hpI]
                unfold pIV; rw [show ((1 + i : Nat) : Int) = 1 + (i : Int) by omega]; rfl
              · rw [if_pos (by simpa using hnb)] at hpI
                repeat' (first | refine stpS ?_ | (refine stp2 ?_ ?_ <;> intro _))
                rw [hpI]; rfl
    · have hfx : (flipU false c).toNat = c.toNat := rfl
      have hdec : decide (c.toNat < 128) = false := decide_eq_false hlow
      have hpI : pI (c :: r) = pI (c :: r) := rfl
      conv at hpI => rhs; unfold pI
      simp only [hdec, hfx] at hpI
      by_cases hs : c.toNat < 248
      · rw [if_pos hs] at hpI
        repeat' (first | refine stpS ?_ | (refine stp2 ?_ ?_ <;> intro _))
        rw [hpI]
        have e1 : (c.toNat : Int) - 128 = sgn false (c.toNat - 128) := by unfold sgn; simp only [Bool.false_eq_true, if_false]; omega
        refine Eq.trans ?_ (congrArg (fun x => Value.tuple #[.int .i64 x, .int .i64 1, .int .i64 0]) e1)
        rfl
      · rw [if_neg hs] at hpI
        by_cases hr : r.length < c.toNat - 247
        · rw [if_pos hr] at hpI
          repeat' (first | refine stpS ?_ | (refine stp2 ?_ ?_ <;> intro _))
          rw [hpI]; rfl
        · rw [if_neg hr] at hpI
          obtain ⟨k, hk⟩ : ∃ k, k = c.toNat - 247 := ⟨_, rfl⟩
          rw [← hk] at hpI
          have hkI : ((((c :: r).getD (Int.toNat 0) 0).toNat : Int)) - 247 = (k : Nat) := by rw [q0]; omega
          repeat' (first | refine stpS ?_ | (refine stp2 ?_ ?_ <;> intro _))
          rw [hkI]
          refine RC.loop ?_
          refine RL.inv (α := Nat) (fun i => [(10, .int .i64 ((i : Nat) + 1)), (9, .int .u64 (val ((r.take i).map (flipU false)) : Nat)), (8, .int .i64 (k : Nat)), (5, .bool false), (0, .slice a (c :: r).length (c :: r).length)])
            (fun i n1 h1 => i ≤ k ∧ n1 = n' ∧ h1 = h)
            (fun i => k - i) 0 envs ⟨by omega, rfl, rfl⟩ ?_
          rintro i n1 h1 ⟨hi, rfl, rfl⟩
          by_cases hlt : i < k
          · have hv := val_take_lt false r i (by omega)
            have hvs := val_succ false r i (by omega)
            have hgi : (c :: r).getD ((i : Int) + 1).toNat 0 = r.getD i 0 := by rw [show ((i : Int) + 1).toNat = i + 1 by omega]; rfl
            have hb' : (r.getD i 0).toNat < 256 := UInt8.toNat_lt _
            have hb : ((c :: r).getD ((i : Int) + 1).toNat 0).toNat < 256 := UInt8.toNat_lt _
            repeat' (first | refine stpS ?_ | (refine stp2 ?_ ?_ <;> intro _))
            refine nextC.normal ⟨i + 1, by omega, ?_, by omega, rfl, rfl⟩
            rw [show ((i + 1 : Nat) : Int) = (i : Int) + 1 by omega, hvs]
            rw [show ((val ((r.take i).map (flipU false)) * 256 + (flipU false (r.getD i 0)).toNat : Nat) : Int) = (val ((r.take i).map (flipU false)) : Int) * 256 + ((((c :: r).getD ((i : Int) + 1).toNat 0).toNat : Int)) by rw [hgi]; rw [show flipU false (r.getD i 0) = r.getD i 0 from rfl]; omega]
            exact envs
          · obtain rfl : i = k := by omega
            have hs2 := form_sgn false (val ((r.take i).map (flipU false)) + 120)
            have hs3 : (form (sgn false (val ((r.take i).map (flipU false)) + 120))).length = 1 + nb (val ((r.take i).map (flipU false))) := by
              rw [hs2, List.length_map, formUp_length, if_neg (by omega), Nat.add_sub_cancel]
            by_cases hbig : 9223372036854775687 < val ((r.take i).map (flipU false))
            · rw [if_pos hbig] at hpI
              repeat' (first | refine stpS ?_ | (refine stp2 ?_ ?_ <;> intro _))
              rw [hpI]; rfl
            · rw [if_neg hbig] at hpI
              have e2 : ((val ((r.take i).map (flipU false)) : Nat) : Int) + 120 = sgn false (val ((r.take i).map (flipU false)) + 120) := by unfold sgn; simp only [Bool.false_eq_true, if_false]; omega
              have hb2 : -9223372036854775808 ≤ sgn false (val ((r.take i).map (flipU false)) + 120) ∧ sgn false (val ((r.take i).map (flipU false)) + 120) < 9223372036854775808 := by omega
              repeat' (first | refine stpS ?_ | (refine stp2 ?_ ?_ <;> intro _))
              rw [e2]
              have hfl := form_le _ hb2.1 hb2.2
              refine RS.call rfl opds (refInt_rf _ hb2.1 hb2.2 _ _) none'W ?_
              rintro r2 n2 h2 hle2 ⟨a2, rfl, hE2, hO2⟩
              rw [hs3] at hfl ⊢
              by_cases hnb : nb (val ((r.take i).map (flipU false))) = i
              · rw [if_neg (by simpa using hnb)] at hpI
                repeat' (first | refine stpS ?_ | (refine stp2 ?_ ?_ <;> intro _))
                rw [hpI]
                unfold pIV; rw [show ((1 + i : Nat) : Int) = 1 + (i : Int) by omega]; rfl
              · rw [if_pos (by simpa using hnb)] at hpI
                repeat' (first | refine stpS ?_ | (refine stp2 ?_ ?_ <;> intro _))
                rw [hpI]; rfl
end Go.Proofs.YtfbddbpbifnhfaaDoor.Cd

/- Contracts taken from codec (written by port.py). -/
namespace Go.Proofs.YtfbddbpbifnhfaaDoor.Cd
open Go.Abs
abbrev PB := List UInt8 × Nat × Nat
/-- What stands ahead of what is read. -/
def addP (o : List UInt8) (i : Nat) (x : PB) : PB := if x.2.2 = 0 then (o ++ x.1, x.2.1 + i, 0) else ([], 0, x.2.2)
/-- The bytes that bytes begin with, how many their form has, the error. -/
def pB : List UInt8 → PB
  | [] => ([], 0, 30)
  | [c] => if c.toNat = 0 then ([], 0, 30) else addP [c] 1 ([], 0, 30)
  | c :: d :: r =>
    if c.toNat = 0 then (if d.toNat = 0 then ([], 2, 0) else if d.toNat = 1 then addP [0] 2 (pB r) else ([], 0, 31))
    else addP [c] 1 (pB (d :: r))
theorem addP_add (o o' : List UInt8) (i i' : Nat) (x : PB) : addP o i (addP o' i' x) = addP (o ++ o') (i + i') x := by
  unfold addP
  by_cases h : x.2.2 = 0
  · simp only [h, if_true, List.append_assoc]; congr 2; omega
  · simp only [h, if_false]
theorem addP_err (o : List UInt8) (i e : Nat) (h : e ≠ 0) : addP o i ([], 0, e) = ([], 0, e) := by unfold addP; rw [if_neg h]
theorem pB_cons (c : UInt8) (r : List UInt8) (h : ¬ c.toNat = 0) : pB (c :: r) = addP [c] 1 (pB r) := by
  cases r with
  | nil => rw [show pB ([] : List UInt8) = ([], 0, 30) from rfl, pB, if_neg h]
  | cons d r => rw [pB, if_neg h]
theorem pB_zero (c d : UInt8) (r : List UInt8) (h : c.toNat = 0) : pB (c :: d :: r) = (if d.toNat = 0 then ([], 2, 0) else if d.toNat = 1 then addP [0] 2 (pB r) else ([], 0, 31)) := by rw [pB, if_pos h]
theorem pB_one (c : UInt8) (h : c.toNat = 0) : pB [c] = ([], 0, 30) := by rw [pB, if_pos h]
theorem pB_app (p r : List UInt8) (h : ∀ k : Nat, p[k]? ≠ some 0) : pB (p ++ r) = addP p p.length (pB r) := by
  induction p with
  | nil =>
    simp only [List.nil_append, List.length_nil]
    unfold addP
    by_cases q : (pB r).2.2 = 0
    · rw [if_pos q, List.nil_append, Nat.add_zero, ← q]
    · rw [if_neg q]
      have : ∀ b, (pB b).2.2 ≠ 0 → (pB b).1 = [] ∧ (pB b).2.1 = 0 := by
        intro b
        induction b using pB.induct with
        | case1 => intro _; exact ⟨rfl, rfl⟩
        | case2 c h => intro _; rw [pB_one c h]; exact ⟨rfl, rfl⟩
        | case3 c h => intro _; rw [pB, if_neg h]; exact ⟨rfl, rfl⟩
        | case4 c d r hc hd => intro q; rw [pB_zero c d r hc, if_pos hd] at q; exact absurd rfl q
        | case5 c d r hc hd h1 ih =>
          rw [pB_zero c d r hc, if_neg hd, if_pos h1]; intro q
          unfold addP at q ⊢; split at q <;> simp_all
        | case6 c d r hc hd h1 => intro _; rw [pB_zero c d r hc, if_neg hd, if_neg h1]; exact ⟨rfl, rfl⟩
        | case7 c d r hc ih =>
          rw [pB_cons c _ hc]; intro q
          unfold addP at q ⊢; split at q <;> simp_all
      obtain ⟨h1, h2⟩ := this r q
      exact Prod.ext h1 (Prod.ext h2 rfl)
  | cons c p ih =>
    have hc : ¬ c.toNat = 0 := fun e => h 0 (by simpa using (UInt8.toNat_inj (a := c) (b := 0)).1 e)
    rw [List.cons_append, pB_cons c _ hc, ih fun k => by simpa using h (k + 1), addP_add]
    simp only [List.length_cons, List.cons_append, List.nil_append]
    congr 1; omega
theorem pB_addP (b : List UInt8) : addP [] 0 (pB b) = pB b := (pB_app [] b (by simp)).symm
theorem pB_none {b : List UInt8} (h : ∀ k : Nat, b[k]? ≠ some 0) : pB b = ([], 0, 30) := by
  have := pB_app b [] h
  rw [List.append_nil] at this
  rw [this]; exact addP_err _ _ _ (by decide)
/-- What was put is read. -/
theorem pB_form (l r : List UInt8) : pB (formB l ++ r) = (l, (formB l).length, 0) := by
  have key : pB (esc l ++ ([0, 0] ++ r)) = addP l (esc l).length (([], 2, 0) : PB) := by
    induction l with
    | nil => rw [show esc [] = [] from rfl, List.nil_append, show ([0, 0] ++ r : List UInt8) = 0 :: 0 :: r from rfl, pB_zero _ _ _ rfl, if_pos (show (0 : UInt8).toNat = 0 from rfl)]; rfl
    | cons c l ih =>
      have e : esc (c :: l) = escB c ++ esc l := by simp [esc]
      rw [e]
      unfold escB
      by_cases hc : c.toNat = 0
      · rw [if_pos hc]
        simp only [List.cons_append, List.nil_append]
        rw [pB_zero _ _ _ hc, if_neg (by decide), if_pos (by decide)]
        rw [show (0 :: 0 :: r : List UInt8) = [0, 0] ++ r from rfl, ih, addP_add]
        have : c = 0 := (UInt8.toNat_inj (a := c) (b := 0)).1 hc
        subst this
        simp only [List.length_cons, List.cons_append, List.nil_append]
        congr 1; omega
      · rw [if_neg hc]
        simp only [List.cons_append, List.nil_append]
        rw [pB_cons _ _ hc, show (0 :: 0 :: r : List UInt8) = [0, 0] ++ r from rfl, ih, addP_add]
        simp only [List.length_cons, List.cons_append, List.nil_append]
        congr 1; omega
  unfold formB
  rw [List.append_assoc, key]
  unfold addP
  simp only [if_true, List.append_nil, List.length_append, List.length_cons, List.length_nil]
  congr 2; omega
/-- What is read was put. -/
theorem pB_ok {b l : List UInt8} {k : Nat} (h : pB b = (l, k, 0)) : k ≤ b.length ∧ formB l = b.take k := by
  induction b using pB.induct generalizing l k with
  | case1 => simp [pB] at h
  | case2 c hc => rw [pB_one c hc] at h; simp at h
  | case3 c hc => rw [pB, if_neg hc, addP_err _ _ _ (by decide)] at h; simp at h
  | case4 c d r hc hd =>
    rw [pB_zero c d r hc, if_pos hd] at h
    simp only [Prod.mk.injEq, and_true] at h
    obtain ⟨rfl, rfl⟩ := h
    have e1 : c = 0 := (UInt8.toNat_inj (a := c) (b := 0)).1 hc
    have e2 : d = 0 := (UInt8.toNat_inj (a := d) (b := 0)).1 hd
    subst e1; subst e2
    exact ⟨by simp, rfl⟩
  | case5 c d r hc hd h1 ih =>
    rw [pB_zero c d r hc, if_neg hd, if_pos h1] at h
    obtain ⟨x, hx⟩ : ∃ x, x = pB r := ⟨_, rfl⟩
    rw [← hx] at h
    unfold addP at h
    by_cases q : x.2.2 = 0
    · rw [if_pos q] at h
      simp only [Prod.mk.injEq, and_true] at h
      obtain ⟨rfl, rfl⟩ := h
      obtain ⟨i1, i2⟩ := ih (l := x.1) (k := x.2.1) (by rw [← hx, ← q])
      have e1 : c = 0 := (UInt8.toNat_inj (a := c) (b := 0)).1 hc
      have e2 : d = 1 := (UInt8.toNat_inj (a := d) (b := 1)).1 h1
      subst e1; subst e2
      refine ⟨by simp only [List.length_cons]; omega, ?_⟩
      show [0, 1] ++ formB x.1 = _
      rw [i2]; rfl
    · rw [if_neg q] at h
      simp only [Prod.mk.injEq] at h
      exact absurd h.2.2 q
  | case6 c d r hc hd h1 => rw [pB_zero c d r hc, if_neg hd, if_neg h1] at h; simp at h
  | case7 c d r hc ih =>
    rw [pB_cons c _ hc] at h
    obtain ⟨x, hx⟩ : ∃ x, x = pB (d :: r) := ⟨_, rfl⟩
    rw [← hx] at h
    unfold addP at h
    by_cases q : x.2.2 = 0
    · rw [if_pos q] at h
      simp only [Prod.mk.injEq, and_true] at h
      obtain ⟨rfl, rfl⟩ := h
      obtain ⟨i1, i2⟩ := ih (l := x.1) (k := x.2.1) (by rw [← hx, ← q])
      refine ⟨by simp only [List.length_cons] at i1 ⊢; omega, ?_⟩
      have : formB (c :: x.1) = c :: formB x.1 := by
        have : escB c = [c] := by unfold escB; rw [if_neg hc]
        show escB c ++ esc x.1 ++ [0, 0] = _
        rw [this]; rfl
      show formB (c :: x.1) = _
      rw [this, i2]; rfl
    · rw [if_neg q] at h
      simp only [Prod.mk.injEq] at h
      exact absurd h.2.2 q
theorem formB_ge (l : List UInt8) : l.length + 2 ≤ (formB l).length := by
  unfold formB
  rw [List.length_append, esc_length]
  show _ ≤ _ + 2
  omega
theorem pB_err (b : List UInt8) : (pB b).2.2 = 0 ∨ ((pB b).1 = [] ∧ (pB b).2.1 = 0 ∧ ((pB b).2.2 = 30 ∨ (pB b).2.2 = 31)) := by
  induction b using pB.induct with
  | case1 => exact .inr ⟨rfl, rfl, .inl rfl⟩
  | case2 c h => rw [pB_one c h]; exact .inr ⟨rfl, rfl, .inl rfl⟩
  | case3 c h => rw [pB, if_neg h]; exact .inr ⟨rfl, rfl, .inl rfl⟩
  | case4 c d r hc hd => rw [pB_zero c d r hc, if_pos hd]; exact .inl rfl
  | case5 c d r hc hd h1 ih =>
    rw [pB_zero c d r hc, if_neg hd, if_pos h1]
    unfold addP
    split
    · exact .inl rfl
    · rename_i q; exact .inr ⟨rfl, rfl, (ih.resolve_left q).2.2⟩
  | case6 c d r hc hd h1 => rw [pB_zero c d r hc, if_neg hd, if_neg h1]; exact .inr ⟨rfl, rfl, .inr rfl⟩
  | case7 c d r hc ih =>
    rw [pB_cons c _ hc]
    unfold addP
    split
    · exact .inl rfl
    · rename_i q; exact .inr ⟨rfl, rfl, (ih.resolve_left q).2.2⟩
theorem pI_err (b : List UInt8) : (pI b).2.2 = 0 ∨ ((pI b).1 = 0 ∧ (pI b).2.1 = 0 ∧ ((pI b).2.2 = 30 ∨ (pI b).2.2 = 31)) := by
  unfold pI
  split
  · exact .inr ⟨rfl, rfl, .inl rfl⟩
  · split
    · exact .inl rfl
    · split
      · exact .inr ⟨rfl, rfl, .inl rfl⟩
      · split
        · exact .inr ⟨rfl, rfl, .inr rfl⟩
        · split
          · exact .inr ⟨rfl, rfl, .inr rfl⟩
          · exact .inl rfl
/-- One step of the scan for a zero. -/
theorem pB_scan {d : List UInt8} {k : Nat} (h : Lib.indexByte d 0 = k) : k < d.length ∧ d.take (k + 1) = d.take k ++ [0] ∧
    (k + 1 = d.length → pB d = ([], 0, 30)) ∧ ∀ (hk : k + 1 < d.length), pB d = (if (d.getD (k + 1) 0).toNat = 0 then (d.take k, k + 2, 0) else if (d.getD (k + 1) 0).toNat = 1 then addP (d.take k ++ [0]) (k + 2) (pB (d.drop (k + 2))) else ([], 0, 31)) := by
  obtain ⟨h1, h2⟩ := Lib.indexByte_some h
  have hlt : k < d.length := (List.getElem?_eq_some_iff.1 h1).1
  have hat : d[k] = 0 := by rw [List.getElem?_eq_getElem hlt] at h1; exact Option.some.inj h1
  have hp : ∀ i : Nat, (d.take k)[i]? ≠ some 0 := fun i => by
    rw [List.getElem?_take]
    split
    · rename_i q; exact h2 i q
    · simp
  have hl : (d.take k).length = k := by rw [List.length_take]; omega
  have e : d = d.take k ++ 0 :: d.drop (k + 1) := by
    have := List.take_append_drop k d
    rw [List.drop_eq_getElem_cons hlt, hat] at this
    exact this.symm
  have hs := pB_app (d.take k) (0 :: d.drop (k + 1)) hp
  rw [← e, hl] at hs
  refine ⟨hlt, by rw [List.take_succ_eq_append_getElem hlt, hat], fun q => ?_, fun q => ?_⟩
  · rw [hs, List.drop_eq_nil_of_le (by omega), pB_one _ rfl]
    exact addP_err _ _ _ (by decide)
  · rw [hs, List.drop_eq_getElem_cons q, pB_zero _ _ _ rfl]
    have : d.getD (k + 1) 0 = d[k + 1] := by simp [List.getD, q]
    rw [this]
    split
    · unfold addP; simp only [if_true, List.append_nil]; congr 2; omega
    · split
      · rw [addP_add]
      · exact addP_err _ _ _ (by decide)
end Go.Proofs.YtfbddbpbifnhfaaDoor.Cd

/- Contracts taken from codec (written by port.py). -/
namespace Go.Proofs.YtfbddbpbifnhfaaDoor.Cd
open Go.Abs
theorem drop_cons {b : List UInt8} {i : Nat} (h : i < b.length) : b.drop i = b.getD i 0 :: b.drop (i + 1) := by
  rw [List.drop_eq_getElem_cons h]
  simp [List.getD, h]
end Go.Proofs.YtfbddbpbifnhfaaDoor.Cd

/- Contracts taken from codec (written by port.py). -/
namespace Go.Proofs.YtfbddbpbifnhfaaDoor.Cd
open Go.Abs
section
variable {P : Program} {T : Nat → Prop} {env : Env} {n : Nat} {g : AH} {dst : Option Tmp} {ty : TypeId} {pos : String} {after : Array Edge} {gd : Option (Nat × Bool)}
theorem op_indexByte0 {f : FuncId} {fn : Func} {ts : Array TypeId} {x y : Operand} {c : Int} (hf : P.funcs[f]? = some fn) (hname : (fn.name == "runtime.NumGoroutine") = false) (hb : fn.body.isNone = true) (hn : Extern.findNext fn = none)
    (he : Extern.find fn = some Extern.BytealgIndexByte.indexByte) (hx : ev env x = .slice none 0 0) (hy : ev env y = .int .u8 c) :
    OpEv P T ⟨dst, .call { callee := .value (.func f), args := #[x, y], argTypes := ts }, ty, pos, after, gd⟩ env n g (.int .i64 (-1)) n .nil :=
  .look fun w0 ρ w H ce hl hsim hop => by
    have h1 := hop x (by simp [Op.operands, Call.operands]); rw [hx] at h1
    have h3 := hop y (by simp [Op.operands, Call.operands]); rw [hy] at h3
    have hcy : ce y = .int .u8 c := h3.int_inv
    have h2 := hop (.func f) (by simp [Op.operands, Call.operands])
    have hcf0 : ce (.func f) = .func (.func f) #[] #[] := by
      have e0 : ev env (.func f) = .func (.func f) #[] #[] := rfl
      rw [e0] at h2
      generalize ce (.func f) = q at h2
      cases h2 with
      | @func _ _ ys hs _ =>
        have : ys = #[] := Array.eq_empty_of_size_eq_zero (by simpa using hs.symm)
        rw [this]
    refine ⟨.int .i64 (-1), ?_, .int _ _⟩
    have hc : ce x = .slice none 0 0 := by generalize ce x = q at h1; cases h1; rfl
    have hrun := Lib.run_indexByteNil (P := P) w 0 0 c
    have hcf := run_callFunc_extern hf hname hb hn he #[.slice none 0 0, .int .u8 c] w
    rw [hrun] at hcf
    simp [execOp, resolve, invoke, hc, hcy, hcf, hcf0, Deferred.ofValue]
end
set_option maxHeartbeats 4000000 in
theorem indexByteA_ev (l : List UInt8) (c : UInt8) (a : Option Addr) (m n : Nat) (h : AH) (S : SlB h n a l) (e : m = l.length) :
    Ev Tryd.prog none' 84 #[.slice a m m, .int .u8 c.toNat] n h (.int .i64 (Lib.indexByte l c)) n h := by
  by_cases hl : 0 < l.length
  · exact indexByte_ev l c a m n h S hl e
  · have : l = [] := List.eq_nil_of_length_eq_zero (by omega)
    subst this; subst e
    refine RF.pure rfl fun n' hn => ?_
    have S := S.ext (Ext.refl n h) hn
    refine RF.of Tryd.func84 rfl rfl (Nat.le_of_ble_eq_true rfl) ?_; dsimp only [argEnv]
    repeat' (first | refine stpS ?_ | (refine stp2 ?_ ?_ <;> intro _))
    rcases S.shape with ⟨ha, hl⟩ | ⟨ha, -, -⟩
    · subst ha
      refine RS.put (v := .int .i64 (-1)) rfl rfl (op_indexByte0 (f := 88) Tryd.func88 (by kernel_rfl) (by kernel_rfl) (by kernel_rfl) (by kernel_rfl) (Opd.ev opd) (Opd.ev opd)) ?_
      repeat' (first | refine stpS ?_ | (refine stp2 ?_ ?_ <;> intro _))
      rfl
    · have hrd : rd h (sb a) (so a) ([] : List UInt8).length = bytesV [] := rfl
      rw [ha]
      refine RS.put (v := .int .i64 (Lib.indexByte [] ((c.toNat : Int).toNat.toUInt8))) rfl rfl (op_indexByte (f := 88) (l := []) Tryd.func88 (by kernel_rfl) (by kernel_rfl) (by kernel_rfl) (by kernel_rfl) (Opd.ev opd) (Opd.ev opd) hrd) ?_
      repeat' (first | refine stpS ?_ | (refine stp2 ?_ ?_ <;> intro _))
      rfl
/-- What the function that takes bytes answers, and leaves in the cell w. -/
def RdB (x : PB) (w n : Nat) (h : AH) (r : Value) (n' : Nat) (h' : AH) : Prop :=
  ∃ a', r = .tuple #[.int .i64 (x.2.1 : Nat), .int .i64 (x.2.2 : Nat)] ∧ ExtW (· = w) n h h' ∧ h'.info w = some ⟨1, 0, true, 0⟩ ∧ (x.2.2 = 0 → h'.cell w 0 = .slice a' x.1.length x.1.length ∧ OwnSl h' n n' a' 1 x.1.length (bytesV x.1))
set_option maxHeartbeats 4000000 in
theorem takeBytes_rf (b : List UInt8) (a : Option Addr) (m w n : Nat) (h : AH) (S : SlB h n a b) (e : m = b.length) (hm : m ≤ 1073741824) (hw : w < n) (hi : h.info w = some ⟨1, 0, true, 0⟩) (hc : h.cell w 0 = .slice none 0 0) (hne : a = none ∨ sb a ≠ w) :
    RF Tryd.prog (· = w) 83 #[.slice a m m, .pointer (some ⟨w, 0, none⟩)] n h (RdB (pB b) w n h) := by
  subst e
  refine RF.of Tryd.func83 rfl rfl (Nat.le_of_ble_eq_true rfl) ?_; dsimp only [argEnv]
  repeat' (first | refine stpS ?_ | (refine stp2 ?_ ?_ <;> intro _))
  refine RC.loop ?_
  refine RL.inv (α := Nat × Option Addr × List UInt8) (fun s => [(5, .int .i64 (s.1 : Nat)), (0, .slice a b.length b.length), (1, .pointer (some ⟨w, 0, none⟩))])
    (fun s n1 h1 => s.1 ≤ b.length ∧ n ≤ n1 ∧ ExtW (· = w) n h h1 ∧ h1.info w = some ⟨1, 0, true, 0⟩ ∧ h1.cell w 0 = .slice s.2.1 s.2.2.length s.2.2.length ∧ OwnSl h1 n n1 s.2.1 1 s.2.2.length (bytesV s.2.2) ∧ s.2.2.length ≤ s.1 ∧ pB b = addP s.2.2 s.1 (pB (b.drop s.1)))
    (fun s => b.length - s.1) (0, none, []) envs ⟨by omega, Nat.le_refl _, ExtW.refl _ _ _, hi, hc, OwnSl.nil (Nat.le_refl _), Nat.le_refl _, (pB_addP b).symm⟩ ?_
  clear hi hc
  rintro ⟨i, a1, o⟩ n1 h1 ⟨hi, hn, hE, hI, hC, hO, hol, hp⟩
  dsimp only at hi hn hE hI hC hO hol hp ⊢
  have hS : SlB h1 n1 a b := S.extW hE hn fun q e => hne.elim q fun k => k e
  have hSd : SlB h1 n1 (sub a i) (b.drop i) := by
    have := SlB.cut hS (i := i) (u := b.length) hi (Nat.le_refl _)
    rwa [List.take_length] at this
  have hidx := indexByteA_ev (b.drop i) 0 (sub a i) (b.length - i) n1 h1 hSd (by rw [List.length_drop])
  have hwn : w < n1 := by omega
  have hdl : (b.drop i).length = b.length - i := List.length_drop
  have hge := Lib.indexByte_ge (b.drop i) 0
  by_cases hno : Lib.indexByte (b.drop i) 0 = -1
  · rw [pB_none (Lib.indexByte_none hno), addP_err _ _ _ (by decide)] at hp
    rw [hno] at hidx
    repeat' (first | refine stpS ?_ | (refine stp2 ?_ ?_ <;> intro _))
    rw [Int.toNat_natCast]
    refine RS.call1 rfl opds hidx none'W ?_
    repeat' (first | refine stpS ?_ | (refine stp2 ?_ ?_ <;> intro _))
    rw [hp]
    exact ⟨none, rfl, hE, hI, fun q => absurd q (by decide)⟩
  · obtain ⟨k, hk⟩ : ∃ k : Nat, Lib.indexByte (b.drop i) 0 = k := ⟨(Lib.indexByte (b.drop i) 0).toNat, by omega⟩
    obtain ⟨s1, s2, s3, s4⟩ := pB_scan hk
    rw [hk] at hidx
    by_cases hend : k + 1 = (b.drop i).length
    · rw [s3 hend, addP_err _ _ _ (by decide)] at hp
      repeat' (first | refine stpS ?_ | (refine stp2 ?_ ?_ <;> intro _))
      rw [Int.toNat_natCast]
      refine RS.call1 rfl opds hidx none'W ?_
      repeat' (first | refine stpS ?_ | (refine stp2 ?_ ?_ <;> intro _))
      rw [hp]
      exact ⟨none, rfl, hE, hI, fun q => absurd q (by decide)⟩
    · have s4 := s4 (by omega)
      rw [List.drop_drop] at s4
      have hSm : SlB h1 n1 (sub a i) ((b.drop i).take k) := by
        have := SlB.cut hS (i := i) (u := i + k) (by omega) (by omega)
        rwa [show (b.take (i + k)).drop i = (b.drop i).take k by rw [List.drop_take]; congr 1; omega] at this
      have hml : ((b.drop i).take k).length = k := by rw [List.length_take]; omega
      repeat' (first | refine stp ?_ | (refine stp2 ?_ ?_ <;> intro _))
      rw [Int.toNat_natCast]
      refine RS.call1 rfl opds hidx none'W ?_
      repeat' (first | refine stp ?_ | (refine stp2 ?_ ?_ <;> intro _))
      rw [Int.toNat_natCast, show ((i : Int) + (k : Int)).toNat - i = ((b.drop i).take k).length by omega]
      have hown := hO.at'
      refine RD.appendT n1 rfl opd opd hO (SlB.src (SlR.ext hSm (AH.below_ext _ _) (Nat.le_refl _))) full_slice (fun q => .inr (hown.resolve_left q).1) (by omega) (Nat.le_refl _) cfw ?_
      intro a2 n2 h2 hle2 hO2 hX2 hnew
      have hne1 : a1 = none ∨ w ≠ sb a1 := by
        by_cases q : a1 = none
        · exact .inl q
        · right; have := (hown.resolve_left q).1; omega
      have hI2 : h2.info w = some ⟨1, 0, true, 0⟩ := (hX2 w hwn hne1).1.trans hI
      have hwn2 : w < n2 := by omega
      have hE2 : ExtW (· = w) n h h2 := hE.then (hX2.ext hO) (Nat.le_refl _)
      have hlen2 : o.length + ((b.drop i).take k).length = (o ++ (b.drop i).take k).length := by rw [List.length_append]
      rw [← bytesV_app, hlen2] at hO2
      rw [hlen2]
      have ha2w : a2 = none ∨ sb a2 ≠ w := by
        rcases hO2.at' with q | q
        · exact .inl q
        · right; omega
      have hO3 := hO2.setsN (b := w) (o' := 0) (vs := [.slice a2 (o ++ (b.drop i).take k).length (o ++ (b.drop i).take k).length]) ha2w
      have hE3 : ExtW (· = w) n h (h2.app (.sets w 0 [.slice a2 (o ++ (b.drop i).take k).length (o ++ (b.drop i).take k).length])) := hE2.appSets (.inl rfl)
      have hS3 : SlB (h2.app (.sets w 0 [.slice a2 (o ++ (b.drop i).take k).length (o ++ (b.drop i).take k).length])) n2 a b := S.extW hE3 (by omega) fun q e => hne.elim q fun k => k e
      have hI3 : (h2.app (.sets w 0 [.slice a2 (o ++ (b.drop i).take k).length (o ++ (b.drop i).take k).length])).info w = some ⟨1, 0, true, 0⟩ := i_sets hI2
      have hC3 : (h2.app (.sets w 0 [.slice a2 (o ++ (b.drop i).take k).length (o ++ (b.drop i).take k).length])).cell w 0 = .slice a2 (o ++ (b.drop i).take k).length (o ++ (b.drop i).take k).length := cell
      have hgd : (b.drop i).getD (k + 1) 0 = b.getD (i + (k + 1)) 0 := by simp [List.getD]
      rw [hgd] at s4
      have hgI : b.getD ((i : Int) + ((k : Int) + 2) - 1).toNat 0 = b.getD (i + (k + 1)) 0 := by rw [show ((i : Int) + ((k : Int) + 2) - 1).toNat = i + (k + 1) by omega]
      by_cases h0 : (b.getD (i + (k + 1)) 0).toNat = 0
      · have h0I : (b.getD ((i : Int) + ((k : Int) + 2) - 1).toNat 0).toNat = 0 := by rw [hgI]; exact h0
        rw [s4, if_pos h0] at hp
        have hp : pB b = (o ++ (b.drop i).take k, k + 2 + i, 0) := by rw [hp]; unfold addP; simp only [if_true]
        repeat' (first | refine stp ?_ | (refine stp2 ?_ ?_ <;> intro _))
        rw [hp]
        exact ⟨a2, by rw [show ((k + 2 + i : Nat) : Int) = (i : Int) + ((k : Int) + 2) by omega]; rfl, hE3, hI3, fun _ => ⟨hC3, hO3⟩⟩
      · have h0I : ¬ (b.getD ((i : Int) + ((k : Int) + 2) - 1).toNat 0).toNat = 0 := by rw [hgI]; exact h0
        rw [s4, if_neg h0] at hp
        by_cases h1 : (b.getD (i + (k + 1)) 0).toNat = 1
        · have h1I : (b.getD ((i : Int) + ((k : Int) + 2) - 1).toNat 0).toNat = 1 := by rw [hgI]; exact h1
          rw [if_pos h1, addP_add] at hp
          have hol2 : (o ++ (b.drop i).take k).length ≤ i + k := by rw [List.length_append]; omega
          repeat' (first | refine stp ?_ | (refine stp2 ?_ ?_ <;> intro _))
          refine RS.heap (g := (h2.app (.sets w 0 [.slice a2 (o ++ (b.drop i).take k).length (o ++ (b.drop i).take k).length])).app (.new n2 ⟨1, 0, true, 1⟩ [.int .u8 0])) rfl ?_
          have hO4 := hO3.ext (n1 := n2 + 1) (h1 := (h2.app (.sets w 0 [.slice a2 (o ++ (b.drop i).take k).length (o ++ (b.drop i).take k).length])).app (.new n2 ⟨1, 0, true, 1⟩ [.int .u8 0])) ext (Nat.le_succ _)
          refine RS.appendT rfl opd opd hO4 (OwnSl.src (OwnSl.new1 (n0 := n2) (m := 1) (Nat.le_refl _) rfl rfl)) full_slice (fun q => .inr (hO4.at'.resolve_left q).1) (by omega) ?_
          intro a4 n4 h4 hle4 hO5 hX4 hnew4
          have hI4 := i_new_ne (n := n2) (m := ⟨1, 0, true, 1⟩) (cs := [.int .u8 0]) (by omega : w ≠ n2) hI3
          have hI5 : h4.info w = some ⟨1, 0, true, 0⟩ := (hX4 w (by omega) (ha2w.imp_right Ne.symm)).1.trans hI4
          have hwn4 : w < n4 := by omega
          have hE4 : ExtW (· = w) n h h4 := (hE3.appNew (by omega)).then (hX4.ext hO4) (Nat.le_refl _)
          have ha4w : a4 = none ∨ sb a4 ≠ w := by
            rcases hO5.at' with q | q
            · exact .inl q
            · right; omega
          have hlen4 : (o ++ (b.drop i).take k).length + 1 = (o ++ ((b.drop i).take k ++ [0])).length := by simp only [List.length_append, List.length_cons, List.length_nil]; omega
          have hv4 : bytesV (o ++ (b.drop i).take k) ++ [.int .u8 0] = bytesV (o ++ ((b.drop i).take k ++ [0])) := by rw [← List.append_assoc, bytesV_app (o ++ (b.drop i).take k) [0]]; rfl
          rw [hlen4, hv4] at hO5
          rw [hlen4]
          have hO6 := hO5.setsN (b := w) (o' := 0) (vs := [.slice a4 (o ++ ((b.drop i).take k ++ [0])).length (o ++ ((b.drop i).take k ++ [0])).length]) ha4w
          repeat' (first | refine stpS ?_ | (refine stp2 ?_ ?_ <;> intro _))
          refine nextC.normal ⟨(i + (k + 2), a4, o ++ ((b.drop i).take k ++ [0])), by dsimp only; omega, ?_, by dsimp only; omega, by omega, hE4.appSets (.inl rfl), i_sets hI5, cell, hO6, by dsimp only; omega, hp⟩
          dsimp only
          rw [show ((i + (k + 2) : Nat) : Int) = (i : Int) + ((k : Int) + 2) by omega]
          exact envs
        · have h1I : ¬ (b.getD ((i : Int) + ((k : Int) + 2) - 1).toNat 0).toNat = 1 := by rw [hgI]; exact h1
          rw [if_neg h1, addP_err _ _ _ (by decide)] at hp
          repeat' (first | refine stp ?_ | (refine stp2 ?_ ?_ <;> intro _))
          rw [hp]
          exact ⟨none, rfl, hE3, hI3, fun q => absurd q (by decide)⟩
end Go.Proofs.YtfbddbpbifnhfaaDoor.Cd

/- Contracts taken from codec (written by port.py). -/
namespace Go.Proofs.YtfbddbpbifnhfaaDoor.Cd
open Go.Abs
/-- A reader that a call made: the block w, what is left, b, at a. -/
structure RdR (h : AH) (n0 n w : Nat) (a : Option Addr) (b : List UInt8) : Prop where
  lo : n0 ≤ w
  hi : w < n
  inf : h.info w = some ⟨2, 0, true, 0⟩
  made : h.cell w 0 = .bool true
  sl : h.cell w 1 = .slice a b.length b.length
  bs : SlB h n a b
  ne : a = none ∨ sb a ≠ w
  le : b.length ≤ 1073741824
theorem RdR.ext {h h1 : AH} {n0 n n1 w : Nat} {a : Option Addr} {b : List UInt8} (R : RdR h n0 n w a b) (E : Ext n h h1) (hn : n ≤ n1) : RdR h1 n0 n1 w a b :=
  ⟨R.lo, Nat.lt_of_lt_of_le R.hi hn, (E.info w R.hi).trans R.inf, (E.cell w 0 R.hi).trans R.made, (E.cell w 1 R.hi).trans R.sl, SlR.ext R.bs E hn, R.ne, R.le⟩
theorem RdR.extW {W : Nat → Prop} {h h1 : AH} {n0 n n1 w : Nat} {a : Option Addr} {b : List UInt8} (R : RdR h n0 n w a b) (E : ExtW W n h h1) (hn : n ≤ n1) (hw : ¬ W w) (ha : a ≠ none → ¬ W (sb a)) : RdR h1 n0 n1 w a b :=
  ⟨R.lo, Nat.lt_of_lt_of_le R.hi hn, (E.info w R.hi hw).trans R.inf, (E.cell w 0 R.hi hw).trans R.made, (E.cell w 1 R.hi hw).trans R.sl, SlR.extW R.bs E hn ha, R.ne, R.le⟩
set_option maxHeartbeats 4000000 in
theorem newReader_rf (b : List UInt8) (a : Option Addr) (m n : Nat) (h : AH) (S : SlB h n a b) (e : m = b.length) (hm : m ≤ 1073741824) :
    RF Tryd.prog none' 35 #[.slice a m m] n h (fun r n' h' => ∃ w a', r = .pointer (some ⟨w, 0, none⟩) ∧ Ext n h h' ∧ RdR h' n n' w a' b ∧ (a' = none ∨ n ≤ sb a')) := by
  subst e
  refine RF.of Tryd.func35 rfl rfl (Nat.le_of_ble_eq_true rfl) ?_; dsimp only [argEnv]
  repeat' (first | refine stpS ?_ | (refine stp2 ?_ ?_ <;> intro _))
  refine RS.call rfl opds (clone_rf b a _ n h S rfl (by omega)) none'W ?_
  rintro r n1 h1 hle ⟨a1, rfl, hE, hO⟩
  repeat' (first | refine stpS ?_ | (refine stp2 ?_ ?_ <;> intro _))
  exact ⟨n1, a1, rfl, ext, ⟨hle, Nat.lt_succ_self _, info, cell, cell, (OwnSl.slbE hO).ext ext (Nat.le_succ _), hO.at'.imp_right fun q => by omega, hm⟩, hO.at'.imp_right fun q => q.1⟩
set_option maxHeartbeats 4000000 in
theorem end_ev (w : Nat) (a : Option Addr) (b : List UInt8) (n0 n : Nat) (h : AH) (R : RdR h n0 n w a b) :
    Ev Tryd.prog none' 78 #[.pointer (some ⟨w, 0, none⟩)] n h (.int .i64 (if 0 < b.length then 32 else 0)) n h := by
  refine RF.pure (by split <;> rfl) fun n' hn => ?_
  have R := R.ext (Ext.refl n h) hn
  refine RF.of Tryd.func78 rfl rfl (Nat.le_of_ble_eq_true rfl) ?_; dsimp only [argEnv]
  obtain ⟨hlo, hhi, hinf, hmade, hsl, hS, hne, hle⟩ := R
  by_cases q : 0 < b.length
  · rw [if_pos q]
    repeat' (first | refine stpS ?_ | (refine stp2 ?_ ?_ <;> intro _))
    rfl
  · rw [if_neg q]
    repeat' (first | refine stpS ?_ | (refine stp2 ?_ ?_ <;> intro _))
    rfl
set_option maxHeartbeats 4000000 in
theorem take_rf (f : FuncId) (c w : Nat) (a : Option Addr) (b : List UInt8) (n0 n : Nat) (h : AH) (R : RdR h n0 n w a b) (hcw : c ≠ w) (hac : a = none ∨ sb a ≠ c) (k e : Nat) (QC : Nat → AH → Prop) (hk : e = 0 → k ≤ b.length)
    (hev : RF Tryd.prog (· = c) f #[.slice a b.length b.length, .pointer (some ⟨c, 0, none⟩)] n h (fun r n' h' => r = .tuple #[.int .i64 (k : Nat), .int .i64 (e : Nat)] ∧ ExtW (· = c) n h h' ∧ QC n' h')) :
    RF Tryd.prog (fun x => x = w ∨ x = c) 61 #[.pointer (some ⟨w, 0, none⟩), .func (.func f) #[] #[.pointer (some ⟨c, 0, none⟩)]] n h (fun r n' h' => ∃ h1, r = .int .i64 (e : Nat) ∧ QC n' h1 ∧ ExtW (· = c) n h h1 ∧
      h' = (if e = 0 then h1.app (.sets w 1 [.slice (sub a k) (b.length - k) (b.length - k)]) else h1) ∧ (if e = 0 then RdR h' n0 n' w (sub a k) (b.drop k) else RdR h' n0 n' w a b)) := by
  have R0 := R
  refine RF.of Tryd.func61 rfl rfl (Nat.le_of_ble_eq_true rfl) ?_; dsimp only [argEnv]
  obtain ⟨hlo, hhi, hinf, hmade, hsl, hS, hne, hle⟩ := R
  repeat' (first | refine stpS ?_ | (refine stp2 ?_ ?_ <;> intro _))
  refine RS.callv (caps := [.pointer (some ⟨c, 0, none⟩)]) rfl opd opds hev (fun x hx => .inl (.inr hx)) ?_
  rintro r n1 h1 hle1 ⟨rfl, hE, hQ⟩
  have R1 := R0.extW hE hle1 (fun q => hcw q.symm) (fun q1 q2 => hac.elim q1 fun k => k q2)
  obtain ⟨-, hhi1, hinf1, hmade1, hsl1, hS1, -, -⟩ := R1
  by_cases he : e = 0
  · subst he
    have hk := hk rfl
    simp only [if_true]
    repeat' (first | refine stpS ?_ | (refine stp2 ?_ ?_ <;> intro _))
    rw [Int.toNat_natCast]
    have hdl : (b.drop k).length = b.length - k := List.length_drop
    refine ⟨h1, rfl, hQ, hE, rfl, hlo, hhi1, i_sets hinf1, cell, by rw [hdl]; exact cell, ?_, ?_, by omega⟩
    · have hS2 := SlB.cut hS1 hk (Nat.le_refl _)
      rw [List.take_length] at hS2
      refine SlR.extW (W := (· = w)) hS2 ((ExtW.refl _ _ _).appSets (.inl rfl)) (Nat.le_refl _) fun q1 q2 => ?_
      rcases hne with q | q
      · subst q; exact q1 rfl
      · cases a with
        | none => exact q1 rfl
        | some x => exact q q2
    · rcases hne with q | q
      · subst q; exact .inl rfl
      · cases a with
        | none => exact .inl rfl
        | some x => exact .inr q
  · simp only [if_neg he]
    repeat' (first | refine stpS ?_ | (refine stp2 ?_ ?_ <;> intro _))
    exact ⟨h1, rfl, hQ, hE, rfl, R0.extW hE hle1 (fun q => hcw q.symm) (fun q1 q2 => hac.elim q1 fun k => k q2)⟩
end Go.Proofs.YtfbddbpbifnhfaaDoor.Cd

/- Contracts taken from codec (written by port.py). -/
namespace Go.Proofs.YtfbddbpbifnhfaaDoor.Cd
open Go.Abs
def RdTo (w : Nat) (a : Option Addr) (b' : List UInt8) (n0 n : Nat) (h : AH) (n' : Nat) (h' : AH) : Prop :=
  ∃ a', RdR h' n0 n' w a' b' ∧ ExtW (· = w) n h h' ∧ (a' = none ∨ a ≠ none ∧ sb a' = sb a)
theorem sub_sb (a : Option Addr) (k : Nat) : sub a k = none ∨ a ≠ none ∧ sb (sub a k) = sb a := by
  cases a with
  | none => exact .inl rfl
  | some x => exact .inr ⟨by simp, rfl⟩
theorem self_sb (a : Option Addr) : a = none ∨ a ≠ none ∧ sb a = sb a := by
  cases a with
  | none => exact .inl rfl
  | some x => exact .inr ⟨by simp, rfl⟩
set_option maxHeartbeats 4000000 in
theorem takeInt_rf (b : List UInt8) (a : Option Addr) (c n : Nat) (h : AH) (S : SlB h n a b) (hm : b.length ≤ 1073741824) (hc : c < n) (hi : h.info c = some ⟨1, 0, true, 0⟩) :
    RF Tryd.prog (· = c) 62 #[.slice a b.length b.length, .pointer (some ⟨c, 0, none⟩)] n h (fun r n' h' => r = .tuple #[.int .i64 ((pI b).2.1 : Nat), .int .i64 ((pI b).2.2 : Nat)] ∧ ExtW (· = c) n h h' ∧
      h'.cell c 0 = .int .i64 (pI b).1 ∧ h'.info c = some ⟨1, 0, true, 0⟩) := by
  refine RF.of Tryd.func62 rfl rfl (Nat.le_of_ble_eq_true rfl) ?_; dsimp only [argEnv]
  repeat' (first | refine stpS ?_ | (refine stp2 ?_ ?_ <;> intro _))
  refine RS.call1 rfl opds (get_ev b a _ _ _ S rfl (by omega)) none'W ?_
  unfold pIV
  repeat' (first | refine stpS ?_ | (refine stp2 ?_ ?_ <;> intro _))
  exact ⟨rfl, (ExtW.refl _ _ _).appSets (.inl rfl), cell, i_sets hi⟩
set_option maxHeartbeats 4000000 in
theorem rInt_rf (w : Nat) (a : Option Addr) (b : List UInt8) (n0 n : Nat) (h : AH) (R : RdR h n0 n w a b) :
    RF Tryd.prog (· = w) 36 #[.pointer (some ⟨w, 0, none⟩)] n h (fun r n' h' => r = .tuple #[.int .i64 (pI b).1, .int .i64 ((pI b).2.2 : Nat)] ∧ RdTo w a (b.drop (pI b).2.1) n0 n h n' h') := by
  refine RF.of Tryd.func36 rfl rfl (Nat.le_of_ble_eq_true rfl) ?_; dsimp only [argEnv]
  repeat' (first | refine stpS ?_ | (refine stp2 ?_ ?_ <;> intro _))
  have hhi := R.hi
  have R1 := R.ext (n1 := n + 1) (h1 := h.app (.new n ⟨1, 0, true, 0⟩ [.int .i64 0])) ext (by omega)
  have hab : a = none ∨ sb a ≠ n := by
    rcases R.bs.two with q | ⟨x, y, q⟩
    · exact .inl q.1
    · right; have := R.bs.ltA (by rw [q]; simp); omega
  refine RS.call rfl opds (take_rf 62 n w a b n0 (n + 1) _ R1 (by omega) hab (pI b).2.1 (pI b).2.2 (fun n' h' => h'.cell n 0 = .int .i64 (pI b).1 ∧ h'.info n = some ⟨1, 0, true, 0⟩) (fun q => (pI_ok (n := (pI b).1) (k := (pI b).2.1) (by rw [← q])).2.2.2.1)
    (takeInt_rf b a n (n + 1) _ R1.bs R1.le (by omega) info)) (fun x hx => hx.imp id fun q => by omega) ?_
  rintro r n1 h1 hle ⟨h2, rfl, ⟨hq1, hq2⟩, hE, he, hR⟩
  have hE2 : ExtW (· = w) n h h2 := ((ExtW.refl (· = w) n h).appNew (m := ⟨1, 0, true, 0⟩) (cs := [.int .i64 0]) (Nat.le_refl n)).then (hE.extM (Nat.le_succ n) (fun b hb => by omega)) (Nat.le_refl n)
  have hnw : n ≠ w := by omega
  have hn1 : n < n1 := by omega
  have hsub : sub a (pI b).2.1 = none ∨ sb (sub a (pI b).2.1) ≠ n := by
    rcases sub_sb a (pI b).2.1 with q | q
    · exact .inl q
    · right; rw [q.2]; exact hab.resolve_left q.1
  by_cases q : (pI b).2.2 = 0
  · rw [if_pos q] at he hR
    have hc1 : h1.cell n 0 = .int .i64 (pI b).1 := by rw [he]; exact c_out (.inl hnw) hq1
    have hi1 : h1.info n = some ⟨1, 0, true, 0⟩ := by rw [he]; exact i_sets hq2
    have hE3 : ExtW (· = w) n h h1 := by rw [he]; exact hE2.appSets (.inl rfl)
    repeat' (first | refine stpS ?_ | (refine stp2 ?_ ?_ <;> intro _))
    exact ⟨rfl, _, hR.extW (W := (· = n)) ((ExtW.refl _ _ _).appSets (.inl rfl)) (Nat.le_refl _) (fun q => hnw q.symm) (fun q1 q2 => hsub.elim q1 fun k => k q2), hE3.appSets (.inr (Nat.le_refl n)), sub_sb a _⟩
  · rw [if_neg q] at he hR
    have hk : (pI b).2.1 = 0 := ((pI_err b).resolve_left q).2.1
    have hc1 : h1.cell n 0 = .int .i64 (pI b).1 := by rw [he]; exact hq1
    have hi1 : h1.info n = some ⟨1, 0, true, 0⟩ := by rw [he]; exact hq2
    have hE3 : ExtW (· = w) n h h1 := by rw [he]; exact hE2
    rw [hk, List.drop_zero]
    repeat' (first | refine stpS ?_ | (refine stp2 ?_ ?_ <;> intro _))
    exact ⟨rfl, _, hR.extW (W := (· = n)) ((ExtW.refl _ _ _).appSets (.inl rfl)) (Nat.le_refl _) (fun q => hnw q.symm) (fun q1 q2 => hab.elim q1 fun k => k q2), hE3.appSets (.inr (Nat.le_refl n)), self_sb a⟩
end Go.Proofs.YtfbddbpbifnhfaaDoor.Cd

/- Contracts taken from codec (written by port.py). -/
namespace Go.Proofs.YtfbddbpbifnhfaaDoor.Cd
open Go.Abs
def RdBTo (x : PB) (w : Nat) (a : Option Addr) (b' : List UInt8) (n0 n : Nat) (h : AH) (r : Value) (n' : Nat) (h' : AH) : Prop :=
  ∃ c, r = .tuple #[.slice c x.1.length x.1.length, .int .i64 (x.2.2 : Nat)] ∧ RdTo w a b' n0 n h n' h' ∧ OwnSl h' n n' c 1 x.1.length (bytesV x.1)
theorem pB_le {b l : List UInt8} {k : Nat} (h : pB b = (l, k, 0)) : l.length ≤ b.length := by
  obtain ⟨h1, h2⟩ := pB_ok h
  have := congrArg List.length h2
  have h3 := formB_ge l
  rw [List.length_take] at this
  omega
set_option maxHeartbeats 4000000 in
theorem rBytes_rf (w : Nat) (a : Option Addr) (b : List UInt8) (n0 n : Nat) (h : AH) (R : RdR h n0 n w a b) :
    RF Tryd.prog (· = w) 77 #[.pointer (some ⟨w, 0, none⟩)] n h (RdBTo (pB b) w a (b.drop (pB b).2.1) n0 n h) := by
  refine RF.of Tryd.func77 rfl rfl (Nat.le_of_ble_eq_true rfl) ?_; dsimp only [argEnv]
  repeat' (first | refine stpS ?_ | (refine stp2 ?_ ?_ <;> intro _))
  have hhi := R.hi
  have R1 := R.ext (n1 := n + 1) (h1 := h.app (.new n ⟨1, 0, true, 0⟩ [.slice none 0 0])) ext (by omega)
  have hab : a = none ∨ sb a ≠ n := by
    rcases R.bs.two with q | ⟨x, y, q⟩
    · exact .inl q.1
    · right; have := R.bs.ltA (by rw [q]; simp); omega
  refine RS.call rfl opds (take_rf 83 n w a b n0 (n + 1) _ R1 (by omega) hab (pB b).2.1 (pB b).2.2 (fun n' h' => ∃ c, h'.info n = some ⟨1, 0, true, 0⟩ ∧ ((pB b).2.2 = 0 → h'.cell n 0 = .slice c (pB b).1.length (pB b).1.length ∧ OwnSl h' (n + 1) n' c 1 (pB b).1.length (bytesV (pB b).1)))
    (fun q => (pB_ok (l := (pB b).1) (k := (pB b).2.1) (by rw [← q])).1)
    ((takeBytes_rf b a b.length n (n + 1) _ R1.bs rfl R1.le (by omega) info cell hab).mono (fun r n' h' ⟨c, q1, q2, q3, q4⟩ => ⟨q1, q2, c, q3, q4⟩))) (fun x hx => hx.imp id fun q => by omega) ?_
  rintro r n1 h1 hle ⟨h2, rfl, ⟨c, hq2, hq1⟩, hE, he, hR⟩
  have hE2 : ExtW (· = w) n h h2 := ((ExtW.refl (· = w) n h).appNew (m := ⟨1, 0, true, 0⟩) (cs := [.slice none 0 0]) (Nat.le_refl n)).then (hE.extM (Nat.le_succ n) (fun b hb => by omega)) (Nat.le_refl n)
  have hnw : n ≠ w := by omega
  have hn1 : n < n1 := by omega
  have hsub : sub a (pB b).2.1 = none ∨ sb (sub a (pB b).2.1) ≠ n := by
    rcases sub_sb a (pB b).2.1 with q | q
    · exact .inl q
    · right; rw [q.2]; exact hab.resolve_left q.1
  by_cases q : (pB b).2.2 = 0
  · rw [if_pos q] at he hR
    obtain ⟨hq1, hO⟩ := hq1 q
    have hcw : c = none ∨ sb c ≠ w := hO.at'.imp_right fun k => by omega
    have hcn : c = none ∨ sb c ≠ n := hO.at'.imp_right fun k => by omega
    have hc1 : h1.cell n 0 = .slice c (pB b).1.length (pB b).1.length := by rw [he]; exact c_out (.inl hnw) hq1
    have hi1 : h1.info n = some ⟨1, 0, true, 0⟩ := by rw [he]; exact i_sets hq2
    have hE3 : ExtW (· = w) n h h1 := by rw [he]; exact hE2.appSets (.inl rfl)
    have hO1 : OwnSl h1 (n + 1) n1 c 1 (pB b).1.length (bytesV (pB b).1) := by rw [he]; exact hO.setsN hcw
    repeat' (first | refine stpS ?_ | (refine stp2 ?_ ?_ <;> intro _))
    exact ⟨c, rfl, ⟨_, hR.extW (W := (· = n)) ((ExtW.refl _ _ _).appSets (.inl rfl)) (Nat.le_refl _) (fun q => hnw q.symm) (fun q1 q2 => hsub.elim q1 fun k => k q2), hE3.appSets (.inr (Nat.le_refl n)), sub_sb a _⟩, (hO1.setsN hcn).mono (Nat.le_succ n)⟩
  · rw [if_neg q] at he hR
    obtain ⟨k1, k2, k3⟩ := (pB_err b).resolve_left q
    have hi1 : h1.info n = some ⟨1, 0, true, 0⟩ := by rw [he]; exact hq2
    have hE3 : ExtW (· = w) n h h1 := by rw [he]; exact hE2
    rw [k2, List.drop_zero]
    repeat' (first | refine stpS ?_ | (refine stp2 ?_ ?_ <;> intro _))
    exact ⟨none, by rw [k1]; rfl, ⟨_, hR.extW (W := (· = n)) ((ExtW.refl _ _ _).appSets (.inl rfl)) (Nat.le_refl _) (fun q => hnw q.symm) (fun q1 q2 => hab.elim q1 fun k => k q2), hE3.appSets (.inr (Nat.le_refl n)), self_sb a⟩, by rw [k1]; exact OwnSl.nil (by omega)⟩
end Go.Proofs.YtfbddbpbifnhfaaDoor.Cd

/- Contracts taken from codec (written by port.py). -/
namespace Go.Proofs.YtfbddbpbifnhfaaDoor.Cd
open Go.Abs
set_option maxHeartbeats 4000000 in
theorem hasPrefix_ev (t u : List UInt8) (a b : Option Addr) (m k n : Nat) (h : AH) (S : SlB h n a t) (S2 : SlB h n b u) (e : m = t.length) (e2 : k = u.length) :
    Ev Tryd.prog none' 65 #[.slice a m m, .slice b k k] n h (.bool (decide (u.length ≤ t.length ∧ t.take u.length = u))) n h := by
  subst e; subst e2
  refine RF.pure rfl fun n' hn => ?_
  have S := S.ext (Ext.refl n h) hn
  have S2 := S2.ext (Ext.refl n h) hn
  refine RF.of Tryd.func65 rfl rfl (Nat.le_of_ble_eq_true rfl) ?_; dsimp only [argEnv]
  by_cases hle : u.length ≤ t.length
  · have hSt := SlB.take S hle
    have htl : (t.take u.length).length = u.length := by rw [List.length_take]; omega
    have heq := equal_ev (t.take u.length) u a b u.length u.length n' h hSt S2 htl.symm rfl
    have e1 : decide (u.length ≤ t.length ∧ t.take u.length = u) = decide (t.take u.length = u) := by simp [hle]
    rw [e1]
    repeat' (first | refine stpS ?_ | (refine stp2 ?_ ?_ <;> intro _) | refine RS.call1 rfl opds (heq) none'W ?_)
    rfl
  · have e1 : decide (u.length ≤ t.length ∧ t.take u.length = u) = false := by simp [hle]
    rw [e1]
    repeat' (first | refine stpS ?_ | (refine stp2 ?_ ?_ <;> intro _))
    rfl
end Go.Proofs.YtfbddbpbifnhfaaDoor.Cd

/- Contracts taken from codec (written by port.py). -/
namespace Go.Proofs.YtfbddbpbifnhfaaDoor.Cd
open Go.Abs
theorem bytesV_set (u : List UInt8) (i : Nat) (c : UInt8) : (bytesV u).set i (.int .u8 c.toNat) = bytesV (u.set i c) := by
  simp [bytesV, List.map_set]
end Go.Proofs.YtfbddbpbifnhfaaDoor.Cd

/- Contracts taken from codec (written by port.py). -/
namespace Go.Proofs.YtfbddbpbifnhfaaDoor.Cd
open Go.Abs
/-- The document's reader: the block w, what is left, b, at a. -/
structure RfR (h : AH) (n0 n w : Nat) (a : Option Addr) (b : List UInt8) : Prop where
  lo : n0 ≤ w
  hi : w < n
  inf : h.info w = some ⟨1, 0, true, 0⟩
  sl : h.cell w 0 = .slice a b.length b.length
  bs : SlB h n a b
  ne : a = none ∨ sb a ≠ w
  le : b.length ≤ 1073741824
theorem RfR.extW {W : Nat → Prop} {h h1 : AH} {n0 n n1 w : Nat} {a : Option Addr} {b : List UInt8} (R : RfR h n0 n w a b) (E : ExtW W n h h1) (hn : n ≤ n1) (hw : ¬ W w) (ha : a ≠ none → ¬ W (sb a)) : RfR h1 n0 n1 w a b :=
  ⟨R.lo, Nat.lt_of_lt_of_le R.hi hn, (E.info w R.hi hw).trans R.inf, (E.cell w 0 R.hi hw).trans R.sl, SlR.extW R.bs E hn ha, R.ne, R.le⟩
theorem RfR.ext {h h1 : AH} {n0 n n1 w : Nat} {a : Option Addr} {b : List UInt8} (R : RfR h n0 n w a b) (E : Ext n h h1) (hn : n ≤ n1) : RfR h1 n0 n1 w a b :=
  R.extW (W := none') (ExtW.of E (Nat.le_refl _)) hn (fun q => q) (fun _ q => q)
theorem pI_k (b : List UInt8) : (pI b).2.1 ≤ b.length := by
  rcases pI_err b with q | q
  · exact (pI_ok (b := b) (n := (pI b).1) (k := (pI b).2.1) (by rw [← q])).2.2.2.1
  · omega
theorem pB_k (b : List UInt8) : (pB b).2.1 ≤ b.length := by
  rcases pB_err b with q | q
  · exact (pB_ok (b := b) (l := (pB b).1) (k := (pB b).2.1) (by rw [← q])).1
  · omega
end Go.Proofs.YtfbddbpbifnhfaaDoor.Cd

/- The plain law of marks. -/
namespace Go.Proofs.YtfbddbpbifnhfaaDoor
open Go.Abs Cd

/-- A sum's four bytes, the least first. -/
def little (c : Nat) : List UInt8 := [UInt8.ofNat c, UInt8.ofNat (c / 256), UInt8.ofNat (c / 65536), UInt8.ofNat (c / 16777216)]
def headB (g s m c : Int) : List UInt8 := form g ++ form s ++ form m ++ form c
def zeros (k : Nat) : List UInt8 := List.replicate k 0
def padB (g s m c : Int) : List UInt8 := headB g s m c ++ zeros (508 - (headB g s m c).length)
/-- A mark's bytes. -/
def markB (g s m c : Int) : List UInt8 := padB g s m c ++ little (crc (padB g s m c))
def may (n : Int) : Prop := 0 ≤ n ∧ n ≤ 1099511627776
instance (n : Int) : Decidable (may n) := inferInstanceAs (Decidable (_ ∧ _))
def i64 (n : Int) : Prop := -9223372036854775808 ≤ n ∧ n < 9223372036854775808
theorem headB_le {g s m c : Int} (hg : i64 g) (hs : i64 s) (hm : i64 m) (hc : i64 c) : (headB g s m c).length ≤ 36 := by
  have h1 := form_le g hg.1 hg.2
  have h2 := form_le s hs.1 hs.2
  have h3 := form_le m hm.1 hm.2
  have h4 := form_le c hc.1 hc.2
  unfold headB
  simp only [List.length_append]
  omega
theorem padB_length {g s m c : Int} (hg : i64 g) (hs : i64 s) (hm : i64 m) (hc : i64 c) : (padB g s m c).length = 508 := by
  have := headB_le hg hs hm hc
  unfold padB zeros
  rw [List.length_append, List.length_replicate]
  omega
theorem markB_length {g s m c : Int} (hg : i64 g) (hs : i64 s) (hm : i64 m) (hc : i64 c) : (markB g s m c).length = 512 := by
  unfold markB
  rw [List.length_append, padB_length hg hs hm hc]
  rfl
theorem may.i64 {n : Int} (h : may n) : i64 n := by unfold may at h; unfold Go.Proofs.YtfbddbpbifnhfaaDoor.i64; omega
theorem crc_lt (l : List UInt8) : crc l < 4294967296 := by unfold crc; omega
end Go.Proofs.YtfbddbpbifnhfaaDoor

/- Contracts of wal: marks. -/
namespace Go.Proofs.YtfbddbpbifnhfaaDoor
open Go.Abs Cd

set_option maxHeartbeats 4000000 in
theorem may_ev (v : Int) (n : Nat) (h : AH) : Ev Tryd.prog none' 29 #[.int .i64 v] n h (.bool (decide (may v))) n h := by
  refine RF.pure rfl fun n' hn => ?_
  refine RF.of Tryd.func29 rfl rfl (Nat.le_of_ble_eq_true rfl) ?_; dsimp only [argEnv]
  by_cases q : may v
  · have q' := q
    unfold may at q'
    rw [decide_eq_true q]
    repeat' (first | refine stpS ?_ | (refine stp2 ?_ ?_ <;> intro _))
    rfl
  · have q' := q
    unfold may at q'
    rw [decide_eq_false q]
    repeat' (first | refine stpS ?_ | (refine stp2 ?_ ?_ <;> intro _))
    all_goals rfl
set_option maxHeartbeats 4000000 in
theorem refMay_ev (v : Int) (n : Nat) (h : AH) : Ev Tryd.prog none' 32 #[.int .i64 v] n h (.bool (decide (may v))) n h := by
  refine RF.pure rfl fun n' hn => ?_
  refine RF.of Tryd.func32 rfl rfl (Nat.le_of_ble_eq_true rfl) ?_; dsimp only [argEnv]
  by_cases q : may v
  · have q' := q
    unfold may at q'
    rw [decide_eq_true q]
    repeat' (first | refine stpS ?_ | (refine stp2 ?_ ?_ <;> intro _))
    rfl
  · have q' := q
    unfold may at q'
    rw [decide_eq_false q]
    repeat' (first | refine stpS ?_ | (refine stp2 ?_ ?_ <;> intro _))
    all_goals rfl
set_option maxHeartbeats 4000000 in
theorem little_rf (c : Nat) (hc : c < 4294967296) (n : Nat) (h : AH) : RF Tryd.prog none' 60 #[.int .u32 (c : Nat)] n h (Row (little c) n h) := by
  refine RF.of Tryd.func60 rfl rfl (Nat.le_of_ble_eq_true rfl) ?_; dsimp only [argEnv]
  have e1 : ((c >>> Int.toNat 8 : Nat) : Int) % 256 = ((UInt8.ofNat (c / 256)).toNat : Nat) := by rw [UInt8.toNat_ofNat', Nat.shiftRight_eq_div_pow]; rfl
  have e2 : ((c >>> Int.toNat 16 : Nat) : Int) % 256 = ((UInt8.ofNat (c / 65536)).toNat : Nat) := by rw [UInt8.toNat_ofNat', Nat.shiftRight_eq_div_pow]; rfl
  have e3 : ((c >>> Int.toNat 24 : Nat) : Int) % 256 = ((UInt8.ofNat (c / 16777216)).toNat : Nat) := by rw [UInt8.toNat_ofNat', Nat.shiftRight_eq_div_pow]; rfl
  have e0 : (c : Int) % 256 = ((UInt8.ofNat c).toNat : Nat) := by rw [UInt8.toNat_ofNat']; rfl
  repeat (first | (refine RS.put rfl rfl (o_convM_u8 (Opd.tmp Look.here)) ?_) | refine stpS ?_)
  simp only [Int.toNat_natCast]
  rw [e0, e1, e2, e3]
  exact ⟨_, rfl, ext, OwnSl.new1 (n0 := n) (m := 4) (cs := bytesV (little c)) (Nat.le_refl n) rfl (bytesV_known _)⟩
theorem zeros_len (g s m c : Int) (hg : i64 g) (hs : i64 s) (hm : i64 m) (hc : i64 c) : (headB g s m c).length + (508 - (headB g s m c).length) = 508 := by
  have := headB_le hg hs hm hc
  omega
set_option maxHeartbeats 4000000 in
theorem refmark_rf (g s m c : Int) (hg : i64 g) (hs : i64 s) (hm : i64 m) (hc : 0 ≤ c) (hc2 : c < 4294967296) (n : Nat) (h : AH) :
    RF Tryd.prog none' 33 #[.int .i64 g, .int .i64 s, .int .i64 m, .int .u32 c] n h (Row (markB g s m c) n h) := by
  refine RF.of Tryd.func33 rfl rfl (Nat.le_of_ble_eq_true rfl) ?_; dsimp only [argEnv]
  have hci : i64 c := ⟨by omega, by omega⟩
  have l1 := form_le g hg.1 hg.2
  have l2 := form_le s hs.1 hs.2
  have l3 := form_le m hm.1 hm.2
  have l4 := form_le c hci.1 hci.2
  have hle := headB_le hg hs hm hci
  have hpl := padB_length hg hs hm hci
  repeat' (first | refine stpS ?_ | (refine stp2 ?_ ?_ <;> intro _))
  refine RS.call rfl opds (refInt_rf g hg.1 hg.2 n h) none'W ?_
  rintro r n1 h1 k1 ⟨a1, rfl, E1, O1⟩
  repeat' (first | refine stpS ?_ | (refine stp2 ?_ ?_ <;> intro _))
  refine RS.call rfl opds (refInt_rf s hs.1 hs.2 n1 h1) none'W ?_
  rintro r n2 h2 k2 ⟨a2, rfl, E2, O2⟩
  have E2' : Ext n h h2 := E1.trans k1 E2
  refine RS.append rfl opd opd (O1.ext E2 k2) O2.src full_slice (fun b hb => Or.inr (by omega)) (by omega) ?_
  intro a3 n3 h3 k3 O3 X3 w3
  have E3 := X3.ext (O1.ext E2 k2)
  rw [← List.length_append, ← bytesV_app] at O3
  rw [← List.length_append]
  have E3' : Ext n h h3 := E2'.then E3
  repeat' (first | refine stpS ?_ | (refine stp2 ?_ ?_ <;> intro _))
  refine RS.call rfl opds (refInt_rf m hm.1 hm.2 n3 h3) none'W ?_
  rintro r n4 h4 k4 ⟨a4, rfl, E4, O4⟩
  refine RS.append rfl opd opd (O3.ext E4 k4) O4.src full_slice (fun b hb => Or.inr (by omega)) (by rw [List.length_append]; omega) ?_
  intro a5 n5 h5 k5 O5 X5 w5
  have E5 := X5.ext (O3.ext E4 k4)
  rw [← List.length_append, ← bytesV_app] at O5
  rw [← List.length_append]
  have E5' : Ext n h h5 := (E3'.trans (by omega) E4).then E5
  repeat' (first | refine stpS ?_ | (refine stp2 ?_ ?_ <;> intro _))
  refine RS.call rfl opds (refInt_rf c hci.1 hci.2 n5 h5) none'W ?_
  rintro r n6 h6 k6 ⟨a6, rfl, E6, O6⟩
  refine RS.append rfl opd opd (O5.ext E6 k6) O6.src full_slice (fun b hb => Or.inr (by omega)) (by simp only [List.length_append]; omega) ?_
  intro a7 n7 h7 k7 O7 X7 w7
  have E7 := X7.ext (O5.ext E6 k6)
  rw [← List.length_append, ← bytesV_app] at O7
  rw [← List.length_append]
  have E7' : Ext n h h7 := (E5'.trans (by omega) E6).then E7
  have hh : form g ++ form s ++ form m ++ form c = headB g s m c := rfl
  rw [hh] at O7 ⊢
  have hz : (508 : Int) - ((headB g s m c).length : Nat) = ((508 - (headB g s m c).length : Nat) : Int) := by omega
  repeat' (first | refine stpS ?_ | (refine stp2 ?_ ?_ <;> intro _))
  rw [hz]
  have hzr : ∀ k, zrow (Value.cells (.int .u8 0)).toList k = bytesV (zeros k) := fun k => by
    rw [show (Value.cells (.int .u8 0)).toList = [.int .u8 0] from rfl, zrow_one]
    unfold zeros bytesV; rw [List.map_replicate]; rfl
  refine RS.appendZT rfl opd opd O7 (by omega) (fun q => .inr (O7.at'.resolve_left q).1) (by omega) (by rw [hzr]; exact bytesV_known _) ?_
  intro a8 n8 h8 k8 O8 X8 w8
  have E8' : Ext n h h8 := E7'.then (X8.ext O7)
  rw [hzr, Int.toNat_natCast, ← bytesV_app] at O8
  rw [Int.toNat_natCast]
  have hpd : headB g s m c ++ zeros (508 - (headB g s m c).length) = padB g s m c := rfl
  have hpl' : (headB g s m c).length + (508 - (headB g s m c).length) = (padB g s m c).length := by omega
  rw [hpd, hpl'] at O8
  rw [hpl']
  repeat' (first | refine stpS ?_ | (refine stp2 ?_ ?_ <;> intro _))
  refine RS.call1 rfl opds (refSum_ev (padB g s m c) a8 _ _ _ (OwnSl.slbE O8) rfl (by omega)) none'W ?_
  repeat' (first | refine stpS ?_ | (refine stp2 ?_ ?_ <;> intro _))
  refine RS.call rfl opds (little_rf _ (crc_lt _) n8 h8) none'W ?_
  rintro r n9 h9 k9 ⟨a9, rfl, E9, O9⟩
  refine RS.append rfl opd opd (O8.ext E9 k9) O9.src full_slice (fun b hb => Or.inr (by omega)) (by have : (little (crc (padB g s m c))).length = 4 := rfl; omega) ?_
  intro a10 n10 h10 k10 O10 X10 w10
  have E10' : Ext n h h10 := (E8'.trans (by omega) E9).then (X10.ext (O8.ext E9 k9))
  rw [← List.length_append, ← bytesV_app] at O10
  rw [← List.length_append]
  repeat' (first | refine stpS ?_ | (refine stp2 ?_ ?_ <;> intro _))
  exact ⟨a10, rfl, E10', O10⟩
set_option maxHeartbeats 4000000 in
theorem sector_rf (g s m c : Int) (hg : i64 g) (hs : i64 s) (hm : i64 m) (hc : 0 ≤ c) (hc2 : c < 4294967296) (n : Nat) (h : AH) :
    RF Tryd.prog none' 30 #[.int .i64 g, .int .i64 s, .int .i64 m, .int .u32 c] n h (Row (markB g s m c) n h) := by
  refine RF.of Tryd.func30 rfl rfl (Nat.le_of_ble_eq_true rfl) ?_; dsimp only [argEnv]
  repeat' (first | refine stpS ?_ | (refine stp2 ?_ ?_ <;> intro _))
  refine RS.call rfl opds (newWriter_rf n h) none'W ?_
  rintro r n1 h1 hle1 ⟨rfl, hE1, hW1⟩
  repeat' (first | refine stpS ?_ | (refine stp2 ?_ ?_ <;> intro _))
  refine RS.put (v := .agg #[.int .i64 g, .int .i64 s, .int .i64 m, .int .i64 c]) rfl rfl (op_buildA Tc.out Tc.out (by simp [Value.cells, flat]) (by rfl) (by rfl)) ?_
  repeat' (first | refine stpS ?_ | (refine stp2 ?_ ?_ <;> intro _))
  have hci : i64 c := ⟨by omega, by omega⟩
  have l1 := form_le g hg.1 hg.2
  have l2 := form_le s hs.1 hs.2
  have l3 := form_le m hm.1 hm.2
  have l4 := form_le c hci.1 hci.2
  have hle := headB_le hg hs hm hci
  have hpl := padB_length hg hs hm hci
  refine RC.loop ?_
  refine RL.inv (α := Nat × Option Addr) (fun u => [(22, .int .i64 (u.1 : Nat)), (21, .agg #[.int .i64 g, .int .i64 s, .int .i64 m, .int .i64 c]), (9, .pointer (some ⟨n, 0, none⟩))])
    (fun u n2 h2 => u.1 ≤ 4 ∧ n1 ≤ n2 ∧ Ext n h h2 ∧ WrR h2 n n2 n u.2 ((([g, s, m, c] : List Int).take u.1).flatMap form))
    (fun u => 4 - u.1) (0, none) envs ⟨by omega, Nat.le_refl _, hE1, hW1⟩ ?_
  rintro ⟨i, a⟩ n2 h2 ⟨hi, hn2, hE2, hW2⟩
  dsimp only at hi hn2 hE2 hW2 ⊢
  by_cases hlt : i < 4
  · have hv : ∃ v, ([g, s, m, c] : List Int)[i]? = some v ∧ i64 v ∧ (#[.int .i64 g, .int .i64 s, .int .i64 m, .int .i64 c] : Array Value)[(i : Int).toNat * 1]? = some (.int .i64 v) := by
      rcases (show i = 0 ∨ i = 1 ∨ i = 2 ∨ i = 3 by omega) with rfl | rfl | rfl | rfl
      · exact ⟨g, rfl, hg, rfl⟩
      · exact ⟨s, rfl, hs, rfl⟩
      · exact ⟨m, rfl, hm, rfl⟩
      · exact ⟨c, rfl, hci, rfl⟩
    obtain ⟨v, hv1, hv2, hv3⟩ := hv
    have hvl := form_le v hv2.1 hv2.2
    have hnx : ((([g, s, m, c] : List Int).take (i + 1)).flatMap form) = ((([g, s, m, c] : List Int).take i).flatMap form) ++ form v := by
      obtain ⟨q1, q2⟩ := List.getElem?_eq_some_iff.1 hv1
      rw [List.take_succ_eq_append_getElem q1, List.flatMap_append, q2]; simp
    have hcur : ((([g, s, m, c] : List Int).take i).flatMap form).length ≤ 36 := by
      rcases (show i = 0 ∨ i = 1 ∨ i = 2 ∨ i = 3 by omega) with rfl | rfl | rfl | rfl <;> simp <;> omega
    repeat' (first | refine stpS ?_ | (refine stp2 ?_ ?_ <;> intro _))
    refine RS.put rfl rfl (op_indexA (m := 4) (e := 2) Uc.out Tc.out (Opd.ev opd) (Opd.ev opd) (by omega) (by omega) rfl hv3) ?_
    repeat' (first | refine stpS ?_ | (refine stp2 ?_ ?_ <;> intro _))
    refine RS.call rfl opds (wInt_rf n a _ v hv2.1 hv2.2 n n2 h2 hW2) (fun x hx => .inr (hW2.lo_of x hx)) ?_
    rintro r n3 h3 hle3 ⟨a3, rfl, hW3, hX3, -⟩
    rw [if_pos (by omega)] at hW3 ⊢
    rw [← hnx] at hW3
    repeat' (first | refine stpS ?_ | (refine stp2 ?_ ?_ <;> intro _))
    exact nextC.normal ⟨(i + 1, a3), by dsimp only; omega, envs, by dsimp only; omega, by omega, hE2.viaW hX3 (by omega) hW2.lo_of, hW3⟩
  · obtain rfl : i = 4 := by omega
    have hhd : ((([g, s, m, c] : List Int).take 4).flatMap form) = headB g s m c := by simp [headB]
    rw [hhd] at hW2
    repeat' (first | refine stpS ?_ | (refine stp2 ?_ ?_ <;> intro _))
    have hO0 : OwnSl (h2.app (.new n2 ⟨512, 0, true, 1⟩ (List.replicate 512 (.int .u8 0)))) n2 (n2 + 1) (some ⟨n2, 0, none⟩) 1 512 (bytesV (zeros 512)) := by
      have e9 : List.replicate 512 (Value.int .u8 0) = bytesV (zeros 512) := by unfold zeros bytesV; rw [List.map_replicate]; rfl
      rw [e9]
      exact OwnSl.new1 (Nat.le_refl n2) (by rw [bytesV_length]; exact List.length_replicate) (bytesV_known _)
    obtain ⟨aN, haN⟩ : ∃ aN : Option Addr, aN = some ⟨n2, 0, none⟩ := ⟨_, rfl⟩
    have hs0 : sub aN 0 = aN := by rw [haN]; rfl
    have hsb : sb aN = n2 := by rw [haN]; rfl
    have hne : aN ≠ none := by rw [haN]; simp
    rw [← haN] at hO0 ⊢
    clear haN
    refine RS.gen (fun gh => OwnSl gh n2 (n2 + 1) aN 1 512 (bytesV (zeros 512)) ∧ Ext n2 h2 gh) ⟨hO0, ext⟩ ?_
    clear hO0
    rintro gh ⟨hO, hE3⟩
    refine RS.call rfl opds (wOut_rf n a _ n (n2 + 1) gh (hW2.ext hE3 (Nat.le_succ _))) none'W ?_
    rintro r n3 h3 hle3 ⟨d, rfl, hE4, hO4⟩
    have hO3 := hO.ext hE4 hle3
    refine RS.copyO (i := 0) (k := 512) rfl (by rw [hs0]; exact opd) opd hO3 hO4.slb (by omega) hne (by omega) (.inl (.inr (by omega))) ?_
    intro hO5
    have hsp : splice (zeros 512) 0 (headB g s m c) = padB g s m c ++ zeros 4 := by
      unfold splice padB
      rw [List.take_zero, List.nil_append, Nat.zero_add, List.append_assoc]
      congr 1
      unfold zeros
      rw [List.drop_replicate, List.replicate_append_replicate]
      congr 1; omega
    rw [hsp] at hO5
    have hE5 : Ext n h (h3.app (.sets (sb aN) (so aN + 0) (bytesV (headB g s m c)))) := ((hE2.trans (by omega) hE3).trans (by omega) hE4).appSets (by omega)
    refine RS.gen (fun gh => OwnSl gh n2 n3 aN 1 512 (bytesV (padB g s m c ++ zeros 4)) ∧ Ext n h gh) ⟨hO5, hE5⟩ ?_
    clear hO5 hE5 hO3 hO4 hO
    rintro gh ⟨hO6, hE6⟩
    have hSP : SlB gh n3 aN (padB g s m c) := by
      have h1 := OwnSl.slbE hO6
      have h2 := SlB.take h1 (u := 508) (by rw [List.length_append, hpl]; omega)
      rwa [List.take_append_of_le_length (by omega), List.take_of_length_le (by omega)] at h2
    have hSl : SlI gh aN 1 512 := SlI.of hO6.slr (Ext.refl _ _)
    have hlN : sb aN < n3 := by omega
    repeat' (first | refine stpS ?_ | (refine stp2 ?_ ?_ <;> intro _))
    rw [show (Int.toNat 508) = (padB g s m c).length from hpl.symm]
    refine RS.gen (fun gh => OwnSl gh n2 (n3 + 1) aN 1 512 (bytesV (padB g s m c ++ zeros 4)) ∧ Ext n h gh ∧ SlQ gh (n3 + 1) (some ⟨n3, 0, none⟩) (fun j => (([(aN, padB g s m c)] : List (Option Addr × List UInt8)).getD j (none, [])).1) [padB g s m c]) ⟨hO6.ext ext (Nat.le_succ _), ext, slq_new [(aN, padB g s m c)] (fun x hx => by simp only [List.mem_singleton] at hx; subst hx; exact hSP)⟩ ?_
    clear hO6 hE6 hSP hSl
    rintro gh ⟨hO7, hE7, hQ⟩
    have hsum := sum_ev [padB g s m c] _ _ 1 (n3 + 1) gh hQ rfl (by omega) (by simp; omega)
    rw [show [padB g s m c].flatten = padB g s m c by simp] at hsum
    refine RS.call1 rfl opds hsum none'W ?_
    obtain ⟨z, hz⟩ : ∃ z, z = crc (padB g s m c) := ⟨_, rfl⟩
    have hzl : z < 4294967296 := by rw [hz]; exact crc_lt _
    rw [← hz]
    repeat' (first | refine stpS ?_ | (refine stp2 ?_ ?_ <;> intro _))
    refine RC.loop ?_
    refine RL.inv (α := Nat) (fun i => [(38, .int .i64 (i : Nat)), (12, .slice aN 512 512), (13, .int .u32 (z : Nat))])
      (fun i n4 h4 => i ≤ 4 ∧ n4 = n3 + 1 ∧ Ext n h h4 ∧ OwnSl h4 n2 (n3 + 1) aN 1 512 (bytesV (padB g s m c ++ (little z).take i ++ zeros (4 - i))))
      (fun i => 4 - i) 0 envs ⟨by omega, rfl, hE7, by simpa using hO7⟩ ?_
    rintro i n4 h4 ⟨hi, rfl, hE8, hO8⟩
    by_cases hlt : i < 4
    · obtain ⟨hso, hlo, hhi, hI, hA, -⟩ := hO8.facts (by omega)
      have hlv : ((z >>> (8 * i) : Nat) : Int) % 256 = (((little z).getD i 0).toNat : Nat) := by
        rw [Nat.shiftRight_eq_div_pow]
        rcases (show i = 0 ∨ i = 1 ∨ i = 2 ∨ i = 3 by omega) with rfl | rfl | rfl | rfl <;> simp [little, UInt8.toNat_ofNat'] <;> omega
      have hb : ((little z).getD i 0).toNat < 256 := UInt8.toNat_lt _
      repeat (first | (refine RS.put rfl rfl (o_convM_u8 (Opd.tmp Look.here)) ?_) | refine stpS ?_)
      have hst : (508 + (i : Int)).toNat = 508 + i := by omega
      have hsh : (8 * (i : Int)).toNat = 8 * i := by omega
      simp only [Int.toNat_natCast, hst, hsh, hlv]
      have hset := hO8.set1 (i := 508 + i) (v := .int .u8 (((little z).getD i 0).toNat : Nat)) (by omega) rfl
      have hnx : (bytesV (padB g s m c ++ (little z).take i ++ zeros (4 - i))).set (508 + i) (.int .u8 (((little z).getD i 0).toNat : Nat)) = bytesV (padB g s m c ++ (little z).take (i + 1) ++ zeros (4 - (i + 1))) := by
        rw [Cd.bytesV_set]
        congr 1
        have hll : (little z).length = 4 := rfl
        have h4 : 4 - i = (4 - (i + 1)) + 1 := by omega
        rw [List.take_succ_eq_append_getElem (by omega), h4]
        have hl1 : (padB g s m c ++ (little z).take i).length = 508 + i := by rw [List.length_append, List.length_take]; omega
        show (padB g s m c ++ (little z).take i ++ (0 :: zeros (4 - (i + 1)))).set (508 + i) _ = _
        rw [List.set_append_right _ _ (by omega), hl1, Nat.sub_self, List.set_cons_zero]
        have hg : (little z).getD i 0 = (little z)[i]'(by omega) := by simp [List.getD, show i < (little z).length by omega]
        rw [hg]
        simp only [List.append_assoc, List.cons_append, List.nil_append]
      rw [hnx] at hset
      exact nextC.normal ⟨i + 1, by omega, envs, by omega, rfl, hE8.appSets (by omega), hset⟩
    · obtain rfl : i = 4 := by omega
      have hfin : padB g s m c ++ (little z).take 4 ++ zeros (4 - 4) = markB g s m c := by
        have h1 : (little z).take 4 = little z := rfl
        have h2 : zeros (4 - 4) = [] := rfl
        rw [h1, h2, List.append_nil, hz]; rfl
      rw [hfin] at hO8
      have hml := markB_length hg hs hm hci
      repeat' (first | refine stpS ?_ | (refine stp2 ?_ ?_ <;> intro _))
      exact ⟨aN, by rw [hml], hE8, by rw [hml]; exact hO8.mono (by omega)⟩
end Go.Proofs.YtfbddbpbifnhfaaDoor

/- Contracts of wal: a commit's mark, and what bytes say as one. -/
namespace Go.Proofs.YtfbddbpbifnhfaaDoor
open Go.Abs Cd

/-- What bytes say as a mark: how many, the sum, whether they are one. -/
def mkd (g s : Int) (b : List UInt8) : Int × Int × Bool :=
  let x1 := pI b
  let x2 := pI (b.drop x1.2.1)
  let x3 := pI ((b.drop x1.2.1).drop x2.2.1)
  let x4 := pI (((b.drop x1.2.1).drop x2.2.1).drop x3.2.1)
  if x1.2.2 = 0 ∧ x2.2.2 = 0 ∧ x3.2.2 = 0 ∧ x4.2.2 = 0 ∧ may g ∧ may s ∧ 0 ≤ x3.1 ∧ x3.1 ≤ 262144 ∧ (0 ≤ x4.1 ∧ x4.1 < 4294967296) ∧ b = markB g s x3.1 x4.1 then (x3.1, x4.1, true) else (0, 0, false)
def mkV (x : Int × Int × Bool) : Value := .tuple #[.int .i64 x.1, .int .u32 x.2.1, .bool x.2.2]
set_option maxHeartbeats 4000000 in
theorem marked_ev (g s : Int) (b : List UInt8) (a : Option Addr) (m n : Nat) (h : AH) (S : SlB h n a b) (e : m = b.length) (hm : m ≤ 1073741824) :
    Ev Tryd.prog none' 12 #[.slice a m m, .int .i64 g, .int .i64 s] n h (mkV (mkd g s b)) n h := by
  subst e
  refine RF.pure (by simp [mkV, flat]) fun n' hn => ?_
  have S := S.ext (Ext.refl n h) hn
  refine RF.of Tryd.func12 rfl rfl (Nat.le_of_ble_eq_true rfl) ?_; dsimp only [argEnv]
  repeat' (first | refine stpS ?_ | (refine stp2 ?_ ?_ <;> intro _))
  refine RS.call rfl opds (newReader_rf b a _ n' h S rfl hm) none'W ?_
  rintro r n1 h1 k1 ⟨w, a1, rfl, E1, R1, -⟩
  have hw := R1.lo
  have hT : ∀ x, x = w → none' x ∨ n' ≤ x := fun x hx => by subst hx; exact .inr hw
  repeat' (first | refine stpS ?_ | (refine stp2 ?_ ?_ <;> intro _))
  refine RS.call rfl opds (rInt_rf w a1 b n' n1 h1 R1) hT ?_
  rintro r n2 h2 k2 ⟨rfl, a2, R2, X2, -⟩
  obtain ⟨x1, hx1⟩ : ∃ x, x = pI b := ⟨_, rfl⟩
  rw [← hx1] at R2 ⊢
  repeat' (first | refine stpS ?_ | (refine stp2 ?_ ?_ <;> intro _))
  refine RS.call rfl opds (rInt_rf w a2 _ n' n2 h2 R2) hT ?_
  rintro r n3 h3 k3 ⟨rfl, a3, R3, X3, -⟩
  obtain ⟨x2, hx2⟩ : ∃ x, x = pI (b.drop x1.2.1) := ⟨_, rfl⟩
  rw [← hx2] at R3 ⊢
  repeat' (first | refine stpS ?_ | (refine stp2 ?_ ?_ <;> intro _))
  refine RS.call rfl opds (rInt_rf w a3 _ n' n3 h3 R3) hT ?_
  rintro r n4 h4 k4 ⟨rfl, a4, R4, X4, -⟩
  obtain ⟨x3, hx3⟩ : ∃ x, x = pI ((b.drop x1.2.1).drop x2.2.1) := ⟨_, rfl⟩
  rw [← hx3] at R4 ⊢
  repeat' (first | refine stpS ?_ | (refine stp2 ?_ ?_ <;> intro _))
  refine RS.call rfl opds (rInt_rf w a4 _ n' n4 h4 R4) hT ?_
  rintro r n5 h5 k5 ⟨rfl, a5, R5, X5, -⟩
  obtain ⟨x4, hx4⟩ : ∃ x, x = pI (((b.drop x1.2.1).drop x2.2.1).drop x3.2.1) := ⟨_, rfl⟩
  rw [← hx4] at R5 ⊢
  have hb4 : x4.2.2 = 0 → -9223372036854775808 ≤ x4.1 ∧ x4.1 < 9223372036854775808 := fun q => by
    obtain ⟨p1, p2, -⟩ := pI_ok (n := x4.1) (k := x4.2.1) (by rw [← hx4, ← q])
    exact ⟨p1, p2⟩
  have hb3 : x3.2.2 = 0 → i64 x3.1 := fun q => by
    obtain ⟨p1, p2, -⟩ := pI_ok (n := x3.1) (k := x3.2.1) (by rw [← hx3, ← q])
    exact ⟨p1, p2⟩
  have hS5 : SlB h5 n5 a b := S.ext (E1.trans (by omega) ((((ExtW.refl (· = w) n1 h1).trans X2 (Nat.le_refl _) (fun _ _ k => k)).trans X3 (by omega) (fun _ _ k => k)).trans X4 (by omega) (fun _ _ k => k) |>.trans X5 (by omega) (fun _ _ k => k) |>.extM (m := n') (by omega) (fun b hb => by omega))) (by omega : n' ≤ n5)
  have hD : mkd g s b = if x1.2.2 = 0 ∧ x2.2.2 = 0 ∧ x3.2.2 = 0 ∧ x4.2.2 = 0 ∧ may g ∧ may s ∧ 0 ≤ x3.1 ∧ x3.1 ≤ 262144 ∧ (0 ≤ x4.1 ∧ x4.1 < 4294967296) ∧ b = markB g s x3.1 x4.1 then (x3.1, x4.1, true) else (0, 0, false) := by
    unfold mkd; simp only [← hx1, ← hx2, ← hx3, ← hx4]
  clear hx1 hx2 hx3 hx4 R1 R2 R3 R4 R5 X2 X3 X4 X5
  have mg := may_ev g n5 h5
  have ms := may_ev s n5 h5
  by_cases p1 : x1.2.2 = 0
  rotate_left
  · have hD : mkd g s b = (0, 0, false) := by rw [hD, if_neg]; rintro ⟨z1, z2, z3, z4, zg, zs, y1, y2, y3, -⟩; exact p1 z1
    repeat' (first | refine stpS ?_ | (refine stp2 ?_ ?_ <;> intro _))
    all_goals (rw [hD]; rfl)
  by_cases p2 : x2.2.2 = 0
  rotate_left
  · have hD : mkd g s b = (0, 0, false) := by rw [hD, if_neg]; rintro ⟨z1, z2, z3, z4, zg, zs, y1, y2, y3, -⟩; exact p2 z2
    repeat' (first | refine stpS ?_ | (refine stp2 ?_ ?_ <;> intro _))
    all_goals (rw [hD]; rfl)
  by_cases p3 : x3.2.2 = 0
  rotate_left
  · have hD : mkd g s b = (0, 0, false) := by rw [hD, if_neg]; rintro ⟨z1, z2, z3, z4, zg, zs, y1, y2, y3, -⟩; exact p3 z3
    repeat' (first | refine stpS ?_ | (refine stp2 ?_ ?_ <;> intro _))
    all_goals (rw [hD]; rfl)
  by_cases p4 : x4.2.2 = 0
  rotate_left
  · have hD : mkd g s b = (0, 0, false) := by rw [hD, if_neg]; rintro ⟨z1, z2, z3, z4, zg, zs, y1, y2, y3, -⟩; exact p4 z4
    repeat' (first | refine stpS ?_ | (refine stp2 ?_ ?_ <;> intro _))
    all_goals (rw [hD]; rfl)
  by_cases pg : may g
  rotate_left
  · have hD : mkd g s b = (0, 0, false) := by rw [hD, if_neg]; rintro ⟨z1, z2, z3, z4, zg, zs, y1, y2, y3, -⟩; exact pg zg
    rw [decide_eq_false pg] at mg
    repeat' (first | refine stpS ?_ | (refine stp2 ?_ ?_ <;> intro _) | refine RS.call1 rfl opds (mg) none'W ?_ | refine RS.call1 rfl opds (ms) none'W ?_)
    all_goals (rw [hD]; rfl)
  rw [decide_eq_true pg] at mg
  by_cases ps : may s
  rotate_left
  · have hD : mkd g s b = (0, 0, false) := by rw [hD, if_neg]; rintro ⟨z1, z2, z3, z4, zg, zs, y1, y2, y3, -⟩; exact ps zs
    rw [decide_eq_false ps] at ms
    repeat' (first | refine stpS ?_ | (refine stp2 ?_ ?_ <;> intro _) | refine RS.call1 rfl opds (mg) none'W ?_ | refine RS.call1 rfl opds (ms) none'W ?_)
    all_goals (rw [hD]; rfl)
  rw [decide_eq_true ps] at ms
  by_cases q1 : 0 ≤ x3.1
  rotate_left
  · have hD : mkd g s b = (0, 0, false) := by rw [hD, if_neg]; rintro ⟨z1, z2, z3, z4, zg, zs, y1, y2, y3, -⟩; exact q1 y1
    repeat' (first | refine stpS ?_ | (refine stp2 ?_ ?_ <;> intro _) | refine RS.call1 rfl opds (mg) none'W ?_ | refine RS.call1 rfl opds (ms) none'W ?_)
    all_goals (rw [hD]; rfl)
  by_cases q2 : x3.1 ≤ 262144
  rotate_left
  · have hD : mkd g s b = (0, 0, false) := by rw [hD, if_neg]; rintro ⟨z1, z2, z3, z4, zg, zs, y1, y2, y3, -⟩; exact q2 y2
    repeat' (first | refine stpS ?_ | (refine stp2 ?_ ?_ <;> intro _) | refine RS.call1 rfl opds (mg) none'W ?_ | refine RS.call1 rfl opds (ms) none'W ?_)
    all_goals (rw [hD]; rfl)
  have hb4 := hb4 p4
  by_cases q3 : 0 ≤ x4.1 ∧ x4.1 < 4294967296
  rotate_left
  · have hD : mkd g s b = (0, 0, false) := by rw [hD, if_neg]; rintro ⟨z1, z2, z3, z4, zg, zs, y1, y2, y3, -⟩; exact q3 y3
    repeat (first | (refine RS.put rfl rfl (o_convM_u32 (Opd.tmp Look.here)) ?_) | (refine RS.decF rfl rfl (o_eql (a := x4.1) (b := x4.1 % 4294967296) opd opd) (by omega) ?_) | refine stpS ?_ | refine RS.call1 rfl opds mg none'W ?_ | refine RS.call1 rfl opds ms none'W ?_)
    all_goals (rw [hD]; rfl)
  repeat' (first | refine stpS ?_ | (refine stp2 ?_ ?_ <;> intro _))
  refine RS.call1 rfl opds mg none'W ?_
  repeat' (first | refine stpS ?_ | (refine stp2 ?_ ?_ <;> intro _))
  refine RS.call1 rfl opds ms none'W ?_
  repeat (first | (refine RS.put rfl rfl (o_conv_u32 (a := x4.1) (Opd.tmp Look.here) q3.1 q3.2) ?_) | refine stpS ?_)
  have hg := pg.i64
  have hs := ps.i64
  have hm3 : i64 x3.1 := ⟨by omega, by omega⟩
  refine RS.call rfl opds (sector_rf g s x3.1 x4.1 hg hs hm3 q3.1 q3.2 n5 h5) none'W ?_
  rintro r n6 h6 k6 ⟨a6, rfl, E6, O6⟩
  have heq := equal_ev b (markB g s x3.1 x4.1) a a6 _ _ n6 h6 (SlR.ext hS5 E6 k6) O6.slb rfl rfl
  by_cases hbm : b = markB g s x3.1 x4.1
  · have hD : mkd g s b = (x3.1, x4.1, true) := by rw [hD, if_pos]; exact ⟨p1, p2, p3, p4, pg, ps, q1, q2, q3, hbm⟩
    rw [decide_eq_true hbm] at heq
    refine RS.call1 rfl opds heq none'W ?_
    repeat (first | (refine RS.put rfl rfl (o_conv_u32 (a := x4.1) (Opd.tmp Look.here) q3.1 q3.2) ?_) | refine stpS ?_)
    rw [hD]; rfl
  · have hD : mkd g s b = (0, 0, false) := by rw [hD, if_neg]; rintro ⟨-, -, -, -, -, -, -, -, -, z⟩; exact hbm z
    rw [decide_eq_false hbm] at heq
    refine RS.call1 rfl opds heq none'W ?_
    repeat' (first | refine stpS ?_ | (refine stp2 ?_ ?_ <;> intro _))
    rw [hD]; rfl
end Go.Proofs.YtfbddbpbifnhfaaDoor

/- Contracts of the document: what bytes say as a commit's mark. -/
namespace Go.Proofs.YtfbddbpbifnhfaaDoor
open Go.Abs Cd

def atN (b : List UInt8) : Nat → Nat
  | 0 => 0
  | i + 1 => atN b i + (pI (b.drop (atN b i))).2.1
def xN (b : List UInt8) (i : Nat) : Int × Nat × Nat := pI (b.drop (atN b i))
theorem atN_le (b : List UInt8) (i : Nat) : atN b i ≤ b.length := by
  induction i with
  | zero => exact Nat.zero_le _
  | succ i ih =>
    have := pI_k (b.drop (atN b i))
    rw [List.length_drop] at this
    show atN b i + _ ≤ _
    omega
theorem mkd_N (g s : Int) (b : List UInt8) : mkd g s b = if (xN b 0).2.2 = 0 ∧ (xN b 1).2.2 = 0 ∧ (xN b 2).2.2 = 0 ∧ (xN b 3).2.2 = 0 ∧ may g ∧ may s ∧ 0 ≤ (xN b 2).1 ∧ (xN b 2).1 ≤ 262144 ∧ (0 ≤ (xN b 3).1 ∧ (xN b 3).1 < 4294967296) ∧ b = markB g s (xN b 2).1 (xN b 3).1 then ((xN b 2).1, (xN b 3).1, true) else (0, 0, false) := by
  have h0 : xN b 0 = pI b := rfl
  have h1 : xN b 1 = pI (b.drop (pI b).2.1) := by
    show pI (b.drop (0 + (pI (b.drop 0)).2.1)) = _
    rw [Nat.zero_add, List.drop_zero]
  have h2 : xN b 2 = pI ((b.drop (pI b).2.1).drop (pI (b.drop (pI b).2.1)).2.1) := by
    rw [← h1]
    show pI (b.drop (atN b 1 + (xN b 1).2.1)) = _
    rw [← List.drop_drop]
    congr 2
    show b.drop (0 + (pI (b.drop 0)).2.1) = _
    rw [Nat.zero_add, List.drop_zero]
  have h3 : xN b 3 = pI (((b.drop (pI b).2.1).drop (pI (b.drop (pI b).2.1)).2.1).drop (pI ((b.drop (pI b).2.1).drop (pI (b.drop (pI b).2.1)).2.1)).2.1) := by
    rw [← h2, ← h1]
    show pI (b.drop (atN b 2 + (xN b 2).2.1)) = _
    rw [← List.drop_drop]
    congr 2
    show b.drop (atN b 1 + (xN b 1).2.1) = _
    rw [← List.drop_drop]
    congr 1
    show b.drop (0 + (pI (b.drop 0)).2.1) = _
    rw [Nat.zero_add, List.drop_zero]
  unfold mkd
  rw [h3, h2, h1, h0]
set_option maxHeartbeats 4000000 in
theorem refMarked_ev (g s : Int) (b : List UInt8) (a : Option Addr) (m n : Nat) (h : AH) (S : SlB h n a b) (e : m = b.length) (hm : m ≤ 1073741824) :
    Ev Tryd.prog none' 13 #[.slice a m m, .int .i64 g, .int .i64 s] n h (mkV (mkd g s b)) n h := by
  subst e
  refine RF.pure (by simp [mkV, flat]) fun n' hn => ?_
  have S := S.ext (Ext.refl n h) hn
  refine RF.of Tryd.func13 rfl rfl (Nat.le_of_ble_eq_true rfl) ?_; dsimp only [argEnv]
  have mg := refMay_ev g n' h
  have ms := refMay_ev s n' h
  have hD := mkd_N g s b
  by_cases hlen : b.length = 512
  rotate_left
  · have hD : mkd g s b = (0, 0, false) := by
      rw [hD, if_neg]
      rintro ⟨z1, z2, z3, z4, zg, zs, y1, y2, y3, y4⟩
      refine hlen ?_
      rw [y4, markB_length zg.i64 zs.i64 ⟨by omega, by omega⟩ ⟨by omega, by omega⟩]
    repeat' (first | refine stpS ?_ | (refine stp2 ?_ ?_ <;> intro _))
    rw [hD]; rfl
  by_cases pg : may g
  rotate_left
  · have hD : mkd g s b = (0, 0, false) := by rw [hD, if_neg]; rintro ⟨z1, z2, z3, z4, zg, -⟩; exact pg zg
    rw [decide_eq_false pg] at mg
    repeat' (first | refine stpS ?_ | (refine stp2 ?_ ?_ <;> intro _))
    refine RS.call1 rfl opds mg none'W ?_
    repeat' (first | refine stpS ?_ | (refine stp2 ?_ ?_ <;> intro _))
    rw [hD]; rfl
  rw [decide_eq_true pg] at mg
  by_cases ps : may s
  rotate_left
  · have hD : mkd g s b = (0, 0, false) := by rw [hD, if_neg]; rintro ⟨z1, z2, z3, z4, zg, zs, -⟩; exact ps zs
    rw [decide_eq_false ps] at ms
    repeat' (first | refine stpS ?_ | (refine stp2 ?_ ?_ <;> intro _))
    refine RS.call1 rfl opds mg none'W ?_
    repeat' (first | refine stpS ?_ | (refine stp2 ?_ ?_ <;> intro _))
    refine RS.call1 rfl opds ms none'W ?_
    repeat' (first | refine stpS ?_ | (refine stp2 ?_ ?_ <;> intro _))
    rw [hD]; rfl
  rw [decide_eq_true ps] at ms
  repeat' (first | refine stpS ?_ | (refine stp2 ?_ ?_ <;> intro _))
  refine RS.call1 rfl opds mg none'W ?_
  repeat' (first | refine stpS ?_ | (refine stp2 ?_ ?_ <;> intro _))
  refine RS.call1 rfl opds ms none'W ?_
  repeat' (first | refine stpS ?_ | (refine stp2 ?_ ?_ <;> intro _))
  refine RC.loop ?_
  refine RL.inv (α := Nat) (fun i => [(11, .int .i64 (i : Nat)), (9, .int .i64 (atN b i : Nat)), (10, .pointer (some ⟨n', 0, none⟩)), (0, .slice a b.length b.length), (0 + 1, .int .i64 g), (0 + 1 + 1, .int .i64 s)])
    (fun i n1 h1 => i ≤ 4 ∧ n' < n1 ∧ Ext n' h h1 ∧ h1.info n' = some ⟨4, 0, true, 0⟩ ∧ ∀ j, j < i → h1.cell n' j = .int .i64 (xN b j).1 ∧ (xN b j).2.2 = 0)
    (fun i => 4 - i) 0 envs ⟨by omega, by omega, ext, info, fun j hj => by omega⟩ ?_
  rintro i n1 h1 ⟨hi, hn1, hE, hI, hC⟩
  have hS1 : SlB h1 n1 a b := SlR.ext S hE (by omega)
  have hal := atN_le b i
  by_cases hlt : i < 4
  · have hSd : SlB h1 n1 (sub a (atN b i)) (b.drop (atN b i)) := by
      have := SlB.cut hS1 hal (Nat.le_refl _)
      rwa [List.take_length] at this
    have hpi := parseInt_ev (b.drop (atN b i)) (sub a (atN b i)) (b.length - atN b i) n1 h1 hSd (by rw [List.length_drop]) (by omega)
    rw [show pI (b.drop (atN b i)) = xN b i from rfl] at hpi
    unfold pIV at hpi
    have hat : atN b (i + 1) = atN b i + (xN b i).2.1 := rfl
    have hal2 := atN_le b (i + 1)
    rw [hat] at hal2
    repeat' (first | refine stpS ?_ | (refine stp2 ?_ ?_ <;> intro _))
    rw [Int.toNat_natCast]
    refine RS.call1 rfl opds hpi none'W ?_
    by_cases he : (xN b i).2.2 = 0
    · repeat' (first | refine stpS ?_ | (refine stp2 ?_ ?_ <;> intro _))
      refine nextC.normal ⟨i + 1, by omega, ?_, by omega, hn1, hE.appSets (Nat.le_refl _), i_sets hI, fun j hj => ?_⟩
      · rw [hat, show ((atN b i + (xN b i).2.1 : Nat) : Int) = (atN b i : Int) + ((xN b i).2.1 : Nat) by omega, show ((i + 1 : Nat) : Int) = (i : Int) + 1 by omega]
        exact envs
      · by_cases q : j = i
        · subst q
          exact ⟨c_in (by omega) (by simp), he⟩
        · obtain ⟨q1, q2⟩ := hC j (by omega)
          exact ⟨c_out (by right; left; omega) q1, q2⟩
    · have hD : mkd g s b = (0, 0, false) := by
        rw [hD, if_neg]
        rintro ⟨z1, z2, z3, z4, -⟩
        rcases (show i = 0 ∨ i = 1 ∨ i = 2 ∨ i = 3 by omega) with rfl | rfl | rfl | rfl
        · exact he z1
        · exact he z2
        · exact he z3
        · exact he z4
      repeat' (first | refine stpS ?_ | (refine stp2 ?_ ?_ <;> intro _))
      rw [hD]; rfl
  · obtain rfl : i = 4 := by omega
    obtain ⟨c0, e0⟩ := hC 0 (by omega)
    obtain ⟨c1, e1⟩ := hC 1 (by omega)
    obtain ⟨c2, e2⟩ := hC 2 (by omega)
    obtain ⟨c3, e3⟩ := hC 3 (by omega)
    have hm2 : i64 (xN b 2).1 := by
      obtain ⟨p1, p2, -⟩ := pI_ok (b := b.drop (atN b 2)) (n := (xN b 2).1) (k := (xN b 2).2.1) (by rw [← e2]; rfl)
      exact ⟨p1, p2⟩
    obtain ⟨x2, hx2⟩ : ∃ x, x = (xN b 2).1 := ⟨_, rfl⟩
    obtain ⟨x3, hx3⟩ : ∃ x, x = (xN b 3).1 := ⟨_, rfl⟩
    rw [← hx2] at c2 hm2
    rw [← hx3] at c3
    have hD : mkd g s b = if 0 ≤ x2 ∧ x2 ≤ 262144 ∧ (0 ≤ x3 ∧ x3 < 4294967296) ∧ b = markB g s x2 x3 then (x2, x3, true) else (0, 0, false) := by
      rw [hD, ← hx2, ← hx3]
      simp only [e0, e1, e2, e3, pg, ps, true_and]
    by_cases q : 0 ≤ x2 ∧ x2 ≤ 262144 ∧ 0 ≤ x3 ∧ x3 < 4294967296
    · obtain ⟨q1, q2, q3, q4⟩ := q
      repeat' (first | refine stp ?_ | (refine stp2 ?_ ?_ <;> intro _))
      refine RD.call n1 rfl opds (refmark_rf g s x2 x3 pg.i64 ps.i64 hm2 q3 q4 n1 (h1.below n1)) (Nat.le_refl _) cfc ?_
      rintro r n2 h2 k2 ⟨a2, rfl, E2, O2⟩
      have E2 : Ext n1 h1 h2 := E2.via (Nat.le_refl _) (AH.below_ext h1 n1)
      have hSm := O2.slb
      have hSb := SlR.ext hS1 E2 k2
      have c2 := c_ext E2 hn1 c2
      have c3 := c_ext E2 hn1 c3
      have hn2 : n' < n2 := by omega
      have hsa : sb a < n' := SlR.lt S (by omega)
      have hsa1 : sb a < n1 := by omega
      by_cases hbm : b = markB g s x2 x3
      · have hD : mkd g s b = (x2, x3, true) := by rw [hD, if_pos]; exact ⟨q1, q2, ⟨q3, q4⟩, hbm⟩
        rw [hD]
        rw [← hbm] at hSm ⊢
        repeat' (first | refine stp ?_ | (refine stp2 ?_ ?_ <;> intro _))
        · rename_i q; exact absurd rfl q
        · rfl
      · have hD : mkd g s b = (0, 0, false) := by rw [hD, if_neg]; rintro ⟨-, -, -, z⟩; exact hbm z
        have hs2 : (⟨(markB g s x2 x3).toArray⟩ : ByteArray) ≠ ⟨b.toArray⟩ := fun e => hbm (by injection e with e; simpa using (congrArg Array.toList e).symm)
        repeat' (first | refine stp ?_ | (refine stp2 ?_ ?_ <;> intro _))
        rw [hD]; rfl
    · have hD : mkd g s b = (0, 0, false) := by rw [hD, if_neg]; rintro ⟨y1, y2, y3, -⟩; exact q ⟨y1, y2, y3⟩
      repeat' (first | refine stpS ?_ | (refine stp2 ?_ ?_ <;> intro _))
      all_goals (first | (rw [hD]; rfl) | (exfalso; omega))
end Go.Proofs.YtfbddbpbifnhfaaDoor

/- Contracts of wal: whole sectors, and records in memory of one's own. -/
namespace Go.Proofs.YtfbddbpbifnhfaaDoor
open Go.Abs Cd

def fillB (l : List UInt8) : List UInt8 := l ++ zeros ((l.length + 511) / 512 * 512 - l.length)
theorem fillB_length (l : List UInt8) : (fillB l).length = (l.length + 511) / 512 * 512 := by
  unfold fillB zeros
  rw [List.length_append, List.length_replicate]
  omega
set_option maxHeartbeats 4000000 in
theorem filled_rf (l : List UInt8) (a : Option Addr) (m n : Nat) (h : AH) (S : SlB h n a l) (e : m = l.length) (hm : m ≤ 1073741824) :
    RF Tryd.prog none' 47 #[.slice a m m] n h (Row (fillB l) n h) := by
  subst e
  refine RF.of Tryd.func47 rfl rfl (Nat.le_of_ble_eq_true rfl) ?_; dsimp only [argEnv]
  have hfl := fillB_length l
  repeat' (first | refine stpS ?_ | (refine stp2 ?_ ?_ <;> intro _))
  obtain ⟨k, hk⟩ : ∃ k, k = (l.length + 511) / 512 * 512 := ⟨_, rfl⟩
  have hk1 : l.length ≤ k := by omega
  have e1 : (((l.length : Int) + 512 - 1) / 512 * 512).toNat = k := by omega
  rw [e1]
  rw [← hk] at hfl
  have hO0 : OwnSl (h.app (.new n ⟨k, 0, true, 1⟩ (List.replicate k (.int .u8 0)))) n (n + 1) (some ⟨n, 0, none⟩) 1 k (bytesV (zeros k)) := by
    have e9 : List.replicate k (Value.int .u8 0) = bytesV (zeros k) := by unfold zeros bytesV; rw [List.map_replicate]; rfl
    rw [e9]
    exact OwnSl.new1 (Nat.le_refl n) (by rw [bytesV_length]; exact List.length_replicate) (bytesV_known _)
  obtain ⟨aN, haN⟩ : ∃ aN : Option Addr, aN = some ⟨n, 0, none⟩ := ⟨_, rfl⟩
  have hs0 : sub aN 0 = aN := by rw [haN]; rfl
  have hsb : sb aN = n := by rw [haN]; rfl
  have hne : aN ≠ none := by rw [haN]; simp
  rw [← haN] at hO0 ⊢
  clear haN
  refine RS.gen (fun gh => OwnSl gh n (n + 1) aN 1 k (bytesV (zeros k)) ∧ Ext n h gh) ⟨hO0, ext⟩ ?_
  clear hO0
  rintro gh ⟨hO, hE3⟩
  refine RS.copyO (i := 0) (k := k) rfl (by rw [hs0]; exact opd) opd hO (S.ext hE3 (Nat.le_succ n)) (by omega) hne hk1 (.inl (.inr (by omega))) ?_
  intro hO5
  have hsp : splice (zeros k) 0 l = fillB l := by
    unfold splice fillB
    rw [List.take_zero, List.nil_append, Nat.zero_add, ← hk]
    unfold zeros
    rw [List.drop_replicate]
  rw [hsp] at hO5
  repeat' (first | refine stpS ?_ | (refine stp2 ?_ ?_ <;> intro _))
  rw [← hfl] at hO5 ⊢
  exact ⟨aN, rfl, hE3.appSets (by omega), hO5⟩
/-- The values of a row of rows. -/
def valsQ (ad : Nat → Option Addr) (ls : List (List UInt8)) : List (List Value) := (List.range ls.length).map fun j => [rowsF ad ls j]
set_option maxHeartbeats 4000000 in
theorem values1_iter (b1 : Nat) (a : Option Addr) (ad : Nat → Option Addr) (ls : List (List UInt8)) (hl : ls.length ≤ 1099511627776) :
    IterF Tryd.prog 81 [.pointer (some ⟨b1, 0, none⟩)] (valsQ ad ls) (fun n h => b1 < n ∧ h.cell b1 0 = .slice a ls.length ls.length ∧ SlQ h n a ad ls) := by
  intro W fv I D n h it hK h0 hn
  refine RF.of Tryd.func81 rfl rfl (Nat.le_of_ble_eq_true rfl) ?_; dsimp only [argEnv]
  obtain ⟨p1, p2, p3⟩ := hK 0 n h h0
  repeat' (first | refine stpS ?_ | (refine stp2 ?_ ?_ <;> intro _))
  refine RC.loop ?_
  refine RL.inv (α := Nat) (fun s => [(7, .int .i64 (s : Nat)), (6, .int .i64 (ls.length : Nat)), (5, .slice a ls.length ls.length), (0, fv)])
    (fun s n1 h1 => s ≤ ls.length ∧ n ≤ n1 ∧ I s n1 h1) (fun s => ls.length - s) 0 envs ⟨Nat.zero_le _, Nat.le_refl _, h0⟩ ?_
  rintro k n1 h1 ⟨hk, hn1, hI⟩
  obtain ⟨q1, q2, q3⟩ := hK k n1 h1 hI
  have hout := q3.out
  by_cases hlt : k < ls.length
  · have hv : (valsQ ad ls)[k]? = some [rowsF ad ls k] := by simp [valsQ, List.getElem?_range hlt]
    have hval := it.step k _ n1 h1 hv hI
    unfold rowsF at hval
    repeat' (first | refine stpS ?_ | (refine stp2 ?_ ?_ <;> intro _))
    refine RS.callV rfl opd opds hval (fun b hb => .inl hb) ?_
    rintro r n2 h2 hle (⟨rfl, hI2⟩ | ⟨rfl, hD⟩)
    · repeat' (first | refine stpS ?_ | (refine stp2 ?_ ?_ <;> intro _))
      exact nextC.normal ⟨k + 1, by omega, envs, by omega, by omega, hI2⟩
    · repeat' (first | refine stpS ?_ | (refine stp2 ?_ ?_ <;> intro _))
      exact .inr hD
  · obtain rfl : k = ls.length := by omega
    repeat' (first | refine stpS ?_ | (refine stp2 ?_ ?_ <;> intro _))
    rw [show (valsQ ad ls).length = ls.length by simp [valsQ]]
    exact .inl hI
/-- Rows of one's own, where they lie. -/
def cmL (M : List (Option Addr × List UInt8)) : List RowO := M.map fun x => (x.1, x.2.length, bytesV x.2)
def Cm (h : AH) (n0 n : Nat) (a : Option Addr) (M : List (Option Addr × List UInt8)) : Prop := OwnRR h n0 n0 n a 1 (cmL M)
theorem Cm.slq {h : AH} {n0 n : Nat} {a : Option Addr} {M : List (Option Addr × List UInt8)} (c : Cm h n0 n a M) : SlQ h n a (fun j => (M.getD j (none, [])).1) (M.map (·.2)) := by
  have hg : ∀ j, j < M.length → ∃ x, M[j]? = some x ∧ (cmL M)[j]? = some (x.1, x.2.length, bytesV x.2) := fun j hj => by
    refine ⟨M[j], List.getElem?_eq_getElem hj, ?_⟩
    unfold cmL
    rw [List.getElem?_map, List.getElem?_eq_getElem hj]; rfl
  refine ⟨?_, fun j hj => ?_⟩
  · have := OwnSl.slr c.out
    rw [show (cmL M).length = (M.map (·.2)).length by simp [cmL]] at this
    refine this.congr fun j hj => ?_
    rw [List.length_map, Nat.mul_one] at hj
    obtain ⟨x, h1, h2⟩ := hg j hj
    simp [rowsF, List.getD, List.getElem?_map, h1, h2, RowO.v]
  · rw [List.length_map] at hj
    obtain ⟨x, h1, h2⟩ := hg j hj
    have := OwnSl.slbE (c.inn j _ h2)
    simpa [List.getD, List.getElem?_map, h1] using this
end Go.Proofs.YtfbddbpbifnhfaaDoor

/- Contracts of wal: records copied. -/
namespace Go.Proofs.YtfbddbpbifnhfaaDoor
open Go.Abs Cd

set_option maxHeartbeats 4000000 in
theorem values_rf (ad : Nat → Option Addr) (ls : List (List UInt8)) (a : Option Addr) (n : Nat) (h : AH) (S : SlQ h n a ad ls) :
    RF Tryd.prog none' 72 #[.slice a ls.length ls.length] n h (fun r n' h' => r = .func (.func 81) #[] #[.pointer (some ⟨n, 0, none⟩)] ∧ n' = n + 1 ∧ Ext n h h' ∧ h'.cell n 0 = .slice a ls.length ls.length) := by
  refine RF.of Tryd.func72 rfl rfl (Nat.le_of_ble_eq_true rfl) ?_; dsimp only [argEnv]
  repeat' (first | refine stpS ?_ | (refine stp2 ?_ ?_ <;> intro _))
  exact ⟨rfl, rfl, ext, cell⟩
theorem extW_own {h h1 : AH} {n0 n m k nn : Nat} {a : Option Addr} {cs : List Value} {W : Nat → Prop} (o : OwnSl h n0 n a m k cs) (E : ExtW W nn h h1) (hn : n ≤ nn) (hW : ∀ b, n0 ≤ b → b < n → ¬ W b) : OwnSl h1 n0 n a m k cs :=
  o.extW E (Nat.le_refl _) hn fun q => hW _ (o.at'.resolve_left q).1 (o.at'.resolve_left q).2
theorem cmL_length (M : List (Option Addr × List UInt8)) : (cmL M).length = M.length := by simp [cmL]
theorem cmL_snoc (M : List (Option Addr × List UInt8)) (x : Option Addr × List UInt8) : cmL (M ++ [x]) = cmL M ++ [(x.1, x.2.length, bytesV x.2)] := by simp [cmL]
theorem cmL_at {M : List (Option Addr × List UInt8)} {i : Nat} {e : RowO} (h : (cmL M)[i]? = some e) : ∃ x, M[i]? = some x ∧ e = (x.1, x.2.length, bytesV x.2) := by
  unfold cmL at h
  rw [List.getElem?_map] at h
  obtain ⟨x, h1, h2⟩ := Option.map_eq_some_iff.1 h
  exact ⟨x, h1, h2.symm⟩
set_option maxHeartbeats 4000000 in
theorem own_rf (ls : List (List UInt8)) (ad : Nat → Option Addr) (a : Option Addr) (m n : Nat) (h : AH) (S : SlQ h n a ad ls) (e : m = ls.length) (hm : m ≤ 1099511627776) (hl : ∀ l ∈ ls, l.length ≤ 1099511627776) (hn : 0 < n) :
    RF Tryd.prog none' 48 #[.slice a m m] n h (fun r n' h' => ∃ a' M, r = .slice a' m m ∧ Ext n h h' ∧ Cm h' n n' a' M ∧ M.map (·.2) = ls) := by
  subst e
  refine RF.of Tryd.func48 rfl rfl (Nat.le_of_ble_eq_true rfl) ?_; dsimp only [argEnv]
  repeat' (first | refine stpS ?_ | (refine stp2 ?_ ?_ <;> intro _))
  refine RS.gen (fun g => Ext n h g ∧ g.info n = some ⟨1, 0, true, 0⟩ ∧ g.cell n 0 = .slice none 0 0) ⟨ext, info, cell⟩ ?_
  rintro g ⟨E0, i0, c0⟩
  refine RS.call rfl opds (values_rf ad ls a (n + 1) g (S.ext E0 (Nat.le_succ n))) none'W ?_
  rintro r n1 h1 k1 ⟨rfl, rfl, E1, cv⟩
  have E1' : Ext n h h1 := E0.trans (Nat.le_succ n) E1
  have c1 := c_ext E1 (Nat.lt_succ_self n) c0
  have i1 := (E1.info n (Nat.lt_succ_self n)).trans i0
  have S1 := S.ext E1' (by omega : n ≤ n + 1 + 1)
  repeat' (first | refine stpS ?_ | (refine stp2 ?_ ?_ <;> intro _))
  refine RC.rangeFunc opd (env0 := [(3, .pointer (some ⟨n, 0, none⟩))]) envs (W := fun b => b = n ∨ n + 1 + 1 ≤ b) (by intro b hb; first | omega | (dsimp only at hb ⊢; omega) | (dsimp only at hb; omega) | (dsimp only; omega)) ?_
  intro A hA
  have hvl : (valsQ ad ls).length = ls.length := by simp [valsQ]
  refine (values1_iter (n + 1) a ad ls hm _ _
    (fun k n6 h6 => n + 1 + 1 + 1 ≤ n6 ∧ ExtW (fun b => b = n ∨ b = n + 1 + 1) (n + 1 + 1 + 1) (h1.app (.obj (n + 1 + 1) (.loop A))) h6 ∧ h6.info (n + 1 + 1) = some (AObj.loop A).m ∧ h6.info n = some ⟨1, 0, true, 0⟩ ∧ k ≤ ls.length ∧
      ∃ s M, h6.cell n 0 = .slice s k k ∧ Cm h6 (n + 1 + 1 + 1) n6 s M ∧ M.map (·.2) = ls.take k)
    (fun _ _ => False) _ _ ⟨?_, ?_⟩ ?_ ?_ (by omega)).mono ?_
  · rintro k n6 h6 n7 h7 ⟨q1, q2, q3, q4, q5, s, M, q6, q7, q8⟩ hn hE
    exact ⟨by omega, extW, (hE.info _ (by omega)).trans q3, (hE.info _ (by omega)).trans q4, q5, s, M, c_ext hE (by omega) q6, OwnRR.ext q7 hE hn, q8⟩
  · rintro k vs n6 h6 hv ⟨q1, q2, q3, q4, q5, s, M, q6, q7, q8⟩
    have hkl : k < ls.length := by
      have := (List.getElem?_eq_some_iff.1 hv).1
      rwa [hvl] at this
    have hvs : vs = [rowsF ad ls k] := by
      simp only [valsQ, List.getElem?_map, List.getElem?_range hkl, Option.map_some, Option.some.injEq] at hv
      exact hv.symm
    subst hvs
    have hMl : M.length = k := by have := congrArg List.length q8; simp at this; omega
    have hlk : (ls.getD k []).length ≤ 1099511627776 := hl _ (by simp [List.getD, List.getElem?_eq_getElem hkl])
    have htk : ls.take (k + 1) = ls.take k ++ [ls.getD k []] := by rw [List.take_succ_eq_append_getElem hkl]; simp [List.getD, hkl]
    have EW : ExtW (fun b => b = n ∨ b = n + 1 + 1) (n + 1 + 1) h1 (h6.app (.obj (n + 1 + 1) (.loop A.busy))) := extW
    have E6 : Ext n h (h6.app (.obj (n + 1 + 1) (.loop A.busy))) := E1'.trans (by omega) (EW.extM (by omega : n ≤ n + 1 + 1) (fun b q => by omega))
    have hrow := (S.ext E6 (by omega : n ≤ n6)).row k hkl
    have kj : (h6.app (.obj (n + 1 + 1) (.loop A.busy))).info n = some ⟨1, 0, true, 0⟩ := i_obj_ne (by omega) q4
    have ko : (h6.app (.obj (n + 1 + 1) (.loop A.busy))).info (n + 1 + 1) = some (AObj.loop A.busy).m := i_obj
    have kc : (h6.app (.obj (n + 1 + 1) (.loop A.busy))).cell n 0 = .slice s k k := c_obj q6
    have kM : Cm (h6.app (.obj (n + 1 + 1) (.loop A.busy))) (n + 1 + 1 + 1) n6 s M := by
      have e : ExtW (fun b => b = n + 1 + 1) n6 h6 (h6.app (.obj (n + 1 + 1) (.loop A.busy))) := ExtW.appObj (.inl rfl) (ExtW.refl _ _ _)
      exact ⟨extW_own q7.out e (Nat.le_refl _) (fun b z1 z2 z3 => by have : b = n + 1 + 1 := z3; omega), fun i x hx => extW_own (q7.inn i x hx) e (Nat.le_refl _) (fun b z1 z2 z3 => by have : b = n + 1 + 1 := z3; omega), q7.sep, q7.dis⟩
    have EW2 : ExtW (fun b => b = n ∨ b = n + 1 + 1) (n + 1 + 1 + 1) (h1.app (.obj (n + 1 + 1) (.loop A))) (h6.app (.obj (n + 1 + 1) (.loop A.busy))) := extW
    refine VF.yield1 hA q3 rfl (.inr (Nat.le_refl _)) (by omega) ?_
    unfold rowsF
    repeat' (first | refine stpS ?_ | (refine stp2 ?_ ?_ <;> intro _))
    repeat' (first | refine stp ?_ | (refine stp2 ?_ ?_ <;> intro _))
    generalize h6.app (.obj (n + 1 + 1) (.loop A.busy)) = g6 at *
    refine RD.call n6 rfl opds (clone_rf (ls.getD k []) (ad k) (ls.getD k []).length n6 (g6.below n6) (hrow.ext (AH.below_ext _ _) (Nat.le_refl _)) rfl hlk) (Nat.le_refl _) cfc ?_
    rintro r n7 h7 hle7 ⟨c7, rfl, E7, O7⟩
    have E7 : Ext n6 g6 h7 := E7.via (Nat.le_refl _) (AH.below_ext g6 n6)
    have kj7 := (E7.info _ (by omega)).trans kj
    have ko7 := (E7.info _ (by omega)).trans ko
    have kc7 := c_ext E7 (by omega) kc
    have kM7 : Cm h7 (n + 1 + 1 + 1) n7 s M := OwnRR.ext kM E7 hle7
    repeat' (first | refine stp ?_ | (refine stp2 ?_ ?_ <;> intro _))
    obtain ⟨g8, hg⟩ : ∃ g8, g8 = h7.app (.new n7 ⟨1, 0, true, 1⟩ [.slice c7 (ls.getD k []).length (ls.getD k []).length]) := ⟨_, rfl⟩
    refine RD.heap hg ?_
    have E8 : Ext n7 h7 g8 := by rw [hg]; exact ext
    have hnew : OwnSl g8 n7 (n7 + 1) (some ⟨n7, 0, none⟩) 1 1 [.slice c7 (ls.getD k []).length (ls.getD k []).length] := by rw [hg]; exact OwnSl.new (m := 1) (z := 1) (Nat.le_refl _) rfl rfl
    clear hg
    have kM8 : Cm g8 (n + 1 + 1 + 1) (n7 + 1) s M := OwnRR.ext kM7 E8 (Nat.le_succ _)
    have kj8 := (E8.info _ (by omega)).trans kj7
    have ko8 := (E8.info _ (by omega)).trans ko7
    have hO8 := kM8.out
    rw [cmL_length, hMl] at hO8
    have hi0 : ¬ inA s n := fun q => by
      have := q7.out.at'.resolve_left q.1
      have := q.2
      omega
    have hWl : ∀ b, inA s b → b < n7 + 1 := fun b q => by
      have := q7.out.at'.resolve_left q.1
      have := q.2
      omega
    refine RD.appendT (n7 + 1) rfl opd opd hO8 (hnew.ext (AH.below_ext _ _) (Nat.le_refl _)).src full_slice (fun q => .inl (.inr (by have := q7.out.at'.resolve_left q; omega))) (by omega) (Nat.le_refl _) cfw ?_
    intro s' n9 h9 hle9 hO9 hX9 hwh
    have hsn : ∀ x, x ≤ n + 1 + 1 → s = none ∨ x ≠ sb s := fun x hx => q7.out.at'.imp id fun w => by omega
    have kj9 : h9.info n = some ⟨1, 0, true, 0⟩ := i_extX hX9 (by omega) (hsn _ (by omega)) kj8
    have ko9 : h9.info (n + 1 + 1) = some (AObj.loop A.busy).m := i_extX hX9 (by omega) (hsn _ (Nat.le_refl _)) ko8
    have hcn : c7 = none ∨ n6 ≤ sb c7 := O7.at'.imp id (·.1)
    have kM9 : Cm h9 (n + 1 + 1 + 1) n9 s' (M ++ [(c7, ls.getD k [])]) := by
      have := OwnRR.push (e := (c7, (ls.getD k []).length, bytesV (ls.getD k []))) kM8 ((O7.ext E8 (Nat.le_succ _)).mono (by omega)) (Apart.of (n := n6) (q7.out.at'.imp id (·.2)) hcn)
        (fun i f hf => (Apart.of (n := n6) ((q7.inn i f hf).at'.imp id (·.2)) hcn).symm) hX9 hle9 (by rw [cmL_length, hMl]; exact hO9) hwh
      unfold Cm
      rw [cmL_snoc]
      exact this
    have EW9 : ExtW (fun b => b = n ∨ b = n + 1 + 1) (n + 1 + 1 + 1) (h1.app (.obj (n + 1 + 1) (.loop A))) h9 := (EW2.then (E7.trans hle7 E8) (by omega)).then (hX9.ext hO8) (by omega)
    repeat' (first | refine stp ?_ | (refine stp2 ?_ ?_ <;> intro _))
    refine .inl ⟨rfl, by omega, extW, info, info, hkl, s', M ++ [(c7, ls.getD k [])], cell, ?_, ?_⟩
    · have kM10 : Cm (h9.app (.sets n 0 [.slice s' (k + 1) (k + 1)])) (n + 1 + 1 + 1) n9 s' (M ++ [(c7, ls.getD k [])]) := OwnRR.setsN kM9 (kM9.out.at'.imp id fun w => by omega) (by omega)
      have e : ExtW (fun b => b = n + 1 + 1) n9 (h9.app (.sets n 0 [.slice s' (k + 1) (k + 1)])) ((h9.app (.sets n 0 [.slice s' (k + 1) (k + 1)])).app (.obj (n + 1 + 1) (.loop A))) := ExtW.appObj (.inl rfl) (ExtW.refl _ _ _)
      exact ⟨extW_own kM10.out e (Nat.le_refl _) (fun b z1 z2 z3 => by have : b = n + 1 + 1 := z3; omega), fun i x hx => extW_own (kM10.inn i x hx) e (Nat.le_refl _) (fun b z1 z2 z3 => by have : b = n + 1 + 1 := z3; omega), kM10.sep, kM10.dis⟩
    · rw [List.map_append, q8, htk]; rfl
  · rintro k n6 h6 ⟨q1, q2, q3, q4, q5, s, M, q6, q7, q8⟩
    have EW : ExtW (fun b => b = n ∨ b = n + 1 + 1) (n + 1 + 1) h1 h6 := extW
    exact ⟨by omega, c_extW q2 (by omega) (by omega) (c_obj cv), S.ext (E1'.trans (by omega) (EW.extM (by omega : n ≤ n + 1 + 1) (fun b q => by omega))) (by omega)⟩
  · exact ⟨by omega, extW, info, info, Nat.zero_le _, none, [], cell, OwnRR.nil (by omega), rfl⟩
  · rintro r n6 h6 (⟨q1, q2, q3, q4, q5, s, M, q6, q7, q8⟩ | q)
    · refine rangeC.normal q3 ?_
      repeat' (first | refine stpS ?_ | (refine stp2 ?_ ?_ <;> intro _))
      rw [hvl] at q8 ⊢
      rw [List.take_length] at q8
      have EW : ExtW (fun b => b = n ∨ b = n + 1 + 1) (n + 1 + 1) h1 (h6.app (.obj (n + 1 + 1) (.loop A.over))) := extW
      refine ⟨s, M, rfl, E1'.trans (by omega) (EW.extM (by omega : n ≤ n + 1 + 1) (fun b q => by omega)), ?_, q8⟩
      have e : ExtW (fun b => b = n + 1 + 1) n6 h6 (h6.app (.obj (n + 1 + 1) (.loop A.over))) := ExtW.appObj (.inl rfl) (ExtW.refl _ _ _)
      have : Cm (h6.app (.obj (n + 1 + 1) (.loop A.over))) (n + 1 + 1 + 1) n6 s M := ⟨extW_own q7.out e (Nat.le_refl _) (fun b z1 z2 z3 => by have : b = n + 1 + 1 := z3; omega), fun i x hx => extW_own (q7.inn i x hx) e (Nat.le_refl _) (fun b z1 z2 z3 => by have : b = n + 1 + 1 := z3; omega), q7.sep, q7.dis⟩
      exact OwnRR.mono this (by omega) (by omega)
    · exact q.elim
end Go.Proofs.YtfbddbpbifnhfaaDoor

/- Contracts of wal: a commit's records. -/
namespace Go.Proofs.YtfbddbpbifnhfaaDoor
open Go.Abs Cd

/-- What is left behind i records. -/
def restN (b : List UInt8) : Nat → List UInt8
  | 0 => b
  | i + 1 => (restN b i).drop (pB (restN b i)).2.1
def recN (b : List UInt8) (i : Nat) : Cd.PB := pB (restN b i)
def rowsN (b : List UInt8) (k : Nat) : List (List UInt8) := (List.range k).map fun i => (recN b i).1
/-- A commit's records, and whether these are all. -/
def recordsP (l : List UInt8) : List (List UInt8) × Bool :=
  if (pI l).2.2 = 0 ∧ 1 ≤ (pI l).1 ∧ (pI l).1 ≤ 4096 ∧ ∀ i, i < (pI l).1.toNat → (recN (l.drop (pI l).2.1) i).2.2 = 0 then
    (rowsN (l.drop (pI l).2.1) (pI l).1.toNat, decide (restN (l.drop (pI l).2.1) (pI l).1.toNat = []))
  else ([], false)
theorem restN_len (b : List UInt8) (i : Nat) : (restN b i).length ≤ b.length := by
  induction i with
  | zero => exact Nat.le_refl _
  | succ i ih => show ((restN b i).drop _).length ≤ _; rw [List.length_drop]; omega
theorem rowsN_succ (b : List UInt8) (k : Nat) : rowsN b (k + 1) = rowsN b k ++ [(recN b k).1] := by
  unfold rowsN
  rw [List.range_succ, List.map_append]; rfl
theorem recN_len (b : List UInt8) (i : Nat) : (recN b i).1.length ≤ b.length := by
  rcases pB_err (restN b i) with h | ⟨h, -⟩
  · have := pB_le (b := restN b i) (l := (recN b i).1) (k := (recN b i).2.1) (by rw [← h]; rfl)
    have := restN_len b i
    omega
  · show (pB (restN b i)).1.length ≤ _
    rw [h]; exact Nat.zero_le _
theorem Cm.ext {h h1 : AH} {n0 n n1 : Nat} {a : Option Addr} {M : List (Option Addr × List UInt8)} (c : Cm h n0 n a M) (E : Ext n h h1) (hn : n ≤ n1) : Cm h1 n0 n1 a M := OwnRR.ext c E hn
theorem Cm.extW {W : Nat → Prop} {h h1 : AH} {n0 n nn : Nat} {a : Option Addr} {M : List (Option Addr × List UInt8)} (c : Cm h n0 n a M) (e : ExtW W nn h h1) (hn : n ≤ nn) (hW : ∀ b, n0 ≤ b → b < n → ¬ W b) : Cm h1 n0 n a M :=
  ⟨extW_own c.out e hn hW, fun i x hx => extW_own (c.inn i x hx) e hn hW, c.sep, c.dis⟩
theorem Cm.mono {h : AH} {n0 n n0' : Nat} {a : Option Addr} {M : List (Option Addr × List UInt8)} (c : Cm h n0 n a M) (h1 : n0' ≤ n0) : Cm h n0' n a M := OwnRR.mono c h1 h1
theorem Cm.up {h : AH} {n0 n n1 : Nat} {a : Option Addr} {M : List (Option Addr × List UInt8)} (c : Cm h n0 n a M) (hn : n ≤ n1) : Cm h n0 n1 a M := c.ext (Ext.refl _ _) hn
theorem rdR_extX {h h1 : AH} {n0 n n1 w : Nat} {a s : Option Addr} {b : List UInt8} (R : RdR h n0 n w a b) (E : ExtX n s h h1) (hn : n ≤ n1) (hw : s = none ∨ w ≠ sb s) (ha : s = none ∨ a = none ∨ sb a ≠ sb s) : RdR h1 n0 n1 w a b := by
  obtain ⟨e1, e2⟩ := E w R.hi hw
  exact ⟨R.lo, Nat.lt_of_lt_of_le R.hi hn, e1.trans R.inf, (e2 0).trans R.made, (e2 1).trans R.sl, (SlR.extX R.bs E ha).ext (Ext.refl _ _) hn, R.ne, R.le⟩
set_option maxHeartbeats 4000000 in
theorem records_rf (l : List UInt8) (a : Option Addr) (m n : Nat) (h : AH) (S : SlB h n a l) (e : m = l.length) (hm : m ≤ 1073741824) :
    RF Tryd.prog none' 64 #[.slice a m m] n h (fun r n' h' => ∃ a' M, r = .tuple #[.slice a' M.length M.length, .bool (recordsP l).2] ∧ Ext n h h' ∧ Cm h' n n' a' M ∧ M.map (·.2) = (recordsP l).1) := by
  subst e
  refine RF.of Tryd.func64 rfl rfl (Nat.le_of_ble_eq_true rfl) ?_; dsimp only [argEnv]
  repeat' (first | refine stpS ?_ | (refine stp2 ?_ ?_ <;> intro _))
  refine RS.call rfl opds (newReader_rf l a _ n h S rfl hm) none'W ?_
  rintro r n1 h1 k1 ⟨w, a1, rfl, E1, R1, -⟩
  have hw := R1.lo
  have hwn := R1.hi
  have hT : ∀ x, x = w → none' x ∨ n ≤ x := fun x hx => by subst hx; exact .inr hw
  repeat' (first | refine stpS ?_ | (refine stp2 ?_ ?_ <;> intro _))
  refine RS.call rfl opds (rInt_rf w a1 l n n1 h1 R1) hT ?_
  rintro r n2 h2 k2 ⟨rfl, a2, R2, X2, -⟩
  have E2 : Ext n h h2 := E1.viaW X2 k1 (fun x hx => by omega)
  have hD : recordsP l = if (pI l).2.2 = 0 ∧ 1 ≤ (pI l).1 ∧ (pI l).1 ≤ 4096 ∧ ∀ i, i < (pI l).1.toNat → (recN (l.drop (pI l).2.1) i).2.2 = 0 then (rowsN (l.drop (pI l).2.1) (pI l).1.toNat, decide (restN (l.drop (pI l).2.1) (pI l).1.toNat = [])) else ([], false) := rfl
  obtain ⟨x, hx⟩ : ∃ x, x = pI l := ⟨_, rfl⟩
  rw [← hx] at R2 hD ⊢
  have no : recordsP l = ([], false) → ∀ {n' : Nat} {h' : AH}, n ≤ n' → Ext n h h' → ∃ a' M, Value.tuple #[.slice none 0 0, .bool false] = .tuple #[.slice a' M.length M.length, .bool (recordsP l).2] ∧ Ext n h h' ∧ Cm h' n n' a' M ∧ M.map (·.2) = (recordsP l).1 := fun q n' h' hn E => by
    rw [q]; exact ⟨none, [], rfl, E, OwnRR.nil hn, rfl⟩
  by_cases p1 : x.2.2 = 0
  rotate_left
  · have hD : recordsP l = ([], false) := by rw [hD, if_neg]; rintro ⟨z1, -⟩; exact p1 z1
    repeat' (first | refine stpS ?_ | (refine stp2 ?_ ?_ <;> intro _))
    exact no hD (by omega) E2
  by_cases p2 : 1 ≤ x.1 ∧ x.1 ≤ 4096
  rotate_left
  · have hD : recordsP l = ([], false) := by rw [hD, if_neg]; rintro ⟨z1, z2, z3, -⟩; exact p2 ⟨z2, z3⟩
    repeat' (first | refine stpS ?_ | (refine stp2 ?_ ?_ <;> intro _))
    all_goals (first | exact no hD (by omega) E2 | (exfalso; omega))
  obtain ⟨b0, hb0⟩ : ∃ b0, b0 = l.drop x.2.1 := ⟨_, rfl⟩
  rw [← hb0] at R2 hD
  obtain ⟨K, hK⟩ : ∃ K : Nat, x.1 = K := ⟨x.1.toNat, by omega⟩
  rw [hK] at hD p2 ⊢
  have hD : recordsP l = if ∀ i, i < K → (recN b0 i).2.2 = 0 then (rowsN b0 K, decide (restN b0 K = [])) else ([], false) := by
    rw [hD]; simp only [p1, p2, true_and, Int.toNat_natCast]
  repeat' (first | refine stpS ?_ | (refine stp2 ?_ ?_ <;> intro _))
  refine RC.loop ?_
  refine RL.inv (α := Nat × Option Addr × Option Addr × List (Option Addr × List UInt8)) (fun u => [(28, .int .i64 (u.1 : Nat)), (27, .int .i64 (K : Nat)), (7, .slice u.2.2.1 u.1 u.1), (4, .pointer (some ⟨w, 0, none⟩))])
    (fun u n3 h3 => u.1 ≤ K ∧ n2 ≤ n3 ∧ Ext n h h3 ∧ RdR h3 n n3 w u.2.1 (restN b0 u.1) ∧ (u.2.1 = none ∨ sb u.2.1 < n2) ∧ Cm h3 n2 n3 u.2.2.1 u.2.2.2 ∧ u.2.2.2.map (·.2) = rowsN b0 u.1 ∧ ∀ i, i < u.1 → (recN b0 i).2.2 = 0)
    (fun u => K - u.1) (0, a2, none, []) envs ⟨by omega, Nat.le_refl _, E2, R2, (by by_cases q : a2 = none; exact .inl q; exact .inr (SlR.ltA R2.bs q)), OwnRR.nil (Nat.le_refl _), rfl, fun i hi => by omega⟩ ?_
  rintro ⟨i, c, s, M⟩ n3 h3 ⟨hi, hn3, E3, R3, hc, hM, hMs, hok⟩
  dsimp only at hi hn3 E3 R3 hc hM hMs hok ⊢
  have hMl : M.length = i := by have := congrArg List.length hMs; simpa [rowsN] using this
  have hw3 := R3.hi
  by_cases hlt : i < K
  · repeat' (first | refine stpS ?_ | (refine stp2 ?_ ?_ <;> intro _))
    refine RS.call rfl opds (rBytes_rf w c _ n n3 h3 R3) (fun x hx => by subst hx; exact .inr hw) ?_
    rintro r n4 h4 k4 ⟨c4, rfl, ⟨a4, R4, X4, ha4⟩, O4⟩
    have E4 : Ext n h h4 := E3.viaW X4 (by omega) (fun x hx => by omega)
    have hrl := recN_len b0 i
    obtain ⟨y, hy⟩ : ∃ y, y = recN b0 i := ⟨_, rfl⟩
    have hy' : pB (restN b0 i) = y := hy.symm
    rw [hy'] at R4 O4 ⊢
    rw [← hy] at hrl
    have hle := R1.le
    have hbl : b0.length ≤ 1073741824 := by rw [hb0, List.length_drop]; omega
    by_cases he : y.2.2 = 0
    · repeat' (first | refine stpS ?_ | (refine stp2 ?_ ?_ <;> intro _))
      obtain ⟨g8, hg⟩ : ∃ g8, g8 = h4.app (.new n4 ⟨1, 0, true, 1⟩ [.slice c4 y.1.length y.1.length]) := ⟨_, rfl⟩
      refine RS.heap hg ?_
      have E8 : Ext n4 h4 g8 := by rw [hg]; exact ext
      have hnew : OwnSl g8 n4 (n4 + 1) (some ⟨n4, 0, none⟩) 1 1 [.slice c4 y.1.length y.1.length] := by rw [hg]; exact OwnSl.new (m := 1) (z := 1) (Nat.le_refl _) rfl rfl
      clear hg
      have kM4 : Cm h4 n2 n4 s M := (Cm.extW hM X4 (Nat.le_refl _) (fun b z1 z2 z3 => by omega)).up k4
      have kM8 : Cm g8 n2 (n4 + 1) s M := kM4.ext E8 (Nat.le_succ _)
      have hO8 := kM8.out
      rw [cmL_length, hMl] at hO8
      have hcn : c4 = none ∨ n3 ≤ sb c4 := O4.at'.imp id (·.1)
      refine RS.append rfl opd opd hO8 hnew.src full_slice (fun b hb => Or.inr (by omega)) (by omega) ?_
      intro s' n9 h9 hle9 hO9 hX9 hwh
      have kM9 : Cm h9 n2 n9 s' (M ++ [(c4, y.1)]) := by
        have := OwnRR.push (e := (c4, y.1.length, bytesV y.1)) kM8 ((O4.ext E8 (Nat.le_succ _)).mono (by omega)) (Apart.of (n := n3) (hM.out.at'.imp id (·.2)) hcn)
          (fun j f hf => (Apart.of (n := n3) ((hM.inn j f hf).at'.imp id (·.2)) hcn).symm) hX9 hle9 (by rw [cmL_length, hMl]; exact hO9) hwh
        unfold Cm
        rw [cmL_snoc]
        exact this
      have E9 : Ext n h h9 := (E4.trans (by omega) E8).trans (by omega : n ≤ n2) (hX9.ext hO8)
      have hX9' : ExtX (n4 + 1) s g8 h9 := hX9
      have R9 : RdR h9 n n9 w a4 (restN b0 (i + 1)) := by
        have hR8 := R4.ext E8 (Nat.le_succ _)
        rw [show restN b0 (i + 1) = (restN b0 i).drop y.2.1 by rw [← hy']; rfl]
        refine rdR_extX hR8 hX9 hle9 ?_ ?_
        · exact hM.out.at'.imp id fun z => by omega
        · rcases ha4 with q | ⟨q, q2⟩
          · exact .inr (.inl q)
          · refine hM.out.at'.imp id fun z => .inr ?_
            have := hc.resolve_left q
            omega
      repeat' (first | refine stpS ?_ | (refine stp2 ?_ ?_ <;> intro _))
      refine nextC.normal ⟨(i + 1, a4, s', M ++ [(c4, y.1)]), by dsimp only; omega, envs, by dsimp only; omega, by omega, E9, R9, ?_, kM9, ?_, fun j hj => ?_⟩
      · rcases ha4 with q | ⟨q, q2⟩
        · exact .inl q
        · exact .inr (by show sb a4 < n2; have := hc.resolve_left q; omega)
      · rw [List.map_append, hMs, rowsN_succ, ← hy]; rfl
      · by_cases q : j = i
        · subst q; rw [← hy]; exact he
        · exact hok j (by omega)
    · have hD : recordsP l = ([], false) := by rw [hD, if_neg]; intro z; exact he (by rw [hy]; exact z i hlt)
      repeat' (first | refine stpS ?_ | (refine stp2 ?_ ?_ <;> intro _))
      exact no hD (by omega) E4
  · obtain rfl : i = K := by omega
    have hD : recordsP l = (rowsN b0 i, decide (restN b0 i = [])) := by rw [hD, if_pos hok]
    have hend := end_ev w c _ n n3 h3 R3
    by_cases he : restN b0 i = []
    · rw [he] at hend
      repeat' (first | refine stpS ?_ | (refine stp2 ?_ ?_ <;> intro _) | refine RS.call1 rfl opds (hend) none'W ?_)
      rw [hD, he]
      exact ⟨s, M, by rw [hMl]; rfl, E3, hM.mono (by omega), hMs⟩
    · have hpos : 0 < (restN b0 i).length := List.length_pos_iff.2 he
      rw [if_pos hpos] at hend
      repeat' (first | refine stpS ?_ | (refine stp2 ?_ ?_ <;> intro _) | refine RS.call1 rfl opds (hend) none'W ?_)
      rw [hD, decide_eq_false he]
      exact ⟨s, M, by rw [hMl], E3, hM.mono (by omega), hMs⟩
end Go.Proofs.YtfbddbpbifnhfaaDoor

/- Contracts taken from disk (written by port.py). -/
namespace Go.Proofs.YtfbddbpbifnhfaaDoor.Dk
open Go.Abs
theorem take_min {α : Type} (l : List α) (k : Nat) : l.take (min k l.length) = l.take k := by
  rcases Nat.le_total k l.length with h | h
  · rw [Nat.min_eq_left h]
  · rw [Nat.min_eq_right h, List.take_length, List.take_of_length_le h]
/-- A piece: bytes at a place of a file, or a cut to a size. -/
structure Pc where
  file : Nat
  cut : Bool
  at_ : Nat
  b : List UInt8
/-- Bytes behind a piece. -/
def doP (l : List UInt8) (p : Pc) : List UInt8 := if p.cut = true then l.take p.at_ else splice (l ++ List.replicate (p.at_ + p.b.length - l.length) 0) p.at_ p.b
theorem doP_length (l : List UInt8) (p : Pc) : (doP l p).length = if p.cut = true then min p.at_ l.length else max l.length (p.at_ + p.b.length) := by
  unfold doP
  cases p.cut
  · simp only [Bool.false_eq_true, if_false]
    rw [splice_length _ _ _ (by simp; omega)]
    simp; omega
  · simp
/-- A piece that may be. -/
structure PcOk (p : Pc) : Prop where
  file : p.file = 0 ∨ p.file = 1
  some : p.cut = false → 0 < p.b.length ∧ p.at_ + p.b.length ≤ 4194304
  size : p.cut = true → p.at_ ≤ 4194304
def upd {α : Type} (f : Nat → α) (i : Nat) (x : α) : Nat → α := fun j => if j = i then x else f j
theorem upd_same {α : Type} (f : Nat → α) (i : Nat) (x : α) : upd f i x i = x := by simp [upd]
theorem upd_ne {α : Type} (f : Nat → α) {i j : Nat} (x : α) (h : j ≠ i) : upd f i x j = f j := by simp [upd, h]
/-- What is sure of both files, the pieces, the fuse, the power. -/
structure DS where
  sure : Nat → List UInt8
  ps : List Pc
  fuse : Int
  keep : List Bool
  calls : Int
  down : Bool
def nowP (f : Nat) (l : List UInt8) (ps : List Pc) : List UInt8 := (ps.filter fun p => decide (p.file = f)).foldl doP l
/-- What a file has. -/
def DS.now (S : DS) (f : Nat) : List UInt8 := nowP f (S.sure f) S.ps
theorem nowP_snoc (f : Nat) (l : List UInt8) (ps : List Pc) (p : Pc) : nowP f l (ps ++ [p]) = if p.file = f then doP (nowP f l ps) p else nowP f l ps := by
  unfold nowP
  rw [List.filter_append, List.foldl_append]
  by_cases h : p.file = f <;> simp [h]
theorem doP_le {l : List UInt8} {p : Pc} (h : PcOk p) (hl : l.length ≤ 4194304) : (doP l p).length ≤ 4194304 := by
  rw [doP_length]
  cases hc : p.cut
  · have := (h.some hc).2
    simp only [Bool.false_eq_true, if_false]; omega
  · simp only [if_true]; omega
theorem nowP_le (f : Nat) {l : List UInt8} (hl : l.length ≤ 4194304) : ∀ {ps : List Pc}, (∀ p ∈ ps, PcOk p) → (nowP f l ps).length ≤ 4194304 := by
  intro ps
  induction ps generalizing l with
  | nil => intro _; exact hl
  | cons p ps ih =>
    intro h
    unfold nowP
    by_cases hp : p.file = f
    · simp only [List.filter_cons, hp, decide_true, if_true, List.foldl_cons]
      exact ih (doP_le (h p (by simp)) hl) (fun q hq => h q (by simp [hq]))
    · simp only [List.filter_cons, hp, decide_false, Bool.false_eq_true, if_false]
      exact ih hl (fun q hq => h q (by simp [hq]))
/-- The state may be. -/
structure DSOk (S : DS) : Prop where
  ps : ∀ p ∈ S.ps, PcOk p
  sure : ∀ f, (S.sure f).length ≤ 4194304
  fuse : 0 ≤ S.fuse ∧ S.fuse ≤ 9223372036854775807
  calls : 0 ≤ S.calls
  keep : S.keep.length ≤ 1099511627776
theorem DSOk.now {S : DS} (h : DSOk S) (f : Nat) : (S.now f).length ≤ 4194304 := nowP_le f (h.sure f) h.ps
/-- A piece is done. -/
def DS.done (S : DS) (p : Pc) : DS := { S with ps := S.ps ++ [p] }
theorem DS.done_now (S : DS) (p : Pc) (f : Nat) : (S.done p).now f = if p.file = f then doP (S.now f) p else S.now f := nowP_snoc _ _ _ _
/-- What is sure behind a crash. -/
def loseP (sure : Nat → List UInt8) : List Pc → List Bool → Nat → List UInt8
  | [], _ => sure
  | _ :: _, [] => sure
  | p :: ps, k :: ks => loseP (if k = true then upd sure p.file (doP (sure p.file) p) else sure) ps ks
def DS.lose (S : DS) (keep : List Bool) : DS := { S with sure := loseP S.sure S.ps keep, ps := [], fuse := 0, down := true }
theorem loseP_le {sure : Nat → List UInt8} : ∀ {ps : List Pc} {ks : List Bool}, (∀ f, (sure f).length ≤ 4194304) → (∀ p ∈ ps, PcOk p) → ∀ f, (loseP sure ps ks f).length ≤ 4194304 := by
  intro ps
  induction ps generalizing sure with
  | nil => intro ks h _ f; exact h f
  | cons p ps ih =>
    intro ks h hp f
    cases ks with
    | nil => exact h f
    | cons k ks =>
      refine ih (fun g => ?_) (fun q hq => hp q (by simp [hq])) f
      cases k
      · exact h g
      · simp only [if_true]
        by_cases e : g = p.file
        · subst e; rw [upd_same]; exact doP_le (hp p (by simp)) (h _)
        · rw [upd_ne _ _ e]; exact h g
theorem loseP_nil (sure : Nat → List UInt8) (ks : List Bool) : loseP sure [] ks = sure := rfl
theorem loseP_snoc {p : Pc} : ∀ {sure : Nat → List UInt8} {ps : List Pc} {ks : List Bool}, loseP sure (ps ++ [p]) ks = if ks.getD ps.length false = true then upd (loseP sure ps ks) p.file (doP (loseP sure ps ks p.file) p) else loseP sure ps ks := by
  intro sure ps
  induction ps generalizing sure with
  | nil =>
    intro ks
    cases ks with
    | nil => rfl
    | cons k ks => cases k <;> rfl
  | cons q ps ih =>
    intro ks
    cases ks with
    | nil => rfl
    | cons k ks =>
      simp only [List.cons_append, loseP, List.length_cons, List.getD_cons_succ]
      exact ih
/-- A call ends: it is counted; the power may go. -/
def DS.ends (S : DS) : Int × DS :=
  if S.fuse = 0 then (0, { S with calls := S.calls + 1 })
  else if 1 < S.fuse then (0, { S with calls := S.calls + 1, fuse := S.fuse - 1 })
  else (6, { S with calls := S.calls + 1, fuse := S.fuse - 1 }.lose S.keep)
def DS.may (S : DS) (f : Int) : Int := if S.down = true then 6 else if f ≠ 0 ∧ f ≠ 1 then 1 else 0
/-- The pieces of a write. -/
def chunks (f : Nat) : Nat → Nat → List UInt8 → List Pc
  | 0, _, _ => []
  | _ + 1, _, [] => []
  | k + 1, at_, x :: r => ⟨f, false, at_, (x :: r).take (512 - at_ % 512)⟩ :: chunks f k (at_ + min (r.length + 1) (512 - at_ % 512)) ((x :: r).drop (512 - at_ % 512))
def DS.writes (S : DS) (f at_ : Nat) (b : List UInt8) : DS := { S with ps := S.ps ++ chunks f b.length at_ b }
/-- What a write answers, if the file may be. -/
def writeE (at_ : Int) (b : List UInt8) : Int := if at_ < 0 then 1 else if 0 < b.length ∧ (4194304 < at_ ∨ 4194304 - at_ < b.length) then 5 else 0
def DS.write (S : DS) (f at_ : Int) (b : List UInt8) : Int × DS :=
  if S.may f ≠ 0 then (S.may f, S) else if writeE at_ b ≠ 0 then (writeE at_ b, S) else (S.writes f.toNat at_.toNat b).ends
def DS.truncate (S : DS) (f size : Int) : Int × DS :=
  if S.may f ≠ 0 then (S.may f, S) else if size < 0 ∨ ((S.now f.toNat).length : Int) < size then (1, S) else (S.done ⟨f.toNat, true, size.toNat, []⟩).ends
def DS.synced (S : DS) (f : Nat) : DS := { S with sure := upd S.sure f (S.now f), ps := S.ps.filter fun p => !decide (p.file = f) }
def DS.sync (S : DS) (f : Int) : Int × DS :=
  if S.may f ≠ 0 then (S.may f, S) else if S.ends.1 ≠ 0 then S.ends else (0, S.ends.2.synced f.toNat)
def DS.crash (S : DS) (keep : List Bool) : Int × DS := if S.down = true then (6, S) else (0, S.lose keep)
def DS.setFuse (S : DS) (k : Int) (keep : List Bool) : Int × DS := if k < 0 then (1, S) else (0, { S with fuse := k, keep := keep })
def DS.restart (S : DS) : DS := { S with down := false }
/-- What a read answers. -/
def DS.read (S : DS) (f at_ k : Int) : Int × List UInt8 :=
  if S.may f ≠ 0 then (S.may f, []) else if at_ < 0 ∨ k < 0 then (1, []) else (0, ((S.now f.toNat).drop at_.toNat).take k.toNat)
def DS.init : DS := ⟨fun _ => [], [], 0, [], 0, false⟩
end Go.Proofs.YtfbddbpbifnhfaaDoor.Dk

/- Contracts taken from disk (written by port.py). -/
namespace Go.Proofs.YtfbddbpbifnhfaaDoor.Dk
open Go.Abs
set_option maxHeartbeats 4000000 in
theorem clone_rf (l : List UInt8) (a : Option Addr) (m n : Nat) (h : AH) (S : SlB h n a l) (e : m = l.length) (hm : m ≤ 1099511627776) :
    RF Tryd.prog none' 11 #[.slice a m m] n h (fun r n' h' => ∃ a', r = .slice a' m m ∧ Ext n h h' ∧ OwnSl h' n n' a' 1 m (bytesV l)) := by
  subst e
  refine RF.of Tryd.func11 rfl rfl (Nat.le_of_ble_eq_true rfl) ?_; dsimp only [argEnv]
  rcases S.two with ⟨ha, hl⟩ | ⟨b, o, ha⟩
  · have : l = [] := List.eq_nil_of_length_eq_zero hl
    subst this; subst ha
    repeat' (first | refine stpS ?_ | (refine stp2 ?_ ?_ <;> intro _))
    exact ⟨none, rfl, ext, OwnSl.nil (by omega)⟩
  · subst ha
    repeat' (first | refine stpS ?_ | (refine stp2 ?_ ?_ <;> intro _))
    refine RS.append rfl opd opd (OwnSl.new (z := 1) (m := 0) (cs := []) (Nat.le_refl n) rfl rfl) (SlB.src (S.ext ext (Nat.le_refl _))) full_slice (fun b hb => Or.inr (by omega)) (by omega) ?_
    intro a' n1 h1 hle hO hX hnew
    have hE := hX.ext (OwnSl.new (z := 1) (m := 0) (cs := []) (Nat.le_refl n) rfl rfl)
    simp only [Nat.zero_add, List.nil_append] at hO ⊢
    repeat' (first | refine stpS ?_ | (refine stp2 ?_ ?_ <;> intro _))
    exact ⟨a', rfl, ext, hO⟩
theorem known_replicate (v : Value) (k : Nat) (h : known [v] = true) : known (List.replicate k v) = true := by
  induction k with
  | zero => rfl
  | succ k ih => rw [List.replicate_succ]; cases v <;> simp_all [known]
instance : Mc Tryd.prog 96 "colonnade/disk.do" 115 := Mc.of (by kernel_rfl) Uc.out rfl
instance : Mc Tryd.prog 113 "colonnade/disk.do" 116 := Mc.of (by kernel_rfl) Uc.out rfl
/-- What is answered by a piece's work on a row of one's own. -/
def DoRes (n : Nat) (h : AH) (a : Option Addr) (l' : List UInt8) (r : Value) (n' : Nat) (h' : AH) : Prop :=
  ∃ a', r = .slice a' l'.length l'.length ∧ OwnSl h' 0 n' a' 1 l'.length (bytesV l') ∧ ExtX n a h h' ∧ (a' = a ∨ n ≤ sb a')
/-- The blocks of an address. -/
def inA (a : Option Addr) (b : Nat) : Prop := a ≠ none ∧ b = sb a
set_option maxHeartbeats 4000000 in
theorem cutDo_rf (l : List UInt8) (a : Option Addr) (m n k : Nat) (h : AH) (hO : OwnSl h 0 n a 1 m (bytesV l)) (e : m = l.length) :
    RF Tryd.prog (inA a) 116 #[.int .i64 (k : Nat), .slice a m m] n h (DoRes n h a (l.take k)) := by
  subst e
  refine RF.of Tryd.func116 rfl rfl (Nat.le_of_ble_eq_true rfl) ?_; dsimp only [argEnv]
  repeat' (first | refine stpS ?_ | (refine stp2 ?_ ?_ <;> intro _))
  refine RS.sliceCut (u := min k l.length) rfl opd (by rw [show ((min k l.length : Nat) : Int) = min (k : Int) l.length by omega]; exact opd) hO (Nat.min_le_right _ _) (fun q => .inl ⟨q, rfl⟩) ?_
  intro h1 hO1 hX1
  repeat' (first | refine stpS ?_ | (refine stp2 ?_ ?_ <;> intro _))
  have e1 : (l.take k).length = min k l.length := List.length_take
  refine ⟨a, by rw [e1], ?_, hX1, .inl rfl⟩
  have e2 : bytesV (l.take k) = (bytesV l).take (min k l.length * 1) := by
    have := take_min (bytesV l) k
    rw [bytesV_length] at this
    rw [Nat.mul_one, this, bytesV, bytesV, List.map_take]
  rw [e1, e2]; exact hO1
theorem DoRes.bit {n n2 : Nat} {h h2 : AH} {a a2 : Option Addr} {l b : List UInt8} {at_ M o' : Nat} {vs : List Value} (hX : ExtX n a h h2) (hnew : a2 = a ∨ n ≤ sb a2) (ha2 : a2 ≠ none)
    (hO : OwnSl (h2.app (.sets (sb a2) o' vs)) 0 n2 a2 1 M (bytesV (splice (l ++ List.replicate (at_ + b.length - l.length) 0) at_ b))) (hM : M = max l.length (at_ + b.length)) :
    DoRes n h a (doP l ⟨0, false, at_, b⟩) (.slice a2 M M) n2 (h2.app (.sets (sb a2) o' vs)) := by
  have hl := doP_length l ⟨0, false, at_, b⟩
  simp only [Bool.false_eq_true, if_false] at hl
  have he : doP l ⟨0, false, at_, b⟩ = splice (l ++ List.replicate (at_ + b.length - l.length) 0) at_ b := by simp [doP]
  rw [← he] at hO
  refine ⟨a2, by rw [hl, hM], by rw [hl, ← hM]; exact hO, fun x hx hne => ?_, hnew⟩
  have h1 := hX x hx hne
  have hxa : x ≠ sb a2 := by
    rcases hnew with q | q
    · subst q; exact hne.resolve_left ha2
    · omega
  exact ⟨(sets_info _ _ _ _ _).trans h1.1, fun i => (c_out (.inl hxa) rfl).trans (h1.2 i)⟩
set_option maxHeartbeats 4000000 in
theorem bitDo_rf (l b : List UInt8) (a c : Option Addr) (m k n at_ : Nat) (h : AH) (hO : OwnSl h 0 n a 1 m (bytesV l)) (S : SlB h n c b) (e : m = l.length) (e2 : k = b.length) (hb : 0 < k) (hl : m ≤ 4194304) (hk : at_ + k ≤ 4194304) (hac : a = none ∨ c = none ∨ sb a ≠ sb c) :
    RF Tryd.prog (inA a) 115 #[.agg #[.int .i64 (at_ : Nat), .slice c k k], .slice a m m] n h (DoRes n h a (doP l ⟨0, false, at_, b⟩)) := by
  subst e; subst e2
  have hcn : c ≠ none := by
    intro q; subst q
    rcases S.shape with k | k
    · omega
    · cases k.1
  have hclt := S.ltA hcn
  refine RF.of Tryd.func115 rfl rfl (Nat.le_of_ble_eq_true rfl) ?_; dsimp only [argEnv]
  repeat' (first | refine stpS ?_ | (refine stp2 ?_ ?_ <;> intro _))
  · rename_i hgt
    have hO1 := hO.ext (n1 := n + 1) (h1 := h.app (.new n ⟨2, 0, true, 0⟩ [.int .i64 (at_ : Nat), .slice c b.length b.length])) ext (by omega)
    refine RS.appendZT rfl opd opd hO1 (by omega) (fun q => .inl ⟨q, rfl⟩) (by omega) (by show known (zrow [.int .u8 0] _) = true; rw [zrow_one]; exact known_replicate _ _ rfl) ?_
    intro a2 n2 h2 hle2 hO2 hX2 hnew
    have e1 : l.length + ((at_ : Int) + b.length - l.length).toNat = at_ + b.length := by omega
    rw [e1] at hO2 ⊢
    have hO3 : OwnSl h2 0 n2 a2 1 (at_ + b.length) (bytesV (l ++ List.replicate (at_ + b.length - l.length) 0)) := by
      have e3 : ((at_ : Int) + b.length - l.length).toNat = at_ + b.length - l.length := by omega
      have e4 : zrow (Value.int IntKind.u8 0).cells.toList ((at_ : Int) + b.length - l.length).toNat = List.replicate (at_ + b.length - l.length) (.int .u8 0) := by rw [e3]; exact zrow_one _ _
      rw [e4] at hO2
      have e2 : bytesV (l ++ List.replicate (at_ + b.length - l.length) 0) = bytesV l ++ List.replicate (at_ + b.length - l.length) (.int .u8 0) := by
        simp [bytesV]
      rw [e2]; exact hO2
    have hS2 : SlB h2 n2 c b := (S.ext ext (Nat.le_succ n)).extX hX2 (by
      rcases hac with q | q | q
      · exact .inl q
      · exact .inr (.inl q)
      · exact .inr (.inr (Ne.symm q))) |>.ext (Ext.refl _ _) hle2
    have ha2 : a2 ≠ none := by
      intro q; subst q
      rcases hO3.or with k | k
      · omega
      · cases k.1
    have hsb := (hO3.at'.resolve_left ha2).2
    have hne : sb a2 ≠ n := by
      rcases hnew with q | q
      · subst q
        have := (hO.at'.resolve_left ha2).2
        omega
      · omega
    have hSR := hO3.slr
    have han : a = none ∨ n ≠ sb a := by
      by_cases q : a = none
      · exact .inl q
      · right; have := (hO.at'.resolve_left q).2; omega
    have hc0 : h2.cell n 0 = .int .i64 (at_ : Nat) := c_extX hX2 (by omega) han cell
    have hc1 : h2.cell n 1 = .slice c b.length b.length := c_extX hX2 (by omega) han cell
    repeat' (first | refine stp ?_ | (refine stp2 ?_ ?_ <;> intro _))
    have e5 : at_ + b.length - (at_ : Int).toNat = b.length := by omega
    rw [e5, Int.toNat_natCast]
    refine RD.copyB (nb := n2) rfl opd opd hO3 hS2 rfl (by omega) (by omega) (fun _ => ?_) (Nat.le_refl _) cfw ?_
    · rcases hnew with q | q
      · subst q; exact .inl ⟨ha2, rfl⟩
      · exact .inr (by omega)
    intro hO4
    repeat' (first | refine stp ?_ | (refine stp2 ?_ ?_ <;> intro _))
    exact DoRes.bit (fun x hx hne => by
      have := hX2 x (by omega) hne
      exact ⟨this.1.trans (i_new_ne (by omega) rfl), fun i => (this.2 i).trans (c_new_ne (by omega) rfl)⟩) (hnew.imp id (by omega)) ha2 hO4 (by omega)
  · rename_i hgt
    have hO3 := hO.ext (n1 := n + 1) (h1 := h.app (.new n ⟨2, 0, true, 0⟩ [.int .i64 (at_ : Nat), .slice c b.length b.length])) ext (by omega)
    have hS2 : SlB (h.app (.new n ⟨2, 0, true, 0⟩ [.int .i64 (at_ : Nat), .slice c b.length b.length])) (n + 1) c b := S.ext ext (by omega)
    have ha2 : a ≠ none := by
      intro q; subst q
      rcases hO3.or with k | k
      · omega
      · cases k.1
    have hsb := (hO.at'.resolve_left ha2).2
    have hSR := hO3.slr
    repeat' (first | refine stp ?_ | (refine stp2 ?_ ?_ <;> intro _))
    rw [Int.toNat_natCast]
    refine RD.copyB (nb := n + 1) rfl opd opd hO3 hS2 (by omega) (by omega) (by omega) (fun _ => .inl ⟨ha2, rfl⟩) (Nat.le_refl _) cfw ?_
    intro hO4
    repeat' (first | refine stp ?_ | (refine stp2 ?_ ?_ <;> intro _))
    have e0 : l ++ List.replicate (at_ + b.length - l.length) 0 = l := by rw [show at_ + b.length - l.length = 0 by omega]; simp
    exact DoRes.bit (fun x hx hne => ⟨i_new_ne (by omega) rfl, fun i => c_new_ne (by omega) rfl⟩) (.inl rfl) ha2 (by rw [e0]; exact hO4) (by omega)
end Go.Proofs.YtfbddbpbifnhfaaDoor.Dk

/- Contracts taken from disk (written by port.py). -/
namespace Go.Proofs.YtfbddbpbifnhfaaDoor.Dk
open Go.Abs
/-- Two rows lie apart; block d and a row do. -/
def apt (x y : Option Addr) : Prop := x = none ∨ y = none ∨ sb x ≠ sb y
def apd (d : Nat) (y : Option Addr) : Prop := y = none ∨ d ≠ sb y
theorem apt.symm {x y : Option Addr} (h : apt x y) : apt y x := by
  rcases h with h | h | h
  · exact .inr (.inl h)
  · exact .inl h
  · exact .inr (.inr (Ne.symm h))
def pcV (p : Pc) (a : Option Addr) : Value := if p.cut = true then .iface 113 (.int .i64 (p.at_ : Nat)) else .iface 96 (.agg #[.int .i64 (p.at_ : Nat), .slice a p.b.length p.b.length])
def pcC (p : Pc) (a : Option Addr) : List Value := [.int .i64 (p.file : Nat), pcV p a]
def pcsC : List Pc → List (Option Addr) → List Value
  | p :: ps, a :: q => pcC p a ++ pcsC ps q
  | _, _ => []
theorem pcV_known (p : Pc) (a : Option Addr) : known (pcC p a) = true := by
  unfold pcC pcV; split <;> rfl
theorem pcsC_snoc : ∀ (ps : List Pc) (pa : List (Option Addr)) (p : Pc) (a : Option Addr), pa.length = ps.length → pcsC (ps ++ [p]) (pa ++ [a]) = pcsC ps pa ++ pcC p a
  | [], [], p, a, _ => by simp [pcsC]
  | q :: ps, b :: pa, p, a, h => by simp [pcsC, pcsC_snoc ps pa p a (by simpa using h)]
  | [], _ :: _, _, _, h => by simp at h
  | _ :: _, [], _, _, h => by simp at h
theorem pcsC_at : ∀ (ps : List Pc) (pa : List (Option Addr)) (i : Nat) (p : Pc), pa.length = ps.length → ps[i]? = some p → (pcsC ps pa)[2 * i]? = some (.int .i64 (p.file : Nat)) ∧ (pcsC ps pa)[2 * i + 1]? = some (pcV p (pa.getD i none))
  | [], _, i, p, _, h => by simp at h
  | q :: ps, [], i, p, hl, h => by simp at hl
  | q :: ps, b :: pa, 0, p, hl, h => by
    simp only [List.getElem?_cons_zero, Option.some.injEq] at h
    subst h; simp [pcsC, pcC]
  | q :: ps, b :: pa, i + 1, p, hl, h => by
    have := pcsC_at ps pa i p (by simpa using hl) (by simpa using h)
    have e1 : 2 * (i + 1) = 2 * i + 2 := by omega
    have e2 : 2 * (i + 1) + 1 = 2 * i + 1 + 2 := by omega
    rw [e2, e1]
    simpa [pcsC, pcC] using this
/-- How a disk lies: d its block; o its rows: what both files have now, what of them is sure, the pieces; k the fuse's choice; pa the pieces' bytes. -/
structure DkR (h : AH) (n d : Nat) (o : Nat → Option Addr) (ka : Option Addr) (pa : List (Option Addr)) (fl : Nat → List UInt8) (ps : List Pc) (fuse : Int) (keep : List Bool) (calls : Int) (down : Bool) : Prop where
  lt : d < n
  inf : h.info d = some ⟨10, 0, true, 0⟩
  c0 : h.cell d 0 = .bool true
  cf : ∀ i, i < 4 → h.cell d (1 + i) = .slice (o i) (fl i).length (fl i).length
  c5 : h.cell d 5 = .slice (o 4) ps.length ps.length
  c6 : h.cell d 6 = .int .i64 fuse
  c7 : h.cell d 7 = .slice ka keep.length keep.length
  c8 : h.cell d 8 = .int .i64 calls
  c9 : h.cell d 9 = .bool down
  fo : ∀ i, i < 4 → OwnSl h 0 n (o i) 1 (fl i).length (bytesV (fl i))
  lo : OwnSl h 0 n (o 4) 2 ps.length (pcsC ps pa)
  ks : SlT h n ka keep
  dat : ∀ i p, ps[i]? = some p → p.cut = false → SlB h n (pa.getD i none) p.b
  len : pa.length = ps.length
  od : ∀ i, i < 5 → apd d (o i)
  oo : ∀ i j, i < 5 → j < 5 → i ≠ j → apt (o i) (o j)
  og : ∀ i x, i < 5 → x ∈ ka :: pa → apt (o i) x
  dg : ∀ x, x ∈ ka :: pa → apd d x
  gl : ∀ x, x ∈ ka :: pa → x ≠ none → sb x < n
section
variable {h h1 h2 : AH} {n n1 n2 d : Nat} {o : Nat → Option Addr} {ka : Option Addr} {pa : List (Option Addr)} {fl : Nat → List UInt8} {ps : List Pc} {fuse : Int} {keep : List Bool} {calls : Int} {down : Bool}
/-- The blocks that are turned; those that are only read. -/
def DkF (d : Nat) (o : Nat → Option Addr) (b : Nat) : Prop := b = d ∨ ∃ i, i < 5 ∧ inA (o i) b
def DkG (ka : Option Addr) (pa : List (Option Addr)) (b : Nat) : Prop := ∃ x, x ∈ ka :: pa ∧ inA x b
theorem DkR.extW {W : Nat → Prop} (R : DkR h n d o ka pa fl ps fuse keep calls down) (e : ExtW W n h h1) (hn : n ≤ n1) (hF : ∀ b, DkF d o b → ¬ W b) (hG : ∀ b, DkG ka pa b → ¬ W b) : DkR h1 n1 d o ka pa fl ps fuse keep calls down := by
  have hd := hF d (.inl rfl)
  have ho : ∀ i, i < 5 → o i ≠ none → ¬ W (sb (o i)) := fun i hi hne => hF _ (.inr ⟨i, hi, hne, rfl⟩)
  have hg : ∀ x, x ∈ ka :: pa → x ≠ none → ¬ W (sb x) := fun x hx hne => hG _ ⟨x, hx, hne, rfl⟩
  have hc : ∀ j, h1.cell d j = h.cell d j := fun j => e.cell d j R.lt hd
  refine ⟨by have := R.lt; omega, by rw [e.info d R.lt hd]; exact R.inf, by rw [hc]; exact R.c0, fun i hi => by rw [hc]; exact R.cf i hi, by rw [hc]; exact R.c5, by rw [hc]; exact R.c6, by rw [hc]; exact R.c7, by rw [hc]; exact R.c8, by rw [hc]; exact R.c9,
    fun i hi => (R.fo i hi).extW e hn (Nat.le_refl _) (ho i (by omega)), R.lo.extW e hn (Nat.le_refl _) (ho 4 (by omega)), R.ks.extW e hn (hg ka (by simp)), fun i p hp hc => (R.dat i p hp hc).extW e hn (hg _ ?_), R.len, R.od, R.oo, R.og, R.dg, fun x hx q => Nat.lt_of_lt_of_le (R.gl x hx q) hn⟩
  have hi : i < pa.length := by rw [R.len]; exact (List.getElem?_eq_some_iff.1 hp).1
  have e2 : pa.getD i none = pa[i] := by simp [List.getD, hi]
  rw [e2]; simp
theorem DkR.ext (R : DkR h n d o ka pa fl ps fuse keep calls down) (e : Ext n h h1) (hn : n ≤ n1) : DkR h1 n1 d o ka pa fl ps fuse keep calls down :=
  R.extW (W := fun _ => False) (ExtW.of e (Nat.le_refl _)) hn (fun _ _ q => q) (fun _ _ q => q)
theorem DkR.ltF (R : DkR h n d o ka pa fl ps fuse keep calls down) : ∀ b, DkF d o b → b < n := by
  rintro b (rfl | ⟨i, hi, hne, rfl⟩)
  · exact R.lt
  · by_cases h4 : i < 4
    · exact ((R.fo i h4).at'.resolve_left hne).2
    · obtain rfl : i = 4 := by omega
      exact (R.lo.at'.resolve_left hne).2
theorem DkR.gmem (R : DkR h n d o ka pa fl ps fuse keep calls down) {i : Nat} {p : Pc} (hp : ps[i]? = some p) : pa.getD i none ∈ ka :: pa := by
  have hi : i < pa.length := by rw [R.len]; exact (List.getElem?_eq_some_iff.1 hp).1
  have e2 : pa.getD i none = pa[i] := by simp [List.getD, hi]
  rw [e2]; simp
/-- The same number of cells of the block is changed where no row is told. -/
theorem DkR.scalar (R : DkR h n d o ka pa fl ps fuse keep calls down) {j : Nat} {v : Value} {fuse' calls' : Int} {down' : Bool} (hj : j = 6 ∧ v = .int .i64 fuse' ∧ calls' = calls ∧ down' = down ∨ j = 8 ∧ v = .int .i64 calls' ∧ fuse' = fuse ∧ down' = down ∨ j = 9 ∧ v = .bool down' ∧ fuse' = fuse ∧ calls' = calls) :
    DkR (h.app (.sets d j [v])) n d o ka pa fl ps fuse' keep calls' down' := by
  have hne : ∀ i, i ≠ j → ∀ {w}, h.cell d i = w → (h.app (.sets d j [v])).cell d i = w := fun i hi w hw => c_out (.inr (by simp only [List.length_cons, List.length_nil]; omega)) hw
  have heq : (h.app (.sets d j [v])).cell d j = v := c_in (Nat.le_refl _) (by simp)
  have ho : ∀ i, i < 5 → o i = none ∨ sb (o i) ≠ d := fun i hi => (R.od i hi).imp id Ne.symm
  have hsl : ∀ {α : Type} {z m : Nat} {a : Option Addr} {f : Nat → Value}, apd d a → SlR h n a z m f → SlR (h.app (.sets d j [v])) n a z m f := fun {α z m a f} ha s =>
    s.extW (W := fun b => b = d) (ExtW.appSets (.inl rfl) (ExtW.refl _ _ _)) (Nat.le_refl _) (fun q e => (ha.resolve_left q) e.symm)
  refine ⟨R.lt, i_sets R.inf, hne 0 (by omega) R.c0, fun i hi => hne _ (by omega) (R.cf i hi), hne 5 (by omega) R.c5, ?_, hne 7 (by omega) R.c7, ?_, ?_, fun i hi => (R.fo i hi).setsN (ho i (by omega)), R.lo.setsN (ho 4 (by omega)), hsl (α := Nat) (R.dg ka (by simp)) R.ks,
    fun i p hp hc => hsl (α := Nat) (R.dg _ (R.gmem hp)) (R.dat i p hp hc), R.len, R.od, R.oo, R.og, R.dg, R.gl⟩
  · rcases hj with ⟨rfl, rfl, _, _⟩ | ⟨rfl, _, rfl, _⟩ | ⟨rfl, _, rfl, _⟩
    · exact heq
    · exact hne 6 (by omega) R.c6
    · exact hne 6 (by omega) R.c6
  · rcases hj with ⟨rfl, _, rfl, _⟩ | ⟨rfl, rfl, _, _⟩ | ⟨rfl, _, _, rfl⟩
    · exact hne 8 (by omega) R.c8
    · exact heq
    · exact hne 8 (by omega) R.c8
  · rcases hj with ⟨rfl, _, _, rfl⟩ | ⟨rfl, _, _, rfl⟩ | ⟨rfl, rfl, _, _⟩
    · exact hne 9 (by omega) R.c9
    · exact hne 9 (by omega) R.c9
    · exact heq
theorem apt_new {n : Nat} {a a' x : Option Addr} (h : apt a x) (hx : x ≠ none → sb x < n) (hn : a' = a ∨ a' = none ∨ n ≤ sb a') : apt a' x := by
  rcases hn with q | q | q
  · rw [q]; exact h
  · exact .inl q
  · by_cases e : x = none
    · exact .inr (.inl e)
    · have := hx e
      exact .inr (.inr (by omega))
theorem apd_new {n d : Nat} {a a' : Option Addr} (h : apd d a) (hd : d < n) (hn : a' = a ∨ a' = none ∨ n ≤ sb a') : apd d a' := by
  rcases hn with q | q | q
  · rw [q]; exact h
  · exact .inl q
  · exact .inr (by omega)
theorem DkR.ltG (R : DkR h n d o ka pa fl ps fuse keep calls down) {i : Nat} {p : Pc} (hp : ps[i]? = some p) (hc : p.cut = false) (hne : pa.getD i none ≠ none) : sb (pa.getD i none) < n := (R.dat i p hp hc).ltA hne
end
end Go.Proofs.YtfbddbpbifnhfaaDoor.Dk

/- Contracts taken from disk (written by port.py). -/
namespace Go.Proofs.YtfbddbpbifnhfaaDoor.Dk
open Go.Abs
section
variable {h h1 h2 : AH} {n n1 n2 d : Nat} {o : Nat → Option Addr} {ka : Option Addr} {pa : List (Option Addr)} {fl : Nat → List UInt8} {ps : List Pc} {fuse : Int} {keep : List Bool} {calls : Int} {down : Bool}
theorem rowT {j z m : Nat} {a x : Option Addr} {vs cs : List Value} (hX : ExtX n a h h2) (hn : n ≤ n2) (q : OwnSl h 0 n x z m cs) (ha : apt a x) (hd : apd d x) : OwnSl (h2.app (.sets d j vs)) 0 n2 x z m cs := by
  refine OwnSl.setsN (q.extX hX hn ?_) (hd.imp id Ne.symm)
  rcases ha with k | k | k
  · exact .inl k
  · exact .inr (.inl k)
  · exact .inr (.inr (Ne.symm k))
theorem slT {j z m : Nat} {a x : Option Addr} {vs : List Value} {f : Nat → Value} (hX : ExtX n a h h2) (hn : n ≤ n2) (q : SlR h n x z m f) (ha : apt a x) (hd : apd d x) : SlR (h2.app (.sets d j vs)) n2 x z m f := by
  have q2 := (q.extX hX (by
    rcases ha with k | k | k
    · exact .inl k
    · exact .inr (.inl k)
    · exact .inr (.inr (Ne.symm k)))).ext (Ext.refl _ _) hn
  exact q2.extW (W := fun b => b = d) (ExtW.appSets (.inl rfl) (ExtW.refl _ _ _)) (Nat.le_refl _) (fun e q => (hd.resolve_left e) q.symm)
theorem cellT {j i : Nat} {a : Option Addr} {v w : Value} (hX : ExtX n a h h2) (ha : apd d a) (hd : d < n) (hij : i ≠ j) (hw : h.cell d i = w) : (h2.app (.sets d j [v])).cell d i = w :=
  c_out (.inr (by simp only [List.length_cons, List.length_nil]; omega)) (c_extX hX hd ha hw)
theorem DkR.rlt (R : DkR h n d o ka pa fl ps fuse keep calls down) {i : Nat} (hi : i < 5) (hne : o i ≠ none) : sb (o i) < n := R.ltF _ (.inr ⟨i, hi, hne, rfl⟩)
theorem DkR.file {i : Nat} {a' : Option Addr} {l' : List UInt8} (R : DkR h n d o ka pa fl ps fuse keep calls down) (hi : i < 4) (hX : ExtX n (o i) h h2) (hn : n ≤ n2) (hO : OwnSl h2 0 n2 a' 1 l'.length (bytesV l')) (hnew : a' = o i ∨ a' = none ∨ n ≤ sb a') :
    DkR (h2.app (.sets d (1 + i) [.slice a' l'.length l'.length])) n2 d (upd o i a') ka pa (upd fl i l') ps fuse keep calls down := by
  have hdi := R.od i (by omega)
  have hlt := R.lt
  have hdn : apd d a' := apd_new hdi hlt hnew
  refine ⟨by omega, i_sets (i_extX hX hlt hdi R.inf), cellT hX hdi hlt (by omega) R.c0, fun j hj => ?_, ?_, cellT hX hdi hlt (by omega) R.c6, cellT hX hdi hlt (by omega) R.c7, cellT hX hdi hlt (by omega) R.c8, cellT hX hdi hlt (by omega) R.c9,
    fun j hj => ?_, ?_, slT hX hn R.ks (R.og i ka (by omega) (by simp)) (R.dg ka (by simp)), fun j p hp hc => slT hX hn (R.dat j p hp hc) (R.og i _ (by omega) (R.gmem hp)) (R.dg _ (R.gmem hp)), R.len, fun j hj => ?_, fun j q hj hq hne => ?_, fun j x hj hx => ?_, R.dg, fun x hx q => Nat.lt_of_lt_of_le (R.gl x hx q) hn⟩
  · by_cases e : j = i
    · subst e
      rw [upd_same, upd_same]
      exact c_in (Nat.le_refl _) (by simp)
    · rw [upd_ne _ _ e, upd_ne _ _ e]
      exact cellT hX hdi hlt (by omega) (R.cf j hj)
  · rw [upd_ne _ _ (by omega)]
    exact cellT hX hdi hlt (by omega) R.c5
  · by_cases e : j = i
    · subst e
      rw [upd_same, upd_same]
      exact hO.setsN (hdn.imp id Ne.symm)
    · rw [upd_ne _ _ e, upd_ne _ _ e]
      exact rowT hX hn (R.fo j hj) (R.oo i j (by omega) (by omega) (Ne.symm e)) (R.od j (by omega))
  · rw [upd_ne _ _ (by omega)]
    exact rowT hX hn R.lo (R.oo i 4 (by omega) (by omega) (by omega)) (R.od 4 (by omega))
  · by_cases e : j = i
    · subst e; rw [upd_same]; exact hdn
    · rw [upd_ne _ _ e]; exact R.od j hj
  · by_cases e : j = i
    · subst e
      rw [upd_same, upd_ne _ _ (Ne.symm hne)]
      exact apt_new (R.oo j q hj hq hne) (R.rlt hq) hnew
    · rw [upd_ne _ _ e]
      by_cases e2 : q = i
      · subst e2
        rw [upd_same]
        exact (apt_new (R.oo q j hq hj (Ne.symm hne)) (R.rlt hj) hnew).symm
      · rw [upd_ne _ _ e2]; exact R.oo j q hj hq hne
  · by_cases e : j = i
    · subst e
      rw [upd_same]
      exact apt_new (R.og j x hj hx) (R.gl x hx) hnew
    · rw [upd_ne _ _ e]; exact R.og j x hj hx
theorem DkR.push {a' c : Option Addr} {p : Pc} (R : DkR h n d o ka pa fl ps fuse keep calls down) (hX : ExtX n (o 4) h h2) (hn : n ≤ n2) (hO : OwnSl h2 0 n2 a' 2 (ps.length + 1) (pcsC ps pa ++ pcC p c)) (hnew : a' = o 4 ∨ a' = none ∨ n ≤ sb a')
    (hS : p.cut = false → SlB h n c p.b) (hc : c ≠ none → sb c < n) (hco : ∀ i, i < 5 → apt (o i) c) (hcd : apd d c) :
    DkR (h2.app (.sets d 5 [.slice a' (ps.length + 1) (ps.length + 1)])) n2 d (upd o 4 a') ka (pa ++ [c]) fl (ps ++ [p]) fuse keep calls down := by
  have hdi := R.od 4 (by omega)
  have hlt := R.lt
  have hdn : apd d a' := apd_new hdi hlt hnew
  have hmem : ∀ x, x ∈ ka :: (pa ++ [c]) → x ∈ ka :: pa ∨ x = c := fun x hx => by
    simp only [List.mem_cons, List.mem_append, List.not_mem_nil, or_false] at hx ⊢
    rcases hx with q | q | q
    · exact .inl (.inl q)
    · exact .inl (.inr q)
    · exact .inr q
  refine ⟨by omega, i_sets (i_extX hX hlt hdi R.inf), cellT hX hdi hlt (by omega) R.c0, fun j hj => ?_, ?_, cellT hX hdi hlt (by omega) R.c6, cellT hX hdi hlt (by omega) R.c7, cellT hX hdi hlt (by omega) R.c8, cellT hX hdi hlt (by omega) R.c9,
    fun j hj => ?_, ?_, slT hX hn R.ks (R.og 4 ka (by omega) (by simp)) (R.dg ka (by simp)), fun j p' hp hc' => ?_, by simp [R.len], fun j hj => ?_, fun j q hj hq hne => ?_, fun j x hj hx => ?_, fun x hx => ?_, fun x hx q => ?_⟩
  · rw [upd_ne _ _ (by omega)]
    exact cellT hX hdi hlt (by omega) (R.cf j hj)
  · rw [upd_same, List.length_append]
    exact c_in (Nat.le_refl _) (by simp)
  · rw [upd_ne _ _ (by omega)]
    exact rowT hX hn (R.fo j hj) (R.oo 4 j (by omega) (by omega) (by omega)) (R.od j (by omega))
  · rw [upd_same, List.length_append, pcsC_snoc _ _ _ _ R.len]
    exact hO.setsN (hdn.imp id Ne.symm)
  · by_cases hj : j < ps.length
    · rw [List.getElem?_append_left hj] at hp
      have e : (pa ++ [c]).getD j none = pa.getD j none := by
        simp only [List.getD]
        rw [List.getElem?_append_left (by rw [R.len]; exact hj)]
      rw [e]
      exact slT hX hn (R.dat j p' hp hc') (R.og 4 _ (by omega) (R.gmem hp)) (R.dg _ (R.gmem hp))
    · have hj2 : j = ps.length := by
        have := (List.getElem?_eq_some_iff.1 hp).1
        simp at this; omega
      subst hj2
      rw [List.getElem?_append_right (Nat.le_refl _)] at hp
      simp at hp; subst hp
      have e : (pa ++ [c]).getD ps.length none = c := by
        simp only [List.getD]
        rw [List.getElem?_append_right (by rw [R.len]; exact Nat.le_refl _), R.len]; simp
      rw [e]
      exact slT hX hn (hS hc') (hco 4 (by omega)) hcd
  · by_cases e : j = 4
    · subst e; rw [upd_same]; exact hdn
    · rw [upd_ne _ _ e]; exact R.od j hj
  · by_cases e : j = 4
    · subst e
      rw [upd_same, upd_ne _ _ (Ne.symm hne)]
      exact apt_new (R.oo 4 q hj hq hne) (R.rlt hq) hnew
    · rw [upd_ne _ _ e]
      by_cases e2 : q = 4
      · subst e2
        rw [upd_same]
        exact (apt_new (R.oo 4 j hq hj (Ne.symm hne)) (R.rlt hj) hnew).symm
      · rw [upd_ne _ _ e2]; exact R.oo j q hj hq hne
  · by_cases e : j = 4
    · subst e
      rw [upd_same]
      rcases hmem x hx with hx | rfl
      · exact apt_new (R.og 4 x hj hx) (R.gl x hx) hnew
      · exact apt_new (hco 4 hj) hc hnew
    · rw [upd_ne _ _ e]
      rcases hmem x hx with hx | rfl
      · exact R.og j x hj hx
      · exact hco j hj
  · rcases hmem x hx with hx | rfl
    · exact R.dg x hx
    · exact hcd
  · rcases hmem x hx with hx | rfl
    · exact Nat.lt_of_lt_of_le (R.gl x hx q) hn
    · exact Nat.lt_of_lt_of_le (hc q) hn
/-- The row of pieces is another one; its bytes are of those that were there. -/
theorem DkR.list {a' : Option Addr} {ps' : List Pc} {pa' : List (Option Addr)} (R : DkR h n d o ka pa fl ps fuse keep calls down) (hX : ExtX n (o 4) h h2) (hn : n ≤ n2) (hO : OwnSl h2 0 n2 a' 2 ps'.length (pcsC ps' pa')) (hnew : a' = o 4 ∨ a' = none ∨ n ≤ sb a')
    (hlen : pa'.length = ps'.length) (hmem : ∀ x, x ∈ pa' → x ∈ pa) (hdat : ∀ i p, ps'[i]? = some p → p.cut = false → ∃ j, ps[j]? = some p ∧ pa'.getD i none = pa.getD j none) :
    DkR (h2.app (.sets d 5 [.slice a' ps'.length ps'.length])) n2 d (upd o 4 a') ka pa' fl ps' fuse keep calls down := by
  have hdi := R.od 4 (by omega)
  have hlt := R.lt
  have hdn : apd d a' := apd_new hdi hlt hnew
  have hm : ∀ x, x ∈ ka :: pa' → x ∈ ka :: pa := fun x hx => by
    simp only [List.mem_cons] at hx ⊢
    exact hx.imp id (hmem x)
  refine ⟨by omega, i_sets (i_extX hX hlt hdi R.inf), cellT hX hdi hlt (by omega) R.c0, fun j hj => ?_, ?_, cellT hX hdi hlt (by omega) R.c6, cellT hX hdi hlt (by omega) R.c7, cellT hX hdi hlt (by omega) R.c8, cellT hX hdi hlt (by omega) R.c9,
    fun j hj => ?_, ?_, slT hX hn R.ks (R.og 4 ka (by omega) (by simp)) (R.dg ka (by simp)), fun j p' hp hc' => ?_, hlen, fun j hj => ?_, fun j q hj hq hne => ?_, fun j x hj hx => ?_, fun x hx => R.dg x (hm x hx), fun x hx q => Nat.lt_of_lt_of_le (R.gl x (hm x hx) q) hn⟩
  · rw [upd_ne _ _ (by omega)]
    exact cellT hX hdi hlt (by omega) (R.cf j hj)
  · rw [upd_same]
    exact c_in (Nat.le_refl _) (by simp)
  · rw [upd_ne _ _ (by omega)]
    exact rowT hX hn (R.fo j hj) (R.oo 4 j (by omega) (by omega) (by omega)) (R.od j (by omega))
  · rw [upd_same]
    exact hO.setsN (hdn.imp id Ne.symm)
  · obtain ⟨k, hk, e⟩ := hdat j p' hp hc'
    rw [e]
    exact slT hX hn (R.dat k p' hk hc') (R.og 4 _ (by omega) (R.gmem hk)) (R.dg _ (R.gmem hk))
  · by_cases e : j = 4
    · subst e; rw [upd_same]; exact hdn
    · rw [upd_ne _ _ e]; exact R.od j hj
  · by_cases e : j = 4
    · subst e
      rw [upd_same, upd_ne _ _ (Ne.symm hne)]
      exact apt_new (R.oo 4 q hj hq hne) (R.rlt hq) hnew
    · rw [upd_ne _ _ e]
      by_cases e2 : q = 4
      · subst e2
        rw [upd_same]
        exact (apt_new (R.oo 4 j hq hj (Ne.symm hne)) (R.rlt hj) hnew).symm
      · rw [upd_ne _ _ e2]; exact R.oo j q hj hq hne
  · by_cases e : j = 4
    · subst e
      rw [upd_same]
      exact apt_new (R.og 4 x hj (hm x hx)) (R.gl x (hm x hx)) hnew
    · rw [upd_ne _ _ e]
      exact R.og j x hj (hm x hx)
theorem DkR.fileJ {i j : Nat} {a' : Option Addr} {l' : List UInt8} (R : DkR h n d o ka pa fl ps fuse keep calls down) (hi : i < 4) (hj : j = 1 + i) (hX : ExtX n (o i) h h2) (hn : n ≤ n2) (hO : OwnSl h2 0 n2 a' 1 l'.length (bytesV l')) (hnew : a' = o i ∨ a' = none ∨ n ≤ sb a') :
    DkR (h2.app (.sets d j [.slice a' l'.length l'.length])) n2 d (upd o i a') ka pa (upd fl i l') ps fuse keep calls down := by
  subst hj; exact R.file hi hX hn hO hnew
theorem DkR.congr {fl' : Nat → List UInt8} (R : DkR h n d o ka pa fl ps fuse keep calls down) (e : ∀ i, i < 4 → fl i = fl' i) : DkR h n d o ka pa fl' ps fuse keep calls down :=
  ⟨R.lt, R.inf, R.c0, fun i hi => by rw [← e i hi]; exact R.cf i hi, R.c5, R.c6, R.c7, R.c8, R.c9, fun i hi => by rw [← e i hi]; exact R.fo i hi, R.lo, R.ks, R.dat, R.len, R.od, R.oo, R.og, R.dg, R.gl⟩
/-- Rows that are as they were, none, or new. -/
def oNew (n : Nat) (o o' : Nat → Option Addr) : Prop := ∀ i, i < 5 → o' i = o i ∨ o' i = none ∨ n ≤ sb (o' i)
theorem oNew.refl (n : Nat) (o : Nat → Option Addr) : oNew n o o := fun _ _ => .inl rfl
theorem oNew.upd {o' : Nat → Option Addr} {i : Nat} {a' : Option Addr} (q : oNew n o o') (hn : n ≤ n1) (k : a' = o' i ∨ a' = none ∨ n1 ≤ sb a') : oNew n o (upd o' i a') := fun j hj => by
  by_cases e : j = i
  · subst e
    rw [upd_same]
    rcases k with k | k | k
    · rw [k]; exact q j hj
    · exact .inr (.inl k)
    · exact .inr (.inr (by omega))
  · rw [upd_ne _ _ e]; exact q j hj
theorem oNew.trans {o1 o2 : Nat → Option Addr} (p : oNew n o o1) (q : oNew n1 o1 o2) (hn : n ≤ n1) : oNew n o o2 := fun j hj => by
  rcases q j hj with k | k | k
  · rw [k]; exact p j hj
  · exact .inr (.inl k)
  · exact .inr (.inr (by omega))
theorem oNew.F {o' : Nat → Option Addr} (q : oNew n o o') : ∀ b, b < n → DkF d o' b → DkF d o b := by
  rintro b hb (rfl | ⟨i, hi, hne, rfl⟩)
  · exact .inl rfl
  · rcases q i hi with k | k | k
    · exact .inr ⟨i, hi, by rw [← k]; exact hne, by rw [k]⟩
    · exact absurd k hne
    · omega
theorem oNew.apt {o' : Nat → Option Addr} {c : Option Addr} (q : oNew n o o') (hc : c ≠ none → sb c < n) (hco : ∀ i, i < 5 → apt (o i) c) : ∀ i, i < 5 → apt (o' i) c := fun i hi => apt_new (hco i hi) hc (q i hi)
end
end Go.Proofs.YtfbddbpbifnhfaaDoor.Dk

/- Contracts taken from disk (written by port.py). -/
namespace Go.Proofs.YtfbddbpbifnhfaaDoor.Dk
open Go.Abs
section
variable {h h1 h2 : AH} {n n1 n2 d : Nat} {o : Nat → Option Addr} {ka : Option Addr} {pa : List (Option Addr)} {fl : Nat → List UInt8} {ps : List Pc} {fuse : Int} {keep : List Bool} {calls : Int} {down : Bool}
set_option maxHeartbeats 4000000 in
theorem none_ev (R : DkR h n d o ka pa fl ps fuse keep calls down) : Ev Tryd.prog none' 55 #[.pointer (some ⟨d, 0, none⟩)] n h (.bool false) n h := by
  refine RF.pure rfl fun n' hn => ?_
  have R := R.ext (Ext.refl n h) hn
  have h0 := R.c0
  have hlt := R.lt
  refine RF.of Tryd.func55 rfl rfl (Nat.le_of_ble_eq_true rfl) ?_; dsimp only [argEnv]
  repeat' (first | refine stpS ?_ | (refine stp2 ?_ ?_ <;> intro _))
  rfl
set_option maxHeartbeats 4000000 in
theorem noneN_ev : Ev Tryd.prog none' 55 #[.pointer none] n h (.bool true) n h := by
  refine RF.pure rfl fun n' hn => ?_
  refine RF.of Tryd.func55 rfl rfl (Nat.le_of_ble_eq_true rfl) ?_; dsimp only [argEnv]
  repeat' (first | refine stpS ?_ | (refine stp2 ?_ ?_ <;> intro _))
  rfl
def mayE (down : Bool) (f : Int) : Int := if down = true then 6 else if f ≠ 0 ∧ f ≠ 1 then 1 else 0
set_option maxHeartbeats 4000000 in
theorem may_ev (R : DkR h n d o ka pa fl ps fuse keep calls down) (f : Int) : Ev Tryd.prog none' 49 #[.pointer (some ⟨d, 0, none⟩), .int .i64 f] n h (.int .i64 (mayE down f)) n h := by
  refine RF.pure rfl fun n' hn => ?_
  have R := R.ext (Ext.refl n h) hn
  have h9 := R.c9
  have hlt := R.lt
  refine RF.of Tryd.func49 rfl rfl (Nat.le_of_ble_eq_true rfl) ?_; dsimp only [argEnv]
  cases hd : down
  · rw [hd] at h9
    by_cases h0 : f = 0
    · repeat' (first | refine stpS ?_ | (refine stp2 ?_ ?_ <;> intro _) | refine RS.call1 rfl opds (none_ev R) none'W ?_)
      simp [mayE, h0]
    · by_cases h1 : f = 1
      · repeat' (first | refine stpS ?_ | (refine stp2 ?_ ?_ <;> intro _) | refine RS.call1 rfl opds (none_ev R) none'W ?_)
        simp [mayE, h1]
      · repeat' (first | refine stpS ?_ | (refine stp2 ?_ ?_ <;> intro _) | refine RS.call1 rfl opds (none_ev R) none'W ?_)
        simp [mayE, h0, h1]
  · rw [hd] at h9
    repeat' (first | refine stpS ?_ | (refine stp2 ?_ ?_ <;> intro _) | refine RS.call1 rfl opds (none_ev R) none'W ?_)
    simp [mayE]
set_option maxHeartbeats 4000000 in
theorem done_rf {p : Pc} {c : Option Addr} (R : DkR h n d o ka pa fl ps fuse keep calls down) (hp : PcOk p) (hfl : (fl p.file).length ≤ 4194304) (hps : ps.length ≤ 1099511627776) (hS : p.cut = false → SlB h n c p.b) (hc : c ≠ none → sb c < n) (hco : ∀ i, i < 5 → apt (o i) c) (hcd : apd d c) :
    RF Tryd.prog (DkF d o) 50 #[.pointer (some ⟨d, 0, none⟩), .int .i64 (p.file : Nat), pcV p c] n h (fun _ n' h' => ∃ a1 a4, DkR h' n' d (upd (upd o p.file a1) 4 a4) ka (pa ++ [c]) (upd fl p.file (doP (fl p.file) p)) (ps ++ [p]) fuse keep calls down ∧
      (a1 = o p.file ∨ n ≤ sb a1) ∧ (a4 = o 4 ∨ n ≤ sb a4) ∧ ExtW (DkF d o) n h h') := by
  have hi : p.file < 2 := by rcases hp.file with h0 | h0 <;> omega
  refine RF.of Tryd.func50 rfl rfl (Nat.le_of_ble_eq_true rfl) ?_; dsimp only [argEnv]
  have hlt := R.lt
  have hinf := R.inf
  have Rb := R.ext (AH.below_ext h n) (Nat.le_refl _)
  have hTd : DkF d o d := .inl rfl
  have c1 : h.cell d (1 + p.file) = .slice (o p.file) (fl p.file).length (fl p.file).length := R.cf p.file (by omega)
  have hod : o p.file = none ∨ d ≠ sb (o p.file) := R.od p.file (by omega)
  have hnd : ¬ inA (o p.file) d := fun q => (hod.resolve_left q.1) q.2
  have hWl : ∀ b, inA (o p.file) b → b < n := fun b q => by rw [q.2]; exact R.rlt (by omega) q.1
  have fin : ∀ (a1 a4 : Option Addr) (n1 n2 : Nat) (h1 h2 : AH), n ≤ n1 → n1 ≤ n2 → OwnSl h1 0 n1 a1 1 (doP (fl p.file) p).length (bytesV (doP (fl p.file) p)) → ExtX n (o p.file) (h.below n) h1 → (a1 = o p.file ∨ n ≤ sb a1) →
      ExtX n1 (o 4) (h1.app (.sets d (1 + p.file) [.slice a1 (doP (fl p.file) p).length (doP (fl p.file) p).length])) h2 → OwnSl h2 0 n2 a4 2 (ps.length + 1) (pcsC ps pa ++ pcC p c) → (a4 = o 4 ∨ n1 ≤ sb a4) →
      ∃ a1 a4', DkR (h2.app (.sets d 5 [.slice a4 (ps.length + 1) (ps.length + 1)])) n2 d (upd (upd o p.file a1) 4 a4') ka (pa ++ [c]) (upd fl p.file (doP (fl p.file) p)) (ps ++ [p]) fuse keep calls down ∧
      (a1 = o p.file ∨ n ≤ sb a1) ∧ (a4' = o 4 ∨ n ≤ sb a4') ∧ ExtW (DkF d o) n h (h2.app (.sets d 5 [.slice a4 (ps.length + 1) (ps.length + 1)])) := by
    intro a1 a4 n1 n2 h1 h2 hle hle2 hO1 hX1 hnew1 hX3 hO5 hnew2
    have R1 := Rb.file (i := p.file) (by omega) hX1 hle hO1 (hnew1.imp id .inr)
    have e4 : upd o p.file a1 4 = o 4 := upd_ne _ _ (show 4 ≠ p.file by omega)
    have hcb := hco p.file (by omega)
    have w1 : ExtW (DkF d o) n h h1 := (ExtW.ofX (W := DkF d o) hX1 (fun q => .inr ⟨p.file, by omega, q, rfl⟩)).via (Nat.le_refl n) (fun _ _ q => q) (ExtW.of (AH.below_ext h n) (Nat.le_refl _))
    have w2 := ExtW.appSets (b := d) (o := 1 + p.file) (vs := [.slice a1 (doP (fl p.file) p).length (doP (fl p.file) p).length]) (.inl hTd) w1
    have w3 := (ExtW.ofX (W := DkF d o) hX3 (fun q => .inr ⟨4, by omega, q, rfl⟩)).via hle (fun _ _ q => q) w2
    refine ⟨a1, a4, R1.push (p := p) (c := c) (by rw [e4]; exact hX3) hle2 hO5 (by rw [e4]; exact hnew2.imp id .inr) (fun q => ?_) (fun q => Nat.lt_of_lt_of_le (hc q) hle) (fun i hi => ?_) hcd, hnew1, hnew2.imp id (by omega), ExtW.appSets (.inl hTd) w3⟩
    · exact slT hX1 hle ((hS q).ext (AH.below_ext h n) (Nat.le_refl _)) hcb hcd
    · by_cases e : i = p.file
      · subst e; rw [upd_same]; exact apt_new hcb hc (hnew1.imp id .inr)
      · rw [upd_ne _ _ e]; exact hco i hi
  cases hcut : p.cut
  · have hv : pcV p c = .iface 96 (.agg #[.int .i64 (p.at_ : Nat), .slice c p.b.length p.b.length]) := by simp [pcV, hcut]
    rw [hv]
    repeat' (first | refine stp ?_ | (refine stp2 ?_ ?_ <;> intro _))
    refine RD.invoke n rfl opd opds (bitDo_rf (fl p.file) p.b (o p.file) c _ _ n p.at_ _ (Rb.fo p.file (by omega)) ((hS hcut).ext (AH.below_ext h n) (Nat.le_refl _)) rfl rfl (hp.some hcut).1 hfl (hp.some hcut).2 (hco p.file (by omega))) (fun b hb => .inl (.inr ⟨p.file, by omega, hb⟩)) (Nat.le_refl _) cfw ?_
    rintro r n1 h1 hle ⟨a1, rfl, hO1, hX1, hnew1⟩
    repeat' (first | refine stp ?_ | (refine stp2 ?_ ?_ <;> intro _))
    have hdo : doP (fl p.file) ⟨0, false, p.at_, p.b⟩ = doP (fl p.file) p := by simp [doP, hcut]
    rw [hdo] at hO1 ⊢
    have hv : pcV p c = .iface 96 (.agg #[.int .i64 (p.at_ : Nat), .slice c p.b.length p.b.length]) := by simp [pcV, hcut]
    have R1 := Rb.file (i := p.file) (by omega) hX1 hle hO1 (hnew1.imp id .inr)
    have c5 := R1.c5
    have hO4 := R1.lo
    have e4 : upd o p.file a1 4 = o 4 := upd_ne _ _ (show 4 ≠ p.file by omega)
    rw [e4] at hO4 c5
    repeat' refine stp ?_
    refine RS.appendT rfl opd opd (hO4.ext ext (by omega)) (OwnSl.src (OwnSl.new (n0 := 0) (m := 1) (z := 2) (Nat.zero_le _) rfl rfl)) full_slice (fun q => .inl (.inr ⟨4, by omega, q, rfl⟩)) (by omega) ?_
    intro a4 n2 h2 hle2 hO5 hX2 hnew2
    have hX3 : ExtX n1 (o 4) (h1.app (.sets d (1 + p.file) [.slice a1 (doP (fl p.file) p).length (doP (fl p.file) p).length])) h2 := fun x hx hne => by
      have := hX2 x (by omega) hne
      exact ⟨this.1.trans (i_new_ne (by omega) rfl), fun i => (this.2 i).trans (c_new_ne (by omega) rfl)⟩
    have i2 := R1.inf
    have hdl := R1.lt
    have ho4 := R.od 4 (by omega)
    have hd4 : o 4 = none ∨ d ≠ sb (o 4) := ho4
    repeat' refine stp ?_
    have hp1 : pcC p c = [.int .i64 (p.file : Nat), .iface 96 (.agg #[.int .i64 (p.at_ : Nat), .slice c p.b.length p.b.length])] := by rw [pcC, hv]
    exact fin a1 a4 n1 n2 h1 h2 hle (by omega) hO1 hX1 hnew1 hX3 (by rw [hp1]; exact hO5) (hnew2.imp id (by omega))
  · have hv : pcV p c = .iface 113 (.int .i64 (p.at_ : Nat)) := by simp [pcV, hcut]
    rw [hv]
    repeat' (first | refine stp ?_ | (refine stp2 ?_ ?_ <;> intro _))
    refine RD.invoke n rfl opd opds (cutDo_rf (fl p.file) (o p.file) _ n p.at_ _ (Rb.fo p.file (by omega)) rfl) (fun b hb => .inl (.inr ⟨p.file, by omega, hb⟩)) (Nat.le_refl _) cfw ?_
    rintro r n1 h1 hle ⟨a1, rfl, hO1, hX1, hnew1⟩
    repeat' (first | refine stp ?_ | (refine stp2 ?_ ?_ <;> intro _))
    have hdo : (fl p.file).take p.at_ = doP (fl p.file) p := by simp [doP, hcut]
    rw [hdo] at hO1 ⊢
    have hv : pcV p c = .iface 113 (.int .i64 (p.at_ : Nat)) := by simp [pcV, hcut]
    have R1 := Rb.file (i := p.file) (by omega) hX1 hle hO1 (hnew1.imp id .inr)
    have c5 := R1.c5
    have hO4 := R1.lo
    have e4 : upd o p.file a1 4 = o 4 := upd_ne _ _ (show 4 ≠ p.file by omega)
    rw [e4] at hO4 c5
    repeat' refine stp ?_
    refine RS.appendT rfl opd opd (hO4.ext ext (by omega)) (OwnSl.src (OwnSl.new (n0 := 0) (m := 1) (z := 2) (Nat.zero_le _) rfl rfl)) full_slice (fun q => .inl (.inr ⟨4, by omega, q, rfl⟩)) (by omega) ?_
    intro a4 n2 h2 hle2 hO5 hX2 hnew2
    have hX3 : ExtX n1 (o 4) (h1.app (.sets d (1 + p.file) [.slice a1 (doP (fl p.file) p).length (doP (fl p.file) p).length])) h2 := fun x hx hne => by
      have := hX2 x (by omega) hne
      exact ⟨this.1.trans (i_new_ne (by omega) rfl), fun i => (this.2 i).trans (c_new_ne (by omega) rfl)⟩
    have i2 := R1.inf
    have hdl := R1.lt
    have ho4 := R.od 4 (by omega)
    have hd4 : o 4 = none ∨ d ≠ sb (o 4) := ho4
    repeat' refine stp ?_
    have hp1 : pcC p c = [.int .i64 (p.file : Nat), .iface 113 (.int .i64 (p.at_ : Nat))] := by rw [pcC, hv]
    exact fin a1 a4 n1 n2 h1 h2 hle (by omega) hO1 hX1 hnew1 hX3 (by rw [hp1]; exact hO5) (hnew2.imp id (by omega))
end
end Go.Proofs.YtfbddbpbifnhfaaDoor.Dk

/- Contracts taken from disk (written by port.py). -/
namespace Go.Proofs.YtfbddbpbifnhfaaDoor.Dk
open Go.Abs
section
variable {h h1 h2 : AH} {n n1 n2 d : Nat} {o : Nat → Option Addr} {ka : Option Addr} {pa : List (Option Addr)} {fl : Nat → List UInt8} {ps : List Pc} {fuse : Int} {keep : List Bool} {calls : Int} {down : Bool}
/-- Both files' bytes while pieces are kept. -/
def flL (fl : Nat → List UInt8) (L : Nat → List UInt8) : Nat → List UInt8 := fun j => if j < 2 then fl j else L (j - 2)
theorem flL_upd (fl L : Nat → List UInt8) (f : Nat) (l : List UInt8) (j : Nat) : upd (flL fl L) (2 + f) l j = flL fl (upd L f l) j := by
  unfold flL upd
  by_cases e : j = 2 + f
  · subst e
    rw [if_pos rfl, if_neg (by omega), if_pos (by omega)]
  · rw [if_neg e]
    by_cases h2 : j < 2
    · simp only [if_pos h2]
    · simp only [if_neg h2, if_neg (show ¬ j - 2 = f by omega)]
theorem flL_2 (fl L : Nat → List UInt8) (f : Nat) : flL fl L (2 + f) = L f := by
  unfold flL
  simp only [if_neg (show ¬ 2 + f < 2 by omega), Nat.add_sub_cancel_left]
set_option maxHeartbeats 4000000 in
theorem lose_rf {c : Option Addr} {ks : List Bool} (R : DkR h n d o ka pa fl ps fuse keep calls down) (hp : ∀ p ∈ ps, PcOk p) (hfl : ∀ f, (fl (2 + f)).length ≤ 4194304) (hps : ps.length ≤ 1099511627776) (hks : ks.length ≤ 1099511627776) (hS : SlT h n c ks) (hco : ∀ i, i < 5 → apt (o i) c) (hcd : apd d c) :
    RF Tryd.prog (DkF d o) 57 #[.pointer (some ⟨d, 0, none⟩), .slice c ks.length ks.length] n h (fun _ n' h' => ∃ o', DkR h' n' d o' ka [] (fun j => loseP (fun f => fl (2 + f)) ps ks (j % 2)) [] 0 keep calls true ∧ oNew n o o' ∧ ExtW (DkF d o) n h h') := by
  refine RF.of Tryd.func57 rfl rfl (Nat.le_of_ble_eq_true rfl) ?_; dsimp only [argEnv]
  have hlt := R.lt
  have c5 := R.c5
  repeat' (first | refine stpS ?_ | (refine stp2 ?_ ?_ <;> intro _))
  refine RC.loop ?_
  refine RL.inv (α := Nat × (Nat → Option Addr)) (fun s => [(12, .int .i64 (s.1 : Nat)), (11, .int .i64 ps.length), (10, .slice (o 4) ps.length ps.length), (1, .slice c ks.length ks.length), (0, .pointer (some ⟨d, 0, none⟩))])
    (fun s n1 h1 => s.1 ≤ ps.length ∧ n ≤ n1 ∧ DkR h1 n1 d s.2 ka pa (flL fl (loseP (fun f => fl (2 + f)) (ps.take s.1) ks)) ps fuse keep calls down ∧ oNew n o s.2 ∧ s.2 4 = o 4 ∧ ExtW (DkF d o) n h h1) (fun s => ps.length - s.1) (0, o) envs
    ⟨by omega, by omega, R.congr fun i hi => ?_, oNew.refl n o, rfl, ExtW.refl _ _ _⟩ ?_
  · unfold flL
    by_cases h2 : i < 2
    · rw [if_pos h2]
    · rw [if_neg h2, List.take_zero, loseP_nil]
      rw [show 2 + (i - 2) = i by omega]
  rintro ⟨i, o1⟩ n1 h1 ⟨hi, hn1, R1, ho1, ho4, hX1⟩
  dsimp only at hi R1 ho1 ho4 hX1 ⊢
  repeat' (first | refine stpS ?_ | (refine stp2 ?_ ?_ <;> intro _))
  · have hi' : i < ps.length := by omega
    obtain ⟨p, hpi⟩ : ∃ p, ps[i]? = some p := ⟨_, List.getElem?_eq_getElem hi'⟩
    have hpo := hp p (List.mem_of_getElem? hpi)
    have hf2 : p.file < 2 := by rcases hpo.file with q | q <;> omega
    obtain ⟨hso, -, hsn, -, hA, hC⟩ := R1.lo.facts (by omega)
    obtain ⟨g0, g1⟩ := pcsC_at ps pa i p R1.len hpi
    have hC0 := hC (i * 2) (by omega)
    have hC1 := hC (i * 2 + 1) (by omega)
    rw [ho4] at hso hsn hA hC0 hC1
    rw [List.getD, Nat.mul_comm i 2, g0] at hC0
    rw [List.getD, Nat.mul_comm i 2, g1] at hC1
    rw [Nat.mul_comm 2 i] at hC0 hC1
    simp only [Option.getD_some] at hC0 hC1
    obtain ⟨t, w, hv⟩ : ∃ t w, pcV p (pa.getD i none) = .iface t w := by
      unfold pcV; split
      · exact ⟨_, _, rfl⟩
      · exact ⟨_, _, rfl⟩
    have hC1' : h1.cell (sb (o 4)) (so (o 4) + i * 2 + 1) = .iface t w := by rw [← hv]; exact hC1
    have hkF : c ≠ none → ¬ DkF d o (sb c) := by
      rintro q (e | ⟨j, hj, hne, e⟩)
      · exact (hcd.resolve_left q) e.symm
      · exact ((hco j hj).resolve_left hne).resolve_left q e.symm
    have hA2 : SlA c ks.length := hS.sla
    have htk : ps.take (i + 1) = ps.take i ++ [p] := by
      rw [List.take_add_one, hpi]; rfl
    have hti : (ps.take i).length = i := by rw [List.length_take]; omega
    have hsn1 := hsn
    cases hk : ks.getD i false
    · have hls : loseP (fun f => fl (2 + f)) (ps.take (i + 1)) ks = loseP (fun f => fl (2 + f)) (ps.take i) ks := by
        rw [htk, loseP_snoc, hti, hk]; simp
      by_cases hik : i < ks.length
      · have hcb : h1.cell (sb c) (so c + i) = .bool false := by
          have := (hS.extW hX1 hn1 hkF).cell i (by omega)
          rw [this, boolsF, hk]
        have hcl : sb c < n1 := Nat.lt_of_lt_of_le (hS.lt (by omega)) hn1
        repeat' (first | refine stpS ?_ | (refine stp2 ?_ ?_ <;> intro _))
        refine nextC.normal ⟨(i + 1, o1), by dsimp only; omega, envs, by dsimp only; omega, by omega, ?_, ho1, ho4, extW⟩
        dsimp only
        rw [hls]
        exact R1.ext ext (by omega)
      · repeat' (first | refine stpS ?_ | (refine stp2 ?_ ?_ <;> intro _))
        refine nextC.normal ⟨(i + 1, o1), by dsimp only; omega, envs, by dsimp only; omega, by omega, ?_, ho1, ho4, extW⟩
        dsimp only
        rw [hls]
        exact R1.ext ext (by omega)
    · have hik : i < ks.length := by
        refine Classical.byContradiction fun q => ?_
        rw [List.getD, List.getElem?_eq_none (by omega)] at hk
        cases hk
      have hls : loseP (fun f => fl (2 + f)) (ps.take (i + 1)) ks = upd (loseP (fun f => fl (2 + f)) (ps.take i) ks) p.file (doP (loseP (fun f => fl (2 + f)) (ps.take i) ks p.file) p) := by
        rw [htk, loseP_snoc, hti, hk]; simp
      have hcb : h1.cell (sb c) (so c + i) = .bool true := by
        have := (hS.extW hX1 hn1 hkF).cell i (by omega)
        rw [this, boolsF, hk]
      have hcl : sb c < n1 := Nat.lt_of_lt_of_le (hS.lt (by omega)) hn1
      have R2 := R1.ext (h1 := (h1.app (.new n1 ⟨2, 0, true, 0⟩ [.int .i64 0, .nilIface])).app (.sets n1 0 [.int .i64 (p.file : Nat), .iface t w])) ext (Nat.le_succ n1)
      repeat' (first | refine stpS ?_ | (refine stp2 ?_ ?_ <;> intro _))
      refine RC.gen (fun g => DkR g (n1 + 1) d o1 ka pa (flL fl (loseP (fun f => fl (2 + f)) (ps.take i) ks)) ps fuse keep calls down ∧ g.cell n1 0 = .int .i64 (p.file : Nat) ∧ g.cell n1 1 = .iface t w ∧ ExtW (DkF d o) n h g) ⟨R2, cell, cell, extW⟩ ?_
      have hrl : ∀ i, i < 5 → o1 i ≠ none → sb (o1 i) < n1 := fun i hi q => R1.rlt hi q
      clear hC1 hC0 hC1' hC hcb R2 R1 hX1
      rintro g ⟨R2, hn0, hn1', hX1⟩
      have hlen := loseP_le (ps := ps.take i) (ks := ks) hfl (fun p hp' => hp p (List.mem_of_mem_take hp'))
      generalize loseP (fun f => fl (2 + f)) (ps.take i) ks = L at *
      have hcf : g.cell d (3 + p.file) = .slice (o1 (2 + p.file)) (L p.file).length (L p.file).length := by
        have := R2.cf (2 + p.file) (by omega)
        rwa [show 1 + (2 + p.file) = 3 + p.file by omega, flL_2] at this
      have hfo : OwnSl g 0 (n1 + 1) (o1 (2 + p.file)) 1 (L p.file).length (bytesV (L p.file)) := by
        have := R2.fo (2 + p.file) (by omega)
        rwa [flL_2] at this
      have hdn := R2.lt
      have hinf := R2.inf
      have hod : o1 (2 + p.file) = none ∨ d ≠ sb (o1 (2 + p.file)) := R2.od (2 + p.file) (by omega)
      have hnd : ¬ inA (o1 (2 + p.file)) d := fun q => (hod.resolve_left q.1) q.2
      have hnn : ¬ inA (o1 (2 + p.file)) n1 := fun q => by
        have := hrl (2 + p.file) (by omega) q.1
        have := q.2
        omega
      have hWl : ∀ b, inA (o1 (2 + p.file)) b → b < n1 + 1 := fun b q => by rw [q.2]; exact R2.rlt (by omega) q.1
      have hTd : DkF d o d := .inl rfl
      have hTf : ∀ b, inA (o1 (2 + p.file)) b → DkF d o b ∨ n ≤ b := fun b q => by
        by_cases hb : b < n
        · exact .inl (ho1.F b hb (.inr ⟨2 + p.file, by omega, q⟩))
        · exact .inr (by omega)
      repeat' (first | refine stp ?_ | (refine stp2 ?_ ?_ <;> intro _))
      have Rb := R2.ext (AH.below_ext g (n1 + 1)) (Nat.le_refl _)
      have hfb := hfo.ext (AH.below_ext g (n1 + 1)) (Nat.le_refl _)
      have hgm := R2.gmem hpi
      cases hcut : p.cut
      · obtain ⟨rfl, rfl⟩ : 96 = t ∧ .agg #[.int .i64 (p.at_ : Nat), .slice (pa.getD i none) p.b.length p.b.length] = w := by
          simp only [pcV, hcut, Bool.false_eq_true, if_false] at hv
          injection hv with q1 q2; exact ⟨q1, q2⟩
        refine RD.invoke (n1 + 1) rfl opd opds (bitDo_rf (L p.file) p.b (o1 (2 + p.file)) (pa.getD i none) _ _ (n1 + 1) p.at_ _ hfb ((R2.dat i p hpi hcut).ext (AH.below_ext g (n1 + 1)) (Nat.le_refl _)) rfl rfl (hpo.some hcut).1 (hlen _) (hpo.some hcut).2 (R2.og (2 + p.file) _ (by omega) hgm)) hTf (Nat.le_refl _) cfw ?_
        rintro r n2 h2 hle ⟨a1, rfl, hO2, hX2, hnew⟩
        have hdo : doP (L p.file) ⟨0, false, p.at_, p.b⟩ = doP (L p.file) p := by simp [doP, hcut]
        rw [hdo] at hO2 ⊢
        have R3 := Rb.fileJ (i := 2 + p.file) (j := 3 + p.file) (by omega) (by omega) hX2 hle hO2 (hnew.imp id .inr)
        repeat' (first | refine stp ?_ | (refine stp2 ?_ ?_ <;> intro _))
        refine nextC.normal ⟨(i + 1, upd o1 (2 + p.file) a1), by dsimp only; omega, envs, by dsimp only; omega, by omega, R3.congr fun j hj => ?_, ho1.upd (n1 := n1 + 1) (by omega) (hnew.imp id .inr), ?_, ExtW.appSets (.inl hTd) ((ExtW.ofX (W := fun b => DkF d o b ∨ n ≤ b) hX2 (fun q => hTf _ ⟨q, rfl⟩)).via (by omega) (fun x hx q => q.resolve_right (by omega)) (hX1.below (by omega)))⟩
        · dsimp only
          rw [hls]; exact flL_upd _ _ _ _ _
        · dsimp only
          rw [upd_ne _ _ (by omega)]; exact ho4
      · obtain ⟨rfl, rfl⟩ : 113 = t ∧ .int .i64 (p.at_ : Nat) = w := by
          simp only [pcV, hcut, if_true] at hv
          injection hv with q1 q2; exact ⟨q1, q2⟩
        refine RD.invoke (n1 + 1) rfl opd opds (cutDo_rf (L p.file) (o1 (2 + p.file)) _ (n1 + 1) p.at_ _ hfb rfl) hTf (Nat.le_refl _) cfw ?_
        rintro r n2 h2 hle ⟨a1, rfl, hO2, hX2, hnew⟩
        have hdo : (L p.file).take p.at_ = doP (L p.file) p := by simp [doP, hcut]
        rw [hdo] at hO2 ⊢
        have R3 := Rb.fileJ (i := 2 + p.file) (j := 3 + p.file) (by omega) (by omega) hX2 hle hO2 (hnew.imp id .inr)
        repeat' (first | refine stp ?_ | (refine stp2 ?_ ?_ <;> intro _))
        refine nextC.normal ⟨(i + 1, upd o1 (2 + p.file) a1), by dsimp only; omega, envs, by dsimp only; omega, by omega, R3.congr fun j hj => ?_, ho1.upd (n1 := n1 + 1) (by omega) (hnew.imp id .inr), ?_, ExtW.appSets (.inl hTd) ((ExtW.ofX (W := fun b => DkF d o b ∨ n ≤ b) hX2 (fun q => hTf _ ⟨q, rfl⟩)).via (by omega) (fun x hx q => q.resolve_right (by omega)) (hX1.below (by omega)))⟩
        · dsimp only
          rw [hls]; exact flL_upd _ _ _ _ _
        · dsimp only
          rw [upd_ne _ _ (by omega)]; exact ho4
  · have hie : i = ps.length := by omega
    subst hie
    rw [List.take_length] at R1
    have hlen := loseP_le (ps := ps) (ks := ks) hfl hp
    generalize loseP (fun f => fl (2 + f)) ps ks = L at *
    refine RC.loop ?_
    refine RL.inv (α := Nat × (Nat → Option Addr)) (fun s => [(46, .int .i64 (s.1 : Nat)), (0, .pointer (some ⟨d, 0, none⟩))])
      (fun s n2 h2 => s.1 ≤ 2 ∧ n ≤ n2 ∧ DkR h2 n2 d s.2 ka pa (fun j => if j < s.1 then L j else flL fl L j) ps fuse keep calls down ∧ oNew n o s.2 ∧ ExtW (DkF d o) n h h2) (fun s => 2 - s.1) (0, o1) envs
      ⟨by omega, hn1, R1.congr fun j _ => rfl, ho1, hX1⟩ ?_
    clear R1 ho1 ho4 hX1
    rintro ⟨f, o2⟩ n2 h2 ⟨hf, hn2, R2, ho2, hX2⟩
    dsimp only at hf R2 ho2 hX2 ⊢
    have hdn := R2.lt
    have hinf := R2.inf
    have hTd : DkF d o d := .inl rfl
    repeat' (first | refine stpS ?_ | (refine stp2 ?_ ?_ <;> intro _))
    · have hf2 : f < 2 := by omega
      have hfl2 : (if 2 + f < f then L (2 + f) else flL fl L (2 + f)) = L f := by
        rw [if_neg (by omega)]; exact flL_2 _ _ _
      have hcf : h2.cell d (3 + f) = .slice (o2 (2 + f)) (L f).length (L f).length := by
        have := R2.cf (2 + f) (by omega)
        rwa [show 1 + (2 + f) = 3 + f by omega, hfl2] at this
      have hfo : OwnSl h2 0 n2 (o2 (2 + f)) 1 (L f).length (bytesV (L f)) := by
        have := R2.fo (2 + f) (by omega)
        rwa [hfl2] at this
      have hLf := hlen f
      repeat' (first | refine stp ?_ | (refine stp2 ?_ ?_ <;> intro _))
      refine RD.call n2 rfl opds (clone_rf (L f) (o2 (2 + f)) _ n2 _ (hfo.slb.ext (AH.below_ext h2 n2) (Nat.le_refl _)) rfl (by omega)) (Nat.le_refl _) cfc ?_
      rintro r n3 h3 hle ⟨a1, rfl, hE, hO⟩
      have hE2 : Ext n2 h2 h3 := hE.via (Nat.le_refl _) (AH.below_ext h2 n2)
      have hnew : a1 = o2 f ∨ a1 = none ∨ n2 ≤ sb a1 := .inr (hO.at'.imp id (·.1))
      have R3 := R2.file (i := f) (by omega) (fun x hx _ => ⟨hE2.info x hx, fun k => hE2.cell x k hx⟩) hle (hO.mono (Nat.zero_le _)) hnew
      repeat' (first | refine stp ?_ | (refine stp2 ?_ ?_ <;> intro _))
      refine nextC.normal ⟨(f + 1, upd o2 f a1), by dsimp only; omega, envs, by dsimp only; omega, by omega, R3.congr fun j hj => ?_, ho2.upd hn2 hnew, ExtW.appSets (.inl hTd) (hX2.then hE2 hn2)⟩
      dsimp only
      unfold upd
      by_cases e : j = f
      · rw [if_pos e, if_pos (by omega), e]
      · simp only [if_neg e]
        by_cases e2 : j < f
        · simp only [if_pos e2, if_pos (show j < f + 1 by omega)]
        · simp only [if_neg e2, if_neg (show ¬ j < f + 1 by omega)]
    · have hf2 : f = 2 := by omega
      subst hf2
      have R3 := R2.list (a' := none) (ps' := []) (pa' := []) (fun x _ _ => ⟨rfl, fun _ => rfl⟩) (Nat.le_refl _) (.nil (Nat.zero_le _)) (.inr (.inl rfl)) rfl (fun x hx => by cases hx) (fun i p hi => by cases hi)
      have R4 := R3.scalar (j := 6) (fuse' := 0) (calls' := calls) (down' := down) (.inl ⟨rfl, rfl, rfl, rfl⟩)
      have R5 := R4.scalar (j := 9) (fuse' := 0) (calls' := calls) (down' := true) (.inr (.inr ⟨rfl, rfl, rfl, rfl⟩))
      refine ⟨_, R5.congr fun j hj => ?_, ho2.upd hn2 (.inr (.inl rfl)), ExtW.appSets (.inl hTd) (ExtW.appSets (.inl hTd) (ExtW.appSets (.inl hTd) hX2))⟩
      by_cases e : j < 2
      · rw [if_pos e, Nat.mod_eq_of_lt e]
      · rw [if_neg e, flL, if_neg e]
        congr 1; omega
end
end Go.Proofs.YtfbddbpbifnhfaaDoor.Dk

/- Contracts taken from disk (written by port.py). -/
namespace Go.Proofs.YtfbddbpbifnhfaaDoor.Dk
open Go.Abs
def flOf (S : DS) : Nat → List UInt8 := fun i => if i < 2 then S.now i else S.sure (i - 2)
theorem flOf_lt (S : DS) {i : Nat} (h : i < 2) : flOf S i = S.now i := by simp [flOf, h]
theorem flOf_2 (S : DS) (f : Nat) : flOf S (2 + f) = S.sure f := by simp [flOf, show ¬ 2 + f < 2 by omega]
/-- A disk lies at block d; F: the blocks that its methods turn; G: those that they only read. -/
def Dk (h : AH) (n d : Nat) (F G : Nat → Prop) (S : DS) : Prop :=
  DSOk S ∧ ∃ o ka pa, F = DkF d o ∧ G = DkG ka pa ∧ DkR h n d o ka pa (flOf S) S.ps S.fuse S.keep S.calls S.down
/-- From (n, h) the disk has come to the state S; what else lay below n is as it was. -/
def DkTo (n d : Nat) (F G : Nat → Prop) (h : AH) (S : DS) (n' : Nat) (h' : AH) : Prop :=
  ∃ F' G', Dk h' n' d F' G' S ∧ (∀ b, b < n → F' b → F b) ∧ (∀ b, b < n → G' b → G b) ∧ ExtW F n h h'
section
variable {h h1 h2 : AH} {n n1 n2 d : Nat} {F G : Nat → Prop} {S S1 S2 : DS}
theorem Dk.lt (D : Dk h n d F G S) : d < n := by
  obtain ⟨_, o, ka, pa, _, _, R⟩ := D
  exact R.lt
theorem Dk.ltF (D : Dk h n d F G S) : ∀ b, F b → b < n := by
  obtain ⟨_, o, ka, pa, rfl, _, R⟩ := D
  exact R.ltF
theorem Dk.ltG (D : Dk h n d F G S) : ∀ b, G b → b < n := by
  obtain ⟨_, o, ka, pa, _, rfl, R⟩ := D
  rintro b ⟨x, hx, hne, rfl⟩
  exact R.gl x hx hne
theorem Dk.inF (D : Dk h n d F G S) : F d := by
  obtain ⟨_, o, ka, pa, rfl, _, R⟩ := D
  exact .inl rfl
theorem Dk.apart (D : Dk h n d F G S) : ∀ b, F b → ¬ G b := by
  obtain ⟨_, o, ka, pa, rfl, rfl, R⟩ := D
  rintro b (rfl | ⟨i, hi, hne, rfl⟩) ⟨x, hx, hxe, e⟩
  · exact ((R.dg x hx).resolve_left hxe) e
  · rcases R.og i x hi hx with k | k | k
    · exact hne k
    · exact hxe k
    · exact k e
theorem Dk.ok (D : Dk h n d F G S) : DSOk S := D.1
theorem Dk.extW {W : Nat → Prop} (D : Dk h n d F G S) (e : ExtW W n h h1) (hn : n ≤ n1) (hF : ∀ b, F b → ¬ W b) (hG : ∀ b, G b → ¬ W b) : Dk h1 n1 d F G S := by
  obtain ⟨ok, o, ka, pa, rfl, rfl, R⟩ := D
  exact ⟨ok, o, ka, pa, rfl, rfl, R.extW e hn hF hG⟩
theorem Dk.ext (D : Dk h n d F G S) (e : Ext n h h1) (hn : n ≤ n1) : Dk h1 n1 d F G S := by
  obtain ⟨ok, o, ka, pa, rfl, rfl, R⟩ := D
  exact ⟨ok, o, ka, pa, rfl, rfl, R.ext e hn⟩
theorem Dk.to (D : Dk h n d F G S) : DkTo n d F G h S n h := ⟨F, G, D, fun _ _ q => q, fun _ _ q => q, ExtW.refl _ _ _⟩
theorem DkTo.mk {o o' : Nat → Option Addr} {ka : Option Addr} {pa pa' : List (Option Addr)} (ok : DSOk S) (R : DkR h1 n1 d o' ka pa' (flOf S) S.ps S.fuse S.keep S.calls S.down) (ho : oNew n o o') (hp : ∀ x, x ∈ pa' → x ∈ pa ∨ x = none ∨ n ≤ sb x) (e : ExtW (DkF d o) n h h1) :
    DkTo n d (DkF d o) (DkG ka pa) h S n1 h1 := by
  refine ⟨_, _, ⟨ok, o', ka, pa', rfl, rfl, R⟩, fun b hb q => ho.F b hb q, ?_, e⟩
  rintro b hb ⟨x, hx, hne, rfl⟩
  simp only [List.mem_cons] at hx
  rcases hx with rfl | hx
  · exact ⟨x, by simp, hne, rfl⟩
  · rcases hp x hx with k | k | k
    · exact ⟨x, by simp [k], hne, rfl⟩
    · exact absurd k hne
    · omega
theorem DkTo.trans {F1 G1 : Nat → Prop} (a : ExtW F n h h1) (hF : ∀ b, b < n → F1 b → F b) (hG : ∀ b, b < n → G1 b → G b) (hn : n ≤ n1) (b : DkTo n1 d F1 G1 h1 S n2 h2) : DkTo n d F G h S n2 h2 := by
  obtain ⟨F2, G2, D, f, g, e⟩ := b
  exact ⟨F2, G2, D, fun b hb q => hF b hb (f b (by omega) q), fun b hb q => hG b hb (g b (by omega) q), a.trans e hn hF⟩
theorem loseP_ok {S : DS} (h : DSOk S) (ks : List Bool) : DSOk (S.lose ks) :=
  ⟨fun p hp => (by cases hp), loseP_le h.sure h.ps, ⟨by simp [DS.lose], by simp [DS.lose]⟩, h.calls, h.keep⟩
theorem lose_now (S : DS) (ks : List Bool) (f : Nat) : (S.lose ks).now f = loseP S.sure S.ps ks f := rfl
theorem none_dk (D : Dk h n d F G S) : Ev Tryd.prog none' 55 #[.pointer (some ⟨d, 0, none⟩)] n h (.bool false) n h := by
  obtain ⟨ok, o, ka, pa, rfl, rfl, R⟩ := D
  exact none_ev R
theorem may_dk (D : Dk h n d F G S) (f : Int) : Ev Tryd.prog none' 49 #[.pointer (some ⟨d, 0, none⟩), .int .i64 f] n h (.int .i64 (S.may f)) n h := by
  obtain ⟨ok, o, ka, pa, rfl, rfl, R⟩ := D
  exact may_ev R f
/-- lose, of the whole disk. -/
theorem lose_dk {c : Option Addr} {ks : List Bool} (D : Dk h n d F G S) (hps : S.ps.length ≤ 1099511627776) (hks : ks.length ≤ 1099511627776) (hS : SlT h n c ks) (hc : c ≠ none → ¬ F (sb c)) :
    RF Tryd.prog F 57 #[.pointer (some ⟨d, 0, none⟩), .slice c ks.length ks.length] n h (fun _ n' h' => DkTo n d F G h (S.lose ks) n' h') := by
  obtain ⟨ok, o, ka, pa, rfl, rfl, R⟩ := D
  have hco : ∀ i, i < 5 → apt (o i) c := fun i hi => by
    by_cases q : o i = none
    · exact .inl q
    · by_cases q2 : c = none
      · exact .inr (.inl q2)
      · exact .inr (.inr fun e => hc q2 (.inr ⟨i, hi, q, e.symm⟩))
  have hcd : apd d c := by
    by_cases q2 : c = none
    · exact .inl q2
    · exact .inr fun e => hc q2 (.inl e.symm)
  refine (lose_rf R ok.ps (fun f => by rw [flOf_2]; exact ok.sure f) hps hks hS hco hcd).mono ?_
  rintro r n' h' ⟨o', R', ho, e⟩
  refine DkTo.mk (loseP_ok ok ks) (R'.congr fun i hi => ?_) ho (fun x hx => by cases hx) e
  have e2 : (fun f => flOf S (2 + f)) = S.sure := funext fun f => flOf_2 S f
  rw [e2]
  unfold flOf
  by_cases h2 : i < 2
  · rw [if_pos h2, Nat.mod_eq_of_lt h2]; rfl
  · rw [if_neg h2]
    show loseP S.sure S.ps ks (i % 2) = loseP S.sure S.ps ks (i - 2)
    rw [show i % 2 = i - 2 by omega]
end
end Go.Proofs.YtfbddbpbifnhfaaDoor.Dk

/- Contracts taken from disk (written by port.py). -/
namespace Go.Proofs.YtfbddbpbifnhfaaDoor.Dk
open Go.Abs
section
variable {h h1 h2 : AH} {n n1 n2 d : Nat} {F G : Nat → Prop} {S S1 S2 : DS}
theorem ends_ok {S : DS} (h : DSOk S) : DSOk S.ends.2 := by
  unfold DS.ends
  split
  · exact ⟨h.ps, h.sure, h.fuse, by have := h.calls; show 0 ≤ S.calls + 1; omega, h.keep⟩
  · split
    · exact ⟨h.ps, h.sure, by have := h.fuse; show 0 ≤ S.fuse - 1 ∧ S.fuse - 1 ≤ 9223372036854775807; omega, by have := h.calls; show 0 ≤ S.calls + 1; omega, h.keep⟩
    · refine loseP_ok (S := { S with calls := S.calls + 1, fuse := S.fuse - 1 }) ⟨h.ps, h.sure, by have := h.fuse; show 0 ≤ S.fuse - 1 ∧ S.fuse - 1 ≤ 9223372036854775807; omega, by have := h.calls; show 0 ≤ S.calls + 1; omega, h.keep⟩ _
set_option maxHeartbeats 4000000 in
theorem ends_dk (D : Dk h n d F G S) (hps : S.ps.length ≤ 1099511627776) (hcl : S.calls < 4611686018427387904) :
    RF Tryd.prog F 51 #[.pointer (some ⟨d, 0, none⟩)] n h (fun r n' h' => r = .int .i64 S.ends.1 ∧ DkTo n d F G h S.ends.2 n' h') := by
  obtain ⟨ok, o, ka, pa, rfl, rfl, R⟩ := D
  refine RF.of Tryd.func51 rfl rfl (Nat.le_of_ble_eq_true rfl) ?_; dsimp only [argEnv]
  have hlt := R.lt
  have c6 := R.c6
  have c8 := R.c8
  have hinf := R.inf
  have hTd : DkF d o d := .inl rfl
  have hfu := ok.fuse
  have hca := ok.calls
  have R1 := R.scalar (j := 8) (fuse' := S.fuse) (calls' := S.calls + 1) (down' := S.down) (.inr (.inl ⟨rfl, rfl, rfl, rfl⟩))
  have e1 := ExtW.appSets (n := n) (b := d) (o := 8) (vs := [.int .i64 (S.calls + 1)]) (.inl hTd) (ExtW.refl (DkF d o) n h)
  have hok := ends_ok ok
  by_cases h0 : S.fuse = 0
  · rw [h0] at c6
    repeat' (first | refine stpS ?_ | (refine stp2 ?_ ?_ <;> intro _))
    have he : S.ends = (0, { S with calls := S.calls + 1 }) := by simp [DS.ends, h0]
    rw [he] at hok ⊢
    exact ⟨rfl, DkTo.mk hok R1 (oNew.refl _ _) (fun x hx => .inl hx) e1⟩
  · have R2 := R1.scalar (j := 6) (fuse' := S.fuse - 1) (calls' := S.calls + 1) (down' := S.down) (.inl ⟨rfl, rfl, rfl, rfl⟩)
    have e2 := ExtW.appSets (n := n) (b := d) (o := 6) (vs := [.int .i64 (S.fuse - 1)]) (.inl hTd) e1
    by_cases hf1 : 1 < S.fuse
    · have he : S.ends = (0, { S with calls := S.calls + 1, fuse := S.fuse - 1 }) := by simp [DS.ends, h0, hf1]
      rw [he] at hok ⊢
      repeat' (first | refine stpS ?_ | (refine stp2 ?_ ?_ <;> intro _))
      exact ⟨rfl, DkTo.mk hok R2 (oNew.refl _ _) (fun x hx => .inl hx) e2⟩
    · have he : S.ends = (6, { S with calls := S.calls + 1, fuse := S.fuse - 1 }.lose S.keep) := by simp [DS.ends, h0, hf1]
      rw [he]
      have c7 := R2.c7
      repeat' (first | refine stpS ?_ | (refine stp2 ?_ ?_ <;> intro _))
      have D2 : Dk ((h.app (.sets d 8 [.int .i64 (S.calls + 1)])).app (.sets d 6 [.int .i64 (S.fuse - 1)])) n d (DkF d o) (DkG ka pa) { S with calls := S.calls + 1, fuse := S.fuse - 1 } :=
        ⟨⟨ok.ps, ok.sure, by show 0 ≤ S.fuse - 1 ∧ S.fuse - 1 ≤ 9223372036854775807; omega, by show 0 ≤ S.calls + 1; omega, ok.keep⟩, o, ka, pa, rfl, rfl, R2⟩
      refine RS.call rfl opds (lose_dk D2 hps ok.keep R2.ks (fun q e => D2.apart _ e ⟨ka, by simp, q, rfl⟩)) (fun b hb => .inl hb) ?_
      rintro r n1 h1 hle hto
      repeat' (first | refine stpS ?_ | (refine stp2 ?_ ?_ <;> intro _))
      exact ⟨rfl, DkTo.trans e2 (fun _ _ q => q) (fun _ _ q => q) (Nat.le_refl _) hto⟩
theorem done_ok {S : DS} {p : Pc} (h : DSOk S) (hp : PcOk p) : DSOk (S.done p) :=
  ⟨fun q hq => by
    rcases List.mem_append.1 hq with k | k
    · exact h.ps q k
    · simp at k; subst k; exact hp, h.sure, h.fuse, h.calls, h.keep⟩
theorem done_dk {p : Pc} {c : Option Addr} (D : Dk h n d F G S) (hp : PcOk p) (hps : S.ps.length < 1099511627776) (hS : p.cut = false → SlB h n c p.b) (hc : c ≠ none → sb c < n ∧ ¬ F (sb c)) :
    RF Tryd.prog F 50 #[.pointer (some ⟨d, 0, none⟩), .int .i64 (p.file : Nat), pcV p c] n h (fun _ n' h' => ∃ F' G', Dk h' n' d F' G' (S.done p) ∧ (∀ b, b < n → F' b → F b) ∧ (∀ b, b < n → G' b → G b ∨ inA c b) ∧ ExtW F n h h') := by
  obtain ⟨ok, o, ka, pa, rfl, rfl, R⟩ := D
  have hf2 : p.file < 2 := by rcases hp.file with h0 | h0 <;> omega
  have hco : ∀ i, i < 5 → apt (o i) c := fun i hi => by
    by_cases q : o i = none
    · exact .inl q
    · by_cases q2 : c = none
      · exact .inr (.inl q2)
      · exact .inr (.inr fun e => (hc q2).2 (.inr ⟨i, hi, q, e.symm⟩))
  have hcd : apd d c := by
    by_cases q2 : c = none
    · exact .inl q2
    · exact .inr fun e => (hc q2).2 (.inl e.symm)
  refine (done_rf R hp (by rw [flOf_lt _ hf2]; exact ok.now _) (by omega) hS (fun q => (hc q).1) hco hcd).mono ?_
  rintro r n' h' ⟨a1, a4, R', k1, k4, e⟩
  have ho : oNew n o (upd (upd o p.file a1) 4 a4) := ((oNew.refl n o).upd (n1 := n) (Nat.le_refl _) (k1.imp id .inr)).upd (Nat.le_refl _) (by
    rw [upd_ne _ _ (by omega)]
    exact k4.imp id .inr)
  refine ⟨_, _, ⟨done_ok ok hp, _, ka, pa ++ [c], rfl, rfl, R'.congr fun i hi => ?_⟩, fun b hb q => ho.F b hb q, ?_, e⟩
  · rw [flOf_lt _ hf2]
    unfold flOf upd
    by_cases h2 : i < 2
    · simp only [if_pos h2, DS.done_now]
      by_cases e : i = p.file
      · subst e; simp
      · rw [if_neg e, if_neg (Ne.symm e)]
    · simp only [if_neg h2, if_neg (show ¬ i = p.file by omega)]
      rfl
  · rintro b hb ⟨x, hx, hne, rfl⟩
    simp only [List.mem_cons, List.mem_append, List.not_mem_nil, or_false] at hx
    rcases hx with rfl | hx | rfl
    · exact .inl ⟨x, by simp, hne, rfl⟩
    · exact .inl ⟨x, by simp [hx], hne, rfl⟩
    · exact .inr ⟨hne, rfl⟩
theorem now_cell {o : Nat → Option Addr} {ka : Option Addr} {pa : List (Option Addr)} (R : DkR h n d o ka pa (flOf S) S.ps S.fuse S.keep S.calls S.down) {i : Nat} (hi : i < 2) : h.cell d (1 + i) = .slice (o i) (S.now i).length (S.now i).length := by
  have := R.cf i (by omega)
  rwa [flOf_lt _ hi] at this
/-- Of files' numbers that may be. -/
theorem may_zero {f : Int} (h : S.may f = 0) : ∃ i : Nat, i < 2 ∧ f = i ∧ S.down = false := by
  unfold DS.may at h
  split at h
  · cases h
  · split at h
    · cases h
    · rename_i q1 q2
      refine ⟨f.toNat, by omega, by omega, by simpa using q1⟩
set_option maxHeartbeats 4000000 in
theorem truncate_dk (D : Dk h n d F G S) (hps : S.ps.length < 1099511627776) (hcl : S.calls < 4611686018427387904) (f size : Int) :
    RF Tryd.prog F 40 #[.pointer (some ⟨d, 0, none⟩), .int .i64 f, .int .i64 size] n h (fun r n' h' => r = .int .i64 (S.truncate f size).1 ∧ DkTo n d F G h (S.truncate f size).2 n' h') := by
  refine RF.of Tryd.func40 rfl rfl (Nat.le_of_ble_eq_true rfl) ?_; dsimp only [argEnv]
  have hlt := D.lt
  by_cases hm : S.may f = 0
  · obtain ⟨i, hi, rfl, hd⟩ := may_zero hm
    have hme := may_dk D (i : Int)
    rw [hm] at hme
    have hno := D.ok.now i
    by_cases hsz : size < 0 ∨ ((S.now i).length : Int) < size
    · have he : S.truncate (i : Int) size = (1, S) := by simp [DS.truncate, hm, hsz]
      rw [he]
      obtain ⟨ok, o, ka, pa, rfl, rfl, R⟩ := id D
      have c1 := now_cell R hi
      repeat' (first | refine stpS ?_ | (refine stp2 ?_ ?_ <;> intro _) | refine RS.call1 rfl opds (hme) none'W ?_)
      all_goals first | exact ⟨rfl, ⟨_, _, ⟨ok, o, ka, pa, rfl, rfl, R⟩, fun _ _ q => q, fun _ _ q => q, ExtW.refl _ _ _⟩⟩ | (exfalso; omega)
    · obtain ⟨k, rfl⟩ : ∃ k : Nat, size = k := ⟨size.toNat, by omega⟩
      have he : S.truncate (i : Int) (k : Nat) = (S.done ⟨i, true, k, []⟩).ends := by rw [DS.truncate, if_neg (by rw [hm]; simp), if_neg (by rw [Int.toNat_natCast]; exact hsz)]; rfl
      rw [he]
      have hpo : PcOk ⟨i, true, k, []⟩ := ⟨by show i = 0 ∨ i = 1; omega, fun q => (by cases q), fun _ => by show k ≤ 4194304; omega⟩
      have hdn := done_dk D (p := ⟨i, true, k, []⟩) (c := none) hpo hps (fun q => by cases q) (fun q => absurd rfl q)
      have hpv : pcV ⟨i, true, k, []⟩ none = .iface 113 (.int .i64 (k : Nat)) := rfl
      rw [hpv] at hdn
      dsimp only at hdn
      have hlen : (S.done ⟨i, true, k, []⟩).ps.length ≤ 1099511627776 := by simp [DS.done]; omega
      obtain ⟨ok, o, ka, pa, hF, hG, R⟩ := id D
      have c1 := now_cell R hi
      repeat' (first | refine stpS ?_ | (refine stp2 ?_ ?_ <;> intro _))
      refine RS.call1 rfl opds hme none'W ?_
      repeat' (first | refine stpS ?_ | (refine stp2 ?_ ?_ <;> intro _))
      refine RS.call rfl opds hdn (fun b hb => Or.inl hb) ?_
      rintro r n1 h1 hle ⟨F1, G1, D1, hF1, hG1, e1⟩
      repeat' (first | refine stpS ?_ | (refine stp2 ?_ ?_ <;> intro _))
      refine RS.call rfl opds (ends_dk D1 hlen hcl) (fun b hb => ?_) ?_
      · by_cases q : b < n
        · exact .inl (hF1 b q hb)
        · exact .inr (by omega)
      rintro r n2 h2 hle2 ⟨rfl, hto⟩
      repeat' (first | refine stpS ?_ | (refine stp2 ?_ ?_ <;> intro _))
      refine ⟨rfl, DkTo.trans e1 hF1 (fun b hb q => ?_) hle hto⟩
      exact (hG1 b hb q).resolve_right (fun k => k.1 rfl)
  · have he : S.truncate f size = (S.may f, S) := by simp [DS.truncate, hm]
    rw [he]
    repeat' (first | refine stpS ?_ | (refine stp2 ?_ ?_ <;> intro _) | refine RS.call1 rfl opds (may_dk D f) none'W ?_)
    exact ⟨rfl, D.to⟩
set_option maxHeartbeats 4000000 in
theorem crash_dk {c : Option Addr} {ks : List Bool} (D : Dk h n d F G S) (hps : S.ps.length ≤ 1099511627776) (hks : ks.length ≤ 1099511627776) (hS : SlT h n c ks) (hc : c ≠ none → ¬ F (sb c)) :
    RF Tryd.prog F 27 #[.pointer (some ⟨d, 0, none⟩), .slice c ks.length ks.length] n h (fun r n' h' => r = .int .i64 (S.crash ks).1 ∧ DkTo n d F G h (S.crash ks).2 n' h') := by
  refine RF.of Tryd.func27 rfl rfl (Nat.le_of_ble_eq_true rfl) ?_; dsimp only [argEnv]
  have hlt := D.lt
  obtain ⟨ok, o, ka, pa, hF, hG, R⟩ := id D
  have c9 := R.c9
  cases hd : S.down
  · rw [hd] at c9
    have he : S.crash ks = (0, S.lose ks) := by simp [DS.crash, hd]
    rw [he]
    repeat' (first | refine stpS ?_ | (refine stp2 ?_ ?_ <;> intro _))
    refine RS.call1 rfl opds (none_dk D) none'W ?_
    repeat' (first | refine stpS ?_ | (refine stp2 ?_ ?_ <;> intro _))
    refine RS.call rfl opds (lose_dk D hps hks hS hc) (fun b hb => .inl hb) ?_
    rintro r n1 h1 hle hto
    repeat' (first | refine stpS ?_ | (refine stp2 ?_ ?_ <;> intro _))
    exact ⟨rfl, hto⟩
  · rw [hd] at c9
    have he : S.crash ks = (6, S) := by simp [DS.crash, hd]
    rw [he]
    repeat' (first | refine stpS ?_ | (refine stp2 ?_ ?_ <;> intro _) | refine RS.call1 rfl opds (none_dk D) none'W ?_)
    exact ⟨rfl, D.to⟩
set_option maxHeartbeats 4000000 in
theorem restart_dk (D : Dk h n d F G S) : RF Tryd.prog F 28 #[.pointer (some ⟨d, 0, none⟩)] n h (fun r n' h' => r = .int .i64 0 ∧ DkTo n d F G h S.restart n' h') := by
  refine RF.of Tryd.func28 rfl rfl (Nat.le_of_ble_eq_true rfl) ?_; dsimp only [argEnv]
  have hlt := D.lt
  have hTd := D.inF
  obtain ⟨ok, o, ka, pa, rfl, rfl, R⟩ := id D
  have hinf := R.inf
  repeat' (first | refine stpS ?_ | (refine stp2 ?_ ?_ <;> intro _) | refine RS.call1 rfl opds (none_dk D) none'W ?_)
  refine ⟨rfl, DkTo.mk ⟨ok.ps, ok.sure, ok.fuse, ok.calls, ok.keep⟩ (R.scalar (j := 9) (fuse' := S.fuse) (calls' := S.calls) (down' := false) (.inr (.inr ⟨rfl, rfl, rfl, rfl⟩))) (oNew.refl _ _) (fun x hx => .inl hx) (ExtW.appSets (.inl hTd) (ExtW.refl _ _ _))⟩
set_option maxHeartbeats 4000000 in
theorem size_dk (D : Dk h n d F G S) (f : Int) : Ev Tryd.prog none' 38 #[.pointer (some ⟨d, 0, none⟩), .int .i64 f] n h (.tuple #[.int .i64 (if S.may f = 0 then ((S.now f.toNat).length : Int) else 0), .int .i64 (S.may f)]) n h := by
  refine RF.pure (by simp [flat]) fun n' hn => ?_
  have D := D.ext (Ext.refl n h) hn
  refine RF.of Tryd.func38 rfl rfl (Nat.le_of_ble_eq_true rfl) ?_; dsimp only [argEnv]
  have hlt := D.lt
  obtain ⟨ok, o, ka, pa, hF, hG, R⟩ := id D
  by_cases hm : S.may f = 0
  · obtain ⟨i, hi, rfl, hd⟩ := may_zero hm
    have hme := may_dk D (i : Int)
    rw [hm] at hme ⊢
    have c1 := now_cell R hi
    repeat' (first | refine stpS ?_ | (refine stp2 ?_ ?_ <;> intro _) | refine RS.call1 rfl opds (hme) none'W ?_)
    simp
  · repeat' (first | refine stpS ?_ | (refine stp2 ?_ ?_ <;> intro _) | refine RS.call1 rfl opds (may_dk D f) none'W ?_)
    simp [hm]
set_option maxHeartbeats 4000000 in
theorem cloneT_rf (t : List Bool) (a : Option Addr) (n : Nat) (h : AH) (S : SlT h n a t) (ht : t.length ≤ 1099511627776) :
    RF Tryd.prog none' 56 #[.slice a t.length t.length] n h (fun r n' h' => ∃ a', r = .slice a' t.length t.length ∧ Ext n h h' ∧ OwnSl h' n n' a' 1 t.length (boolsV t)) := by
  refine RF.of Tryd.func56 rfl rfl (Nat.le_of_ble_eq_true rfl) ?_; dsimp only [argEnv]
  rcases S.two with ⟨ha, hl⟩ | ⟨b, o, ha⟩
  · have : t = [] := List.eq_nil_of_length_eq_zero hl
    subst this; subst ha
    repeat' (first | refine stpS ?_ | (refine stp2 ?_ ?_ <;> intro _))
    exact ⟨none, rfl, ext, OwnSl.nil (by omega)⟩
  · subst ha
    have hr : (List.range (t.length * 1)).map (boolsF t) = boolsV t := by
      apply List.ext_getElem
      · simp [boolsV]
      · intro i h1 h2
        have hi : i < t.length := by simpa [boolsV] using h2
        simp [boolsV, boolsF, List.getD, hi]
    have hkn : ∀ l : List Bool, known (boolsV l) = true := fun l => by
      induction l with
      | nil => rfl
      | cons x l ih => simpa [boolsV, known] using ih
    repeat' (first | refine stpS ?_ | (refine stp2 ?_ ?_ <;> intro _))
    refine RS.append rfl opd opd (OwnSl.new (z := 1) (m := 0) (cs := []) (Nat.le_refl n) rfl rfl) (SlR.src (S.ext ext (Nat.le_refl _)) (by rw [hr]; exact hkn t)) full_slice (fun b hb => Or.inr (by omega)) (by omega) ?_
    intro a' n1 h1 hle hO hX hnew
    have hE := hX.ext (OwnSl.new (z := 1) (m := 0) (cs := []) (Nat.le_refl n) rfl rfl)
    simp only [Nat.zero_add, List.nil_append, hr] at hO ⊢
    repeat' (first | refine stpS ?_ | (refine stp2 ?_ ?_ <;> intro _))
    exact ⟨a', rfl, ext, hO⟩
end
end Go.Proofs.YtfbddbpbifnhfaaDoor.Dk

/- Contracts taken from disk (written by port.py). -/
namespace Go.Proofs.YtfbddbpbifnhfaaDoor.Dk
open Go.Abs
section
variable {h h1 h2 : AH} {n n1 n2 d : Nat} {o : Nat → Option Addr} {ka : Option Addr} {pa : List (Option Addr)} {fl : Nat → List UInt8} {ps : List Pc} {fuse : Int} {keep : List Bool} {calls : Int} {down : Bool}
/-- The fuse's choice is another one. -/
theorem DkR.keeps {a' : Option Addr} {ks : List Bool} (R : DkR h n d o ka pa fl ps fuse keep calls down) (hE : Ext n h h2) (hn : n ≤ n2) (hO : SlT h2 n2 a' ks) (hnew : a' = none ∨ n ≤ sb a') :
    DkR (h2.app (.sets d 7 [.slice a' ks.length ks.length])) n2 d o a' pa fl ps fuse ks calls down := by
  have hX : ExtX n none h h2 := fun x hx _ => ⟨hE.info x hx, fun i => hE.cell x i hx⟩
  have hlt := R.lt
  have hdn : apd d none := .inl rfl
  have han : apd d a' := hnew.imp id (by omega)
  have hxn : ∀ x : Option Addr, apt none x := fun x => .inl rfl
  refine ⟨by omega, i_sets (i_extX hX hlt hdn R.inf), cellT hX hdn hlt (by omega) R.c0, fun j hj => cellT hX hdn hlt (by omega) (R.cf j hj), cellT hX hdn hlt (by omega) R.c5, cellT hX hdn hlt (by omega) R.c6, c_in (Nat.le_refl _) (by simp), cellT hX hdn hlt (by omega) R.c8, cellT hX hdn hlt (by omega) R.c9,
    fun j hj => rowT hX hn (R.fo j hj) (hxn _) (R.od j (by omega)), rowT hX hn R.lo (hxn _) (R.od 4 (by omega)), ?_, fun j p hp hc => slT hX hn (R.dat j p hp hc) (hxn _) (R.dg _ (R.gmem hp)), R.len, R.od, R.oo, fun j x hj hx => ?_, fun x hx => ?_, fun x hx q => ?_⟩
  · exact SlR.extW (W := fun b => b = d) hO (ExtW.appSets (.inl rfl) (ExtW.refl _ _ _)) (Nat.le_refl _) (fun q e => (han.resolve_left q) e.symm)
  · simp only [List.mem_cons] at hx
    rcases hx with rfl | hx
    · rcases hnew with k | k
      · exact .inr (.inl k)
      · by_cases q : o j = none
        · exact .inl q
        · have := R.rlt hj q
          exact .inr (.inr (by omega))
    · exact R.og j x hj (by simp [hx])
  · simp only [List.mem_cons] at hx
    rcases hx with rfl | hx
    · exact han
    · exact R.dg x (by simp [hx])
  · simp only [List.mem_cons] at hx
    rcases hx with rfl | hx
    · exact hO.ltA q
    · exact Nat.lt_of_lt_of_le (R.gl x (by simp [hx]) q) hn
end
theorem _root_.Go.Abs.Ext.app {n : Nat} {h h1 : AH} (e : Ext n h h1) (d : Dl) : Ext n (h.app d) (h1.app d) :=
  ⟨fun b hb => by simp only [AH.app]; rw [e.info b hb], fun b i hb => by simp only [AH.app]; rw [e.cell b i hb]⟩
section
variable {h h1 h2 : AH} {n n1 n2 d : Nat} {F G : Nat → Prop} {S S1 S2 : DS}
theorem DkTo.mk2 {o o' : Nat → Option Addr} {ka ka' : Option Addr} {pa pa' : List (Option Addr)} (ok : DSOk S) (R : DkR h1 n1 d o' ka' pa' (flOf S) S.ps S.fuse S.keep S.calls S.down) (ho : oNew n o o') (hp : ∀ x, x ∈ ka' :: pa' → x ∈ ka :: pa ∨ x = none ∨ n ≤ sb x) (e : ExtW (DkF d o) n h h1) :
    DkTo n d (DkF d o) (DkG ka pa) h S n1 h1 := by
  refine ⟨_, _, ⟨ok, o', ka', pa', rfl, rfl, R⟩, fun b hb q => ho.F b hb q, ?_, e⟩
  rintro b hb ⟨x, hx, hne, rfl⟩
  rcases hp x hx with k | k | k
  · exact ⟨x, k, hne, rfl⟩
  · exact absurd k hne
  · omega
set_option maxHeartbeats 4000000 in
theorem setFuse_dk {c : Option Addr} {ks : List Bool} (D : Dk h n d F G S) (k : Int) (hk : k ≤ 9223372036854775807) (hks : ks.length ≤ 1099511627776) (hS : SlT h n c ks) :
    RF Tryd.prog F 26 #[.pointer (some ⟨d, 0, none⟩), .int .i64 k, .slice c ks.length ks.length] n h (fun r n' h' => r = .int .i64 (S.setFuse k ks).1 ∧ DkTo n d F G h (S.setFuse k ks).2 n' h') := by
  refine RF.of Tryd.func26 rfl rfl (Nat.le_of_ble_eq_true rfl) ?_; dsimp only [argEnv]
  have hlt := D.lt
  have hTd := D.inF
  by_cases hk0 : k < 0
  · have he : S.setFuse k ks = (1, S) := by simp [DS.setFuse, hk0]
    rw [he]
    repeat' (first | refine stpS ?_ | (refine stp2 ?_ ?_ <;> intro _) | refine RS.call1 rfl opds (none_dk D) none'W ?_)
    exact ⟨rfl, D.to⟩
  · have he : S.setFuse k ks = (0, { S with fuse := k, keep := ks }) := by simp [DS.setFuse, hk0]
    rw [he]
    obtain ⟨ok, o, ka, pa, rfl, rfl, R⟩ := id D
    have hinf := R.inf
    repeat' (first | refine stpS ?_ | (refine stp2 ?_ ?_ <;> intro _))
    refine RS.call1 rfl opds (none_dk D) none'W ?_
    repeat' (first | refine stpS ?_ | (refine stp2 ?_ ?_ <;> intro _))
    refine RS.call rfl opds (cloneT_rf ks c n h hS hks) none'W ?_
    rintro r n1 h1 hle ⟨a', rfl, hE, hO⟩
    repeat' (first | refine stpS ?_ | (refine stp2 ?_ ?_ <;> intro _))
    have R1 := R.scalar (j := 6) (fuse' := k) (calls' := S.calls) (down' := S.down) (.inl ⟨rfl, rfl, rfl, rfl⟩)
    have hnew : a' = none ∨ n ≤ sb a' := hO.at'.imp id (·.1)
    have han : apd d a' := hnew.imp id (by omega)
    have hO2 : SlT (h1.app (.sets d 6 [.int .i64 k])) n1 a' ks := (hO.setsN (b := d) (o' := 6) (vs := [.int .i64 k]) (han.imp id Ne.symm)).slt
    refine ⟨rfl, DkTo.mk2 ⟨ok.ps, ok.sure, by show 0 ≤ k ∧ k ≤ 9223372036854775807; omega, ok.calls, hks⟩ (R1.keeps (hE.app _) hle hO2 hnew) (oNew.refl _ _) (fun x hx => ?_) (ExtW.appSets (.inl hTd) (ExtW.appSets (.inl hTd) (ExtW.of hE (Nat.le_refl _))))⟩
    simp only [List.mem_cons] at hx
    rcases hx with rfl | hx
    · exact .inr hnew
    · exact .inl (by simp [hx])
set_option maxHeartbeats 4000000 in
theorem read_dk (D : Dk h n d F G S) (f at_ k : Int) :
    RF Tryd.prog none' 19 #[.pointer (some ⟨d, 0, none⟩), .int .i64 f, .int .i64 at_, .int .i64 k] n h (fun r n' h' => ∃ a', r = .tuple #[.slice a' (S.read f at_ k).2.length (S.read f at_ k).2.length, .int .i64 (S.read f at_ k).1] ∧ Ext n h h' ∧ OwnSl h' n n' a' 1 (S.read f at_ k).2.length (bytesV (S.read f at_ k).2)) := by
  refine RF.of Tryd.func19 rfl rfl (Nat.le_of_ble_eq_true rfl) ?_; dsimp only [argEnv]
  have hlt := D.lt
  by_cases hm : S.may f = 0
  · obtain ⟨i, hi, rfl, hd⟩ := may_zero hm
    have hme := may_dk D (i : Int)
    rw [hm] at hme
    have hno := D.ok.now i
    by_cases hsz : at_ < 0 ∨ k < 0
    · have he : S.read (i : Int) at_ k = (1, []) := by simp [DS.read, hm, hsz]
      rw [he]
      repeat' (first | refine stpS ?_ | (refine stp2 ?_ ?_ <;> intro _) | refine RS.call1 rfl opds (hme) none'W ?_)
      all_goals first | exact ⟨none, rfl, ext, OwnSl.nil (by omega)⟩ | (exfalso; omega)
    · obtain ⟨p, rfl⟩ : ∃ p : Nat, at_ = p := ⟨at_.toNat, by omega⟩
      obtain ⟨q, rfl⟩ : ∃ q : Nat, k = q := ⟨k.toNat, by omega⟩
      have he : S.read (i : Int) (p : Nat) (q : Nat) = (0, ((S.now i).drop p).take q) := by rw [DS.read, if_neg (by rw [hm]; simp), if_neg hsz]; simp
      rw [he]
      obtain ⟨ok, o, ka, pa, hF, hG, R⟩ := id D
      have c1 := now_cell R hi
      have S0 : SlB h n (o i) (S.now i) := by
        have := (R.fo i (by omega)).slb
        rwa [flOf_lt _ hi] at this
      repeat' (first | refine stpS ?_ | (refine stp2 ?_ ?_ <;> intro _) | refine RS.call1 rfl opds (hme) none'W ?_)
      repeat' (first | refine stp ?_ | (refine stp2 ?_ ?_ <;> intro _))
      have e1 : (min (p : Int) ((S.now i).length : Int)).toNat = min p (S.now i).length := by omega
      rw [e1]
      have hd : (S.now i).drop (min p (S.now i).length) = (S.now i).drop p := by
        rcases Nat.le_total p (S.now i).length with q | q
        · rw [Nat.min_eq_left q]
        · rw [Nat.min_eq_right q, List.drop_length, List.drop_of_length_le q]
      have S1 : SlB h n (sub (o i) (min p (S.now i).length)) ((S.now i).drop p) := by
        have := S0.cut (i := min p (S.now i).length) (u := (S.now i).length) (by omega) (Nat.le_refl _)
        rwa [List.take_length, hd] at this
      have e2 : (S.now i).length - min p (S.now i).length = ((S.now i).drop p).length := by rw [List.length_drop]; omega
      rw [e2]
      clear S0 hd
      generalize hl1 : (S.now i).drop p = l1 at *
      generalize sub (o i) (min p (S.now i).length) = a1 at *
      repeat' (first | refine stpS ?_ | (refine stp2 ?_ ?_ <;> intro _))
      have e3 : (min (q : Int) (l1.length : Int)).toNat = min q l1.length := by omega
      rw [e3]
      have hl1' : l1.length ≤ 4194304 := by rw [← hl1, List.length_drop]; omega
      have S2 : SlB h n a1 (l1.take q) := by
        have := S1.take (u := min q l1.length) (by omega)
        rwa [take_min] at this
      have e4 : min q l1.length = (l1.take q).length := by rw [List.length_take]
      rw [e4]
      refine RS.call rfl opds (clone_rf (l1.take q) a1 _ n h S2 rfl (by rw [← e4]; omega)) none'W ?_
      rintro r n1 h1 hle ⟨a', rfl, hE, hO⟩
      repeat' (first | refine stpS ?_ | (refine stp2 ?_ ?_ <;> intro _))
      exact ⟨a', rfl, hE, hO⟩
  · have he : S.read f at_ k = (S.may f, []) := by simp [DS.read, hm]
    rw [he]
    repeat' (first | refine stpS ?_ | (refine stp2 ?_ ?_ <;> intro _) | refine RS.call1 rfl opds (may_dk D f) none'W ?_)
    exact ⟨none, rfl, ext, OwnSl.nil (by omega)⟩
end
end Go.Proofs.YtfbddbpbifnhfaaDoor.Dk

/- Contracts taken from disk (written by port.py). -/
namespace Go.Proofs.YtfbddbpbifnhfaaDoor.Dk
open Go.Abs
theorem chunks_fuel (f : Nat) : ∀ (k k' at_ : Nat) (l : List UInt8), l.length ≤ k → l.length ≤ k' → chunks f k at_ l = chunks f k' at_ l := by
  intro k
  induction k with
  | zero =>
    intro k' at_ l h _
    have : l = [] := List.eq_nil_of_length_eq_zero (by omega)
    subst this
    cases k' <;> rfl
  | succ k ih =>
    intro k' at_ l h h2
    cases l with
    | nil => cases k' <;> rfl
    | cons x r =>
      cases k' with
      | zero => simp at h2
      | succ k' =>
        simp only [chunks]
        rw [ih]
        · rw [List.length_drop]; omega
        · rw [List.length_drop]; omega
theorem chunks_step (f at_ : Nat) (l : List UInt8) (h : 0 < l.length) : chunks f l.length at_ l = ⟨f, false, at_, l.take (min l.length (512 - at_ % 512))⟩ :: chunks f (l.drop (min l.length (512 - at_ % 512))).length (at_ + min l.length (512 - at_ % 512)) (l.drop (min l.length (512 - at_ % 512))) := by
  have ht : l.take (min l.length (512 - at_ % 512)) = l.take (512 - at_ % 512) := by rw [Nat.min_comm]; exact take_min _ _
  have hd : l.drop (min l.length (512 - at_ % 512)) = l.drop (512 - at_ % 512) := by
    rcases Nat.le_total (512 - at_ % 512) l.length with q | q
    · rw [Nat.min_eq_right q]
    · rw [Nat.min_eq_left q, List.drop_length, List.drop_of_length_le q]
  rw [ht, hd]
  cases l with
  | nil => simp at h
  | cons x r =>
    simp only [List.length_cons, chunks]
    congr 1
    exact chunks_fuel f _ _ _ _ (by rw [List.length_drop, List.length_cons]; omega) (Nat.le_refl _)
theorem chunks_length (f : Nat) : ∀ (k at_ : Nat) (l : List UInt8), (chunks f k at_ l).length ≤ l.length := by
  intro k
  induction k with
  | zero => intro at_ l; simp [chunks]
  | succ k ih =>
    intro at_ l
    cases l with
    | nil => simp [chunks]
    | cons x r =>
      simp only [chunks, List.length_cons]
      have := ih (at_ + min (r.length + 1) (512 - at_ % 512)) ((x :: r).drop (512 - at_ % 512))
      rw [List.length_drop, List.length_cons] at this
      omega
section
variable {h h1 h2 : AH} {n n1 n2 d : Nat} {F G : Nat → Prop} {S S1 S2 : DS}
set_option maxHeartbeats 4000000 in
theorem write_dk {c : Option Addr} {b : List UInt8} (D : Dk h n d F G S) (f at_ : Int) (hat : at_ ≤ 9223372036854775807) (hB : SlB h n c b) (hc : c ≠ none → ¬ F (sb c)) (hps : S.ps.length + b.length ≤ 1099511627775) (hcl : S.calls < 4611686018427387904) :
    RF Tryd.prog F 20 #[.pointer (some ⟨d, 0, none⟩), .int .i64 f, .int .i64 at_, .slice c b.length b.length] n h (fun r n' h' => r = .int .i64 (S.write f at_ b).1 ∧ DkTo n d F G h (S.write f at_ b).2 n' h') := by
  refine RF.of Tryd.func20 rfl rfl (Nat.le_of_ble_eq_true rfl) ?_; dsimp only [argEnv]
  have hlt := D.lt
  by_cases hm : S.may f = 0
  · obtain ⟨i, hi, rfl, hd⟩ := may_zero hm
    have hme := may_dk D (i : Int)
    rw [hm] at hme
    by_cases hw : writeE at_ b = 0
    · have hw1 : ¬ at_ < 0 := fun q => by rw [writeE, if_pos q] at hw; cases hw
      obtain ⟨p, rfl⟩ : ∃ p : Nat, at_ = p := ⟨at_.toNat, by omega⟩
      have hw2 : 0 < b.length → p + b.length ≤ 4194304 := fun q => by
        rw [writeE, if_neg hw1] at hw
        split at hw
        · cases hw
        · omega
      have he : S.write (i : Int) (p : Nat) b = (S.writes i p b).ends := by rw [DS.write, if_neg (by rw [hm]; simp), if_neg (by rw [hw]; simp)]; simp
      rw [he]
      repeat' (first | refine stpS ?_ | (refine stp2 ?_ ?_ <;> intro _) | refine RS.call1 rfl opds (hme) none'W ?_)
      all_goals try (exfalso; omega)
      all_goals
        refine RC.loop ?_
        refine RL.inv (α := Nat × Option Addr × List UInt8 × List Pc × (Nat → Prop) × (Nat → Prop)) (fun s => [(0, .pointer (some ⟨d, 0, none⟩)), (1, .int .i64 (i : Nat)), (2, .int .i64 (s.1 : Nat)), (3, .slice s.2.1 s.2.2.1.length s.2.2.1.length)])
          (fun s n1 h1 => n ≤ n1 ∧ SlB h1 n1 s.2.1 s.2.2.1 ∧ (s.2.1 ≠ none → sb s.2.1 < n ∧ ¬ F (sb s.2.1)) ∧ (0 < s.2.2.1.length → s.1 + s.2.2.1.length ≤ 4194304) ∧ s.2.2.2.1.length + s.2.2.1.length ≤ S.ps.length + b.length ∧
            s.2.2.2.1 ++ chunks i s.2.2.1.length s.1 s.2.2.1 = S.ps ++ chunks i b.length p b ∧ Dk h1 n1 d s.2.2.2.2.1 s.2.2.2.2.2 { S with ps := s.2.2.2.1 } ∧ (∀ b, b < n → s.2.2.2.2.1 b → F b) ∧ (∀ b, b < n → s.2.2.2.2.2 b → G b) ∧ ExtW F n h h1)
          (fun s => s.2.2.1.length) (p, c, b, S.ps, F, G) envs ⟨Nat.le_refl _, hB, fun q => ⟨hB.ltA q, hc q⟩, hw2, Nat.le_refl _, rfl, D, fun _ _ q => q, fun _ _ q => q, ExtW.refl _ _ _⟩ ?_
        rintro ⟨a1, c1, l1, ps1, F1, G1⟩ n1 h1 ⟨hn1, hS1, hc1, hl1, hl2, hch, D1, hF1, hG1, e1⟩
        dsimp only at hS1 hc1 hl1 hl2 hch D1 hF1 hG1 ⊢
        have hlt1 := D1.lt
        repeat' (first | refine stpS ?_ | (refine stp2 ?_ ?_ <;> intro _))
        · have hstep := chunks_step i a1 l1 (by omega)
          have hk0 : 0 < min l1.length (512 - a1 % 512) := by omega
          have hk1 : min l1.length (512 - a1 % 512) ≤ l1.length := by omega
          have ek : min (l1.length : Int) (512 - (a1 : Int) % 512) = ((min l1.length (512 - a1 % 512) : Nat) : Int) := by omega
          rw [ek, Int.toNat_natCast]
          generalize min l1.length (512 - a1 % 512) = k at *
          have htl : (l1.take k).length = k := by rw [List.length_take]; omega
          have hlb := hl1 (by omega)
          refine RS.call rfl opds (clone_rf (l1.take k) c1 k n1 h1 (hS1.takeA k) htl.symm (by omega)) none'W ?_
          rintro r n2 h2 hle2 ⟨c2, rfl, hE2, hO2⟩
          have hc2 : c2 ≠ none := by
            intro q; subst q
            rcases hO2.or with z | z
            · omega
            · cases z.1
          have hc2' := hO2.at'.resolve_left hc2
          repeat' (first | refine stpS ?_ | (refine stp2 ?_ ?_ <;> intro _))
          have hpo : PcOk ⟨i, false, a1, l1.take k⟩ := ⟨by show i = 0 ∨ i = 1; omega, fun _ => ⟨by show 0 < (l1.take k).length; omega, by show a1 + (l1.take k).length ≤ 4194304; omega⟩, fun q => by cases q⟩
          have hdn := done_dk (D1.ext hE2 hle2) (p := ⟨i, false, a1, l1.take k⟩) (c := c2) hpo (by show ps1.length < _; omega) (fun _ => by have := hO2.slbE; exact this) (fun _ => ⟨hc2'.2, fun q => by have := D1.ltF _ q; omega⟩)
          have hpv : pcV ⟨i, false, a1, l1.take k⟩ c2 = .iface 96 (.agg #[.int .i64 (a1 : Nat), .slice c2 k k]) := by
            show Value.iface _ (.agg #[.int .i64 (a1 : Nat), .slice c2 (l1.take k).length (l1.take k).length]) = _
            rw [htl]
          rw [hpv] at hdn
          dsimp only at hdn
          refine RS.call rfl opds hdn (fun b hb => ?_) ?_
          · by_cases q : b < n
            · exact .inl (hF1 b q hb)
            · exact .inr (by omega)
          rintro r n3 h3 hle3 ⟨F3, G3, D3, hF3, hG3, e3⟩
          have hS3 : SlB h3 n3 c1 l1 := (hS1.ext hE2 hle2).extW e3 hle3 (fun q r => (hc1 q).2 (hF1 _ (hc1 q).1 r))
          repeat' (first | refine stpS ?_ | (refine stp2 ?_ ?_ <;> intro _))
          refine nextC.normal ⟨(a1 + k, sub c1 k, l1.drop k, ps1 ++ [(⟨i, false, a1, l1.take k⟩ : Pc)], F3, G3), ?_, ?_, by omega, ?_, ?_, ?_, ?_, ?_, D3, fun b hb q => hF1 b hb (hF3 b (by omega) q), fun b hb q => ?_, ?_⟩
          · dsimp only; rw [List.length_drop]; omega
          · dsimp only; rw [List.length_drop]; exact envs
          · have := hS3.cut (i := k) (u := l1.length) hk1 (Nat.le_refl _)
            rwa [List.take_length] at this
          · intro q
            have : c1 ≠ none := fun z => q (by dsimp only; rw [z]; rfl)
            dsimp only; rw [sb_sub]; exact hc1 this
          · dsimp only; rw [List.length_drop]; intro _; omega
          · dsimp only; rw [List.length_drop, List.length_append]; simp only [List.length_cons, List.length_nil]; omega
          · dsimp only; rw [List.append_assoc, List.singleton_append, ← hstep]; exact hch
          · rcases hG3 b (by omega) q with z | z
            · exact hG1 b hb z
            · have := z.2; omega
          · exact (e1.then hE2 hn1).trans e3 (by omega) (fun x hx q => hF1 x hx q)
        · have hl0 : l1 = [] := List.eq_nil_of_length_eq_zero (by omega)
          subst hl0
          have hch' : ps1 = S.ps ++ chunks i b.length p b := by simpa [chunks] using hch
          have hSe : ({ S with ps := ps1 } : DS) = S.writes i p b := by rw [hch']; rfl
          have hlen : (S.writes i p b).ps.length ≤ 1099511627776 := by
            have := chunks_length i b.length p b
            simp only [DS.writes, List.length_append]; omega
          rw [hSe] at D1
          refine RS.call rfl opds (ends_dk D1 hlen hcl) (fun b hb => ?_) ?_
          · by_cases q : b < n
            · exact .inl (hF1 b q hb)
            · exact .inr (by omega)
          rintro r n2 h2 hle2 ⟨rfl, hto⟩
          repeat' (first | refine stpS ?_ | (refine stp2 ?_ ?_ <;> intro _))
          exact ⟨rfl, DkTo.trans e1 hF1 hG1 hn1 hto⟩
    · by_cases hw1 : at_ < 0
      · have he : S.write (i : Int) at_ b = (1, S) := by simp [DS.write, hm, writeE, hw1]
        rw [he]
        repeat' (first | refine stpS ?_ | (refine stp2 ?_ ?_ <;> intro _) | refine RS.call1 rfl opds (hme) none'W ?_)
        exact ⟨rfl, D.to⟩
      · have hw2 : 0 < b.length ∧ (4194304 < at_ ∨ 4194304 - at_ < b.length) := Classical.byContradiction fun q => hw (by rw [writeE, if_neg hw1, if_neg q])
        have he : S.write (i : Int) at_ b = (5, S) := by simp [DS.write, hm, writeE, hw1, hw2]
        rw [he]
        repeat' (first | refine stpS ?_ | (refine stp2 ?_ ?_ <;> intro _) | refine RS.call1 rfl opds (hme) none'W ?_)
        all_goals first | exact ⟨rfl, D.to⟩ | (exfalso; omega)
  · have he : S.write f at_ b = (S.may f, S) := by simp [DS.write, hm]
    rw [he]
    repeat' (first | refine stpS ?_ | (refine stp2 ?_ ?_ <;> intro _) | refine RS.call1 rfl opds (may_dk D f) none'W ?_)
    exact ⟨rfl, D.to⟩
end
end Go.Proofs.YtfbddbpbifnhfaaDoor.Dk

/- Contracts taken from disk (written by port.py). -/
namespace Go.Proofs.YtfbddbpbifnhfaaDoor.Dk
open Go.Abs
abbrev PA := Pc × Option Addr
def pcsL : List PA → List Value
  | [] => []
  | x :: r => pcC x.1 x.2 ++ pcsL r
theorem pcC_length (p : Pc) (a : Option Addr) : (pcC p a).length = 2 := rfl
theorem pcsL_length : ∀ L : List PA, (pcsL L).length = L.length * 2
  | [] => rfl
  | x :: r => by rw [pcsL, List.length_append, pcsL_length r, pcC_length, List.length_cons]; omega
theorem pcsL_zip : ∀ (ps : List Pc) (pa : List (Option Addr)), pcsL (ps.zip pa) = pcsC ps pa
  | [], _ => by simp [pcsL, pcsC]
  | _ :: _, [] => by simp [pcsL, pcsC]
  | p :: ps, a :: pa => by simp [pcsL, pcsC, pcsL_zip ps pa]
theorem pcsL_take : ∀ (L : List PA) (i : Nat), (pcsL L).take (i * 2) = pcsL (L.take i)
  | [], i => by simp [pcsL]
  | x :: r, 0 => by simp [pcsL]
  | x :: r, i + 1 => by
    rw [pcsL, List.take_succ_cons, pcsL, ← pcsL_take r i, show (i + 1) * 2 = (pcC x.1 x.2).length + i * 2 by rw [pcC_length]; omega, List.take_length_add_append]
theorem pcsL_drop : ∀ (L : List PA) (i : Nat), (pcsL L).drop (i * 2) = pcsL (L.drop i)
  | [], i => by simp [pcsL]
  | x :: r, 0 => by simp [pcsL]
  | x :: r, i + 1 => by
    rw [pcsL, List.drop_succ_cons, ← pcsL_drop r i, show (i + 1) * 2 = (pcC x.1 x.2).length + i * 2 by rw [pcC_length]; omega, List.drop_length_add_append]
theorem pcsL_app : ∀ (L M : List PA), pcsL (L ++ M) = pcsL L ++ pcsL M
  | [], M => rfl
  | x :: r, M => by rw [List.cons_append, pcsL, pcsL, pcsL_app r M, List.append_assoc]
theorem pcsL_set (L : List PA) (i : Nat) (x : PA) (h : i < L.length) : pcsL (L.set i x) = splice (pcsL L) (i * 2) (pcC x.1 x.2) := by
  rw [List.set_eq_take_append_cons_drop, if_pos h, pcsL_app, pcsL, splice, pcsL_take, pcC_length, show i * 2 + 2 = (i + 1) * 2 by omega, pcsL_drop, List.append_assoc]
theorem pcsL_at (L : List PA) (i : Nat) (x : PA) (h : L[i]? = some x) : (pcsL L).getD (i * 2) (.tuple #[]) = .int .i64 (x.1.file : Nat) ∧ (pcsL L).getD (i * 2 + 1) (.tuple #[]) = pcV x.1 x.2 := by
  obtain ⟨hi, hx⟩ := List.getElem?_eq_some_iff.1 h
  have e : L = L.take i ++ x :: L.drop (i + 1) := by rw [← hx, ← List.drop_eq_getElem_cons hi, List.take_append_drop]
  have hl : (pcsL (L.take i)).length = i * 2 := by rw [pcsL_length, List.length_take]; omega
  rw [e, pcsL_app, pcsL]
  constructor
  · rw [List.getD, List.getElem?_append_right (by omega), hl, Nat.sub_self]; rfl
  · rw [List.getD, List.getElem?_append_right (by omega), hl, show i * 2 + 1 - i * 2 = 1 by omega]; rfl
section
variable {h h1 h2 : AH} {n n1 n2 d : Nat}
set_option maxHeartbeats 4000000 in
theorem cloneW_rf (L : List PA) (a : Option Addr) (n : Nat) (h : AH) (hO : OwnSl h 0 n a 2 L.length (pcsL L)) (hL : L.length ≤ 1099511627776) :
    RF Tryd.prog none' 67 #[.slice a L.length L.length] n h (fun r n' h' => ∃ a', r = .slice a' L.length L.length ∧ Ext n h h' ∧ OwnSl h' n n' a' 2 L.length (pcsL L)) := by
  refine RF.of Tryd.func67 rfl rfl (Nat.le_of_ble_eq_true rfl) ?_; dsimp only [argEnv]
  have S := hO.slr
  rcases S.two with ⟨ha, hl⟩ | ⟨b, o, ha⟩
  · have : L = [] := List.eq_nil_of_length_eq_zero hl
    subst this; subst ha
    repeat' (first | refine stpS ?_ | (refine stp2 ?_ ?_ <;> intro _))
    exact ⟨none, rfl, ext, OwnSl.nil (by omega)⟩
  · subst ha
    have hsrc := hO.src
    repeat' (first | refine stpS ?_ | (refine stp2 ?_ ?_ <;> intro _))
    refine RS.append rfl opd opd (OwnSl.new (z := 2) (m := 0) (cs := []) (Nat.le_refl n) rfl rfl) (hO.ext ext (Nat.le_succ n)).src full_slice (fun b hb => Or.inr (by omega)) (by omega) ?_
    intro a' n1 h1 hle hO hX hnew
    have hE := hX.ext (OwnSl.new (z := 2) (m := 0) (cs := []) (Nat.le_refl n) rfl rfl)
    simp only [Nat.zero_add, List.nil_append] at hO ⊢
    repeat' (first | refine stpS ?_ | (refine stp2 ?_ ?_ <;> intro _))
    exact ⟨a', rfl, ext, hO⟩
set_option maxHeartbeats 4000000 in
theorem sync1_rf (x : PA) (f : Nat) (bx n : Nat) (h : AH) (hb : bx < n) (hf : h.cell bx 0 = .int .i64 (f : Nat)) :
    Ev Tryd.prog none' 68 #[.agg (pcC x.1 x.2).toArray, .pointer (some ⟨bx, 0, none⟩)] n h (.bool (decide (x.1.file = f))) n h := by
  refine RF.pure rfl fun n' hn => ?_
  refine RF.of Tryd.func68 rfl rfl (Nat.le_of_ble_eq_true rfl) ?_; dsimp only [argEnv]
  obtain ⟨t, w, hv⟩ : ∃ t w, pcV x.1 x.2 = .iface t w := by
    unfold pcV; split
    · exact ⟨_, _, rfl⟩
    · exact ⟨_, _, rfl⟩
  rw [pcC, hv]
  have hb' : bx < n' := by omega
  repeat' (first | refine stpS ?_ | (refine stp2 ?_ ?_ <;> intro _))
  · rename_i q
    have : x.1.file = f := by omega
    simp [this]
  · rename_i q
    have : ¬ x.1.file = f := by omega
    simp [this]
theorem row_at {a : Option Addr} {L : List PA} (hO : OwnSl h 0 n a 2 L.length (pcsL L)) {i : Nat} {x : PA} (hx : L[i]? = some x) : SlA a L.length ∧ sb a < n ∧ h.cell (sb a) (so a + i * 2) = .int .i64 (x.1.file : Nat) ∧ h.cell (sb a) (so a + i * 2 + 1) = pcV x.1 x.2 := by
  have hi := (List.getElem?_eq_some_iff.1 hx).1
  obtain ⟨hso, -, hsn, -, hA, hC⟩ := hO.facts (by omega)
  obtain ⟨g0, g1⟩ := pcsL_at L i x hx
  refine ⟨hA, hsn, (hC (i * 2) (by omega)).trans g0, ?_⟩
  have := hC (i * 2 + 1) (by omega)
  rw [g1] at this
  exact this
set_option maxHeartbeats 4000000 in
theorem index_rf (L : List PA) (a : Option Addr) (f bx n : Nat) (h : AH) (hO : OwnSl h 0 n a 2 L.length (pcsL L)) (hL : L.length ≤ 1099511627776) (hb : bx < n) (hf : h.cell bx 0 = .int .i64 (f : Nat)) :
    RF Tryd.prog none' 79 #[.slice a L.length L.length, .func (.func 68) #[] #[.pointer (some ⟨bx, 0, none⟩)]] n h (fun r n' h' => Ext n h h' ∧
      ((r = .int .i64 (-1) ∧ ∀ x ∈ L, ¬ x.1.file = f) ∨ ∃ j : Nat, j < L.length ∧ r = .int .i64 (j : Nat) ∧ (∀ x ∈ L.take j, ¬ x.1.file = f) ∧ ∃ x, L[j]? = some x ∧ x.1.file = f)) := by
  refine RF.of Tryd.func79 rfl rfl (Nat.le_of_ble_eq_true rfl) ?_; dsimp only [argEnv]
  repeat' (first | refine stpS ?_ | (refine stp2 ?_ ?_ <;> intro _))
  refine RC.loop ?_
  refine RL.inv (α := Nat) (fun s => [(8, .int .i64 (s : Nat)), (7, .int .i64 L.length), (1, .func (.func 68) #[] #[.pointer (some ⟨bx, 0, none⟩)]), (0, .slice a L.length L.length)])
    (fun s n1 h1 => s ≤ L.length ∧ n ≤ n1 ∧ Ext n h h1 ∧ ∀ x ∈ L.take s, ¬ x.1.file = f) (fun s => L.length - s) 0 envs ⟨by omega, by omega, Ext.refl _ _, by simp⟩ ?_
  rintro i n1 h1 ⟨hi, hn1, hE, hno⟩
  repeat' (first | refine stpS ?_ | (refine stp2 ?_ ?_ <;> intro _))
  · have hi' : i < L.length := by omega
    obtain ⟨x, hx⟩ : ∃ x, L[i]? = some x := ⟨_, List.getElem?_eq_getElem hi'⟩
    have hO1 := hO.ext hE hn1
    obtain ⟨hA, hsn, hc0, hc1⟩ := row_at hO1 hx
    obtain ⟨t, w, hv⟩ : ∃ t w, pcV x.1 x.2 = .iface t w := by
      unfold pcV; split
      · exact ⟨_, _, rfl⟩
      · exact ⟨_, _, rfl⟩
    have hs := sync1_rf x f bx n1 h1 (by omega) ((hE.cell bx 0 hb).trans hf)
    rw [pcC] at hs
    rw [hv] at hc1 hs
    repeat' (first | refine stpS ?_ | (refine stp2 ?_ ?_ <;> intro _))
    refine RS.callv (caps := [.pointer (some ⟨bx, 0, none⟩)]) rfl opd opds (RF.ev hs (Q := fun r n2 h2 => r = .bool (decide (x.1.file = f)) ∧ n2 = n1 ∧ h2 = h1) ⟨rfl, rfl, rfl⟩) none'W ?_
    rintro r n2 h2 hle ⟨rfl, rfl, rfl⟩
    have htk : L.take (i + 1) = L.take i ++ [x] := by rw [List.take_add_one, hx]; rfl
    by_cases q : x.1.file = f
    · rw [decide_eq_true q]
      repeat' (first | refine stpS ?_ | (refine stp2 ?_ ?_ <;> intro _))
      exact ⟨hE, .inr ⟨i, hi', rfl, hno, x, hx, q⟩⟩
    · rw [decide_eq_false q]
      repeat' (first | refine stpS ?_ | (refine stp2 ?_ ?_ <;> intro _))
      refine nextC.normal ⟨i + 1, by omega, envs, by omega, hn1, hE, fun y hy => ?_⟩
      rw [htk] at hy
      rcases List.mem_append.1 hy with k | k
      · exact hno y k
      · simp at k; subst k; exact q
  · repeat' (first | refine stpS ?_ | (refine stp2 ?_ ?_ <;> intro _))
    rw [List.take_of_length_le (by omega)] at hno
    exact ⟨hE, .inl ⟨rfl, hno⟩⟩
end
end Go.Proofs.YtfbddbpbifnhfaaDoor.Dk
