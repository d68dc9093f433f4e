/- Contracts and laws that a statement of this seat is proved by (part 5). -/
import Derived.Test.YtflhhipemmlgpaaDoorC04
import Derived.Test.YtflhhipemmlgpaaDoorRows
set_option linter.unusedSimpArgs false
set_option linter.unusedVariables false
/- Contracts of codec: the int that bytes begin with. -/
namespace Go.Proofs.YtflhhipemmlgpaaDoor
open Go.Abs

def pIV (x : Int × Nat × Nat) : Value := .tuple #[.int .i64 x.1, .int .i64 (x.2.1 : Nat), .int .i64 (x.2.2 : Nat)]
theorem val_succ (low : Bool) (r : List UInt8) (i : Nat) (hi : i < r.length) : val ((r.take (i + 1)).map (flipU low)) = val ((r.take i).map (flipU low)) * 256 + (flipU low (r.getD i 0)).toNat := by
  rw [List.take_succ_eq_append_getElem hi, List.map_append, List.map_cons, List.map_nil, val_snoc]
  simp [List.getD, hi]
theorem val_take_lt (low : Bool) (r : List UInt8) (i : Nat) (hi : i ≤ 7) : val ((r.take i).map (flipU low)) < 72057594037927936 := by
  have h1 := val_lt ((r.take i).map (flipU low))
  have h2 : ((r.take i).map (flipU low)).length ≤ 7 := by rw [List.length_map, List.length_take]; omega
  have h3 : 256 ^ ((r.take i).map (flipU low)).length ≤ 256 ^ 7 := Nat.pow_le_pow_right (by omega) h2
  omega
theorem or_byte (m b : Nat) (hm : m < 72057594037927936) (hb : b < 256) : (m <<< 8) % 18446744073709551616 ||| b = m * 256 + b := by
  rw [Nat.mod_eq_of_lt (by rw [Nat.shiftLeft_eq]; omega), ← Nat.shiftLeft_add_eq_or_of_lt (i := 8) (by omega), Nat.shiftLeft_eq]
set_option maxHeartbeats 4000000 in
theorem get_ev (b : List UInt8) (a : Option Addr) (m n : Nat) (h : AH) (S : SlB h n a b) (e : m = b.length) (hm : m ≤ 1099511627776) :
    Ev Tryd.prog none' 67 #[.slice a m m] n h (pIV (pI b)) n h := by
  subst e
  refine RF.pure (by simp [pIV, flat]) fun n' hn => ?_
  have S := S.ext (Ext.refl n h) hn
  refine RF.of Tryd.func67 rfl rfl (Nat.le_of_ble_eq_true rfl) ?_; dsimp only [argEnv]
  cases b with
  | nil =>
    repeat' (first | refine stpS ?_ | (refine stp2 ?_ ?_ <;> intro _))
    rfl
  | cons c r =>
    have hc := c.toNat_lt
    have q0 : ((c :: r).getD (Int.toNat 0) 0).toNat = c.toNat := rfl
    have q1 : (((((c :: r).getD (Int.toNat 0) 0).toNat : Nat) : Int).toNat ^^^ Int.toNat 255) = 255 - c.toNat := xor255 c.toNat hc
    have q2 : (((((c :: r).getD (Int.toNat 0) 0).toNat : Nat) : Int).toNat ^^^ Int.toNat 0) = c.toNat := Nat.xor_zero _
    have ql : (c :: r).length = r.length + 1 := rfl
    by_cases hlow : c.toNat < 128
    · have hfx : (flipU true c).toNat = 255 - c.toNat := flip_nat c
      have hdec : decide (c.toNat < 128) = true := decide_eq_true hlow
      have hpI : pI (c :: r) = pI (c :: r) := rfl
      conv at hpI => rhs; unfold pI
      simp only [hdec, hfx] at hpI
      by_cases hs : 255 - c.toNat < 248
      · rw [if_pos hs] at hpI
        repeat' (first | refine stpS ?_ | (refine stp2 ?_ ?_ <;> intro _))
        refine RS.put rfl rfl (o_xorN opd opd (by rfl) (by omega) (by omega)) ?_
        repeat' (first | refine stpS ?_ | (refine stp2 ?_ ?_ <;> intro _))
        rw [q1, hpI]
        have e1 : -(((255 - c.toNat : Nat) : Int) - 128) - 1 = sgn true (255 - c.toNat - 128) := by unfold sgn; simp only [if_true]; omega
        rw [e1]; rfl
      · rw [if_neg hs] at hpI
        by_cases hr : r.length < 255 - c.toNat - 247
        · rw [if_pos hr] at hpI
          repeat' (first | refine stpS ?_ | (refine stp2 ?_ ?_ <;> intro _))
          rw [hpI]; rfl
        · rw [if_neg hr] at hpI
          have hSd : SlB h n' (sub a (Int.toNat 1)) r := by
            have := SlB.cut S (i := 1) (u := (c :: r).length) (by omega) (Nat.le_refl _)
            rwa [List.take_length] at this
          have hSe : SlR h n' (sub a (Int.toNat 1)) 1 ((c :: r).length - Int.toNat 1) (bytesF r) := hSd
          obtain ⟨k, hk⟩ : ∃ k, k = 255 - c.toNat - 247 := ⟨_, rfl⟩
          have hSk : SlR h n' (sub a (Int.toNat 1)) 1 k (bytesF r) := SlR.take hSd (by omega)
          rw [← hk] at hpI
          repeat' (first | refine stpS ?_ | (refine stp2 ?_ ?_ <;> intro _))
          rw [q1, show (((255 - c.toNat : Nat) : Int) - 247) = (k : Nat) by omega, Int.toNat_natCast]
          refine RC.loop ?_
          refine RL.inv (α := Nat) (fun i => [(46, .int .i64 (i : Nat)), (45, .int .i64 (k : Nat)), (44, .slice (sub a (Int.toNat 1)) k k), (8, .int .u64 (val ((r.take i).map (flipU true)) : Nat)), (5, .int .u8 255), (7, .int .i64 (k : Nat))])
            (fun i n1 h1 => i ≤ k ∧ n1 = n' ∧ h1 = h)
            (fun i => k - i) 0 envs ⟨by omega, rfl, rfl⟩ ?_
          rintro i n1 h1 ⟨hi, rfl, rfl⟩
          by_cases hlt : i < k
          · have hv := val_take_lt true r i (by omega)
            have hvs := val_succ true r i (by omega)
            have hb : (r.getD (i : Int).toNat 0).toNat < 256 := UInt8.toNat_lt _
            have hb' : (r.getD i 0).toNat < 256 := UInt8.toNat_lt _
            have hx : ((((r.getD (i : Int).toNat 0).toNat : Nat) : Int).toNat ^^^ Int.toNat 255) = (flipU true (r.getD i 0)).toNat := by
              rw [Int.toNat_natCast, Int.toNat_natCast]
              exact (xor255 _ hb).trans (flip_nat _).symm
            have hfb : (flipU true (r.getD i 0)).toNat < 256 := UInt8.toNat_lt _
            repeat' (first | refine stpS ?_ | (refine stp2 ?_ ?_ <;> intro _))
            simp only [Int.toNat_natCast]
            simp only [Int.toNat_natCast] at hx
            rw [hx, show Int.toNat 8 = 8 from rfl, or_byte _ _ hv hfb, ← hvs]
            exact nextC.normal ⟨i + 1, by omega, envs, by omega, rfl, rfl⟩
          · obtain rfl : i = k := by omega
            have hs2 := form_sgn false (val ((r.take i).map (flipU true)) + 120)
            have hs3 : (form (((val ((r.take i).map (flipU true)) : Nat) : Int) + 120)).length = 1 + nb (val ((r.take i).map (flipU true))) := by
              have e0 : sgn false (val ((r.take i).map (flipU true)) + 120) = ((val ((r.take i).map (flipU true)) : Nat) : Int) + 120 := by unfold sgn; simp only [Bool.false_eq_true, if_false]; omega
              rw [← e0, hs2, List.length_map, formUp_length, if_neg (by omega), Nat.add_sub_cancel]
            by_cases hbig : 9223372036854775687 < val ((r.take i).map (flipU true))
            · rw [if_pos hbig] at hpI
              repeat' (first | refine stpS ?_ | (refine stp2 ?_ ?_ <;> intro _))
              rw [hpI]; rfl
            · rw [if_neg hbig] at hpI
              repeat' (first | refine stpS ?_ | (refine stp2 ?_ ?_ <;> intro _))
              refine RS.call1 rfl opds (size_ev _ (by omega) (by omega) _ _) none'W ?_
              by_cases hnb : nb (val ((r.take i).map (flipU true))) = i
              · rw [if_neg (by simpa using hnb)] at hpI
                repeat' (first | refine stpS ?_ | (refine stp2 ?_ ?_ <;> intro _))
                refine RS.put rfl rfl (o_xorN opd opd (by rfl) (by omega) (by omega)) ?_
                repeat' (first | refine stpS ?_ | (refine stp2 ?_ ?_ <;> intro _))
                rw [hpI]
                have e1 : -(((val ((r.take i).map (flipU true)) : Nat) : Int) + 120) - 1 = sgn true (val ((r.take i).map (flipU true)) + 120) := by unfold sgn; simp only [if_true]; omega
                rw [e1]; unfold pIV; rw [show ((1 + i : Nat) : Int) = 1 + (i : Int) by omega]; rfl
              · rw [if_pos (by simpa using hnb)] at hpI
                repeat' (first | refine stpS ?_ | (refine stp2 ?_ ?_ <;> intro _))
                rw [hpI]; rfl
    · have hfx : (flipU false c).toNat = c.toNat := rfl
      have hdec : decide (c.toNat < 128) = false := decide_eq_false hlow
      have hpI : pI (c :: r) = pI (c :: r) := rfl
      conv at hpI => rhs; unfold pI
      simp only [hdec, hfx] at hpI
      by_cases hs : c.toNat < 248
      · rw [if_pos hs] at hpI
        repeat' (first | refine stpS ?_ | (refine stp2 ?_ ?_ <;> intro _))
        rw [q2, hpI]
        have e1 : (((((c.toNat : Nat) : Int) - 128).toNat ^^^ (-(0 % 2 : Int)).toNat : Nat) : Int) = sgn false (c.toNat - 128) := by
          unfold sgn
          rw [show (-(0 % 2 : Int)).toNat = 0 from rfl, Nat.xor_zero]
          simp only [Bool.false_eq_true, if_false]; omega
        rw [e1]; rfl
      · rw [if_neg hs] at hpI
        by_cases hr : r.length < c.toNat - 247
        · rw [if_pos hr] at hpI
          repeat' (first | refine stpS ?_ | (refine stp2 ?_ ?_ <;> intro _))
          rw [hpI]; rfl
        · rw [if_neg hr] at hpI
          have hSd : SlB h n' (sub a (Int.toNat 1)) r := by
            have := SlB.cut S (i := 1) (u := (c :: r).length) (by omega) (Nat.le_refl _)
            rwa [List.take_length] at this
          have hSe : SlR h n' (sub a (Int.toNat 1)) 1 ((c :: r).length - Int.toNat 1) (bytesF r) := hSd
          obtain ⟨k, hk⟩ : ∃ k, k = c.toNat - 247 := ⟨_, rfl⟩
          have hSk : SlR h n' (sub a (Int.toNat 1)) 1 k (bytesF r) := SlR.take hSd (by omega)
          rw [← hk] at hpI
          repeat' (first | refine stpS ?_ | (refine stp2 ?_ ?_ <;> intro _))
          rw [q2, show (((c.toNat : Nat) : Int) - 247) = (k : Nat) by omega, Int.toNat_natCast]
          refine RC.loop ?_
          refine RL.inv (α := Nat) (fun i => [(46, .int .i64 (i : Nat)), (45, .int .i64 (k : Nat)), (44, .slice (sub a (Int.toNat 1)) k k), (8, .int .u64 (val ((r.take i).map (flipU false)) : Nat)), (5, .int .u8 0), (7, .int .i64 (k : Nat))])
            (fun i n1 h1 => i ≤ k ∧ n1 = n' ∧ h1 = h)
            (fun i => k - i) 0 envs ⟨by omega, rfl, rfl⟩ ?_
          rintro i n1 h1 ⟨hi, rfl, rfl⟩
          by_cases hlt : i < k
          · have hv := val_take_lt false r i (by omega)
            have hvs := val_succ false r i (by omega)
            have hb : (r.getD (i : Int).toNat 0).toNat < 256 := UInt8.toNat_lt _
            have hb' : (r.getD i 0).toNat < 256 := UInt8.toNat_lt _
            have hx : ((((r.getD (i : Int).toNat 0).toNat : Nat) : Int).toNat ^^^ Int.toNat 0) = (flipU false (r.getD i 0)).toNat := by
              rw [Int.toNat_natCast, Int.toNat_natCast]
              exact Nat.xor_zero _
            have hfb : (flipU false (r.getD i 0)).toNat < 256 := UInt8.toNat_lt _
            repeat' (first | refine stpS ?_ | (refine stp2 ?_ ?_ <;> intro _))
            simp only [Int.toNat_natCast]
            simp only [Int.toNat_natCast] at hx
            rw [hx, show Int.toNat 8 = 8 from rfl, or_byte _ _ hv hfb, ← hvs]
            exact nextC.normal ⟨i + 1, by omega, envs, by omega, rfl, rfl⟩
          · obtain rfl : i = k := by omega
            have hs2 := form_sgn false (val ((r.take i).map (flipU false)) + 120)
            have hs3 : (form (((val ((r.take i).map (flipU false)) : Nat) : Int) + 120)).length = 1 + nb (val ((r.take i).map (flipU false))) := by
              have e0 : sgn false (val ((r.take i).map (flipU false)) + 120) = ((val ((r.take i).map (flipU false)) : Nat) : Int) + 120 := by unfold sgn; simp only [Bool.false_eq_true, if_false]; omega
              rw [← e0, hs2, List.length_map, formUp_length, if_neg (by omega), Nat.add_sub_cancel]
            by_cases hbig : 9223372036854775687 < val ((r.take i).map (flipU false))
            · rw [if_pos hbig] at hpI
              repeat' (first | refine stpS ?_ | (refine stp2 ?_ ?_ <;> intro _))
              rw [hpI]; rfl
            · rw [if_neg hbig] at hpI
              repeat' (first | refine stpS ?_ | (refine stp2 ?_ ?_ <;> intro _))
              refine RS.call1 rfl opds (size_ev _ (by omega) (by omega) _ _) none'W ?_
              by_cases hnb : nb (val ((r.take i).map (flipU false))) = i
              · rw [if_neg (by simpa using hnb)] at hpI
                repeat' (first | refine stpS ?_ | (refine stp2 ?_ ?_ <;> intro _))
                rw [hpI]
                have e1 : (((((val ((r.take i).map (flipU false)) : Nat) : Int) + 120).toNat ^^^ (-(0 % 2 : Int)).toNat : Nat) : Int) = sgn false (val ((r.take i).map (flipU false)) + 120) := by
                  unfold sgn
                  rw [show (-(0 % 2 : Int)).toNat = 0 from rfl, Nat.xor_zero]
                  simp only [Bool.false_eq_true, if_false]; omega
                rw [e1]; unfold pIV; rw [show ((1 + i : Nat) : Int) = 1 + (i : Int) by omega]; rfl
              · rw [if_pos (by simpa using hnb)] at hpI
                repeat' (first | refine stpS ?_ | (refine stp2 ?_ ?_ <;> intro _))
                rw [hpI]; rfl
end Go.Proofs.YtflhhipemmlgpaaDoor

/- Contracts of the document: the int that bytes begin with. -/
namespace Go.Proofs.YtflhhipemmlgpaaDoor
open Go.Abs

set_option maxHeartbeats 4000000 in
theorem parseInt_ev (b : List UInt8) (a : Option Addr) (m n : Nat) (h : AH) (S : SlB h n a b) (e : m = b.length) (hm : m ≤ 1099511627776) :
    Ev Tryd.prog none' 59 #[.slice a m m] n h (pIV (pI b)) n h := by
  subst e
  refine RF.pure (by simp [pIV, flat]) fun n' hn => ?_
  have S := S.ext (Ext.refl n h) hn
  refine RF.of Tryd.func59 rfl rfl (Nat.le_of_ble_eq_true rfl) ?_; dsimp only [argEnv]
  cases b with
  | nil =>
    repeat' (first | refine stpS ?_ | (refine stp2 ?_ ?_ <;> intro _))
    rfl
  | cons c r =>
    have hc := c.toNat_lt
    have q0 : ((c :: r).getD (Int.toNat 0) 0).toNat = c.toNat := rfl
    have ql : (c :: r).length = r.length + 1 := rfl
    by_cases hlow : c.toNat < 128
    · have hfx : (flipU true c).toNat = 255 - c.toNat := flip_nat c
      have hdec : decide (c.toNat < 128) = true := decide_eq_true hlow
      have hpI : pI (c :: r) = pI (c :: r) := rfl
      conv at hpI => rhs; unfold pI
      simp only [hdec, hfx] at hpI
      by_cases hs : 255 - c.toNat < 248
      · rw [if_pos hs] at hpI
        repeat' (first | refine stpS ?_ | (refine stp2 ?_ ?_ <;> intro _))
        rw [hpI]
        have e1 : -(255 - (c.toNat : Int) - 128) - 1 = sgn true (255 - c.toNat - 128) := by unfold sgn; simp only [if_true]; omega
        refine Eq.trans ?_ (congrArg (fun x => Value.tuple #[.int .i64 x, .int .i64 1, .int .i64 0]) e1)
        rfl
      · rw [if_neg hs] at hpI
        by_cases hr : r.length < 255 - c.toNat - 247
        · rw [if_pos hr] at hpI
          repeat' (first | refine stpS ?_ | (refine stp2 ?_ ?_ <;> intro _))
          rw [hpI]; rfl
        · rw [if_neg hr] at hpI
          obtain ⟨k, hk⟩ : ∃ k, k = 255 - c.toNat - 247 := ⟨_, rfl⟩
          rw [← hk] at hpI
          have hkI : (255 - (((c :: r).getD (Int.toNat 0) 0).toNat : Int)) - 247 = (k : Nat) := by rw [q0]; omega
          repeat' (first | refine stpS ?_ | (refine stp2 ?_ ?_ <;> intro _))
          rw [hkI]
          refine RC.loop ?_
          refine RL.inv (α := Nat) (fun i => [(10, .int .i64 ((i : Nat) + 1)), (9, .int .u64 (val ((r.take i).map (flipU true)) : Nat)), (8, .int .i64 (k : Nat)), (5, .bool true), (0, .slice a (c :: r).length (c :: r).length)])
            (fun i n1 h1 => i ≤ k ∧ n1 = n' ∧ h1 = h)
            (fun i => k - i) 0 envs ⟨by omega, rfl, rfl⟩ ?_
          rintro i n1 h1 ⟨hi, rfl, rfl⟩
          by_cases hlt : i < k
          · have hv := val_take_lt true r i (by omega)
            have hvs := val_succ true r i (by omega)
            have hgi : (c :: r).getD ((i : Int) + 1).toNat 0 = r.getD i 0 := by rw [show ((i : Int) + 1).toNat = i + 1 by omega]; rfl
            have hb' : (r.getD i 0).toNat < 256 := UInt8.toNat_lt _
            have hb : ((c :: r).getD ((i : Int) + 1).toNat 0).toNat < 256 := UInt8.toNat_lt _
            repeat' (first | refine stpS ?_ | (refine stp2 ?_ ?_ <;> intro _))
            refine nextC.normal ⟨i + 1, by omega, ?_, by omega, rfl, rfl⟩
            rw [show ((i + 1 : Nat) : Int) = (i : Int) + 1 by omega, hvs]
            rw [show ((val ((r.take i).map (flipU true)) * 256 + (flipU true (r.getD i 0)).toNat : Nat) : Int) = (val ((r.take i).map (flipU true)) : Int) * 256 + (255 - (((c :: r).getD ((i : Int) + 1).toNat 0).toNat : Int)) by rw [hgi]; rw [flip_nat]; omega]
            exact envs
          · obtain rfl : i = k := by omega
            have hs2 := form_sgn true (val ((r.take i).map (flipU true)) + 120)
            have hs3 : (form (sgn true (val ((r.take i).map (flipU true)) + 120))).length = 1 + nb (val ((r.take i).map (flipU true))) := by
              rw [hs2, List.length_map, formUp_length, if_neg (by omega), Nat.add_sub_cancel]
            by_cases hbig : 9223372036854775687 < val ((r.take i).map (flipU true))
            · rw [if_pos hbig] at hpI
              repeat' (first | refine stpS ?_ | (refine stp2 ?_ ?_ <;> intro _))
              rw [hpI]; rfl
            · rw [if_neg hbig] at hpI
              have e2 : -((((val ((r.take i).map (flipU true)) : Nat) : Int) + 120)) - 1 = sgn true (val ((r.take i).map (flipU true)) + 120) := by unfold sgn; simp only [if_true]; omega
              have hb2 : -9223372036854775808 ≤ sgn true (val ((r.take i).map (flipU true)) + 120) ∧ sgn true (val ((r.take i).map (flipU true)) + 120) < 9223372036854775808 := by omega
              repeat' (first | refine stpS ?_ | (refine stp2 ?_ ?_ <;> intro _))
              rw [e2]
              have hfl := form_le _ hb2.1 hb2.2
              refine RS.call rfl opds (refInt_rf _ hb2.1 hb2.2 _ _) none'W ?_
              rintro r2 n2 h2 hle2 ⟨a2, rfl, hE2, hO2⟩
              rw [hs3] at hfl ⊢
              by_cases hnb : nb (val ((r.take i).map (flipU true))) = i
              · rw [if_neg (by simpa using hnb)] at hpI
                repeat' (first | refine stpS ?_ | (refine stp2 ?_ ?_ <;> intro _))
                rw [hpI]
                unfold pIV; rw [show ((1 + i : Nat) : Int) = 1 + (i : Int) by omega]; rfl
              · rw [if_pos (by simpa using hnb)] at hpI
                repeat' (first | refine stpS ?_ | (refine stp2 ?_ ?_ <;> intro _))
                rw [hpI]; rfl
    · have hfx : (flipU false c).toNat = c.toNat := rfl
      have hdec : decide (c.toNat < 128) = false := decide_eq_false hlow
      have hpI : pI (c :: r) = pI (c :: r) := rfl
      conv at hpI => rhs; unfold pI
      simp only [hdec, hfx] at hpI
      by_cases hs : c.toNat < 248
      · rw [if_pos hs] at hpI
        repeat' (first | refine stpS ?_ | (refine stp2 ?_ ?_ <;> intro _))
        rw [hpI]
        have e1 : (c.toNat : Int) - 128 = sgn false (c.toNat - 128) := by unfold sgn; simp only [Bool.false_eq_true, if_false]; omega
        refine Eq.trans ?_ (congrArg (fun x => Value.tuple #[.int .i64 x, .int .i64 1, .int .i64 0]) e1)
        rfl
      · rw [if_neg hs] at hpI
        by_cases hr : r.length < c.toNat - 247
        · rw [if_pos hr] at hpI
          repeat' (first | refine stpS ?_ | (refine stp2 ?_ ?_ <;> intro _))
          rw [hpI]; rfl
        · rw [if_neg hr] at hpI
          obtain ⟨k, hk⟩ : ∃ k, k = c.toNat - 247 := ⟨_, rfl⟩
          rw [← hk] at hpI
          have hkI : ((((c :: r).getD (Int.toNat 0) 0).toNat : Int)) - 247 = (k : Nat) := by rw [q0]; omega
          repeat' (first | refine stpS ?_ | (refine stp2 ?_ ?_ <;> intro _))
          rw [hkI]
          refine RC.loop ?_
          refine RL.inv (α := Nat) (fun i => [(10, .int .i64 ((i : Nat) + 1)), (9, .int .u64 (val ((r.take i).map (flipU false)) : Nat)), (8, .int .i64 (k : Nat)), (5, .bool false), (0, .slice a (c :: r).length (c :: r).length)])
            (fun i n1 h1 => i ≤ k ∧ n1 = n' ∧ h1 = h)
            (fun i => k - i) 0 envs ⟨by omega, rfl, rfl⟩ ?_
          rintro i n1 h1 ⟨hi, rfl, rfl⟩
          by_cases hlt : i < k
          · have hv := val_take_lt false r i (by omega)
            have hvs := val_succ false r i (by omega)
            have hgi : (c :: r).getD ((i : Int) + 1).toNat 0 = r.getD i 0 := by rw [show ((i : Int) + 1).toNat = i + 1 by omega]; rfl
            have hb' : (r.getD i 0).toNat < 256 := UInt8.toNat_lt _
            have hb : ((c :: r).getD ((i : Int) + 1).toNat 0).toNat < 256 := UInt8.toNat_lt _
            repeat' (first | refine stpS ?_ | (refine stp2 ?_ ?_ <;> intro _))
            refine nextC.normal ⟨i + 1, by omega, ?_, by omega, rfl, rfl⟩
            rw [show ((i + 1 : Nat) : Int) = (i : Int) + 1 by omega, hvs]
            rw [show ((val ((r.take i).map (flipU false)) * 256 + (flipU false (r.getD i 0)).toNat : Nat) : Int) = (val ((r.take i).map (flipU false)) : Int) * 256 + ((((c :: r).getD ((i : Int) + 1).toNat 0).toNat : Int)) by rw [hgi]; rw [show flipU false (r.getD i 0) = r.getD i 0 from rfl]; omega]
            exact envs
          · obtain rfl : i = k := by omega
            have hs2 := form_sgn false (val ((r.take i).map (flipU false)) + 120)
            have hs3 : (form (sgn false (val ((r.take i).map (flipU false)) + 120))).length = 1 + nb (val ((r.take i).map (flipU false))) := by
              rw [hs2, List.length_map, formUp_length, if_neg (by omega), Nat.add_sub_cancel]
            by_cases hbig : 9223372036854775687 < val ((r.take i).map (flipU false))
            · rw [if_pos hbig] at hpI
              repeat' (first | refine stpS ?_ | (refine stp2 ?_ ?_ <;> intro _))
              rw [hpI]; rfl
            · rw [if_neg hbig] at hpI
              have e2 : ((val ((r.take i).map (flipU false)) : Nat) : Int) + 120 = sgn false (val ((r.take i).map (flipU false)) + 120) := by unfold sgn; simp only [Bool.false_eq_true, if_false]; omega
              have hb2 : -9223372036854775808 ≤ sgn false (val ((r.take i).map (flipU false)) + 120) ∧ sgn false (val ((r.take i).map (flipU false)) + 120) < 9223372036854775808 := by omega
              repeat' (first | refine stpS ?_ | (refine stp2 ?_ ?_ <;> intro _))
              rw [e2]
              have hfl := form_le _ hb2.1 hb2.2
              refine RS.call rfl opds (refInt_rf _ hb2.1 hb2.2 _ _) none'W ?_
              rintro r2 n2 h2 hle2 ⟨a2, rfl, hE2, hO2⟩
              rw [hs3] at hfl ⊢
              by_cases hnb : nb (val ((r.take i).map (flipU false))) = i
              · rw [if_neg (by simpa using hnb)] at hpI
                repeat' (first | refine stpS ?_ | (refine stp2 ?_ ?_ <;> intro _))
                rw [hpI]
                unfold pIV; rw [show ((1 + i : Nat) : Int) = 1 + (i : Int) by omega]; rfl
              · rw [if_pos (by simpa using hnb)] at hpI
                repeat' (first | refine stpS ?_ | (refine stp2 ?_ ?_ <;> intro _))
                rw [hpI]; rfl
end Go.Proofs.YtflhhipemmlgpaaDoor

/- The plain law of readers: bytes. -/
namespace Go.Proofs.YtflhhipemmlgpaaDoor
open Go.Abs

abbrev PB := List UInt8 × Nat × Nat
/-- What stands ahead of what is read. -/
def addP (o : List UInt8) (i : Nat) (x : PB) : PB := if x.2.2 = 0 then (o ++ x.1, x.2.1 + i, 0) else ([], 0, x.2.2)
/-- The bytes that bytes begin with, how many their form has, the error. -/
def pB : List UInt8 → PB
  | [] => ([], 0, 30)
  | [c] => if c.toNat = 0 then ([], 0, 30) else addP [c] 1 ([], 0, 30)
  | c :: d :: r =>
    if c.toNat = 0 then (if d.toNat = 0 then ([], 2, 0) else if d.toNat = 1 then addP [0] 2 (pB r) else ([], 0, 31))
    else addP [c] 1 (pB (d :: r))
theorem addP_add (o o' : List UInt8) (i i' : Nat) (x : PB) : addP o i (addP o' i' x) = addP (o ++ o') (i + i') x := by
  unfold addP
  by_cases h : x.2.2 = 0
  · simp only [h, if_true, List.append_assoc]; congr 2; omega
  · simp only [h, if_false]
theorem addP_err (o : List UInt8) (i e : Nat) (h : e ≠ 0) : addP o i ([], 0, e) = ([], 0, e) := by unfold addP; rw [if_neg h]
theorem pB_cons (c : UInt8) (r : List UInt8) (h : ¬ c.toNat = 0) : pB (c :: r) = addP [c] 1 (pB r) := by
  cases r with
  | nil => rw [show pB ([] : List UInt8) = ([], 0, 30) from rfl, pB, if_neg h]
  | cons d r => rw [pB, if_neg h]
theorem pB_zero (c d : UInt8) (r : List UInt8) (h : c.toNat = 0) : pB (c :: d :: r) = (if d.toNat = 0 then ([], 2, 0) else if d.toNat = 1 then addP [0] 2 (pB r) else ([], 0, 31)) := by rw [pB, if_pos h]
theorem pB_one (c : UInt8) (h : c.toNat = 0) : pB [c] = ([], 0, 30) := by rw [pB, if_pos h]
theorem pB_app (p r : List UInt8) (h : ∀ k : Nat, p[k]? ≠ some 0) : pB (p ++ r) = addP p p.length (pB r) := by
  induction p with
  | nil =>
    simp only [List.nil_append, List.length_nil]
    unfold addP
    by_cases q : (pB r).2.2 = 0
    · rw [if_pos q, List.nil_append, Nat.add_zero, ← q]
    · rw [if_neg q]
      have : ∀ b, (pB b).2.2 ≠ 0 → (pB b).1 = [] ∧ (pB b).2.1 = 0 := by
        intro b
        induction b using pB.induct with
        | case1 => intro _; exact ⟨rfl, rfl⟩
        | case2 c h => intro _; rw [pB_one c h]; exact ⟨rfl, rfl⟩
        | case3 c h => intro _; rw [pB, if_neg h]; exact ⟨rfl, rfl⟩
        | case4 c d r hc hd => intro q; rw [pB_zero c d r hc, if_pos hd] at q; exact absurd rfl q
        | case5 c d r hc hd h1 ih =>
          rw [pB_zero c d r hc, if_neg hd, if_pos h1]; intro q
          unfold addP at q ⊢; split at q <;> simp_all
        | case6 c d r hc hd h1 => intro _; rw [pB_zero c d r hc, if_neg hd, if_neg h1]; exact ⟨rfl, rfl⟩
        | case7 c d r hc ih =>
          rw [pB_cons c _ hc]; intro q
          unfold addP at q ⊢; split at q <;> simp_all
      obtain ⟨h1, h2⟩ := this r q
      exact Prod.ext h1 (Prod.ext h2 rfl)
  | cons c p ih =>
    have hc : ¬ c.toNat = 0 := fun e => h 0 (by simpa using (UInt8.toNat_inj (a := c) (b := 0)).1 e)
    rw [List.cons_append, pB_cons c _ hc, ih fun k => by simpa using h (k + 1), addP_add]
    simp only [List.length_cons, List.cons_append, List.nil_append]
    congr 1; omega
theorem addP_nil (x : PB) (h : x.2.2 ≠ 0 → x = ([], 0, x.2.2)) : addP [] 0 x = x := by
  unfold addP
  by_cases q : x.2.2 = 0
  · rw [if_pos q, List.nil_append, Nat.add_zero, ← q]
  · rw [if_neg q]; exact (h q).symm
theorem pB_addP (b : List UInt8) : addP [] 0 (pB b) = pB b := (pB_app [] b (by simp)).symm
theorem pB_none {b : List UInt8} (h : ∀ k : Nat, b[k]? ≠ some 0) : pB b = ([], 0, 30) := by
  have := pB_app b [] h
  rw [List.append_nil] at this
  rw [this]; exact addP_err _ _ _ (by decide)
/-- What was put is read. -/
theorem pB_form (l r : List UInt8) : pB (formB l ++ r) = (l, (formB l).length, 0) := by
  have key : pB (esc l ++ ([0, 0] ++ r)) = addP l (esc l).length (([], 2, 0) : PB) := by
    induction l with
    | nil => rw [show esc [] = [] from rfl, List.nil_append, show ([0, 0] ++ r : List UInt8) = 0 :: 0 :: r from rfl, pB_zero _ _ _ rfl, if_pos (show (0 : UInt8).toNat = 0 from rfl)]; rfl
    | cons c l ih =>
      have e : esc (c :: l) = escB c ++ esc l := by simp [esc]
      rw [e]
      unfold escB
      by_cases hc : c.toNat = 0
      · rw [if_pos hc]
        simp only [List.cons_append, List.nil_append]
        rw [pB_zero _ _ _ hc, if_neg (by decide), if_pos (by decide)]
        rw [show (0 :: 0 :: r : List UInt8) = [0, 0] ++ r from rfl, ih, addP_add]
        have : c = 0 := (UInt8.toNat_inj (a := c) (b := 0)).1 hc
        subst this
        simp only [List.length_cons, List.cons_append, List.nil_append]
        congr 1; omega
      · rw [if_neg hc]
        simp only [List.cons_append, List.nil_append]
        rw [pB_cons _ _ hc, show (0 :: 0 :: r : List UInt8) = [0, 0] ++ r from rfl, ih, addP_add]
        simp only [List.length_cons, List.cons_append, List.nil_append]
        congr 1; omega
  unfold formB
  rw [List.append_assoc, key]
  unfold addP
  simp only [if_true, List.append_nil, List.length_append, List.length_cons, List.length_nil]
  congr 2; omega
/-- What is read was put. -/
theorem pB_ok {b l : List UInt8} {k : Nat} (h : pB b = (l, k, 0)) : k ≤ b.length ∧ formB l = b.take k := by
  induction b using pB.induct generalizing l k with
  | case1 => simp [pB] at h
  | case2 c hc => rw [pB_one c hc] at h; simp at h
  | case3 c hc => rw [pB, if_neg hc, addP_err _ _ _ (by decide)] at h; simp at h
  | case4 c d r hc hd =>
    rw [pB_zero c d r hc, if_pos hd] at h
    simp only [Prod.mk.injEq, and_true] at h
    obtain ⟨rfl, rfl⟩ := h
    have e1 : c = 0 := (UInt8.toNat_inj (a := c) (b := 0)).1 hc
    have e2 : d = 0 := (UInt8.toNat_inj (a := d) (b := 0)).1 hd
    subst e1; subst e2
    exact ⟨by simp, rfl⟩
  | case5 c d r hc hd h1 ih =>
    rw [pB_zero c d r hc, if_neg hd, if_pos h1] at h
    obtain ⟨x, hx⟩ : ∃ x, x = pB r := ⟨_, rfl⟩
    rw [← hx] at h
    unfold addP at h
    by_cases q : x.2.2 = 0
    · rw [if_pos q] at h
      simp only [Prod.mk.injEq, and_true] at h
      obtain ⟨rfl, rfl⟩ := h
      obtain ⟨i1, i2⟩ := ih (l := x.1) (k := x.2.1) (by rw [← hx, ← q])
      have e1 : c = 0 := (UInt8.toNat_inj (a := c) (b := 0)).1 hc
      have e2 : d = 1 := (UInt8.toNat_inj (a := d) (b := 1)).1 h1
      subst e1; subst e2
      refine ⟨by simp only [List.length_cons]; omega, ?_⟩
      show [0, 1] ++ formB x.1 = _
      rw [i2]; rfl
    · rw [if_neg q] at h
      simp only [Prod.mk.injEq] at h
      exact absurd h.2.2 q
  | case6 c d r hc hd h1 => rw [pB_zero c d r hc, if_neg hd, if_neg h1] at h; simp at h
  | case7 c d r hc ih =>
    rw [pB_cons c _ hc] at h
    obtain ⟨x, hx⟩ : ∃ x, x = pB (d :: r) := ⟨_, rfl⟩
    rw [← hx] at h
    unfold addP at h
    by_cases q : x.2.2 = 0
    · rw [if_pos q] at h
      simp only [Prod.mk.injEq, and_true] at h
      obtain ⟨rfl, rfl⟩ := h
      obtain ⟨i1, i2⟩ := ih (l := x.1) (k := x.2.1) (by rw [← hx, ← q])
      refine ⟨by simp only [List.length_cons] at i1 ⊢; omega, ?_⟩
      have : formB (c :: x.1) = c :: formB x.1 := by
        have : escB c = [c] := by unfold escB; rw [if_neg hc]
        show escB c ++ esc x.1 ++ [0, 0] = _
        rw [this]; rfl
      show formB (c :: x.1) = _
      rw [this, i2]; rfl
    · rw [if_neg q] at h
      simp only [Prod.mk.injEq] at h
      exact absurd h.2.2 q
theorem formB_ge (l : List UInt8) : l.length + 2 ≤ (formB l).length := by
  unfold formB
  rw [List.length_append, esc_length]
  show _ ≤ _ + 2
  omega
theorem pB_err (b : List UInt8) : (pB b).2.2 = 0 ∨ ((pB b).1 = [] ∧ (pB b).2.1 = 0 ∧ ((pB b).2.2 = 30 ∨ (pB b).2.2 = 31)) := by
  induction b using pB.induct with
  | case1 => exact .inr ⟨rfl, rfl, .inl rfl⟩
  | case2 c h => rw [pB_one c h]; exact .inr ⟨rfl, rfl, .inl rfl⟩
  | case3 c h => rw [pB, if_neg h]; exact .inr ⟨rfl, rfl, .inl rfl⟩
  | case4 c d r hc hd => rw [pB_zero c d r hc, if_pos hd]; exact .inl rfl
  | case5 c d r hc hd h1 ih =>
    rw [pB_zero c d r hc, if_neg hd, if_pos h1]
    unfold addP
    split
    · exact .inl rfl
    · rename_i q; exact .inr ⟨rfl, rfl, (ih.resolve_left q).2.2⟩
  | case6 c d r hc hd h1 => rw [pB_zero c d r hc, if_neg hd, if_neg h1]; exact .inr ⟨rfl, rfl, .inr rfl⟩
  | case7 c d r hc ih =>
    rw [pB_cons c _ hc]
    unfold addP
    split
    · exact .inl rfl
    · rename_i q; exact .inr ⟨rfl, rfl, (ih.resolve_left q).2.2⟩
theorem pI_err (b : List UInt8) : (pI b).2.2 = 0 ∨ ((pI b).1 = 0 ∧ (pI b).2.1 = 0 ∧ ((pI b).2.2 = 30 ∨ (pI b).2.2 = 31)) := by
  unfold pI
  split
  · exact .inr ⟨rfl, rfl, .inl rfl⟩
  · split
    · exact .inl rfl
    · split
      · exact .inr ⟨rfl, rfl, .inl rfl⟩
      · split
        · exact .inr ⟨rfl, rfl, .inr rfl⟩
        · split
          · exact .inr ⟨rfl, rfl, .inr rfl⟩
          · exact .inl rfl
/-- One step of the scan for a zero. -/
theorem pB_scan {d : List UInt8} {k : Nat} (h : Lib.indexByte d 0 = k) : k < d.length ∧ d.take (k + 1) = d.take k ++ [0] ∧
    (k + 1 = d.length → pB d = ([], 0, 30)) ∧ ∀ (hk : k + 1 < d.length), pB d = (if (d.getD (k + 1) 0).toNat = 0 then (d.take k, k + 2, 0) else if (d.getD (k + 1) 0).toNat = 1 then addP (d.take k ++ [0]) (k + 2) (pB (d.drop (k + 2))) else ([], 0, 31)) := by
  obtain ⟨h1, h2⟩ := Lib.indexByte_some h
  have hlt : k < d.length := (List.getElem?_eq_some_iff.1 h1).1
  have hat : d[k] = 0 := by rw [List.getElem?_eq_getElem hlt] at h1; exact Option.some.inj h1
  have hp : ∀ i : Nat, (d.take k)[i]? ≠ some 0 := fun i => by
    rw [List.getElem?_take]
    split
    · rename_i q; exact h2 i q
    · simp
  have hl : (d.take k).length = k := by rw [List.length_take]; omega
  have e : d = d.take k ++ 0 :: d.drop (k + 1) := by
    have := List.take_append_drop k d
    rw [List.drop_eq_getElem_cons hlt, hat] at this
    exact this.symm
  have hs := pB_app (d.take k) (0 :: d.drop (k + 1)) hp
  rw [← e, hl] at hs
  refine ⟨hlt, by rw [List.take_succ_eq_append_getElem hlt, hat], fun q => ?_, fun q => ?_⟩
  · rw [hs, List.drop_eq_nil_of_le (by omega), pB_one _ rfl]
    exact addP_err _ _ _ (by decide)
  · rw [hs, List.drop_eq_getElem_cons q, pB_zero _ _ _ rfl]
    have : d.getD (k + 1) 0 = d[k + 1] := by simp [List.getD, q]
    rw [this]
    split
    · unfold addP; simp only [if_true, List.append_nil]; congr 2; omega
    · split
      · rw [addP_add]
      · exact addP_err _ _ _ (by decide)
end Go.Proofs.YtflhhipemmlgpaaDoor

/- Contracts of the document: the bytes that bytes begin with. -/
namespace Go.Proofs.YtflhhipemmlgpaaDoor
open Go.Abs

def PBr (x : PB) (n : Nat) (h : AH) (r : Value) (n' : Nat) (h' : AH) : Prop :=
  ∃ a', r = .tuple #[.slice a' x.1.length x.1.length, .int .i64 (x.2.1 : Nat), .int .i64 (x.2.2 : Nat)] ∧ Ext n h h' ∧ OwnSl h' n n' a' 1 x.1.length (bytesV x.1)
theorem drop_cons {b : List UInt8} {i : Nat} (h : i < b.length) : b.drop i = b.getD i 0 :: b.drop (i + 1) := by
  rw [List.drop_eq_getElem_cons h]
  simp [List.getD, h]
set_option maxHeartbeats 4000000 in
theorem parseBytes_rf (b : List UInt8) (a : Option Addr) (m n : Nat) (h : AH) (S : SlB h n a b) (e : m = b.length) (hm : m ≤ 1073741824) :
    RF Tryd.prog none' 60 #[.slice a m m] n h (PBr (pB b) n h) := by
  subst e
  refine RF.of Tryd.func60 rfl rfl (Nat.le_of_ble_eq_true rfl) ?_; dsimp only [argEnv]
  repeat' (first | refine stpS ?_ | (refine stp2 ?_ ?_ <;> intro _))
  refine RC.loop ?_
  refine RL.inv (α := Nat × Option Addr × List UInt8) (fun s => [(6, .int .i64 (s.1 : Nat)), (5, .slice s.2.1 s.2.2.length s.2.2.length), (0, .slice a b.length b.length)])
    (fun s n1 h1 => s.1 ≤ b.length ∧ n ≤ n1 ∧ Ext n h h1 ∧ OwnSl h1 n n1 s.2.1 1 s.2.2.length (bytesV s.2.2) ∧ s.2.2.length ≤ s.1 ∧ pB b = addP s.2.2 s.1 (pB (b.drop s.1)))
    (fun s => b.length - s.1) (0, none, []) envs ⟨by omega, Nat.le_refl _, Ext.refl _ _, OwnSl.nil (Nat.le_refl _), Nat.le_refl _, (pB_addP b).symm⟩ ?_
  rintro ⟨i, a1, o⟩ n1 h1 ⟨hi, hn, hE, hO, hol, hp⟩
  dsimp only at hi hn hE hO hol hp ⊢
  have hS : SlB h1 n1 a b := S.ext hE hn
  by_cases hlt : i < b.length
  · have hd := drop_cons hlt
    have hb : (b.getD (i : Int).toNat 0).toNat < 256 := UInt8.toNat_lt _
    have hgi : b.getD (i : Int).toNat 0 = b.getD i 0 := by rw [Int.toNat_natCast]
    by_cases hz : (b.getD i 0).toNat = 0
    · have hzI : (b.getD (i : Int).toNat 0).toNat = 0 := by rw [hgi]; exact hz
      by_cases he : i + 1 = b.length
      · rw [hd, List.drop_eq_nil_of_le (by omega), pB_one _ hz, addP_err _ _ _ (by decide)] at hp
        repeat' (first | refine stpS ?_ | (refine stp2 ?_ ?_ <;> intro _))
        rw [hp]
        exact ⟨none, rfl, ext, OwnSl.nil (by omega)⟩
      · have hd2 := drop_cons (b := b) (i := i + 1) (by omega)
        have hb2 : (b.getD ((i : Int) + 1).toNat 0).toNat < 256 := UInt8.toNat_lt _
        have hgi2 : b.getD ((i : Int) + 1).toNat 0 = b.getD (i + 1) 0 := by rw [show ((i : Int) + 1).toNat = i + 1 by omega]
        rw [hd, hd2, pB_zero _ _ _ hz] at hp
        by_cases h0 : (b.getD (i + 1) 0).toNat = 0
        · have h0I : (b.getD ((i : Int) + 1).toNat 0).toNat = 0 := by rw [hgi2]; exact h0
          rw [if_pos h0] at hp
          have hp : pB b = (o, 2 + i, 0) := by
            rw [hp]; unfold addP; simp only [if_true, List.append_nil]
          repeat' (first | refine stpS ?_ | (refine stp2 ?_ ?_ <;> intro _))
          rw [hp]
          exact ⟨a1, by rw [show ((2 + i : Nat) : Int) = (i : Int) + 2 by omega]; rfl, ext, hO⟩
        · have h0I : ¬ (b.getD ((i : Int) + 1).toNat 0).toNat = 0 := by rw [hgi2]; exact h0
          rw [if_neg h0] at hp
          by_cases h1 : (b.getD (i + 1) 0).toNat = 1
          · have h1I : (b.getD ((i : Int) + 1).toNat 0).toNat = 1 := by rw [hgi2]; exact h1
            rw [if_pos h1, addP_add] at hp
            repeat' (first | refine stpS ?_ | (refine stp2 ?_ ?_ <;> intro _))
            refine RS.append rfl opd opd (hO.ext ext (Nat.le_succ _)) (OwnSl.src (OwnSl.new1 (n0 := n1) (m := 1) (Nat.le_refl _) rfl rfl)) full_slice (fun b hb => Or.inr (by omega)) (by omega) ?_
            intro a2 n2 h2 hle2 hO2 hX2 hnew2
            have hE2 := hX2.ext (hO.ext ext (Nat.le_succ _))
            repeat' (first | refine stpS ?_ | (refine stp2 ?_ ?_ <;> intro _))
            refine nextC.normal ⟨(i + 1 + 1, a2, o ++ [0]), by dsimp only; omega, ?_, by dsimp only; omega, by omega, ext, ?_, by simp only [List.length_append, List.length_cons, List.length_nil]; omega, hp⟩
            · dsimp only
              rw [List.length_append, show ((i + 1 + 1 : Nat) : Int) = (i : Int) + 1 + 1 by omega]
              exact envs
            · dsimp only
              rw [List.length_append, bytesV_app]
              exact hO2
          · have h1I : ¬ (b.getD ((i : Int) + 1).toNat 0).toNat = 1 := by rw [hgi2]; exact h1
            rw [if_neg h1, addP_err _ _ _ (by decide)] at hp
            repeat' (first | refine stpS ?_ | (refine stp2 ?_ ?_ <;> intro _))
            rw [hp]
            exact ⟨none, rfl, ext, OwnSl.nil (by omega)⟩
    · have hzI : ¬ (b.getD (i : Int).toNat 0).toNat = 0 := by rw [hgi]; exact hz
      rw [hd, pB_cons _ _ hz, addP_add] at hp
      repeat' (first | refine stpS ?_ | (refine stp2 ?_ ?_ <;> intro _))
      refine RS.append rfl opd opd (hO.ext ext (Nat.le_succ _)) (OwnSl.src (OwnSl.new1 (n0 := n1) (m := 1) (Nat.le_refl _) rfl rfl)) full_slice (fun b hb => Or.inr (by omega)) (by omega) ?_
      intro a2 n2 h2 hle2 hO2 hX2 hnew2
      have hE2 := hX2.ext (hO.ext ext (Nat.le_succ _))
      repeat' (first | refine stpS ?_ | (refine stp2 ?_ ?_ <;> intro _))
      refine nextC.normal ⟨(i + 1, a2, o ++ [b.getD i 0]), by dsimp only; omega, ?_, by dsimp only; omega, by omega, ext, ?_, by simp only [List.length_append, List.length_cons, List.length_nil]; omega, hp⟩
      · dsimp only
        rw [List.length_append]
        exact envs
      · dsimp only
        rw [List.length_append, bytesV_app]
        rw [show bytesF b (i : Int).toNat = .int .u8 (b.getD i 0).toNat by rw [Int.toNat_natCast]; rfl] at hO2
        exact hO2
  · obtain rfl : i = b.length := by omega
    rw [List.drop_eq_nil_of_le (Nat.le_refl _), show pB ([] : List UInt8) = ([], 0, 30) from rfl, addP_err _ _ _ (by decide)] at hp
    repeat' (first | refine stpS ?_ | (refine stp2 ?_ ?_ <;> intro _))
    rw [hp]
    exact ⟨none, rfl, ext, OwnSl.nil (by omega)⟩
end Go.Proofs.YtflhhipemmlgpaaDoor

/- Contracts of codec: the bytes that bytes begin with (the function that Reader.Bytes hands to take). -/
namespace Go.Proofs.YtflhhipemmlgpaaDoor
open Go.Abs

section
variable {P : Program} {T : Nat → Prop} {env : Env} {n : Nat} {g : AH} {dst : Option Tmp} {ty : TypeId} {pos : String} {after : Array Edge} {gd : Option (Nat × Bool)}
theorem op_indexByte0 {f : FuncId} {fn : Func} {ts : Array TypeId} {x y : Operand} {c : Int} (hf : P.funcs[f]? = some fn) (hname : (fn.name == "runtime.NumGoroutine") = false) (hb : fn.body.isNone = true) (hn : Extern.findNext fn = none)
    (he : Extern.find fn = some Extern.BytealgIndexByte.indexByte) (hx : ev env x = .slice none 0 0) (hy : ev env y = .int .u8 c) :
    OpEv P T ⟨dst, .call { callee := .value (.func f), args := #[x, y], argTypes := ts }, ty, pos, after, gd⟩ env n g (.int .i64 (-1)) n .nil :=
  .look fun w0 ρ w H ce hl hsim hop => by
    have h1 := hop x (by simp [Op.operands, Call.operands]); rw [hx] at h1
    have h3 := hop y (by simp [Op.operands, Call.operands]); rw [hy] at h3
    have hcy : ce y = .int .u8 c := h3.int_inv
    have h2 := hop (.func f) (by simp [Op.operands, Call.operands])
    have hcf0 : ce (.func f) = .func (.func f) #[] #[] := by
      have e0 : ev env (.func f) = .func (.func f) #[] #[] := rfl
      rw [e0] at h2
      generalize ce (.func f) = q at h2
      cases h2 with
      | @func _ _ ys hs _ =>
        have : ys = #[] := Array.eq_empty_of_size_eq_zero (by simpa using hs.symm)
        rw [this]
    refine ⟨.int .i64 (-1), ?_, .int _ _⟩
    have hc : ce x = .slice none 0 0 := by generalize ce x = q at h1; cases h1; rfl
    have hrun := Lib.run_indexByteNil (P := P) w 0 0 c
    have hcf := run_callFunc_extern hf hname hb hn he #[.slice none 0 0, .int .u8 c] w
    rw [hrun] at hcf
    simp [execOp, resolve, invoke, hc, hcy, hcf, hcf0, Deferred.ofValue]
end
set_option maxHeartbeats 4000000 in
theorem indexByteA_ev (l : List UInt8) (c : UInt8) (a : Option Addr) (m n : Nat) (h : AH) (S : SlB h n a l) (e : m = l.length) :
    Ev Tryd.prog none' 52 #[.slice a m m, .int .u8 c.toNat] n h (.int .i64 (Lib.indexByte l c)) n h := by
  by_cases hl : 0 < l.length
  · exact indexByte_ev l c a m n h S hl e
  · have : l = [] := List.eq_nil_of_length_eq_zero (by omega)
    subst this; subst e
    refine RF.pure rfl fun n' hn => ?_
    have S := S.ext (Ext.refl n h) hn
    refine RF.of Tryd.func52 rfl rfl (Nat.le_of_ble_eq_true rfl) ?_; dsimp only [argEnv]
    repeat' (first | refine stpS ?_ | (refine stp2 ?_ ?_ <;> intro _))
    rcases S.shape with ⟨ha, hl⟩ | ⟨ha, -, -⟩
    · subst ha
      refine RS.put (v := .int .i64 (-1)) rfl rfl (op_indexByte0 (f := 63) Tryd.func63 (by kernel_rfl) (by kernel_rfl) (by kernel_rfl) (by kernel_rfl) (Opd.ev opd) (Opd.ev opd)) ?_
      repeat' (first | refine stpS ?_ | (refine stp2 ?_ ?_ <;> intro _))
      rfl
    · have hrd : rd h (sb a) (so a) ([] : List UInt8).length = bytesV [] := rfl
      rw [ha]
      refine RS.put (v := .int .i64 (Lib.indexByte [] ((c.toNat : Int).toNat.toUInt8))) rfl rfl (op_indexByte (f := 63) (l := []) Tryd.func63 (by kernel_rfl) (by kernel_rfl) (by kernel_rfl) (by kernel_rfl) (Opd.ev opd) (Opd.ev opd) hrd) ?_
      repeat' (first | refine stpS ?_ | (refine stp2 ?_ ?_ <;> intro _))
      rfl
/-- What the function that takes bytes answers, and leaves in the cell w. -/
def RdB (x : PB) (w n : Nat) (h : AH) (r : Value) (n' : Nat) (h' : AH) : Prop :=
  ∃ a', r = .tuple #[.int .i64 (x.2.1 : Nat), .int .i64 (x.2.2 : Nat)] ∧ ExtW (· = w) n h h' ∧ h'.info w = some ⟨1, 0, true, 0⟩ ∧ (x.2.2 = 0 → h'.cell w 0 = .slice a' x.1.length x.1.length ∧ OwnSl h' n n' a' 1 x.1.length (bytesV x.1))
set_option maxHeartbeats 4000000 in
theorem takeBytes_rf (b : List UInt8) (a : Option Addr) (m w n : Nat) (h : AH) (S : SlB h n a b) (e : m = b.length) (hm : m ≤ 1073741824) (hw : w < n) (hi : h.info w = some ⟨1, 0, true, 0⟩) (hc : h.cell w 0 = .slice none 0 0) (hne : a = none ∨ sb a ≠ w) :
    RF Tryd.prog (· = w) 51 #[.slice a m m, .pointer (some ⟨w, 0, none⟩)] n h (RdB (pB b) w n h) := by
  subst e
  refine RF.of Tryd.func51 rfl rfl (Nat.le_of_ble_eq_true rfl) ?_; dsimp only [argEnv]
  repeat' (first | refine stpS ?_ | (refine stp2 ?_ ?_ <;> intro _))
  refine RC.loop ?_
  refine RL.inv (α := Nat × Option Addr × List UInt8) (fun s => [(5, .int .i64 (s.1 : Nat)), (0, .slice a b.length b.length), (1, .pointer (some ⟨w, 0, none⟩))])
    (fun s n1 h1 => s.1 ≤ b.length ∧ n ≤ n1 ∧ ExtW (· = w) n h h1 ∧ h1.info w = some ⟨1, 0, true, 0⟩ ∧ h1.cell w 0 = .slice s.2.1 s.2.2.length s.2.2.length ∧ OwnSl h1 n n1 s.2.1 1 s.2.2.length (bytesV s.2.2) ∧ s.2.2.length ≤ s.1 ∧ pB b = addP s.2.2 s.1 (pB (b.drop s.1)))
    (fun s => b.length - s.1) (0, none, []) envs ⟨by omega, Nat.le_refl _, ExtW.refl _ _ _, hi, hc, OwnSl.nil (Nat.le_refl _), Nat.le_refl _, (pB_addP b).symm⟩ ?_
  clear hi hc
  rintro ⟨i, a1, o⟩ n1 h1 ⟨hi, hn, hE, hI, hC, hO, hol, hp⟩
  dsimp only at hi hn hE hI hC hO hol hp ⊢
  have hS : SlB h1 n1 a b := S.extW hE hn fun q e => hne.elim q fun k => k e
  have hSd : SlB h1 n1 (sub a i) (b.drop i) := by
    have := SlB.cut hS (i := i) (u := b.length) hi (Nat.le_refl _)
    rwa [List.take_length] at this
  have hidx := indexByteA_ev (b.drop i) 0 (sub a i) (b.length - i) n1 h1 hSd (by rw [List.length_drop])
  have hwn : w < n1 := by omega
  have hdl : (b.drop i).length = b.length - i := List.length_drop
  have hge := Lib.indexByte_ge (b.drop i) 0
  by_cases hno : Lib.indexByte (b.drop i) 0 = -1
  · rw [pB_none (Lib.indexByte_none hno), addP_err _ _ _ (by decide)] at hp
    rw [hno] at hidx
    repeat' (first | refine stpS ?_ | (refine stp2 ?_ ?_ <;> intro _))
    rw [Int.toNat_natCast]
    refine RS.call1 rfl opds hidx none'W ?_
    repeat' (first | refine stpS ?_ | (refine stp2 ?_ ?_ <;> intro _))
    rw [hp]
    exact ⟨none, rfl, hE, hI, fun q => absurd q (by decide)⟩
  · obtain ⟨k, hk⟩ : ∃ k : Nat, Lib.indexByte (b.drop i) 0 = k := ⟨(Lib.indexByte (b.drop i) 0).toNat, by omega⟩
    obtain ⟨s1, s2, s3, s4⟩ := pB_scan hk
    rw [hk] at hidx
    by_cases hend : k + 1 = (b.drop i).length
    · rw [s3 hend, addP_err _ _ _ (by decide)] at hp
      repeat' (first | refine stpS ?_ | (refine stp2 ?_ ?_ <;> intro _))
      rw [Int.toNat_natCast]
      refine RS.call1 rfl opds hidx none'W ?_
      repeat' (first | refine stpS ?_ | (refine stp2 ?_ ?_ <;> intro _))
      rw [hp]
      exact ⟨none, rfl, hE, hI, fun q => absurd q (by decide)⟩
    · have s4 := s4 (by omega)
      rw [List.drop_drop] at s4
      have hSm : SlB h1 n1 (sub a i) ((b.drop i).take k) := by
        have := SlB.cut hS (i := i) (u := i + k) (by omega) (by omega)
        rwa [show (b.take (i + k)).drop i = (b.drop i).take k by rw [List.drop_take]; congr 1; omega] at this
      have hml : ((b.drop i).take k).length = k := by rw [List.length_take]; omega
      repeat' (first | refine stp ?_ | (refine stp2 ?_ ?_ <;> intro _))
      rw [Int.toNat_natCast]
      refine RS.call1 rfl opds hidx none'W ?_
      repeat' (first | refine stp ?_ | (refine stp2 ?_ ?_ <;> intro _))
      rw [Int.toNat_natCast, show ((i : Int) + (k : Int)).toNat - i = ((b.drop i).take k).length by omega]
      have hown := hO.at'
      refine RD.appendT n1 rfl opd opd hO (SlB.src (SlR.ext hSm (AH.below_ext _ _) (Nat.le_refl _))) full_slice (fun q => .inr (hown.resolve_left q).1) (by omega) (Nat.le_refl _) cfw ?_
      intro a2 n2 h2 hle2 hO2 hX2 hnew
      have hne1 : a1 = none ∨ w ≠ sb a1 := by
        by_cases q : a1 = none
        · exact .inl q
        · right; have := (hown.resolve_left q).1; omega
      have hI2 : h2.info w = some ⟨1, 0, true, 0⟩ := (hX2 w hwn hne1).1.trans hI
      have hwn2 : w < n2 := by omega
      have hE2 : ExtW (· = w) n h h2 := hE.then (hX2.ext hO) (Nat.le_refl _)
      have hlen2 : o.length + ((b.drop i).take k).length = (o ++ (b.drop i).take k).length := by rw [List.length_append]
      rw [← bytesV_app, hlen2] at hO2
      rw [hlen2]
      have ha2w : a2 = none ∨ sb a2 ≠ w := by
        rcases hO2.at' with q | q
        · exact .inl q
        · right; omega
      have hO3 := hO2.setsN (b := w) (o' := 0) (vs := [.slice a2 (o ++ (b.drop i).take k).length (o ++ (b.drop i).take k).length]) ha2w
      have hE3 : ExtW (· = w) n h (h2.app (.sets w 0 [.slice a2 (o ++ (b.drop i).take k).length (o ++ (b.drop i).take k).length])) := hE2.appSets (.inl rfl)
      have hS3 : SlB (h2.app (.sets w 0 [.slice a2 (o ++ (b.drop i).take k).length (o ++ (b.drop i).take k).length])) n2 a b := S.extW hE3 (by omega) fun q e => hne.elim q fun k => k e
      have hI3 : (h2.app (.sets w 0 [.slice a2 (o ++ (b.drop i).take k).length (o ++ (b.drop i).take k).length])).info w = some ⟨1, 0, true, 0⟩ := i_sets hI2
      have hC3 : (h2.app (.sets w 0 [.slice a2 (o ++ (b.drop i).take k).length (o ++ (b.drop i).take k).length])).cell w 0 = .slice a2 (o ++ (b.drop i).take k).length (o ++ (b.drop i).take k).length := cell
      have hgd : (b.drop i).getD (k + 1) 0 = b.getD (i + (k + 1)) 0 := by simp [List.getD]
      rw [hgd] at s4
      have hgI : b.getD ((i : Int) + ((k : Int) + 2) - 1).toNat 0 = b.getD (i + (k + 1)) 0 := by rw [show ((i : Int) + ((k : Int) + 2) - 1).toNat = i + (k + 1) by omega]
      by_cases h0 : (b.getD (i + (k + 1)) 0).toNat = 0
      · have h0I : (b.getD ((i : Int) + ((k : Int) + 2) - 1).toNat 0).toNat = 0 := by rw [hgI]; exact h0
        rw [s4, if_pos h0] at hp
        have hp : pB b = (o ++ (b.drop i).take k, k + 2 + i, 0) := by rw [hp]; unfold addP; simp only [if_true]
        repeat' (first | refine stp ?_ | (refine stp2 ?_ ?_ <;> intro _))
        rw [hp]
        exact ⟨a2, by rw [show ((k + 2 + i : Nat) : Int) = (i : Int) + ((k : Int) + 2) by omega]; rfl, hE3, hI3, fun _ => ⟨hC3, hO3⟩⟩
      · have h0I : ¬ (b.getD ((i : Int) + ((k : Int) + 2) - 1).toNat 0).toNat = 0 := by rw [hgI]; exact h0
        rw [s4, if_neg h0] at hp
        by_cases h1 : (b.getD (i + (k + 1)) 0).toNat = 1
        · have h1I : (b.getD ((i : Int) + ((k : Int) + 2) - 1).toNat 0).toNat = 1 := by rw [hgI]; exact h1
          rw [if_pos h1, addP_add] at hp
          have hol2 : (o ++ (b.drop i).take k).length ≤ i + k := by rw [List.length_append]; omega
          repeat' (first | refine stp ?_ | (refine stp2 ?_ ?_ <;> intro _))
          refine RS.heap (g := (h2.app (.sets w 0 [.slice a2 (o ++ (b.drop i).take k).length (o ++ (b.drop i).take k).length])).app (.new n2 ⟨1, 0, true, 1⟩ [.int .u8 0])) rfl ?_
          have hO4 := hO3.ext (n1 := n2 + 1) (h1 := (h2.app (.sets w 0 [.slice a2 (o ++ (b.drop i).take k).length (o ++ (b.drop i).take k).length])).app (.new n2 ⟨1, 0, true, 1⟩ [.int .u8 0])) ext (Nat.le_succ _)
          refine RS.appendT rfl opd opd hO4 (OwnSl.src (OwnSl.new1 (n0 := n2) (m := 1) (Nat.le_refl _) rfl rfl)) full_slice (fun q => .inr (hO4.at'.resolve_left q).1) (by omega) ?_
          intro a4 n4 h4 hle4 hO5 hX4 hnew4
          have hI4 := i_new_ne (n := n2) (m := ⟨1, 0, true, 1⟩) (cs := [.int .u8 0]) (by omega : w ≠ n2) hI3
          have hI5 : h4.info w = some ⟨1, 0, true, 0⟩ := (hX4 w (by omega) (ha2w.imp_right Ne.symm)).1.trans hI4
          have hwn4 : w < n4 := by omega
          have hE4 : ExtW (· = w) n h h4 := (hE3.appNew (by omega)).then (hX4.ext hO4) (Nat.le_refl _)
          have ha4w : a4 = none ∨ sb a4 ≠ w := by
            rcases hO5.at' with q | q
            · exact .inl q
            · right; omega
          have hlen4 : (o ++ (b.drop i).take k).length + 1 = (o ++ ((b.drop i).take k ++ [0])).length := by simp only [List.length_append, List.length_cons, List.length_nil]; omega
          have hv4 : bytesV (o ++ (b.drop i).take k) ++ [.int .u8 0] = bytesV (o ++ ((b.drop i).take k ++ [0])) := by rw [← List.append_assoc, bytesV_app (o ++ (b.drop i).take k) [0]]; rfl
          rw [hlen4, hv4] at hO5
          rw [hlen4]
          have hO6 := hO5.setsN (b := w) (o' := 0) (vs := [.slice a4 (o ++ ((b.drop i).take k ++ [0])).length (o ++ ((b.drop i).take k ++ [0])).length]) ha4w
          repeat' (first | refine stpS ?_ | (refine stp2 ?_ ?_ <;> intro _))
          refine nextC.normal ⟨(i + (k + 2), a4, o ++ ((b.drop i).take k ++ [0])), by dsimp only; omega, ?_, by dsimp only; omega, by omega, hE4.appSets (.inl rfl), i_sets hI5, cell, hO6, by dsimp only; omega, hp⟩
          dsimp only
          rw [show ((i + (k + 2) : Nat) : Int) = (i : Int) + ((k : Int) + 2) by omega]
          exact envs
        · have h1I : ¬ (b.getD ((i : Int) + ((k : Int) + 2) - 1).toNat 0).toNat = 1 := by rw [hgI]; exact h1
          rw [if_neg h1, addP_err _ _ _ (by decide)] at hp
          repeat' (first | refine stp ?_ | (refine stp2 ?_ ?_ <;> intro _))
          rw [hp]
          exact ⟨none, rfl, hE3, hI3, fun q => absurd q (by decide)⟩
end Go.Proofs.YtflhhipemmlgpaaDoor

/- Contracts of codec: a reader in memory. -/
namespace Go.Proofs.YtflhhipemmlgpaaDoor
open Go.Abs

/-- A reader that a call made: the block w, what is left, b, at a. -/
structure RdR (h : AH) (n0 n w : Nat) (a : Option Addr) (b : List UInt8) : Prop where
  lo : n0 ≤ w
  hi : w < n
  inf : h.info w = some ⟨2, 0, true, 0⟩
  made : h.cell w 0 = .bool true
  sl : h.cell w 1 = .slice a b.length b.length
  bs : SlB h n a b
  ne : a = none ∨ sb a ≠ w
  le : b.length ≤ 1073741824
theorem RdR.ext {h h1 : AH} {n0 n n1 w : Nat} {a : Option Addr} {b : List UInt8} (R : RdR h n0 n w a b) (E : Ext n h h1) (hn : n ≤ n1) : RdR h1 n0 n1 w a b :=
  ⟨R.lo, Nat.lt_of_lt_of_le R.hi hn, (E.info w R.hi).trans R.inf, (E.cell w 0 R.hi).trans R.made, (E.cell w 1 R.hi).trans R.sl, SlR.ext R.bs E hn, R.ne, R.le⟩
theorem RdR.extW {W : Nat → Prop} {h h1 : AH} {n0 n n1 w : Nat} {a : Option Addr} {b : List UInt8} (R : RdR h n0 n w a b) (E : ExtW W n h h1) (hn : n ≤ n1) (hw : ¬ W w) (ha : a ≠ none → ¬ W (sb a)) : RdR h1 n0 n1 w a b :=
  ⟨R.lo, Nat.lt_of_lt_of_le R.hi hn, (E.info w R.hi hw).trans R.inf, (E.cell w 0 R.hi hw).trans R.made, (E.cell w 1 R.hi hw).trans R.sl, SlR.extW R.bs E hn ha, R.ne, R.le⟩
set_option maxHeartbeats 4000000 in
theorem newReader_rf (b : List UInt8) (a : Option Addr) (m n : Nat) (h : AH) (S : SlB h n a b) (e : m = b.length) (hm : m ≤ 1073741824) :
    RF Tryd.prog none' 29 #[.slice a m m] n h (fun r n' h' => ∃ w a', r = .pointer (some ⟨w, 0, none⟩) ∧ Ext n h h' ∧ RdR h' n n' w a' b ∧ (a' = none ∨ n ≤ sb a')) := by
  subst e
  refine RF.of Tryd.func29 rfl rfl (Nat.le_of_ble_eq_true rfl) ?_; dsimp only [argEnv]
  repeat' (first | refine stpS ?_ | (refine stp2 ?_ ?_ <;> intro _))
  refine RS.call rfl opds (clone_rf b a _ n h S rfl (by omega)) none'W ?_
  rintro r n1 h1 hle ⟨a1, rfl, hE, hO⟩
  repeat' (first | refine stpS ?_ | (refine stp2 ?_ ?_ <;> intro _))
  exact ⟨n1, a1, rfl, ext, ⟨hle, Nat.lt_succ_self _, info, cell, cell, (OwnSl.slbE hO).ext ext (Nat.le_succ _), hO.at'.imp_right fun q => by omega, hm⟩, hO.at'.imp_right fun q => q.1⟩
set_option maxHeartbeats 4000000 in
theorem left_ev (w : Nat) (a : Option Addr) (b : List UInt8) (n0 n : Nat) (h : AH) (R : RdR h n0 n w a b) :
    Ev Tryd.prog none' 34 #[.pointer (some ⟨w, 0, none⟩)] n h (.int .i64 (b.length : Nat)) n h := by
  refine RF.pure rfl fun n' hn => ?_
  have R := R.ext (Ext.refl n h) hn
  refine RF.of Tryd.func34 rfl rfl (Nat.le_of_ble_eq_true rfl) ?_; dsimp only [argEnv]
  obtain ⟨hlo, hhi, hinf, hmade, hsl, hS, hne, hle⟩ := R
  repeat' (first | refine stpS ?_ | (refine stp2 ?_ ?_ <;> intro _))
  rfl
set_option maxHeartbeats 4000000 in
theorem end_ev (w : Nat) (a : Option Addr) (b : List UInt8) (n0 n : Nat) (h : AH) (R : RdR h n0 n w a b) :
    Ev Tryd.prog none' 39 #[.pointer (some ⟨w, 0, none⟩)] n h (.int .i64 (if 0 < b.length then 32 else 0)) n h := by
  refine RF.pure (by split <;> rfl) fun n' hn => ?_
  have R := R.ext (Ext.refl n h) hn
  refine RF.of Tryd.func39 rfl rfl (Nat.le_of_ble_eq_true rfl) ?_; dsimp only [argEnv]
  obtain ⟨hlo, hhi, hinf, hmade, hsl, hS, hne, hle⟩ := R
  by_cases q : 0 < b.length
  · rw [if_pos q]
    repeat' (first | refine stpS ?_ | (refine stp2 ?_ ?_ <;> intro _))
    rfl
  · rw [if_neg q]
    repeat' (first | refine stpS ?_ | (refine stp2 ?_ ?_ <;> intro _))
    rfl
set_option maxHeartbeats 4000000 in
theorem take_rf (f : FuncId) (c w : Nat) (a : Option Addr) (b : List UInt8) (n0 n : Nat) (h : AH) (R : RdR h n0 n w a b) (hcw : c ≠ w) (hac : a = none ∨ sb a ≠ c) (k e : Nat) (QC : Nat → AH → Prop) (hk : e = 0 → k ≤ b.length)
    (hev : RF Tryd.prog (· = c) f #[.slice a b.length b.length, .pointer (some ⟨c, 0, none⟩)] n h (fun r n' h' => r = .tuple #[.int .i64 (k : Nat), .int .i64 (e : Nat)] ∧ ExtW (· = c) n h h' ∧ QC n' h')) :
    RF Tryd.prog (fun x => x = w ∨ x = c) 50 #[.pointer (some ⟨w, 0, none⟩), .func (.func f) #[] #[.pointer (some ⟨c, 0, none⟩)]] n h (fun r n' h' => ∃ h1, r = .int .i64 (e : Nat) ∧ QC n' h1 ∧ ExtW (· = c) n h h1 ∧
      h' = (if e = 0 then h1.app (.sets w 1 [.slice (sub a k) (b.length - k) (b.length - k)]) else h1) ∧ (if e = 0 then RdR h' n0 n' w (sub a k) (b.drop k) else RdR h' n0 n' w a b)) := by
  have R0 := R
  refine RF.of Tryd.func50 rfl rfl (Nat.le_of_ble_eq_true rfl) ?_; dsimp only [argEnv]
  obtain ⟨hlo, hhi, hinf, hmade, hsl, hS, hne, hle⟩ := R
  repeat' (first | refine stpS ?_ | (refine stp2 ?_ ?_ <;> intro _))
  refine RS.callv (caps := [.pointer (some ⟨c, 0, none⟩)]) rfl opd opds hev (fun x hx => .inl (.inr hx)) ?_
  rintro r n1 h1 hle1 ⟨rfl, hE, hQ⟩
  have R1 := R0.extW hE hle1 (fun q => hcw q.symm) (fun q1 q2 => hac.elim q1 fun k => k q2)
  obtain ⟨-, hhi1, hinf1, hmade1, hsl1, hS1, -, -⟩ := R1
  by_cases he : e = 0
  · subst he
    have hk := hk rfl
    simp only [if_true]
    repeat' (first | refine stpS ?_ | (refine stp2 ?_ ?_ <;> intro _))
    rw [Int.toNat_natCast]
    have hdl : (b.drop k).length = b.length - k := List.length_drop
    refine ⟨h1, rfl, hQ, hE, rfl, hlo, hhi1, i_sets hinf1, cell, by rw [hdl]; exact cell, ?_, ?_, by omega⟩
    · have hS2 := SlB.cut hS1 hk (Nat.le_refl _)
      rw [List.take_length] at hS2
      refine SlR.extW (W := (· = w)) hS2 ((ExtW.refl _ _ _).appSets (.inl rfl)) (Nat.le_refl _) fun q1 q2 => ?_
      rcases hne with q | q
      · subst q; exact q1 rfl
      · cases a with
        | none => exact q1 rfl
        | some x => exact q q2
    · rcases hne with q | q
      · subst q; exact .inl rfl
      · cases a with
        | none => exact .inl rfl
        | some x => exact .inr q
  · simp only [if_neg he]
    repeat' (first | refine stpS ?_ | (refine stp2 ?_ ?_ <;> intro _))
    exact ⟨h1, rfl, hQ, hE, rfl, R0.extW hE hle1 (fun q => hcw q.symm) (fun q1 q2 => hac.elim q1 fun k => k q2)⟩
end Go.Proofs.YtflhhipemmlgpaaDoor

/- Contracts of codec: a reader's ints. -/
namespace Go.Proofs.YtflhhipemmlgpaaDoor
open Go.Abs

def RdTo (w : Nat) (a : Option Addr) (b' : List UInt8) (n0 n : Nat) (h : AH) (n' : Nat) (h' : AH) : Prop :=
  ∃ a', RdR h' n0 n' w a' b' ∧ ExtW (· = w) n h h' ∧ (a' = none ∨ a ≠ none ∧ sb a' = sb a)
theorem sub_sb (a : Option Addr) (k : Nat) : sub a k = none ∨ a ≠ none ∧ sb (sub a k) = sb a := by
  cases a with
  | none => exact .inl rfl
  | some x => exact .inr ⟨by simp, rfl⟩
theorem self_sb (a : Option Addr) : a = none ∨ a ≠ none ∧ sb a = sb a := by
  cases a with
  | none => exact .inl rfl
  | some x => exact .inr ⟨by simp, rfl⟩
set_option maxHeartbeats 4000000 in
theorem takeInt_rf (b : List UInt8) (a : Option Addr) (c n : Nat) (h : AH) (S : SlB h n a b) (hm : b.length ≤ 1073741824) (hc : c < n) (hi : h.info c = some ⟨1, 0, true, 0⟩) :
    RF Tryd.prog (· = c) 66 #[.slice a b.length b.length, .pointer (some ⟨c, 0, none⟩)] n h (fun r n' h' => r = .tuple #[.int .i64 ((pI b).2.1 : Nat), .int .i64 ((pI b).2.2 : Nat)] ∧ ExtW (· = c) n h h' ∧
      h'.cell c 0 = .int .i64 (pI b).1 ∧ h'.info c = some ⟨1, 0, true, 0⟩) := by
  refine RF.of Tryd.func66 rfl rfl (Nat.le_of_ble_eq_true rfl) ?_; dsimp only [argEnv]
  repeat' (first | refine stpS ?_ | (refine stp2 ?_ ?_ <;> intro _))
  refine RS.call1 rfl opds (get_ev b a _ _ _ S rfl (by omega)) none'W ?_
  unfold pIV
  repeat' (first | refine stpS ?_ | (refine stp2 ?_ ?_ <;> intro _))
  exact ⟨rfl, (ExtW.refl _ _ _).appSets (.inl rfl), cell, i_sets hi⟩
set_option maxHeartbeats 4000000 in
theorem rInt_rf (w : Nat) (a : Option Addr) (b : List UInt8) (n0 n : Nat) (h : AH) (R : RdR h n0 n w a b) :
    RF Tryd.prog (· = w) 56 #[.pointer (some ⟨w, 0, none⟩)] n h (fun r n' h' => r = .tuple #[.int .i64 (pI b).1, .int .i64 ((pI b).2.2 : Nat)] ∧ RdTo w a (b.drop (pI b).2.1) n0 n h n' h') := by
  refine RF.of Tryd.func56 rfl rfl (Nat.le_of_ble_eq_true rfl) ?_; dsimp only [argEnv]
  repeat' (first | refine stpS ?_ | (refine stp2 ?_ ?_ <;> intro _))
  have hhi := R.hi
  have R1 := R.ext (n1 := n + 1) (h1 := h.app (.new n ⟨1, 0, true, 0⟩ [.int .i64 0])) ext (by omega)
  have hab : a = none ∨ sb a ≠ n := by
    rcases R.bs.two with q | ⟨x, y, q⟩
    · exact .inl q.1
    · right; have := R.bs.ltA (by rw [q]; simp); omega
  refine RS.call rfl opds (take_rf 66 n w a b n0 (n + 1) _ R1 (by omega) hab (pI b).2.1 (pI b).2.2 (fun n' h' => h'.cell n 0 = .int .i64 (pI b).1 ∧ h'.info n = some ⟨1, 0, true, 0⟩) (fun q => (pI_ok (n := (pI b).1) (k := (pI b).2.1) (by rw [← q])).2.2.2.1)
    (takeInt_rf b a n (n + 1) _ R1.bs R1.le (by omega) info)) (fun x hx => hx.imp id fun q => by omega) ?_
  rintro r n1 h1 hle ⟨h2, rfl, ⟨hq1, hq2⟩, hE, he, hR⟩
  have hE2 : ExtW (· = w) n h h2 := ((ExtW.refl (· = w) n h).appNew (m := ⟨1, 0, true, 0⟩) (cs := [.int .i64 0]) (Nat.le_refl n)).then (hE.extM (Nat.le_succ n) (fun b hb => by omega)) (Nat.le_refl n)
  have hnw : n ≠ w := by omega
  have hn1 : n < n1 := by omega
  have hsub : sub a (pI b).2.1 = none ∨ sb (sub a (pI b).2.1) ≠ n := by
    rcases sub_sb a (pI b).2.1 with q | q
    · exact .inl q
    · right; rw [q.2]; exact hab.resolve_left q.1
  by_cases q : (pI b).2.2 = 0
  · rw [if_pos q] at he hR
    have hc1 : h1.cell n 0 = .int .i64 (pI b).1 := by rw [he]; exact c_out (.inl hnw) hq1
    have hi1 : h1.info n = some ⟨1, 0, true, 0⟩ := by rw [he]; exact i_sets hq2
    have hE3 : ExtW (· = w) n h h1 := by rw [he]; exact hE2.appSets (.inl rfl)
    repeat' (first | refine stpS ?_ | (refine stp2 ?_ ?_ <;> intro _))
    exact ⟨rfl, _, hR.extW (W := (· = n)) ((ExtW.refl _ _ _).appSets (.inl rfl)) (Nat.le_refl _) (fun q => hnw q.symm) (fun q1 q2 => hsub.elim q1 fun k => k q2), hE3.appSets (.inr (Nat.le_refl n)), sub_sb a _⟩
  · rw [if_neg q] at he hR
    have hk : (pI b).2.1 = 0 := ((pI_err b).resolve_left q).2.1
    have hc1 : h1.cell n 0 = .int .i64 (pI b).1 := by rw [he]; exact hq1
    have hi1 : h1.info n = some ⟨1, 0, true, 0⟩ := by rw [he]; exact hq2
    have hE3 : ExtW (· = w) n h h1 := by rw [he]; exact hE2
    rw [hk, List.drop_zero]
    repeat' (first | refine stpS ?_ | (refine stp2 ?_ ?_ <;> intro _))
    exact ⟨rfl, _, hR.extW (W := (· = n)) ((ExtW.refl _ _ _).appSets (.inl rfl)) (Nat.le_refl _) (fun q => hnw q.symm) (fun q1 q2 => hab.elim q1 fun k => k q2), hE3.appSets (.inr (Nat.le_refl n)), self_sb a⟩
end Go.Proofs.YtflhhipemmlgpaaDoor

/- Contracts of codec: a reader's flags. -/
namespace Go.Proofs.YtflhhipemmlgpaaDoor
open Go.Abs

/-- The flag that bytes begin with, its length, the error. -/
def pF (b : List UInt8) : Bool × Nat × Nat :=
  if (pI b).2.2 = 0 then (if (pI b).1 = 0 ∨ (pI b).1 = 1 then (decide ((pI b).1 = 1), (pI b).2.1, 0) else (false, 0, 31)) else (false, 0, (pI b).2.2)
theorem pF_err (b : List UInt8) : (pF b).2.2 = 0 ∧ (pF b).2.1 ≤ b.length ∨ ((pF b).1 = false ∧ (pF b).2.1 = 0 ∧ ((pF b).2.2 = 30 ∨ (pF b).2.2 = 31)) := by
  unfold pF
  split
  · rename_i q
    have := (pI_ok (b := b) (n := (pI b).1) (k := (pI b).2.1) (by rw [← q])).2.2.2.1
    split
    · exact .inl ⟨rfl, this⟩
    · exact .inr ⟨rfl, rfl, .inr rfl⟩
  · rename_i q
    exact .inr ⟨rfl, rfl, ((pI_err b).resolve_left q).2.2⟩
set_option maxHeartbeats 4000000 in
theorem takeFlag_rf (b : List UInt8) (a : Option Addr) (c n : Nat) (h : AH) (S : SlB h n a b) (hm : b.length ≤ 1073741824) (hc : c < n) (hi : h.info c = some ⟨1, 0, true, 0⟩) (hc0 : h.cell c 0 = .bool false) :
    RF Tryd.prog (· = c) 68 #[.slice a b.length b.length, .pointer (some ⟨c, 0, none⟩)] n h (fun r n' h' => r = .tuple #[.int .i64 ((pF b).2.1 : Nat), .int .i64 ((pF b).2.2 : Nat)] ∧ ExtW (· = c) n h h' ∧
      h'.cell c 0 = .bool (pF b).1 ∧ h'.info c = some ⟨1, 0, true, 0⟩) := by
  refine RF.of Tryd.func68 rfl rfl (Nat.le_of_ble_eq_true rfl) ?_; dsimp only [argEnv]
  repeat' (first | refine stpS ?_ | (refine stp2 ?_ ?_ <;> intro _))
  refine RS.call1 rfl opds (get_ev b a _ _ _ S rfl (by omega)) none'W ?_
  unfold pIV
  have hF : pF b = pF b := rfl
  conv at hF => rhs; unfold pF
  by_cases q : (pI b).2.2 = 0
  · have hb := pI_ok (b := b) (n := (pI b).1) (k := (pI b).2.1) (by rw [← q])
    have hb1 := hb.1
    have hb2 := hb.2.1
    rw [if_pos q] at hF
    by_cases q0 : (pI b).1 = 0
    · rw [if_pos (.inl q0)] at hF
      rw [q, q0]
      repeat' (first | refine stpS ?_ | (refine stp2 ?_ ?_ <;> intro _))
      rw [hF, q0]
      exact ⟨rfl, (ExtW.refl _ _ _).appSets (.inl rfl), cell, i_sets hi⟩
    · by_cases q1 : (pI b).1 = 1
      · rw [if_pos (.inr q1)] at hF
        rw [q, q1]
        repeat' (first | refine stpS ?_ | (refine stp2 ?_ ?_ <;> intro _))
        rw [hF, q1]
        exact ⟨rfl, (ExtW.refl _ _ _).appSets (.inl rfl), cell, i_sets hi⟩
      · rw [if_neg (by omega)] at hF
        rw [q]
        repeat' (first | refine stpS ?_ | (refine stp2 ?_ ?_ <;> intro _))
        rw [hF]
        exact ⟨rfl, ExtW.refl _ _ _, hc0, hi⟩
  · rw [if_neg q] at hF
    have hk : (pI b).2.1 = 0 := ((pI_err b).resolve_left q).2.1
    rw [hk]
    repeat' (first | refine stpS ?_ | (refine stp2 ?_ ?_ <;> intro _))
    rw [hF]
    exact ⟨rfl, (ExtW.refl _ _ _).appSets (.inl rfl), cell, i_sets hi⟩
set_option maxHeartbeats 4000000 in
theorem rFlag_rf (w : Nat) (a : Option Addr) (b : List UInt8) (n0 n : Nat) (h : AH) (R : RdR h n0 n w a b) :
    RF Tryd.prog (· = w) 58 #[.pointer (some ⟨w, 0, none⟩)] n h (fun r n' h' => r = .tuple #[.bool (pF b).1, .int .i64 ((pF b).2.2 : Nat)] ∧ RdTo w a (b.drop (pF b).2.1) n0 n h n' h') := by
  refine RF.of Tryd.func58 rfl rfl (Nat.le_of_ble_eq_true rfl) ?_; dsimp only [argEnv]
  repeat' (first | refine stpS ?_ | (refine stp2 ?_ ?_ <;> intro _))
  have hhi := R.hi
  have R1 := R.ext (n1 := n + 1) (h1 := h.app (.new n ⟨1, 0, true, 0⟩ [.bool false])) ext (by omega)
  have hab : a = none ∨ sb a ≠ n := by
    rcases R.bs.two with q | ⟨x, y, q⟩
    · exact .inl q.1
    · right; have := R.bs.ltA (by rw [q]; simp); omega
  refine RS.call rfl opds (take_rf 68 n w a b n0 (n + 1) _ R1 (by omega) hab (pF b).2.1 (pF b).2.2 (fun n' h' => h'.cell n 0 = .bool (pF b).1 ∧ h'.info n = some ⟨1, 0, true, 0⟩) (fun q => by
      rcases pF_err b with k | k
      · exact k.2
      · omega)
    (takeFlag_rf b a n (n + 1) _ R1.bs R1.le (by omega) info cell)) (fun x hx => hx.imp id fun q => by omega) ?_
  rintro r n1 h1 hle ⟨h2, rfl, ⟨hq1, hq2⟩, hE, he, hR⟩
  have hE2 : ExtW (· = w) n h h2 := ((ExtW.refl (· = w) n h).appNew (m := ⟨1, 0, true, 0⟩) (cs := [.bool false]) (Nat.le_refl n)).then (hE.extM (Nat.le_succ n) (fun b hb => by omega)) (Nat.le_refl n)
  have hnw : n ≠ w := by omega
  have hn1 : n < n1 := by omega
  have hsub : sub a (pF b).2.1 = none ∨ sb (sub a (pF b).2.1) ≠ n := by
    rcases sub_sb a (pF b).2.1 with q | q
    · exact .inl q
    · right; rw [q.2]; exact hab.resolve_left q.1
  by_cases q : (pF b).2.2 = 0
  · rw [if_pos q] at he hR
    have hc1 : h1.cell n 0 = .bool (pF b).1 := by rw [he]; exact c_out (.inl hnw) hq1
    have hi1 : h1.info n = some ⟨1, 0, true, 0⟩ := by rw [he]; exact i_sets hq2
    have hE3 : ExtW (· = w) n h h1 := by rw [he]; exact hE2.appSets (.inl rfl)
    repeat' (first | refine stpS ?_ | (refine stp2 ?_ ?_ <;> intro _))
    exact ⟨rfl, _, hR.extW (W := (· = n)) ((ExtW.refl _ _ _).appSets (.inl rfl)) (Nat.le_refl _) (fun q => hnw q.symm) (fun q1 q2 => hsub.elim q1 fun k => k q2), hE3.appSets (.inr (Nat.le_refl n)), sub_sb a _⟩
  · rw [if_neg q] at he hR
    have hk : (pF b).2.1 = 0 := by
      rcases pF_err b with k | k
      · exact absurd k.1 q
      · exact k.2.1
    have hc1 : h1.cell n 0 = .bool (pF b).1 := by rw [he]; exact hq1
    have hi1 : h1.info n = some ⟨1, 0, true, 0⟩ := by rw [he]; exact hq2
    have hE3 : ExtW (· = w) n h h1 := by rw [he]; exact hE2
    rw [hk, List.drop_zero]
    repeat' (first | refine stpS ?_ | (refine stp2 ?_ ?_ <;> intro _))
    exact ⟨rfl, _, hR.extW (W := (· = n)) ((ExtW.refl _ _ _).appSets (.inl rfl)) (Nat.le_refl _) (fun q => hnw q.symm) (fun q1 q2 => hab.elim q1 fun k => k q2), hE3.appSets (.inr (Nat.le_refl n)), self_sb a⟩
end Go.Proofs.YtflhhipemmlgpaaDoor

/- Contracts of codec: a reader's bytes and texts. -/
namespace Go.Proofs.YtflhhipemmlgpaaDoor
open Go.Abs

def RdBTo (x : PB) (w : Nat) (a : Option Addr) (b' : List UInt8) (n0 n : Nat) (h : AH) (r : Value) (n' : Nat) (h' : AH) : Prop :=
  ∃ c, r = .tuple #[.slice c x.1.length x.1.length, .int .i64 (x.2.2 : Nat)] ∧ RdTo w a b' n0 n h n' h' ∧ OwnSl h' n n' c 1 x.1.length (bytesV x.1)
theorem pB_le {b l : List UInt8} {k : Nat} (h : pB b = (l, k, 0)) : l.length ≤ b.length := by
  obtain ⟨h1, h2⟩ := pB_ok h
  have := congrArg List.length h2
  have h3 := formB_ge l
  rw [List.length_take] at this
  omega
set_option maxHeartbeats 4000000 in
theorem rBytes_rf (w : Nat) (a : Option Addr) (b : List UInt8) (n0 n : Nat) (h : AH) (R : RdR h n0 n w a b) :
    RF Tryd.prog (· = w) 30 #[.pointer (some ⟨w, 0, none⟩)] n h (RdBTo (pB b) w a (b.drop (pB b).2.1) n0 n h) := by
  refine RF.of Tryd.func30 rfl rfl (Nat.le_of_ble_eq_true rfl) ?_; dsimp only [argEnv]
  repeat' (first | refine stpS ?_ | (refine stp2 ?_ ?_ <;> intro _))
  have hhi := R.hi
  have R1 := R.ext (n1 := n + 1) (h1 := h.app (.new n ⟨1, 0, true, 0⟩ [.slice none 0 0])) ext (by omega)
  have hab : a = none ∨ sb a ≠ n := by
    rcases R.bs.two with q | ⟨x, y, q⟩
    · exact .inl q.1
    · right; have := R.bs.ltA (by rw [q]; simp); omega
  refine RS.call rfl opds (take_rf 51 n w a b n0 (n + 1) _ R1 (by omega) hab (pB b).2.1 (pB b).2.2 (fun n' h' => ∃ c, h'.info n = some ⟨1, 0, true, 0⟩ ∧ ((pB b).2.2 = 0 → h'.cell n 0 = .slice c (pB b).1.length (pB b).1.length ∧ OwnSl h' (n + 1) n' c 1 (pB b).1.length (bytesV (pB b).1)))
    (fun q => (pB_ok (l := (pB b).1) (k := (pB b).2.1) (by rw [← q])).1)
    ((takeBytes_rf b a b.length n (n + 1) _ R1.bs rfl R1.le (by omega) info cell hab).mono (fun r n' h' ⟨c, q1, q2, q3, q4⟩ => ⟨q1, q2, c, q3, q4⟩))) (fun x hx => hx.imp id fun q => by omega) ?_
  rintro r n1 h1 hle ⟨h2, rfl, ⟨c, hq2, hq1⟩, hE, he, hR⟩
  have hE2 : ExtW (· = w) n h h2 := ((ExtW.refl (· = w) n h).appNew (m := ⟨1, 0, true, 0⟩) (cs := [.slice none 0 0]) (Nat.le_refl n)).then (hE.extM (Nat.le_succ n) (fun b hb => by omega)) (Nat.le_refl n)
  have hnw : n ≠ w := by omega
  have hn1 : n < n1 := by omega
  have hsub : sub a (pB b).2.1 = none ∨ sb (sub a (pB b).2.1) ≠ n := by
    rcases sub_sb a (pB b).2.1 with q | q
    · exact .inl q
    · right; rw [q.2]; exact hab.resolve_left q.1
  by_cases q : (pB b).2.2 = 0
  · rw [if_pos q] at he hR
    obtain ⟨hq1, hO⟩ := hq1 q
    have hcw : c = none ∨ sb c ≠ w := hO.at'.imp_right fun k => by omega
    have hcn : c = none ∨ sb c ≠ n := hO.at'.imp_right fun k => by omega
    have hc1 : h1.cell n 0 = .slice c (pB b).1.length (pB b).1.length := by rw [he]; exact c_out (.inl hnw) hq1
    have hi1 : h1.info n = some ⟨1, 0, true, 0⟩ := by rw [he]; exact i_sets hq2
    have hE3 : ExtW (· = w) n h h1 := by rw [he]; exact hE2.appSets (.inl rfl)
    have hO1 : OwnSl h1 (n + 1) n1 c 1 (pB b).1.length (bytesV (pB b).1) := by rw [he]; exact hO.setsN hcw
    repeat' (first | refine stpS ?_ | (refine stp2 ?_ ?_ <;> intro _))
    exact ⟨c, rfl, ⟨_, hR.extW (W := (· = n)) ((ExtW.refl _ _ _).appSets (.inl rfl)) (Nat.le_refl _) (fun q => hnw q.symm) (fun q1 q2 => hsub.elim q1 fun k => k q2), hE3.appSets (.inr (Nat.le_refl n)), sub_sb a _⟩, (hO1.setsN hcn).mono (Nat.le_succ n)⟩
  · rw [if_neg q] at he hR
    obtain ⟨k1, k2, k3⟩ := (pB_err b).resolve_left q
    have hi1 : h1.info n = some ⟨1, 0, true, 0⟩ := by rw [he]; exact hq2
    have hE3 : ExtW (· = w) n h h1 := by rw [he]; exact hE2
    rw [k2, List.drop_zero]
    repeat' (first | refine stpS ?_ | (refine stp2 ?_ ?_ <;> intro _))
    exact ⟨none, by rw [k1]; rfl, ⟨_, hR.extW (W := (· = n)) ((ExtW.refl _ _ _).appSets (.inl rfl)) (Nat.le_refl _) (fun q => hnw q.symm) (fun q1 q2 => hab.elim q1 fun k => k q2), hE3.appSets (.inr (Nat.le_refl n)), self_sb a⟩, by rw [k1]; exact OwnSl.nil (by omega)⟩
set_option maxHeartbeats 4000000 in
theorem rText_rf (w : Nat) (a : Option Addr) (b : List UInt8) (n0 n : Nat) (h : AH) (R : RdR h n0 n w a b) :
    RF Tryd.prog (· = w) 57 #[.pointer (some ⟨w, 0, none⟩)] n h (fun r n' h' => r = .tuple #[.string ⟨(pB b).1.toArray⟩, .int .i64 ((pB b).2.2 : Nat)] ∧ RdTo w a (b.drop (pB b).2.1) n0 n h n' h') := by
  refine RF.of Tryd.func57 rfl rfl (Nat.le_of_ble_eq_true rfl) ?_; dsimp only [argEnv]
  repeat' (first | refine stpS ?_ | (refine stp2 ?_ ?_ <;> intro _))
  refine RS.call rfl opds (rBytes_rf w a b n0 n h R) (fun x hx => .inl hx) ?_
  rintro r n1 h1 hle ⟨c, rfl, hT, hO⟩
  have hS := OwnSl.slbE hO
  repeat' (first | refine stpS ?_ | (refine stp2 ?_ ?_ <;> intro _))
  exact ⟨rfl, hT⟩
end Go.Proofs.YtflhhipemmlgpaaDoor

/- The law CodecApart. -/
namespace Go.Proofs.YtflhhipemmlgpaaDoor
open Go.Abs

set_option maxHeartbeats 4000000 in
theorem hasPrefix_ev (t u : List UInt8) (a b : Option Addr) (m k n : Nat) (h : AH) (S : SlB h n a t) (S2 : SlB h n b u) (e : m = t.length) (e2 : k = u.length) :
    Ev Tryd.prog none' 22 #[.slice a m m, .slice b k k] n h (.bool (decide (u.length ≤ t.length ∧ t.take u.length = u))) n h := by
  subst e; subst e2
  refine RF.pure rfl fun n' hn => ?_
  have S := S.ext (Ext.refl n h) hn
  have S2 := S2.ext (Ext.refl n h) hn
  refine RF.of Tryd.func22 rfl rfl (Nat.le_of_ble_eq_true rfl) ?_; dsimp only [argEnv]
  by_cases hle : u.length ≤ t.length
  · have hSt := SlB.take S hle
    have htl : (t.take u.length).length = u.length := by rw [List.length_take]; omega
    have heq := equal_ev (t.take u.length) u a b u.length u.length n' h hSt S2 htl.symm rfl
    have e1 : decide (u.length ≤ t.length ∧ t.take u.length = u) = decide (t.take u.length = u) := by simp [hle]
    rw [e1]
    repeat' (first | refine stpS ?_ | (refine stp2 ?_ ?_ <;> intro _) | refine RS.call1 rfl opds (heq) none'W ?_)
    rfl
  · have e1 : decide (u.length ≤ t.length ∧ t.take u.length = u) = false := by simp [hle]
    rw [e1]
    repeat' (first | refine stpS ?_ | (refine stp2 ?_ ?_ <;> intro _))
    rfl
theorem formB_apart {s t : List UInt8} (h : s ≠ t) : ¬ ((formB t).length ≤ (formB s).length ∧ (formB s).take (formB t).length = formB t) := fun ⟨_, h2⟩ => by
  have e : formB s = formB t ++ (formB s).drop (formB t).length := by
    conv => lhs; rw [← List.take_append_drop (formB t).length (formB s), h2]
  have h3 := pB_form t ((formB s).drop (formB t).length)
  have h4 := pB_form s []
  rw [List.append_nil, e, h3] at h4
  simp only [Prod.mk.injEq] at h4
  exact h h4.1.symm
theorem form_apart {a b : Int} (a1 : -9223372036854775808 ≤ a) (a2 : a < 9223372036854775808) (b1 : -9223372036854775808 ≤ b) (b2 : b < 9223372036854775808) (h : a ≠ b) : ¬ ((form b).length ≤ (form a).length ∧ (form a).take (form b).length = form b) := fun ⟨_, h2⟩ => by
  have e : form a = form b ++ (form a).drop (form b).length := by
    conv => lhs; rw [← List.take_append_drop (form b).length (form a), h2]
  have h3 := pI_form b b1 b2 ((form a).drop (form b).length)
  have h4 := pI_form a a1 a2 []
  rw [List.append_nil, e, h3] at h4
  simp only [Prod.mk.injEq] at h4
  exact h h4.1.symm
theorem sln_new (l : List Int) (n : Nat) (h : AH) : SlN (h.app (.new n ⟨l.length, 0, true, 1⟩ (intsV .i64 l))) (n + 1) (some ⟨n, 0, none⟩) .i64 l :=
  OwnSl.sln (OwnSl.new1 (n0 := n) (n := n) (m := l.length) (cs := intsV .i64 l) (Nat.le_refl n) (by simp [intsV]) (by
    induction l with
    | nil => rfl
    | cons x l ih => simpa [intsV, known] using ih))
set_option maxHeartbeats 4000000 in
theorem law_CodecApart (x y : Int) (s t : List UInt8) (n : Nat) (h : AH) (x1 : -9223372036854775808 ≤ x) (x2 : x < 9223372036854775808) (y1 : -9223372036854775808 ≤ y) (y2 : y < 9223372036854775808) (hs : s.length ≤ 1048576) (ht : t.length ≤ 1048576) :
    RF Tryd.prog none' 4 #[.int .i64 x, .int .i64 y, .string ⟨s.toArray⟩, .string ⟨t.toArray⟩] n h (fun r _ _ => r = .bool true) := by
  refine RF.of Tryd.func4 rfl rfl (Nat.le_of_ble_eq_true rfl) ?_; dsimp only [argEnv]
  repeat' (first | refine stpS ?_ | (refine stp2 ?_ ?_ <;> intro _))
  refine RS.call rfl opds (newWriter_rf n h) none'W ?_
  rintro r n1 h1 hle1 ⟨rfl, hE1, hV1⟩
  refine RS.call rfl opds (newWriter_rf n1 h1) none'W ?_
  rintro r n2 h2 hle2 ⟨rfl, hE2, hW2⟩
  have hV2 := hV1.ext hE2 hle2
  have hvh := hV1.hi
  repeat' (first | refine stpS ?_ | (refine stp2 ?_ ?_ <;> intro _))
  refine RS.call1 rfl opds (begun_ev _ _) none'W ?_
  repeat' (first | refine stpS ?_ | (refine stp2 ?_ ?_ <;> intro _))
  refine RS.call rfl opds (wText_rf n none [] ⟨s.toArray⟩ n n2 h2 hV2 (by simp [ByteArray.size]; omega)) (fun x hx => .inr (hV2.lo_of x hx)) ?_
  rintro r n3 h3 hle3 ⟨av, rfl, hV3, hX3, hav⟩
  rw [show (⟨s.toArray⟩ : ByteArray).data.toList = s from rfl] at hV3 ⊢
  have hW3 : WrR h3 n1 n3 n1 none [] := ⟨hW2.lo, by have := hW2.hi; omega, i_extW hX3 hW2.hi (by rintro (q | ⟨q, -⟩); omega; exact q rfl) hW2.inf, c_extW hX3 hW2.hi (by rintro (q | ⟨q, -⟩); omega; exact q rfl) hW2.made, c_extW hX3 hW2.hi (by rintro (q | ⟨q, -⟩); omega; exact q rfl) hW2.sl, OwnSl.nil (by omega), .inl rfl, by simp⟩
  have hav3 := hV3.own.at'
  by_cases hf1 : (formB s).length + ([] : List UInt8).length ≤ 1048576
  · rw [if_pos hf1] at hV3 ⊢
    rw [List.nil_append] at hV3
    repeat' (first | refine stpS ?_ | (refine stp2 ?_ ?_ <;> intro _))
    refine RS.call rfl opds (wText_rf n1 none [] ⟨t.toArray⟩ n1 n3 h3 hW3 (by simp [ByteArray.size]; omega)) (fun x hx => .inr (by have := hW3.lo_of x hx; omega)) ?_
    rintro r n4 h4 hle4 ⟨aw, rfl, hW4, hX4, haw⟩
    rw [show (⟨t.toArray⟩ : ByteArray).data.toList = t from rfl] at hW4 ⊢
    have hV4 : WrR h4 n n4 n av (formB s) := ⟨hV3.lo, by omega, i_extW hX4 hV3.hi (by rintro (q | ⟨q, -⟩); omega; exact q rfl) hV3.inf, c_extW hX4 hV3.hi (by rintro (q | ⟨q, -⟩); omega; exact q rfl) hV3.made, c_extW hX4 hV3.hi (by rintro (q | ⟨q, -⟩); omega; exact q rfl) hV3.sl, hV3.own.extW hX4 hle4 (Nat.le_refl _) (fun q1 q2 => by
      rcases hav with q | q
      · exact q1 q
      · rcases q2 with q2 | ⟨q2, -⟩
        · have := hW2.hi; omega
        · exact q2 rfl), hV3.ne, hV3.le⟩
    by_cases hf2 : (formB t).length + ([] : List UInt8).length ≤ 1048576
    · rw [if_pos hf2] at hW4 ⊢
      rw [List.nil_append] at hW4
      by_cases hst : s = t
      · subst hst
        repeat' (first | refine stpS ?_ | (refine stp2 ?_ ?_ <;> intro _))
        · rename_i q; exact absurd rfl q
        repeat' (first | refine stpS ?_ | (refine stp2 ?_ ?_ <;> intro _))
        refine RS.gen (fun g => SlN g (n4 + 1) (some ⟨n4, 0, none⟩) .i64 [x]) (sln_new [x] n4 _) ?_
        intro g1 hg1
        refine RS.call rfl opds (row_rf [x] _ 1 (n4 + 1) g1 hg1 (fun v hv => by rw [List.mem_singleton.1 hv]; exact ⟨x1, x2⟩) rfl (by omega)) none'W ?_
        rintro r k1 j1 hk1 ⟨c1, rfl, F1, P1⟩
        repeat' (first | refine stpS ?_ | (refine stp2 ?_ ?_ <;> intro _))
        refine RS.gen (fun g => SlN g (k1 + 1) (some ⟨k1, 0, none⟩) .i64 [y] ∧ OwnSl g (n4 + 1) (k1 + 1) c1 1 (forms [x]).length (bytesV (forms [x]))) ⟨sln_new [y] k1 _, P1.ext ext (Nat.le_succ _)⟩ ?_
        rintro g2 ⟨hg2, P2⟩
        refine RS.call rfl opds (row_rf [y] _ 1 (k1 + 1) g2 hg2 (fun v hv => by rw [List.mem_singleton.1 hv]; exact ⟨y1, y2⟩) rfl (by omega)) none'W ?_
        rintro r k2 j2 hk2 ⟨c2, rfl, F2, P3⟩
        have P4 := P2.ext F2 hk2
        have ex : forms [x] = form x := by simp [forms]
        have ey : forms [y] = form y := by simp [forms]
        rw [ex] at P4
        rw [ey] at P3
        rw [ex, ey]
        repeat' (first | refine stpS ?_ | (refine stp2 ?_ ?_ <;> intro _))
        refine RS.call1 rfl opds (size_ev x x1 x2 _ _) none'W ?_
        by_cases hxy : x = y
        · repeat' (first | refine stpS ?_ | (refine stp2 ?_ ?_ <;> intro _))
          rfl
        · have hp1 := hasPrefix_ev (form x) (form y) _ _ _ _ _ _ P4.slb P3.slb rfl rfl
          have hp2 := hasPrefix_ev (form y) (form x) _ _ _ _ _ _ P3.slb P4.slb rfl rfl
          rw [decide_eq_false (form_apart x1 x2 y1 y2 hxy)] at hp1
          rw [decide_eq_false (form_apart y1 y2 x1 x2 (Ne.symm hxy))] at hp2
          repeat' (first | refine stpS ?_ | (refine stp2 ?_ ?_ <;> intro _))
          refine RS.call1 rfl opds hp1 none'W ?_
          repeat' (first | refine stpS ?_ | (refine stp2 ?_ ?_ <;> intro _))
          refine RS.call1 rfl opds hp2 none'W ?_
          repeat' (first | refine stpS ?_ | (refine stp2 ?_ ?_ <;> intro _))
          rfl
      · have hst2 : (⟨s.toArray⟩ : ByteArray) ≠ ⟨t.toArray⟩ := fun e => hst (by injection e with e; simpa using congrArg Array.toList e)
        repeat' (first | refine stpS ?_ | (refine stp2 ?_ ?_ <;> intro _))
        refine RS.call rfl opds (wOut_rf n av _ n n4 h4 hV4) none'W ?_
        rintro r n5 h5 hle5 ⟨d1, rfl, F5, P5⟩
        repeat' (first | refine stpS ?_ | (refine stp2 ?_ ?_ <;> intro _))
        refine RS.call rfl opds (wOut_rf n1 aw _ n1 n5 h5 (hW4.ext F5 hle5)) none'W ?_
        rintro r n6 h6 hle6 ⟨d2, rfl, F6, P6⟩
        have hq1 := hasPrefix_ev (formB s) (formB t) _ _ _ _ _ _ (P5.ext F6 hle6).slb P6.slb rfl rfl
        rw [decide_eq_false (formB_apart hst)] at hq1
        repeat' (first | refine stpS ?_ | (refine stp2 ?_ ?_ <;> intro _))
        refine RS.call1 rfl opds hq1 none'W ?_
        have E6 := F5.trans hle5 F6
        repeat' (first | refine stpS ?_ | (refine stp2 ?_ ?_ <;> intro _))
        refine RS.call rfl opds (wOut_rf n1 aw _ n1 n6 h6 (hW4.ext E6 (by omega))) none'W ?_
        rintro r n7 h7 hle7 ⟨d3, rfl, F7, P7⟩
        repeat' (first | refine stpS ?_ | (refine stp2 ?_ ?_ <;> intro _))
        refine RS.call rfl opds (wOut_rf n av _ n n7 h7 (hV4.ext (E6.trans (by omega) F7) (by omega))) none'W ?_
        rintro r n8 h8 hle8 ⟨d4, rfl, F8, P8⟩
        have hq2 := hasPrefix_ev (formB t) (formB s) _ _ _ _ _ _ (P7.ext F8 hle8).slb P8.slb rfl rfl
        rw [decide_eq_false (formB_apart (Ne.symm hst))] at hq2
        repeat' (first | refine stpS ?_ | (refine stp2 ?_ ?_ <;> intro _))
        refine RS.call1 rfl opds hq2 none'W ?_
        repeat' (first | refine stpS ?_ | (refine stp2 ?_ ?_ <;> intro _))
        refine RS.gen (fun g => SlN g (n8 + 1) (some ⟨n8, 0, none⟩) .i64 [x]) (sln_new [x] n8 _) ?_
        intro g1 hg1
        refine RS.call rfl opds (row_rf [x] _ 1 (n8 + 1) g1 hg1 (fun v hv => by rw [List.mem_singleton.1 hv]; exact ⟨x1, x2⟩) rfl (by omega)) none'W ?_
        rintro r k1 j1 hk1 ⟨c1, rfl, F1, P1⟩
        repeat' (first | refine stpS ?_ | (refine stp2 ?_ ?_ <;> intro _))
        refine RS.gen (fun g => SlN g (k1 + 1) (some ⟨k1, 0, none⟩) .i64 [y] ∧ OwnSl g (n8 + 1) (k1 + 1) c1 1 (forms [x]).length (bytesV (forms [x]))) ⟨sln_new [y] k1 _, P1.ext ext (Nat.le_succ _)⟩ ?_
        rintro g2 ⟨hg2, P2⟩
        refine RS.call rfl opds (row_rf [y] _ 1 (k1 + 1) g2 hg2 (fun v hv => by rw [List.mem_singleton.1 hv]; exact ⟨y1, y2⟩) rfl (by omega)) none'W ?_
        rintro r k2 j2 hk2 ⟨c2, rfl, F2, P3⟩
        have P4 := P2.ext F2 hk2
        have ex : forms [x] = form x := by simp [forms]
        have ey : forms [y] = form y := by simp [forms]
        rw [ex] at P4
        rw [ey] at P3
        rw [ex, ey]
        repeat' (first | refine stpS ?_ | (refine stp2 ?_ ?_ <;> intro _))
        refine RS.call1 rfl opds (size_ev x x1 x2 _ _) none'W ?_
        by_cases hxy : x = y
        · repeat' (first | refine stpS ?_ | (refine stp2 ?_ ?_ <;> intro _))
          rfl
        · have hp1 := hasPrefix_ev (form x) (form y) _ _ _ _ _ _ P4.slb P3.slb rfl rfl
          have hp2 := hasPrefix_ev (form y) (form x) _ _ _ _ _ _ P3.slb P4.slb rfl rfl
          rw [decide_eq_false (form_apart x1 x2 y1 y2 hxy)] at hp1
          rw [decide_eq_false (form_apart y1 y2 x1 x2 (Ne.symm hxy))] at hp2
          repeat' (first | refine stpS ?_ | (refine stp2 ?_ ?_ <;> intro _))
          refine RS.call1 rfl opds hp1 none'W ?_
          repeat' (first | refine stpS ?_ | (refine stp2 ?_ ?_ <;> intro _))
          refine RS.call1 rfl opds hp2 none'W ?_
          repeat' (first | refine stpS ?_ | (refine stp2 ?_ ?_ <;> intro _))
          rfl
    · rw [if_neg hf2] at hW4 ⊢
      repeat' (first | refine stpS ?_ | (refine stp2 ?_ ?_ <;> intro _))
      refine RS.gen (fun g => SlN g (n4 + 1) (some ⟨n4, 0, none⟩) .i64 [x]) (sln_new [x] n4 _) ?_
      intro g1 hg1
      refine RS.call rfl opds (row_rf [x] _ 1 (n4 + 1) g1 hg1 (fun v hv => by rw [List.mem_singleton.1 hv]; exact ⟨x1, x2⟩) rfl (by omega)) none'W ?_
      rintro r k1 j1 hk1 ⟨c1, rfl, F1, P1⟩
      repeat' (first | refine stpS ?_ | (refine stp2 ?_ ?_ <;> intro _))
      refine RS.gen (fun g => SlN g (k1 + 1) (some ⟨k1, 0, none⟩) .i64 [y] ∧ OwnSl g (n4 + 1) (k1 + 1) c1 1 (forms [x]).length (bytesV (forms [x]))) ⟨sln_new [y] k1 _, P1.ext ext (Nat.le_succ _)⟩ ?_
      rintro g2 ⟨hg2, P2⟩
      refine RS.call rfl opds (row_rf [y] _ 1 (k1 + 1) g2 hg2 (fun v hv => by rw [List.mem_singleton.1 hv]; exact ⟨y1, y2⟩) rfl (by omega)) none'W ?_
      rintro r k2 j2 hk2 ⟨c2, rfl, F2, P3⟩
      have P4 := P2.ext F2 hk2
      have ex : forms [x] = form x := by simp [forms]
      have ey : forms [y] = form y := by simp [forms]
      rw [ex] at P4
      rw [ey] at P3
      rw [ex, ey]
      repeat' (first | refine stpS ?_ | (refine stp2 ?_ ?_ <;> intro _))
      refine RS.call1 rfl opds (size_ev x x1 x2 _ _) none'W ?_
      by_cases hxy : x = y
      · repeat' (first | refine stpS ?_ | (refine stp2 ?_ ?_ <;> intro _))
        rfl
      · have hp1 := hasPrefix_ev (form x) (form y) _ _ _ _ _ _ P4.slb P3.slb rfl rfl
        have hp2 := hasPrefix_ev (form y) (form x) _ _ _ _ _ _ P3.slb P4.slb rfl rfl
        rw [decide_eq_false (form_apart x1 x2 y1 y2 hxy)] at hp1
        rw [decide_eq_false (form_apart y1 y2 x1 x2 (Ne.symm hxy))] at hp2
        repeat' (first | refine stpS ?_ | (refine stp2 ?_ ?_ <;> intro _))
        refine RS.call1 rfl opds hp1 none'W ?_
        repeat' (first | refine stpS ?_ | (refine stp2 ?_ ?_ <;> intro _))
        refine RS.call1 rfl opds hp2 none'W ?_
        repeat' (first | refine stpS ?_ | (refine stp2 ?_ ?_ <;> intro _))
        rfl
  · rw [if_neg hf1] at hV3 ⊢
    repeat' (first | refine stpS ?_ | (refine stp2 ?_ ?_ <;> intro _))
    refine RS.gen (fun g => SlN g (n3 + 1) (some ⟨n3, 0, none⟩) .i64 [x]) (sln_new [x] n3 _) ?_
    intro g1 hg1
    refine RS.call rfl opds (row_rf [x] _ 1 (n3 + 1) g1 hg1 (fun v hv => by rw [List.mem_singleton.1 hv]; exact ⟨x1, x2⟩) rfl (by omega)) none'W ?_
    rintro r k1 j1 hk1 ⟨c1, rfl, F1, P1⟩
    repeat' (first | refine stpS ?_ | (refine stp2 ?_ ?_ <;> intro _))
    refine RS.gen (fun g => SlN g (k1 + 1) (some ⟨k1, 0, none⟩) .i64 [y] ∧ OwnSl g (n3 + 1) (k1 + 1) c1 1 (forms [x]).length (bytesV (forms [x]))) ⟨sln_new [y] k1 _, P1.ext ext (Nat.le_succ _)⟩ ?_
    rintro g2 ⟨hg2, P2⟩
    refine RS.call rfl opds (row_rf [y] _ 1 (k1 + 1) g2 hg2 (fun v hv => by rw [List.mem_singleton.1 hv]; exact ⟨y1, y2⟩) rfl (by omega)) none'W ?_
    rintro r k2 j2 hk2 ⟨c2, rfl, F2, P3⟩
    have P4 := P2.ext F2 hk2
    have ex : forms [x] = form x := by simp [forms]
    have ey : forms [y] = form y := by simp [forms]
    rw [ex] at P4
    rw [ey] at P3
    rw [ex, ey]
    repeat' (first | refine stpS ?_ | (refine stp2 ?_ ?_ <;> intro _))
    refine RS.call1 rfl opds (size_ev x x1 x2 _ _) none'W ?_
    by_cases hxy : x = y
    · repeat' (first | refine stpS ?_ | (refine stp2 ?_ ?_ <;> intro _))
      rfl
    · have hp1 := hasPrefix_ev (form x) (form y) _ _ _ _ _ _ P4.slb P3.slb rfl rfl
      have hp2 := hasPrefix_ev (form y) (form x) _ _ _ _ _ _ P3.slb P4.slb rfl rfl
      rw [decide_eq_false (form_apart x1 x2 y1 y2 hxy)] at hp1
      rw [decide_eq_false (form_apart y1 y2 x1 x2 (Ne.symm hxy))] at hp2
      repeat' (first | refine stpS ?_ | (refine stp2 ?_ ?_ <;> intro _))
      refine RS.call1 rfl opds hp1 none'W ?_
      repeat' (first | refine stpS ?_ | (refine stp2 ?_ ?_ <;> intro _))
      refine RS.call1 rfl opds hp2 none'W ?_
      repeat' (first | refine stpS ?_ | (refine stp2 ?_ ?_ <;> intro _))
      rfl
end Go.Proofs.YtflhhipemmlgpaaDoor

/- Bytes and texts, compared. -/
namespace Go.Proofs.YtflhhipemmlgpaaDoor
open Go.Abs

section
variable {P : Program} {T : Nat → Prop} {env : Env} {n : Nat} {g : AH} {dst : Option Tmp} {ty : TypeId} {pos : String} {after : Array Edge} {gd : Option (Nat × Bool)}
/-- Bytes in memory, or none. -/
def BytesAt (g : AH) (a : Option Addr) (m : Nat) (l : List UInt8) : Prop := (a = none ∧ l = [] ∧ m = 0) ∨ ∃ b o, a = some ⟨b, o, none⟩ ∧ rd g b o m = bytesV l
theorem SlB.bytesAt {n : Nat} {h h' : AH} {a : Option Addr} {l : List UInt8} (S : SlB h n a l) (E : Ext n h h') : BytesAt h' a l.length l := by
  rcases S.shape with ⟨ha, hl⟩ | ⟨ha, -, -⟩
  · exact .inl ⟨ha, List.eq_nil_of_length_eq_zero hl, hl⟩
  · exact .inr ⟨_, _, ha, Go.Abs.SlB.rd S E⟩
theorem run_bytesOf_rel {w0 : Base} {ρ : Ren} {w : World} {H : AH} {a : Option Addr} {m : Nat} {l : List UInt8} {c : Value} (hl : g.le H) (hsim : Sim w0 ρ H w) (h : VRel ρ (.slice a m m) c) (hr : BytesAt g a m l) :
    (Extern.Bytes.bytesOf c).run P w = .ok ⟨l.toArray⟩ w := by
  have he : ∀ l : List UInt8, (⟨ByteArray.empty.data ++ l.toArray⟩ : ByteArray) = ⟨l.toArray⟩ := by
    intro l
    apply ByteArray.ext
    show (#[] : Array UInt8) ++ l.toArray = l.toArray
    simp
  have hbo : ∀ l : List UInt8, Lib.bytesOf (l.map fun b => (b.toNat : Int)) = l := by
    intro l
    simp [Lib.bytesOf, Function.comp_def]
  rcases hr with ⟨rfl, rfl, rfl⟩ | ⟨b, o, rfl, hr⟩
  · cases h; rfl
  · have hm : m = l.length := by rw [← rd_length g b m o, hr, bytesV_length]
    cases h with
    | @slice _ _ _ L C hL hn2 hcap =>
      obtain ⟨cs, c1, c2, c3⟩ := hsim.rd (P := P) hl hL (k := m) (o := o) (by rw [hr]; exact bytesV_known l)
      have hrun := Lib.run_loadBytesX (P := P) w (l.map fun b => (b.toNat : Int)) ⟨L.blk, L.off + o, none⟩ .empty (fun i x hi => by
        have hi2 : i < l.length := by simpa using (List.getElem?_eq_some_iff.1 hi).1
        have k := c2 i (by omega)
        rw [hr] at k
        have e1 : (bytesV l).getD i (.tuple #[]) = .int .u8 (l[i]).toNat := by simp [bytesV, List.getD, hi2]
        have k2 := k.2
        rw [e1] at k2
        have k1 := k.1
        rw [k2.int_inv] at k1
        have e2 : x = (l[i]).toNat := by
          rw [List.getElem?_map, List.getElem?_eq_getElem hi2] at hi
          exact (Option.some.inj hi).symm
        rw [e2, addr_add]
        exact k1)
      rw [hbo, he, List.length_map, ← hm] at hrun
      exact hrun
    | slice0 a hL =>
      have : l = [] := List.eq_nil_of_length_eq_zero hm.symm
      subst this
      rfl
theorem op_compare {f : FuncId} {fn : Func} {ts : Array TypeId} {x y : Operand} {a c : Option Addr} {m k : Nat} {l u : List UInt8} (hf : P.funcs[f]? = some fn) (hname : (fn.name == "runtime.NumGoroutine") = false) (hb : fn.body.isNone = true) (hn : Extern.findNext fn = none)
    (he : Extern.find fn = some Extern.BytealgCompare.compare) (hx : ev env x = .slice a m m) (hy : ev env y = .slice c k k) (hr : BytesAt g a m l) (hr2 : BytesAt g c k u) :
    OpEv P T ⟨dst, .call { callee := .value (.func f), args := #[x, y], argTypes := ts }, ty, pos, after, gd⟩ env n g (.int .i64 (Lib.compareBytes l u)) n .nil :=
  .look fun w0 ρ w H ce hl hsim hop => by
    have h1 := hop x (by simp [Op.operands, Call.operands]); rw [hx] at h1
    have h3 := hop y (by simp [Op.operands, Call.operands]); rw [hy] at h3
    have h2 := hop (.func f) (by simp [Op.operands, Call.operands])
    have hcf0 : ce (.func f) = .func (.func f) #[] #[] := by
      have e0 : ev env (.func f) = .func (.func f) #[] #[] := rfl
      rw [e0] at h2
      generalize ce (.func f) = q at h2
      cases h2 with
      | @func _ _ ys hs _ =>
        have : ys = #[] := Array.eq_empty_of_size_eq_zero (by simpa using hs.symm)
        rw [this]
    refine ⟨.int .i64 (Lib.compareBytes l u), ?_, .int _ _⟩
    have e1 := run_bytesOf_rel (P := P) hl hsim h1 hr
    have e2 := run_bytesOf_rel (P := P) hl hsim h3 hr2
    have hrun : (Extern.BytealgCompare.compare #[ce x, ce y]).run P w = .ok (.int .i64 (Lib.compareBytes l u)) w := by
      change Sem.run P (do pure (goInt (Extern.BytealgCompare.cmp (← Extern.Bytes.bytesOf (ce x)) (← Extern.Bytes.bytesOf (ce y))))) w = _
      simp only [Sem.run_bind, e1, e2, Result.andThen_ok, Sem.run_pure]
      rw [Lib.cmp_eq]; rfl
    have hcf := run_callFunc_extern hf hname hb hn he #[ce x, ce y] w
    rw [hrun] at hcf
    simp [execOp, resolve, invoke, hcf, hcf0, Deferred.ofValue]
theorem op_cmpstr {f : FuncId} {fn : Func} {ts : Array TypeId} {x y : Operand} {l u : List UInt8} (hf : P.funcs[f]? = some fn) (hname : (fn.name == "runtime.NumGoroutine") = false) (hb : fn.body.isNone = true) (hn : Extern.findNext fn = none)
    (he : Extern.find fn = some Extern.BytealgCompare.compare) (hx : ev env x = .string ⟨l.toArray⟩) (hy : ev env y = .string ⟨u.toArray⟩) :
    OpEv P T ⟨dst, .call { callee := .value (.func f), args := #[x, y], argTypes := ts }, ty, pos, after, gd⟩ env n g (.int .i64 (Lib.compareBytes l u)) n .nil :=
  .look fun w0 ρ w H ce hl hsim hop => by
    have h1 := hop x (by simp [Op.operands, Call.operands]); rw [hx] at h1
    have h3 := hop y (by simp [Op.operands, Call.operands]); rw [hy] at h3
    have h1 := h1.string_inv
    have h3 := h3.string_inv
    have h2 := hop (.func f) (by simp [Op.operands, Call.operands])
    have hcf0 : ce (.func f) = .func (.func f) #[] #[] := by
      have e0 : ev env (.func f) = .func (.func f) #[] #[] := rfl
      rw [e0] at h2
      generalize ce (.func f) = q at h2
      cases h2 with
      | @func _ _ ys hs _ =>
        have : ys = #[] := Array.eq_empty_of_size_eq_zero (by simpa using hs.symm)
        rw [this]
    refine ⟨.int .i64 (Lib.compareBytes l u), ?_, .int _ _⟩
    have hrun := Lib.run_compareString (P := P) ⟨l.toArray⟩ ⟨u.toArray⟩ w
    have hcf := run_callFunc_extern hf hname hb hn he #[.string ⟨l.toArray⟩, .string ⟨u.toArray⟩] w
    rw [hrun] at hcf
    simp [execOp, resolve, invoke, h1, h3, hcf, hcf0, Deferred.ofValue]
end
set_option maxHeartbeats 4000000 in
theorem bcompare_ev (t u : List UInt8) (a b : Option Addr) (m k n : Nat) (h : AH) (S : SlB h n a t) (S2 : SlB h n b u) (e : m = t.length) (e2 : k = u.length) :
    Ev Tryd.prog none' 31 #[.slice a m m, .slice b k k] n h (.int .i64 (Lib.compareBytes t u)) n h := by
  subst e; subst e2
  refine RF.pure rfl fun n' hn => ?_
  refine RF.of Tryd.func31 rfl rfl (Nat.le_of_ble_eq_true rfl) ?_; dsimp only [argEnv]
  repeat' (first | refine stpS ?_ | (refine stp2 ?_ ?_ <;> intro _))
  refine RS.put rfl rfl (op_compare (f := 53) (l := t) (u := u) Tryd.func53 (by kernel_rfl) (by kernel_rfl) (by kernel_rfl) (by kernel_rfl) (Opd.ev opd) (Opd.ev opd) (SlB.bytesAt S (Ext.refl _ _)) (SlB.bytesAt S2 (Ext.refl _ _))) ?_
  repeat' (first | refine stpS ?_ | (refine stp2 ?_ ?_ <;> intro _))
  rfl
set_option maxHeartbeats 4000000 in
theorem cmpstr_ev (t u : List UInt8) (n : Nat) (h : AH) :
    Ev Tryd.prog none' 54 #[.string ⟨t.toArray⟩, .string ⟨u.toArray⟩] n h (.int .i64 (Lib.compareBytes t u)) n h := by
  refine RF.pure rfl fun n' hn => ?_
  refine RF.of Tryd.func54 rfl rfl (Nat.le_of_ble_eq_true rfl) ?_; dsimp only [argEnv]
  repeat' (first | refine stpS ?_ | (refine stp2 ?_ ?_ <;> intro _))
  refine RS.put rfl rfl (op_cmpstr (f := 64) (l := t) (u := u) Tryd.func64 (by kernel_rfl) (by kernel_rfl) (by kernel_rfl) (by kernel_rfl) (Opd.ev opd) (Opd.ev opd)) ?_
  repeat' (first | refine stpS ?_ | (refine stp2 ?_ ?_ <;> intro _))
  rfl
set_option maxHeartbeats 4000000 in
theorem scompare_ev (t u : List UInt8) (n : Nat) (h : AH) :
    Ev Tryd.prog none' 32 #[.string ⟨t.toArray⟩, .string ⟨u.toArray⟩] n h (.int .i64 (Lib.compareBytes t u)) n h := by
  refine RF.pure rfl fun n' hn => ?_
  refine RF.of Tryd.func32 rfl rfl (Nat.le_of_ble_eq_true rfl) ?_; dsimp only [argEnv]
  repeat' (first | refine stpS ?_ | (refine stp2 ?_ ?_ <;> intro _) | refine RS.call1 rfl opds (cmpstr_ev t u _ _) none'W ?_)
  rfl
end Go.Proofs.YtflhhipemmlgpaaDoor

/- The plain law of order. -/
namespace Go.Proofs.YtflhhipemmlgpaaDoor
open Go.Abs

theorem cmp_self (x : List UInt8) : Lib.compareBytes x x = 0 := by
  induction x with
  | nil => rfl
  | cons c x ih => unfold Lib.compareBytes; rw [if_neg (UInt8.lt_irrefl c), if_neg (UInt8.lt_irrefl c)]; exact ih
theorem cmp_pre (p x y : List UInt8) : Lib.compareBytes (p ++ x) (p ++ y) = Lib.compareBytes x y := by
  induction p with
  | nil => rfl
  | cons c p ih =>
    show (if c < c then (-1 : Int) else if c < c then 1 else Lib.compareBytes (p ++ x) (p ++ y)) = _
    rw [if_neg (UInt8.lt_irrefl c), if_neg (UInt8.lt_irrefl c)]
    exact ih
/-- The first byte that is another one is less. -/
def LtD (x y : List UInt8) : Prop := ∃ p c d x' y', x = p ++ c :: x' ∧ y = p ++ d :: y' ∧ c.toNat < d.toNat
theorem cmp_lt {c d : UInt8} (h : c.toNat < d.toNat) (x y : List UInt8) : Lib.compareBytes (c :: x) (d :: y) = -1 ∧ Lib.compareBytes (d :: y) (c :: x) = 1 := by
  have h1 : c < d := UInt8.lt_iff_toNat_lt.2 h
  have h2 : ¬ d < c := fun q => by have := UInt8.lt_iff_toNat_lt.1 q; omega
  unfold Lib.compareBytes
  rw [if_pos h1, if_neg h2, if_pos h1]
  exact ⟨rfl, rfl⟩
theorem LtD.cmp {x y : List UInt8} (h : LtD x y) (r s : List UInt8) : Lib.compareBytes (x ++ r) (y ++ s) = -1 ∧ Lib.compareBytes (y ++ s) (x ++ r) = 1 := by
  obtain ⟨p, c, d, x', y', rfl, rfl, hlt⟩ := h
  simp only [List.append_assoc, List.cons_append, cmp_pre]
  exact cmp_lt hlt _ _
theorem LtD.flip {x y : List UInt8} (h : LtD x y) : LtD (y.map (flipU true)) (x.map (flipU true)) := by
  obtain ⟨p, c, d, x', y', rfl, rfl, hlt⟩ := h
  refine ⟨p.map (flipU true), flipU true d, flipU true c, y'.map (flipU true), x'.map (flipU true), by simp, by simp, ?_⟩
  rw [flip_nat, flip_nat]
  have := c.toNat_lt
  have := d.toNat_lt
  omega
theorem LtD.cons {x y : List UInt8} (c : UInt8) (h : LtD x y) : LtD (c :: x) (c :: y) := by
  obtain ⟨p, a, d, x', y', rfl, rfl, hlt⟩ := h
  exact ⟨c :: p, a, d, x', y', rfl, rfl, hlt⟩
theorem be_lt (k : Nat) : ∀ m n, m < n → n < 256 ^ k → LtD (be k m) (be k n) := by
  induction k with
  | zero => intro m n h1 h2; simp at h2; omega
  | succ k ih =>
    intro m n h1 h2
    have hp : 0 < 256 ^ k := Nat.pow_pos (by omega)
    rw [be_cons, be_cons]
    have hn : n / 256 ^ k < 256 := by rw [Nat.pow_succ] at h2; exact Nat.div_lt_of_lt_mul h2
    have hle : m / 256 ^ k ≤ n / 256 ^ k := Nat.div_le_div_right (by omega)
    by_cases q : m / 256 ^ k = n / 256 ^ k
    · rw [q]
      refine LtD.cons _ ?_
      have e : ∀ m, be k m = be k (m % 256 ^ k) := fun m => by
        unfold be
        apply List.map_congr_left
        intro i hi
        have hi : i < k := List.mem_range.1 hi
        apply UInt8.toNat_inj.1
        rw [UInt8.toNat_ofNat', UInt8.toNat_ofNat']
        have e1 : 256 ^ k = 256 ^ (k - 1 - i) * 256 ^ (i + 1) := by rw [← Nat.pow_add]; congr 1; omega
        rw [e1, Nat.mod_mul_right_div_self]
        exact (Nat.mod_mod_of_dvd _ ⟨256 ^ i, (Nat.pow_succ' : 256 ^ (i + 1) = 256 * 256 ^ i)⟩).symm
      rw [e m, e n]
      refine ih _ _ ?_ (Nat.mod_lt _ hp)
      have a1 := Nat.div_add_mod m (256 ^ k)
      have a2 := Nat.div_add_mod n (256 ^ k)
      rw [q] at a1
      omega
    · refine ⟨[], _, _, _, _, rfl, rfl, ?_⟩
      rw [UInt8.toNat_ofNat', UInt8.toNat_ofNat']
      generalize m / 256 ^ k = u at *
      generalize n / 256 ^ k = v at *
      omega
theorem bl_mono {m n : Nat} (h : m ≤ n) : bl m ≤ bl n := bl_le (Nat.lt_of_le_of_lt h (lt_pow_bl n))
theorem nb_mono {m n : Nat} (h : m ≤ n) : nb m ≤ nb n := by
  have := bl_mono h
  unfold nb; omega
theorem formUp_lt {m n : Nat} (h : m < n) (hn : n < 9223372036854775808) : LtD (formUp m) (formUp n) := by
  unfold formUp
  have hm := nb_le (m := n - 120) (by omega)
  have hp := nb_pos (n - 120)
  by_cases h1 : m < 120
  · rw [if_pos h1]
    by_cases h2 : n < 120
    · rw [if_pos h2]
      exact ⟨[], _, _, [], [], rfl, rfl, by rw [UInt8.toNat_ofNat', UInt8.toNat_ofNat']; omega⟩
    · rw [if_neg h2]
      exact ⟨[], _, _, [], _, rfl, rfl, by rw [UInt8.toNat_ofNat', UInt8.toNat_ofNat']; omega⟩
  · rw [if_neg h1, if_neg (by omega)]
    have hmn := nb_mono (show m - 120 ≤ n - 120 by omega)
    by_cases q : nb (m - 120) = nb (n - 120)
    · rw [q]
      exact LtD.cons _ (be_lt _ _ _ (by omega) (lt_pow_nb _))
    · exact ⟨[], _, _, _, _, rfl, rfl, by rw [UInt8.toNat_ofNat', UInt8.toNat_ofNat']; omega⟩
theorem formUp_head (n : Nat) (hn : n < 9223372036854775808) : ∃ c r, formUp n = c :: r ∧ 128 ≤ c.toNat := by
  unfold formUp
  have hm := nb_le (m := n - 120) (by omega)
  split
  · exact ⟨_, _, rfl, by rw [UInt8.toNat_ofNat']; omega⟩
  · exact ⟨_, _, rfl, by rw [UInt8.toNat_ofNat']; omega⟩
theorem form_lt {a b : Int} (a1 : -9223372036854775808 ≤ a) (a2 : a < 9223372036854775808) (b1 : -9223372036854775808 ≤ b) (b2 : b < 9223372036854775808) (h : a < b) : LtD (form a) (form b) := by
  unfold form
  by_cases ha : a < 0
  · rw [if_pos ha, turn_flip]
    by_cases hb : b < 0
    · rw [if_pos hb, turn_flip]
      exact (formUp_lt (by omega) (by omega)).flip
    · rw [if_neg hb]
      obtain ⟨c, r, e1, k1⟩ := formUp_head (-a - 1).toNat (by omega)
      obtain ⟨d, s, e2, k2⟩ := formUp_head b.toNat (by omega)
      rw [e1, e2]
      exact ⟨[], flipU true c, d, r.map (flipU true), s, rfl, rfl, by rw [flip_nat]; omega⟩
  · rw [if_neg ha, if_neg (by omega)]
    exact formUp_lt (by omega) (by omega)
def cmpI : List Int → List Int → Int
  | [], [] => 0
  | [], _ :: _ => -1
  | _ :: _, [] => 1
  | a :: p, b :: q => if a < b then -1 else if b < a then 1 else cmpI p q
theorem cmpI_app (p a b : List Int) : cmpI (p ++ a) (p ++ b) = cmpI a b := by
  induction p with
  | nil => rfl
  | cons c p ih =>
    show (if c < c then (-1 : Int) else if c < c then 1 else cmpI (p ++ a) (p ++ b)) = _
    rw [if_neg (by omega), if_neg (by omega)]
    exact ih
theorem form_cons (a : Int) : ∃ c r, form a = c :: r := by
  have := form_pos a
  cases h : form a with
  | nil => rw [h] at this; simp at this
  | cons c r => exact ⟨c, r, rfl⟩
theorem forms_cmp : ∀ (a b : List Int), In64 a → In64 b → Lib.compareBytes (forms a) (forms b) = cmpI a b
  | [], [], _, _ => rfl
  | [], b :: q', _, _ => by
    obtain ⟨c, r, e⟩ := form_cons b
    simp only [forms, List.flatMap_nil, List.flatMap_cons, e, List.cons_append]; rfl
  | a :: p, [], _, _ => by
    obtain ⟨c, r, e⟩ := form_cons a
    simp only [forms, List.flatMap_nil, List.flatMap_cons, e, List.cons_append]; rfl
  | a :: p, b :: q', ha, hb => by
    obtain ⟨a1, a2⟩ := ha a (.head _)
    obtain ⟨b1, b2⟩ := hb b (.head _)
    show Lib.compareBytes (form a ++ forms p) (form b ++ forms q') = (if a < b then (-1 : Int) else if b < a then 1 else cmpI p q')
    by_cases h1 : a < b
    · rw [if_pos h1]; exact ((form_lt a1 a2 b1 b2 h1).cmp _ _).1
    · by_cases h2 : b < a
      · rw [if_neg h1, if_pos h2]; exact ((form_lt b1 b2 a1 a2 h2).cmp _ _).2
      · rw [if_neg h1, if_neg h2]
        have : a = b := by omega
        subst this
        rw [cmp_pre]
        exact forms_cmp p q' (fun v hv => ha v (List.mem_cons_of_mem _ hv)) (fun v hv => hb v (List.mem_cons_of_mem _ hv))
theorem formB_cons (c : UInt8) (s : List UInt8) : formB (c :: s) = escB c ++ formB s := by simp [formB, esc]
theorem escB_head (c : UInt8) : ∃ r, escB c = c :: r := by
  unfold escB
  split
  · exact ⟨[1], rfl⟩
  · exact ⟨[], rfl⟩
theorem nil_cmp (d : UInt8) (t : List UInt8) : Lib.compareBytes (formB []) (formB (d :: t)) = -1 ∧ Lib.compareBytes (formB (d :: t)) (formB []) = 1 := by
  rw [formB_cons]
  by_cases hd : d.toNat = 0
  · have : d = 0 := (UInt8.toNat_inj (a := d) (b := 0)).1 hd
    subst this
    show Lib.compareBytes ([0] ++ [0]) ([0] ++ 1 :: formB t) = -1 ∧ Lib.compareBytes ([0] ++ 1 :: formB t) ([0] ++ [0]) = 1
    rw [cmp_pre, cmp_pre]
    exact cmp_lt (by decide) _ _
  · obtain ⟨r, e⟩ := escB_head d
    rw [e]
    exact cmp_lt (c := 0) (d := d) (by show 0 < d.toNat; omega) _ _
theorem formB_cmp : ∀ (s t : List UInt8), Lib.compareBytes (formB s) (formB t) = Lib.compareBytes s t
  | [], [] => by rw [cmp_self]; rfl
  | [], d :: t => by rw [(nil_cmp d t).1]; rfl
  | c :: s, [] => by rw [(nil_cmp c s).2]; rfl
  | c :: s, d :: t => by
    obtain ⟨r1, e1⟩ := escB_head c
    obtain ⟨r2, e2⟩ := escB_head d
    by_cases h : c = d
    · subst h
      rw [formB_cons, formB_cons, cmp_pre, formB_cmp s t]
      exact (cmp_pre [c] s t).symm
    · rw [formB_cons, formB_cons, e1, e2, List.cons_append, List.cons_append]
      have hne : c.toNat ≠ d.toNat := fun e => h (UInt8.toNat_inj.1 e)
      rcases Nat.lt_or_gt_of_ne hne with q | q
      · rw [(cmp_lt q _ _).1, (cmp_lt q _ _).1]
      · rw [(cmp_lt q _ _).2, (cmp_lt q _ _).2]
end Go.Proofs.YtflhhipemmlgpaaDoor

/- The law CodecOrder. -/
namespace Go.Proofs.YtflhhipemmlgpaaDoor
open Go.Abs

set_option maxHeartbeats 4000000 in
theorem isNaN_ev (a : Int) (n : Nat) (h : AH) : Ev Tryd.prog none' 65 #[.int .i64 a] n h (.bool false) n h := by
  refine RF.pure rfl fun n' hn => ?_
  refine RF.of Tryd.func65 rfl rfl (Nat.le_of_ble_eq_true rfl) ?_; dsimp only [argEnv]
  repeat' (first | refine stpS ?_ | (refine stp2 ?_ ?_ <;> intro _))
  rfl
set_option maxHeartbeats 4000000 in
theorem cmpInt_ev (a b : Int) (n : Nat) (h : AH) : Ev Tryd.prog none' 55 #[.int .i64 a, .int .i64 b] n h (.int .i64 (if a < b then -1 else if b < a then 1 else 0)) n h := by
  refine RF.pure rfl fun n' hn => ?_
  refine RF.of Tryd.func55 rfl rfl (Nat.le_of_ble_eq_true rfl) ?_; dsimp only [argEnv]
  repeat' (first | refine stpS ?_ | (refine stp2 ?_ ?_ <;> intro _))
  refine RS.call1 rfl opds (isNaN_ev a _ _) none'W ?_
  repeat' (first | refine stpS ?_ | (refine stp2 ?_ ?_ <;> intro _))
  refine RS.call1 rfl opds (isNaN_ev b _ _) none'W ?_
  by_cases h1 : a < b
  · rw [if_pos h1]
    repeat' (first | refine stpS ?_ | (refine stp2 ?_ ?_ <;> intro _))
    rfl
  · rw [if_neg h1]
    by_cases h2 : b < a
    · rw [if_pos h2]
      repeat' (first | refine stpS ?_ | (refine stp2 ?_ ?_ <;> intro _))
      rfl
    · rw [if_neg h2]
      repeat' (first | refine stpS ?_ | (refine stp2 ?_ ?_ <;> intro _))
      rfl
theorem int_drop {b : List Int} {i : Nat} (h : i < b.length) : b.drop i = b.getD i 0 :: b.drop (i + 1) := by
  rw [List.drop_eq_getElem_cons h]
  simp [List.getD, h]
set_option maxHeartbeats 4000000 in
theorem slcompare_ev (l u : List Int) (a b : Option Addr) (m k n : Nat) (h : AH) (S : SlN h n a .i64 l) (S2 : SlN h n b .i64 u) (e : m = l.length) (e2 : k = u.length) (hm : m ≤ 1099511627776) :
    Ev Tryd.prog none' 33 #[.slice a m m, .slice b k k] n h (.int .i64 (cmpI l u)) n h := by
  subst e; subst e2
  refine RF.pure rfl fun n' hn => ?_
  have S := S.ext (Ext.refl n h) hn
  have S2 := S2.ext (Ext.refl n h) hn
  refine RF.of Tryd.func33 rfl rfl (Nat.le_of_ble_eq_true rfl) ?_; dsimp only [argEnv]
  repeat' (first | refine stpS ?_ | (refine stp2 ?_ ?_ <;> intro _))
  refine RC.loop ?_
  refine RL.inv (α := Nat) (fun i => [(11, .int .i64 (i : Nat)), (10, .int .i64 (l.length : Nat)), (9, .slice a l.length l.length), (0, .slice a l.length l.length), (1, .slice b u.length u.length)])
    (fun i n1 h1 => i ≤ l.length ∧ i ≤ u.length ∧ cmpI l u = cmpI (l.drop i) (u.drop i) ∧ n1 = n' ∧ h1 = h)
    (fun i => l.length - i) 0 envs ⟨by omega, by omega, rfl, rfl, rfl⟩ ?_
  rintro i n1 h1 ⟨hi, hi2, hc, rfl, rfl⟩
  by_cases hlt : i < l.length
  · have hd := int_drop hlt
    by_cases hlt2 : i < u.length
    · have hd2 := int_drop hlt2
      rw [hd, hd2] at hc
      repeat' (first | refine stpS ?_ | (refine stp2 ?_ ?_ <;> intro _))
      rw [Int.toNat_natCast, show intsF .i64 l i = .int .i64 (l.getD i 0) from rfl, show intsF .i64 u i = .int .i64 (u.getD i 0) from rfl]
      refine RS.call1 rfl opds (cmpInt_ev _ _ _ _) none'W ?_
      by_cases h1 : l.getD i 0 < u.getD i 0
      · have hc : cmpI l u = -1 := by rw [hc]; unfold cmpI; rw [if_pos h1]
        rw [if_pos h1]
        repeat' (first | refine stpS ?_ | (refine stp2 ?_ ?_ <;> intro _))
        rw [hc]
      · by_cases h2 : u.getD i 0 < l.getD i 0
        · have hc : cmpI l u = 1 := by rw [hc]; unfold cmpI; rw [if_neg h1, if_pos h2]
          rw [if_neg h1, if_pos h2]
          repeat' (first | refine stpS ?_ | (refine stp2 ?_ ?_ <;> intro _))
          rw [hc]
        · have hc : cmpI l u = cmpI (l.drop (i + 1)) (u.drop (i + 1)) := by rw [hc, cmpI, if_neg h1, if_neg h2]
          rw [if_neg h1, if_neg h2]
          repeat' (first | refine stpS ?_ | (refine stp2 ?_ ?_ <;> intro _))
          exact nextC.normal ⟨i + 1, by omega, envs, by omega, by omega, hc, rfl, rfl⟩
    · rw [hd, show u.drop i = [] from List.drop_eq_nil_of_le (by omega)] at hc
      repeat' (first | refine stpS ?_ | (refine stp2 ?_ ?_ <;> intro _))
      rw [hc]; rfl
  · rw [show l.drop i = [] from List.drop_eq_nil_of_le (by omega)] at hc
    by_cases hlt2 : l.length < u.length
    · have hd2 := int_drop (b := u) (i := i) (by omega)
      rw [hd2] at hc
      repeat' (first | refine stpS ?_ | (refine stp2 ?_ ?_ <;> intro _))
      rw [hc]; rfl
    · rw [show u.drop i = [] from List.drop_eq_nil_of_le (by omega)] at hc
      repeat' (first | refine stpS ?_ | (refine stp2 ?_ ?_ <;> intro _))
      rw [hc]; rfl
set_option maxHeartbeats 4000000 in
theorem law_CodecOrder (x y : List Int) (xa ya : Option Addr) (s t : List UInt8) (n : Nat) (h : AH) (SA : SlN h n xa .i64 x) (SB : SlN h n ya .i64 y) (kx : In64 x) (ky : In64 y) (lx : x.length ≤ 1048576) (ly : y.length ≤ 1048576) (hs : s.length ≤ 1048576) (ht : t.length ≤ 1048576) :
    RF Tryd.prog none' 7 #[.slice xa x.length x.length, .slice ya y.length y.length, .string ⟨s.toArray⟩, .string ⟨t.toArray⟩] n h (fun r _ _ => r = .bool true) := by
  refine RF.of Tryd.func7 rfl rfl (Nat.le_of_ble_eq_true rfl) ?_; dsimp only [argEnv]
  repeat' (first | refine stpS ?_ | (refine stp2 ?_ ?_ <;> intro _))
  refine RS.call rfl opds (newWriter_rf n h) none'W ?_
  rintro r n1 h1 hle1 ⟨rfl, hE1, hV1⟩
  refine RS.call rfl opds (newWriter_rf n1 h1) none'W ?_
  rintro r n2 h2 hle2 ⟨rfl, hE2, hW2⟩
  have hV2 := hV1.ext hE2 hle2
  have hvh := hV1.hi
  repeat' (first | refine stpS ?_ | (refine stp2 ?_ ?_ <;> intro _))
  refine RS.call1 rfl opds (begun_ev _ _) none'W ?_
  repeat' (first | refine stpS ?_ | (refine stp2 ?_ ?_ <;> intro _))
  refine RS.call rfl opds (wText_rf n none [] ⟨s.toArray⟩ n n2 h2 hV2 (by simp [ByteArray.size]; omega)) (fun x hx => .inr (hV2.lo_of x hx)) ?_
  rintro r n3 h3 hle3 ⟨av, rfl, hV3, hX3, hav⟩
  have hE3 : Ext n h h3 := (hE1.trans hle1 hE2).viaW hX3 (by omega) hV2.lo_of
  rw [show (⟨s.toArray⟩ : ByteArray).data.toList = s from rfl] at hV3 ⊢
  have hW3 : WrR h3 n1 n3 n1 none [] := ⟨hW2.lo, by have := hW2.hi; omega, i_extW hX3 hW2.hi (by rintro (q | ⟨q, -⟩); omega; exact q rfl) hW2.inf, c_extW hX3 hW2.hi (by rintro (q | ⟨q, -⟩); omega; exact q rfl) hW2.made, c_extW hX3 hW2.hi (by rintro (q | ⟨q, -⟩); omega; exact q rfl) hW2.sl, OwnSl.nil (by omega), .inl rfl, by simp⟩
  have hav3 := hV3.own.at'
  by_cases hf1 : (formB s).length + ([] : List UInt8).length ≤ 1048576
  · rw [if_pos hf1] at hV3 ⊢
    rw [List.nil_append] at hV3
    repeat' (first | refine stpS ?_ | (refine stp2 ?_ ?_ <;> intro _))
    refine RS.call rfl opds (wText_rf n1 none [] ⟨t.toArray⟩ n1 n3 h3 hW3 (by simp [ByteArray.size]; omega)) (fun x hx => .inr (by have := hW3.lo_of x hx; omega)) ?_
    rintro r n4 h4 hle4 ⟨aw, rfl, hW4, hX4, haw⟩
    have hE4 : Ext n h h4 := hE3.viaW hX4 (by omega) (fun x hx => by have := hW3.lo_of x hx; omega)
    rw [show (⟨t.toArray⟩ : ByteArray).data.toList = t from rfl] at hW4 ⊢
    have hV4 : WrR h4 n n4 n av (formB s) := ⟨hV3.lo, by omega, i_extW hX4 hV3.hi (by rintro (q | ⟨q, -⟩); omega; exact q rfl) hV3.inf, c_extW hX4 hV3.hi (by rintro (q | ⟨q, -⟩); omega; exact q rfl) hV3.made, c_extW hX4 hV3.hi (by rintro (q | ⟨q, -⟩); omega; exact q rfl) hV3.sl, hV3.own.extW hX4 hle4 (Nat.le_refl _) (fun q1 q2 => by
      rcases hav with q | q
      · exact q1 q
      · rcases q2 with q2 | ⟨q2, -⟩
        · have := hW2.hi; omega
        · exact q2 rfl), hV3.ne, hV3.le⟩
    by_cases hf2 : (formB t).length + ([] : List UInt8).length ≤ 1048576
    · rw [if_pos hf2] at hW4 ⊢
      rw [List.nil_append] at hW4
      repeat' (first | refine stpS ?_ | (refine stp2 ?_ ?_ <;> intro _))
      refine RS.call rfl opds (wOut_rf n av _ n n4 h4 hV4) none'W ?_
      rintro r n5 h5 hle5 ⟨d1, rfl, F5, P5⟩
      repeat' (first | refine stpS ?_ | (refine stp2 ?_ ?_ <;> intro _))
      refine RS.call rfl opds (wOut_rf n1 aw _ n1 n5 h5 (hW4.ext F5 hle5)) none'W ?_
      rintro r n6 h6 hle6 ⟨d2, rfl, F6, P6⟩
      have hE6 : Ext n h h6 := (hE4.trans (by omega) F5).trans (by omega) F6
      have hq1 := bcompare_ev (formB s) (formB t) _ _ _ _ _ _ (P5.ext F6 hle6).slb P6.slb rfl rfl
      rw [formB_cmp] at hq1
      repeat' (first | refine stpS ?_ | (refine stp2 ?_ ?_ <;> intro _))
      refine RS.call1 rfl opds hq1 none'W ?_
      repeat' (first | refine stpS ?_ | (refine stp2 ?_ ?_ <;> intro _))
      refine RS.call1 rfl opds (scompare_ev s t _ _) none'W ?_
      repeat' (first | refine stpS ?_ | (refine stp2 ?_ ?_ <;> intro _))
      have T1 := SA.ext hE6 (by omega : n ≤ n6)
      have T2 := SB.ext hE6 (by omega : n ≤ n6)
      refine RS.call rfl opds (row_rf x xa x.length n6 h6 T1 kx rfl lx) none'W ?_
      rintro r k1 j1 hk1 ⟨c1, rfl, F1, P1⟩
      have T2 := T2.ext F1 hk1
      repeat' (first | refine stpS ?_ | (refine stp2 ?_ ?_ <;> intro _))
      refine RS.call rfl opds (row_rf y ya y.length k1 j1 T2 ky rfl ly) none'W ?_
      rintro r k2 j2 hk2 ⟨c2, rfl, F2, P2⟩
      have P1 := P1.ext F2 hk2
      have T2 := T2.ext F2 hk2
      have T1 := (T1.ext F1 hk1).ext F2 hk2
      have hcc := bcompare_ev (forms x) (forms y) _ _ _ _ k2 j2 P1.slb P2.slb rfl rfl
      rw [forms_cmp x y kx ky] at hcc
      repeat' (first | refine stpS ?_ | (refine stp2 ?_ ?_ <;> intro _))
      refine RS.call1 rfl opds hcc none'W ?_
      repeat' (first | refine stpS ?_ | (refine stp2 ?_ ?_ <;> intro _))
      refine RS.call1 rfl opds (slcompare_ev x y _ _ _ _ k2 j2 T1 T2 rfl rfl (by omega)) none'W ?_
      repeat' (first | refine stpS ?_ | (refine stp2 ?_ ?_ <;> intro _))
      rfl
    · rw [if_neg hf2] at hW4 ⊢
      repeat' (first | refine stpS ?_ | (refine stp2 ?_ ?_ <;> intro _))
      have T1 := SA.ext hE4 (by omega : n ≤ n4)
      have T2 := SB.ext hE4 (by omega : n ≤ n4)
      refine RS.call rfl opds (row_rf x xa x.length n4 h4 T1 kx rfl lx) none'W ?_
      rintro r k1 j1 hk1 ⟨c1, rfl, F1, P1⟩
      have T2 := T2.ext F1 hk1
      repeat' (first | refine stpS ?_ | (refine stp2 ?_ ?_ <;> intro _))
      refine RS.call rfl opds (row_rf y ya y.length k1 j1 T2 ky rfl ly) none'W ?_
      rintro r k2 j2 hk2 ⟨c2, rfl, F2, P2⟩
      have P1 := P1.ext F2 hk2
      have T2 := T2.ext F2 hk2
      have T1 := (T1.ext F1 hk1).ext F2 hk2
      have hcc := bcompare_ev (forms x) (forms y) _ _ _ _ k2 j2 P1.slb P2.slb rfl rfl
      rw [forms_cmp x y kx ky] at hcc
      repeat' (first | refine stpS ?_ | (refine stp2 ?_ ?_ <;> intro _))
      refine RS.call1 rfl opds hcc none'W ?_
      repeat' (first | refine stpS ?_ | (refine stp2 ?_ ?_ <;> intro _))
      refine RS.call1 rfl opds (slcompare_ev x y _ _ _ _ k2 j2 T1 T2 rfl rfl (by omega)) none'W ?_
      repeat' (first | refine stpS ?_ | (refine stp2 ?_ ?_ <;> intro _))
      rfl
  · rw [if_neg hf1] at hV3 ⊢
    repeat' (first | refine stpS ?_ | (refine stp2 ?_ ?_ <;> intro _))
    have T1 := SA.ext hE3 (by omega : n ≤ n3)
    have T2 := SB.ext hE3 (by omega : n ≤ n3)
    refine RS.call rfl opds (row_rf x xa x.length n3 h3 T1 kx rfl lx) none'W ?_
    rintro r k1 j1 hk1 ⟨c1, rfl, F1, P1⟩
    have T2 := T2.ext F1 hk1
    repeat' (first | refine stpS ?_ | (refine stp2 ?_ ?_ <;> intro _))
    refine RS.call rfl opds (row_rf y ya y.length k1 j1 T2 ky rfl ly) none'W ?_
    rintro r k2 j2 hk2 ⟨c2, rfl, F2, P2⟩
    have P1 := P1.ext F2 hk2
    have T2 := T2.ext F2 hk2
    have T1 := (T1.ext F1 hk1).ext F2 hk2
    have hcc := bcompare_ev (forms x) (forms y) _ _ _ _ k2 j2 P1.slb P2.slb rfl rfl
    rw [forms_cmp x y kx ky] at hcc
    repeat' (first | refine stpS ?_ | (refine stp2 ?_ ?_ <;> intro _))
    refine RS.call1 rfl opds hcc none'W ?_
    repeat' (first | refine stpS ?_ | (refine stp2 ?_ ?_ <;> intro _))
    refine RS.call1 rfl opds (slcompare_ev x y _ _ _ _ k2 j2 T1 T2 rfl rfl (by omega)) none'W ?_
    repeat' (first | refine stpS ?_ | (refine stp2 ?_ ?_ <;> intro _))
    rfl
end Go.Proofs.YtflhhipemmlgpaaDoor

/- How much the arguments hold (from disk). -/
namespace Go.Proofs.YtflhhipemmlgpaaDoor
open Go.Abs

section
def i64 (x : Int) : Prop := -9223372036854775808 ≤ x ∧ x ≤ 9223372036854775807
variable {H : Type}
theorem bulk_one (d : DataW H) : 1 ≤ Rows.uptoBulk d := by
  cases d with
  | lit l => cases l <;> simp [Rows.uptoBulk]
  | _ => simp [Rows.uptoBulk]
theorem bulk_mem {d : DataW H} {l : List (DataW H)} (h : d ∈ l) : Rows.uptoBulk d ≤ Rows.uptoBulkAll l := by
  induction l with
  | nil => cases h
  | cons x r ih =>
    simp only [Rows.uptoBulkAll]
    rcases List.mem_cons.1 h with e | e
    · subst e; omega
    · have := ih e; omega
theorem bulk_len (l : List (DataW H)) : l.length ≤ Rows.uptoBulkAll l := by
  induction l with
  | nil => simp
  | cons x r ih => have := bulk_one x; simp only [Rows.uptoBulkAll, List.length_cons]; omega
theorem bulk_elems {d : DataW H} {elems spare : List (DataW H)} (h : (d = .nil ∧ elems = []) ∨ d = .slice elems spare) : elems.length ≤ Rows.uptoBulk d := by
  rcases h with ⟨_, rfl⟩ | rfl
  · simp
  · have := bulk_len elems
    simp only [Rows.uptoBulk]; omega
theorem bulk_elem {d x : DataW H} {elems spare : List (DataW H)} (h : (d = .nil ∧ elems = []) ∨ d = .slice elems spare) (hx : x ∈ elems) : Rows.uptoBulk x ≤ Rows.uptoBulk d := by
  rcases h with ⟨_, rfl⟩ | rfl
  · cases hx
  · have := bulk_mem hx
    simp only [Rows.uptoBulk]; omega
theorem bulk_part {x : DataW H} {parts : List (DataW H)} (hx : x ∈ parts) : Rows.uptoBulk x ≤ Rows.uptoBulk (.agg parts) := by
  have := bulk_mem hx
  simp only [Rows.uptoBulk]; omega
variable {h : AH} {n : Nat} {d : DataW H} {a : Value}
theorem int_of {x : Int} (w : (Lit.int .i64 x).wf = true) : i64 x := by
  simp [Lit.wf, IntKind.min, IntKind.max, IntKind.signed, IntKind.bits] at w
  exact ⟨w.1, by omega⟩
end
end Go.Proofs.YtflhhipemmlgpaaDoor

/- Contracts of the document's reader. -/
namespace Go.Proofs.YtflhhipemmlgpaaDoor
open Go.Abs

/-- The document's reader: the block w, what is left, b, at a. -/
structure RfR (h : AH) (n0 n w : Nat) (a : Option Addr) (b : List UInt8) : Prop where
  lo : n0 ≤ w
  hi : w < n
  inf : h.info w = some ⟨1, 0, true, 0⟩
  sl : h.cell w 0 = .slice a b.length b.length
  bs : SlB h n a b
  ne : a = none ∨ sb a ≠ w
  le : b.length ≤ 1073741824
theorem RfR.extW {W : Nat → Prop} {h h1 : AH} {n0 n n1 w : Nat} {a : Option Addr} {b : List UInt8} (R : RfR h n0 n w a b) (E : ExtW W n h h1) (hn : n ≤ n1) (hw : ¬ W w) (ha : a ≠ none → ¬ W (sb a)) : RfR h1 n0 n1 w a b :=
  ⟨R.lo, Nat.lt_of_lt_of_le R.hi hn, (E.info w R.hi hw).trans R.inf, (E.cell w 0 R.hi hw).trans R.sl, SlR.extW R.bs E hn ha, R.ne, R.le⟩
theorem RfR.ext {h h1 : AH} {n0 n n1 w : Nat} {a : Option Addr} {b : List UInt8} (R : RfR h n0 n w a b) (E : Ext n h h1) (hn : n ≤ n1) : RfR h1 n0 n1 w a b :=
  R.extW (W := none') (ExtW.of E (Nat.le_refl _)) hn (fun q => q) (fun _ q => q)
def RfTo (w : Nat) (a : Option Addr) (b' : List UInt8) (n0 n : Nat) (h : AH) (n' : Nat) (h' : AH) : Prop :=
  ∃ a', RfR h' n0 n' w a' b' ∧ ExtW (· = w) n h h' ∧ (a' = none ∨ a ≠ none ∧ sb a' = sb a)
theorem RfR.cut {h : AH} {n0 n w k : Nat} {a : Option Addr} {b : List UInt8} (R : RfR h n0 n w a b) (hk : k ≤ b.length) : RfR (h.app (.sets w 0 [.slice (sub a k) (b.length - k) (b.length - k)])) n0 n w (sub a k) (b.drop k) := by
  obtain ⟨hlo, hhi, hinf, hsl, hS, hne, hle⟩ := R
  have hdl : (b.drop k).length = b.length - k := List.length_drop
  have hs2 : sub a k = none ∨ sb (sub a k) ≠ w := by
    rcases sub_sb a k with q | q
    · exact .inl q
    · right; rw [q.2]; exact hne.resolve_left q.1
  refine ⟨hlo, hhi, i_sets hinf, by rw [hdl]; exact cell, ?_, hs2, by omega⟩
  have hS2 := SlB.cut hS hk (Nat.le_refl _)
  rw [List.take_length] at hS2
  exact SlR.extW (W := (· = w)) hS2 ((ExtW.refl _ _ _).appSets (.inl rfl)) (Nat.le_refl _) fun q1 q2 => hs2.elim q1 fun k => k q2
theorem pI_k (b : List UInt8) : (pI b).2.1 ≤ b.length := by
  rcases pI_err b with q | q
  · exact (pI_ok (b := b) (n := (pI b).1) (k := (pI b).2.1) (by rw [← q])).2.2.2.1
  · omega
theorem pB_k (b : List UInt8) : (pB b).2.1 ≤ b.length := by
  rcases pB_err b with q | q
  · exact (pB_ok (b := b) (l := (pB b).1) (k := (pB b).2.1) (by rw [← q])).1
  · omega
set_option maxHeartbeats 4000000 in
theorem refRInt_rf (w : Nat) (a : Option Addr) (b : List UInt8) (n0 n : Nat) (h : AH) (R : RfR h n0 n w a b) :
    RF Tryd.prog (· = w) 36 #[.pointer (some ⟨w, 0, none⟩)] n h (fun r n' h' => r = .tuple #[.int .i64 (pI b).1, .int .i64 ((pI b).2.2 : Nat)] ∧ RfTo w a (b.drop (pI b).2.1) n0 n h n' h') := by
  refine RF.of Tryd.func36 rfl rfl (Nat.le_of_ble_eq_true rfl) ?_; dsimp only [argEnv]
  have hk := pI_k b
  have hR2 := R.cut hk
  obtain ⟨hlo, hhi, hinf, hsl, hS, hne, hle⟩ := R
  repeat' (first | refine stpS ?_ | (refine stp2 ?_ ?_ <;> intro _))
  refine RS.call1 rfl opds (parseInt_ev b a _ _ _ hS rfl (by omega)) none'W ?_
  unfold pIV
  repeat' (first | refine stpS ?_ | (refine stp2 ?_ ?_ <;> intro _))
  rw [Int.toNat_natCast]
  exact ⟨rfl, _, hR2, (ExtW.refl _ _ _).appSets (.inl rfl), sub_sb a _⟩
set_option maxHeartbeats 4000000 in
theorem refRFlag_rf (w : Nat) (a : Option Addr) (b : List UInt8) (n0 n : Nat) (h : AH) (R : RfR h n0 n w a b) :
    RF Tryd.prog (· = w) 37 #[.pointer (some ⟨w, 0, none⟩)] n h (fun r n' h' => r = .tuple #[.bool (pF b).1, .int .i64 ((pF b).2.2 : Nat)] ∧ RfTo w a (b.drop (pF b).2.1) n0 n h n' h') := by
  refine RF.of Tryd.func37 rfl rfl (Nat.le_of_ble_eq_true rfl) ?_; dsimp only [argEnv]
  have hk := pI_k b
  have hR2 := R.cut hk
  have R0 := R
  obtain ⟨hlo, hhi, hinf, hsl, hS, hne, hle⟩ := R
  repeat' (first | refine stpS ?_ | (refine stp2 ?_ ?_ <;> intro _))
  refine RS.call1 rfl opds (parseInt_ev b a _ _ _ hS rfl (by omega)) none'W ?_
  unfold pIV
  have hF : pF b = pF b := rfl
  conv at hF => rhs; unfold pF
  by_cases q : (pI b).2.2 = 0
  · rw [if_pos q] at hF
    by_cases q0 : (pI b).1 = 0
    · rw [if_pos (.inl q0)] at hF
      rw [q, q0]
      repeat' (first | refine stpS ?_ | (refine stp2 ?_ ?_ <;> intro _))
      rw [Int.toNat_natCast, hF, q0]
      exact ⟨rfl, _, hR2, (ExtW.refl _ _ _).appSets (.inl rfl), sub_sb a _⟩
    · by_cases q1 : (pI b).1 = 1
      · rw [if_pos (.inr q1)] at hF
        rw [q, q1]
        repeat' (first | refine stpS ?_ | (refine stp2 ?_ ?_ <;> intro _))
        rw [Int.toNat_natCast, hF, q1]
        exact ⟨rfl, _, hR2, (ExtW.refl _ _ _).appSets (.inl rfl), sub_sb a _⟩
      · rw [if_neg (by omega)] at hF
        rw [q]
        repeat' (first | refine stpS ?_ | (refine stp2 ?_ ?_ <;> intro _))
        rw [hF]
        exact ⟨rfl, a, R0, ExtW.refl _ _ _, self_sb a⟩
  · rw [if_neg q] at hF
    repeat' (first | refine stpS ?_ | (refine stp2 ?_ ?_ <;> intro _))
    rw [hF]
    exact ⟨rfl, a, R0, ExtW.refl _ _ _, self_sb a⟩
def RfBTo (x : PB) (w : Nat) (a : Option Addr) (b' : List UInt8) (n0 n : Nat) (h : AH) (r : Value) (n' : Nat) (h' : AH) : Prop :=
  ∃ c, r = .tuple #[.slice c x.1.length x.1.length, .int .i64 (x.2.2 : Nat)] ∧ RfTo w a b' n0 n h n' h' ∧ OwnSl h' n n' c 1 x.1.length (bytesV x.1)
set_option maxHeartbeats 4000000 in
theorem refRBytes_rf (w : Nat) (a : Option Addr) (b : List UInt8) (n0 n : Nat) (h : AH) (R : RfR h n0 n w a b) :
    RF Tryd.prog (· = w) 38 #[.pointer (some ⟨w, 0, none⟩)] n h (RfBTo (pB b) w a (b.drop (pB b).2.1) n0 n h) := by
  refine RF.of Tryd.func38 rfl rfl (Nat.le_of_ble_eq_true rfl) ?_; dsimp only [argEnv]
  have hk := pB_k b
  have R0 := R
  obtain ⟨hlo, hhi, hinf, hsl, hS, hne, hle⟩ := R
  repeat' (first | refine stpS ?_ | (refine stp2 ?_ ?_ <;> intro _))
  refine RS.call rfl opds (parseBytes_rf b a _ _ _ hS rfl (by omega)) none'W ?_
  rintro r n1 h1 hle1 ⟨c, rfl, hE, hO⟩
  have R1 := R0.ext hE hle1
  have hR2 := R1.cut hk
  obtain ⟨-, hhi1, hinf1, hsl1, hS1, -, -⟩ := R1
  have hcw : c = none ∨ sb c ≠ w := hO.at'.imp_right fun k => by omega
  repeat' (first | refine stpS ?_ | (refine stp2 ?_ ?_ <;> intro _))
  rw [Int.toNat_natCast]
  exact ⟨c, rfl, ⟨_, hR2, (ExtW.of hE (Nat.le_refl _)).appSets (.inl rfl), sub_sb a _⟩, hO.setsN hcw⟩
end Go.Proofs.YtflhhipemmlgpaaDoor

/- Contracts of codec's laws: a piece's form, and how it is written. -/
namespace Go.Proofs.YtflhhipemmlgpaaDoor
open Go.Abs

/-- A piece. -/
structure Pc where
  w : Int
  v : Int
  s : List UInt8
def Pc.cells (x : Pc) : List Value := [.int .u8 x.w, .int .i64 x.v, .string ⟨x.s.toArray⟩]
structure Pc.Ok (x : Pc) (m : Nat) : Prop where
  w0 : 0 ≤ x.w
  w1 : x.w < 256
  v0 : -9223372036854775808 ≤ x.v
  v1 : x.v < 9223372036854775808
  sl : x.s.length ≤ m
def Pc.v_ (x : Pc) : Value := .agg x.cells.toArray
/-- A piece's form. -/
def Pc.fm (x : Pc) : List UInt8 := if x.w % 4 = 0 then form x.v else if x.w % 4 = 3 then form (x.v % 2) else formB x.s
theorem formB_le (l : List UInt8) : (formB l).length ≤ 2 * l.length + 2 := by
  unfold formB
  have := esc_le l
  rw [List.length_append]
  show _ + 2 ≤ _
  omega
theorem Pc.fm_le {x : Pc} {m : Nat} (ok : x.Ok m) : x.fm.length ≤ 2 * m + 9 := by
  unfold Pc.fm
  have h1 := form_le x.v ok.v0 ok.v1
  have h2 := form_le (x.v % 2) (by omega) (by omega)
  have h3 := formB_le x.s
  have := ok.sl
  split
  · omega
  · split <;> omega
theorem slbs_new (u : ByteArray) (n : Nat) (h : AH) : SlB (h.app (.new n ⟨(bytesV u.data.toList).length, 0, true, 1⟩ (bytesV u.data.toList))) (n + 1) (some ⟨n, 0, none⟩) u.data.toList := by
  have e : (bytesV u.data.toList).length = u.data.toList.length := bytesV_length _
  rw [e]; exact slb_new _ _ _
set_option maxHeartbeats 4000000 in
theorem pform_rf (x : Pc) (m n : Nat) (h : AH) (ok : x.Ok m) (hm : m ≤ 1073741824) :
    RF Tryd.prog none' 24 #[x.v_] n h (Row x.fm n h) := by
  refine RF.of Tryd.func24 rfl rfl (Nat.le_of_ble_eq_true rfl) ?_; dsimp only [argEnv]
  obtain ⟨w0, w1, v0, v1, sl⟩ := ok
  unfold Pc.v_ Pc.cells
  have hF : x.fm = x.fm := rfl
  conv at hF => rhs; unfold Pc.fm
  by_cases q0 : x.w % 4 = 0
  · rw [if_pos q0] at hF
    repeat' (first | refine stpS ?_ | (refine stp2 ?_ ?_ <;> intro _))
    refine RS.call rfl opds (refInt_rf x.v v0 v1 _ _) none'W ?_
    rintro r n1 h1 hle ⟨a, rfl, hE, hO⟩
    repeat' (first | refine stpS ?_ | (refine stp2 ?_ ?_ <;> intro _))
    rw [hF]
    exact ⟨a, rfl, ext, hO.mono (Nat.le_succ n)⟩
  · rw [if_neg q0] at hF
    by_cases q3 : x.w % 4 = 3
    · rw [if_pos q3] at hF
      repeat' (first | refine stpS ?_ | (refine stp2 ?_ ?_ <;> intro _))
      refine RS.put rfl rfl (o_and1 opd opd v0 v1) ?_
      repeat' (first | refine stpS ?_ | (refine stp2 ?_ ?_ <;> intro _))
      refine RS.call rfl opds (refInt_rf (x.v % 2) (by omega) (by omega) _ _) none'W ?_
      rintro r n1 h1 hle ⟨a, rfl, hE, hO⟩
      repeat' (first | refine stpS ?_ | (refine stp2 ?_ ?_ <;> intro _))
      rw [hF]
      exact ⟨a, rfl, ext, hO.mono (Nat.le_succ n)⟩
    · rw [if_neg q3] at hF
      repeat' (first | refine stpS ?_ | (refine stp2 ?_ ?_ <;> intro _))
      refine RS.gen (fun g => SlB g (n + 1 + 1) (some ⟨n + 1, 0, none⟩) x.s ∧ Ext n h g) ⟨slbs_new ⟨x.s.toArray⟩ _ _, ext⟩ ?_
      rintro g ⟨hS, hG⟩
      refine RS.call rfl opds (refBytes_rf x.s _ _ _ g hS (by simp [ByteArray.size]) (by simp [ByteArray.size]; omega)) none'W ?_
      rintro r n1 h1 hle ⟨a, rfl, hE, hO⟩
      repeat' (first | refine stpS ?_ | (refine stp2 ?_ ?_ <;> intro _))
      rw [hF]
      exact ⟨a, rfl, ext, hO.mono (by omega)⟩
set_option maxHeartbeats 4000000 in
theorem pto_rf (x : Pc) (m w : Nat) (a : Option Addr) (b : List UInt8) (n0 n : Nat) (h : AH) (R : WrR h n0 n w a b) (ok : x.Ok m) (hm : m ≤ 1073741824) :
    RF Tryd.prog (inW w a) 25 #[x.v_, .pointer (some ⟨w, 0, none⟩)] n h (WrTo w a b x.fm n0 n h) := by
  refine RF.of Tryd.func25 rfl rfl (Nat.le_of_ble_eq_true rfl) ?_; dsimp only [argEnv]
  obtain ⟨w0, w1, v0, v1, sl⟩ := ok
  unfold Pc.v_ Pc.cells
  have hsz : (⟨x.s.toArray⟩ : ByteArray).size = x.s.length := by simp [ByteArray.size]
  have hF : x.fm = x.fm := rfl
  conv at hF => rhs; unfold Pc.fm
  have fin : ∀ {y : List UInt8} {r : Value} {n1 : Nat} {h1 : AH} {g : AH} {k : Nat}, n ≤ k → Ext n h g → WrTo w a b y n0 k g r n1 h1 → x.fm = y → WrTo w a b x.fm n0 n h r n1 h1 := by
    rintro y r n1 h1 g k hk hG ⟨a', q1, q2, q3, q4⟩ e
    rw [e]
    exact ⟨a', q1, q2, q3.via hk (fun _ _ k => k) (ExtW.of hG (Nat.le_refl _)), q4.imp_right fun q => by omega⟩
  by_cases q0 : x.w % 4 = 0
  · rw [if_pos q0] at hF
    repeat' (first | refine stpS ?_ | (refine stp2 ?_ ?_ <;> intro _))
    refine RS.gen (fun g => Ext n h g) ext ?_
    rintro g hG
    refine RS.call rfl opds (wInt_rf w a b x.v v0 v1 n0 (n + 1) g (R.ext hG (Nat.le_succ n))) (fun x hx => .inl hx) ?_
    rintro r n1 h1 hle ht
    obtain ⟨a', rfl, -, -, -⟩ := id ht
    repeat' (first | refine stpS ?_ | (refine stp2 ?_ ?_ <;> intro _))
    exact fin (Nat.le_succ n) hG ht hF
  · rw [if_neg q0] at hF
    by_cases q3 : x.w % 4 = 3
    · rw [if_pos q3] at hF
      repeat' (first | refine stpS ?_ | (refine stp2 ?_ ?_ <;> intro _))
      refine RS.put rfl rfl (o_and1 opd opd v0 v1) ?_
      by_cases hodd : x.v % 2 = 1
      · rw [hodd] at hF
        repeat' (first | refine stpS ?_ | (refine stp2 ?_ ?_ <;> intro _))
        refine RS.gen (fun g => Ext n h g) ext ?_
        rintro g hG
        refine RS.call rfl opds (wFlag_rf w a b true n0 (n + 1) g (R.ext hG (Nat.le_succ n))) (fun x hx => .inl hx) ?_
        rintro r n1 h1 hle ht
        obtain ⟨a', rfl, -, -, -⟩ := id ht
        repeat' (first | refine stpS ?_ | (refine stp2 ?_ ?_ <;> intro _))
        exact fin (Nat.le_succ n) hG ht hF
      · rw [show x.v % 2 = 0 by omega] at hF
        repeat' (first | refine stpS ?_ | (refine stp2 ?_ ?_ <;> intro _))
        refine RS.gen (fun g => Ext n h g) ext ?_
        rintro g hG
        refine RS.call rfl opds (wFlag_rf w a b false n0 (n + 1) g (R.ext hG (Nat.le_succ n))) (fun x hx => .inl hx) ?_
        rintro r n1 h1 hle ht
        obtain ⟨a', rfl, -, -, -⟩ := id ht
        repeat' (first | refine stpS ?_ | (refine stp2 ?_ ?_ <;> intro _))
        exact fin (Nat.le_succ n) hG ht hF
    · rw [if_neg q3] at hF
      by_cases q1 : x.w % 4 = 1
      · repeat' (first | refine stpS ?_ | (refine stp2 ?_ ?_ <;> intro _))
        refine RS.gen (fun g => SlB g (n + 1 + 1) (some ⟨n + 1, 0, none⟩) x.s ∧ Ext n h g) ⟨slbs_new ⟨x.s.toArray⟩ _ _, ext⟩ ?_
        rintro g ⟨hS, hG⟩
        refine RS.call rfl opds (wBytes_rf w a _ b x.s _ n0 _ g (R.ext hG (by omega)) hS hsz (by omega)) (fun x hx => .inl hx) ?_
        rintro r n1 h1 hle ht
        obtain ⟨a', rfl, -, -, -⟩ := id ht
        repeat' (first | refine stpS ?_ | (refine stp2 ?_ ?_ <;> intro _))
        exact fin (by omega) hG ht hF
      · repeat' (first | refine stpS ?_ | (refine stp2 ?_ ?_ <;> intro _))
        refine RS.gen (fun g => Ext n h g) ext ?_
        rintro g hG
        refine RS.call rfl opds (wText_rf w a b ⟨x.s.toArray⟩ n0 (n + 1) g (R.ext hG (Nat.le_succ n)) (by omega)) (fun x hx => .inl hx) ?_
        rintro r n1 h1 hle ht
        obtain ⟨a', rfl, -, -, -⟩ := id ht
        repeat' (first | refine stpS ?_ | (refine stp2 ?_ ?_ <;> intro _))
        exact fin (by omega) hG ht (by rw [hF])
end Go.Proofs.YtflhhipemmlgpaaDoor

/- What the arguments of the codec's laws read as. -/
namespace Go.Proofs.YtflhhipemmlgpaaDoor
open Go.Abs Go.RowKit

structure PcsR (h : AH) (n : Nat) (a : Option Addr) (L : List Pc) (m : Nat) : Prop where
  shp : Shp h n a 3 L.length
  at_ : ∀ (i : Nat) (x : Pc), L[i]? = some x → (h.cell (sb a) (so a + i * 3) = .int .u8 x.w ∧ h.cell (sb a) (so a + i * 3 + 1) = .int .i64 x.v ∧ h.cell (sb a) (so a + i * 3 + 2) = .string ⟨x.s.toArray⟩) ∧ x.Ok m
theorem PcsR.ext {h h' : AH} {n n' m : Nat} {a : Option Addr} {L : List Pc} (B : PcsR h n a L m) (E : Ext n h h') (hn : n ≤ n') : PcsR h' n' a L m := by
  refine ⟨B.shp.ext E hn, fun i x hx => ?_⟩
  obtain ⟨⟨h0, h1, h2⟩, ok⟩ := B.at_ i x hx
  have hi : i < L.length := (List.getElem?_eq_some_iff.1 hx).1
  have hb : sb a < n := B.shp.lt (by omega)
  exact ⟨⟨(E.cell _ _ hb).trans h0, (E.cell _ _ hb).trans h1, (E.cell _ _ hb).trans h2⟩, ok⟩
section
variable {H : Type} {h : AH} {n : Nat} {d : DataW H} {a : Value}
set_option maxRecDepth 100000 in
theorem pc_cells {cs : List Value} (r : RepD Tryd.prog h 43 cs d) : ∃ x : Pc, cs = x.cells ∧ x.Ok (Rows.uptoBulk d) := by
  obtain ⟨parts, rfl, h1, h2, h3⟩ := r.struct_ Tryd.underlying43
  have h1 : cs.length = 3 := h1
  match parts, h2 with
  | [d1, d2, d3], _ =>
    match cs, h1 with
    | [c1, c2, c3], _ =>
      have r1 := h3 0 _ d1 rfl rfl
      have r2 := h3 1 _ d2 rfl rfl
      have r3 := h3 2 _ d3 rfl rfl
      obtain ⟨N1, e1, _, w1⟩ := RepD.int_ Tryd.underlying5 r1
      obtain ⟨N2, e2, _, w2⟩ := RepD.int_ Tryd.underlying2 r2
      obtain ⟨l3, e3, q3⟩ := RepD.str_ Tryd.underlying9 r3
      have e1' : [c1] = [.int .u8 N1] := e1
      have e2' : [c2] = [.int .i64 N2] := e2
      have e3' : [c3] = [.string ⟨l3.toArray⟩] := e3
      cases e1'; cases e2'; cases e3'
      have k3 : Rows.uptoBulk d3 ≤ Rows.uptoBulk (.agg [d1, d2, d3]) := bulk_part (by simp)
      have k4 : l3.length ≤ Rows.uptoBulk d3 := by rw [q3]; simp [Rows.uptoBulk]
      have i2 := int_of w2
      simp [Lit.wf, IntKind.min, IntKind.max, IntKind.signed, IntKind.bits] at w1
      exact ⟨⟨N1, N2, l3⟩, rfl, w1.1, by dsimp only; omega, i2.1, by have := i2.2; dsimp only; omega, by dsimp only; omega⟩
set_option maxRecDepth 100000 in
theorem pc_arg (r : RepA Tryd.prog h 43 a d) : ∃ x : Pc, a = .agg x.cells.toArray ∧ x.Ok (Rows.uptoBulk d) := by
  obtain ⟨cs, rfl, r'⟩ := RepA.agg Tryd.underlying43 r
  obtain ⟨x, rfl, ok⟩ := pc_cells r'
  exact ⟨x, rfl, ok⟩
set_option maxRecDepth 100000 in
theorem pcs_arg (lo : Low n h) (r : RepA Tryd.prog h 41 a d) : ∃ (c : Option Addr) (L : List Pc), a = .slice c L.length L.length ∧ PcsR h n c L (Rows.uptoBulk d) ∧ L.length ≤ Rows.uptoBulk d := by
  obtain ⟨c, L, elems, spare, e1, e2, e3, S, hx⟩ := RepD.list_ (fun cs d (x : Pc) => cs = x.cells ∧ x.Ok (Rows.uptoBulk d)) lo Tryd.underlying41 (fun cs d r => pc_cells r) (RepA.one Tryd.underlying41 (by intro fs h; cases h) r)
  cases e1
  have hz : Tryd.prog.cellsOf 43 = 3 := by kernel_rfl
  rw [hz] at S hx
  have k1 := bulk_elems e2
  refine ⟨c, L, rfl, ⟨Shp.of S, fun i x hi => ?_⟩, by omega⟩
  obtain ⟨d', hd, q1, q2⟩ := hx i x hi
  have kb := bulk_elem e2 (List.mem_of_getElem? hd)
  simp only [elC, List.range_succ, List.range_zero, List.nil_append, List.map_append, List.map_cons, List.map_nil, List.cons_append, Pc.cells, List.cons.injEq, and_true] at q1
  exact ⟨q1, q2.w0, q2.w1, q2.v0, q2.v1, by have := q2.sl; omega⟩
set_option maxRecDepth 100000 in
theorem u16_arg (r : RepA Tryd.prog h 24 a d) : ∃ x : Nat, a = .int .u16 x ∧ x < 65536 := by
  obtain ⟨x, h1, _, w⟩ := RepD.int_ Tryd.underlying24 (RepA.one Tryd.underlying24 (by intro fs h; cases h) r)
  cases h1
  simp [Lit.wf, IntKind.min, IntKind.max, IntKind.signed, IntKind.bits] at w
  refine ⟨x.toNat, by rw [Int.toNat_of_nonneg w.1], by omega⟩
set_option maxRecDepth 100000 in
theorem i64_arg (r : RepA Tryd.prog h 2 a d) : ∃ x : Int, a = .int .i64 x ∧ -9223372036854775808 ≤ x ∧ x < 9223372036854775808 := by
  obtain ⟨x, h1, _, w⟩ := RepD.int_ Tryd.underlying2 (RepA.one Tryd.underlying2 (by intro fs h; cases h) r)
  cases h1
  have := int_of w
  exact ⟨x, rfl, this.1, by have := this.2; omega⟩
set_option maxRecDepth 100000 in
theorem str_arg (r : RepA Tryd.prog h 9 a d) : ∃ l : List UInt8, a = .string ⟨l.toArray⟩ ∧ l.length ≤ Rows.uptoBulk d := by
  obtain ⟨l, h1, h2⟩ := RepD.str_ Tryd.underlying9 (RepA.one Tryd.underlying9 (by intro fs h; cases h) r)
  cases h1
  exact ⟨l, rfl, by rw [h2]; simp [Rows.uptoBulk]⟩
set_option maxRecDepth 100000 in
theorem bytes_arg (lo : Low n h) (r : RepA Tryd.prog h 23 a d) : ∃ (b : Option Addr) (l : List UInt8), a = .slice b l.length l.length ∧ SlB h n b l ∧ l.length ≤ Rows.uptoBulk d := by
  obtain ⟨b, l, elems, spare, e2, e3, e4, S⟩ := RepD.bytes_ lo Tryd.underlying23 Tryd.underlying5 (by kernel_rfl) (RepA.one Tryd.underlying23 (by intro fs h; cases h) r)
  cases e2
  have k1 := bulk_elems e3
  exact ⟨b, l, rfl, S, by omega⟩
set_option maxRecDepth 100000 in
theorem ints_arg (lo : Low n h) (r : RepA Tryd.prog h 22 a d) : ∃ (b : Option Addr) (l : List Int), a = .slice b l.length l.length ∧ SlN h n b .i64 l ∧ In64 l ∧ l.length ≤ Rows.uptoBulk d := by
  obtain ⟨b, l, elems, spare, e2, e3, e4, S, w⟩ := RepD.ints_ lo Tryd.underlying22 Tryd.underlying2 (by kernel_rfl) (RepA.one Tryd.underlying22 (by intro fs h; cases h) r)
  cases e2
  have k1 := bulk_elems e3
  exact ⟨b, l, rfl, S, fun v hv => by have := int_of (w v hv); exact ⟨this.1, by have := this.2; omega⟩, by omega⟩
end
end Go.Proofs.YtflhhipemmlgpaaDoor

/- CodecOrder, over its arguments. -/
namespace Go.Proofs.YtflhhipemmlgpaaDoor
open Go.Abs Go.RowKit
set_option maxRecDepth 100000 in
theorem bodyCodecOrder {H : Type} {h : AH} {n : Nat} {vs : List Value} {ds : List (DataW H)} (lo : Low n h) (hn : 0 < n) (hr : RepArgs Tryd.prog h [22, 22, 9, 9] vs ds) (hb : Rows.uptoBulkAll ds ≤ 1048576) :
    ∃ n' h', Ev Tryd.prog none' 7 vs.toArray n h (.bool true) n' h' := by
  obtain ⟨a0, d0, vs, ds, rfl, rfl, r0, hr⟩ := hr.cons_
  obtain ⟨a1, d1, vs, ds, rfl, rfl, r1, hr⟩ := hr.cons_
  obtain ⟨a2, d2, vs, ds, rfl, rfl, r2, hr⟩ := hr.cons_
  obtain ⟨a3, d3, vs, ds, rfl, rfl, r3, hr⟩ := hr.cons_
  obtain ⟨rfl, rfl⟩ := hr.nil_
  obtain ⟨a_x, x, rfl, S_x, k_x, l_x⟩ := ints_arg lo r0
  obtain ⟨a_y, y, rfl, S_y, k_y, l_y⟩ := ints_arg lo r1
  obtain ⟨s, rfl, l_s⟩ := str_arg r2
  obtain ⟨t, rfl, l_t⟩ := str_arg r3
  simp only [Rows.uptoBulkAll] at hb
  obtain ⟨r, n', h', e, rfl⟩ := law_CodecOrder x y a_x a_y s t n h S_x S_y k_x k_y (by omega) (by omega) (by omega) (by omega)
  exact ⟨n', h', e⟩
end Go.Proofs.YtflhhipemmlgpaaDoor
