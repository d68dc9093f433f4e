/- Contracts and laws that a statement of this seat is proved by (part 7). -/
import Derived.Test.YtfbddbpbifnhfaaDoorC06
set_option linter.unusedSimpArgs false
set_option linter.unusedVariables false
/- WalDamage, over plain arguments. -/
namespace Go.Proofs.YtfbddbpbifnhfaaDoor
open Go.Abs Cd

def endsOf (L : List (List (List UInt8))) : List Nat := (List.range L.length).map fun j => (logB 1 0 (L.take (j + 1))).length
theorem endsOf_snoc (L : List (List (List UInt8))) (l : List (List UInt8)) : endsOf (L ++ [l]) = endsOf L ++ [(logB 1 0 (L ++ [l])).length] := by
  unfold endsOf
  rw [List.length_append, List.length_singleton, List.range_succ, List.map_append]
  congr 1
  · apply List.map_congr_left
    intro j hj
    have := List.mem_range.1 hj
    rw [List.take_append_of_le_length (by omega)]
  · rw [List.map_singleton, List.take_of_length_le (by rw [List.length_append, List.length_singleton]; exact Nat.le_refl _)]
def psB (i : Nat) : Nat := i * 1000000
theorem psB_succ (i : Nat) : psB (i + 1) = psB i + 1000000 := by unfold psB; rw [Nat.add_mul, Nat.one_mul]
theorem psB_le {i : Nat} (h : i ≤ 12) : psB i ≤ 12000000 := by
  unfold psB
  exact Nat.mul_le_mul_right 1000000 h
set_option maxHeartbeats 4000000 in
theorem law_WalDamage (c : Option Addr) (L : List OpE) (at_ bits m n : Nat) (h : AH) (B : OpsRep h n c L m) (hL : L.length ≤ 1048576) (hm : m ≤ 1048576) (ha : at_ < 4294967296) (hb : bits < 4294967296) (hn0 : 0 < n) :
    RF Tryd.prog none' 4 #[.slice c L.length L.length, .int .u32 (at_ : Nat), .int .u32 (bits : Nat)] n h (fun r _ _ => r = .bool true) := by
  refine RF.of Tryd.func4 rfl rfl (Nat.le_of_ble_eq_true rfl) ?_; dsimp only [argEnv]
  repeat' (first | refine stpS ?_ | (refine stp2 ?_ ?_ <;> intro _))
  refine RS.call rfl opds (Dk.new_rf n h hn0) none'W ?_
  rintro r n1 h1 k1 ⟨d, F, G, rfl, D, hF, hG, E1⟩
  repeat' (first | refine stpS ?_ | (refine stp2 ?_ ?_ <;> intro _))
  refine RS.call rfl opds (open_rf D 1 (by decide) (by decide) (by omega)) (fun b hb => .inr (hF b hb)) ?_
  rintro r n2 h2 k2 hop
  have h0 : openP Dk.DS.init 1 = (0, ⟨Dk.DS.init, 1, [], 0⟩) := openP_on (on_init 1 (by decide))
  unfold OpTo at hop
  rw [h0] at hop
  rcases hop with ⟨-, lg, T, rfl, R2, hT, e2⟩ | ⟨q, -⟩
  rotate_left
  · exact absurd rfl q
  dsimp only at R2
  have hTn : ∀ b, T b → n ≤ b := fun b hb => by
    by_cases w : b < n1
    · rcases hT b w hb with q | q
      · exact hF b q
      · exact absurd q (hG b)
    · omega
  have E2 : Ext n h h2 := E1.viaW e2 k1 hF
  clear h0 hT e2 E1 D hF hG
  repeat' (first | refine stpS ?_ | (refine stp2 ?_ ?_ <;> intro _))
  refine RS.call rfl opds (begun_rf n2 h2 (by omega)) none'W ?_
  rintro r n3 h3 k3 ⟨rfl, E3⟩
  have D3 : Dm n h lg d T ⟨Dk.DS.init, 1, [], 0⟩ none none [] [] n3 h3 :=
    ⟨by omega, E2.trans (by omega) E3, R2.ext E3 k3, hTn, OwnSl.nil (by omega), OwnSl.nil (by omega), fun q => absurd rfl q, fun q => absurd rfl q, .inl rfl, fun x hx => by cases hx⟩
  have B3 := B.ext (E2.trans (by omega) E3) (by omega : n ≤ n3)
  clear R2 E2 E3 hTn
  repeat' (first | refine stpS ?_ | (refine stp2 ?_ ?_ <;> intro _))
  have hI3 : SlI h3 c 7 L.length := B3.shp.out.imp id (fun q => ⟨q.1, q.2.2⟩)
  obtain ⟨K, hK⟩ : ∃ K : Nat, K = min L.length 12 := ⟨_, rfl⟩
  have hK' : min ((L.length : Nat) : Int) 12 = (K : Nat) := by omega
  rw [hK']
  repeat' (first | refine stpS ?_ | (refine stp2 ?_ ?_ <;> intro _))
  simp only [Int.toNat_natCast]
  refine RC.loop ?_
  refine RL.inv (α := Nat × (Nat → Prop) × LS × Option Addr × Option Addr × List CmA) (fun u => [(46, .int .i64 (u.1 : Nat)), (45, .int .i64 (K : Nat)), (44, .slice c K K), (11, .slice u.2.2.2.2.1 u.2.2.2.2.2.length u.2.2.2.2.2.length), (10, .slice u.2.2.2.1 u.2.2.2.2.2.length u.2.2.2.2.2.length), (8, .pointer (some ⟨lg, 0, none⟩)), (7, .pointer (some ⟨d, 0, none⟩)), (1, .int .u32 (at_ : Nat)), (2, .int .u32 (bits : Nat))])
    (fun u n4 h4 => u.1 ≤ K ∧ n3 ≤ n4 ∧ Dm n h lg d u.2.1 u.2.2.1 u.2.2.2.1 u.2.2.2.2.1 u.2.2.2.2.2 (endsOf u.2.2.1.L) n4 h4 ∧ On u.2.2.1 ∧ u.2.2.1.gen = 1 ∧ u.2.2.2.2.2.map (·.2) = u.2.2.1.L ∧ u.2.2.1.S.ps.length ≤ psB u.1 ∧ u.2.2.1.S.calls ≤ (u.1 * 4 : Nat))
    (fun u => K - u.1) (0, T, ⟨Dk.DS.init, 1, [], 0⟩, none, none, []) envs ⟨Nat.zero_le _, Nat.le_refl _, D3, on_init 1 (by decide), rfl, rfl, Nat.zero_le _, Int.le_refl _⟩ ?_
  clear D3
  rintro ⟨i, T4, X4, aa, ae, N4⟩ n4 h4 ⟨hi, hn4, D4, o4, g4, nl4, ps4, cl4⟩
  dsimp only at hi D4 o4 g4 nl4 ps4 cl4 ⊢
  have ps4' : X4.S.ps.length ≤ 12000000 := Nat.le_trans ps4 (psB_le (by omega))
  by_cases hlt : i < K
  · obtain ⟨x, hx⟩ : ∃ x, L[i]? = some x := ⟨_, List.getElem?_eq_getElem (by omega)⟩
    have B4 := B.ext D4.E D4.hn
    obtain ⟨⟨c0, c1, c2, c3, c4, c5, c6⟩, ok⟩ := B4.at_ i x hx
    have hsn : sb c < n4 := B4.shp.lt (by omega)
    have hA : SlA c K := B4.shp.out.imp (fun q => by omega) (fun q => q.1)
    have ok0 := (B.at_ i x hx).2
    have hme : X4.e ≤ 4194304 := by obtain ⟨_, _, _, _, _, R, -⟩ := D4.R; exact R.me
    have hT4 := D4.R.lt
    obtain ⟨hrows, hrow⟩ := recsOf_row ok0
    have hrl : (recsOf x).length = x.rl.length := by rw [← recsE_snd x none, List.length_map, recsE_len]
    repeat' (first | refine stpS ?_ | (refine stp2 ?_ ?_ <;> intro _))
    obtain ⟨g5, hg⟩ : ∃ g5, g5 = (h4.app (.new n4 ⟨7, 0, true, 0⟩ [.int .i64 0, .slice none 0 0, .int .u16 0, .int .i64 0, .int .u16 0, .int .i64 0, .slice none 0 0])).app (.sets n4 0 [.int .i64 x.do_, .slice x.ra x.rl.length x.rl.length, .int .u16 (x.many : Nat), .int .i64 x.gen, .int .u16 (x.at_ : Nat), .int .i64 x.num, .slice x.ka x.keep.length x.keep.length]) := ⟨_, rfl⟩
    refine RS.heap hg ?_
    have E5 : Ext n4 h4 g5 := by rw [hg]; exact ext
    have y0 : g5.cell n4 0 = .int .i64 x.do_ := by rw [hg]; exact cell
    have y1 : g5.cell n4 1 = .slice x.ra x.rl.length x.rl.length := by rw [hg]; exact cell
    have y2 : g5.cell n4 2 = .int .u16 (x.many : Nat) := by rw [hg]; exact cell
    have y3 : g5.cell n4 3 = .int .i64 x.gen := by rw [hg]; exact cell
    have y4 : g5.cell n4 4 = .int .u16 (x.at_ : Nat) := by rw [hg]; exact cell
    have y5 : g5.cell n4 5 = .int .i64 x.num := by rw [hg]; exact cell
    have y6 : g5.cell n4 6 = .slice x.ka x.keep.length x.keep.length := by rw [hg]; exact cell
    have yi : g5.info n4 = some ⟨7, 0, true, 0⟩ := by rw [hg]; exact info
    clear hg c0 c1 c2 c3 c4 c5 c6
    refine RS.call rfl opds (opRecs_rf x m (n4 + 1) g5 (ok.ext E5 (Nat.le_succ _)) hm) none'W ?_
    rintro r n6 h6 k6 ⟨c6, a6, rfl, E6, RO6⟩
    have D6 := (D4.ext E5 (Nat.le_succ _)).ext E6 k6
    obtain ⟨ad6, S6, hc6, hr6⟩ := RO6.cmr ok0
    have hnT : ∀ b, b < n6 ∧ (n4 + 1 ≤ b ∨ b < n) → ¬ T4 b := fun b q w => by
      have := hT4 b w
      have := D4.Tn b w
      omega
    have hcom := commit_rf D6.R (recsOf x) ad6 c6 S6 (fun q => hnT _ (hc6 q)) (fun j hj q => hnT _ (hr6 j hj q)) (by omega) (fun l hl => by have := hrow l hl; omega) (by omega) (by omega) (by omega)
    rw [hrl] at hcom
    repeat' (first | refine stpS ?_ | (refine stp2 ?_ ?_ <;> intro _))
    rcases commitP_on o4 (recsOf x) hme with ⟨q1, q2, -⟩ | ⟨-, -, S', hcp, o7⟩
    · rw [q2] at hcom
      obtain ⟨code, hcode⟩ : ∃ code, code = (commitP X4 (recsOf x)).1 := ⟨_, rfl⟩
      rw [← hcode] at hcom q1
      refine RS.call rfl opds hcom (fun b hb => .inr (D4.Tn b hb)) ?_
      rintro r n7 h7 k7 ⟨rfl, Q7⟩
      obtain ⟨T7, D7⟩ := D6.log Q7 k7
      dsimp only at D7 ⊢
      repeat' (first | refine stpS ?_ | (refine stp2 ?_ ?_ <;> intro _))
      exact nextC.normal ⟨(i + 1, T7, X4, aa, ae, N4), by dsimp only; omega, envs, by dsimp only; omega, by omega, D7, o4, g4, nl4, by show X4.S.ps.length ≤ psB (i + 1); rw [psB_succ]; omega, by show X4.S.calls ≤ (((i + 1) * 4 : Nat) : Int); omega⟩
    · have hbd := commitP_b X4 (recsOf x) o4.gm o4.le
      rw [hcp] at hcom hbd
      obtain ⟨X7, hX7⟩ : ∃ X7 : LS, X7 = ⟨S', X4.gen, X4.L ++ [recsOf x], X4.e + (512 + (fillB (dataB (recsOf x))).length)⟩ := ⟨_, rfl⟩
      rw [← hX7] at hcom hbd o7
      have g7 : X7.gen = 1 := by rw [hX7]; exact g4
      have L7 : X7.L = X4.L ++ [recsOf x] := by rw [hX7]
      have e7' : X7.e = (logB 1 0 (X4.L ++ [recsOf x])).length := by rw [o7.e, g7, L7]
      clear hX7 hcp
      dsimp only at hcom hbd
      refine RS.call rfl opds hcom (fun b hb => .inr (D4.Tn b hb)) ?_
      rintro r n7 h7 k7 ⟨rfl, Q7⟩
      obtain ⟨-, -, -, e7⟩ := id Q7
      obtain ⟨T7, D7⟩ := D6.log Q7 k7
      have hnn4 : ¬ T4 n4 := fun w => by have := hT4 _ w; omega
      have cc : ∀ {j : Nat} {v : Value}, g5.cell n4 j = v → h7.cell n4 j = v := fun hj => c_extW e7 (by omega) hnn4 (c_ext E6 (Nat.lt_succ_self _) hj)
      have y0 := cc y0
      have y1 := cc y1
      have y2 := cc y2
      have y3 := cc y3
      have y4 := cc y4
      have y5 := cc y5
      have y6 := cc y6
      have ok7 := ((B.ext D7.E D7.hn).at_ i x hx).2
      have hT7 := D7.R.lt
      repeat' (first | refine stpS ?_ | (refine stp2 ?_ ?_ <;> intro _))
      refine RS.call rfl opds (opRecs_rf x m n7 h7 ok7 hm) none'W ?_
      rintro r n8 h8 k8 ⟨c8, a8, rfl, E8, RO8⟩
      have C8 := RO8.cmr ok0
      repeat' (first | refine stpS ?_ | (refine stp2 ?_ ?_ <;> intro _))
      obtain ⟨g9, hg⟩ : ∃ g9, g9 = h8.app (.new n8 ⟨1, 0, true, 1⟩ [.slice c8 x.rl.length x.rl.length]) := ⟨_, rfl⟩
      refine RS.heap hg ?_
      have E9 : Ext n8 h8 g9 := by rw [hg]; exact ext
      have hnew : OwnSl g9 n8 (n8 + 1) (some ⟨n8, 0, none⟩) 1 1 [.slice c8 x.rl.length x.rl.length] := by rw [hg]; exact OwnSl.new (m := 1) (z := 1) (Nat.le_refl _) rfl rfl
      clear hg
      have D9 := (D7.ext E8 k8).ext E9 (Nat.le_succ _)
      have C9 : CmR g9 (n8 + 1) (fun b => b < n8 + 1 ∧ ¬ T7 b ∧ ¬ inA aa b ∧ ¬ inA ae b) c8 (recsOf x) := (C8.extW (ExtW.of E9 (Nat.le_refl _) : ExtW (fun _ => False) n8 h8 g9) (Nat.le_succ _) (fun _ _ q => q)).mono (fun b q => ⟨by omega, fun w => by have := hT7 b w; have := D7.Tn b w; omega, fun w => by have := D7.allO.at'.resolve_left w.1; have := w.2; omega, fun w => by have := D7.endO.at'.resolve_left w.1; have := w.2; omega⟩)
      have hNl : N4.length ≤ 1099511627776 := by
        have h1 : N4.length = X4.L.length := by rw [← nl4, List.length_map]
        rw [h1]; exact o4.le
      refine RS.append rfl opd opd D9.allO hnew.src full_slice (fun b hb => Or.inr (by omega)) (by omega) ?_
      intro aa' n10 h10 k10 O10 X10 w10
      have D10 := D9.pushA C9 X10 k10 (by rw [hrl]; exact O10) w10
      repeat' (first | refine stpS ?_ | (refine stp2 ?_ ?_ <;> intro _))
      refine RS.call1 rfl opds (end_ev' D10.R) none'W ?_
      rw [e7']
      repeat' (first | refine stpS ?_ | (refine stp2 ?_ ?_ <;> intro _))
      obtain ⟨g11, hg⟩ : ∃ g11, g11 = h10.app (.new n10 ⟨1, 0, true, 1⟩ [.int .i64 ((logB 1 0 (X4.L ++ [recsOf x])).length : Nat)]) := ⟨_, rfl⟩
      refine RS.heap hg ?_
      have E11 : Ext n10 h10 g11 := by rw [hg]; exact ext
      have hnew : OwnSl g11 n10 (n10 + 1) (some ⟨n10, 0, none⟩) 1 1 [.int .i64 ((logB 1 0 (X4.L ++ [recsOf x])).length : Nat)] := by rw [hg]; exact OwnSl.new (m := 1) (z := 1) (Nat.le_refl _) rfl rfl
      clear hg
      have D11 := D10.ext E11 (Nat.le_succ _)
      have hel : (endsOf X4.L).length = N4.length := by
        unfold endsOf
        rw [List.length_map, List.length_range, ← nl4, List.length_map]
      have hO11 := D11.endO
      rw [hel] at hO11
      refine RS.append rfl opd opd hO11 hnew.src full_slice (fun b hb => Or.inr (by omega)) (by omega) ?_
      intro ae' n12 h12 k12 O12 X12 w12
      have D12 := D11.pushE (k := (logB 1 0 (X4.L ++ [recsOf x])).length) X12 k12 (by rw [hel]; exact O12) w12
      rw [← endsOf_snoc, ← L7] at D12
      repeat' (first | refine stpS ?_ | (refine stp2 ?_ ?_ <;> intro _))
      refine nextC.normal ⟨(i + 1, T7, X7, aa', ae', N4 ++ [(c8, recsOf x)]), by dsimp only; omega, ?_, by dsimp only; omega, by omega, D12, o7, g7, ?_, by show X7.S.ps.length ≤ psB (i + 1); rw [psB_succ]; omega, by show X7.S.calls ≤ (((i + 1) * 4 : Nat) : Int); omega⟩
      · simp only [List.length_append, List.length_singleton]
        exact envs
      · dsimp only
        rw [List.map_append, nl4, L7]; rfl
  · obtain rfl : i = K := by omega
    obtain ⟨F4, G4, a4, M4, B4', R4, hTe⟩ := D4.R
    have hdk := R4.dk
    have hnow : X4.S.now 1 = logB 1 0 X4.L := by rw [o4.now, g4]
    obtain ⟨P, hP⟩ : ∃ P, P = logB 1 0 X4.L := ⟨_, rfl⟩
    have hPl : P.length ≤ 4194304 := by rw [hP, ← hnow]; exact hdk.ok.now 1
    have hrd : X4.S.read 1 0 4194304 = (0, P) := by
      unfold Dk.DS.read
      rw [if_neg (fun z => z (may1 o4.down)), if_neg (by omega)]
      show (0, ((X4.S.now 1).drop 0).take 4194304) = _
      rw [List.drop_zero, hnow, ← hP, List.take_of_length_le (by omega)]
    have hread := Dk.read_dk hdk 1 0 4194304
    rw [hrd] at hread
    dsimp only at hread
    have hNX : N4.length = X4.L.length := by rw [← nl4, List.length_map]
    have hcl4 : X4.S.calls ≤ 48 := by omega
    have hle4 := o4.le
    repeat' (first | refine stpS ?_ | (refine stp2 ?_ ?_ <;> intro _))
    refine RS.call rfl opds hread none'W ?_
    rintro r n5 h5 k5 ⟨c5, rfl, E5, O5⟩
    by_cases p0 : P.length = 0
    · have hN0 : N4.length = 0 := by
        rw [hNX]
        cases hXL : X4.L with
        | nil => rfl
        | cons l L' =>
          exfalso
          rw [hP, hXL, logB_cons, List.length_append, comB_length (by decide) (by decide) (o4.ok l (by rw [hXL]; simp)).2.2] at p0
          omega
      repeat' (first | refine stpS ?_ | (refine stp2 ?_ ?_ <;> intro _))
      rfl
    · obtain ⟨s, hs⟩ : ∃ s, s = at_ % (8 * P.length) := ⟨_, rfl⟩
      have hs8 : s < 8 * P.length := by rw [hs]; exact Nat.mod_lt _ (by omega)
      repeat' (first | refine stpS ?_ | (refine stp2 ?_ ?_ <;> intro _))
      refine RC.loop ?_
      refine RL.inv (α := Nat) (fun i => [(79, .int .i64 (i : Nat)), (16, .int .i64 (dmgF s P.length bits i : Nat)), (14, .slice c5 P.length P.length), (11, .slice ae N4.length N4.length), (10, .slice aa N4.length N4.length), (8, .pointer (some ⟨lg, 0, none⟩)), (7, .pointer (some ⟨d, 0, none⟩)), (1, .int .u32 (at_ : Nat)), (2, .int .u32 (bits : Nat))])
        (fun i n6 h6 => i ≤ 32 ∧ n5 = n6 ∧ Ext n4 h4 h6 ∧ OwnSl h6 n4 n5 c5 1 P.length (bytesV (xorL P (dmgE s P.length bits i))))
        (fun i => 32 - i) 0 envs ⟨by omega, rfl, E5, by rw [show dmgE s P.length bits 0 = zeros P.length from rfl, xorL_zeros P _ rfl]; exact O5⟩ ?_
      clear O5
      rintro j n6 h6 ⟨hj, rfl, E6, O6⟩
      by_cases hj32 : j < 32
      · have hsr : (at_ : Int) % (8 * (P.length : Int)) = (s : Nat) := by rw [hs]; rfl
        obtain ⟨z, hz⟩ : ∃ z, z = bits / 2 ^ j % 2 := ⟨_, rfl⟩
        have hsh : (((bits : Int).toNat >>> (j : Int).toNat : Nat) : Int) % 2 = (z : Nat) := by
          rw [Int.toNat_natCast, Int.toNat_natCast, Nat.shiftRight_eq_div_pow, hz]; rfl
        have hbl : (xorL P (dmgE s P.length bits j)).length = P.length := xorL_length _ _ (dmgE_len s P.length bits j).symm
        obtain ⟨u, hu⟩ : ∃ u, u = xorL P (dmgE s P.length bits j) := ⟨_, rfl⟩
        rw [← hu] at hbl O6
        have hfl := dmgF_le s P.length bits j
        by_cases hbit : z = 1 ∧ s + j < 8 * P.length
        · obtain ⟨hso, hlo5, hhi5, hI5, hA5, -⟩ := O6.facts (by omega)
          have hSu : SlR h6 n5 c5 1 P.length (bytesF u) := by rw [← hbl] at O6 ⊢; exact OwnSl.slb O6
          have hcv : (u.getD ((s + j : Nat) / 8 : Int).toNat 0).toNat < 256 := UInt8.toNat_lt _
          obtain ⟨hb1, hb2⟩ := hbit
          repeat' (first | refine stpS ?_ | (refine stp2 ?_ ?_ <;> intro _))
          repeat' (first | refine stp ?_ | (refine stp2 ?_ ?_ <;> intro _))
          rw [hsr]
          have h8 : ((((s : Nat) : Int) + ((j : Nat) : Int)) / 8).toNat = (s + j) / 8 := by omega
          have h8m : ((((s : Nat) : Int) + ((j : Nat) : Int)) % 8).toNat = (s + j) % 8 := by omega
          have hx : ((((u.getD ((s + j) / 8) 0).toNat : Nat) : Int).toNat ^^^ ((((1 : Int).toNat <<< ((s + j) % 8) % 256 : Nat)) : Int).toNat : Nat) = (u.getD ((s + j) / 8) 0 ^^^ UInt8.ofNat (2 ^ ((s + j) % 8))).toNat := by
            rw [Int.toNat_natCast, Int.toNat_natCast, UInt8.toNat_xor, UInt8.toNat_ofNat', show (1 : Int).toNat = 1 from rfl, Nat.one_shiftLeft]
          rw [h8, h8m, hx]
          have hset := O6.set1 (i := (s + j) / 8) (v := .int .u8 ((u.getD ((s + j) / 8) 0 ^^^ UInt8.ofNat (2 ^ ((s + j) % 8))).toNat : Nat)) (by omega) rfl
          rw [Cd.bytesV_set] at hset
          have hF : dmgF s P.length bits (j + 1) = min (dmgF s P.length bits j) ((s + j) / 8) := by rw [dmgF, if_pos ⟨by rw [← hz]; exact hb1, hb2⟩]
          have hFi : ((dmgF s P.length bits (j + 1) : Nat) : Int) = min ((dmgF s P.length bits j : Nat) : Int) ((((s : Nat) : Int) + ((j : Nat) : Int)) / 8) := by rw [hF]; omega
          have hE : xorL P (dmgE s P.length bits (j + 1)) = flip u (s + j) := by rw [hu]; exact dmg_step P s bits j ⟨by rw [← hz]; exact hb1, hb2⟩
          refine nextC.normal ⟨j + 1, by omega, by rw [hFi]; exact envs, by omega, rfl, E6.appSets (by omega), by rw [hE]; exact hset⟩
        · have hF : dmgF s P.length bits (j + 1) = dmgF s P.length bits j := by rw [dmgF, if_neg (by rw [← hz]; exact hbit)]
          have hE : xorL P (dmgE s P.length bits (j + 1)) = u := by rw [hu]; exact dmg_same P s bits j (by rw [← hz]; exact hbit)
          repeat' (first | refine stpS ?_ | (refine stp2 ?_ ?_ <;> intro _))
          all_goals (refine nextC.normal ⟨j + 1, by omega, by rw [hF]; exact envs, by omega, rfl, E6, by rw [hE]; exact O6⟩)
      · obtain rfl : j = 32 := by omega
        obtain ⟨E, hEd⟩ : ∃ E, E = dmgE s P.length bits 32 := ⟨_, rfl⟩
        obtain ⟨f1, hf1⟩ : ∃ f1, f1 = dmgF s P.length bits 32 := ⟨_, rfl⟩
        have hEl : E.length = P.length := by rw [hEd]; exact dmgE_len ..
        have hEb : Burst E s := by rw [hEd]; exact dmgE_burst s P.length bits
        have hEz : ∀ j, j < f1 → E.getD j 0 = 0 := by rw [hEd, hf1]; exact fun j q => dmgF_zero _ _ _ _ j q
        rw [← hEd] at O6
        rw [← hf1]
        clear hEd hf1
        have D6 := D4.ext E6 k5
        have R6 := R4.extW (ExtW.of E6 (Nat.le_refl _) : ExtW (fun _ => False) n4 h4 h6) k5 (fun _ _ q => q)
        have hT4 := D4.R.lt
        obtain ⟨b', hb'⟩ : ∃ b', b' = xorL P E := ⟨_, rfl⟩
        have hbl : b'.length = P.length := by rw [hb', xorL_length _ _ hEl.symm]
        rw [← hb'] at O6
        have hSb : SlB h6 n5 c5 b' := by rw [← hbl] at O6; exact O6.slb
        have hFT : ∀ b, F4 b → T4 b := fun b q => by rw [hTe]; exact .inl q
        have hwr := Dk.write_dk R6.dk 1 0 (by omega) hSb (fun q w => by have := O6.at'.resolve_left q; have := hT4 _ (hFT _ w); omega) (by show X4.S.ps.length + _ ≤ _; omega) (by show X4.S.calls < _; omega)
        obtain ⟨S7, w1, w2, w3, w4, w5, w6⟩ := write_all (b := b') o4.down o4.fuse (by omega) (by omega) (by rw [hnow, ← hP]; omega)
        rw [w1] at hwr
        dsimp only at hwr
        rw [hbl] at hwr
        repeat' (first | refine stpS ?_ | (refine stp2 ?_ ?_ <;> intro _))
        refine RS.call rfl opds hwr (fun b q => .inr (D4.Tn b (hFT b q))) ?_
        rintro r n7 h7 k7 ⟨rfl, F7, G7, Dk7, hF7, hG7, e7⟩
        obtain ⟨T7, D7⟩ := D6.log (R6.disk ⟨F7, G7, Dk7, hF7, hG7, e7⟩ k7 |> fun q => by rw [hTe]; exact q) k7
        obtain ⟨F8, G8, a8, M8, B8', R8, hTe8⟩ := D7.R
        obtain ⟨nn, S9, v1, v2, v3, v4, v5, v6, v7, v8⟩ := dmg_open w3 w2 hle4 o4.ok (by rw [hEl, hP]) hEb (by rw [w4, hb', hP])
        have hop := open_rf R8.dk 1 (by show S7.ps.length < _; omega) (by show S7.calls < _; omega) (by omega)
        have hF8 : ∀ b, F8 b → T7 b := fun b q => by rw [hTe8]; exact .inl q
        have hG8 : ∀ b, G8 b → T7 b := fun b q => by rw [hTe8]; exact .inr (.inl q)
        repeat' (first | refine stpS ?_ | (refine stp2 ?_ ?_ <;> intro _))
        refine RS.call rfl opds hop (fun b q => .inr (D7.Tn b (hF8 b q))) ?_
        rintro r n9 h9 k9 hop9
        unfold OpTo at hop9
        dsimp only at hop9
        rw [v2] at hop9
        rcases hop9 with ⟨-, lg9, T9, rfl, R9, hT9, e9⟩ | ⟨q, -⟩
        rotate_left
        · exact absurd rfl q
        have D9 := D7.relog R9 (fun b hb q => by rcases hT9 b hb q with w | w; exact hF8 b w; exact hG8 b w) (e9.mono (Nat.le_refl _) (fun b _ q => hF8 b q)) k9
        have hnl9 : (X4.L.take nn).length = nn := by rw [List.length_take]; omega
        have hmany : Ev Tryd.prog none' 21 #[.pointer (some ⟨lg9, 0, none⟩)] n9 h9 (.int .i64 (nn : Nat)) n9 h9 := by
          have := many_ev D9.R
          dsimp only at this
          rwa [hnl9] at this
        obtain ⟨F9, G9, a9, M9, B9, R9', hTe9⟩ := D9.R
        have hM9 := R9'.nl
        dsimp only at hM9
        have hM9l : M9.length = nn := by rw [← hnl9, ← hM9, List.length_map]
        have hok9 : ∀ l ∈ X4.L.take nn, okC l := fun l hl => o4.ok l (List.mem_of_mem_take hl)
        have hfin : ∀ x ∈ M9, x.2.length ≤ 1099511627776 ∧ ∀ l ∈ x.2, l.length ≤ 1099511627776 := fun x hx => by
          have : x.2 ∈ M9.map (·.2) := List.mem_map_of_mem hx
          rw [hM9] at this
          exact okC_lens (hok9 _ this)
        have hIa : ∀ {g : AH}, Ext n9 h9 g → SlI g aa 1 N4.length := fun q => SlI.of D9.allO.slr q
        have hsa : sb aa < n9 := by
          rcases D9.allO.at' with q | q
          · rw [q]; show 0 < n9; omega
          · exact q.2
        repeat' (first | refine stpS ?_ | (refine stp2 ?_ ?_ <;> intro _))
        refine RS.call1 rfl opds hmany none'W ?_
        repeat' (first | refine stpS ?_ | (refine stp2 ?_ ?_ <;> intro _))
        repeat' (first | refine stp ?_ | (refine stp2 ?_ ?_ <;> intro _))
        refine RD.call n9 rfl opds (commits_rf (R9'.extW (ExtW.of (AH.below_ext h9 n9) (Nat.le_refl _) : ExtW (fun _ => False) n9 h9 (h9.below n9)) (Nat.le_refl _) (fun _ _ q => q))) (Nat.le_refl _) cfc ?_
        rintro r n10 h10 k10 ⟨q10, a10, rfl, E10, hq10, K10⟩
        have E10 : Ext n9 h9 h10 := E10.via (Nat.le_refl _) (AH.below_ext h9 n9)
        have hIa := hIa E10
        have D10 := D9.ext E10 k10
        have hW10 : SlR (h10.below n10) n10 aa 1 (N4.take nn).length (fun j => (lgC (N4.take nn)).getD j (.tuple #[])) := by
          have h1 := D10.allO.slr.ext (AH.below_ext h10 n10) (Nat.le_refl _)
          have hl : (N4.take nn).length = nn := by rw [List.length_take]; omega
          rw [hl]
          refine (h1.take (u := nn) (by omega)).congr fun j hj => ?_
          simp [lgC, List.getD, List.getElem?_take, show j < nn by omega]
        have hN10 : ∀ x ∈ N4.take nn, ∃ ad, SlQ (h10.below n10) n10 x.1 ad x.2 := fun x hx => by
          obtain ⟨ad, S, -⟩ := D10.cm x (List.mem_of_mem_take hx)
          exact ⟨ad, S.ext (AH.below_ext h10 n10) (Nat.le_refl _)⟩
        have it := commits1_iter q10 a10 M9 (by omega) hfin
        rw [hM9l, hM9] at it
        have htold := told_rf _ _ _ (X4.L.take nn) (N4.take nn) aa n10 (h10.below n10) (by rw [hnl9]; exact it) (fun n' h' hn' E' => (K10.ext (AH.below_ext h10 n10) (Nat.le_refl _)).ext E' hn') hW10 hN10 (by rw [List.map_take, nl4]) (by omega) (fun l hl => (okC_lens (hok9 l hl)).1) (by omega)
        rw [show (N4.take nn).length = nn by rw [List.length_take]; omega] at htold
        repeat' (first | refine stp ?_ | (refine stp2 ?_ ?_ <;> intro _))
        simp only [Int.toNat_natCast]
        refine RD.call n10 rfl opds htold (Nat.le_refl _) cfc ?_
        rintro r n11 h11 k11 ⟨rfl, E11⟩
        have E11 : Ext n10 h10 h11 := E11.via (Nat.le_refl _) (AH.below_ext h10 n10)
        have D11 := D10.ext E11 k11
        have hcE : nn < N4.length → h11.cell (sb ae) (so ae + nn) = .int .i64 ((logB 1 0 (X4.L.take (nn + 1))).length : Nat) ∧ sb ae < n11 ∧ SlA ae N4.length ∧ f1 < (logB 1 0 (X4.L.take (nn + 1))).length := fun q => by
          have hel : (endsOf X4.L).length = N4.length := by
            unfold endsOf
            rw [List.length_map, List.length_range, hNX]
          have hO := D11.endO
          rw [hel] at hO
          refine ⟨?_, SlR.lt hO.slr (by omega), SlR.sla hO.slr, ?_⟩
          · rw [SlR.cell hO.slr nn (by omega)]
            unfold intV endsOf
            simp [List.getD, show nn < X4.L.length by omega]
          · obtain ⟨i, i1, i2⟩ := v8 (by omega)
            apply Classical.byContradiction
            intro w
            exact i2 (hEz i (by omega))
        have hop2 : ∃ S13, openP S9 2 = (0, ⟨S13, 2, [], 0⟩) := open2 v4 v3 hok9 v5
        obtain ⟨S13, hop2⟩ := hop2
        obtain ⟨F11, G11, a11, M11, B11, R11, hTe11⟩ := D11.R
        have hopen := open_rf R11.dk 2 (by show S9.ps.length < _; omega) (by show S9.calls < _; omega) (by omega)
        have hF11 : ∀ b, F11 b → T9 b := fun b q => by rw [hTe11]; exact .inl q
        obtain ⟨w, hw⟩ : ∃ w, w = (logB 1 0 (X4.L.take (nn + 1))).length := ⟨_, rfl⟩
        rw [← hw] at hcE
        by_cases hnn : nn < N4.length
        · obtain ⟨hc1, hc2, hc3, hc4⟩ := hcE hnn
          repeat' (first | refine stp ?_ | (refine stp2 ?_ ?_ <;> intro _))
          refine RS.call rfl opds hopen (fun b q => .inr (D11.Tn b (hF11 b q))) ?_
          rintro r n13 h13 k13 hop13
          unfold OpTo at hop13
          dsimp only at hop13
          rw [hop2] at hop13
          rcases hop13 with ⟨-, lg13, T13, rfl, R13, -, -⟩ | ⟨q, -⟩
          rotate_left
          · exact absurd rfl q
          have hmany2 : Ev Tryd.prog none' 21 #[.pointer (some ⟨lg13, 0, none⟩)] n13 h13 (.int .i64 0) n13 h13 := many_ev R13
          have hend2 : Ev Tryd.prog none' 18 #[.pointer (some ⟨lg13, 0, none⟩)] n13 h13 (.int .i64 0) n13 h13 := end_ev' R13
          repeat' (first | refine stpS ?_ | (refine stp2 ?_ ?_ <;> intro _))
          refine RS.call1 rfl opds hmany2 none'W ?_
          repeat' (first | refine stpS ?_ | (refine stp2 ?_ ?_ <;> intro _))
          refine RS.call1 rfl opds hend2 none'W ?_
          repeat' (first | refine stpS ?_ | (refine stp2 ?_ ?_ <;> intro _))
          rfl
        · repeat' (first | refine stp ?_ | (refine stp2 ?_ ?_ <;> intro _))
          refine RS.call rfl opds hopen (fun b q => .inr (D11.Tn b (hF11 b q))) ?_
          rintro r n13 h13 k13 hop13
          unfold OpTo at hop13
          dsimp only at hop13
          rw [hop2] at hop13
          rcases hop13 with ⟨-, lg13, T13, rfl, R13, -, -⟩ | ⟨q, -⟩
          rotate_left
          · exact absurd rfl q
          have hmany2 : Ev Tryd.prog none' 21 #[.pointer (some ⟨lg13, 0, none⟩)] n13 h13 (.int .i64 0) n13 h13 := many_ev R13
          have hend2 : Ev Tryd.prog none' 18 #[.pointer (some ⟨lg13, 0, none⟩)] n13 h13 (.int .i64 0) n13 h13 := end_ev' R13
          repeat' (first | refine stpS ?_ | (refine stp2 ?_ ?_ <;> intro _))
          refine RS.call1 rfl opds hmany2 none'W ?_
          repeat' (first | refine stpS ?_ | (refine stp2 ?_ ?_ <;> intro _))
          refine RS.call1 rfl opds hend2 none'W ?_
          repeat' (first | refine stpS ?_ | (refine stp2 ?_ ?_ <;> intro _))
          rfl
end Go.Proofs.YtfbddbpbifnhfaaDoor

/- WalDamage, over its arguments. -/
namespace Go.Proofs.YtfbddbpbifnhfaaDoor
open Go.Abs Go.RowKit Cd
set_option maxRecDepth 100000 in
theorem bodyWalDamage {H : Type} {h : AH} {n : Nat} {vs : List Value} {ds : List (DataW H)} (lo : Low n h) (hn : 0 < n) (hr : RepArgs Tryd.prog h [35, 31, 31] vs ds) (hb : Rows.uptoBulkAll ds ≤ 1048576) :
    ∃ n' h', Ev Tryd.prog none' 4 vs.toArray n h (.bool true) n' h' := by
  obtain ⟨a0, d0, vs, ds, rfl, rfl, r0, hr⟩ := hr.cons_
  obtain ⟨a1, d1, vs, ds, rfl, rfl, r1, hr⟩ := hr.cons_
  obtain ⟨a2, d2, vs, ds, rfl, rfl, r2, hr⟩ := hr.cons_
  obtain ⟨rfl, rfl⟩ := hr.nil_
  obtain ⟨c, L, rfl, B, hl⟩ := ops_arg lo r0
  obtain ⟨k, rfl, hk⟩ := u32_arg r1
  obtain ⟨w, rfl, hw⟩ := u32_arg r2
  simp only [Rows.uptoBulkAll] at hb
  obtain ⟨r, n', h', e, rfl⟩ := law_WalDamage c L k w _ n h B (by omega) (by omega) hk hw hn
  exact ⟨n', h', e⟩
end Go.Proofs.YtfbddbpbifnhfaaDoor
