/- The law DiskWhole. -/
import Derived.Test.YtchfnjfmlhacfaaPq
import Derived.Test.YtchfnjfmlhacfaaRp
import Derived.Test.YtchfnjfmlhacfaaArg
namespace Go.Proofs.Ytchfnjfmlhacfaa
open Go.Abs

theorem getD_rep (c : UInt8) (k i : Nat) (h : i < k) : (List.replicate k c).getD i 0 = c := by
  simp only [List.getD, List.getElem?_replicate, if_pos h, Option.getD_some]
theorem whole_start (N : Nat) (hN : 0 < N) : ∃ S2 : DS, ({ DS.init.writes 0 0 (List.replicate N 1) with calls := DS.init.calls + 1 } : DS).sync 0 = (0, S2) ∧ S2.fuse = 0 ∧ S2.down = false ∧ S2.ps = [] ∧ S2.sure 0 = List.replicate N 1 ∧ S2.calls = 2 ∧ ({ DS.init.writes 0 0 (List.replicate N 1) with calls := DS.init.calls + 1 } : DS).ps.length ≤ N := by
  refine ⟨_, sync_zero rfl rfl, rfl, rfl, ?_, ?_, rfl, ?_⟩
  · show ([] ++ chunks 0 (List.replicate N (1 : UInt8)).length 0 (List.replicate N 1)).filter _ = []
    rw [List.nil_append]
    exact List.filter_eq_nil_iff.2 fun p hp => by simp [(chunks_file _ _ _ _ p hp).1]
  · refine (upd_same (DS.init.writes 0 0 (List.replicate N 1)).sure 0 ((DS.init.writes 0 0 (List.replicate N 1)).now 0)).trans ?_
    rw [writes_now, if_pos rfl]
    have e0 : DS.init.now 0 = [] := rfl
    rw [e0]
    have hne : List.replicate N (1 : UInt8) ≠ [] := fun q => by
      have := congrArg List.length q
      simp at this; omega
    apply ext_getD
    · rw [wr_length, if_neg hne]; simp
    · intro i hi
      rw [wr_length, if_neg hne] at hi
      simp only [List.length_replicate, List.length_nil] at hi
      rw [wr_getD, Nat.sub_zero, if_pos (by simp; omega)]
  · have := writes_len DS.init 0 0 (List.replicate N 1)
    rw [List.length_replicate] at this
    exact Nat.le_trans this (by show 0 + N ≤ N; omega)
set_option maxHeartbeats 4000000 in
theorem law_DiskWhole (x y : Int) (ks : List Bool) (a3 : Option Addr) (n : Nat) (h : AH) (hx : 0 ≤ x ∧ x < 65536) (hy : 0 ≤ y ∧ y < 65536) (S3 : SlT h n a3 ks) (hn : 0 < n) (hks : ks.length ≤ 1048576) :
    RF Try.prog none' 9 #[.int .u16 x, .int .u16 y, .slice a3 ks.length ks.length] n h (fun r _ _ => r = .bool true) := by
  refine RF.of Try.func9 rfl rfl (Nat.le_of_ble_eq_true rfl) ?_; dsimp only [argEnv]
  repeat' (first | refine stpS ?_ | (refine stp2 ?_ ?_ <;> intro _))
  refine RS.call rfl opds (new_rf n h hn) none'W ?_
  rintro r n1 h1 hle ⟨d, F, G, rfl, D, hF, hG, e1⟩
  have L := new_dl (n0 := n) (h0 := h) (Nat.le_refl n) (Ext.refl n h) D hF hle e1
  clear D hF hG e1
  repeat' (first | refine stpS ?_ | (refine stp2 ?_ ?_ <;> intro _))
  refine RS.call rfl opds (begun_rf n1 h1 (by omega)) none'W ?_
  rintro r n2 h2 hle2 ⟨rfl, e2⟩
  have L := L.step hle2 e2
  have hlt := L.dk.lt
  repeat' (first | refine stpS ?_ | (refine stp2 ?_ ?_ <;> intro _))
  obtain ⟨p, hp⟩ : ∃ p : Nat, x % 2000 = (p : Int) := ⟨(x % 2000).toNat, by omega⟩
  obtain ⟨m, hm⟩ : ∃ m : Nat, y % 3000 + 1 = (m : Int) := ⟨(y % 3000 + 1).toNat, by omega⟩
  have hp2 : p < 2000 := by omega
  have hm1 : 1 ≤ m := by omega
  have hm2 : m ≤ 3000 := by omega
  rw [hp, hm]
  clear hx hy hp hm
  have T1 : SlB (h2.app (.new n2 ⟨1, 0, true, 1⟩ (bytesV [1]))) (n2 + 1) (some ⟨n2, 0, none⟩) [1] := (OwnSl.new1 (h := h2) (n0 := n2) (m := 1) (Nat.le_refl n2) rfl rfl).slb
  have L := L.step (Nat.le_succ n2) (h' := h2.app (.new n2 ⟨1, 0, true, 1⟩ (bytesV [1]))) ext
  obtain ⟨N, hN⟩ : ∃ N : Nat, N = 6000 := ⟨_, rfl⟩
  have hr1 := repeat_rf 1 (some ⟨n2, 0, none⟩) N (n2 + 1) _ T1 (by omega) (by omega)
  rw [show ((N : Nat) : Int) = 6000 by omega] at hr1
  have hlN : (List.replicate N (1 : UInt8)).length = N := List.length_replicate
  refine RS.call rfl opds hr1 none'W ?_
  rintro r n3 h3 hle3 ⟨a1, rfl, e3, T2, hn1⟩
  have L3 := L.step hle3 e3
  have hltF := L.dk.ltF
  repeat' (first | refine stpS ?_ | (refine stp2 ?_ ?_ <;> intro _))
  have hw1 := write_dk L3.dk 0 0 (by omega) T2 (fun _ q => by have := hltF _ q; omega) (by rw [hlN]; simp only [DS.init, List.length_nil]; omega) (by simp [DS.init])
  rw [show DS.init.write 0 0 (List.replicate N 1) = (0, { DS.init.writes 0 0 (List.replicate N 1) with calls := DS.init.calls + 1 }) from write_zero (S := DS.init) (i := 0) (at_ := 0) rfl (by omega) (fun _ => by rw [hlN]; omega) rfl, hlN] at hw1
  dsimp only at hw1
  refine RS.call rfl opds hw1 (fun b => L3.W b) ?_
  rintro r n4 h4 hle4 ⟨rfl, to⟩
  obtain ⟨F4, G4, L4, -, -, -⟩ := L3.to hle4 to
  clear hw1 to L3 L T1 T2 hr1 hltF
  obtain ⟨S2, hsy, hf2, hd2, hps2, hsu2, hca2, hpl⟩ := whole_start N (by omega)
  have hs1 := sync_dk L4.dk (Nat.le_trans hpl (by omega)) (by show (0 : Int) + 1 < _; omega) 0
  rw [hsy] at hs1
  dsimp only at hs1
  have hlt4 := L4.dk.lt
  repeat' (first | refine stpS ?_ | (refine stp2 ?_ ?_ <;> intro _))
  refine RS.call rfl opds hs1 (fun b => L4.W b) ?_
  rintro r n5 h5 hle5 ⟨rfl, to⟩
  obtain ⟨F5, G5, L5, -, -, -⟩ := L4.to hle5 to
  clear hs1 to L4
  have hlt5 := L5.dk.lt
  repeat' (first | refine stpS ?_ | (refine stp2 ?_ ?_ <;> intro _))
  have T1 : SlB (h5.app (.new n5 ⟨1, 0, true, 1⟩ (bytesV [2]))) (n5 + 1) (some ⟨n5, 0, none⟩) [2] := (OwnSl.new1 (h := h5) (n0 := n5) (m := 1) (Nat.le_refl n5) rfl rfl).slb
  have L6 := L5.step (Nat.le_succ n5) (h' := h5.app (.new n5 ⟨1, 0, true, 1⟩ (bytesV [2]))) ext
  have hr1 := repeat_rf 2 (some ⟨n5, 0, none⟩) m (n5 + 1) _ T1 (by omega) (by omega)
  refine RS.call rfl opds hr1 none'W ?_
  rintro r n7 h7 hle7 ⟨a2, rfl, e7, T2, hn2⟩
  have L7 := L6.step hle7 e7
  have hltF := L6.dk.ltF
  have hlr : (List.replicate m (2 : UInt8)).length = m := List.length_replicate
  have hw1 := write_dk L7.dk 0 p (by omega) T2 (fun _ q => by have := hltF _ q; omega) (by rw [hps2, hlr, List.length_nil]; omega) (by omega)
  rw [show S2.write 0 (p : Int) (List.replicate m 2) = (0, { S2.writes 0 p (List.replicate m 2) with calls := S2.calls + 1 }) from write_zero (S := S2) (i := 0) (at_ := p) hd2 (by omega) (fun _ => by rw [hlr]; omega) hf2, hlr] at hw1
  dsimp only at hw1
  repeat' (first | refine stpS ?_ | (refine stp2 ?_ ?_ <;> intro _))
  refine RS.call rfl opds hw1 (fun b => L7.W b) ?_
  rintro r n8 h8 hle8 ⟨rfl, to⟩
  obtain ⟨F8, G8, L8, -, -, -⟩ := L7.to hle8 to
  clear hw1 to L7 L6 L5 T1 T2 hr1 hltF
  have hpsn : ({ S2.writes 0 p (List.replicate m 2) with calls := S2.calls + 1 } : DS).ps = chunks 0 m p (List.replicate m 2) := by
    show S2.ps ++ chunks 0 (List.replicate m (2 : UInt8)).length p (List.replicate m 2) = _
    rw [hps2, hlr]; rfl
  have hcnt := chunks_count 0 m p (List.replicate m 2) (by omega) (by omega)
  rw [hlr] at hcnt
  obtain ⟨hll, hlv⟩ := lose_chunks 2 m p (List.replicate m 2) ks S2.sure (by omega) (by rw [hlr, hsu2, List.length_replicate]; omega)
  rw [hsu2, List.length_replicate] at hll
  have hdn : ({ S2.writes 0 p (List.replicate m 2) with calls := S2.calls + 1 } : DS).down = false := hd2
  have hsr : ({ S2.writes 0 p (List.replicate m 2) with calls := S2.calls + 1 } : DS).sure = S2.sure := rfl
  generalize ({ S2.writes 0 p (List.replicate m 2) with calls := S2.calls + 1 } : DS) = S8 at *
  have hpd := pending_dk L8.dk
  rw [hpsn, hcnt] at hpd
  have hlt8 := L8.dk.lt
  have hcr := crash_dk L8.dk (by rw [hpsn, hcnt]; omega) (by omega) (S3.ext L8.ext L8.le) (L8.low fun q => S3.ltA q)
  rw [show S8.crash ks = (0, S8.lose ks) by rw [DS.crash, if_neg (by rw [hdn]; simp)]] at hcr
  dsimp only at hcr
  repeat' (first | refine stpS ?_ | (refine stp2 ?_ ?_ <;> intro _) | refine RS.call1 rfl opds (hpd) none'W ?_)
  refine RS.call rfl opds hcr (fun b => L8.W b) ?_
  rintro r n9 h9 hle9 ⟨rfl, to⟩
  obtain ⟨F9, G9, L9, -, -, -⟩ := L8.to hle9 to
  have hlt9 := L9.dk.lt
  repeat' (first | refine stpS ?_ | (refine stp2 ?_ ?_ <;> intro _))
  refine RS.call rfl opds (restart_dk L9.dk) (fun b => L9.W b) ?_
  rintro r n10 h10 hle10 ⟨rfl, to⟩
  obtain ⟨F10, G10, L10, -, -, -⟩ := L9.to hle10 to
  have hnw : (S8.lose ks).restart.now 0 = loseP S2.sure (chunks 0 m p (List.replicate m 2)) ks 0 := by
    show loseP S8.sure S8.ps ks 0 = _
    rw [hsr, hpsn]
  have hrd : (S8.lose ks).restart.read 0 0 6000 = (0, loseP S2.sure (chunks 0 m p (List.replicate m 2)) ks 0) := by
    have h2 := read_zero (S := (S8.lose ks).restart) (i := 0) (at_ := 0) (k := 6000) rfl (by omega)
    rw [List.drop_zero, hnw, List.take_of_length_le (by rw [hll]; omega)] at h2
    exact h2
  generalize loseP S2.sure (chunks 0 m p (List.replicate m 2)) ks 0 = w at *
  generalize (S8.lose ks).restart = S10 at *
  have hr := read_dk L10.dk 0 0 6000
  rw [hrd] at hr
  dsimp only at hr
  rw [hll] at hr
  have hlt10 := L10.dk.lt
  repeat' (first | refine stpS ?_ | (refine stp2 ?_ ?_ <;> intro _))
  refine RS.call rfl opds hr none'W ?_
  rintro r n11 h11 hle11 ⟨b, rfl, e11, hO⟩
  have L11 := L10.step hle11 e11
  have S11 := S3.ext L11.ext L11.le
  have hwS : SlB h11 n11 b w := hO.slbE
  repeat' (first | refine stpS ?_ | (refine stp2 ?_ ?_ <;> intro _))
  refine RC.loop ?_
  refine RL.inv (α := Nat) (fun s => [(86, .int .i64 (s : Nat)), (85, .int .i64 (N : Nat)), (84, .slice b N N), (8, .int .i64 (p : Nat)), (9, .int .i64 (m : Nat)), (2, .slice a3 ks.length ks.length)])
    (fun s n12 h12 => s ≤ N ∧ n11 ≤ n12 ∧ h12 = h11) (fun s => N - s) 0 envs ⟨by omega, Nat.le_refl _, rfl⟩ ?_
  rintro i n12 h12 ⟨hi, hn12, rfl⟩
  by_cases hlti : i < N
  · have hA : SlA b N := by rw [← hll]; exact hwS.sla
    have hAk : SlA a3 ks.length := S11.sla
    have hb1 : sb b < n12 := Nat.lt_of_lt_of_le (hwS.lt (by rw [hll]; omega)) hn12
    have hgo : w.getD i 0 = if p ≤ i ∧ i < p + m ∧ ks.getD (i / 512 - p / 512) false = true then 2 else 1 := by
      rw [hlv i, hlr, hsu2, getD_rep 1 N i hlti]
      by_cases q : p ≤ i ∧ i < p + m ∧ ks.getD (i / 512 - p / 512) false = true
      · rw [if_pos q, if_pos q, getD_rep 2 m (i - p) (by omega)]
      · rw [if_neg q, if_neg q]
    have d0 : h12.cell (sb b) (so b + i) = .int .u8 ((w.getD i 0).toNat : Nat) := (hwS.cell i (by rw [hll]; omega)).trans (by simp [bytesF])
    clear hwS hr hrd hnw
    have hgen : ∀ v : UInt8, h12.cell (sb b) (so b + i) = .int .u8 (v.toNat : Nat) → True := fun _ _ => trivial
    by_cases hin : p ≤ i ∧ i < p + m
    · by_cases hks' : i / 512 - p / 512 < ks.length
      · have hb3 : sb a3 < n12 := Nat.lt_of_lt_of_le (S11.lt (by omega)) hn12
        have ekk : ((i : Int) / 512 - (p : Int) / 512).toNat = i / 512 - p / 512 := by omega
        have dk : h12.cell (sb a3) (so a3 + ((i : Int) / 512 - (p : Int) / 512).toNat) = .bool (ks.getD (i / 512 - p / 512) false) := by
          rw [ekk]
          exact (S11.cell (i / 512 - p / 512) (by omega)).trans (by simp [boolsF])
        clear S11
        cases hkk : ks.getD (i / 512 - p / 512) false
        · rw [hkk] at dk
          rw [if_neg (by rw [hkk]; simp)] at hgo
          rw [hgo] at d0
          have d1 : h12.cell (sb b) (so b + i) = .int .u8 1 := d0
          clear d0
          repeat' (first | refine stpS ?_ | (refine stp2 ?_ ?_ <;> intro _))
          refine nextC.normal ⟨i + 1, by omega, envs, by omega, hn12, rfl⟩
        · rw [hkk] at dk
          rw [if_pos ⟨hin.1, hin.2, hkk⟩] at hgo
          rw [hgo] at d0
          have d1 : h12.cell (sb b) (so b + i) = .int .u8 2 := d0
          clear d0
          repeat' (first | refine stpS ?_ | (refine stp2 ?_ ?_ <;> intro _))
          refine nextC.normal ⟨i + 1, by omega, envs, by omega, hn12, rfl⟩
      · have hkk : ks.getD (i / 512 - p / 512) false = false := by simp [List.getD, List.getElem?_eq_none (show ks.length ≤ i / 512 - p / 512 by omega)]
        rw [if_neg (by rw [hkk]; simp)] at hgo
        rw [hgo] at d0
        have d1 : h12.cell (sb b) (so b + i) = .int .u8 1 := d0
        clear d0
        repeat' (first | refine stpS ?_ | (refine stp2 ?_ ?_ <;> intro _))
        refine nextC.normal ⟨i + 1, by omega, envs, by omega, hn12, rfl⟩
    · rw [if_neg (fun q => hin ⟨q.1, q.2.1⟩)] at hgo
      rw [hgo] at d0
      have d1 : h12.cell (sb b) (so b + i) = .int .u8 1 := d0
      clear d0
      by_cases hpi : p ≤ i
      · repeat' (first | refine stpS ?_ | (refine stp2 ?_ ?_ <;> intro _))
        refine nextC.normal ⟨i + 1, by omega, envs, by omega, hn12, rfl⟩
      · repeat' (first | refine stpS ?_ | (refine stp2 ?_ ?_ <;> intro _))
        refine nextC.normal ⟨i + 1, by omega, envs, by omega, hn12, rfl⟩
  · repeat' (first | refine stpS ?_ | (refine stp2 ?_ ?_ <;> intro _))
    rfl
end Go.Proofs.Ytchfnjfmlhacfaa
