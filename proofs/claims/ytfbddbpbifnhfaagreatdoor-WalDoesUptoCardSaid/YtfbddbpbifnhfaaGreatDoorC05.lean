/- Contracts and laws that a statement of this seat is proved by (part 5). -/
import Derived.Test.YtfbddbpbifnhfaaGreatDoorC04
set_option linter.unusedSimpArgs false
set_option linter.unusedVariables false
/- Contracts of wal: marks. -/
namespace Go.Proofs.YtfbddbpbifnhfaaGreatDoor
open Go.Abs Cd

set_option maxHeartbeats 4000000 in
theorem may_ev (v : Int) (n : Nat) (h : AH) : Ev Tryz.prog none' 41 #[.int .i64 v] n h (.bool (decide (may v))) n h := by
  refine RF.pure rfl fun n' hn => ?_
  refine RF.of Tryz.func41 rfl rfl (Nat.le_of_ble_eq_true rfl) ?_; dsimp only [argEnv]
  by_cases q : may v
  · have q' := q
    unfold may at q'
    rw [decide_eq_true q]
    repeat' (first | refine stpS ?_ | (refine stp2 ?_ ?_ <;> intro _))
    rfl
  · have q' := q
    unfold may at q'
    rw [decide_eq_false q]
    repeat' (first | refine stpS ?_ | (refine stp2 ?_ ?_ <;> intro _))
    all_goals rfl
set_option maxHeartbeats 4000000 in
theorem refMay_ev (v : Int) (n : Nat) (h : AH) : Ev Tryz.prog none' 60 #[.int .i64 v] n h (.bool (decide (may v))) n h := by
  refine RF.pure rfl fun n' hn => ?_
  refine RF.of Tryz.func60 rfl rfl (Nat.le_of_ble_eq_true rfl) ?_; dsimp only [argEnv]
  by_cases q : may v
  · have q' := q
    unfold may at q'
    rw [decide_eq_true q]
    repeat' (first | refine stpS ?_ | (refine stp2 ?_ ?_ <;> intro _))
    rfl
  · have q' := q
    unfold may at q'
    rw [decide_eq_false q]
    repeat' (first | refine stpS ?_ | (refine stp2 ?_ ?_ <;> intro _))
    all_goals rfl
set_option maxHeartbeats 4000000 in
theorem little_rf (c : Nat) (hc : c < 4294967296) (n : Nat) (h : AH) : RF Tryz.prog none' 101 #[.int .u32 (c : Nat)] n h (Row (little c) n h) := by
  refine RF.of Tryz.func101 rfl rfl (Nat.le_of_ble_eq_true rfl) ?_; dsimp only [argEnv]
  have e1 : ((c >>> Int.toNat 8 : Nat) : Int) % 256 = ((UInt8.ofNat (c / 256)).toNat : Nat) := by rw [UInt8.toNat_ofNat', Nat.shiftRight_eq_div_pow]; rfl
  have e2 : ((c >>> Int.toNat 16 : Nat) : Int) % 256 = ((UInt8.ofNat (c / 65536)).toNat : Nat) := by rw [UInt8.toNat_ofNat', Nat.shiftRight_eq_div_pow]; rfl
  have e3 : ((c >>> Int.toNat 24 : Nat) : Int) % 256 = ((UInt8.ofNat (c / 16777216)).toNat : Nat) := by rw [UInt8.toNat_ofNat', Nat.shiftRight_eq_div_pow]; rfl
  have e0 : (c : Int) % 256 = ((UInt8.ofNat c).toNat : Nat) := by rw [UInt8.toNat_ofNat']; rfl
  repeat (first | (refine RS.put rfl rfl (o_convM_u8 (Opd.tmp Look.here)) ?_) | refine stpS ?_)
  simp only [Int.toNat_natCast]
  rw [e0, e1, e2, e3]
  exact ⟨_, rfl, ext, OwnSl.new1 (n0 := n) (m := 4) (cs := bytesV (little c)) (Nat.le_refl n) rfl (bytesV_known _)⟩
set_option maxHeartbeats 4000000 in
theorem refmark_rf (g s m c : Int) (hg : i64 g) (hs : i64 s) (hm : i64 m) (hc : 0 ≤ c) (hc2 : c < 4294967296) (n : Nat) (h : AH) :
    RF Tryz.prog none' 86 #[.int .i64 g, .int .i64 s, .int .i64 m, .int .u32 c] n h (Row (markB g s m c) n h) := by
  refine RF.of Tryz.func86 rfl rfl (Nat.le_of_ble_eq_true rfl) ?_; dsimp only [argEnv]
  have hci : i64 c := ⟨by omega, by omega⟩
  have l1 := form_le g hg.1 hg.2
  have l2 := form_le s hs.1 hs.2
  have l3 := form_le m hm.1 hm.2
  have l4 := form_le c hci.1 hci.2
  have hle := headB_le hg hs hm hci
  have hpl := padB_length hg hs hm hci
  repeat' (first | refine stpS ?_ | (refine stp2 ?_ ?_ <;> intro _))
  refine RS.call rfl opds (refInt_rf g hg.1 hg.2 n h) none'W ?_
  rintro r n1 h1 k1 ⟨a1, rfl, E1, O1⟩
  repeat' (first | refine stpS ?_ | (refine stp2 ?_ ?_ <;> intro _))
  refine RS.call rfl opds (refInt_rf s hs.1 hs.2 n1 h1) none'W ?_
  rintro r n2 h2 k2 ⟨a2, rfl, E2, O2⟩
  have E2' : Ext n h h2 := E1.trans k1 E2
  refine RS.append rfl opd opd (O1.ext E2 k2) O2.src full_slice (fun b hb => Or.inr (by omega)) (by omega) ?_
  intro a3 n3 h3 k3 O3 X3 w3
  have E3 := X3.ext (O1.ext E2 k2)
  rw [← List.length_append, ← bytesV_app] at O3
  rw [← List.length_append]
  have E3' : Ext n h h3 := E2'.then E3
  repeat' (first | refine stpS ?_ | (refine stp2 ?_ ?_ <;> intro _))
  refine RS.call rfl opds (refInt_rf m hm.1 hm.2 n3 h3) none'W ?_
  rintro r n4 h4 k4 ⟨a4, rfl, E4, O4⟩
  refine RS.append rfl opd opd (O3.ext E4 k4) O4.src full_slice (fun b hb => Or.inr (by omega)) (by rw [List.length_append]; omega) ?_
  intro a5 n5 h5 k5 O5 X5 w5
  have E5 := X5.ext (O3.ext E4 k4)
  rw [← List.length_append, ← bytesV_app] at O5
  rw [← List.length_append]
  have E5' : Ext n h h5 := (E3'.trans (by omega) E4).then E5
  repeat' (first | refine stpS ?_ | (refine stp2 ?_ ?_ <;> intro _))
  refine RS.call rfl opds (refInt_rf c hci.1 hci.2 n5 h5) none'W ?_
  rintro r n6 h6 k6 ⟨a6, rfl, E6, O6⟩
  refine RS.append rfl opd opd (O5.ext E6 k6) O6.src full_slice (fun b hb => Or.inr (by omega)) (by simp only [List.length_append]; omega) ?_
  intro a7 n7 h7 k7 O7 X7 w7
  have E7 := X7.ext (O5.ext E6 k6)
  rw [← List.length_append, ← bytesV_app] at O7
  rw [← List.length_append]
  have E7' : Ext n h h7 := (E5'.trans (by omega) E6).then E7
  have hh : form g ++ form s ++ form m ++ form c = headB g s m c := rfl
  rw [hh] at O7 ⊢
  have hz : (508 : Int) - ((headB g s m c).length : Nat) = ((508 - (headB g s m c).length : Nat) : Int) := by omega
  repeat' (first | refine stpS ?_ | (refine stp2 ?_ ?_ <;> intro _))
  rw [hz]
  have hzr : ∀ k, zrow (Value.cells (.int .u8 0)).toList k = bytesV (zeros k) := fun k => by
    rw [show (Value.cells (.int .u8 0)).toList = [.int .u8 0] from rfl, zrow_one]
    unfold zeros bytesV; rw [List.map_replicate]; rfl
  refine RS.appendZT rfl opd opd O7 (by omega) (fun q => .inr (O7.at'.resolve_left q).1) (by omega) (by rw [hzr]; exact bytesV_known _) ?_
  intro a8 n8 h8 k8 O8 X8 w8
  have E8' : Ext n h h8 := E7'.then (X8.ext O7)
  rw [hzr, Int.toNat_natCast, ← bytesV_app] at O8
  rw [Int.toNat_natCast]
  have hpd : headB g s m c ++ zeros (508 - (headB g s m c).length) = padB g s m c := rfl
  have hpl' : (headB g s m c).length + (508 - (headB g s m c).length) = (padB g s m c).length := by omega
  rw [hpd, hpl'] at O8
  rw [hpl']
  repeat' (first | refine stpS ?_ | (refine stp2 ?_ ?_ <;> intro _))
  refine RS.call1 rfl opds (refSum_ev (padB g s m c) a8 _ _ _ (OwnSl.slbE O8) rfl (by omega)) none'W ?_
  repeat' (first | refine stpS ?_ | (refine stp2 ?_ ?_ <;> intro _))
  refine RS.call rfl opds (little_rf _ (crc_lt _) n8 h8) none'W ?_
  rintro r n9 h9 k9 ⟨a9, rfl, E9, O9⟩
  refine RS.append rfl opd opd (O8.ext E9 k9) O9.src full_slice (fun b hb => Or.inr (by omega)) (by have : (little (crc (padB g s m c))).length = 4 := rfl; omega) ?_
  intro a10 n10 h10 k10 O10 X10 w10
  have E10' : Ext n h h10 := (E8'.trans (by omega) E9).then (X10.ext (O8.ext E9 k9))
  rw [← List.length_append, ← bytesV_app] at O10
  rw [← List.length_append]
  repeat' (first | refine stpS ?_ | (refine stp2 ?_ ?_ <;> intro _))
  exact ⟨a10, rfl, E10', O10⟩
set_option maxHeartbeats 4000000 in
theorem sector_rf (g s m c : Int) (hg : i64 g) (hs : i64 s) (hm : i64 m) (hc : 0 ≤ c) (hc2 : c < 4294967296) (n : Nat) (h : AH) :
    RF Tryz.prog none' 82 #[.int .i64 g, .int .i64 s, .int .i64 m, .int .u32 c] n h (Row (markB g s m c) n h) := by
  refine RF.of Tryz.func82 rfl rfl (Nat.le_of_ble_eq_true rfl) ?_; dsimp only [argEnv]
  repeat' (first | refine stpS ?_ | (refine stp2 ?_ ?_ <;> intro _))
  refine RS.call rfl opds (newWriter_rf n h) none'W ?_
  rintro r n1 h1 hle1 ⟨rfl, hE1, hW1⟩
  repeat' (first | refine stpS ?_ | (refine stp2 ?_ ?_ <;> intro _))
  refine RS.put (v := .agg #[.int .i64 g, .int .i64 s, .int .i64 m, .int .i64 c]) rfl rfl (op_buildA Tc.out Tc.out (by simp [Value.cells, flat]) (by rfl) (by rfl)) ?_
  repeat' (first | refine stpS ?_ | (refine stp2 ?_ ?_ <;> intro _))
  have hci : i64 c := ⟨by omega, by omega⟩
  have l1 := form_le g hg.1 hg.2
  have l2 := form_le s hs.1 hs.2
  have l3 := form_le m hm.1 hm.2
  have l4 := form_le c hci.1 hci.2
  have hle := headB_le hg hs hm hci
  have hpl := padB_length hg hs hm hci
  refine RC.loop ?_
  refine RL.inv (α := Nat × Option Addr) (fun u => [(22, .int .i64 (u.1 : Nat)), (21, .agg #[.int .i64 g, .int .i64 s, .int .i64 m, .int .i64 c]), (9, .pointer (some ⟨n, 0, none⟩))])
    (fun u n2 h2 => u.1 ≤ 4 ∧ n1 ≤ n2 ∧ Ext n h h2 ∧ WrR h2 n n2 n u.2 ((([g, s, m, c] : List Int).take u.1).flatMap form))
    (fun u => 4 - u.1) (0, none) envs ⟨by omega, Nat.le_refl _, hE1, hW1⟩ ?_
  rintro ⟨i, a⟩ n2 h2 ⟨hi, hn2, hE2, hW2⟩
  dsimp only at hi hn2 hE2 hW2 ⊢
  by_cases hlt : i < 4
  · have hv : ∃ v, ([g, s, m, c] : List Int)[i]? = some v ∧ i64 v ∧ (#[.int .i64 g, .int .i64 s, .int .i64 m, .int .i64 c] : Array Value)[(i : Int).toNat * 1]? = some (.int .i64 v) := by
      rcases (show i = 0 ∨ i = 1 ∨ i = 2 ∨ i = 3 by omega) with rfl | rfl | rfl | rfl
      · exact ⟨g, rfl, hg, rfl⟩
      · exact ⟨s, rfl, hs, rfl⟩
      · exact ⟨m, rfl, hm, rfl⟩
      · exact ⟨c, rfl, hci, rfl⟩
    obtain ⟨v, hv1, hv2, hv3⟩ := hv
    have hvl := form_le v hv2.1 hv2.2
    have hnx : ((([g, s, m, c] : List Int).take (i + 1)).flatMap form) = ((([g, s, m, c] : List Int).take i).flatMap form) ++ form v := by
      obtain ⟨q1, q2⟩ := List.getElem?_eq_some_iff.1 hv1
      rw [List.take_succ_eq_append_getElem q1, List.flatMap_append, q2]; simp
    have hcur : ((([g, s, m, c] : List Int).take i).flatMap form).length ≤ 36 := by
      rcases (show i = 0 ∨ i = 1 ∨ i = 2 ∨ i = 3 by omega) with rfl | rfl | rfl | rfl <;> simp <;> omega
    repeat' (first | refine stpS ?_ | (refine stp2 ?_ ?_ <;> intro _))
    refine RS.put rfl rfl (op_indexA (m := 4) (e := 2) Uc.out Tc.out (Opd.ev opd) (Opd.ev opd) (by omega) (by omega) rfl hv3) ?_
    repeat' (first | refine stpS ?_ | (refine stp2 ?_ ?_ <;> intro _))
    refine RS.call rfl opds (wInt_rf n a _ v hv2.1 hv2.2 n n2 h2 hW2) (fun x hx => .inr (hW2.lo_of x hx)) ?_
    rintro r n3 h3 hle3 ⟨a3, rfl, hW3, hX3, -⟩
    rw [if_pos (by omega)] at hW3 ⊢
    rw [← hnx] at hW3
    repeat' (first | refine stpS ?_ | (refine stp2 ?_ ?_ <;> intro _))
    exact nextC.normal ⟨(i + 1, a3), by dsimp only; omega, envs, by dsimp only; omega, by omega, hE2.viaW hX3 (by omega) hW2.lo_of, hW3⟩
  · obtain rfl : i = 4 := by omega
    have hhd : ((([g, s, m, c] : List Int).take 4).flatMap form) = headB g s m c := by simp [headB]
    rw [hhd] at hW2
    repeat' (first | refine stpS ?_ | (refine stp2 ?_ ?_ <;> intro _))
    have hO0 : OwnSl (h2.app (.new n2 ⟨512, 0, true, 1⟩ (List.replicate 512 (.int .u8 0)))) n2 (n2 + 1) (some ⟨n2, 0, none⟩) 1 512 (bytesV (zeros 512)) := by
      have e9 : List.replicate 512 (Value.int .u8 0) = bytesV (zeros 512) := by unfold zeros bytesV; rw [List.map_replicate]; rfl
      rw [e9]
      exact OwnSl.new1 (Nat.le_refl n2) (by rw [bytesV_length]; exact List.length_replicate) (bytesV_known _)
    obtain ⟨aN, haN⟩ : ∃ aN : Option Addr, aN = some ⟨n2, 0, none⟩ := ⟨_, rfl⟩
    have hs0 : sub aN 0 = aN := by rw [haN]; rfl
    have hsb : sb aN = n2 := by rw [haN]; rfl
    have hne : aN ≠ none := by rw [haN]; simp
    rw [← haN] at hO0 ⊢
    clear haN
    refine RS.gen (fun gh => OwnSl gh n2 (n2 + 1) aN 1 512 (bytesV (zeros 512)) ∧ Ext n2 h2 gh) ⟨hO0, ext⟩ ?_
    clear hO0
    rintro gh ⟨hO, hE3⟩
    refine RS.call rfl opds (wOut_rf n a _ n (n2 + 1) gh (hW2.ext hE3 (Nat.le_succ _))) none'W ?_
    rintro r n3 h3 hle3 ⟨d, rfl, hE4, hO4⟩
    have hO3 := hO.ext hE4 hle3
    refine RS.copyO (i := 0) (k := 512) rfl (by rw [hs0]; exact opd) opd hO3 hO4.slb (by omega) hne (by omega) (.inl (.inr (by omega))) ?_
    intro hO5
    have hsp : splice (zeros 512) 0 (headB g s m c) = padB g s m c ++ zeros 4 := by
      unfold splice padB
      rw [List.take_zero, List.nil_append, Nat.zero_add, List.append_assoc]
      congr 1
      unfold zeros
      rw [List.drop_replicate, List.replicate_append_replicate]
      congr 1; omega
    rw [hsp] at hO5
    have hE5 : Ext n h (h3.app (.sets (sb aN) (so aN + 0) (bytesV (headB g s m c)))) := ((hE2.trans (by omega) hE3).trans (by omega) hE4).appSets (by omega)
    refine RS.gen (fun gh => OwnSl gh n2 n3 aN 1 512 (bytesV (padB g s m c ++ zeros 4)) ∧ Ext n h gh) ⟨hO5, hE5⟩ ?_
    clear hO5 hE5 hO3 hO4 hO
    rintro gh ⟨hO6, hE6⟩
    have hSP : SlB gh n3 aN (padB g s m c) := by
      have h1 := OwnSl.slbE hO6
      have h2 := SlB.take h1 (u := 508) (by rw [List.length_append, hpl]; omega)
      rwa [List.take_append_of_le_length (by omega), List.take_of_length_le (by omega)] at h2
    have hSl : SlI gh aN 1 512 := SlI.of hO6.slr (Ext.refl _ _)
    have hlN : sb aN < n3 := by omega
    repeat' (first | refine stpS ?_ | (refine stp2 ?_ ?_ <;> intro _))
    rw [show (Int.toNat 508) = (padB g s m c).length from hpl.symm]
    refine RS.gen (fun gh => OwnSl gh n2 (n3 + 1) aN 1 512 (bytesV (padB g s m c ++ zeros 4)) ∧ Ext n h gh ∧ SlQ gh (n3 + 1) (some ⟨n3, 0, none⟩) (fun j => (([(aN, padB g s m c)] : List (Option Addr × List UInt8)).getD j (none, [])).1) [padB g s m c]) ⟨hO6.ext ext (Nat.le_succ _), ext, slq_new [(aN, padB g s m c)] (fun x hx => by simp only [List.mem_singleton] at hx; subst hx; exact hSP)⟩ ?_
    clear hO6 hE6 hSP hSl
    rintro gh ⟨hO7, hE7, hQ⟩
    have hsum := sum_ev [padB g s m c] _ _ 1 (n3 + 1) gh hQ rfl (by omega) (by simp; omega)
    rw [show [padB g s m c].flatten = padB g s m c by simp] at hsum
    refine RS.call1 rfl opds hsum none'W ?_
    obtain ⟨z, hz⟩ : ∃ z, z = crc (padB g s m c) := ⟨_, rfl⟩
    have hzl : z < 4294967296 := by rw [hz]; exact crc_lt _
    rw [← hz]
    repeat' (first | refine stpS ?_ | (refine stp2 ?_ ?_ <;> intro _))
    refine RC.loop ?_
    refine RL.inv (α := Nat) (fun i => [(38, .int .i64 (i : Nat)), (12, .slice aN 512 512), (13, .int .u32 (z : Nat))])
      (fun i n4 h4 => i ≤ 4 ∧ n4 = n3 + 1 ∧ Ext n h h4 ∧ OwnSl h4 n2 (n3 + 1) aN 1 512 (bytesV (padB g s m c ++ (little z).take i ++ zeros (4 - i))))
      (fun i => 4 - i) 0 envs ⟨by omega, rfl, hE7, by simpa using hO7⟩ ?_
    rintro i n4 h4 ⟨hi, rfl, hE8, hO8⟩
    by_cases hlt : i < 4
    · obtain ⟨hso, hlo, hhi, hI, hA, -⟩ := hO8.facts (by omega)
      have hlv : ((z >>> (8 * i) : Nat) : Int) % 256 = (((little z).getD i 0).toNat : Nat) := by
        rw [Nat.shiftRight_eq_div_pow]
        rcases (show i = 0 ∨ i = 1 ∨ i = 2 ∨ i = 3 by omega) with rfl | rfl | rfl | rfl <;> simp [little, UInt8.toNat_ofNat'] <;> omega
      have hb : ((little z).getD i 0).toNat < 256 := UInt8.toNat_lt _
      repeat (first | (refine RS.put rfl rfl (o_convM_u8 (Opd.tmp Look.here)) ?_) | refine stpS ?_)
      have hst : (508 + (i : Int)).toNat = 508 + i := by omega
      have hsh : (8 * (i : Int)).toNat = 8 * i := by omega
      simp only [Int.toNat_natCast, hst, hsh, hlv]
      have hset := hO8.set1 (i := 508 + i) (v := .int .u8 (((little z).getD i 0).toNat : Nat)) (by omega) rfl
      have hnx : (bytesV (padB g s m c ++ (little z).take i ++ zeros (4 - i))).set (508 + i) (.int .u8 (((little z).getD i 0).toNat : Nat)) = bytesV (padB g s m c ++ (little z).take (i + 1) ++ zeros (4 - (i + 1))) := by
        rw [Cd.bytesV_set]
        congr 1
        have hll : (little z).length = 4 := rfl
        have h4 : 4 - i = (4 - (i + 1)) + 1 := by omega
        rw [List.take_succ_eq_append_getElem (by omega), h4]
        have hl1 : (padB g s m c ++ (little z).take i).length = 508 + i := by rw [List.length_append, List.length_take]; omega
        show (padB g s m c ++ (little z).take i ++ (0 :: zeros (4 - (i + 1)))).set (508 + i) _ = _
        rw [List.set_append_right _ _ (by omega), hl1, Nat.sub_self, List.set_cons_zero]
        have hg : (little z).getD i 0 = (little z)[i]'(by omega) := by simp [List.getD, show i < (little z).length by omega]
        rw [hg]
        simp only [List.append_assoc, List.cons_append, List.nil_append]
      rw [hnx] at hset
      exact nextC.normal ⟨i + 1, by omega, envs, by omega, rfl, hE8.appSets (by omega), hset⟩
    · obtain rfl : i = 4 := by omega
      have hfin : padB g s m c ++ (little z).take 4 ++ zeros (4 - 4) = markB g s m c := by
        have h1 : (little z).take 4 = little z := rfl
        have h2 : zeros (4 - 4) = [] := rfl
        rw [h1, h2, List.append_nil, hz]; rfl
      rw [hfin] at hO8
      have hml := markB_length hg hs hm hci
      repeat' (first | refine stpS ?_ | (refine stp2 ?_ ?_ <;> intro _))
      exact ⟨aN, by rw [hml], hE8, by rw [hml]; exact hO8.mono (by omega)⟩
end Go.Proofs.YtfbddbpbifnhfaaGreatDoor

/- Contracts of wal: a commit's mark, and what bytes say as one. -/
namespace Go.Proofs.YtfbddbpbifnhfaaGreatDoor
open Go.Abs Cd

def mkd (g s : Int) (b : List UInt8) : Int × Int × Bool :=
  let x1 := pI b
  let x2 := pI (b.drop x1.2.1)
  let x3 := pI ((b.drop x1.2.1).drop x2.2.1)
  let x4 := pI (((b.drop x1.2.1).drop x2.2.1).drop x3.2.1)
  if x1.2.2 = 0 ∧ x2.2.2 = 0 ∧ x3.2.2 = 0 ∧ x4.2.2 = 0 ∧ may g ∧ may s ∧ 0 ≤ x3.1 ∧ x3.1 ≤ 262144 ∧ (0 ≤ x4.1 ∧ x4.1 < 4294967296) ∧ b = markB g s x3.1 x4.1 then (x3.1, x4.1, true) else (0, 0, false)
def mkV (x : Int × Int × Bool) : Value := .tuple #[.int .i64 x.1, .int .u32 x.2.1, .bool x.2.2]
set_option maxHeartbeats 4000000 in
theorem marked_ev (g s : Int) (b : List UInt8) (a : Option Addr) (m n : Nat) (h : AH) (S : SlB h n a b) (e : m = b.length) (hm : m ≤ 1073741824) :
    Ev Tryz.prog none' 72 #[.slice a m m, .int .i64 g, .int .i64 s] n h (mkV (mkd g s b)) n h := by
  subst e
  refine RF.pure (by simp [mkV, flat]) fun n' hn => ?_
  have S := S.ext (Ext.refl n h) hn
  refine RF.of Tryz.func72 rfl rfl (Nat.le_of_ble_eq_true rfl) ?_; dsimp only [argEnv]
  repeat' (first | refine stpS ?_ | (refine stp2 ?_ ?_ <;> intro _))
  refine RS.call rfl opds (newReader_rf b a _ n' h S rfl hm) none'W ?_
  rintro r n1 h1 k1 ⟨w, a1, rfl, E1, R1, -⟩
  have hw := R1.lo
  have hT : ∀ x, x = w → none' x ∨ n' ≤ x := fun x hx => by subst hx; exact .inr hw
  repeat' (first | refine stpS ?_ | (refine stp2 ?_ ?_ <;> intro _))
  refine RS.call rfl opds (rInt_rf w a1 b n' n1 h1 R1) hT ?_
  rintro r n2 h2 k2 ⟨rfl, a2, R2, X2, -⟩
  obtain ⟨x1, hx1⟩ : ∃ x, x = pI b := ⟨_, rfl⟩
  rw [← hx1] at R2 ⊢
  repeat' (first | refine stpS ?_ | (refine stp2 ?_ ?_ <;> intro _))
  refine RS.call rfl opds (rInt_rf w a2 _ n' n2 h2 R2) hT ?_
  rintro r n3 h3 k3 ⟨rfl, a3, R3, X3, -⟩
  obtain ⟨x2, hx2⟩ : ∃ x, x = pI (b.drop x1.2.1) := ⟨_, rfl⟩
  rw [← hx2] at R3 ⊢
  repeat' (first | refine stpS ?_ | (refine stp2 ?_ ?_ <;> intro _))
  refine RS.call rfl opds (rInt_rf w a3 _ n' n3 h3 R3) hT ?_
  rintro r n4 h4 k4 ⟨rfl, a4, R4, X4, -⟩
  obtain ⟨x3, hx3⟩ : ∃ x, x = pI ((b.drop x1.2.1).drop x2.2.1) := ⟨_, rfl⟩
  rw [← hx3] at R4 ⊢
  repeat' (first | refine stpS ?_ | (refine stp2 ?_ ?_ <;> intro _))
  refine RS.call rfl opds (rInt_rf w a4 _ n' n4 h4 R4) hT ?_
  rintro r n5 h5 k5 ⟨rfl, a5, R5, X5, -⟩
  obtain ⟨x4, hx4⟩ : ∃ x, x = pI (((b.drop x1.2.1).drop x2.2.1).drop x3.2.1) := ⟨_, rfl⟩
  rw [← hx4] at R5 ⊢
  have hb4 : x4.2.2 = 0 → -9223372036854775808 ≤ x4.1 ∧ x4.1 < 9223372036854775808 := fun q => by
    obtain ⟨p1, p2, -⟩ := pI_ok (n := x4.1) (k := x4.2.1) (by rw [← hx4, ← q])
    exact ⟨p1, p2⟩
  have hb3 : x3.2.2 = 0 → i64 x3.1 := fun q => by
    obtain ⟨p1, p2, -⟩ := pI_ok (n := x3.1) (k := x3.2.1) (by rw [← hx3, ← q])
    exact ⟨p1, p2⟩
  have hS5 : SlB h5 n5 a b := S.ext (E1.trans (by omega) ((((ExtW.refl (· = w) n1 h1).trans X2 (Nat.le_refl _) (fun _ _ k => k)).trans X3 (by omega) (fun _ _ k => k)).trans X4 (by omega) (fun _ _ k => k) |>.trans X5 (by omega) (fun _ _ k => k) |>.extM (m := n') (by omega) (fun b hb => by omega))) (by omega : n' ≤ n5)
  have hD : mkd g s b = if x1.2.2 = 0 ∧ x2.2.2 = 0 ∧ x3.2.2 = 0 ∧ x4.2.2 = 0 ∧ may g ∧ may s ∧ 0 ≤ x3.1 ∧ x3.1 ≤ 262144 ∧ (0 ≤ x4.1 ∧ x4.1 < 4294967296) ∧ b = markB g s x3.1 x4.1 then (x3.1, x4.1, true) else (0, 0, false) := by
    unfold mkd; simp only [← hx1, ← hx2, ← hx3, ← hx4]
  clear hx1 hx2 hx3 hx4 R1 R2 R3 R4 R5 X2 X3 X4 X5
  have mg := may_ev g n5 h5
  have ms := may_ev s n5 h5
  by_cases p1 : x1.2.2 = 0
  rotate_left
  · have hD : mkd g s b = (0, 0, false) := by rw [hD, if_neg]; rintro ⟨z1, z2, z3, z4, zg, zs, y1, y2, y3, -⟩; exact p1 z1
    repeat' (first | refine stpS ?_ | (refine stp2 ?_ ?_ <;> intro _))
    all_goals (rw [hD]; rfl)
  by_cases p2 : x2.2.2 = 0
  rotate_left
  · have hD : mkd g s b = (0, 0, false) := by rw [hD, if_neg]; rintro ⟨z1, z2, z3, z4, zg, zs, y1, y2, y3, -⟩; exact p2 z2
    repeat' (first | refine stpS ?_ | (refine stp2 ?_ ?_ <;> intro _))
    all_goals (rw [hD]; rfl)
  by_cases p3 : x3.2.2 = 0
  rotate_left
  · have hD : mkd g s b = (0, 0, false) := by rw [hD, if_neg]; rintro ⟨z1, z2, z3, z4, zg, zs, y1, y2, y3, -⟩; exact p3 z3
    repeat' (first | refine stpS ?_ | (refine stp2 ?_ ?_ <;> intro _))
    all_goals (rw [hD]; rfl)
  by_cases p4 : x4.2.2 = 0
  rotate_left
  · have hD : mkd g s b = (0, 0, false) := by rw [hD, if_neg]; rintro ⟨z1, z2, z3, z4, zg, zs, y1, y2, y3, -⟩; exact p4 z4
    repeat' (first | refine stpS ?_ | (refine stp2 ?_ ?_ <;> intro _))
    all_goals (rw [hD]; rfl)
  by_cases pg : may g
  rotate_left
  · have hD : mkd g s b = (0, 0, false) := by rw [hD, if_neg]; rintro ⟨z1, z2, z3, z4, zg, zs, y1, y2, y3, -⟩; exact pg zg
    rw [decide_eq_false pg] at mg
    repeat' (first | refine stpS ?_ | (refine stp2 ?_ ?_ <;> intro _) | refine RS.call1 rfl opds (mg) none'W ?_ | refine RS.call1 rfl opds (ms) none'W ?_)
    all_goals (rw [hD]; rfl)
  rw [decide_eq_true pg] at mg
  by_cases ps : may s
  rotate_left
  · have hD : mkd g s b = (0, 0, false) := by rw [hD, if_neg]; rintro ⟨z1, z2, z3, z4, zg, zs, y1, y2, y3, -⟩; exact ps zs
    rw [decide_eq_false ps] at ms
    repeat' (first | refine stpS ?_ | (refine stp2 ?_ ?_ <;> intro _) | refine RS.call1 rfl opds (mg) none'W ?_ | refine RS.call1 rfl opds (ms) none'W ?_)
    all_goals (rw [hD]; rfl)
  rw [decide_eq_true ps] at ms
  by_cases q1 : 0 ≤ x3.1
  rotate_left
  · have hD : mkd g s b = (0, 0, false) := by rw [hD, if_neg]; rintro ⟨z1, z2, z3, z4, zg, zs, y1, y2, y3, -⟩; exact q1 y1
    repeat' (first | refine stpS ?_ | (refine stp2 ?_ ?_ <;> intro _) | refine RS.call1 rfl opds (mg) none'W ?_ | refine RS.call1 rfl opds (ms) none'W ?_)
    all_goals (rw [hD]; rfl)
  by_cases q2 : x3.1 ≤ 262144
  rotate_left
  · have hD : mkd g s b = (0, 0, false) := by rw [hD, if_neg]; rintro ⟨z1, z2, z3, z4, zg, zs, y1, y2, y3, -⟩; exact q2 y2
    repeat' (first | refine stpS ?_ | (refine stp2 ?_ ?_ <;> intro _) | refine RS.call1 rfl opds (mg) none'W ?_ | refine RS.call1 rfl opds (ms) none'W ?_)
    all_goals (rw [hD]; rfl)
  have hb4 := hb4 p4
  by_cases q3 : 0 ≤ x4.1 ∧ x4.1 < 4294967296
  rotate_left
  · have hD : mkd g s b = (0, 0, false) := by rw [hD, if_neg]; rintro ⟨z1, z2, z3, z4, zg, zs, y1, y2, y3, -⟩; exact q3 y3
    repeat (first | (refine RS.put rfl rfl (o_convM_u32 (Opd.tmp Look.here)) ?_) | (refine RS.decF rfl rfl (o_eql (a := x4.1) (b := x4.1 % 4294967296) opd opd) (by omega) ?_) | refine stpS ?_ | refine RS.call1 rfl opds mg none'W ?_ | refine RS.call1 rfl opds ms none'W ?_)
    all_goals (rw [hD]; rfl)
  repeat' (first | refine stpS ?_ | (refine stp2 ?_ ?_ <;> intro _))
  refine RS.call1 rfl opds mg none'W ?_
  repeat' (first | refine stpS ?_ | (refine stp2 ?_ ?_ <;> intro _))
  refine RS.call1 rfl opds ms none'W ?_
  repeat (first | (refine RS.put rfl rfl (o_conv_u32 (a := x4.1) (Opd.tmp Look.here) q3.1 q3.2) ?_) | refine stpS ?_)
  have hg := pg.i64
  have hs := ps.i64
  have hm3 : i64 x3.1 := ⟨by omega, by omega⟩
  refine RS.call rfl opds (sector_rf g s x3.1 x4.1 hg hs hm3 q3.1 q3.2 n5 h5) none'W ?_
  rintro r n6 h6 k6 ⟨a6, rfl, E6, O6⟩
  have heq := equal_ev b (markB g s x3.1 x4.1) a a6 _ _ n6 h6 (SlR.ext hS5 E6 k6) O6.slb rfl rfl
  by_cases hbm : b = markB g s x3.1 x4.1
  · have hD : mkd g s b = (x3.1, x4.1, true) := by rw [hD, if_pos]; exact ⟨p1, p2, p3, p4, pg, ps, q1, q2, q3, hbm⟩
    rw [decide_eq_true hbm] at heq
    refine RS.call1 rfl opds heq none'W ?_
    repeat (first | (refine RS.put rfl rfl (o_conv_u32 (a := x4.1) (Opd.tmp Look.here) q3.1 q3.2) ?_) | refine stpS ?_)
    rw [hD]; rfl
  · have hD : mkd g s b = (0, 0, false) := by rw [hD, if_neg]; rintro ⟨-, -, -, -, -, -, -, -, -, z⟩; exact hbm z
    rw [decide_eq_false hbm] at heq
    refine RS.call1 rfl opds heq none'W ?_
    repeat' (first | refine stpS ?_ | (refine stp2 ?_ ?_ <;> intro _))
    rw [hD]; rfl
end Go.Proofs.YtfbddbpbifnhfaaGreatDoor

/- Contracts of the document: what bytes say as a commit's mark. -/
namespace Go.Proofs.YtfbddbpbifnhfaaGreatDoor
open Go.Abs Cd

def atN (b : List UInt8) : Nat → Nat
  | 0 => 0
  | i + 1 => atN b i + (pI (b.drop (atN b i))).2.1
def xN (b : List UInt8) (i : Nat) : Int × Nat × Nat := pI (b.drop (atN b i))
theorem atN_le (b : List UInt8) (i : Nat) : atN b i ≤ b.length := by
  induction i with
  | zero => exact Nat.zero_le _
  | succ i ih =>
    have := pI_k (b.drop (atN b i))
    rw [List.length_drop] at this
    show atN b i + _ ≤ _
    omega
theorem mkd_N (g s : Int) (b : List UInt8) : mkd g s b = if (xN b 0).2.2 = 0 ∧ (xN b 1).2.2 = 0 ∧ (xN b 2).2.2 = 0 ∧ (xN b 3).2.2 = 0 ∧ may g ∧ may s ∧ 0 ≤ (xN b 2).1 ∧ (xN b 2).1 ≤ 262144 ∧ (0 ≤ (xN b 3).1 ∧ (xN b 3).1 < 4294967296) ∧ b = markB g s (xN b 2).1 (xN b 3).1 then ((xN b 2).1, (xN b 3).1, true) else (0, 0, false) := by
  have h0 : xN b 0 = pI b := rfl
  have h1 : xN b 1 = pI (b.drop (pI b).2.1) := by
    show pI (b.drop (0 + (pI (b.drop 0)).2.1)) = _
    rw [Nat.zero_add, List.drop_zero]
  have h2 : xN b 2 = pI ((b.drop (pI b).2.1).drop (pI (b.drop (pI b).2.1)).2.1) := by
    rw [← h1]
    show pI (b.drop (atN b 1 + (xN b 1).2.1)) = _
    rw [← List.drop_drop]
    congr 2
    show b.drop (0 + (pI (b.drop 0)).2.1) = _
    rw [Nat.zero_add, List.drop_zero]
  have h3 : xN b 3 = pI (((b.drop (pI b).2.1).drop (pI (b.drop (pI b).2.1)).2.1).drop (pI ((b.drop (pI b).2.1).drop (pI (b.drop (pI b).2.1)).2.1)).2.1) := by
    rw [← h2, ← h1]
    show pI (b.drop (atN b 2 + (xN b 2).2.1)) = _
    rw [← List.drop_drop]
    congr 2
    show b.drop (atN b 1 + (xN b 1).2.1) = _
    rw [← List.drop_drop]
    congr 1
    show b.drop (0 + (pI (b.drop 0)).2.1) = _
    rw [Nat.zero_add, List.drop_zero]
  unfold mkd
  rw [h3, h2, h1, h0]
set_option maxHeartbeats 4000000 in
theorem refMarked_ev (g s : Int) (b : List UInt8) (a : Option Addr) (m n : Nat) (h : AH) (S : SlB h n a b) (e : m = b.length) (hm : m ≤ 1073741824) :
    Ev Tryz.prog none' 88 #[.slice a m m, .int .i64 g, .int .i64 s] n h (mkV (mkd g s b)) n h := by
  subst e
  refine RF.pure (by simp [mkV, flat]) fun n' hn => ?_
  have S := S.ext (Ext.refl n h) hn
  refine RF.of Tryz.func88 rfl rfl (Nat.le_of_ble_eq_true rfl) ?_; dsimp only [argEnv]
  have mg := refMay_ev g n' h
  have ms := refMay_ev s n' h
  have hD := mkd_N g s b
  by_cases hlen : b.length = 512
  rotate_left
  · have hD : mkd g s b = (0, 0, false) := by
      rw [hD, if_neg]
      rintro ⟨z1, z2, z3, z4, zg, zs, y1, y2, y3, y4⟩
      refine hlen ?_
      rw [y4, markB_length zg.i64 zs.i64 ⟨by omega, by omega⟩ ⟨by omega, by omega⟩]
    repeat' (first | refine stpS ?_ | (refine stp2 ?_ ?_ <;> intro _))
    rw [hD]; rfl
  by_cases pg : may g
  rotate_left
  · have hD : mkd g s b = (0, 0, false) := by rw [hD, if_neg]; rintro ⟨z1, z2, z3, z4, zg, -⟩; exact pg zg
    rw [decide_eq_false pg] at mg
    repeat' (first | refine stpS ?_ | (refine stp2 ?_ ?_ <;> intro _))
    refine RS.call1 rfl opds mg none'W ?_
    repeat' (first | refine stpS ?_ | (refine stp2 ?_ ?_ <;> intro _))
    rw [hD]; rfl
  rw [decide_eq_true pg] at mg
  by_cases ps : may s
  rotate_left
  · have hD : mkd g s b = (0, 0, false) := by rw [hD, if_neg]; rintro ⟨z1, z2, z3, z4, zg, zs, -⟩; exact ps zs
    rw [decide_eq_false ps] at ms
    repeat' (first | refine stpS ?_ | (refine stp2 ?_ ?_ <;> intro _))
    refine RS.call1 rfl opds mg none'W ?_
    repeat' (first | refine stpS ?_ | (refine stp2 ?_ ?_ <;> intro _))
    refine RS.call1 rfl opds ms none'W ?_
    repeat' (first | refine stpS ?_ | (refine stp2 ?_ ?_ <;> intro _))
    rw [hD]; rfl
  rw [decide_eq_true ps] at ms
  repeat' (first | refine stpS ?_ | (refine stp2 ?_ ?_ <;> intro _))
  refine RS.call1 rfl opds mg none'W ?_
  repeat' (first | refine stpS ?_ | (refine stp2 ?_ ?_ <;> intro _))
  refine RS.call1 rfl opds ms none'W ?_
  repeat' (first | refine stpS ?_ | (refine stp2 ?_ ?_ <;> intro _))
  refine RC.loop ?_
  refine RL.inv (α := Nat) (fun i => [(11, .int .i64 (i : Nat)), (9, .int .i64 (atN b i : Nat)), (10, .pointer (some ⟨n', 0, none⟩)), (0, .slice a b.length b.length), (0 + 1, .int .i64 g), (0 + 1 + 1, .int .i64 s)])
    (fun i n1 h1 => i ≤ 4 ∧ n' < n1 ∧ Ext n' h h1 ∧ h1.info n' = some ⟨4, 0, true, 0⟩ ∧ ∀ j, j < i → h1.cell n' j = .int .i64 (xN b j).1 ∧ (xN b j).2.2 = 0)
    (fun i => 4 - i) 0 envs ⟨by omega, by omega, ext, info, fun j hj => by omega⟩ ?_
  rintro i n1 h1 ⟨hi, hn1, hE, hI, hC⟩
  have hS1 : SlB h1 n1 a b := SlR.ext S hE (by omega)
  have hal := atN_le b i
  by_cases hlt : i < 4
  · have hSd : SlB h1 n1 (sub a (atN b i)) (b.drop (atN b i)) := by
      have := SlB.cut hS1 hal (Nat.le_refl _)
      rwa [List.take_length] at this
    have hpi := parseInt_ev (b.drop (atN b i)) (sub a (atN b i)) (b.length - atN b i) n1 h1 hSd (by rw [List.length_drop]) (by omega)
    rw [show pI (b.drop (atN b i)) = xN b i from rfl] at hpi
    unfold pIV at hpi
    have hat : atN b (i + 1) = atN b i + (xN b i).2.1 := rfl
    have hal2 := atN_le b (i + 1)
    rw [hat] at hal2
    repeat' (first | refine stpS ?_ | (refine stp2 ?_ ?_ <;> intro _))
    rw [Int.toNat_natCast]
    refine RS.call1 rfl opds hpi none'W ?_
    by_cases he : (xN b i).2.2 = 0
    · repeat' (first | refine stpS ?_ | (refine stp2 ?_ ?_ <;> intro _))
      refine nextC.normal ⟨i + 1, by omega, ?_, by omega, hn1, hE.appSets (Nat.le_refl _), i_sets hI, fun j hj => ?_⟩
      · rw [hat, show ((atN b i + (xN b i).2.1 : Nat) : Int) = (atN b i : Int) + ((xN b i).2.1 : Nat) by omega, show ((i + 1 : Nat) : Int) = (i : Int) + 1 by omega]
        exact envs
      · by_cases q : j = i
        · subst q
          exact ⟨c_in (by omega) (by simp), he⟩
        · obtain ⟨q1, q2⟩ := hC j (by omega)
          exact ⟨c_out (by right; left; omega) q1, q2⟩
    · have hD : mkd g s b = (0, 0, false) := by
        rw [hD, if_neg]
        rintro ⟨z1, z2, z3, z4, -⟩
        rcases (show i = 0 ∨ i = 1 ∨ i = 2 ∨ i = 3 by omega) with rfl | rfl | rfl | rfl
        · exact he z1
        · exact he z2
        · exact he z3
        · exact he z4
      repeat' (first | refine stpS ?_ | (refine stp2 ?_ ?_ <;> intro _))
      rw [hD]; rfl
  · obtain rfl : i = 4 := by omega
    obtain ⟨c0, e0⟩ := hC 0 (by omega)
    obtain ⟨c1, e1⟩ := hC 1 (by omega)
    obtain ⟨c2, e2⟩ := hC 2 (by omega)
    obtain ⟨c3, e3⟩ := hC 3 (by omega)
    have hm2 : i64 (xN b 2).1 := by
      obtain ⟨p1, p2, -⟩ := pI_ok (b := b.drop (atN b 2)) (n := (xN b 2).1) (k := (xN b 2).2.1) (by rw [← e2]; rfl)
      exact ⟨p1, p2⟩
    obtain ⟨x2, hx2⟩ : ∃ x, x = (xN b 2).1 := ⟨_, rfl⟩
    obtain ⟨x3, hx3⟩ : ∃ x, x = (xN b 3).1 := ⟨_, rfl⟩
    rw [← hx2] at c2 hm2
    rw [← hx3] at c3
    have hD : mkd g s b = if 0 ≤ x2 ∧ x2 ≤ 262144 ∧ (0 ≤ x3 ∧ x3 < 4294967296) ∧ b = markB g s x2 x3 then (x2, x3, true) else (0, 0, false) := by
      rw [hD, ← hx2, ← hx3]
      simp only [e0, e1, e2, e3, pg, ps, true_and]
    by_cases q : 0 ≤ x2 ∧ x2 ≤ 262144 ∧ 0 ≤ x3 ∧ x3 < 4294967296
    · obtain ⟨q1, q2, q3, q4⟩ := q
      repeat' (first | refine stp ?_ | (refine stp2 ?_ ?_ <;> intro _))
      refine RD.call n1 rfl opds (refmark_rf g s x2 x3 pg.i64 ps.i64 hm2 q3 q4 n1 (h1.below n1)) (Nat.le_refl _) cfc ?_
      rintro r n2 h2 k2 ⟨a2, rfl, E2, O2⟩
      have E2 : Ext n1 h1 h2 := E2.via (Nat.le_refl _) (AH.below_ext h1 n1)
      have hSm := O2.slb
      have hSb := SlR.ext hS1 E2 k2
      have c2 := c_ext E2 hn1 c2
      have c3 := c_ext E2 hn1 c3
      have hn2 : n' < n2 := by omega
      have hsa : sb a < n' := SlR.lt S (by omega)
      have hsa1 : sb a < n1 := by omega
      by_cases hbm : b = markB g s x2 x3
      · have hD : mkd g s b = (x2, x3, true) := by rw [hD, if_pos]; exact ⟨q1, q2, ⟨q3, q4⟩, hbm⟩
        rw [hD]
        rw [← hbm] at hSm ⊢
        repeat' (first | refine stp ?_ | (refine stp2 ?_ ?_ <;> intro _))
        · rename_i q; exact absurd rfl q
        · rfl
      · have hD : mkd g s b = (0, 0, false) := by rw [hD, if_neg]; rintro ⟨-, -, -, z⟩; exact hbm z
        have hs2 : (⟨(markB g s x2 x3).toArray⟩ : ByteArray) ≠ ⟨b.toArray⟩ := fun e => hbm (by injection e with e; simpa using (congrArg Array.toList e).symm)
        repeat' (first | refine stp ?_ | (refine stp2 ?_ ?_ <;> intro _))
        rw [hD]; rfl
    · have hD : mkd g s b = (0, 0, false) := by rw [hD, if_neg]; rintro ⟨y1, y2, y3, -⟩; exact q ⟨y1, y2, y3⟩
      repeat' (first | refine stpS ?_ | (refine stp2 ?_ ?_ <;> intro _))
      all_goals (first | (rw [hD]; rfl) | (exfalso; omega))
end Go.Proofs.YtfbddbpbifnhfaaGreatDoor

/- Contracts of wal: whole sectors, and records in memory of one's own. -/
namespace Go.Proofs.YtfbddbpbifnhfaaGreatDoor
open Go.Abs Cd

def fillB (l : List UInt8) : List UInt8 := l ++ zeros ((l.length + 511) / 512 * 512 - l.length)
theorem fillB_length (l : List UInt8) : (fillB l).length = (l.length + 511) / 512 * 512 := by
  unfold fillB zeros
  rw [List.length_append, List.length_replicate]
  omega
set_option maxHeartbeats 4000000 in
theorem filled_rf (l : List UInt8) (a : Option Addr) (m n : Nat) (h : AH) (S : SlB h n a l) (e : m = l.length) (hm : m ≤ 1073741824) :
    RF Tryz.prog none' 51 #[.slice a m m] n h (Row (fillB l) n h) := by
  subst e
  refine RF.of Tryz.func51 rfl rfl (Nat.le_of_ble_eq_true rfl) ?_; dsimp only [argEnv]
  have hfl := fillB_length l
  repeat' (first | refine stpS ?_ | (refine stp2 ?_ ?_ <;> intro _))
  obtain ⟨k, hk⟩ : ∃ k, k = (l.length + 511) / 512 * 512 := ⟨_, rfl⟩
  have hk1 : l.length ≤ k := by omega
  have e1 : (((l.length : Int) + 512 - 1) / 512 * 512).toNat = k := by omega
  rw [e1]
  rw [← hk] at hfl
  have hO0 : OwnSl (h.app (.new n ⟨k, 0, true, 1⟩ (List.replicate k (.int .u8 0)))) n (n + 1) (some ⟨n, 0, none⟩) 1 k (bytesV (zeros k)) := by
    have e9 : List.replicate k (Value.int .u8 0) = bytesV (zeros k) := by unfold zeros bytesV; rw [List.map_replicate]; rfl
    rw [e9]
    exact OwnSl.new1 (Nat.le_refl n) (by rw [bytesV_length]; exact List.length_replicate) (bytesV_known _)
  obtain ⟨aN, haN⟩ : ∃ aN : Option Addr, aN = some ⟨n, 0, none⟩ := ⟨_, rfl⟩
  have hs0 : sub aN 0 = aN := by rw [haN]; rfl
  have hsb : sb aN = n := by rw [haN]; rfl
  have hne : aN ≠ none := by rw [haN]; simp
  rw [← haN] at hO0 ⊢
  clear haN
  refine RS.gen (fun gh => OwnSl gh n (n + 1) aN 1 k (bytesV (zeros k)) ∧ Ext n h gh) ⟨hO0, ext⟩ ?_
  clear hO0
  rintro gh ⟨hO, hE3⟩
  refine RS.copyO (i := 0) (k := k) rfl (by rw [hs0]; exact opd) opd hO (S.ext hE3 (Nat.le_succ n)) (by omega) hne hk1 (.inl (.inr (by omega))) ?_
  intro hO5
  have hsp : splice (zeros k) 0 l = fillB l := by
    unfold splice fillB
    rw [List.take_zero, List.nil_append, Nat.zero_add, ← hk]
    unfold zeros
    rw [List.drop_replicate]
  rw [hsp] at hO5
  repeat' (first | refine stpS ?_ | (refine stp2 ?_ ?_ <;> intro _))
  rw [← hfl] at hO5 ⊢
  exact ⟨aN, rfl, hE3.appSets (by omega), hO5⟩
def valsQ (ad : Nat → Option Addr) (ls : List (List UInt8)) : List (List Value) := (List.range ls.length).map fun j => [rowsF ad ls j]
set_option maxHeartbeats 4000000 in
theorem values1_iter (b1 : Nat) (a : Option Addr) (ad : Nat → Option Addr) (ls : List (List UInt8)) (hl : ls.length ≤ 1099511627776) :
    IterF Tryz.prog 98 [.pointer (some ⟨b1, 0, none⟩)] (valsQ ad ls) (fun n h => b1 < n ∧ h.cell b1 0 = .slice a ls.length ls.length ∧ SlQ h n a ad ls) := by
  intro W fv I D n h it hK h0 hn
  refine RF.of Tryz.func98 rfl rfl (Nat.le_of_ble_eq_true rfl) ?_; dsimp only [argEnv]
  obtain ⟨p1, p2, p3⟩ := hK 0 n h h0
  repeat' (first | refine stpS ?_ | (refine stp2 ?_ ?_ <;> intro _))
  refine RC.loop ?_
  refine RL.inv (α := Nat) (fun s => [(7, .int .i64 (s : Nat)), (6, .int .i64 (ls.length : Nat)), (5, .slice a ls.length ls.length), (0, fv)])
    (fun s n1 h1 => s ≤ ls.length ∧ n ≤ n1 ∧ I s n1 h1) (fun s => ls.length - s) 0 envs ⟨Nat.zero_le _, Nat.le_refl _, h0⟩ ?_
  rintro k n1 h1 ⟨hk, hn1, hI⟩
  obtain ⟨q1, q2, q3⟩ := hK k n1 h1 hI
  have hout := q3.out
  by_cases hlt : k < ls.length
  · have hv : (valsQ ad ls)[k]? = some [rowsF ad ls k] := by simp [valsQ, List.getElem?_range hlt]
    have hval := it.step k _ n1 h1 hv hI
    unfold rowsF at hval
    repeat' (first | refine stpS ?_ | (refine stp2 ?_ ?_ <;> intro _))
    refine RS.callV rfl opd opds hval (fun b hb => .inl hb) ?_
    rintro r n2 h2 hle (⟨rfl, hI2⟩ | ⟨rfl, hD⟩)
    · repeat' (first | refine stpS ?_ | (refine stp2 ?_ ?_ <;> intro _))
      exact nextC.normal ⟨k + 1, by omega, envs, by omega, by omega, hI2⟩
    · repeat' (first | refine stpS ?_ | (refine stp2 ?_ ?_ <;> intro _))
      exact .inr hD
  · obtain rfl : k = ls.length := by omega
    repeat' (first | refine stpS ?_ | (refine stp2 ?_ ?_ <;> intro _))
    rw [show (valsQ ad ls).length = ls.length by simp [valsQ]]
    exact .inl hI
def cmL (M : List (Option Addr × List UInt8)) : List RowO := M.map fun x => (x.1, x.2.length, bytesV x.2)
def Cm (h : AH) (n0 n : Nat) (a : Option Addr) (M : List (Option Addr × List UInt8)) : Prop := OwnRR h n0 n0 n a 1 (cmL M)
theorem Cm.slq {h : AH} {n0 n : Nat} {a : Option Addr} {M : List (Option Addr × List UInt8)} (c : Cm h n0 n a M) : SlQ h n a (fun j => (M.getD j (none, [])).1) (M.map (·.2)) := by
  have hg : ∀ j, j < M.length → ∃ x, M[j]? = some x ∧ (cmL M)[j]? = some (x.1, x.2.length, bytesV x.2) := fun j hj => by
    refine ⟨M[j], List.getElem?_eq_getElem hj, ?_⟩
    unfold cmL
    rw [List.getElem?_map, List.getElem?_eq_getElem hj]; rfl
  refine ⟨?_, fun j hj => ?_⟩
  · have := OwnSl.slr c.out
    rw [show (cmL M).length = (M.map (·.2)).length by simp [cmL]] at this
    refine this.congr fun j hj => ?_
    rw [List.length_map, Nat.mul_one] at hj
    obtain ⟨x, h1, h2⟩ := hg j hj
    simp [rowsF, List.getD, List.getElem?_map, h1, h2, RowO.v]
  · rw [List.length_map] at hj
    obtain ⟨x, h1, h2⟩ := hg j hj
    have := OwnSl.slbE (c.inn j _ h2)
    simpa [List.getD, List.getElem?_map, h1] using this
end Go.Proofs.YtfbddbpbifnhfaaGreatDoor

/- Contracts of wal: records copied. -/
namespace Go.Proofs.YtfbddbpbifnhfaaGreatDoor
open Go.Abs Cd

set_option maxHeartbeats 4000000 in
theorem values_rf (ad : Nat → Option Addr) (ls : List (List UInt8)) (a : Option Addr) (n : Nat) (h : AH) (S : SlQ h n a ad ls) :
    RF Tryz.prog none' 83 #[.slice a ls.length ls.length] n h (fun r n' h' => r = .func (.func 98) #[] #[.pointer (some ⟨n, 0, none⟩)] ∧ n' = n + 1 ∧ Ext n h h' ∧ h'.cell n 0 = .slice a ls.length ls.length) := by
  refine RF.of Tryz.func83 rfl rfl (Nat.le_of_ble_eq_true rfl) ?_; dsimp only [argEnv]
  repeat' (first | refine stpS ?_ | (refine stp2 ?_ ?_ <;> intro _))
  exact ⟨rfl, rfl, ext, cell⟩
theorem extW_own {h h1 : AH} {n0 n m k nn : Nat} {a : Option Addr} {cs : List Value} {W : Nat → Prop} (o : OwnSl h n0 n a m k cs) (E : ExtW W nn h h1) (hn : n ≤ nn) (hW : ∀ b, n0 ≤ b → b < n → ¬ W b) : OwnSl h1 n0 n a m k cs :=
  o.extW E (Nat.le_refl _) hn fun q => hW _ (o.at'.resolve_left q).1 (o.at'.resolve_left q).2
theorem cmL_length (M : List (Option Addr × List UInt8)) : (cmL M).length = M.length := by simp [cmL]
theorem cmL_snoc (M : List (Option Addr × List UInt8)) (x : Option Addr × List UInt8) : cmL (M ++ [x]) = cmL M ++ [(x.1, x.2.length, bytesV x.2)] := by simp [cmL]
set_option maxHeartbeats 4000000 in
theorem own_rf (ls : List (List UInt8)) (ad : Nat → Option Addr) (a : Option Addr) (m n : Nat) (h : AH) (S : SlQ h n a ad ls) (e : m = ls.length) (hm : m ≤ 1099511627776) (hl : ∀ l ∈ ls, l.length ≤ 1099511627776) (hn : 0 < n) :
    RF Tryz.prog none' 52 #[.slice a m m] n h (fun r n' h' => ∃ a' M, r = .slice a' m m ∧ Ext n h h' ∧ Cm h' n n' a' M ∧ M.map (·.2) = ls) := by
  subst e
  refine RF.of Tryz.func52 rfl rfl (Nat.le_of_ble_eq_true rfl) ?_; dsimp only [argEnv]
  repeat' (first | refine stpS ?_ | (refine stp2 ?_ ?_ <;> intro _))
  refine RS.gen (fun g => Ext n h g ∧ g.info n = some ⟨1, 0, true, 0⟩ ∧ g.cell n 0 = .slice none 0 0) ⟨ext, info, cell⟩ ?_
  rintro g ⟨E0, i0, c0⟩
  refine RS.call rfl opds (values_rf ad ls a (n + 1) g (S.ext E0 (Nat.le_succ n))) none'W ?_
  rintro r n1 h1 k1 ⟨rfl, rfl, E1, cv⟩
  have E1' : Ext n h h1 := E0.trans (Nat.le_succ n) E1
  have c1 := c_ext E1 (Nat.lt_succ_self n) c0
  have i1 := (E1.info n (Nat.lt_succ_self n)).trans i0
  have S1 := S.ext E1' (by omega : n ≤ n + 1 + 1)
  repeat' (first | refine stpS ?_ | (refine stp2 ?_ ?_ <;> intro _))
  refine RC.rangeFunc opd (env0 := [(3, .pointer (some ⟨n, 0, none⟩))]) envs (W := fun b => b = n ∨ n + 1 + 1 ≤ b) (by intro b hb; first | omega | (dsimp only at hb ⊢; omega) | (dsimp only at hb; omega) | (dsimp only; omega)) ?_
  intro A hA
  have hvl : (valsQ ad ls).length = ls.length := by simp [valsQ]
  refine (values1_iter (n + 1) a ad ls hm _ _
    (fun k n6 h6 => n + 1 + 1 + 1 ≤ n6 ∧ ExtW (fun b => b = n ∨ b = n + 1 + 1) (n + 1 + 1 + 1) (h1.app (.obj (n + 1 + 1) (.loop A))) h6 ∧ h6.info (n + 1 + 1) = some (AObj.loop A).m ∧ h6.info n = some ⟨1, 0, true, 0⟩ ∧ k ≤ ls.length ∧
      ∃ s M, h6.cell n 0 = .slice s k k ∧ Cm h6 (n + 1 + 1 + 1) n6 s M ∧ M.map (·.2) = ls.take k)
    (fun _ _ => False) _ _ ⟨?_, ?_⟩ ?_ ?_ (by omega)).mono ?_
  · rintro k n6 h6 n7 h7 ⟨q1, q2, q3, q4, q5, s, M, q6, q7, q8⟩ hn hE
    exact ⟨by omega, extW, (hE.info _ (by omega)).trans q3, (hE.info _ (by omega)).trans q4, q5, s, M, c_ext hE (by omega) q6, OwnRR.ext q7 hE hn, q8⟩
  · rintro k vs n6 h6 hv ⟨q1, q2, q3, q4, q5, s, M, q6, q7, q8⟩
    have hkl : k < ls.length := by
      have := (List.getElem?_eq_some_iff.1 hv).1
      rwa [hvl] at this
    have hvs : vs = [rowsF ad ls k] := by
      simp only [valsQ, List.getElem?_map, List.getElem?_range hkl, Option.map_some, Option.some.injEq] at hv
      exact hv.symm
    subst hvs
    have hMl : M.length = k := by have := congrArg List.length q8; simp at this; omega
    have hlk : (ls.getD k []).length ≤ 1099511627776 := hl _ (by simp [List.getD, List.getElem?_eq_getElem hkl])
    have htk : ls.take (k + 1) = ls.take k ++ [ls.getD k []] := by rw [List.take_succ_eq_append_getElem hkl]; simp [List.getD, hkl]
    have EW : ExtW (fun b => b = n ∨ b = n + 1 + 1) (n + 1 + 1) h1 (h6.app (.obj (n + 1 + 1) (.loop A.busy))) := extW
    have E6 : Ext n h (h6.app (.obj (n + 1 + 1) (.loop A.busy))) := E1'.trans (by omega) (EW.extM (by omega : n ≤ n + 1 + 1) (fun b q => by omega))
    have hrow := (S.ext E6 (by omega : n ≤ n6)).row k hkl
    have kj : (h6.app (.obj (n + 1 + 1) (.loop A.busy))).info n = some ⟨1, 0, true, 0⟩ := i_obj_ne (by omega) q4
    have ko : (h6.app (.obj (n + 1 + 1) (.loop A.busy))).info (n + 1 + 1) = some (AObj.loop A.busy).m := i_obj
    have kc : (h6.app (.obj (n + 1 + 1) (.loop A.busy))).cell n 0 = .slice s k k := c_obj q6
    have kM : Cm (h6.app (.obj (n + 1 + 1) (.loop A.busy))) (n + 1 + 1 + 1) n6 s M := by
      have e : ExtW (fun b => b = n + 1 + 1) n6 h6 (h6.app (.obj (n + 1 + 1) (.loop A.busy))) := ExtW.appObj (.inl rfl) (ExtW.refl _ _ _)
      exact ⟨extW_own q7.out e (Nat.le_refl _) (fun b z1 z2 z3 => by have : b = n + 1 + 1 := z3; omega), fun i x hx => extW_own (q7.inn i x hx) e (Nat.le_refl _) (fun b z1 z2 z3 => by have : b = n + 1 + 1 := z3; omega), q7.sep, q7.dis⟩
    have EW2 : ExtW (fun b => b = n ∨ b = n + 1 + 1) (n + 1 + 1 + 1) (h1.app (.obj (n + 1 + 1) (.loop A))) (h6.app (.obj (n + 1 + 1) (.loop A.busy))) := extW
    refine VF.yield1 hA q3 rfl (.inr (Nat.le_refl _)) (by omega) ?_
    unfold rowsF
    repeat' (first | refine stpS ?_ | (refine stp2 ?_ ?_ <;> intro _))
    repeat' (first | refine stp ?_ | (refine stp2 ?_ ?_ <;> intro _))
    generalize h6.app (.obj (n + 1 + 1) (.loop A.busy)) = g6 at *
    refine RD.call n6 rfl opds (clone_rf (ls.getD k []) (ad k) (ls.getD k []).length n6 (g6.below n6) (hrow.ext (AH.below_ext _ _) (Nat.le_refl _)) rfl hlk) (Nat.le_refl _) cfc ?_
    rintro r n7 h7 hle7 ⟨c7, rfl, E7, O7⟩
    have E7 : Ext n6 g6 h7 := E7.via (Nat.le_refl _) (AH.below_ext g6 n6)
    have kj7 := (E7.info _ (by omega)).trans kj
    have ko7 := (E7.info _ (by omega)).trans ko
    have kc7 := c_ext E7 (by omega) kc
    have kM7 : Cm h7 (n + 1 + 1 + 1) n7 s M := OwnRR.ext kM E7 hle7
    repeat' (first | refine stp ?_ | (refine stp2 ?_ ?_ <;> intro _))
    obtain ⟨g8, hg⟩ : ∃ g8, g8 = h7.app (.new n7 ⟨1, 0, true, 1⟩ [.slice c7 (ls.getD k []).length (ls.getD k []).length]) := ⟨_, rfl⟩
    refine RD.heap hg ?_
    have E8 : Ext n7 h7 g8 := by rw [hg]; exact ext
    have hnew : OwnSl g8 n7 (n7 + 1) (some ⟨n7, 0, none⟩) 1 1 [.slice c7 (ls.getD k []).length (ls.getD k []).length] := by rw [hg]; exact OwnSl.new (m := 1) (z := 1) (Nat.le_refl _) rfl rfl
    clear hg
    have kM8 : Cm g8 (n + 1 + 1 + 1) (n7 + 1) s M := OwnRR.ext kM7 E8 (Nat.le_succ _)
    have kj8 := (E8.info _ (by omega)).trans kj7
    have ko8 := (E8.info _ (by omega)).trans ko7
    have hO8 := kM8.out
    rw [cmL_length, hMl] at hO8
    have hi0 : ¬ inA s n := fun q => by
      have := q7.out.at'.resolve_left q.1
      have := q.2
      omega
    have hWl : ∀ b, inA s b → b < n7 + 1 := fun b q => by
      have := q7.out.at'.resolve_left q.1
      have := q.2
      omega
    refine RD.appendT (n7 + 1) rfl opd opd hO8 (hnew.ext (AH.below_ext _ _) (Nat.le_refl _)).src full_slice (fun q => .inl (.inr (by have := q7.out.at'.resolve_left q; omega))) (by omega) (Nat.le_refl _) cfw ?_
    intro s' n9 h9 hle9 hO9 hX9 hwh
    have hsn : ∀ x, x ≤ n + 1 + 1 → s = none ∨ x ≠ sb s := fun x hx => q7.out.at'.imp id fun w => by omega
    have kj9 : h9.info n = some ⟨1, 0, true, 0⟩ := i_extX hX9 (by omega) (hsn _ (by omega)) kj8
    have ko9 : h9.info (n + 1 + 1) = some (AObj.loop A.busy).m := i_extX hX9 (by omega) (hsn _ (Nat.le_refl _)) ko8
    have hcn : c7 = none ∨ n6 ≤ sb c7 := O7.at'.imp id (·.1)
    have kM9 : Cm h9 (n + 1 + 1 + 1) n9 s' (M ++ [(c7, ls.getD k [])]) := by
      have := OwnRR.push (e := (c7, (ls.getD k []).length, bytesV (ls.getD k []))) kM8 ((O7.ext E8 (Nat.le_succ _)).mono (by omega)) (Apart.of (n := n6) (q7.out.at'.imp id (·.2)) hcn)
        (fun i f hf => (Apart.of (n := n6) ((q7.inn i f hf).at'.imp id (·.2)) hcn).symm) hX9 hle9 (by rw [cmL_length, hMl]; exact hO9) hwh
      unfold Cm
      rw [cmL_snoc]
      exact this
    have EW9 : ExtW (fun b => b = n ∨ b = n + 1 + 1) (n + 1 + 1 + 1) (h1.app (.obj (n + 1 + 1) (.loop A))) h9 := (EW2.then (E7.trans hle7 E8) (by omega)).then (hX9.ext hO8) (by omega)
    repeat' (first | refine stp ?_ | (refine stp2 ?_ ?_ <;> intro _))
    refine .inl ⟨rfl, by omega, extW, info, info, hkl, s', M ++ [(c7, ls.getD k [])], cell, ?_, ?_⟩
    · have kM10 : Cm (h9.app (.sets n 0 [.slice s' (k + 1) (k + 1)])) (n + 1 + 1 + 1) n9 s' (M ++ [(c7, ls.getD k [])]) := OwnRR.setsN kM9 (kM9.out.at'.imp id fun w => by omega) (by omega)
      have e : ExtW (fun b => b = n + 1 + 1) n9 (h9.app (.sets n 0 [.slice s' (k + 1) (k + 1)])) ((h9.app (.sets n 0 [.slice s' (k + 1) (k + 1)])).app (.obj (n + 1 + 1) (.loop A))) := ExtW.appObj (.inl rfl) (ExtW.refl _ _ _)
      exact ⟨extW_own kM10.out e (Nat.le_refl _) (fun b z1 z2 z3 => by have : b = n + 1 + 1 := z3; omega), fun i x hx => extW_own (kM10.inn i x hx) e (Nat.le_refl _) (fun b z1 z2 z3 => by have : b = n + 1 + 1 := z3; omega), kM10.sep, kM10.dis⟩
    · rw [List.map_append, q8, htk]; rfl
  · rintro k n6 h6 ⟨q1, q2, q3, q4, q5, s, M, q6, q7, q8⟩
    have EW : ExtW (fun b => b = n ∨ b = n + 1 + 1) (n + 1 + 1) h1 h6 := extW
    exact ⟨by omega, c_extW q2 (by omega) (by omega) (c_obj cv), S.ext (E1'.trans (by omega) (EW.extM (by omega : n ≤ n + 1 + 1) (fun b q => by omega))) (by omega)⟩
  · exact ⟨by omega, extW, info, info, Nat.zero_le _, none, [], cell, OwnRR.nil (by omega), rfl⟩
  · rintro r n6 h6 (⟨q1, q2, q3, q4, q5, s, M, q6, q7, q8⟩ | q)
    · refine rangeC.normal q3 ?_
      repeat' (first | refine stpS ?_ | (refine stp2 ?_ ?_ <;> intro _))
      rw [hvl] at q8 ⊢
      rw [List.take_length] at q8
      have EW : ExtW (fun b => b = n ∨ b = n + 1 + 1) (n + 1 + 1) h1 (h6.app (.obj (n + 1 + 1) (.loop A.over))) := extW
      refine ⟨s, M, rfl, E1'.trans (by omega) (EW.extM (by omega : n ≤ n + 1 + 1) (fun b q => by omega)), ?_, q8⟩
      have e : ExtW (fun b => b = n + 1 + 1) n6 h6 (h6.app (.obj (n + 1 + 1) (.loop A.over))) := ExtW.appObj (.inl rfl) (ExtW.refl _ _ _)
      have : Cm (h6.app (.obj (n + 1 + 1) (.loop A.over))) (n + 1 + 1 + 1) n6 s M := ⟨extW_own q7.out e (Nat.le_refl _) (fun b z1 z2 z3 => by have : b = n + 1 + 1 := z3; omega), fun i x hx => extW_own (q7.inn i x hx) e (Nat.le_refl _) (fun b z1 z2 z3 => by have : b = n + 1 + 1 := z3; omega), q7.sep, q7.dis⟩
      exact OwnRR.mono this (by omega) (by omega)
    · exact q.elim
end Go.Proofs.YtfbddbpbifnhfaaGreatDoor

/- Contracts of wal: a commit's records. -/
namespace Go.Proofs.YtfbddbpbifnhfaaGreatDoor
open Go.Abs Cd

def restN (b : List UInt8) : Nat → List UInt8
  | 0 => b
  | i + 1 => (restN b i).drop (pB (restN b i)).2.1
def recN (b : List UInt8) (i : Nat) : Cd.PB := pB (restN b i)
def rowsN (b : List UInt8) (k : Nat) : List (List UInt8) := (List.range k).map fun i => (recN b i).1
def recordsP (l : List UInt8) : List (List UInt8) × Bool :=
  if (pI l).2.2 = 0 ∧ 1 ≤ (pI l).1 ∧ (pI l).1 ≤ 4096 ∧ ∀ i, i < (pI l).1.toNat → (recN (l.drop (pI l).2.1) i).2.2 = 0 then
    (rowsN (l.drop (pI l).2.1) (pI l).1.toNat, decide (restN (l.drop (pI l).2.1) (pI l).1.toNat = []))
  else ([], false)
theorem restN_len (b : List UInt8) (i : Nat) : (restN b i).length ≤ b.length := by
  induction i with
  | zero => exact Nat.le_refl _
  | succ i ih => show ((restN b i).drop _).length ≤ _; rw [List.length_drop]; omega
theorem rowsN_succ (b : List UInt8) (k : Nat) : rowsN b (k + 1) = rowsN b k ++ [(recN b k).1] := by
  unfold rowsN
  rw [List.range_succ, List.map_append]; rfl
theorem recN_len (b : List UInt8) (i : Nat) : (recN b i).1.length ≤ b.length := by
  rcases pB_err (restN b i) with h | ⟨h, -⟩
  · have := pB_le (b := restN b i) (l := (recN b i).1) (k := (recN b i).2.1) (by rw [← h]; rfl)
    have := restN_len b i
    omega
  · show (pB (restN b i)).1.length ≤ _
    rw [h]; exact Nat.zero_le _
theorem Cm.ext {h h1 : AH} {n0 n n1 : Nat} {a : Option Addr} {M : List (Option Addr × List UInt8)} (c : Cm h n0 n a M) (E : Ext n h h1) (hn : n ≤ n1) : Cm h1 n0 n1 a M := OwnRR.ext c E hn
theorem Cm.extW {W : Nat → Prop} {h h1 : AH} {n0 n nn : Nat} {a : Option Addr} {M : List (Option Addr × List UInt8)} (c : Cm h n0 n a M) (e : ExtW W nn h h1) (hn : n ≤ nn) (hW : ∀ b, n0 ≤ b → b < n → ¬ W b) : Cm h1 n0 n a M :=
  ⟨extW_own c.out e hn hW, fun i x hx => extW_own (c.inn i x hx) e hn hW, c.sep, c.dis⟩
theorem Cm.mono {h : AH} {n0 n n0' : Nat} {a : Option Addr} {M : List (Option Addr × List UInt8)} (c : Cm h n0 n a M) (h1 : n0' ≤ n0) : Cm h n0' n a M := OwnRR.mono c h1 h1
theorem Cm.up {h : AH} {n0 n n1 : Nat} {a : Option Addr} {M : List (Option Addr × List UInt8)} (c : Cm h n0 n a M) (hn : n ≤ n1) : Cm h n0 n1 a M := c.ext (Ext.refl _ _) hn
theorem rdR_extX {h h1 : AH} {n0 n n1 w : Nat} {a s : Option Addr} {b : List UInt8} (R : RdR h n0 n w a b) (E : ExtX n s h h1) (hn : n ≤ n1) (hw : s = none ∨ w ≠ sb s) (ha : s = none ∨ a = none ∨ sb a ≠ sb s) : RdR h1 n0 n1 w a b := by
  obtain ⟨e1, e2⟩ := E w R.hi hw
  exact ⟨R.lo, Nat.lt_of_lt_of_le R.hi hn, e1.trans R.inf, (e2 0).trans R.made, (e2 1).trans R.sl, (SlR.extX R.bs E ha).ext (Ext.refl _ _) hn, R.ne, R.le⟩
set_option maxHeartbeats 4000000 in
theorem records_rf (l : List UInt8) (a : Option Addr) (m n : Nat) (h : AH) (S : SlB h n a l) (e : m = l.length) (hm : m ≤ 1073741824) :
    RF Tryz.prog none' 73 #[.slice a m m] n h (fun r n' h' => ∃ a' M, r = .tuple #[.slice a' M.length M.length, .bool (recordsP l).2] ∧ Ext n h h' ∧ Cm h' n n' a' M ∧ M.map (·.2) = (recordsP l).1) := by
  subst e
  refine RF.of Tryz.func73 rfl rfl (Nat.le_of_ble_eq_true rfl) ?_; dsimp only [argEnv]
  repeat' (first | refine stpS ?_ | (refine stp2 ?_ ?_ <;> intro _))
  refine RS.call rfl opds (newReader_rf l a _ n h S rfl hm) none'W ?_
  rintro r n1 h1 k1 ⟨w, a1, rfl, E1, R1, -⟩
  have hw := R1.lo
  have hwn := R1.hi
  have hT : ∀ x, x = w → none' x ∨ n ≤ x := fun x hx => by subst hx; exact .inr hw
  repeat' (first | refine stpS ?_ | (refine stp2 ?_ ?_ <;> intro _))
  refine RS.call rfl opds (rInt_rf w a1 l n n1 h1 R1) hT ?_
  rintro r n2 h2 k2 ⟨rfl, a2, R2, X2, -⟩
  have E2 : Ext n h h2 := E1.viaW X2 k1 (fun x hx => by omega)
  have hD : recordsP l = if (pI l).2.2 = 0 ∧ 1 ≤ (pI l).1 ∧ (pI l).1 ≤ 4096 ∧ ∀ i, i < (pI l).1.toNat → (recN (l.drop (pI l).2.1) i).2.2 = 0 then (rowsN (l.drop (pI l).2.1) (pI l).1.toNat, decide (restN (l.drop (pI l).2.1) (pI l).1.toNat = [])) else ([], false) := rfl
  obtain ⟨x, hx⟩ : ∃ x, x = pI l := ⟨_, rfl⟩
  rw [← hx] at R2 hD ⊢
  have no : recordsP l = ([], false) → ∀ {n' : Nat} {h' : AH}, n ≤ n' → Ext n h h' → ∃ a' M, Value.tuple #[.slice none 0 0, .bool false] = .tuple #[.slice a' M.length M.length, .bool (recordsP l).2] ∧ Ext n h h' ∧ Cm h' n n' a' M ∧ M.map (·.2) = (recordsP l).1 := fun q n' h' hn E => by
    rw [q]; exact ⟨none, [], rfl, E, OwnRR.nil hn, rfl⟩
  by_cases p1 : x.2.2 = 0
  rotate_left
  · have hD : recordsP l = ([], false) := by rw [hD, if_neg]; rintro ⟨z1, -⟩; exact p1 z1
    repeat' (first | refine stpS ?_ | (refine stp2 ?_ ?_ <;> intro _))
    exact no hD (by omega) E2
  by_cases p2 : 1 ≤ x.1 ∧ x.1 ≤ 4096
  rotate_left
  · have hD : recordsP l = ([], false) := by rw [hD, if_neg]; rintro ⟨z1, z2, z3, -⟩; exact p2 ⟨z2, z3⟩
    repeat' (first | refine stpS ?_ | (refine stp2 ?_ ?_ <;> intro _))
    all_goals (first | exact no hD (by omega) E2 | (exfalso; omega))
  obtain ⟨b0, hb0⟩ : ∃ b0, b0 = l.drop x.2.1 := ⟨_, rfl⟩
  rw [← hb0] at R2 hD
  obtain ⟨K, hK⟩ : ∃ K : Nat, x.1 = K := ⟨x.1.toNat, by omega⟩
  rw [hK] at hD p2 ⊢
  have hD : recordsP l = if ∀ i, i < K → (recN b0 i).2.2 = 0 then (rowsN b0 K, decide (restN b0 K = [])) else ([], false) := by
    rw [hD]; simp only [p1, p2, true_and, Int.toNat_natCast]
  repeat' (first | refine stpS ?_ | (refine stp2 ?_ ?_ <;> intro _))
  refine RC.loop ?_
  refine RL.inv (α := Nat × Option Addr × Option Addr × List (Option Addr × List UInt8)) (fun u => [(28, .int .i64 (u.1 : Nat)), (27, .int .i64 (K : Nat)), (7, .slice u.2.2.1 u.1 u.1), (4, .pointer (some ⟨w, 0, none⟩))])
    (fun u n3 h3 => u.1 ≤ K ∧ n2 ≤ n3 ∧ Ext n h h3 ∧ RdR h3 n n3 w u.2.1 (restN b0 u.1) ∧ (u.2.1 = none ∨ sb u.2.1 < n2) ∧ Cm h3 n2 n3 u.2.2.1 u.2.2.2 ∧ u.2.2.2.map (·.2) = rowsN b0 u.1 ∧ ∀ i, i < u.1 → (recN b0 i).2.2 = 0)
    (fun u => K - u.1) (0, a2, none, []) envs ⟨by omega, Nat.le_refl _, E2, R2, (by by_cases q : a2 = none; exact .inl q; exact .inr (SlR.ltA R2.bs q)), OwnRR.nil (Nat.le_refl _), rfl, fun i hi => by omega⟩ ?_
  rintro ⟨i, c, s, M⟩ n3 h3 ⟨hi, hn3, E3, R3, hc, hM, hMs, hok⟩
  dsimp only at hi hn3 E3 R3 hc hM hMs hok ⊢
  have hMl : M.length = i := by have := congrArg List.length hMs; simpa [rowsN] using this
  have hw3 := R3.hi
  by_cases hlt : i < K
  · repeat' (first | refine stpS ?_ | (refine stp2 ?_ ?_ <;> intro _))
    refine RS.call rfl opds (rBytes_rf w c _ n n3 h3 R3) (fun x hx => by subst hx; exact .inr hw) ?_
    rintro r n4 h4 k4 ⟨c4, rfl, ⟨a4, R4, X4, ha4⟩, O4⟩
    have E4 : Ext n h h4 := E3.viaW X4 (by omega) (fun x hx => by omega)
    have hrl := recN_len b0 i
    obtain ⟨y, hy⟩ : ∃ y, y = recN b0 i := ⟨_, rfl⟩
    have hy' : pB (restN b0 i) = y := hy.symm
    rw [hy'] at R4 O4 ⊢
    rw [← hy] at hrl
    have hle := R1.le
    have hbl : b0.length ≤ 1073741824 := by rw [hb0, List.length_drop]; omega
    by_cases he : y.2.2 = 0
    · repeat' (first | refine stpS ?_ | (refine stp2 ?_ ?_ <;> intro _))
      obtain ⟨g8, hg⟩ : ∃ g8, g8 = h4.app (.new n4 ⟨1, 0, true, 1⟩ [.slice c4 y.1.length y.1.length]) := ⟨_, rfl⟩
      refine RS.heap hg ?_
      have E8 : Ext n4 h4 g8 := by rw [hg]; exact ext
      have hnew : OwnSl g8 n4 (n4 + 1) (some ⟨n4, 0, none⟩) 1 1 [.slice c4 y.1.length y.1.length] := by rw [hg]; exact OwnSl.new (m := 1) (z := 1) (Nat.le_refl _) rfl rfl
      clear hg
      have kM4 : Cm h4 n2 n4 s M := (Cm.extW hM X4 (Nat.le_refl _) (fun b z1 z2 z3 => by omega)).up k4
      have kM8 : Cm g8 n2 (n4 + 1) s M := kM4.ext E8 (Nat.le_succ _)
      have hO8 := kM8.out
      rw [cmL_length, hMl] at hO8
      have hcn : c4 = none ∨ n3 ≤ sb c4 := O4.at'.imp id (·.1)
      refine RS.append rfl opd opd hO8 hnew.src full_slice (fun b hb => Or.inr (by omega)) (by omega) ?_
      intro s' n9 h9 hle9 hO9 hX9 hwh
      have kM9 : Cm h9 n2 n9 s' (M ++ [(c4, y.1)]) := by
        have := OwnRR.push (e := (c4, y.1.length, bytesV y.1)) kM8 ((O4.ext E8 (Nat.le_succ _)).mono (by omega)) (Apart.of (n := n3) (hM.out.at'.imp id (·.2)) hcn)
          (fun j f hf => (Apart.of (n := n3) ((hM.inn j f hf).at'.imp id (·.2)) hcn).symm) hX9 hle9 (by rw [cmL_length, hMl]; exact hO9) hwh
        unfold Cm
        rw [cmL_snoc]
        exact this
      have E9 : Ext n h h9 := (E4.trans (by omega) E8).trans (by omega : n ≤ n2) (hX9.ext hO8)
      have hX9' : ExtX (n4 + 1) s g8 h9 := hX9
      have R9 : RdR h9 n n9 w a4 (restN b0 (i + 1)) := by
        have hR8 := R4.ext E8 (Nat.le_succ _)
        rw [show restN b0 (i + 1) = (restN b0 i).drop y.2.1 by rw [← hy']; rfl]
        refine rdR_extX hR8 hX9 hle9 ?_ ?_
        · exact hM.out.at'.imp id fun z => by omega
        · rcases ha4 with q | ⟨q, q2⟩
          · exact .inr (.inl q)
          · refine hM.out.at'.imp id fun z => .inr ?_
            have := hc.resolve_left q
            omega
      repeat' (first | refine stpS ?_ | (refine stp2 ?_ ?_ <;> intro _))
      refine nextC.normal ⟨(i + 1, a4, s', M ++ [(c4, y.1)]), by dsimp only; omega, envs, by dsimp only; omega, by omega, E9, R9, ?_, kM9, ?_, fun j hj => ?_⟩
      · rcases ha4 with q | ⟨q, q2⟩
        · exact .inl q
        · exact .inr (by show sb a4 < n2; have := hc.resolve_left q; omega)
      · rw [List.map_append, hMs, rowsN_succ, ← hy]; rfl
      · by_cases q : j = i
        · subst q; rw [← hy]; exact he
        · exact hok j (by omega)
    · have hD : recordsP l = ([], false) := by rw [hD, if_neg]; intro z; exact he (by rw [hy]; exact z i hlt)
      repeat' (first | refine stpS ?_ | (refine stp2 ?_ ?_ <;> intro _))
      exact no hD (by omega) E4
  · obtain rfl : i = K := by omega
    have hD : recordsP l = (rowsN b0 i, decide (restN b0 i = [])) := by rw [hD, if_pos hok]
    have hend := end_ev w c _ n n3 h3 R3
    by_cases he : restN b0 i = []
    · rw [he] at hend
      repeat' (first | refine stpS ?_ | (refine stp2 ?_ ?_ <;> intro _) | refine RS.call1 rfl opds (hend) none'W ?_)
      rw [hD, he]
      exact ⟨s, M, by rw [hMl]; rfl, E3, hM.mono (by omega), hMs⟩
    · have hpos : 0 < (restN b0 i).length := List.length_pos_iff.2 he
      rw [if_pos hpos] at hend
      repeat' (first | refine stpS ?_ | (refine stp2 ?_ ?_ <;> intro _) | refine RS.call1 rfl opds (hend) none'W ?_)
      rw [hD, decide_eq_false he]
      exact ⟨s, M, by rw [hMl], E3, hM.mono (by omega), hMs⟩
end Go.Proofs.YtfbddbpbifnhfaaGreatDoor

/- Contracts taken from disk (written by port.py). -/
namespace Go.Proofs.YtfbddbpbifnhfaaGreatDoor.Dk
open Go.Abs
theorem take_min {α : Type} (l : List α) (k : Nat) : l.take (min k l.length) = l.take k := by
  rcases Nat.le_total k l.length with h | h
  · rw [Nat.min_eq_left h]
  · rw [Nat.min_eq_right h, List.take_length, List.take_of_length_le h]
structure Pc where
  file : Nat
  cut : Bool
  at_ : Nat
  b : List UInt8
def doP (l : List UInt8) (p : Pc) : List UInt8 := if p.cut = true then l.take p.at_ else splice (l ++ List.replicate (p.at_ + p.b.length - l.length) 0) p.at_ p.b
theorem doP_length (l : List UInt8) (p : Pc) : (doP l p).length = if p.cut = true then min p.at_ l.length else max l.length (p.at_ + p.b.length) := by
  unfold doP
  cases p.cut
  · simp only [Bool.false_eq_true, if_false]
    rw [splice_length _ _ _ (by simp; omega)]
    simp; omega
  · simp
structure PcOk (p : Pc) : Prop where
  file : p.file = 0 ∨ p.file = 1
  some : p.cut = false → 0 < p.b.length ∧ p.at_ + p.b.length ≤ 4194304
  size : p.cut = true → p.at_ ≤ 4194304
def upd {α : Type} (f : Nat → α) (i : Nat) (x : α) : Nat → α := fun j => if j = i then x else f j
theorem upd_same {α : Type} (f : Nat → α) (i : Nat) (x : α) : upd f i x i = x := by simp [upd]
theorem upd_ne {α : Type} (f : Nat → α) {i j : Nat} (x : α) (h : j ≠ i) : upd f i x j = f j := by simp [upd, h]
structure DS where
  sure : Nat → List UInt8
  ps : List Pc
  fuse : Int
  keep : List Bool
  calls : Int
  down : Bool
def nowP (f : Nat) (l : List UInt8) (ps : List Pc) : List UInt8 := (ps.filter fun p => decide (p.file = f)).foldl doP l
def DS.now (S : DS) (f : Nat) : List UInt8 := nowP f (S.sure f) S.ps
theorem nowP_snoc (f : Nat) (l : List UInt8) (ps : List Pc) (p : Pc) : nowP f l (ps ++ [p]) = if p.file = f then doP (nowP f l ps) p else nowP f l ps := by
  unfold nowP
  rw [List.filter_append, List.foldl_append]
  by_cases h : p.file = f <;> simp [h]
theorem doP_le {l : List UInt8} {p : Pc} (h : PcOk p) (hl : l.length ≤ 4194304) : (doP l p).length ≤ 4194304 := by
  rw [doP_length]
  cases hc : p.cut
  · have := (h.some hc).2
    simp only [Bool.false_eq_true, if_false]; omega
  · simp only [if_true]; omega
theorem nowP_le (f : Nat) {l : List UInt8} (hl : l.length ≤ 4194304) : ∀ {ps : List Pc}, (∀ p ∈ ps, PcOk p) → (nowP f l ps).length ≤ 4194304 := by
  intro ps
  induction ps generalizing l with
  | nil => intro _; exact hl
  | cons p ps ih =>
    intro h
    unfold nowP
    by_cases hp : p.file = f
    · simp only [List.filter_cons, hp, decide_true, if_true, List.foldl_cons]
      exact ih (doP_le (h p (by simp)) hl) (fun q hq => h q (by simp [hq]))
    · simp only [List.filter_cons, hp, decide_false, Bool.false_eq_true, if_false]
      exact ih hl (fun q hq => h q (by simp [hq]))
structure DSOk (S : DS) : Prop where
  ps : ∀ p ∈ S.ps, PcOk p
  sure : ∀ f, (S.sure f).length ≤ 4194304
  fuse : 0 ≤ S.fuse ∧ S.fuse ≤ 9223372036854775807
  calls : 0 ≤ S.calls
  keep : S.keep.length ≤ 1099511627776
theorem DSOk.now {S : DS} (h : DSOk S) (f : Nat) : (S.now f).length ≤ 4194304 := nowP_le f (h.sure f) h.ps
def DS.done (S : DS) (p : Pc) : DS := { S with ps := S.ps ++ [p] }
theorem DS.done_now (S : DS) (p : Pc) (f : Nat) : (S.done p).now f = if p.file = f then doP (S.now f) p else S.now f := nowP_snoc _ _ _ _
def loseP (sure : Nat → List UInt8) : List Pc → List Bool → Nat → List UInt8
  | [], _ => sure
  | _ :: _, [] => sure
  | p :: ps, k :: ks => loseP (if k = true then upd sure p.file (doP (sure p.file) p) else sure) ps ks
def DS.lose (S : DS) (keep : List Bool) : DS := { S with sure := loseP S.sure S.ps keep, ps := [], fuse := 0, down := true }
theorem loseP_le {sure : Nat → List UInt8} : ∀ {ps : List Pc} {ks : List Bool}, (∀ f, (sure f).length ≤ 4194304) → (∀ p ∈ ps, PcOk p) → ∀ f, (loseP sure ps ks f).length ≤ 4194304 := by
  intro ps
  induction ps generalizing sure with
  | nil => intro ks h _ f; exact h f
  | cons p ps ih =>
    intro ks h hp f
    cases ks with
    | nil => exact h f
    | cons k ks =>
      refine ih (fun g => ?_) (fun q hq => hp q (by simp [hq])) f
      cases k
      · exact h g
      · simp only [if_true]
        by_cases e : g = p.file
        · subst e; rw [upd_same]; exact doP_le (hp p (by simp)) (h _)
        · rw [upd_ne _ _ e]; exact h g
theorem loseP_nil (sure : Nat → List UInt8) (ks : List Bool) : loseP sure [] ks = sure := rfl
theorem loseP_snoc {p : Pc} : ∀ {sure : Nat → List UInt8} {ps : List Pc} {ks : List Bool}, loseP sure (ps ++ [p]) ks = if ks.getD ps.length false = true then upd (loseP sure ps ks) p.file (doP (loseP sure ps ks p.file) p) else loseP sure ps ks := by
  intro sure ps
  induction ps generalizing sure with
  | nil =>
    intro ks
    cases ks with
    | nil => rfl
    | cons k ks => cases k <;> rfl
  | cons q ps ih =>
    intro ks
    cases ks with
    | nil => rfl
    | cons k ks =>
      simp only [List.cons_append, loseP, List.length_cons, List.getD_cons_succ]
      exact ih
def DS.ends (S : DS) : Int × DS :=
  if S.fuse = 0 then (0, { S with calls := S.calls + 1 })
  else if 1 < S.fuse then (0, { S with calls := S.calls + 1, fuse := S.fuse - 1 })
  else (6, { S with calls := S.calls + 1, fuse := S.fuse - 1 }.lose S.keep)
def DS.may (S : DS) (f : Int) : Int := if S.down = true then 6 else if f ≠ 0 ∧ f ≠ 1 then 1 else 0
def chunks (f : Nat) : Nat → Nat → List UInt8 → List Pc
  | 0, _, _ => []
  | _ + 1, _, [] => []
  | k + 1, at_, x :: r => ⟨f, false, at_, (x :: r).take (512 - at_ % 512)⟩ :: chunks f k (at_ + min (r.length + 1) (512 - at_ % 512)) ((x :: r).drop (512 - at_ % 512))
def DS.writes (S : DS) (f at_ : Nat) (b : List UInt8) : DS := { S with ps := S.ps ++ chunks f b.length at_ b }
def writeE (at_ : Int) (b : List UInt8) : Int := if at_ < 0 then 1 else if 0 < b.length ∧ (4194304 < at_ ∨ 4194304 - at_ < b.length) then 5 else 0
def DS.write (S : DS) (f at_ : Int) (b : List UInt8) : Int × DS :=
  if S.may f ≠ 0 then (S.may f, S) else if writeE at_ b ≠ 0 then (writeE at_ b, S) else (S.writes f.toNat at_.toNat b).ends
def DS.truncate (S : DS) (f size : Int) : Int × DS :=
  if S.may f ≠ 0 then (S.may f, S) else if size < 0 ∨ ((S.now f.toNat).length : Int) < size then (1, S) else (S.done ⟨f.toNat, true, size.toNat, []⟩).ends
def DS.synced (S : DS) (f : Nat) : DS := { S with sure := upd S.sure f (S.now f), ps := S.ps.filter fun p => !decide (p.file = f) }
def DS.sync (S : DS) (f : Int) : Int × DS :=
  if S.may f ≠ 0 then (S.may f, S) else if S.ends.1 ≠ 0 then S.ends else (0, S.ends.2.synced f.toNat)
def DS.crash (S : DS) (keep : List Bool) : Int × DS := if S.down = true then (6, S) else (0, S.lose keep)
def DS.setFuse (S : DS) (k : Int) (keep : List Bool) : Int × DS := if k < 0 then (1, S) else (0, { S with fuse := k, keep := keep })
def DS.restart (S : DS) : DS := { S with down := false }
def DS.read (S : DS) (f at_ k : Int) : Int × List UInt8 :=
  if S.may f ≠ 0 then (S.may f, []) else if at_ < 0 ∨ k < 0 then (1, []) else (0, ((S.now f.toNat).drop at_.toNat).take k.toNat)
def DS.init : DS := ⟨fun _ => [], [], 0, [], 0, false⟩
end Go.Proofs.YtfbddbpbifnhfaaGreatDoor.Dk

/- Contracts taken from disk (written by port.py). -/
namespace Go.Proofs.YtfbddbpbifnhfaaGreatDoor.Dk
open Go.Abs
set_option maxHeartbeats 4000000 in
theorem clone_rf (l : List UInt8) (a : Option Addr) (m n : Nat) (h : AH) (S : SlB h n a l) (e : m = l.length) (hm : m ≤ 1099511627776) :
    RF Tryz.prog none' 38 #[.slice a m m] n h (fun r n' h' => ∃ a', r = .slice a' m m ∧ Ext n h h' ∧ OwnSl h' n n' a' 1 m (bytesV l)) := by
  subst e
  refine RF.of Tryz.func38 rfl rfl (Nat.le_of_ble_eq_true rfl) ?_; dsimp only [argEnv]
  rcases S.two with ⟨ha, hl⟩ | ⟨b, o, ha⟩
  · have : l = [] := List.eq_nil_of_length_eq_zero hl
    subst this; subst ha
    repeat' (first | refine stpS ?_ | (refine stp2 ?_ ?_ <;> intro _))
    exact ⟨none, rfl, ext, OwnSl.nil (by omega)⟩
  · subst ha
    repeat' (first | refine stpS ?_ | (refine stp2 ?_ ?_ <;> intro _))
    refine RS.append rfl opd opd (OwnSl.new (z := 1) (m := 0) (cs := []) (Nat.le_refl n) rfl rfl) (SlB.src (S.ext ext (Nat.le_refl _))) full_slice (fun b hb => Or.inr (by omega)) (by omega) ?_
    intro a' n1 h1 hle hO hX hnew
    have hE := hX.ext (OwnSl.new (z := 1) (m := 0) (cs := []) (Nat.le_refl n) rfl rfl)
    simp only [Nat.zero_add, List.nil_append] at hO ⊢
    repeat' (first | refine stpS ?_ | (refine stp2 ?_ ?_ <;> intro _))
    exact ⟨a', rfl, ext, hO⟩
theorem known_replicate (v : Value) (k : Nat) (h : known [v] = true) : known (List.replicate k v) = true := by
  induction k with
  | zero => rfl
  | succ k ih => rw [List.replicate_succ]; cases v <;> simp_all [known]
instance : Mc Tryz.prog 106 "colonnade/disk.do" 139 := Mc.of (by kernel_rfl) Uc.out rfl
instance : Mc Tryz.prog 114 "colonnade/disk.do" 140 := Mc.of (by kernel_rfl) Uc.out rfl
def DoRes (n : Nat) (h : AH) (a : Option Addr) (l' : List UInt8) (r : Value) (n' : Nat) (h' : AH) : Prop :=
  ∃ a', r = .slice a' l'.length l'.length ∧ OwnSl h' 0 n' a' 1 l'.length (bytesV l') ∧ ExtX n a h h' ∧ (a' = a ∨ n ≤ sb a')
def inA (a : Option Addr) (b : Nat) : Prop := a ≠ none ∧ b = sb a
set_option maxHeartbeats 4000000 in
theorem cutDo_rf (l : List UInt8) (a : Option Addr) (m n k : Nat) (h : AH) (hO : OwnSl h 0 n a 1 m (bytesV l)) (e : m = l.length) :
    RF Tryz.prog (inA a) 140 #[.int .i64 (k : Nat), .slice a m m] n h (DoRes n h a (l.take k)) := by
  subst e
  refine RF.of Tryz.func140 rfl rfl (Nat.le_of_ble_eq_true rfl) ?_; dsimp only [argEnv]
  repeat' (first | refine stpS ?_ | (refine stp2 ?_ ?_ <;> intro _))
  refine RS.sliceCut (u := min k l.length) rfl opd (by rw [show ((min k l.length : Nat) : Int) = min (k : Int) l.length by omega]; exact opd) hO (Nat.min_le_right _ _) (fun q => .inl ⟨q, rfl⟩) ?_
  intro h1 hO1 hX1
  repeat' (first | refine stpS ?_ | (refine stp2 ?_ ?_ <;> intro _))
  have e1 : (l.take k).length = min k l.length := List.length_take
  refine ⟨a, by rw [e1], ?_, hX1, .inl rfl⟩
  have e2 : bytesV (l.take k) = (bytesV l).take (min k l.length * 1) := by
    have := take_min (bytesV l) k
    rw [bytesV_length] at this
    rw [Nat.mul_one, this, bytesV, bytesV, List.map_take]
  rw [e1, e2]; exact hO1
theorem DoRes.bit {n n2 : Nat} {h h2 : AH} {a a2 : Option Addr} {l b : List UInt8} {at_ M o' : Nat} {vs : List Value} (hX : ExtX n a h h2) (hnew : a2 = a ∨ n ≤ sb a2) (ha2 : a2 ≠ none)
    (hO : OwnSl (h2.app (.sets (sb a2) o' vs)) 0 n2 a2 1 M (bytesV (splice (l ++ List.replicate (at_ + b.length - l.length) 0) at_ b))) (hM : M = max l.length (at_ + b.length)) :
    DoRes n h a (doP l ⟨0, false, at_, b⟩) (.slice a2 M M) n2 (h2.app (.sets (sb a2) o' vs)) := by
  have hl := doP_length l ⟨0, false, at_, b⟩
  simp only [Bool.false_eq_true, if_false] at hl
  have he : doP l ⟨0, false, at_, b⟩ = splice (l ++ List.replicate (at_ + b.length - l.length) 0) at_ b := by simp [doP]
  rw [← he] at hO
  refine ⟨a2, by rw [hl, hM], by rw [hl, ← hM]; exact hO, fun x hx hne => ?_, hnew⟩
  have h1 := hX x hx hne
  have hxa : x ≠ sb a2 := by
    rcases hnew with q | q
    · subst q; exact hne.resolve_left ha2
    · omega
  exact ⟨(sets_info _ _ _ _ _).trans h1.1, fun i => (c_out (.inl hxa) rfl).trans (h1.2 i)⟩
set_option maxHeartbeats 4000000 in
theorem bitDo_rf (l b : List UInt8) (a c : Option Addr) (m k n at_ : Nat) (h : AH) (hO : OwnSl h 0 n a 1 m (bytesV l)) (S : SlB h n c b) (e : m = l.length) (e2 : k = b.length) (hb : 0 < k) (hl : m ≤ 4194304) (hk : at_ + k ≤ 4194304) (hac : a = none ∨ c = none ∨ sb a ≠ sb c) :
    RF Tryz.prog (inA a) 139 #[.agg #[.int .i64 (at_ : Nat), .slice c k k], .slice a m m] n h (DoRes n h a (doP l ⟨0, false, at_, b⟩)) := by
  subst e; subst e2
  have hcn : c ≠ none := by
    intro q; subst q
    rcases S.shape with k | k
    · omega
    · cases k.1
  have hclt := S.ltA hcn
  refine RF.of Tryz.func139 rfl rfl (Nat.le_of_ble_eq_true rfl) ?_; dsimp only [argEnv]
  repeat' (first | refine stpS ?_ | (refine stp2 ?_ ?_ <;> intro _))
  · rename_i hgt
    have hO1 := hO.ext (n1 := n + 1) (h1 := h.app (.new n ⟨2, 0, true, 0⟩ [.int .i64 (at_ : Nat), .slice c b.length b.length])) ext (by omega)
    refine RS.appendZT rfl opd opd hO1 (by omega) (fun q => .inl ⟨q, rfl⟩) (by omega) (by show known (zrow [.int .u8 0] _) = true; rw [zrow_one]; exact known_replicate _ _ rfl) ?_
    intro a2 n2 h2 hle2 hO2 hX2 hnew
    have e1 : l.length + ((at_ : Int) + b.length - l.length).toNat = at_ + b.length := by omega
    rw [e1] at hO2 ⊢
    have hO3 : OwnSl h2 0 n2 a2 1 (at_ + b.length) (bytesV (l ++ List.replicate (at_ + b.length - l.length) 0)) := by
      have e3 : ((at_ : Int) + b.length - l.length).toNat = at_ + b.length - l.length := by omega
      have e4 : zrow (Value.int IntKind.u8 0).cells.toList ((at_ : Int) + b.length - l.length).toNat = List.replicate (at_ + b.length - l.length) (.int .u8 0) := by rw [e3]; exact zrow_one _ _
      rw [e4] at hO2
      have e2 : bytesV (l ++ List.replicate (at_ + b.length - l.length) 0) = bytesV l ++ List.replicate (at_ + b.length - l.length) (.int .u8 0) := by
        simp [bytesV]
      rw [e2]; exact hO2
    have hS2 : SlB h2 n2 c b := (S.ext ext (Nat.le_succ n)).extX hX2 (by
      rcases hac with q | q | q
      · exact .inl q
      · exact .inr (.inl q)
      · exact .inr (.inr (Ne.symm q))) |>.ext (Ext.refl _ _) hle2
    have ha2 : a2 ≠ none := by
      intro q; subst q
      rcases hO3.or with k | k
      · omega
      · cases k.1
    have hsb := (hO3.at'.resolve_left ha2).2
    have hne : sb a2 ≠ n := by
      rcases hnew with q | q
      · subst q
        have := (hO.at'.resolve_left ha2).2
        omega
      · omega
    have hSR := hO3.slr
    have han : a = none ∨ n ≠ sb a := by
      by_cases q : a = none
      · exact .inl q
      · right; have := (hO.at'.resolve_left q).2; omega
    have hc0 : h2.cell n 0 = .int .i64 (at_ : Nat) := c_extX hX2 (by omega) han cell
    have hc1 : h2.cell n 1 = .slice c b.length b.length := c_extX hX2 (by omega) han cell
    repeat' (first | refine stp ?_ | (refine stp2 ?_ ?_ <;> intro _))
    have e5 : at_ + b.length - (at_ : Int).toNat = b.length := by omega
    rw [e5, Int.toNat_natCast]
    refine RD.copyB (nb := n2) rfl opd opd hO3 hS2 rfl (by omega) (by omega) (fun _ => ?_) (Nat.le_refl _) cfw ?_
    · rcases hnew with q | q
      · subst q; exact .inl ⟨ha2, rfl⟩
      · exact .inr (by omega)
    intro hO4
    repeat' (first | refine stp ?_ | (refine stp2 ?_ ?_ <;> intro _))
    exact DoRes.bit (fun x hx hne => by
      have := hX2 x (by omega) hne
      exact ⟨this.1.trans (i_new_ne (by omega) rfl), fun i => (this.2 i).trans (c_new_ne (by omega) rfl)⟩) (hnew.imp id (by omega)) ha2 hO4 (by omega)
  · rename_i hgt
    have hO3 := hO.ext (n1 := n + 1) (h1 := h.app (.new n ⟨2, 0, true, 0⟩ [.int .i64 (at_ : Nat), .slice c b.length b.length])) ext (by omega)
    have hS2 : SlB (h.app (.new n ⟨2, 0, true, 0⟩ [.int .i64 (at_ : Nat), .slice c b.length b.length])) (n + 1) c b := S.ext ext (by omega)
    have ha2 : a ≠ none := by
      intro q; subst q
      rcases hO3.or with k | k
      · omega
      · cases k.1
    have hsb := (hO.at'.resolve_left ha2).2
    have hSR := hO3.slr
    repeat' (first | refine stp ?_ | (refine stp2 ?_ ?_ <;> intro _))
    rw [Int.toNat_natCast]
    refine RD.copyB (nb := n + 1) rfl opd opd hO3 hS2 (by omega) (by omega) (by omega) (fun _ => .inl ⟨ha2, rfl⟩) (Nat.le_refl _) cfw ?_
    intro hO4
    repeat' (first | refine stp ?_ | (refine stp2 ?_ ?_ <;> intro _))
    have e0 : l ++ List.replicate (at_ + b.length - l.length) 0 = l := by rw [show at_ + b.length - l.length = 0 by omega]; simp
    exact DoRes.bit (fun x hx hne => ⟨i_new_ne (by omega) rfl, fun i => c_new_ne (by omega) rfl⟩) (.inl rfl) ha2 (by rw [e0]; exact hO4) (by omega)
end Go.Proofs.YtfbddbpbifnhfaaGreatDoor.Dk

/- Contracts taken from disk (written by port.py). -/
namespace Go.Proofs.YtfbddbpbifnhfaaGreatDoor.Dk
open Go.Abs
def apt (x y : Option Addr) : Prop := x = none ∨ y = none ∨ sb x ≠ sb y
def apd (d : Nat) (y : Option Addr) : Prop := y = none ∨ d ≠ sb y
theorem apt.symm {x y : Option Addr} (h : apt x y) : apt y x := by
  rcases h with h | h | h
  · exact .inr (.inl h)
  · exact .inl h
  · exact .inr (.inr (Ne.symm h))
def pcV (p : Pc) (a : Option Addr) : Value := if p.cut = true then .iface 114 (.int .i64 (p.at_ : Nat)) else .iface 106 (.agg #[.int .i64 (p.at_ : Nat), .slice a p.b.length p.b.length])
def pcC (p : Pc) (a : Option Addr) : List Value := [.int .i64 (p.file : Nat), pcV p a]
def pcsC : List Pc → List (Option Addr) → List Value
  | p :: ps, a :: q => pcC p a ++ pcsC ps q
  | _, _ => []
theorem pcV_known (p : Pc) (a : Option Addr) : known (pcC p a) = true := by
  unfold pcC pcV; split <;> rfl
theorem pcsC_snoc : ∀ (ps : List Pc) (pa : List (Option Addr)) (p : Pc) (a : Option Addr), pa.length = ps.length → pcsC (ps ++ [p]) (pa ++ [a]) = pcsC ps pa ++ pcC p a
  | [], [], p, a, _ => by simp [pcsC]
  | q :: ps, b :: pa, p, a, h => by simp [pcsC, pcsC_snoc ps pa p a (by simpa using h)]
  | [], _ :: _, _, _, h => by simp at h
  | _ :: _, [], _, _, h => by simp at h
theorem pcsC_at : ∀ (ps : List Pc) (pa : List (Option Addr)) (i : Nat) (p : Pc), pa.length = ps.length → ps[i]? = some p → (pcsC ps pa)[2 * i]? = some (.int .i64 (p.file : Nat)) ∧ (pcsC ps pa)[2 * i + 1]? = some (pcV p (pa.getD i none))
  | [], _, i, p, _, h => by simp at h
  | q :: ps, [], i, p, hl, h => by simp at hl
  | q :: ps, b :: pa, 0, p, hl, h => by
    simp only [List.getElem?_cons_zero, Option.some.injEq] at h
    subst h; simp [pcsC, pcC]
  | q :: ps, b :: pa, i + 1, p, hl, h => by
    have := pcsC_at ps pa i p (by simpa using hl) (by simpa using h)
    have e1 : 2 * (i + 1) = 2 * i + 2 := by omega
    have e2 : 2 * (i + 1) + 1 = 2 * i + 1 + 2 := by omega
    rw [e2, e1]
    simpa [pcsC, pcC] using this
structure DkR (h : AH) (n d : Nat) (o : Nat → Option Addr) (ka : Option Addr) (pa : List (Option Addr)) (fl : Nat → List UInt8) (ps : List Pc) (fuse : Int) (keep : List Bool) (calls : Int) (down : Bool) : Prop where
  lt : d < n
  inf : h.info d = some ⟨10, 0, true, 0⟩
  c0 : h.cell d 0 = .bool true
  cf : ∀ i, i < 4 → h.cell d (1 + i) = .slice (o i) (fl i).length (fl i).length
  c5 : h.cell d 5 = .slice (o 4) ps.length ps.length
  c6 : h.cell d 6 = .int .i64 fuse
  c7 : h.cell d 7 = .slice ka keep.length keep.length
  c8 : h.cell d 8 = .int .i64 calls
  c9 : h.cell d 9 = .bool down
  fo : ∀ i, i < 4 → OwnSl h 0 n (o i) 1 (fl i).length (bytesV (fl i))
  lo : OwnSl h 0 n (o 4) 2 ps.length (pcsC ps pa)
  ks : SlT h n ka keep
  dat : ∀ i p, ps[i]? = some p → p.cut = false → SlB h n (pa.getD i none) p.b
  len : pa.length = ps.length
  od : ∀ i, i < 5 → apd d (o i)
  oo : ∀ i j, i < 5 → j < 5 → i ≠ j → apt (o i) (o j)
  og : ∀ i x, i < 5 → x ∈ ka :: pa → apt (o i) x
  dg : ∀ x, x ∈ ka :: pa → apd d x
  gl : ∀ x, x ∈ ka :: pa → x ≠ none → sb x < n
section
variable {h h1 h2 : AH} {n n1 n2 d : Nat} {o : Nat → Option Addr} {ka : Option Addr} {pa : List (Option Addr)} {fl : Nat → List UInt8} {ps : List Pc} {fuse : Int} {keep : List Bool} {calls : Int} {down : Bool}
def DkF (d : Nat) (o : Nat → Option Addr) (b : Nat) : Prop := b = d ∨ ∃ i, i < 5 ∧ inA (o i) b
def DkG (ka : Option Addr) (pa : List (Option Addr)) (b : Nat) : Prop := ∃ x, x ∈ ka :: pa ∧ inA x b
theorem DkR.extW {W : Nat → Prop} (R : DkR h n d o ka pa fl ps fuse keep calls down) (e : ExtW W n h h1) (hn : n ≤ n1) (hF : ∀ b, DkF d o b → ¬ W b) (hG : ∀ b, DkG ka pa b → ¬ W b) : DkR h1 n1 d o ka pa fl ps fuse keep calls down := by
  have hd := hF d (.inl rfl)
  have ho : ∀ i, i < 5 → o i ≠ none → ¬ W (sb (o i)) := fun i hi hne => hF _ (.inr ⟨i, hi, hne, rfl⟩)
  have hg : ∀ x, x ∈ ka :: pa → x ≠ none → ¬ W (sb x) := fun x hx hne => hG _ ⟨x, hx, hne, rfl⟩
  have hc : ∀ j, h1.cell d j = h.cell d j := fun j => e.cell d j R.lt hd
  refine ⟨by have := R.lt; omega, by rw [e.info d R.lt hd]; exact R.inf, by rw [hc]; exact R.c0, fun i hi => by rw [hc]; exact R.cf i hi, by rw [hc]; exact R.c5, by rw [hc]; exact R.c6, by rw [hc]; exact R.c7, by rw [hc]; exact R.c8, by rw [hc]; exact R.c9,
    fun i hi => (R.fo i hi).extW e hn (Nat.le_refl _) (ho i (by omega)), R.lo.extW e hn (Nat.le_refl _) (ho 4 (by omega)), R.ks.extW e hn (hg ka (by simp)), fun i p hp hc => (R.dat i p hp hc).extW e hn (hg _ ?_), R.len, R.od, R.oo, R.og, R.dg, fun x hx q => Nat.lt_of_lt_of_le (R.gl x hx q) hn⟩
  have hi : i < pa.length := by rw [R.len]; exact (List.getElem?_eq_some_iff.1 hp).1
  have e2 : pa.getD i none = pa[i] := by simp [List.getD, hi]
  rw [e2]; simp
theorem DkR.ext (R : DkR h n d o ka pa fl ps fuse keep calls down) (e : Ext n h h1) (hn : n ≤ n1) : DkR h1 n1 d o ka pa fl ps fuse keep calls down :=
  R.extW (W := fun _ => False) (ExtW.of e (Nat.le_refl _)) hn (fun _ _ q => q) (fun _ _ q => q)
theorem DkR.ltF (R : DkR h n d o ka pa fl ps fuse keep calls down) : ∀ b, DkF d o b → b < n := by
  rintro b (rfl | ⟨i, hi, hne, rfl⟩)
  · exact R.lt
  · by_cases h4 : i < 4
    · exact ((R.fo i h4).at'.resolve_left hne).2
    · obtain rfl : i = 4 := by omega
      exact (R.lo.at'.resolve_left hne).2
theorem DkR.gmem (R : DkR h n d o ka pa fl ps fuse keep calls down) {i : Nat} {p : Pc} (hp : ps[i]? = some p) : pa.getD i none ∈ ka :: pa := by
  have hi : i < pa.length := by rw [R.len]; exact (List.getElem?_eq_some_iff.1 hp).1
  have e2 : pa.getD i none = pa[i] := by simp [List.getD, hi]
  rw [e2]; simp
theorem DkR.scalar (R : DkR h n d o ka pa fl ps fuse keep calls down) {j : Nat} {v : Value} {fuse' calls' : Int} {down' : Bool} (hj : j = 6 ∧ v = .int .i64 fuse' ∧ calls' = calls ∧ down' = down ∨ j = 8 ∧ v = .int .i64 calls' ∧ fuse' = fuse ∧ down' = down ∨ j = 9 ∧ v = .bool down' ∧ fuse' = fuse ∧ calls' = calls) :
    DkR (h.app (.sets d j [v])) n d o ka pa fl ps fuse' keep calls' down' := by
  have hne : ∀ i, i ≠ j → ∀ {w}, h.cell d i = w → (h.app (.sets d j [v])).cell d i = w := fun i hi w hw => c_out (.inr (by simp only [List.length_cons, List.length_nil]; omega)) hw
  have heq : (h.app (.sets d j [v])).cell d j = v := c_in (Nat.le_refl _) (by simp)
  have ho : ∀ i, i < 5 → o i = none ∨ sb (o i) ≠ d := fun i hi => (R.od i hi).imp id Ne.symm
  have hsl : ∀ {α : Type} {z m : Nat} {a : Option Addr} {f : Nat → Value}, apd d a → SlR h n a z m f → SlR (h.app (.sets d j [v])) n a z m f := fun {α z m a f} ha s =>
    s.extW (W := fun b => b = d) (ExtW.appSets (.inl rfl) (ExtW.refl _ _ _)) (Nat.le_refl _) (fun q e => (ha.resolve_left q) e.symm)
  refine ⟨R.lt, i_sets R.inf, hne 0 (by omega) R.c0, fun i hi => hne _ (by omega) (R.cf i hi), hne 5 (by omega) R.c5, ?_, hne 7 (by omega) R.c7, ?_, ?_, fun i hi => (R.fo i hi).setsN (ho i (by omega)), R.lo.setsN (ho 4 (by omega)), hsl (α := Nat) (R.dg ka (by simp)) R.ks,
    fun i p hp hc => hsl (α := Nat) (R.dg _ (R.gmem hp)) (R.dat i p hp hc), R.len, R.od, R.oo, R.og, R.dg, R.gl⟩
  · rcases hj with ⟨rfl, rfl, _, _⟩ | ⟨rfl, _, rfl, _⟩ | ⟨rfl, _, rfl, _⟩
    · exact heq
    · exact hne 6 (by omega) R.c6
    · exact hne 6 (by omega) R.c6
  · rcases hj with ⟨rfl, _, rfl, _⟩ | ⟨rfl, rfl, _, _⟩ | ⟨rfl, _, _, rfl⟩
    · exact hne 8 (by omega) R.c8
    · exact heq
    · exact hne 8 (by omega) R.c8
  · rcases hj with ⟨rfl, _, _, rfl⟩ | ⟨rfl, _, _, rfl⟩ | ⟨rfl, rfl, _, _⟩
    · exact hne 9 (by omega) R.c9
    · exact hne 9 (by omega) R.c9
    · exact heq
theorem apt_new {n : Nat} {a a' x : Option Addr} (h : apt a x) (hx : x ≠ none → sb x < n) (hn : a' = a ∨ a' = none ∨ n ≤ sb a') : apt a' x := by
  rcases hn with q | q | q
  · rw [q]; exact h
  · exact .inl q
  · by_cases e : x = none
    · exact .inr (.inl e)
    · have := hx e
      exact .inr (.inr (by omega))
theorem apd_new {n d : Nat} {a a' : Option Addr} (h : apd d a) (hd : d < n) (hn : a' = a ∨ a' = none ∨ n ≤ sb a') : apd d a' := by
  rcases hn with q | q | q
  · rw [q]; exact h
  · exact .inl q
  · exact .inr (by omega)
theorem DkR.ltG (R : DkR h n d o ka pa fl ps fuse keep calls down) {i : Nat} {p : Pc} (hp : ps[i]? = some p) (hc : p.cut = false) (hne : pa.getD i none ≠ none) : sb (pa.getD i none) < n := (R.dat i p hp hc).ltA hne
end
end Go.Proofs.YtfbddbpbifnhfaaGreatDoor.Dk

/- Contracts taken from disk (written by port.py). -/
namespace Go.Proofs.YtfbddbpbifnhfaaGreatDoor.Dk
open Go.Abs
section
variable {h h1 h2 : AH} {n n1 n2 d : Nat} {o : Nat → Option Addr} {ka : Option Addr} {pa : List (Option Addr)} {fl : Nat → List UInt8} {ps : List Pc} {fuse : Int} {keep : List Bool} {calls : Int} {down : Bool}
theorem rowT {j z m : Nat} {a x : Option Addr} {vs cs : List Value} (hX : ExtX n a h h2) (hn : n ≤ n2) (q : OwnSl h 0 n x z m cs) (ha : apt a x) (hd : apd d x) : OwnSl (h2.app (.sets d j vs)) 0 n2 x z m cs := by
  refine OwnSl.setsN (q.extX hX hn ?_) (hd.imp id Ne.symm)
  rcases ha with k | k | k
  · exact .inl k
  · exact .inr (.inl k)
  · exact .inr (.inr (Ne.symm k))
theorem slT {j z m : Nat} {a x : Option Addr} {vs : List Value} {f : Nat → Value} (hX : ExtX n a h h2) (hn : n ≤ n2) (q : SlR h n x z m f) (ha : apt a x) (hd : apd d x) : SlR (h2.app (.sets d j vs)) n2 x z m f := by
  have q2 := (q.extX hX (by
    rcases ha with k | k | k
    · exact .inl k
    · exact .inr (.inl k)
    · exact .inr (.inr (Ne.symm k)))).ext (Ext.refl _ _) hn
  exact q2.extW (W := fun b => b = d) (ExtW.appSets (.inl rfl) (ExtW.refl _ _ _)) (Nat.le_refl _) (fun e q => (hd.resolve_left e) q.symm)
theorem cellT {j i : Nat} {a : Option Addr} {v w : Value} (hX : ExtX n a h h2) (ha : apd d a) (hd : d < n) (hij : i ≠ j) (hw : h.cell d i = w) : (h2.app (.sets d j [v])).cell d i = w :=
  c_out (.inr (by simp only [List.length_cons, List.length_nil]; omega)) (c_extX hX hd ha hw)
theorem DkR.rlt (R : DkR h n d o ka pa fl ps fuse keep calls down) {i : Nat} (hi : i < 5) (hne : o i ≠ none) : sb (o i) < n := R.ltF _ (.inr ⟨i, hi, hne, rfl⟩)
theorem DkR.file {i : Nat} {a' : Option Addr} {l' : List UInt8} (R : DkR h n d o ka pa fl ps fuse keep calls down) (hi : i < 4) (hX : ExtX n (o i) h h2) (hn : n ≤ n2) (hO : OwnSl h2 0 n2 a' 1 l'.length (bytesV l')) (hnew : a' = o i ∨ a' = none ∨ n ≤ sb a') :
    DkR (h2.app (.sets d (1 + i) [.slice a' l'.length l'.length])) n2 d (upd o i a') ka pa (upd fl i l') ps fuse keep calls down := by
  have hdi := R.od i (by omega)
  have hlt := R.lt
  have hdn : apd d a' := apd_new hdi hlt hnew
  refine ⟨by omega, i_sets (i_extX hX hlt hdi R.inf), cellT hX hdi hlt (by omega) R.c0, fun j hj => ?_, ?_, cellT hX hdi hlt (by omega) R.c6, cellT hX hdi hlt (by omega) R.c7, cellT hX hdi hlt (by omega) R.c8, cellT hX hdi hlt (by omega) R.c9,
    fun j hj => ?_, ?_, slT hX hn R.ks (R.og i ka (by omega) (by simp)) (R.dg ka (by simp)), fun j p hp hc => slT hX hn (R.dat j p hp hc) (R.og i _ (by omega) (R.gmem hp)) (R.dg _ (R.gmem hp)), R.len, fun j hj => ?_, fun j q hj hq hne => ?_, fun j x hj hx => ?_, R.dg, fun x hx q => Nat.lt_of_lt_of_le (R.gl x hx q) hn⟩
  · by_cases e : j = i
    · subst e
      rw [upd_same, upd_same]
      exact c_in (Nat.le_refl _) (by simp)
    · rw [upd_ne _ _ e, upd_ne _ _ e]
      exact cellT hX hdi hlt (by omega) (R.cf j hj)
  · rw [upd_ne _ _ (by omega)]
    exact cellT hX hdi hlt (by omega) R.c5
  · by_cases e : j = i
    · subst e
      rw [upd_same, upd_same]
      exact hO.setsN (hdn.imp id Ne.symm)
    · rw [upd_ne _ _ e, upd_ne _ _ e]
      exact rowT hX hn (R.fo j hj) (R.oo i j (by omega) (by omega) (Ne.symm e)) (R.od j (by omega))
  · rw [upd_ne _ _ (by omega)]
    exact rowT hX hn R.lo (R.oo i 4 (by omega) (by omega) (by omega)) (R.od 4 (by omega))
  · by_cases e : j = i
    · subst e; rw [upd_same]; exact hdn
    · rw [upd_ne _ _ e]; exact R.od j hj
  · by_cases e : j = i
    · subst e
      rw [upd_same, upd_ne _ _ (Ne.symm hne)]
      exact apt_new (R.oo j q hj hq hne) (R.rlt hq) hnew
    · rw [upd_ne _ _ e]
      by_cases e2 : q = i
      · subst e2
        rw [upd_same]
        exact (apt_new (R.oo q j hq hj (Ne.symm hne)) (R.rlt hj) hnew).symm
      · rw [upd_ne _ _ e2]; exact R.oo j q hj hq hne
  · by_cases e : j = i
    · subst e
      rw [upd_same]
      exact apt_new (R.og j x hj hx) (R.gl x hx) hnew
    · rw [upd_ne _ _ e]; exact R.og j x hj hx
theorem DkR.push {a' c : Option Addr} {p : Pc} (R : DkR h n d o ka pa fl ps fuse keep calls down) (hX : ExtX n (o 4) h h2) (hn : n ≤ n2) (hO : OwnSl h2 0 n2 a' 2 (ps.length + 1) (pcsC ps pa ++ pcC p c)) (hnew : a' = o 4 ∨ a' = none ∨ n ≤ sb a')
    (hS : p.cut = false → SlB h n c p.b) (hc : c ≠ none → sb c < n) (hco : ∀ i, i < 5 → apt (o i) c) (hcd : apd d c) :
    DkR (h2.app (.sets d 5 [.slice a' (ps.length + 1) (ps.length + 1)])) n2 d (upd o 4 a') ka (pa ++ [c]) fl (ps ++ [p]) fuse keep calls down := by
  have hdi := R.od 4 (by omega)
  have hlt := R.lt
  have hdn : apd d a' := apd_new hdi hlt hnew
  have hmem : ∀ x, x ∈ ka :: (pa ++ [c]) → x ∈ ka :: pa ∨ x = c := fun x hx => by
    simp only [List.mem_cons, List.mem_append, List.not_mem_nil, or_false] at hx ⊢
    rcases hx with q | q | q
    · exact .inl (.inl q)
    · exact .inl (.inr q)
    · exact .inr q
  refine ⟨by omega, i_sets (i_extX hX hlt hdi R.inf), cellT hX hdi hlt (by omega) R.c0, fun j hj => ?_, ?_, cellT hX hdi hlt (by omega) R.c6, cellT hX hdi hlt (by omega) R.c7, cellT hX hdi hlt (by omega) R.c8, cellT hX hdi hlt (by omega) R.c9,
    fun j hj => ?_, ?_, slT hX hn R.ks (R.og 4 ka (by omega) (by simp)) (R.dg ka (by simp)), fun j p' hp hc' => ?_, by simp [R.len], fun j hj => ?_, fun j q hj hq hne => ?_, fun j x hj hx => ?_, fun x hx => ?_, fun x hx q => ?_⟩
  · rw [upd_ne _ _ (by omega)]
    exact cellT hX hdi hlt (by omega) (R.cf j hj)
  · rw [upd_same, List.length_append]
    exact c_in (Nat.le_refl _) (by simp)
  · rw [upd_ne _ _ (by omega)]
    exact rowT hX hn (R.fo j hj) (R.oo 4 j (by omega) (by omega) (by omega)) (R.od j (by omega))
  · rw [upd_same, List.length_append, pcsC_snoc _ _ _ _ R.len]
    exact hO.setsN (hdn.imp id Ne.symm)
  · by_cases hj : j < ps.length
    · rw [List.getElem?_append_left hj] at hp
      have e : (pa ++ [c]).getD j none = pa.getD j none := by
        simp only [List.getD]
        rw [List.getElem?_append_left (by rw [R.len]; exact hj)]
      rw [e]
      exact slT hX hn (R.dat j p' hp hc') (R.og 4 _ (by omega) (R.gmem hp)) (R.dg _ (R.gmem hp))
    · have hj2 : j = ps.length := by
        have := (List.getElem?_eq_some_iff.1 hp).1
        simp at this; omega
      subst hj2
      rw [List.getElem?_append_right (Nat.le_refl _)] at hp
      simp at hp; subst hp
      have e : (pa ++ [c]).getD ps.length none = c := by
        simp only [List.getD]
        rw [List.getElem?_append_right (by rw [R.len]; exact Nat.le_refl _), R.len]; simp
      rw [e]
      exact slT hX hn (hS hc') (hco 4 (by omega)) hcd
  · by_cases e : j = 4
    · subst e; rw [upd_same]; exact hdn
    · rw [upd_ne _ _ e]; exact R.od j hj
  · by_cases e : j = 4
    · subst e
      rw [upd_same, upd_ne _ _ (Ne.symm hne)]
      exact apt_new (R.oo 4 q hj hq hne) (R.rlt hq) hnew
    · rw [upd_ne _ _ e]
      by_cases e2 : q = 4
      · subst e2
        rw [upd_same]
        exact (apt_new (R.oo 4 j hq hj (Ne.symm hne)) (R.rlt hj) hnew).symm
      · rw [upd_ne _ _ e2]; exact R.oo j q hj hq hne
  · by_cases e : j = 4
    · subst e
      rw [upd_same]
      rcases hmem x hx with hx | rfl
      · exact apt_new (R.og 4 x hj hx) (R.gl x hx) hnew
      · exact apt_new (hco 4 hj) hc hnew
    · rw [upd_ne _ _ e]
      rcases hmem x hx with hx | rfl
      · exact R.og j x hj hx
      · exact hco j hj
  · rcases hmem x hx with hx | rfl
    · exact R.dg x hx
    · exact hcd
  · rcases hmem x hx with hx | rfl
    · exact Nat.lt_of_lt_of_le (R.gl x hx q) hn
    · exact Nat.lt_of_lt_of_le (hc q) hn
theorem DkR.list {a' : Option Addr} {ps' : List Pc} {pa' : List (Option Addr)} (R : DkR h n d o ka pa fl ps fuse keep calls down) (hX : ExtX n (o 4) h h2) (hn : n ≤ n2) (hO : OwnSl h2 0 n2 a' 2 ps'.length (pcsC ps' pa')) (hnew : a' = o 4 ∨ a' = none ∨ n ≤ sb a')
    (hlen : pa'.length = ps'.length) (hmem : ∀ x, x ∈ pa' → x ∈ pa) (hdat : ∀ i p, ps'[i]? = some p → p.cut = false → ∃ j, ps[j]? = some p ∧ pa'.getD i none = pa.getD j none) :
    DkR (h2.app (.sets d 5 [.slice a' ps'.length ps'.length])) n2 d (upd o 4 a') ka pa' fl ps' fuse keep calls down := by
  have hdi := R.od 4 (by omega)
  have hlt := R.lt
  have hdn : apd d a' := apd_new hdi hlt hnew
  have hm : ∀ x, x ∈ ka :: pa' → x ∈ ka :: pa := fun x hx => by
    simp only [List.mem_cons] at hx ⊢
    exact hx.imp id (hmem x)
  refine ⟨by omega, i_sets (i_extX hX hlt hdi R.inf), cellT hX hdi hlt (by omega) R.c0, fun j hj => ?_, ?_, cellT hX hdi hlt (by omega) R.c6, cellT hX hdi hlt (by omega) R.c7, cellT hX hdi hlt (by omega) R.c8, cellT hX hdi hlt (by omega) R.c9,
    fun j hj => ?_, ?_, slT hX hn R.ks (R.og 4 ka (by omega) (by simp)) (R.dg ka (by simp)), fun j p' hp hc' => ?_, hlen, fun j hj => ?_, fun j q hj hq hne => ?_, fun j x hj hx => ?_, fun x hx => R.dg x (hm x hx), fun x hx q => Nat.lt_of_lt_of_le (R.gl x (hm x hx) q) hn⟩
  · rw [upd_ne _ _ (by omega)]
    exact cellT hX hdi hlt (by omega) (R.cf j hj)
  · rw [upd_same]
    exact c_in (Nat.le_refl _) (by simp)
  · rw [upd_ne _ _ (by omega)]
    exact rowT hX hn (R.fo j hj) (R.oo 4 j (by omega) (by omega) (by omega)) (R.od j (by omega))
  · rw [upd_same]
    exact hO.setsN (hdn.imp id Ne.symm)
  · obtain ⟨k, hk, e⟩ := hdat j p' hp hc'
    rw [e]
    exact slT hX hn (R.dat k p' hk hc') (R.og 4 _ (by omega) (R.gmem hk)) (R.dg _ (R.gmem hk))
  · by_cases e : j = 4
    · subst e; rw [upd_same]; exact hdn
    · rw [upd_ne _ _ e]; exact R.od j hj
  · by_cases e : j = 4
    · subst e
      rw [upd_same, upd_ne _ _ (Ne.symm hne)]
      exact apt_new (R.oo 4 q hj hq hne) (R.rlt hq) hnew
    · rw [upd_ne _ _ e]
      by_cases e2 : q = 4
      · subst e2
        rw [upd_same]
        exact (apt_new (R.oo 4 j hq hj (Ne.symm hne)) (R.rlt hj) hnew).symm
      · rw [upd_ne _ _ e2]; exact R.oo j q hj hq hne
  · by_cases e : j = 4
    · subst e
      rw [upd_same]
      exact apt_new (R.og 4 x hj (hm x hx)) (R.gl x (hm x hx)) hnew
    · rw [upd_ne _ _ e]
      exact R.og j x hj (hm x hx)
theorem DkR.fileJ {i j : Nat} {a' : Option Addr} {l' : List UInt8} (R : DkR h n d o ka pa fl ps fuse keep calls down) (hi : i < 4) (hj : j = 1 + i) (hX : ExtX n (o i) h h2) (hn : n ≤ n2) (hO : OwnSl h2 0 n2 a' 1 l'.length (bytesV l')) (hnew : a' = o i ∨ a' = none ∨ n ≤ sb a') :
    DkR (h2.app (.sets d j [.slice a' l'.length l'.length])) n2 d (upd o i a') ka pa (upd fl i l') ps fuse keep calls down := by
  subst hj; exact R.file hi hX hn hO hnew
theorem DkR.congr {fl' : Nat → List UInt8} (R : DkR h n d o ka pa fl ps fuse keep calls down) (e : ∀ i, i < 4 → fl i = fl' i) : DkR h n d o ka pa fl' ps fuse keep calls down :=
  ⟨R.lt, R.inf, R.c0, fun i hi => by rw [← e i hi]; exact R.cf i hi, R.c5, R.c6, R.c7, R.c8, R.c9, fun i hi => by rw [← e i hi]; exact R.fo i hi, R.lo, R.ks, R.dat, R.len, R.od, R.oo, R.og, R.dg, R.gl⟩
def oNew (n : Nat) (o o' : Nat → Option Addr) : Prop := ∀ i, i < 5 → o' i = o i ∨ o' i = none ∨ n ≤ sb (o' i)
theorem oNew.refl (n : Nat) (o : Nat → Option Addr) : oNew n o o := fun _ _ => .inl rfl
theorem oNew.upd {o' : Nat → Option Addr} {i : Nat} {a' : Option Addr} (q : oNew n o o') (hn : n ≤ n1) (k : a' = o' i ∨ a' = none ∨ n1 ≤ sb a') : oNew n o (upd o' i a') := fun j hj => by
  by_cases e : j = i
  · subst e
    rw [upd_same]
    rcases k with k | k | k
    · rw [k]; exact q j hj
    · exact .inr (.inl k)
    · exact .inr (.inr (by omega))
  · rw [upd_ne _ _ e]; exact q j hj
theorem oNew.trans {o1 o2 : Nat → Option Addr} (p : oNew n o o1) (q : oNew n1 o1 o2) (hn : n ≤ n1) : oNew n o o2 := fun j hj => by
  rcases q j hj with k | k | k
  · rw [k]; exact p j hj
  · exact .inr (.inl k)
  · exact .inr (.inr (by omega))
theorem oNew.F {o' : Nat → Option Addr} (q : oNew n o o') : ∀ b, b < n → DkF d o' b → DkF d o b := by
  rintro b hb (rfl | ⟨i, hi, hne, rfl⟩)
  · exact .inl rfl
  · rcases q i hi with k | k | k
    · exact .inr ⟨i, hi, by rw [← k]; exact hne, by rw [k]⟩
    · exact absurd k hne
    · omega
theorem oNew.apt {o' : Nat → Option Addr} {c : Option Addr} (q : oNew n o o') (hc : c ≠ none → sb c < n) (hco : ∀ i, i < 5 → apt (o i) c) : ∀ i, i < 5 → apt (o' i) c := fun i hi => apt_new (hco i hi) hc (q i hi)
end
end Go.Proofs.YtfbddbpbifnhfaaGreatDoor.Dk

/- Contracts taken from disk (written by port.py). -/
namespace Go.Proofs.YtfbddbpbifnhfaaGreatDoor.Dk
open Go.Abs
section
variable {h h1 h2 : AH} {n n1 n2 d : Nat} {o : Nat → Option Addr} {ka : Option Addr} {pa : List (Option Addr)} {fl : Nat → List UInt8} {ps : List Pc} {fuse : Int} {keep : List Bool} {calls : Int} {down : Bool}
set_option maxHeartbeats 4000000 in
theorem none_ev (R : DkR h n d o ka pa fl ps fuse keep calls down) : Ev Tryz.prog none' 36 #[.pointer (some ⟨d, 0, none⟩)] n h (.bool false) n h := by
  refine RF.pure rfl fun n' hn => ?_
  have R := R.ext (Ext.refl n h) hn
  have h0 := R.c0
  have hlt := R.lt
  refine RF.of Tryz.func36 rfl rfl (Nat.le_of_ble_eq_true rfl) ?_; dsimp only [argEnv]
  repeat' (first | refine stpS ?_ | (refine stp2 ?_ ?_ <;> intro _))
  rfl
def mayE (down : Bool) (f : Int) : Int := if down = true then 6 else if f ≠ 0 ∧ f ≠ 1 then 1 else 0
set_option maxHeartbeats 4000000 in
theorem may_ev (R : DkR h n d o ka pa fl ps fuse keep calls down) (f : Int) : Ev Tryz.prog none' 37 #[.pointer (some ⟨d, 0, none⟩), .int .i64 f] n h (.int .i64 (mayE down f)) n h := by
  refine RF.pure rfl fun n' hn => ?_
  have R := R.ext (Ext.refl n h) hn
  have h9 := R.c9
  have hlt := R.lt
  refine RF.of Tryz.func37 rfl rfl (Nat.le_of_ble_eq_true rfl) ?_; dsimp only [argEnv]
  cases hd : down
  · rw [hd] at h9
    by_cases h0 : f = 0
    · repeat' (first | refine stpS ?_ | (refine stp2 ?_ ?_ <;> intro _) | refine RS.call1 rfl opds (none_ev R) none'W ?_)
      simp [mayE, h0]
    · by_cases h1 : f = 1
      · repeat' (first | refine stpS ?_ | (refine stp2 ?_ ?_ <;> intro _) | refine RS.call1 rfl opds (none_ev R) none'W ?_)
        simp [mayE, h1]
      · repeat' (first | refine stpS ?_ | (refine stp2 ?_ ?_ <;> intro _) | refine RS.call1 rfl opds (none_ev R) none'W ?_)
        simp [mayE, h0, h1]
  · rw [hd] at h9
    repeat' (first | refine stpS ?_ | (refine stp2 ?_ ?_ <;> intro _) | refine RS.call1 rfl opds (none_ev R) none'W ?_)
    simp [mayE]
set_option maxHeartbeats 4000000 in
theorem done_rf {p : Pc} {c : Option Addr} (R : DkR h n d o ka pa fl ps fuse keep calls down) (hp : PcOk p) (hfl : (fl p.file).length ≤ 4194304) (hps : ps.length ≤ 1099511627776) (hS : p.cut = false → SlB h n c p.b) (hc : c ≠ none → sb c < n) (hco : ∀ i, i < 5 → apt (o i) c) (hcd : apd d c) :
    RF Tryz.prog (DkF d o) 65 #[.pointer (some ⟨d, 0, none⟩), .int .i64 (p.file : Nat), pcV p c] n h (fun _ n' h' => ∃ a1 a4, DkR h' n' d (upd (upd o p.file a1) 4 a4) ka (pa ++ [c]) (upd fl p.file (doP (fl p.file) p)) (ps ++ [p]) fuse keep calls down ∧
      (a1 = o p.file ∨ n ≤ sb a1) ∧ (a4 = o 4 ∨ n ≤ sb a4) ∧ ExtW (DkF d o) n h h') := by
  have hi : p.file < 2 := by rcases hp.file with h0 | h0 <;> omega
  refine RF.of Tryz.func65 rfl rfl (Nat.le_of_ble_eq_true rfl) ?_; dsimp only [argEnv]
  have hlt := R.lt
  have hinf := R.inf
  have Rb := R.ext (AH.below_ext h n) (Nat.le_refl _)
  have hTd : DkF d o d := .inl rfl
  have c1 : h.cell d (1 + p.file) = .slice (o p.file) (fl p.file).length (fl p.file).length := R.cf p.file (by omega)
  have hod : o p.file = none ∨ d ≠ sb (o p.file) := R.od p.file (by omega)
  have hnd : ¬ inA (o p.file) d := fun q => (hod.resolve_left q.1) q.2
  have hWl : ∀ b, inA (o p.file) b → b < n := fun b q => by rw [q.2]; exact R.rlt (by omega) q.1
  have fin : ∀ (a1 a4 : Option Addr) (n1 n2 : Nat) (h1 h2 : AH), n ≤ n1 → n1 ≤ n2 → OwnSl h1 0 n1 a1 1 (doP (fl p.file) p).length (bytesV (doP (fl p.file) p)) → ExtX n (o p.file) (h.below n) h1 → (a1 = o p.file ∨ n ≤ sb a1) →
      ExtX n1 (o 4) (h1.app (.sets d (1 + p.file) [.slice a1 (doP (fl p.file) p).length (doP (fl p.file) p).length])) h2 → OwnSl h2 0 n2 a4 2 (ps.length + 1) (pcsC ps pa ++ pcC p c) → (a4 = o 4 ∨ n1 ≤ sb a4) →
      ∃ a1 a4', DkR (h2.app (.sets d 5 [.slice a4 (ps.length + 1) (ps.length + 1)])) n2 d (upd (upd o p.file a1) 4 a4') ka (pa ++ [c]) (upd fl p.file (doP (fl p.file) p)) (ps ++ [p]) fuse keep calls down ∧
      (a1 = o p.file ∨ n ≤ sb a1) ∧ (a4' = o 4 ∨ n ≤ sb a4') ∧ ExtW (DkF d o) n h (h2.app (.sets d 5 [.slice a4 (ps.length + 1) (ps.length + 1)])) := by
    intro a1 a4 n1 n2 h1 h2 hle hle2 hO1 hX1 hnew1 hX3 hO5 hnew2
    have R1 := Rb.file (i := p.file) (by omega) hX1 hle hO1 (hnew1.imp id .inr)
    have e4 : upd o p.file a1 4 = o 4 := upd_ne _ _ (show 4 ≠ p.file by omega)
    have hcb := hco p.file (by omega)
    have w1 : ExtW (DkF d o) n h h1 := (ExtW.ofX (W := DkF d o) hX1 (fun q => .inr ⟨p.file, by omega, q, rfl⟩)).via (Nat.le_refl n) (fun _ _ q => q) (ExtW.of (AH.below_ext h n) (Nat.le_refl _))
    have w2 := ExtW.appSets (b := d) (o := 1 + p.file) (vs := [.slice a1 (doP (fl p.file) p).length (doP (fl p.file) p).length]) (.inl hTd) w1
    have w3 := (ExtW.ofX (W := DkF d o) hX3 (fun q => .inr ⟨4, by omega, q, rfl⟩)).via hle (fun _ _ q => q) w2
    refine ⟨a1, a4, R1.push (p := p) (c := c) (by rw [e4]; exact hX3) hle2 hO5 (by rw [e4]; exact hnew2.imp id .inr) (fun q => ?_) (fun q => Nat.lt_of_lt_of_le (hc q) hle) (fun i hi => ?_) hcd, hnew1, hnew2.imp id (by omega), ExtW.appSets (.inl hTd) w3⟩
    · exact slT hX1 hle ((hS q).ext (AH.below_ext h n) (Nat.le_refl _)) hcb hcd
    · by_cases e : i = p.file
      · subst e; rw [upd_same]; exact apt_new hcb hc (hnew1.imp id .inr)
      · rw [upd_ne _ _ e]; exact hco i hi
  cases hcut : p.cut
  · have hv : pcV p c = .iface 106 (.agg #[.int .i64 (p.at_ : Nat), .slice c p.b.length p.b.length]) := by simp [pcV, hcut]
    rw [hv]
    repeat' (first | refine stp ?_ | (refine stp2 ?_ ?_ <;> intro _))
    refine RD.invoke n rfl opd opds (bitDo_rf (fl p.file) p.b (o p.file) c _ _ n p.at_ _ (Rb.fo p.file (by omega)) ((hS hcut).ext (AH.below_ext h n) (Nat.le_refl _)) rfl rfl (hp.some hcut).1 hfl (hp.some hcut).2 (hco p.file (by omega))) (fun b hb => .inl (.inr ⟨p.file, by omega, hb⟩)) (Nat.le_refl _) cfw ?_
    rintro r n1 h1 hle ⟨a1, rfl, hO1, hX1, hnew1⟩
    repeat' (first | refine stp ?_ | (refine stp2 ?_ ?_ <;> intro _))
    have hdo : doP (fl p.file) ⟨0, false, p.at_, p.b⟩ = doP (fl p.file) p := by simp [doP, hcut]
    rw [hdo] at hO1 ⊢
    have hv : pcV p c = .iface 106 (.agg #[.int .i64 (p.at_ : Nat), .slice c p.b.length p.b.length]) := by simp [pcV, hcut]
    have R1 := Rb.file (i := p.file) (by omega) hX1 hle hO1 (hnew1.imp id .inr)
    have c5 := R1.c5
    have hO4 := R1.lo
    have e4 : upd o p.file a1 4 = o 4 := upd_ne _ _ (show 4 ≠ p.file by omega)
    rw [e4] at hO4 c5
    repeat' refine stp ?_
    refine RS.appendT rfl opd opd (hO4.ext ext (by omega)) (OwnSl.src (OwnSl.new (n0 := 0) (m := 1) (z := 2) (Nat.zero_le _) rfl rfl)) full_slice (fun q => .inl (.inr ⟨4, by omega, q, rfl⟩)) (by omega) ?_
    intro a4 n2 h2 hle2 hO5 hX2 hnew2
    have hX3 : ExtX n1 (o 4) (h1.app (.sets d (1 + p.file) [.slice a1 (doP (fl p.file) p).length (doP (fl p.file) p).length])) h2 := fun x hx hne => by
      have := hX2 x (by omega) hne
      exact ⟨this.1.trans (i_new_ne (by omega) rfl), fun i => (this.2 i).trans (c_new_ne (by omega) rfl)⟩
    have i2 := R1.inf
    have hdl := R1.lt
    have ho4 := R.od 4 (by omega)
    have hd4 : o 4 = none ∨ d ≠ sb (o 4) := ho4
    repeat' refine stp ?_
    have hp1 : pcC p c = [.int .i64 (p.file : Nat), .iface 106 (.agg #[.int .i64 (p.at_ : Nat), .slice c p.b.length p.b.length])] := by rw [pcC, hv]
    exact fin a1 a4 n1 n2 h1 h2 hle (by omega) hO1 hX1 hnew1 hX3 (by rw [hp1]; exact hO5) (hnew2.imp id (by omega))
  · have hv : pcV p c = .iface 114 (.int .i64 (p.at_ : Nat)) := by simp [pcV, hcut]
    rw [hv]
    repeat' (first | refine stp ?_ | (refine stp2 ?_ ?_ <;> intro _))
    refine RD.invoke n rfl opd opds (cutDo_rf (fl p.file) (o p.file) _ n p.at_ _ (Rb.fo p.file (by omega)) rfl) (fun b hb => .inl (.inr ⟨p.file, by omega, hb⟩)) (Nat.le_refl _) cfw ?_
    rintro r n1 h1 hle ⟨a1, rfl, hO1, hX1, hnew1⟩
    repeat' (first | refine stp ?_ | (refine stp2 ?_ ?_ <;> intro _))
    have hdo : (fl p.file).take p.at_ = doP (fl p.file) p := by simp [doP, hcut]
    rw [hdo] at hO1 ⊢
    have hv : pcV p c = .iface 114 (.int .i64 (p.at_ : Nat)) := by simp [pcV, hcut]
    have R1 := Rb.file (i := p.file) (by omega) hX1 hle hO1 (hnew1.imp id .inr)
    have c5 := R1.c5
    have hO4 := R1.lo
    have e4 : upd o p.file a1 4 = o 4 := upd_ne _ _ (show 4 ≠ p.file by omega)
    rw [e4] at hO4 c5
    repeat' refine stp ?_
    refine RS.appendT rfl opd opd (hO4.ext ext (by omega)) (OwnSl.src (OwnSl.new (n0 := 0) (m := 1) (z := 2) (Nat.zero_le _) rfl rfl)) full_slice (fun q => .inl (.inr ⟨4, by omega, q, rfl⟩)) (by omega) ?_
    intro a4 n2 h2 hle2 hO5 hX2 hnew2
    have hX3 : ExtX n1 (o 4) (h1.app (.sets d (1 + p.file) [.slice a1 (doP (fl p.file) p).length (doP (fl p.file) p).length])) h2 := fun x hx hne => by
      have := hX2 x (by omega) hne
      exact ⟨this.1.trans (i_new_ne (by omega) rfl), fun i => (this.2 i).trans (c_new_ne (by omega) rfl)⟩
    have i2 := R1.inf
    have hdl := R1.lt
    have ho4 := R.od 4 (by omega)
    have hd4 : o 4 = none ∨ d ≠ sb (o 4) := ho4
    repeat' refine stp ?_
    have hp1 : pcC p c = [.int .i64 (p.file : Nat), .iface 114 (.int .i64 (p.at_ : Nat))] := by rw [pcC, hv]
    exact fin a1 a4 n1 n2 h1 h2 hle (by omega) hO1 hX1 hnew1 hX3 (by rw [hp1]; exact hO5) (hnew2.imp id (by omega))
end
end Go.Proofs.YtfbddbpbifnhfaaGreatDoor.Dk

/- Contracts taken from disk (written by port.py). -/
namespace Go.Proofs.YtfbddbpbifnhfaaGreatDoor.Dk
open Go.Abs
section
variable {h h1 h2 : AH} {n n1 n2 d : Nat} {o : Nat → Option Addr} {ka : Option Addr} {pa : List (Option Addr)} {fl : Nat → List UInt8} {ps : List Pc} {fuse : Int} {keep : List Bool} {calls : Int} {down : Bool}
def flL (fl : Nat → List UInt8) (L : Nat → List UInt8) : Nat → List UInt8 := fun j => if j < 2 then fl j else L (j - 2)
theorem flL_upd (fl L : Nat → List UInt8) (f : Nat) (l : List UInt8) (j : Nat) : upd (flL fl L) (2 + f) l j = flL fl (upd L f l) j := by
  unfold flL upd
  by_cases e : j = 2 + f
  · subst e
    rw [if_pos rfl, if_neg (by omega), if_pos (by omega)]
  · rw [if_neg e]
    by_cases h2 : j < 2
    · simp only [if_pos h2]
    · simp only [if_neg h2, if_neg (show ¬ j - 2 = f by omega)]
theorem flL_2 (fl L : Nat → List UInt8) (f : Nat) : flL fl L (2 + f) = L f := by
  unfold flL
  simp only [if_neg (show ¬ 2 + f < 2 by omega), Nat.add_sub_cancel_left]
set_option maxHeartbeats 4000000 in
theorem lose_rf {c : Option Addr} {ks : List Bool} (R : DkR h n d o ka pa fl ps fuse keep calls down) (hp : ∀ p ∈ ps, PcOk p) (hfl : ∀ f, (fl (2 + f)).length ≤ 4194304) (hps : ps.length ≤ 1099511627776) (hks : ks.length ≤ 1099511627776) (hS : SlT h n c ks) (hco : ∀ i, i < 5 → apt (o i) c) (hcd : apd d c) :
    RF Tryz.prog (DkF d o) 62 #[.pointer (some ⟨d, 0, none⟩), .slice c ks.length ks.length] n h (fun _ n' h' => ∃ o', DkR h' n' d o' ka [] (fun j => loseP (fun f => fl (2 + f)) ps ks (j % 2)) [] 0 keep calls true ∧ oNew n o o' ∧ ExtW (DkF d o) n h h') := by
  refine RF.of Tryz.func62 rfl rfl (Nat.le_of_ble_eq_true rfl) ?_; dsimp only [argEnv]
  have hlt := R.lt
  have c5 := R.c5
  repeat' (first | refine stpS ?_ | (refine stp2 ?_ ?_ <;> intro _))
  refine RC.loop ?_
  refine RL.inv (α := Nat × (Nat → Option Addr)) (fun s => [(12, .int .i64 (s.1 : Nat)), (11, .int .i64 ps.length), (10, .slice (o 4) ps.length ps.length), (1, .slice c ks.length ks.length), (0, .pointer (some ⟨d, 0, none⟩))])
    (fun s n1 h1 => s.1 ≤ ps.length ∧ n ≤ n1 ∧ DkR h1 n1 d s.2 ka pa (flL fl (loseP (fun f => fl (2 + f)) (ps.take s.1) ks)) ps fuse keep calls down ∧ oNew n o s.2 ∧ s.2 4 = o 4 ∧ ExtW (DkF d o) n h h1) (fun s => ps.length - s.1) (0, o) envs
    ⟨by omega, by omega, R.congr fun i hi => ?_, oNew.refl n o, rfl, ExtW.refl _ _ _⟩ ?_
  · unfold flL
    by_cases h2 : i < 2
    · rw [if_pos h2]
    · rw [if_neg h2, List.take_zero, loseP_nil]
      rw [show 2 + (i - 2) = i by omega]
  rintro ⟨i, o1⟩ n1 h1 ⟨hi, hn1, R1, ho1, ho4, hX1⟩
  dsimp only at hi R1 ho1 ho4 hX1 ⊢
  repeat' (first | refine stpS ?_ | (refine stp2 ?_ ?_ <;> intro _))
  · have hi' : i < ps.length := by omega
    obtain ⟨p, hpi⟩ : ∃ p, ps[i]? = some p := ⟨_, List.getElem?_eq_getElem hi'⟩
    have hpo := hp p (List.mem_of_getElem? hpi)
    have hf2 : p.file < 2 := by rcases hpo.file with q | q <;> omega
    obtain ⟨hso, -, hsn, -, hA, hC⟩ := R1.lo.facts (by omega)
    obtain ⟨g0, g1⟩ := pcsC_at ps pa i p R1.len hpi
    have hC0 := hC (i * 2) (by omega)
    have hC1 := hC (i * 2 + 1) (by omega)
    rw [ho4] at hso hsn hA hC0 hC1
    rw [List.getD, Nat.mul_comm i 2, g0] at hC0
    rw [List.getD, Nat.mul_comm i 2, g1] at hC1
    rw [Nat.mul_comm 2 i] at hC0 hC1
    simp only [Option.getD_some] at hC0 hC1
    obtain ⟨t, w, hv⟩ : ∃ t w, pcV p (pa.getD i none) = .iface t w := by
      unfold pcV; split
      · exact ⟨_, _, rfl⟩
      · exact ⟨_, _, rfl⟩
    have hC1' : h1.cell (sb (o 4)) (so (o 4) + i * 2 + 1) = .iface t w := by rw [← hv]; exact hC1
    have hkF : c ≠ none → ¬ DkF d o (sb c) := by
      rintro q (e | ⟨j, hj, hne, e⟩)
      · exact (hcd.resolve_left q) e.symm
      · exact ((hco j hj).resolve_left hne).resolve_left q e.symm
    have hA2 : SlA c ks.length := hS.sla
    have htk : ps.take (i + 1) = ps.take i ++ [p] := by
      rw [List.take_add_one, hpi]; rfl
    have hti : (ps.take i).length = i := by rw [List.length_take]; omega
    have hsn1 := hsn
    cases hk : ks.getD i false
    · have hls : loseP (fun f => fl (2 + f)) (ps.take (i + 1)) ks = loseP (fun f => fl (2 + f)) (ps.take i) ks := by
        rw [htk, loseP_snoc, hti, hk]; simp
      by_cases hik : i < ks.length
      · have hcb : h1.cell (sb c) (so c + i) = .bool false := by
          have := (hS.extW hX1 hn1 hkF).cell i (by omega)
          rw [this, boolsF, hk]
        have hcl : sb c < n1 := Nat.lt_of_lt_of_le (hS.lt (by omega)) hn1
        repeat' (first | refine stpS ?_ | (refine stp2 ?_ ?_ <;> intro _))
        refine nextC.normal ⟨(i + 1, o1), by dsimp only; omega, envs, by dsimp only; omega, by omega, ?_, ho1, ho4, extW⟩
        dsimp only
        rw [hls]
        exact R1.ext ext (by omega)
      · repeat' (first | refine stpS ?_ | (refine stp2 ?_ ?_ <;> intro _))
        refine nextC.normal ⟨(i + 1, o1), by dsimp only; omega, envs, by dsimp only; omega, by omega, ?_, ho1, ho4, extW⟩
        dsimp only
        rw [hls]
        exact R1.ext ext (by omega)
    · have hik : i < ks.length := by
        refine Classical.byContradiction fun q => ?_
        rw [List.getD, List.getElem?_eq_none (by omega)] at hk
        cases hk
      have hls : loseP (fun f => fl (2 + f)) (ps.take (i + 1)) ks = upd (loseP (fun f => fl (2 + f)) (ps.take i) ks) p.file (doP (loseP (fun f => fl (2 + f)) (ps.take i) ks p.file) p) := by
        rw [htk, loseP_snoc, hti, hk]; simp
      have hcb : h1.cell (sb c) (so c + i) = .bool true := by
        have := (hS.extW hX1 hn1 hkF).cell i (by omega)
        rw [this, boolsF, hk]
      have hcl : sb c < n1 := Nat.lt_of_lt_of_le (hS.lt (by omega)) hn1
      have R2 := R1.ext (h1 := (h1.app (.new n1 ⟨2, 0, true, 0⟩ [.int .i64 0, .nilIface])).app (.sets n1 0 [.int .i64 (p.file : Nat), .iface t w])) ext (Nat.le_succ n1)
      repeat' (first | refine stpS ?_ | (refine stp2 ?_ ?_ <;> intro _))
      refine RC.gen (fun g => DkR g (n1 + 1) d o1 ka pa (flL fl (loseP (fun f => fl (2 + f)) (ps.take i) ks)) ps fuse keep calls down ∧ g.cell n1 0 = .int .i64 (p.file : Nat) ∧ g.cell n1 1 = .iface t w ∧ ExtW (DkF d o) n h g) ⟨R2, cell, cell, extW⟩ ?_
      have hrl : ∀ i, i < 5 → o1 i ≠ none → sb (o1 i) < n1 := fun i hi q => R1.rlt hi q
      clear hC1 hC0 hC1' hC hcb R2 R1 hX1
      rintro g ⟨R2, hn0, hn1', hX1⟩
      have hlen := loseP_le (ps := ps.take i) (ks := ks) hfl (fun p hp' => hp p (List.mem_of_mem_take hp'))
      generalize loseP (fun f => fl (2 + f)) (ps.take i) ks = L at *
      have hcf : g.cell d (3 + p.file) = .slice (o1 (2 + p.file)) (L p.file).length (L p.file).length := by
        have := R2.cf (2 + p.file) (by omega)
        rwa [show 1 + (2 + p.file) = 3 + p.file by omega, flL_2] at this
      have hfo : OwnSl g 0 (n1 + 1) (o1 (2 + p.file)) 1 (L p.file).length (bytesV (L p.file)) := by
        have := R2.fo (2 + p.file) (by omega)
        rwa [flL_2] at this
      have hdn := R2.lt
      have hinf := R2.inf
      have hod : o1 (2 + p.file) = none ∨ d ≠ sb (o1 (2 + p.file)) := R2.od (2 + p.file) (by omega)
      have hnd : ¬ inA (o1 (2 + p.file)) d := fun q => (hod.resolve_left q.1) q.2
      have hnn : ¬ inA (o1 (2 + p.file)) n1 := fun q => by
        have := hrl (2 + p.file) (by omega) q.1
        have := q.2
        omega
      have hWl : ∀ b, inA (o1 (2 + p.file)) b → b < n1 + 1 := fun b q => by rw [q.2]; exact R2.rlt (by omega) q.1
      have hTd : DkF d o d := .inl rfl
      have hTf : ∀ b, inA (o1 (2 + p.file)) b → DkF d o b ∨ n ≤ b := fun b q => by
        by_cases hb : b < n
        · exact .inl (ho1.F b hb (.inr ⟨2 + p.file, by omega, q⟩))
        · exact .inr (by omega)
      repeat' (first | refine stp ?_ | (refine stp2 ?_ ?_ <;> intro _))
      have Rb := R2.ext (AH.below_ext g (n1 + 1)) (Nat.le_refl _)
      have hfb := hfo.ext (AH.below_ext g (n1 + 1)) (Nat.le_refl _)
      have hgm := R2.gmem hpi
      cases hcut : p.cut
      · obtain ⟨rfl, rfl⟩ : 106 = t ∧ .agg #[.int .i64 (p.at_ : Nat), .slice (pa.getD i none) p.b.length p.b.length] = w := by
          simp only [pcV, hcut, Bool.false_eq_true, if_false] at hv
          injection hv with q1 q2; exact ⟨q1, q2⟩
        refine RD.invoke (n1 + 1) rfl opd opds (bitDo_rf (L p.file) p.b (o1 (2 + p.file)) (pa.getD i none) _ _ (n1 + 1) p.at_ _ hfb ((R2.dat i p hpi hcut).ext (AH.below_ext g (n1 + 1)) (Nat.le_refl _)) rfl rfl (hpo.some hcut).1 (hlen _) (hpo.some hcut).2 (R2.og (2 + p.file) _ (by omega) hgm)) hTf (Nat.le_refl _) cfw ?_
        rintro r n2 h2 hle ⟨a1, rfl, hO2, hX2, hnew⟩
        have hdo : doP (L p.file) ⟨0, false, p.at_, p.b⟩ = doP (L p.file) p := by simp [doP, hcut]
        rw [hdo] at hO2 ⊢
        have R3 := Rb.fileJ (i := 2 + p.file) (j := 3 + p.file) (by omega) (by omega) hX2 hle hO2 (hnew.imp id .inr)
        repeat' (first | refine stp ?_ | (refine stp2 ?_ ?_ <;> intro _))
        refine nextC.normal ⟨(i + 1, upd o1 (2 + p.file) a1), by dsimp only; omega, envs, by dsimp only; omega, by omega, R3.congr fun j hj => ?_, ho1.upd (n1 := n1 + 1) (by omega) (hnew.imp id .inr), ?_, ExtW.appSets (.inl hTd) ((ExtW.ofX (W := fun b => DkF d o b ∨ n ≤ b) hX2 (fun q => hTf _ ⟨q, rfl⟩)).via (by omega) (fun x hx q => q.resolve_right (by omega)) (hX1.below (by omega)))⟩
        · dsimp only
          rw [hls]; exact flL_upd _ _ _ _ _
        · dsimp only
          rw [upd_ne _ _ (by omega)]; exact ho4
      · obtain ⟨rfl, rfl⟩ : 114 = t ∧ .int .i64 (p.at_ : Nat) = w := by
          simp only [pcV, hcut, if_true] at hv
          injection hv with q1 q2; exact ⟨q1, q2⟩
        refine RD.invoke (n1 + 1) rfl opd opds (cutDo_rf (L p.file) (o1 (2 + p.file)) _ (n1 + 1) p.at_ _ hfb rfl) hTf (Nat.le_refl _) cfw ?_
        rintro r n2 h2 hle ⟨a1, rfl, hO2, hX2, hnew⟩
        have hdo : (L p.file).take p.at_ = doP (L p.file) p := by simp [doP, hcut]
        rw [hdo] at hO2 ⊢
        have R3 := Rb.fileJ (i := 2 + p.file) (j := 3 + p.file) (by omega) (by omega) hX2 hle hO2 (hnew.imp id .inr)
        repeat' (first | refine stp ?_ | (refine stp2 ?_ ?_ <;> intro _))
        refine nextC.normal ⟨(i + 1, upd o1 (2 + p.file) a1), by dsimp only; omega, envs, by dsimp only; omega, by omega, R3.congr fun j hj => ?_, ho1.upd (n1 := n1 + 1) (by omega) (hnew.imp id .inr), ?_, ExtW.appSets (.inl hTd) ((ExtW.ofX (W := fun b => DkF d o b ∨ n ≤ b) hX2 (fun q => hTf _ ⟨q, rfl⟩)).via (by omega) (fun x hx q => q.resolve_right (by omega)) (hX1.below (by omega)))⟩
        · dsimp only
          rw [hls]; exact flL_upd _ _ _ _ _
        · dsimp only
          rw [upd_ne _ _ (by omega)]; exact ho4
  · have hie : i = ps.length := by omega
    subst hie
    rw [List.take_length] at R1
    have hlen := loseP_le (ps := ps) (ks := ks) hfl hp
    generalize loseP (fun f => fl (2 + f)) ps ks = L at *
    refine RC.loop ?_
    refine RL.inv (α := Nat × (Nat → Option Addr)) (fun s => [(46, .int .i64 (s.1 : Nat)), (0, .pointer (some ⟨d, 0, none⟩))])
      (fun s n2 h2 => s.1 ≤ 2 ∧ n ≤ n2 ∧ DkR h2 n2 d s.2 ka pa (fun j => if j < s.1 then L j else flL fl L j) ps fuse keep calls down ∧ oNew n o s.2 ∧ ExtW (DkF d o) n h h2) (fun s => 2 - s.1) (0, o1) envs
      ⟨by omega, hn1, R1.congr fun j _ => rfl, ho1, hX1⟩ ?_
    clear R1 ho1 ho4 hX1
    rintro ⟨f, o2⟩ n2 h2 ⟨hf, hn2, R2, ho2, hX2⟩
    dsimp only at hf R2 ho2 hX2 ⊢
    have hdn := R2.lt
    have hinf := R2.inf
    have hTd : DkF d o d := .inl rfl
    repeat' (first | refine stpS ?_ | (refine stp2 ?_ ?_ <;> intro _))
    · have hf2 : f < 2 := by omega
      have hfl2 : (if 2 + f < f then L (2 + f) else flL fl L (2 + f)) = L f := by
        rw [if_neg (by omega)]; exact flL_2 _ _ _
      have hcf : h2.cell d (3 + f) = .slice (o2 (2 + f)) (L f).length (L f).length := by
        have := R2.cf (2 + f) (by omega)
        rwa [show 1 + (2 + f) = 3 + f by omega, hfl2] at this
      have hfo : OwnSl h2 0 n2 (o2 (2 + f)) 1 (L f).length (bytesV (L f)) := by
        have := R2.fo (2 + f) (by omega)
        rwa [hfl2] at this
      have hLf := hlen f
      repeat' (first | refine stp ?_ | (refine stp2 ?_ ?_ <;> intro _))
      refine RD.call n2 rfl opds (clone_rf (L f) (o2 (2 + f)) _ n2 _ (hfo.slb.ext (AH.below_ext h2 n2) (Nat.le_refl _)) rfl (by omega)) (Nat.le_refl _) cfc ?_
      rintro r n3 h3 hle ⟨a1, rfl, hE, hO⟩
      have hE2 : Ext n2 h2 h3 := hE.via (Nat.le_refl _) (AH.below_ext h2 n2)
      have hnew : a1 = o2 f ∨ a1 = none ∨ n2 ≤ sb a1 := .inr (hO.at'.imp id (·.1))
      have R3 := R2.file (i := f) (by omega) (fun x hx _ => ⟨hE2.info x hx, fun k => hE2.cell x k hx⟩) hle (hO.mono (Nat.zero_le _)) hnew
      repeat' (first | refine stp ?_ | (refine stp2 ?_ ?_ <;> intro _))
      refine nextC.normal ⟨(f + 1, upd o2 f a1), by dsimp only; omega, envs, by dsimp only; omega, by omega, R3.congr fun j hj => ?_, ho2.upd hn2 hnew, ExtW.appSets (.inl hTd) (hX2.then hE2 hn2)⟩
      dsimp only
      unfold upd
      by_cases e : j = f
      · rw [if_pos e, if_pos (by omega), e]
      · simp only [if_neg e]
        by_cases e2 : j < f
        · simp only [if_pos e2, if_pos (show j < f + 1 by omega)]
        · simp only [if_neg e2, if_neg (show ¬ j < f + 1 by omega)]
    · have hf2 : f = 2 := by omega
      subst hf2
      have R3 := R2.list (a' := none) (ps' := []) (pa' := []) (fun x _ _ => ⟨rfl, fun _ => rfl⟩) (Nat.le_refl _) (.nil (Nat.zero_le _)) (.inr (.inl rfl)) rfl (fun x hx => by cases hx) (fun i p hi => by cases hi)
      have R4 := R3.scalar (j := 6) (fuse' := 0) (calls' := calls) (down' := down) (.inl ⟨rfl, rfl, rfl, rfl⟩)
      have R5 := R4.scalar (j := 9) (fuse' := 0) (calls' := calls) (down' := true) (.inr (.inr ⟨rfl, rfl, rfl, rfl⟩))
      refine ⟨_, R5.congr fun j hj => ?_, ho2.upd hn2 (.inr (.inl rfl)), ExtW.appSets (.inl hTd) (ExtW.appSets (.inl hTd) (ExtW.appSets (.inl hTd) hX2))⟩
      by_cases e : j < 2
      · rw [if_pos e, Nat.mod_eq_of_lt e]
      · rw [if_neg e, flL, if_neg e]
        congr 1; omega
end
end Go.Proofs.YtfbddbpbifnhfaaGreatDoor.Dk

/- Contracts taken from disk (written by port.py). -/
namespace Go.Proofs.YtfbddbpbifnhfaaGreatDoor.Dk
open Go.Abs
def flOf (S : DS) : Nat → List UInt8 := fun i => if i < 2 then S.now i else S.sure (i - 2)
theorem flOf_lt (S : DS) {i : Nat} (h : i < 2) : flOf S i = S.now i := by simp [flOf, h]
theorem flOf_2 (S : DS) (f : Nat) : flOf S (2 + f) = S.sure f := by simp [flOf, show ¬ 2 + f < 2 by omega]
def Dk (h : AH) (n d : Nat) (F G : Nat → Prop) (S : DS) : Prop :=
  DSOk S ∧ ∃ o ka pa, F = DkF d o ∧ G = DkG ka pa ∧ DkR h n d o ka pa (flOf S) S.ps S.fuse S.keep S.calls S.down
def DkTo (n d : Nat) (F G : Nat → Prop) (h : AH) (S : DS) (n' : Nat) (h' : AH) : Prop :=
  ∃ F' G', Dk h' n' d F' G' S ∧ (∀ b, b < n → F' b → F b) ∧ (∀ b, b < n → G' b → G b) ∧ ExtW F n h h'
section
variable {h h1 h2 : AH} {n n1 n2 d : Nat} {F G : Nat → Prop} {S S1 S2 : DS}
theorem Dk.lt (D : Dk h n d F G S) : d < n := by
  obtain ⟨_, o, ka, pa, _, _, R⟩ := D
  exact R.lt
theorem Dk.ltF (D : Dk h n d F G S) : ∀ b, F b → b < n := by
  obtain ⟨_, o, ka, pa, rfl, _, R⟩ := D
  exact R.ltF
theorem Dk.ltG (D : Dk h n d F G S) : ∀ b, G b → b < n := by
  obtain ⟨_, o, ka, pa, _, rfl, R⟩ := D
  rintro b ⟨x, hx, hne, rfl⟩
  exact R.gl x hx hne
theorem Dk.inF (D : Dk h n d F G S) : F d := by
  obtain ⟨_, o, ka, pa, rfl, _, R⟩ := D
  exact .inl rfl
theorem Dk.apart (D : Dk h n d F G S) : ∀ b, F b → ¬ G b := by
  obtain ⟨_, o, ka, pa, rfl, rfl, R⟩ := D
  rintro b (rfl | ⟨i, hi, hne, rfl⟩) ⟨x, hx, hxe, e⟩
  · exact ((R.dg x hx).resolve_left hxe) e
  · rcases R.og i x hi hx with k | k | k
    · exact hne k
    · exact hxe k
    · exact k e
theorem Dk.ok (D : Dk h n d F G S) : DSOk S := D.1
theorem Dk.extW {W : Nat → Prop} (D : Dk h n d F G S) (e : ExtW W n h h1) (hn : n ≤ n1) (hF : ∀ b, F b → ¬ W b) (hG : ∀ b, G b → ¬ W b) : Dk h1 n1 d F G S := by
  obtain ⟨ok, o, ka, pa, rfl, rfl, R⟩ := D
  exact ⟨ok, o, ka, pa, rfl, rfl, R.extW e hn hF hG⟩
theorem Dk.ext (D : Dk h n d F G S) (e : Ext n h h1) (hn : n ≤ n1) : Dk h1 n1 d F G S := by
  obtain ⟨ok, o, ka, pa, rfl, rfl, R⟩ := D
  exact ⟨ok, o, ka, pa, rfl, rfl, R.ext e hn⟩
theorem Dk.to (D : Dk h n d F G S) : DkTo n d F G h S n h := ⟨F, G, D, fun _ _ q => q, fun _ _ q => q, ExtW.refl _ _ _⟩
theorem DkTo.mk {o o' : Nat → Option Addr} {ka : Option Addr} {pa pa' : List (Option Addr)} (ok : DSOk S) (R : DkR h1 n1 d o' ka pa' (flOf S) S.ps S.fuse S.keep S.calls S.down) (ho : oNew n o o') (hp : ∀ x, x ∈ pa' → x ∈ pa ∨ x = none ∨ n ≤ sb x) (e : ExtW (DkF d o) n h h1) :
    DkTo n d (DkF d o) (DkG ka pa) h S n1 h1 := by
  refine ⟨_, _, ⟨ok, o', ka, pa', rfl, rfl, R⟩, fun b hb q => ho.F b hb q, ?_, e⟩
  rintro b hb ⟨x, hx, hne, rfl⟩
  simp only [List.mem_cons] at hx
  rcases hx with rfl | hx
  · exact ⟨x, by simp, hne, rfl⟩
  · rcases hp x hx with k | k | k
    · exact ⟨x, by simp [k], hne, rfl⟩
    · exact absurd k hne
    · omega
theorem DkTo.trans {F1 G1 : Nat → Prop} (a : ExtW F n h h1) (hF : ∀ b, b < n → F1 b → F b) (hG : ∀ b, b < n → G1 b → G b) (hn : n ≤ n1) (b : DkTo n1 d F1 G1 h1 S n2 h2) : DkTo n d F G h S n2 h2 := by
  obtain ⟨F2, G2, D, f, g, e⟩ := b
  exact ⟨F2, G2, D, fun b hb q => hF b hb (f b (by omega) q), fun b hb q => hG b hb (g b (by omega) q), a.trans e hn hF⟩
theorem loseP_ok {S : DS} (h : DSOk S) (ks : List Bool) : DSOk (S.lose ks) :=
  ⟨fun p hp => (by cases hp), loseP_le h.sure h.ps, ⟨by simp [DS.lose], by simp [DS.lose]⟩, h.calls, h.keep⟩
theorem none_dk (D : Dk h n d F G S) : Ev Tryz.prog none' 36 #[.pointer (some ⟨d, 0, none⟩)] n h (.bool false) n h := by
  obtain ⟨ok, o, ka, pa, rfl, rfl, R⟩ := D
  exact none_ev R
theorem may_dk (D : Dk h n d F G S) (f : Int) : Ev Tryz.prog none' 37 #[.pointer (some ⟨d, 0, none⟩), .int .i64 f] n h (.int .i64 (S.may f)) n h := by
  obtain ⟨ok, o, ka, pa, rfl, rfl, R⟩ := D
  exact may_ev R f
theorem lose_dk {c : Option Addr} {ks : List Bool} (D : Dk h n d F G S) (hps : S.ps.length ≤ 1099511627776) (hks : ks.length ≤ 1099511627776) (hS : SlT h n c ks) (hc : c ≠ none → ¬ F (sb c)) :
    RF Tryz.prog F 62 #[.pointer (some ⟨d, 0, none⟩), .slice c ks.length ks.length] n h (fun _ n' h' => DkTo n d F G h (S.lose ks) n' h') := by
  obtain ⟨ok, o, ka, pa, rfl, rfl, R⟩ := D
  have hco : ∀ i, i < 5 → apt (o i) c := fun i hi => by
    by_cases q : o i = none
    · exact .inl q
    · by_cases q2 : c = none
      · exact .inr (.inl q2)
      · exact .inr (.inr fun e => hc q2 (.inr ⟨i, hi, q, e.symm⟩))
  have hcd : apd d c := by
    by_cases q2 : c = none
    · exact .inl q2
    · exact .inr fun e => hc q2 (.inl e.symm)
  refine (lose_rf R ok.ps (fun f => by rw [flOf_2]; exact ok.sure f) hps hks hS hco hcd).mono ?_
  rintro r n' h' ⟨o', R', ho, e⟩
  refine DkTo.mk (loseP_ok ok ks) (R'.congr fun i hi => ?_) ho (fun x hx => by cases hx) e
  have e2 : (fun f => flOf S (2 + f)) = S.sure := funext fun f => flOf_2 S f
  rw [e2]
  unfold flOf
  by_cases h2 : i < 2
  · rw [if_pos h2, Nat.mod_eq_of_lt h2]; rfl
  · rw [if_neg h2]
    show loseP S.sure S.ps ks (i % 2) = loseP S.sure S.ps ks (i - 2)
    rw [show i % 2 = i - 2 by omega]
end
end Go.Proofs.YtfbddbpbifnhfaaGreatDoor.Dk

/- Contracts taken from disk (written by port.py). -/
namespace Go.Proofs.YtfbddbpbifnhfaaGreatDoor.Dk
open Go.Abs
section
variable {h h1 h2 : AH} {n n1 n2 d : Nat} {F G : Nat → Prop} {S S1 S2 : DS}
theorem ends_ok {S : DS} (h : DSOk S) : DSOk S.ends.2 := by
  unfold DS.ends
  split
  · exact ⟨h.ps, h.sure, h.fuse, by have := h.calls; show 0 ≤ S.calls + 1; omega, h.keep⟩
  · split
    · exact ⟨h.ps, h.sure, by have := h.fuse; show 0 ≤ S.fuse - 1 ∧ S.fuse - 1 ≤ 9223372036854775807; omega, by have := h.calls; show 0 ≤ S.calls + 1; omega, h.keep⟩
    · refine loseP_ok (S := { S with calls := S.calls + 1, fuse := S.fuse - 1 }) ⟨h.ps, h.sure, by have := h.fuse; show 0 ≤ S.fuse - 1 ∧ S.fuse - 1 ≤ 9223372036854775807; omega, by have := h.calls; show 0 ≤ S.calls + 1; omega, h.keep⟩ _
set_option maxHeartbeats 4000000 in
theorem ends_dk (D : Dk h n d F G S) (hps : S.ps.length ≤ 1099511627776) (hcl : S.calls < 4611686018427387904) :
    RF Tryz.prog F 66 #[.pointer (some ⟨d, 0, none⟩)] n h (fun r n' h' => r = .int .i64 S.ends.1 ∧ DkTo n d F G h S.ends.2 n' h') := by
  obtain ⟨ok, o, ka, pa, rfl, rfl, R⟩ := D
  refine RF.of Tryz.func66 rfl rfl (Nat.le_of_ble_eq_true rfl) ?_; dsimp only [argEnv]
  have hlt := R.lt
  have c6 := R.c6
  have c8 := R.c8
  have hinf := R.inf
  have hTd : DkF d o d := .inl rfl
  have hfu := ok.fuse
  have hca := ok.calls
  have R1 := R.scalar (j := 8) (fuse' := S.fuse) (calls' := S.calls + 1) (down' := S.down) (.inr (.inl ⟨rfl, rfl, rfl, rfl⟩))
  have e1 := ExtW.appSets (n := n) (b := d) (o := 8) (vs := [.int .i64 (S.calls + 1)]) (.inl hTd) (ExtW.refl (DkF d o) n h)
  have hok := ends_ok ok
  by_cases h0 : S.fuse = 0
  · rw [h0] at c6
    repeat' (first | refine stpS ?_ | (refine stp2 ?_ ?_ <;> intro _))
    have he : S.ends = (0, { S with calls := S.calls + 1 }) := by simp [DS.ends, h0]
    rw [he] at hok ⊢
    exact ⟨rfl, DkTo.mk hok R1 (oNew.refl _ _) (fun x hx => .inl hx) e1⟩
  · have R2 := R1.scalar (j := 6) (fuse' := S.fuse - 1) (calls' := S.calls + 1) (down' := S.down) (.inl ⟨rfl, rfl, rfl, rfl⟩)
    have e2 := ExtW.appSets (n := n) (b := d) (o := 6) (vs := [.int .i64 (S.fuse - 1)]) (.inl hTd) e1
    by_cases hf1 : 1 < S.fuse
    · have he : S.ends = (0, { S with calls := S.calls + 1, fuse := S.fuse - 1 }) := by simp [DS.ends, h0, hf1]
      rw [he] at hok ⊢
      repeat' (first | refine stpS ?_ | (refine stp2 ?_ ?_ <;> intro _))
      exact ⟨rfl, DkTo.mk hok R2 (oNew.refl _ _) (fun x hx => .inl hx) e2⟩
    · have he : S.ends = (6, { S with calls := S.calls + 1, fuse := S.fuse - 1 }.lose S.keep) := by simp [DS.ends, h0, hf1]
      rw [he]
      have c7 := R2.c7
      repeat' (first | refine stpS ?_ | (refine stp2 ?_ ?_ <;> intro _))
      have D2 : Dk ((h.app (.sets d 8 [.int .i64 (S.calls + 1)])).app (.sets d 6 [.int .i64 (S.fuse - 1)])) n d (DkF d o) (DkG ka pa) { S with calls := S.calls + 1, fuse := S.fuse - 1 } :=
        ⟨⟨ok.ps, ok.sure, by show 0 ≤ S.fuse - 1 ∧ S.fuse - 1 ≤ 9223372036854775807; omega, by show 0 ≤ S.calls + 1; omega, ok.keep⟩, o, ka, pa, rfl, rfl, R2⟩
      refine RS.call rfl opds (lose_dk D2 hps ok.keep R2.ks (fun q e => D2.apart _ e ⟨ka, by simp, q, rfl⟩)) (fun b hb => .inl hb) ?_
      rintro r n1 h1 hle hto
      repeat' (first | refine stpS ?_ | (refine stp2 ?_ ?_ <;> intro _))
      exact ⟨rfl, DkTo.trans e2 (fun _ _ q => q) (fun _ _ q => q) (Nat.le_refl _) hto⟩
theorem done_ok {S : DS} {p : Pc} (h : DSOk S) (hp : PcOk p) : DSOk (S.done p) :=
  ⟨fun q hq => by
    rcases List.mem_append.1 hq with k | k
    · exact h.ps q k
    · simp at k; subst k; exact hp, h.sure, h.fuse, h.calls, h.keep⟩
theorem done_dk {p : Pc} {c : Option Addr} (D : Dk h n d F G S) (hp : PcOk p) (hps : S.ps.length < 1099511627776) (hS : p.cut = false → SlB h n c p.b) (hc : c ≠ none → sb c < n ∧ ¬ F (sb c)) :
    RF Tryz.prog F 65 #[.pointer (some ⟨d, 0, none⟩), .int .i64 (p.file : Nat), pcV p c] n h (fun _ n' h' => ∃ F' G', Dk h' n' d F' G' (S.done p) ∧ (∀ b, b < n → F' b → F b) ∧ (∀ b, b < n → G' b → G b ∨ inA c b) ∧ ExtW F n h h') := by
  obtain ⟨ok, o, ka, pa, rfl, rfl, R⟩ := D
  have hf2 : p.file < 2 := by rcases hp.file with h0 | h0 <;> omega
  have hco : ∀ i, i < 5 → apt (o i) c := fun i hi => by
    by_cases q : o i = none
    · exact .inl q
    · by_cases q2 : c = none
      · exact .inr (.inl q2)
      · exact .inr (.inr fun e => (hc q2).2 (.inr ⟨i, hi, q, e.symm⟩))
  have hcd : apd d c := by
    by_cases q2 : c = none
    · exact .inl q2
    · exact .inr fun e => (hc q2).2 (.inl e.symm)
  refine (done_rf R hp (by rw [flOf_lt _ hf2]; exact ok.now _) (by omega) hS (fun q => (hc q).1) hco hcd).mono ?_
  rintro r n' h' ⟨a1, a4, R', k1, k4, e⟩
  have ho : oNew n o (upd (upd o p.file a1) 4 a4) := ((oNew.refl n o).upd (n1 := n) (Nat.le_refl _) (k1.imp id .inr)).upd (Nat.le_refl _) (by
    rw [upd_ne _ _ (by omega)]
    exact k4.imp id .inr)
  refine ⟨_, _, ⟨done_ok ok hp, _, ka, pa ++ [c], rfl, rfl, R'.congr fun i hi => ?_⟩, fun b hb q => ho.F b hb q, ?_, e⟩
  · rw [flOf_lt _ hf2]
    unfold flOf upd
    by_cases h2 : i < 2
    · simp only [if_pos h2, DS.done_now]
      by_cases e : i = p.file
      · subst e; simp
      · rw [if_neg e, if_neg (Ne.symm e)]
    · simp only [if_neg h2, if_neg (show ¬ i = p.file by omega)]
      rfl
  · rintro b hb ⟨x, hx, hne, rfl⟩
    simp only [List.mem_cons, List.mem_append, List.not_mem_nil, or_false] at hx
    rcases hx with rfl | hx | rfl
    · exact .inl ⟨x, by simp, hne, rfl⟩
    · exact .inl ⟨x, by simp [hx], hne, rfl⟩
    · exact .inr ⟨hne, rfl⟩
theorem now_cell {o : Nat → Option Addr} {ka : Option Addr} {pa : List (Option Addr)} (R : DkR h n d o ka pa (flOf S) S.ps S.fuse S.keep S.calls S.down) {i : Nat} (hi : i < 2) : h.cell d (1 + i) = .slice (o i) (S.now i).length (S.now i).length := by
  have := R.cf i (by omega)
  rwa [flOf_lt _ hi] at this
theorem may_zero {f : Int} (h : S.may f = 0) : ∃ i : Nat, i < 2 ∧ f = i ∧ S.down = false := by
  unfold DS.may at h
  split at h
  · cases h
  · split at h
    · cases h
    · rename_i q1 q2
      refine ⟨f.toNat, by omega, by omega, by simpa using q1⟩
set_option maxHeartbeats 4000000 in
theorem truncate_dk (D : Dk h n d F G S) (hps : S.ps.length < 1099511627776) (hcl : S.calls < 4611686018427387904) (f size : Int) :
    RF Tryz.prog F 43 #[.pointer (some ⟨d, 0, none⟩), .int .i64 f, .int .i64 size] n h (fun r n' h' => r = .int .i64 (S.truncate f size).1 ∧ DkTo n d F G h (S.truncate f size).2 n' h') := by
  refine RF.of Tryz.func43 rfl rfl (Nat.le_of_ble_eq_true rfl) ?_; dsimp only [argEnv]
  have hlt := D.lt
  by_cases hm : S.may f = 0
  · obtain ⟨i, hi, rfl, hd⟩ := may_zero hm
    have hme := may_dk D (i : Int)
    rw [hm] at hme
    have hno := D.ok.now i
    by_cases hsz : size < 0 ∨ ((S.now i).length : Int) < size
    · have he : S.truncate (i : Int) size = (1, S) := by simp [DS.truncate, hm, hsz]
      rw [he]
      obtain ⟨ok, o, ka, pa, rfl, rfl, R⟩ := id D
      have c1 := now_cell R hi
      repeat' (first | refine stpS ?_ | (refine stp2 ?_ ?_ <;> intro _) | refine RS.call1 rfl opds (hme) none'W ?_)
      all_goals first | exact ⟨rfl, ⟨_, _, ⟨ok, o, ka, pa, rfl, rfl, R⟩, fun _ _ q => q, fun _ _ q => q, ExtW.refl _ _ _⟩⟩ | (exfalso; omega)
    · obtain ⟨k, rfl⟩ : ∃ k : Nat, size = k := ⟨size.toNat, by omega⟩
      have he : S.truncate (i : Int) (k : Nat) = (S.done ⟨i, true, k, []⟩).ends := by rw [DS.truncate, if_neg (by rw [hm]; simp), if_neg (by rw [Int.toNat_natCast]; exact hsz)]; rfl
      rw [he]
      have hpo : PcOk ⟨i, true, k, []⟩ := ⟨by show i = 0 ∨ i = 1; omega, fun q => (by cases q), fun _ => by show k ≤ 4194304; omega⟩
      have hdn := done_dk D (p := ⟨i, true, k, []⟩) (c := none) hpo hps (fun q => by cases q) (fun q => absurd rfl q)
      have hpv : pcV ⟨i, true, k, []⟩ none = .iface 114 (.int .i64 (k : Nat)) := rfl
      rw [hpv] at hdn
      dsimp only at hdn
      have hlen : (S.done ⟨i, true, k, []⟩).ps.length ≤ 1099511627776 := by simp [DS.done]; omega
      obtain ⟨ok, o, ka, pa, hF, hG, R⟩ := id D
      have c1 := now_cell R hi
      repeat' (first | refine stpS ?_ | (refine stp2 ?_ ?_ <;> intro _))
      refine RS.call1 rfl opds hme none'W ?_
      repeat' (first | refine stpS ?_ | (refine stp2 ?_ ?_ <;> intro _))
      refine RS.call rfl opds hdn (fun b hb => Or.inl hb) ?_
      rintro r n1 h1 hle ⟨F1, G1, D1, hF1, hG1, e1⟩
      repeat' (first | refine stpS ?_ | (refine stp2 ?_ ?_ <;> intro _))
      refine RS.call rfl opds (ends_dk D1 hlen hcl) (fun b hb => ?_) ?_
      · by_cases q : b < n
        · exact .inl (hF1 b q hb)
        · exact .inr (by omega)
      rintro r n2 h2 hle2 ⟨rfl, hto⟩
      repeat' (first | refine stpS ?_ | (refine stp2 ?_ ?_ <;> intro _))
      refine ⟨rfl, DkTo.trans e1 hF1 (fun b hb q => ?_) hle hto⟩
      exact (hG1 b hb q).resolve_right (fun k => k.1 rfl)
  · have he : S.truncate f size = (S.may f, S) := by simp [DS.truncate, hm]
    rw [he]
    repeat' (first | refine stpS ?_ | (refine stp2 ?_ ?_ <;> intro _) | refine RS.call1 rfl opds (may_dk D f) none'W ?_)
    exact ⟨rfl, D.to⟩
set_option maxHeartbeats 4000000 in
theorem crash_dk {c : Option Addr} {ks : List Bool} (D : Dk h n d F G S) (hps : S.ps.length ≤ 1099511627776) (hks : ks.length ≤ 1099511627776) (hS : SlT h n c ks) (hc : c ≠ none → ¬ F (sb c)) :
    RF Tryz.prog F 25 #[.pointer (some ⟨d, 0, none⟩), .slice c ks.length ks.length] n h (fun r n' h' => r = .int .i64 (S.crash ks).1 ∧ DkTo n d F G h (S.crash ks).2 n' h') := by
  refine RF.of Tryz.func25 rfl rfl (Nat.le_of_ble_eq_true rfl) ?_; dsimp only [argEnv]
  have hlt := D.lt
  obtain ⟨ok, o, ka, pa, hF, hG, R⟩ := id D
  have c9 := R.c9
  cases hd : S.down
  · rw [hd] at c9
    have he : S.crash ks = (0, S.lose ks) := by simp [DS.crash, hd]
    rw [he]
    repeat' (first | refine stpS ?_ | (refine stp2 ?_ ?_ <;> intro _))
    refine RS.call1 rfl opds (none_dk D) none'W ?_
    repeat' (first | refine stpS ?_ | (refine stp2 ?_ ?_ <;> intro _))
    refine RS.call rfl opds (lose_dk D hps hks hS hc) (fun b hb => .inl hb) ?_
    rintro r n1 h1 hle hto
    repeat' (first | refine stpS ?_ | (refine stp2 ?_ ?_ <;> intro _))
    exact ⟨rfl, hto⟩
  · rw [hd] at c9
    have he : S.crash ks = (6, S) := by simp [DS.crash, hd]
    rw [he]
    repeat' (first | refine stpS ?_ | (refine stp2 ?_ ?_ <;> intro _) | refine RS.call1 rfl opds (none_dk D) none'W ?_)
    exact ⟨rfl, D.to⟩
set_option maxHeartbeats 4000000 in
theorem restart_dk (D : Dk h n d F G S) : RF Tryz.prog F 9 #[.pointer (some ⟨d, 0, none⟩)] n h (fun r n' h' => r = .int .i64 0 ∧ DkTo n d F G h S.restart n' h') := by
  refine RF.of Tryz.func9 rfl rfl (Nat.le_of_ble_eq_true rfl) ?_; dsimp only [argEnv]
  have hlt := D.lt
  have hTd := D.inF
  obtain ⟨ok, o, ka, pa, rfl, rfl, R⟩ := id D
  have hinf := R.inf
  repeat' (first | refine stpS ?_ | (refine stp2 ?_ ?_ <;> intro _) | refine RS.call1 rfl opds (none_dk D) none'W ?_)
  refine ⟨rfl, DkTo.mk ⟨ok.ps, ok.sure, ok.fuse, ok.calls, ok.keep⟩ (R.scalar (j := 9) (fuse' := S.fuse) (calls' := S.calls) (down' := false) (.inr (.inr ⟨rfl, rfl, rfl, rfl⟩))) (oNew.refl _ _) (fun x hx => .inl hx) (ExtW.appSets (.inl hTd) (ExtW.refl _ _ _))⟩
set_option maxHeartbeats 4000000 in
theorem down_dk (D : Dk h n d F G S) : Ev Tryz.prog none' 32 #[.pointer (some ⟨d, 0, none⟩)] n h (.bool S.down) n h := by
  refine RF.pure rfl fun n' hn => ?_
  have D := D.ext (Ext.refl n h) hn
  refine RF.of Tryz.func32 rfl rfl (Nat.le_of_ble_eq_true rfl) ?_; dsimp only [argEnv]
  have hlt := D.lt
  obtain ⟨ok, o, ka, pa, hF, hG, R⟩ := id D
  have c9 := R.c9
  repeat' (first | refine stpS ?_ | (refine stp2 ?_ ?_ <;> intro _) | refine RS.call1 rfl opds (none_dk D) none'W ?_)
  rfl
set_option maxHeartbeats 4000000 in
theorem calls_dk (D : Dk h n d F G S) : Ev Tryz.prog none' 34 #[.pointer (some ⟨d, 0, none⟩)] n h (.int .i64 S.calls) n h := by
  refine RF.pure rfl fun n' hn => ?_
  have D := D.ext (Ext.refl n h) hn
  refine RF.of Tryz.func34 rfl rfl (Nat.le_of_ble_eq_true rfl) ?_; dsimp only [argEnv]
  have hlt := D.lt
  obtain ⟨ok, o, ka, pa, hF, hG, R⟩ := id D
  have c8 := R.c8
  repeat' (first | refine stpS ?_ | (refine stp2 ?_ ?_ <;> intro _) | refine RS.call1 rfl opds (none_dk D) none'W ?_)
  rfl
set_option maxHeartbeats 4000000 in
theorem size_dk (D : Dk h n d F G S) (f : Int) : Ev Tryz.prog none' 40 #[.pointer (some ⟨d, 0, none⟩), .int .i64 f] n h (.tuple #[.int .i64 (if S.may f = 0 then ((S.now f.toNat).length : Int) else 0), .int .i64 (S.may f)]) n h := by
  refine RF.pure (by simp [flat]) fun n' hn => ?_
  have D := D.ext (Ext.refl n h) hn
  refine RF.of Tryz.func40 rfl rfl (Nat.le_of_ble_eq_true rfl) ?_; dsimp only [argEnv]
  have hlt := D.lt
  obtain ⟨ok, o, ka, pa, hF, hG, R⟩ := id D
  by_cases hm : S.may f = 0
  · obtain ⟨i, hi, rfl, hd⟩ := may_zero hm
    have hme := may_dk D (i : Int)
    rw [hm] at hme ⊢
    have c1 := now_cell R hi
    repeat' (first | refine stpS ?_ | (refine stp2 ?_ ?_ <;> intro _) | refine RS.call1 rfl opds (hme) none'W ?_)
    simp
  · repeat' (first | refine stpS ?_ | (refine stp2 ?_ ?_ <;> intro _) | refine RS.call1 rfl opds (may_dk D f) none'W ?_)
    simp [hm]
set_option maxHeartbeats 4000000 in
theorem cloneT_rf (t : List Bool) (a : Option Addr) (n : Nat) (h : AH) (S : SlT h n a t) (ht : t.length ≤ 1099511627776) :
    RF Tryz.prog none' 64 #[.slice a t.length t.length] n h (fun r n' h' => ∃ a', r = .slice a' t.length t.length ∧ Ext n h h' ∧ OwnSl h' n n' a' 1 t.length (boolsV t)) := by
  refine RF.of Tryz.func64 rfl rfl (Nat.le_of_ble_eq_true rfl) ?_; dsimp only [argEnv]
  rcases S.two with ⟨ha, hl⟩ | ⟨b, o, ha⟩
  · have : t = [] := List.eq_nil_of_length_eq_zero hl
    subst this; subst ha
    repeat' (first | refine stpS ?_ | (refine stp2 ?_ ?_ <;> intro _))
    exact ⟨none, rfl, ext, OwnSl.nil (by omega)⟩
  · subst ha
    have hr : (List.range (t.length * 1)).map (boolsF t) = boolsV t := by
      apply List.ext_getElem
      · simp [boolsV]
      · intro i h1 h2
        have hi : i < t.length := by simpa [boolsV] using h2
        simp [boolsV, boolsF, List.getD, hi]
    have hkn : ∀ l : List Bool, known (boolsV l) = true := fun l => by
      induction l with
      | nil => rfl
      | cons x l ih => simpa [boolsV, known] using ih
    repeat' (first | refine stpS ?_ | (refine stp2 ?_ ?_ <;> intro _))
    refine RS.append rfl opd opd (OwnSl.new (z := 1) (m := 0) (cs := []) (Nat.le_refl n) rfl rfl) (SlR.src (S.ext ext (Nat.le_refl _)) (by rw [hr]; exact hkn t)) full_slice (fun b hb => Or.inr (by omega)) (by omega) ?_
    intro a' n1 h1 hle hO hX hnew
    have hE := hX.ext (OwnSl.new (z := 1) (m := 0) (cs := []) (Nat.le_refl n) rfl rfl)
    simp only [Nat.zero_add, List.nil_append, hr] at hO ⊢
    repeat' (first | refine stpS ?_ | (refine stp2 ?_ ?_ <;> intro _))
    exact ⟨a', rfl, ext, hO⟩
end
end Go.Proofs.YtfbddbpbifnhfaaGreatDoor.Dk

/- Contracts taken from disk (written by port.py). -/
namespace Go.Proofs.YtfbddbpbifnhfaaGreatDoor.Dk
open Go.Abs
section
variable {h h1 h2 : AH} {n n1 n2 d : Nat} {o : Nat → Option Addr} {ka : Option Addr} {pa : List (Option Addr)} {fl : Nat → List UInt8} {ps : List Pc} {fuse : Int} {keep : List Bool} {calls : Int} {down : Bool}
theorem DkR.keeps {a' : Option Addr} {ks : List Bool} (R : DkR h n d o ka pa fl ps fuse keep calls down) (hE : Ext n h h2) (hn : n ≤ n2) (hO : SlT h2 n2 a' ks) (hnew : a' = none ∨ n ≤ sb a') :
    DkR (h2.app (.sets d 7 [.slice a' ks.length ks.length])) n2 d o a' pa fl ps fuse ks calls down := by
  have hX : ExtX n none h h2 := fun x hx _ => ⟨hE.info x hx, fun i => hE.cell x i hx⟩
  have hlt := R.lt
  have hdn : apd d none := .inl rfl
  have han : apd d a' := hnew.imp id (by omega)
  have hxn : ∀ x : Option Addr, apt none x := fun x => .inl rfl
  refine ⟨by omega, i_sets (i_extX hX hlt hdn R.inf), cellT hX hdn hlt (by omega) R.c0, fun j hj => cellT hX hdn hlt (by omega) (R.cf j hj), cellT hX hdn hlt (by omega) R.c5, cellT hX hdn hlt (by omega) R.c6, c_in (Nat.le_refl _) (by simp), cellT hX hdn hlt (by omega) R.c8, cellT hX hdn hlt (by omega) R.c9,
    fun j hj => rowT hX hn (R.fo j hj) (hxn _) (R.od j (by omega)), rowT hX hn R.lo (hxn _) (R.od 4 (by omega)), ?_, fun j p hp hc => slT hX hn (R.dat j p hp hc) (hxn _) (R.dg _ (R.gmem hp)), R.len, R.od, R.oo, fun j x hj hx => ?_, fun x hx => ?_, fun x hx q => ?_⟩
  · exact SlR.extW (W := fun b => b = d) hO (ExtW.appSets (.inl rfl) (ExtW.refl _ _ _)) (Nat.le_refl _) (fun q e => (han.resolve_left q) e.symm)
  · simp only [List.mem_cons] at hx
    rcases hx with rfl | hx
    · rcases hnew with k | k
      · exact .inr (.inl k)
      · by_cases q : o j = none
        · exact .inl q
        · have := R.rlt hj q
          exact .inr (.inr (by omega))
    · exact R.og j x hj (by simp [hx])
  · simp only [List.mem_cons] at hx
    rcases hx with rfl | hx
    · exact han
    · exact R.dg x (by simp [hx])
  · simp only [List.mem_cons] at hx
    rcases hx with rfl | hx
    · exact hO.ltA q
    · exact Nat.lt_of_lt_of_le (R.gl x (by simp [hx]) q) hn
end
theorem _root_.Go.Abs.Ext.app {n : Nat} {h h1 : AH} (e : Ext n h h1) (d : Dl) : Ext n (h.app d) (h1.app d) :=
  ⟨fun b hb => by simp only [AH.app]; rw [e.info b hb], fun b i hb => by simp only [AH.app]; rw [e.cell b i hb]⟩
section
variable {h h1 h2 : AH} {n n1 n2 d : Nat} {F G : Nat → Prop} {S S1 S2 : DS}
theorem DkTo.mk2 {o o' : Nat → Option Addr} {ka ka' : Option Addr} {pa pa' : List (Option Addr)} (ok : DSOk S) (R : DkR h1 n1 d o' ka' pa' (flOf S) S.ps S.fuse S.keep S.calls S.down) (ho : oNew n o o') (hp : ∀ x, x ∈ ka' :: pa' → x ∈ ka :: pa ∨ x = none ∨ n ≤ sb x) (e : ExtW (DkF d o) n h h1) :
    DkTo n d (DkF d o) (DkG ka pa) h S n1 h1 := by
  refine ⟨_, _, ⟨ok, o', ka', pa', rfl, rfl, R⟩, fun b hb q => ho.F b hb q, ?_, e⟩
  rintro b hb ⟨x, hx, hne, rfl⟩
  rcases hp x hx with k | k | k
  · exact ⟨x, k, hne, rfl⟩
  · exact absurd k hne
  · omega
set_option maxHeartbeats 4000000 in
theorem setFuse_dk {c : Option Addr} {ks : List Bool} (D : Dk h n d F G S) (k : Int) (hk : k ≤ 9223372036854775807) (hks : ks.length ≤ 1099511627776) (hS : SlT h n c ks) :
    RF Tryz.prog F 27 #[.pointer (some ⟨d, 0, none⟩), .int .i64 k, .slice c ks.length ks.length] n h (fun r n' h' => r = .int .i64 (S.setFuse k ks).1 ∧ DkTo n d F G h (S.setFuse k ks).2 n' h') := by
  refine RF.of Tryz.func27 rfl rfl (Nat.le_of_ble_eq_true rfl) ?_; dsimp only [argEnv]
  have hlt := D.lt
  have hTd := D.inF
  by_cases hk0 : k < 0
  · have he : S.setFuse k ks = (1, S) := by simp [DS.setFuse, hk0]
    rw [he]
    repeat' (first | refine stpS ?_ | (refine stp2 ?_ ?_ <;> intro _) | refine RS.call1 rfl opds (none_dk D) none'W ?_)
    exact ⟨rfl, D.to⟩
  · have he : S.setFuse k ks = (0, { S with fuse := k, keep := ks }) := by simp [DS.setFuse, hk0]
    rw [he]
    obtain ⟨ok, o, ka, pa, rfl, rfl, R⟩ := id D
    have hinf := R.inf
    repeat' (first | refine stpS ?_ | (refine stp2 ?_ ?_ <;> intro _))
    refine RS.call1 rfl opds (none_dk D) none'W ?_
    repeat' (first | refine stpS ?_ | (refine stp2 ?_ ?_ <;> intro _))
    refine RS.call rfl opds (cloneT_rf ks c n h hS hks) none'W ?_
    rintro r n1 h1 hle ⟨a', rfl, hE, hO⟩
    repeat' (first | refine stpS ?_ | (refine stp2 ?_ ?_ <;> intro _))
    have R1 := R.scalar (j := 6) (fuse' := k) (calls' := S.calls) (down' := S.down) (.inl ⟨rfl, rfl, rfl, rfl⟩)
    have hnew : a' = none ∨ n ≤ sb a' := hO.at'.imp id (·.1)
    have han : apd d a' := hnew.imp id (by omega)
    have hO2 : SlT (h1.app (.sets d 6 [.int .i64 k])) n1 a' ks := (hO.setsN (b := d) (o' := 6) (vs := [.int .i64 k]) (han.imp id Ne.symm)).slt
    refine ⟨rfl, DkTo.mk2 ⟨ok.ps, ok.sure, by show 0 ≤ k ∧ k ≤ 9223372036854775807; omega, ok.calls, hks⟩ (R1.keeps (hE.app _) hle hO2 hnew) (oNew.refl _ _) (fun x hx => ?_) (ExtW.appSets (.inl hTd) (ExtW.appSets (.inl hTd) (ExtW.of hE (Nat.le_refl _))))⟩
    simp only [List.mem_cons] at hx
    rcases hx with rfl | hx
    · exact .inr hnew
    · exact .inl (by simp [hx])
set_option maxHeartbeats 4000000 in
theorem read_dk (D : Dk h n d F G S) (f at_ k : Int) :
    RF Tryz.prog none' 11 #[.pointer (some ⟨d, 0, none⟩), .int .i64 f, .int .i64 at_, .int .i64 k] n h (fun r n' h' => ∃ a', r = .tuple #[.slice a' (S.read f at_ k).2.length (S.read f at_ k).2.length, .int .i64 (S.read f at_ k).1] ∧ Ext n h h' ∧ OwnSl h' n n' a' 1 (S.read f at_ k).2.length (bytesV (S.read f at_ k).2)) := by
  refine RF.of Tryz.func11 rfl rfl (Nat.le_of_ble_eq_true rfl) ?_; dsimp only [argEnv]
  have hlt := D.lt
  by_cases hm : S.may f = 0
  · obtain ⟨i, hi, rfl, hd⟩ := may_zero hm
    have hme := may_dk D (i : Int)
    rw [hm] at hme
    have hno := D.ok.now i
    by_cases hsz : at_ < 0 ∨ k < 0
    · have he : S.read (i : Int) at_ k = (1, []) := by simp [DS.read, hm, hsz]
      rw [he]
      repeat' (first | refine stpS ?_ | (refine stp2 ?_ ?_ <;> intro _) | refine RS.call1 rfl opds (hme) none'W ?_)
      all_goals first | exact ⟨none, rfl, ext, OwnSl.nil (by omega)⟩ | (exfalso; omega)
    · obtain ⟨p, rfl⟩ : ∃ p : Nat, at_ = p := ⟨at_.toNat, by omega⟩
      obtain ⟨q, rfl⟩ : ∃ q : Nat, k = q := ⟨k.toNat, by omega⟩
      have he : S.read (i : Int) (p : Nat) (q : Nat) = (0, ((S.now i).drop p).take q) := by rw [DS.read, if_neg (by rw [hm]; simp), if_neg hsz]; simp
      rw [he]
      obtain ⟨ok, o, ka, pa, hF, hG, R⟩ := id D
      have c1 := now_cell R hi
      have S0 : SlB h n (o i) (S.now i) := by
        have := (R.fo i (by omega)).slb
        rwa [flOf_lt _ hi] at this
      repeat' (first | refine stpS ?_ | (refine stp2 ?_ ?_ <;> intro _) | refine RS.call1 rfl opds (hme) none'W ?_)
      repeat' (first | refine stp ?_ | (refine stp2 ?_ ?_ <;> intro _))
      have e1 : (min (p : Int) ((S.now i).length : Int)).toNat = min p (S.now i).length := by omega
      rw [e1]
      have hd : (S.now i).drop (min p (S.now i).length) = (S.now i).drop p := by
        rcases Nat.le_total p (S.now i).length with q | q
        · rw [Nat.min_eq_left q]
        · rw [Nat.min_eq_right q, List.drop_length, List.drop_of_length_le q]
      have S1 : SlB h n (sub (o i) (min p (S.now i).length)) ((S.now i).drop p) := by
        have := S0.cut (i := min p (S.now i).length) (u := (S.now i).length) (by omega) (Nat.le_refl _)
        rwa [List.take_length, hd] at this
      have e2 : (S.now i).length - min p (S.now i).length = ((S.now i).drop p).length := by rw [List.length_drop]; omega
      rw [e2]
      clear S0 hd
      generalize hl1 : (S.now i).drop p = l1 at *
      generalize sub (o i) (min p (S.now i).length) = a1 at *
      repeat' (first | refine stpS ?_ | (refine stp2 ?_ ?_ <;> intro _))
      have e3 : (min (q : Int) (l1.length : Int)).toNat = min q l1.length := by omega
      rw [e3]
      have hl1' : l1.length ≤ 4194304 := by rw [← hl1, List.length_drop]; omega
      have S2 : SlB h n a1 (l1.take q) := by
        have := S1.take (u := min q l1.length) (by omega)
        rwa [take_min] at this
      have e4 : min q l1.length = (l1.take q).length := by rw [List.length_take]
      rw [e4]
      refine RS.call rfl opds (clone_rf (l1.take q) a1 _ n h S2 rfl (by rw [← e4]; omega)) none'W ?_
      rintro r n1 h1 hle ⟨a', rfl, hE, hO⟩
      repeat' (first | refine stpS ?_ | (refine stp2 ?_ ?_ <;> intro _))
      exact ⟨a', rfl, hE, hO⟩
  · have he : S.read f at_ k = (S.may f, []) := by simp [DS.read, hm]
    rw [he]
    repeat' (first | refine stpS ?_ | (refine stp2 ?_ ?_ <;> intro _) | refine RS.call1 rfl opds (may_dk D f) none'W ?_)
    exact ⟨none, rfl, ext, OwnSl.nil (by omega)⟩
end
end Go.Proofs.YtfbddbpbifnhfaaGreatDoor.Dk

/- Contracts taken from disk (written by port.py). -/
namespace Go.Proofs.YtfbddbpbifnhfaaGreatDoor.Dk
open Go.Abs
theorem chunks_fuel (f : Nat) : ∀ (k k' at_ : Nat) (l : List UInt8), l.length ≤ k → l.length ≤ k' → chunks f k at_ l = chunks f k' at_ l := by
  intro k
  induction k with
  | zero =>
    intro k' at_ l h _
    have : l = [] := List.eq_nil_of_length_eq_zero (by omega)
    subst this
    cases k' <;> rfl
  | succ k ih =>
    intro k' at_ l h h2
    cases l with
    | nil => cases k' <;> rfl
    | cons x r =>
      cases k' with
      | zero => simp at h2
      | succ k' =>
        simp only [chunks]
        rw [ih]
        · rw [List.length_drop]; omega
        · rw [List.length_drop]; omega
theorem chunks_step (f at_ : Nat) (l : List UInt8) (h : 0 < l.length) : chunks f l.length at_ l = ⟨f, false, at_, l.take (min l.length (512 - at_ % 512))⟩ :: chunks f (l.drop (min l.length (512 - at_ % 512))).length (at_ + min l.length (512 - at_ % 512)) (l.drop (min l.length (512 - at_ % 512))) := by
  have ht : l.take (min l.length (512 - at_ % 512)) = l.take (512 - at_ % 512) := by rw [Nat.min_comm]; exact take_min _ _
  have hd : l.drop (min l.length (512 - at_ % 512)) = l.drop (512 - at_ % 512) := by
    rcases Nat.le_total (512 - at_ % 512) l.length with q | q
    · rw [Nat.min_eq_right q]
    · rw [Nat.min_eq_left q, List.drop_length, List.drop_of_length_le q]
  rw [ht, hd]
  cases l with
  | nil => simp at h
  | cons x r =>
    simp only [List.length_cons, chunks]
    congr 1
    exact chunks_fuel f _ _ _ _ (by rw [List.length_drop, List.length_cons]; omega) (Nat.le_refl _)
theorem chunks_length (f : Nat) : ∀ (k at_ : Nat) (l : List UInt8), (chunks f k at_ l).length ≤ l.length := by
  intro k
  induction k with
  | zero => intro at_ l; simp [chunks]
  | succ k ih =>
    intro at_ l
    cases l with
    | nil => simp [chunks]
    | cons x r =>
      simp only [chunks, List.length_cons]
      have := ih (at_ + min (r.length + 1) (512 - at_ % 512)) ((x :: r).drop (512 - at_ % 512))
      rw [List.length_drop, List.length_cons] at this
      omega
theorem chunks_ok (f : Nat) (hf : f = 0 ∨ f = 1) : ∀ (k at_ : Nat) (l : List UInt8), (0 < l.length → at_ + l.length ≤ 4194304) → ∀ p ∈ chunks f k at_ l, PcOk p := by
  intro k
  induction k with
  | zero => intro at_ l _ p hp; simp [chunks] at hp
  | succ k ih =>
    intro at_ l hl p hp
    cases l with
    | nil => simp [chunks] at hp
    | cons x r =>
      have hl := hl (by simp)
      rw [List.length_cons] at hl
      simp only [chunks, List.mem_cons] at hp
      rcases hp with rfl | hp
      · exact ⟨hf, fun _ => ⟨by simp only [List.length_take, List.length_cons]; omega, by simp only [List.length_take, List.length_cons]; omega⟩, fun q => by cases q⟩
      · refine ih _ _ (fun _ => ?_) p hp
        rw [List.length_drop, List.length_cons]; omega
section
variable {h h1 h2 : AH} {n n1 n2 d : Nat} {F G : Nat → Prop} {S S1 S2 : DS}
set_option maxHeartbeats 4000000 in
theorem write_dk {c : Option Addr} {b : List UInt8} (D : Dk h n d F G S) (f at_ : Int) (hat : at_ ≤ 9223372036854775807) (hB : SlB h n c b) (hc : c ≠ none → ¬ F (sb c)) (hps : S.ps.length + b.length ≤ 1099511627775) (hcl : S.calls < 4611686018427387904) :
    RF Tryz.prog F 29 #[.pointer (some ⟨d, 0, none⟩), .int .i64 f, .int .i64 at_, .slice c b.length b.length] n h (fun r n' h' => r = .int .i64 (S.write f at_ b).1 ∧ DkTo n d F G h (S.write f at_ b).2 n' h') := by
  refine RF.of Tryz.func29 rfl rfl (Nat.le_of_ble_eq_true rfl) ?_; dsimp only [argEnv]
  have hlt := D.lt
  by_cases hm : S.may f = 0
  · obtain ⟨i, hi, rfl, hd⟩ := may_zero hm
    have hme := may_dk D (i : Int)
    rw [hm] at hme
    by_cases hw : writeE at_ b = 0
    · have hw1 : ¬ at_ < 0 := fun q => by rw [writeE, if_pos q] at hw; cases hw
      obtain ⟨p, rfl⟩ : ∃ p : Nat, at_ = p := ⟨at_.toNat, by omega⟩
      have hw2 : 0 < b.length → p + b.length ≤ 4194304 := fun q => by
        rw [writeE, if_neg hw1] at hw
        split at hw
        · cases hw
        · omega
      have he : S.write (i : Int) (p : Nat) b = (S.writes i p b).ends := by rw [DS.write, if_neg (by rw [hm]; simp), if_neg (by rw [hw]; simp)]; simp
      rw [he]
      repeat' (first | refine stpS ?_ | (refine stp2 ?_ ?_ <;> intro _) | refine RS.call1 rfl opds (hme) none'W ?_)
      all_goals try (exfalso; omega)
      all_goals
        refine RC.loop ?_
        refine RL.inv (α := Nat × Option Addr × List UInt8 × List Pc × (Nat → Prop) × (Nat → Prop)) (fun s => [(0, .pointer (some ⟨d, 0, none⟩)), (1, .int .i64 (i : Nat)), (2, .int .i64 (s.1 : Nat)), (3, .slice s.2.1 s.2.2.1.length s.2.2.1.length)])
          (fun s n1 h1 => n ≤ n1 ∧ SlB h1 n1 s.2.1 s.2.2.1 ∧ (s.2.1 ≠ none → sb s.2.1 < n ∧ ¬ F (sb s.2.1)) ∧ (0 < s.2.2.1.length → s.1 + s.2.2.1.length ≤ 4194304) ∧ s.2.2.2.1.length + s.2.2.1.length ≤ S.ps.length + b.length ∧
            s.2.2.2.1 ++ chunks i s.2.2.1.length s.1 s.2.2.1 = S.ps ++ chunks i b.length p b ∧ Dk h1 n1 d s.2.2.2.2.1 s.2.2.2.2.2 { S with ps := s.2.2.2.1 } ∧ (∀ b, b < n → s.2.2.2.2.1 b → F b) ∧ (∀ b, b < n → s.2.2.2.2.2 b → G b) ∧ ExtW F n h h1)
          (fun s => s.2.2.1.length) (p, c, b, S.ps, F, G) envs ⟨Nat.le_refl _, hB, fun q => ⟨hB.ltA q, hc q⟩, hw2, Nat.le_refl _, rfl, D, fun _ _ q => q, fun _ _ q => q, ExtW.refl _ _ _⟩ ?_
        rintro ⟨a1, c1, l1, ps1, F1, G1⟩ n1 h1 ⟨hn1, hS1, hc1, hl1, hl2, hch, D1, hF1, hG1, e1⟩
        dsimp only at hS1 hc1 hl1 hl2 hch D1 hF1 hG1 ⊢
        have hlt1 := D1.lt
        repeat' (first | refine stpS ?_ | (refine stp2 ?_ ?_ <;> intro _))
        · have hstep := chunks_step i a1 l1 (by omega)
          have hk0 : 0 < min l1.length (512 - a1 % 512) := by omega
          have hk1 : min l1.length (512 - a1 % 512) ≤ l1.length := by omega
          have ek : min (l1.length : Int) (512 - (a1 : Int) % 512) = ((min l1.length (512 - a1 % 512) : Nat) : Int) := by omega
          rw [ek, Int.toNat_natCast]
          generalize min l1.length (512 - a1 % 512) = k at *
          have htl : (l1.take k).length = k := by rw [List.length_take]; omega
          have hlb := hl1 (by omega)
          refine RS.call rfl opds (clone_rf (l1.take k) c1 k n1 h1 (hS1.takeA k) htl.symm (by omega)) none'W ?_
          rintro r n2 h2 hle2 ⟨c2, rfl, hE2, hO2⟩
          have hc2 : c2 ≠ none := by
            intro q; subst q
            rcases hO2.or with z | z
            · omega
            · cases z.1
          have hc2' := hO2.at'.resolve_left hc2
          repeat' (first | refine stpS ?_ | (refine stp2 ?_ ?_ <;> intro _))
          have hpo : PcOk ⟨i, false, a1, l1.take k⟩ := ⟨by show i = 0 ∨ i = 1; omega, fun _ => ⟨by show 0 < (l1.take k).length; omega, by show a1 + (l1.take k).length ≤ 4194304; omega⟩, fun q => by cases q⟩
          have hdn := done_dk (D1.ext hE2 hle2) (p := ⟨i, false, a1, l1.take k⟩) (c := c2) hpo (by show ps1.length < _; omega) (fun _ => by have := hO2.slbE; exact this) (fun _ => ⟨hc2'.2, fun q => by have := D1.ltF _ q; omega⟩)
          have hpv : pcV ⟨i, false, a1, l1.take k⟩ c2 = .iface 106 (.agg #[.int .i64 (a1 : Nat), .slice c2 k k]) := by
            show Value.iface _ (.agg #[.int .i64 (a1 : Nat), .slice c2 (l1.take k).length (l1.take k).length]) = _
            rw [htl]
          rw [hpv] at hdn
          dsimp only at hdn
          refine RS.call rfl opds hdn (fun b hb => ?_) ?_
          · by_cases q : b < n
            · exact .inl (hF1 b q hb)
            · exact .inr (by omega)
          rintro r n3 h3 hle3 ⟨F3, G3, D3, hF3, hG3, e3⟩
          have hS3 : SlB h3 n3 c1 l1 := (hS1.ext hE2 hle2).extW e3 hle3 (fun q r => (hc1 q).2 (hF1 _ (hc1 q).1 r))
          repeat' (first | refine stpS ?_ | (refine stp2 ?_ ?_ <;> intro _))
          refine nextC.normal ⟨(a1 + k, sub c1 k, l1.drop k, ps1 ++ [(⟨i, false, a1, l1.take k⟩ : Pc)], F3, G3), ?_, ?_, by omega, ?_, ?_, ?_, ?_, ?_, D3, fun b hb q => hF1 b hb (hF3 b (by omega) q), fun b hb q => ?_, ?_⟩
          · dsimp only; rw [List.length_drop]; omega
          · dsimp only; rw [List.length_drop]; exact envs
          · have := hS3.cut (i := k) (u := l1.length) hk1 (Nat.le_refl _)
            rwa [List.take_length] at this
          · intro q
            have : c1 ≠ none := fun z => q (by dsimp only; rw [z]; rfl)
            dsimp only; rw [sb_sub]; exact hc1 this
          · dsimp only; rw [List.length_drop]; intro _; omega
          · dsimp only; rw [List.length_drop, List.length_append]; simp only [List.length_cons, List.length_nil]; omega
          · dsimp only; rw [List.append_assoc, List.singleton_append, ← hstep]; exact hch
          · rcases hG3 b (by omega) q with z | z
            · exact hG1 b hb z
            · have := z.2; omega
          · exact (e1.then hE2 hn1).trans e3 (by omega) (fun x hx q => hF1 x hx q)
        · have hl0 : l1 = [] := List.eq_nil_of_length_eq_zero (by omega)
          subst hl0
          have hch' : ps1 = S.ps ++ chunks i b.length p b := by simpa [chunks] using hch
          have hSe : ({ S with ps := ps1 } : DS) = S.writes i p b := by rw [hch']; rfl
          have hlen : (S.writes i p b).ps.length ≤ 1099511627776 := by
            have := chunks_length i b.length p b
            simp only [DS.writes, List.length_append]; omega
          rw [hSe] at D1
          refine RS.call rfl opds (ends_dk D1 hlen hcl) (fun b hb => ?_) ?_
          · by_cases q : b < n
            · exact .inl (hF1 b q hb)
            · exact .inr (by omega)
          rintro r n2 h2 hle2 ⟨rfl, hto⟩
          repeat' (first | refine stpS ?_ | (refine stp2 ?_ ?_ <;> intro _))
          exact ⟨rfl, DkTo.trans e1 hF1 hG1 hn1 hto⟩
    · by_cases hw1 : at_ < 0
      · have he : S.write (i : Int) at_ b = (1, S) := by simp [DS.write, hm, writeE, hw1]
        rw [he]
        repeat' (first | refine stpS ?_ | (refine stp2 ?_ ?_ <;> intro _) | refine RS.call1 rfl opds (hme) none'W ?_)
        exact ⟨rfl, D.to⟩
      · have hw2 : 0 < b.length ∧ (4194304 < at_ ∨ 4194304 - at_ < b.length) := Classical.byContradiction fun q => hw (by rw [writeE, if_neg hw1, if_neg q])
        have he : S.write (i : Int) at_ b = (5, S) := by simp [DS.write, hm, writeE, hw1, hw2]
        rw [he]
        repeat' (first | refine stpS ?_ | (refine stp2 ?_ ?_ <;> intro _) | refine RS.call1 rfl opds (hme) none'W ?_)
        all_goals first | exact ⟨rfl, D.to⟩ | (exfalso; omega)
  · have he : S.write f at_ b = (S.may f, S) := by simp [DS.write, hm]
    rw [he]
    repeat' (first | refine stpS ?_ | (refine stp2 ?_ ?_ <;> intro _) | refine RS.call1 rfl opds (may_dk D f) none'W ?_)
    exact ⟨rfl, D.to⟩
end
end Go.Proofs.YtfbddbpbifnhfaaGreatDoor.Dk

/- Contracts taken from disk (written by port.py). -/
namespace Go.Proofs.YtfbddbpbifnhfaaGreatDoor.Dk
open Go.Abs
abbrev PA := Pc × Option Addr
def pcsL : List PA → List Value
  | [] => []
  | x :: r => pcC x.1 x.2 ++ pcsL r
theorem pcC_length (p : Pc) (a : Option Addr) : (pcC p a).length = 2 := rfl
theorem pcsL_length : ∀ L : List PA, (pcsL L).length = L.length * 2
  | [] => rfl
  | x :: r => by rw [pcsL, List.length_append, pcsL_length r, pcC_length, List.length_cons]; omega
theorem pcsL_zip : ∀ (ps : List Pc) (pa : List (Option Addr)), pcsL (ps.zip pa) = pcsC ps pa
  | [], _ => by simp [pcsL, pcsC]
  | _ :: _, [] => by simp [pcsL, pcsC]
  | p :: ps, a :: pa => by simp [pcsL, pcsC, pcsL_zip ps pa]
theorem pcsL_take : ∀ (L : List PA) (i : Nat), (pcsL L).take (i * 2) = pcsL (L.take i)
  | [], i => by simp [pcsL]
  | x :: r, 0 => by simp [pcsL]
  | x :: r, i + 1 => by
    rw [pcsL, List.take_succ_cons, pcsL, ← pcsL_take r i, show (i + 1) * 2 = (pcC x.1 x.2).length + i * 2 by rw [pcC_length]; omega, List.take_length_add_append]
theorem pcsL_drop : ∀ (L : List PA) (i : Nat), (pcsL L).drop (i * 2) = pcsL (L.drop i)
  | [], i => by simp [pcsL]
  | x :: r, 0 => by simp [pcsL]
  | x :: r, i + 1 => by
    rw [pcsL, List.drop_succ_cons, ← pcsL_drop r i, show (i + 1) * 2 = (pcC x.1 x.2).length + i * 2 by rw [pcC_length]; omega, List.drop_length_add_append]
theorem pcsL_app : ∀ (L M : List PA), pcsL (L ++ M) = pcsL L ++ pcsL M
  | [], M => rfl
  | x :: r, M => by rw [List.cons_append, pcsL, pcsL, pcsL_app r M, List.append_assoc]
theorem pcsL_set (L : List PA) (i : Nat) (x : PA) (h : i < L.length) : pcsL (L.set i x) = splice (pcsL L) (i * 2) (pcC x.1 x.2) := by
  rw [List.set_eq_take_append_cons_drop, if_pos h, pcsL_app, pcsL, splice, pcsL_take, pcC_length, show i * 2 + 2 = (i + 1) * 2 by omega, pcsL_drop, List.append_assoc]
theorem pcsL_at (L : List PA) (i : Nat) (x : PA) (h : L[i]? = some x) : (pcsL L).getD (i * 2) (.tuple #[]) = .int .i64 (x.1.file : Nat) ∧ (pcsL L).getD (i * 2 + 1) (.tuple #[]) = pcV x.1 x.2 := by
  obtain ⟨hi, hx⟩ := List.getElem?_eq_some_iff.1 h
  have e : L = L.take i ++ x :: L.drop (i + 1) := by rw [← hx, ← List.drop_eq_getElem_cons hi, List.take_append_drop]
  have hl : (pcsL (L.take i)).length = i * 2 := by rw [pcsL_length, List.length_take]; omega
  rw [e, pcsL_app, pcsL]
  constructor
  · rw [List.getD, List.getElem?_append_right (by omega), hl, Nat.sub_self]; rfl
  · rw [List.getD, List.getElem?_append_right (by omega), hl, show i * 2 + 1 - i * 2 = 1 by omega]; rfl
section
variable {h h1 h2 : AH} {n n1 n2 d : Nat}
set_option maxHeartbeats 4000000 in
theorem cloneW_rf (L : List PA) (a : Option Addr) (n : Nat) (h : AH) (hO : OwnSl h 0 n a 2 L.length (pcsL L)) (hL : L.length ≤ 1099511627776) :
    RF Tryz.prog none' 77 #[.slice a L.length L.length] n h (fun r n' h' => ∃ a', r = .slice a' L.length L.length ∧ Ext n h h' ∧ OwnSl h' n n' a' 2 L.length (pcsL L)) := by
  refine RF.of Tryz.func77 rfl rfl (Nat.le_of_ble_eq_true rfl) ?_; dsimp only [argEnv]
  have S := hO.slr
  rcases S.two with ⟨ha, hl⟩ | ⟨b, o, ha⟩
  · have : L = [] := List.eq_nil_of_length_eq_zero hl
    subst this; subst ha
    repeat' (first | refine stpS ?_ | (refine stp2 ?_ ?_ <;> intro _))
    exact ⟨none, rfl, ext, OwnSl.nil (by omega)⟩
  · subst ha
    have hsrc := hO.src
    repeat' (first | refine stpS ?_ | (refine stp2 ?_ ?_ <;> intro _))
    refine RS.append rfl opd opd (OwnSl.new (z := 2) (m := 0) (cs := []) (Nat.le_refl n) rfl rfl) (hO.ext ext (Nat.le_succ n)).src full_slice (fun b hb => Or.inr (by omega)) (by omega) ?_
    intro a' n1 h1 hle hO hX hnew
    have hE := hX.ext (OwnSl.new (z := 2) (m := 0) (cs := []) (Nat.le_refl n) rfl rfl)
    simp only [Nat.zero_add, List.nil_append] at hO ⊢
    repeat' (first | refine stpS ?_ | (refine stp2 ?_ ?_ <;> intro _))
    exact ⟨a', rfl, ext, hO⟩
set_option maxHeartbeats 4000000 in
theorem sync1_rf (x : PA) (f : Nat) (bx n : Nat) (h : AH) (hb : bx < n) (hf : h.cell bx 0 = .int .i64 (f : Nat)) :
    Ev Tryz.prog none' 78 #[.agg (pcC x.1 x.2).toArray, .pointer (some ⟨bx, 0, none⟩)] n h (.bool (decide (x.1.file = f))) n h := by
  refine RF.pure rfl fun n' hn => ?_
  refine RF.of Tryz.func78 rfl rfl (Nat.le_of_ble_eq_true rfl) ?_; dsimp only [argEnv]
  obtain ⟨t, w, hv⟩ : ∃ t w, pcV x.1 x.2 = .iface t w := by
    unfold pcV; split
    · exact ⟨_, _, rfl⟩
    · exact ⟨_, _, rfl⟩
  rw [pcC, hv]
  have hb' : bx < n' := by omega
  repeat' (first | refine stpS ?_ | (refine stp2 ?_ ?_ <;> intro _))
  · rename_i q
    have : x.1.file = f := by omega
    simp [this]
  · rename_i q
    have : ¬ x.1.file = f := by omega
    simp [this]
theorem row_at {a : Option Addr} {L : List PA} (hO : OwnSl h 0 n a 2 L.length (pcsL L)) {i : Nat} {x : PA} (hx : L[i]? = some x) : SlA a L.length ∧ sb a < n ∧ h.cell (sb a) (so a + i * 2) = .int .i64 (x.1.file : Nat) ∧ h.cell (sb a) (so a + i * 2 + 1) = pcV x.1 x.2 := by
  have hi := (List.getElem?_eq_some_iff.1 hx).1
  obtain ⟨hso, -, hsn, -, hA, hC⟩ := hO.facts (by omega)
  obtain ⟨g0, g1⟩ := pcsL_at L i x hx
  refine ⟨hA, hsn, (hC (i * 2) (by omega)).trans g0, ?_⟩
  have := hC (i * 2 + 1) (by omega)
  rw [g1] at this
  exact this
set_option maxHeartbeats 4000000 in
theorem index_rf (L : List PA) (a : Option Addr) (f bx n : Nat) (h : AH) (hO : OwnSl h 0 n a 2 L.length (pcsL L)) (hL : L.length ≤ 1099511627776) (hb : bx < n) (hf : h.cell bx 0 = .int .i64 (f : Nat)) :
    RF Tryz.prog none' 95 #[.slice a L.length L.length, .func (.func 78) #[] #[.pointer (some ⟨bx, 0, none⟩)]] n h (fun r n' h' => Ext n h h' ∧
      ((r = .int .i64 (-1) ∧ ∀ x ∈ L, ¬ x.1.file = f) ∨ ∃ j : Nat, j < L.length ∧ r = .int .i64 (j : Nat) ∧ (∀ x ∈ L.take j, ¬ x.1.file = f) ∧ ∃ x, L[j]? = some x ∧ x.1.file = f)) := by
  refine RF.of Tryz.func95 rfl rfl (Nat.le_of_ble_eq_true rfl) ?_; dsimp only [argEnv]
  repeat' (first | refine stpS ?_ | (refine stp2 ?_ ?_ <;> intro _))
  refine RC.loop ?_
  refine RL.inv (α := Nat) (fun s => [(8, .int .i64 (s : Nat)), (7, .int .i64 L.length), (1, .func (.func 78) #[] #[.pointer (some ⟨bx, 0, none⟩)]), (0, .slice a L.length L.length)])
    (fun s n1 h1 => s ≤ L.length ∧ n ≤ n1 ∧ Ext n h h1 ∧ ∀ x ∈ L.take s, ¬ x.1.file = f) (fun s => L.length - s) 0 envs ⟨by omega, by omega, Ext.refl _ _, by simp⟩ ?_
  rintro i n1 h1 ⟨hi, hn1, hE, hno⟩
  repeat' (first | refine stpS ?_ | (refine stp2 ?_ ?_ <;> intro _))
  · have hi' : i < L.length := by omega
    obtain ⟨x, hx⟩ : ∃ x, L[i]? = some x := ⟨_, List.getElem?_eq_getElem hi'⟩
    have hO1 := hO.ext hE hn1
    obtain ⟨hA, hsn, hc0, hc1⟩ := row_at hO1 hx
    obtain ⟨t, w, hv⟩ : ∃ t w, pcV x.1 x.2 = .iface t w := by
      unfold pcV; split
      · exact ⟨_, _, rfl⟩
      · exact ⟨_, _, rfl⟩
    have hs := sync1_rf x f bx n1 h1 (by omega) ((hE.cell bx 0 hb).trans hf)
    rw [pcC] at hs
    rw [hv] at hc1 hs
    repeat' (first | refine stpS ?_ | (refine stp2 ?_ ?_ <;> intro _))
    refine RS.callv (caps := [.pointer (some ⟨bx, 0, none⟩)]) rfl opd opds (RF.ev hs (Q := fun r n2 h2 => r = .bool (decide (x.1.file = f)) ∧ n2 = n1 ∧ h2 = h1) ⟨rfl, rfl, rfl⟩) none'W ?_
    rintro r n2 h2 hle ⟨rfl, rfl, rfl⟩
    have htk : L.take (i + 1) = L.take i ++ [x] := by rw [List.take_add_one, hx]; rfl
    by_cases q : x.1.file = f
    · rw [decide_eq_true q]
      repeat' (first | refine stpS ?_ | (refine stp2 ?_ ?_ <;> intro _))
      exact ⟨hE, .inr ⟨i, hi', rfl, hno, x, hx, q⟩⟩
    · rw [decide_eq_false q]
      repeat' (first | refine stpS ?_ | (refine stp2 ?_ ?_ <;> intro _))
      refine nextC.normal ⟨i + 1, by omega, envs, by omega, hn1, hE, fun y hy => ?_⟩
      rw [htk] at hy
      rcases List.mem_append.1 hy with k | k
      · exact hno y k
      · simp at k; subst k; exact q
  · repeat' (first | refine stpS ?_ | (refine stp2 ?_ ?_ <;> intro _))
    rw [List.take_of_length_le (by omega)] at hno
    exact ⟨hE, .inl ⟨rfl, hno⟩⟩
end
end Go.Proofs.YtfbddbpbifnhfaaGreatDoor.Dk

/- Contracts taken from disk (written by port.py). -/
namespace Go.Proofs.YtfbddbpbifnhfaaGreatDoor.Dk
open Go.Abs
theorem known_map {α : Type} (f : α → Value) : ∀ l : List α, (∀ x ∈ l, known [f x] = true) → known (l.map f) = true
  | [], _ => rfl
  | x :: r, h => by
    have h1 := h x (by simp)
    have h2 := known_map f r (fun y hy => h y (by simp [hy]))
    rw [List.map_cons]
    cases hf : f x <;> rw [hf] at h1 <;> simp_all [known]
def keepP (f : Nat) (x : PA) : Bool := !decide (x.1.file = f)
section
variable {h h1 h2 : AH} {n n1 n2 d : Nat}
set_option maxHeartbeats 4000000 in
theorem delete_rf (L : List PA) (a : Option Addr) (f bx n : Nat) (h : AH) (hO : OwnSl h 0 n a 2 L.length (pcsL L)) (hL : L.length ≤ 1099511627776) (hb : bx < n) (hf : h.cell bx 0 = .int .i64 (f : Nat)) (hab : a = none ∨ bx ≠ sb a) :
    RF Tryz.prog (inA a) 76 #[.slice a L.length L.length, .func (.func 78) #[] #[.pointer (some ⟨bx, 0, none⟩)]] n h (fun r n' h' =>
      r = .slice a (L.filter (keepP f)).length (L.filter (keepP f)).length ∧ OwnSl h' 0 n' a 2 (L.filter (keepP f)).length (pcsL (L.filter (keepP f))) ∧ ExtX n a h h') := by
  refine RF.of Tryz.func76 rfl rfl (Nat.le_of_ble_eq_true rfl) ?_; dsimp only [argEnv]
  repeat' (first | refine stpS ?_ | (refine stp2 ?_ ?_ <;> intro _))
  refine RS.call rfl opds (index_rf L a f bx n h hO hL hb hf) none'W ?_
  rintro r n1 h1 hle ⟨hE, hr⟩
  have hX : ExtX n a h h1 := fun x hx _ => ⟨hE.info x hx, fun i => hE.cell x i hx⟩
  rcases hr with ⟨rfl, hno⟩ | ⟨j, hj, rfl, hno, xj, hxj, hfj⟩
  · have hfl : L.filter (keepP f) = L := List.filter_eq_self.2 fun x hx => by simp [keepP, hno x hx]
    rw [hfl]
    repeat' (first | refine stpS ?_ | (refine stp2 ?_ ?_ <;> intro _))
    exact ⟨rfl, hO.ext hE hle, hX⟩
  · have ha : a ≠ none := by
      intro q; subst q
      rcases hO.or with ⟨_, k⟩ | ⟨k, _⟩
      · omega
      · cases k
    have hbn : bx ≠ sb a := hab.resolve_left ha
    have hfl1 : (L.take j).filter (keepP f) = L.take j := List.filter_eq_self.2 fun x hx => by simp [keepP, hno x hx]
    have htj : L.take (j + 1) = L.take j ++ [xj] := by rw [List.take_add_one, hxj]; rfl
    have hfl2 : (L.take (j + 1)).filter (keepP f) = L.take j := by rw [htj, List.filter_append, hfl1]; simp [keepP, hfj]
    have hTa : inA a (sb a) := ⟨ha, rfl⟩
    repeat' (first | refine stpS ?_ | (refine stp2 ?_ ?_ <;> intro _))
    refine RC.loop ?_
    refine RL.inv (α := Nat × Nat × List PA) (fun s => [(5, .int .i64 (s.1 : Nat)), (6, .int .i64 (s.2.1 : Nat)), (1, .func (.func 78) #[] #[.pointer (some ⟨bx, 0, none⟩)]), (0, .slice a L.length L.length)])
      (fun s n2 h2 => s.1 < s.2.1 ∧ s.2.1 ≤ L.length ∧ n ≤ n2 ∧ ExtX n a h h2 ∧ s.2.2.length = L.length ∧ s.2.2.take s.1 = (L.take s.2.1).filter (keepP f) ∧ s.2.2.drop s.2.1 = L.drop s.2.1 ∧ OwnSl h2 0 n2 a 2 L.length (pcsL s.2.2)) (fun s => L.length - s.2.1) (j, j + 1, L) envs
      ⟨by dsimp only; omega, by dsimp only; omega, hle, hX, rfl, hfl2.symm, rfl, hO.ext hE hle⟩ ?_
    rintro ⟨i, k, M⟩ n2 h2 ⟨hik, hk, hn2, hX2, hM, hMt, hMd, hO2⟩
    dsimp only at hik hk hM hMt hMd hO2 ⊢
    have hil : i = ((L.take k).filter (keepP f)).length := by rw [← hMt, List.length_take]; omega
    repeat' (first | refine stpS ?_ | (refine stp2 ?_ ?_ <;> intro _))
    · have hk' : k < L.length := by omega
      obtain ⟨x, hx⟩ : ∃ x, L[k]? = some x := ⟨_, List.getElem?_eq_getElem hk'⟩
      have hxM : M[k]? = some x := by
        have e : (M.drop k)[0]? = (L.drop k)[0]? := by rw [hMd]
        simpa [hx] using e
      obtain ⟨hA, hsn, hc0, hc1⟩ := row_at (L := M) (by rw [hM]; exact hO2) hxM
      rw [hM] at hA
      obtain ⟨t, w, hv⟩ : ∃ t w, pcV x.1 x.2 = .iface t w := by
        unfold pcV; split
        · exact ⟨_, _, rfl⟩
        · exact ⟨_, _, rfl⟩
      have htk : L.take (k + 1) = L.take k ++ [x] := by rw [List.take_add_one, hx]; rfl
      have hs := sync1_rf x f bx (n2 + 1) ((h2.app (.new n2 ⟨2, 0, true, 0⟩ [.int .i64 0, .nilIface])).app (.sets n2 0 [.int .i64 (x.1.file : Nat), .iface t w])) (by omega) (c_out (by omega) (c_new_ne (by omega) ((hX2 bx hb hab |>.2 0).trans hf)))
      rw [pcC] at hs
      have hpc : pcC x.1 x.2 = [.int .i64 (x.1.file : Nat), .iface t w] := by rw [pcC, hv]
      rw [hv] at hc1 hs
      obtain ⟨hso, -, -, hI, -, -⟩ := hO2.facts (by omega)
      repeat' (first | refine stpS ?_ | (refine stp2 ?_ ?_ <;> intro _))
      refine RS.callv (caps := [.pointer (some ⟨bx, 0, none⟩)]) rfl opd opds (RF.ev hs (Q := fun r n3 h3 => r = .bool (decide (x.1.file = f)) ∧ n3 = n2 + 1 ∧ h3 = (h2.app (.new n2 ⟨2, 0, true, 0⟩ [.int .i64 0, .nilIface])).app (.sets n2 0 [.int .i64 (x.1.file : Nat), .iface t w])) ⟨rfl, rfl, rfl⟩) none'W ?_
      rintro r n3 h3 hle3 ⟨rfl, rfl, rfl⟩
      have hX3 : ExtX n a h ((h2.app (.new n2 ⟨2, 0, true, 0⟩ [.int .i64 0, .nilIface])).app (.sets n2 0 [.int .i64 (x.1.file : Nat), .iface t w])) := fun y hy hne => by
        have e : Ext n2 h2 ((h2.app (.new n2 ⟨2, 0, true, 0⟩ [.int .i64 0, .nilIface])).app (.sets n2 0 [.int .i64 (x.1.file : Nat), .iface t w])) := ext
        have := hX2 y hy hne
        exact ⟨(e.info y (by omega)).trans this.1, fun z => (e.cell y z (by omega)).trans (this.2 z)⟩
      have hO3 := hO2.ext (n1 := n2 + 1) (h1 := (h2.app (.new n2 ⟨2, 0, true, 0⟩ [.int .i64 0, .nilIface])).app (.sets n2 0 [.int .i64 (x.1.file : Nat), .iface t w])) ext (by omega)
      by_cases q : x.1.file = f
      · rw [decide_eq_true q]
        repeat' (first | refine stpS ?_ | (refine stp2 ?_ ?_ <;> intro _))
        refine nextC.normal ⟨(i, k + 1, M), by dsimp only; omega, envs, by dsimp only; omega, by dsimp only; omega, by omega, hX3, hM, ?_, ?_, hO3⟩
        · dsimp only
          rw [htk, List.filter_append, hMt]; simp [keepP, q]
        · dsimp only
          rw [← List.drop_drop, ← List.drop_drop, hMd]
      · rw [decide_eq_false q]
        have hI' : h2.info (sb a) = some ⟨L.length * 2, 0, true, 2⟩ := hI
        have hAi : SlA a L.length := hA
        repeat' (first | refine stpS ?_ | (refine stp2 ?_ ?_ <;> intro _))
        have hi' : i < M.length := by omega
        refine nextC.normal ⟨(i + 1, k + 1, M.set i x), by dsimp only; omega, envs, by dsimp only; omega, by dsimp only; omega, by omega, hX3.sets (fun z => ha z), by dsimp only; rw [List.length_set]; exact hM, ?_, ?_, ?_⟩
        · dsimp only
          rw [htk, List.filter_append, ← hMt, List.set_eq_take_append_cons_drop, if_pos hi', List.take_append, List.take_take]
          have e1 : (M.take i).length = i := by rw [List.length_take]; omega
          rw [e1, Nat.min_eq_right (by omega), show i + 1 - i = 1 by omega]
          simp [keepP, q]
        · dsimp only
          rw [List.drop_set_of_lt (by omega), ← List.drop_drop, ← List.drop_drop, hMd]
        · have := hO3.splice (i := i * 2) (vs := pcC x.1 x.2) (by rw [pcC_length]; omega) (pcV_known _ _)
          rw [← pcsL_set M i x hi', hpc] at this
          exact this
    · have hkl : k = L.length := by omega
      subst hkl
      rw [List.take_length] at hMt hil
      have hS2 := hO2.slr
      repeat' (first | refine stpS ?_ | (refine stp2 ?_ ?_ <;> intro _))
      rw [Int.toNat_natCast]
      have hkz : known (zrow (Value.agg #[.int .i64 0, .nilIface]).cells.toList (L.length - i)) = true := by
        refine known_map _ _ fun j _ => ?_
        show known [[Value.int .i64 0, .nilIface].getD (j % 2) (.tuple #[])] = true
        have : j % 2 = 0 ∨ j % 2 = 1 := by omega
        rcases this with e | e <;> rw [e] <;> rfl
      refine RS.clear rfl opd hO2 (by omega) ha (.inl hTa) hkz ?_
      intro hO3
      repeat' (first | refine stpS ?_ | (refine stp2 ?_ ?_ <;> intro _))
      refine RS.sliceCut (u := i) rfl opd opd hO3 (by omega) (fun _ => .inl hTa) ?_
      intro h4 hO4 hX4
      repeat' (first | refine stpS ?_ | (refine stp2 ?_ ?_ <;> intro _))
      rw [← hil]
      refine ⟨rfl, ?_, fun y hy hne => ?_⟩
      · have e : (splice (pcsL M) (i * 2) (zrow (Value.agg #[.int .i64 0, .nilIface]).cells.toList (L.length - i))).take (i * 2) = pcsL (L.filter (keepP f)) := by
          have hl : ((pcsL M).take (i * 2)).length = i * 2 := by rw [List.length_take, pcsL_length]; omega
          rw [splice, List.append_assoc, List.take_append_of_le_length (by omega), List.take_take, Nat.min_self, pcsL_take, hMt]
        rw [e] at hO4
        exact hO4
      · have h5 := hX4 y (by omega) hne
        have h6 := (hX2.sets (o' := so a + i * 2) (vs := zrow (Value.agg #[.int .i64 0, .nilIface]).cells.toList (L.length - i)) (fun z => ha z)) y hy hne
        exact ⟨h5.1.trans h6.1, fun z => (h5.2 z).trans (h6.2 z)⟩
end
end Go.Proofs.YtfbddbpbifnhfaaGreatDoor.Dk

/- Contracts taken from disk (written by port.py). -/
namespace Go.Proofs.YtfbddbpbifnhfaaGreatDoor.Dk
open Go.Abs
theorem synced_ok {S : DS} {f : Nat} (h : DSOk S) : DSOk (S.synced f) := by
  refine ⟨fun p hp => h.ps p (List.mem_filter.1 hp).1, fun g => ?_, h.fuse, h.calls, h.keep⟩
  show (upd S.sure f (S.now f) g).length ≤ _
  unfold upd
  split
  · exact h.now f
  · exact h.sure g
theorem nowP_filter {f g : Nat} (l : List UInt8) (ps : List Pc) (h : g ≠ f) : nowP g l (ps.filter fun p => !decide (p.file = f)) = nowP g l ps := by
  unfold nowP
  rw [List.filter_filter]
  congr 1
  refine List.filter_congr fun p _ => ?_
  by_cases q : p.file = g
  · subst q; simp [h]
  · simp [q]
theorem nowP_none {f : Nat} (l : List UInt8) (ps : List Pc) : nowP f l (ps.filter fun p => !decide (p.file = f)) = l := by
  unfold nowP
  have : (ps.filter fun p => !decide (p.file = f)).filter (fun p => decide (p.file = f)) = [] := by
    rw [List.filter_filter]
    refine List.filter_eq_nil_iff.2 fun p _ => ?_
    by_cases q : p.file = f <;> simp [q]
  rw [this]; rfl
theorem synced_now (S : DS) (f g : Nat) : (S.synced f).now g = S.now g := by
  show nowP g (upd S.sure f (S.now f) g) (S.ps.filter fun p => !decide (p.file = f)) = nowP g (S.sure g) S.ps
  by_cases e : g = f
  · subst e; rw [upd_same, nowP_none]; rfl
  · rw [upd_ne _ _ e, nowP_filter _ _ e]
theorem zip_fs {α β : Type} : ∀ L : List (α × β), (L.map Prod.fst).zip (L.map Prod.snd) = L
  | [] => rfl
  | x :: r => by simp [zip_fs r]
theorem zip_fst {α β : Type} : ∀ (l : List α) (m : List β), l.length = m.length → (l.zip m).map Prod.fst = l ∧ (l.zip m).map Prod.snd = m
  | [], [], _ => ⟨rfl, rfl⟩
  | [], _ :: _, h => by simp at h
  | _ :: _, [], h => by simp at h
  | x :: l, y :: m, h => by have := zip_fst l m (by simpa using h); simp [this.1, this.2]
section
variable {h h1 h2 : AH} {n n1 n2 d : Nat} {F G : Nat → Prop} {S S1 S2 : DS}
set_option maxHeartbeats 4000000 in
theorem sync_dk (D : Dk h n d F G S) (hps : S.ps.length ≤ 1099511627776) (hcl : S.calls < 4611686018427387904) (f : Int) :
    RF Tryz.prog F 44 #[.pointer (some ⟨d, 0, none⟩), .int .i64 f] n h (fun r n' h' => r = .int .i64 (S.sync f).1 ∧ DkTo n d F G h (S.sync f).2 n' h') := by
  refine RF.of Tryz.func44 rfl rfl (Nat.le_of_ble_eq_true rfl) ?_; dsimp only [argEnv]
  have hlt := D.lt
  have D0 : Dk (h.app (.new n ⟨1, 0, true, 0⟩ [.int .i64 f])) (n + 1) d F G S := D.ext ext (Nat.le_succ n)
  by_cases hm : S.may f = 0
  · obtain ⟨i, hi, rfl, hd⟩ := may_zero hm
    have hme := may_dk D0 (i : Int)
    rw [hm] at hme
    repeat' (first | refine stpS ?_ | (refine stp2 ?_ ?_ <;> intro _))
    refine RS.call1 rfl opds hme none'W ?_
    repeat' (first | refine stpS ?_ | (refine stp2 ?_ ?_ <;> intro _))
    refine RS.call rfl opds (ends_dk D0 hps hcl) (fun b hb => .inl hb) ?_
    rintro r n1 h1 hle ⟨rfl, F1, G1, D1, hF1, hG1, e1⟩
    have hnF : ¬ F n := fun q => by have := D.ltF _ q; omega
    have e0 : ExtW F n h h1 := (ExtW.appNew (Nat.le_refl n) (ExtW.refl F n h)).trans e1 (Nat.le_succ n) (fun _ _ q => q)
    by_cases he : S.ends.1 = 0
    · have hs : S.sync (i : Int) = (0, S.ends.2.synced i) := by rw [DS.sync, if_neg (by rw [hm]; simp), if_neg (by rw [he]; simp), Int.toNat_natCast]
      rw [hs, he]
      have hbx : h1.cell n 0 = .int .i64 (i : Nat) := c_extW e1 (by omega) hnF cell
      have hpl : S.ends.2.ps.length ≤ 1099511627776 := by
        unfold DS.ends at he ⊢
        split
        · exact hps
        · split
          · exact hps
          · simp [DS.lose]
      generalize S.ends.2 = S1 at *
      obtain ⟨ok, o, ka, pa, rfl, rfl, R⟩ := id D1
      have hno := ok.now i
      have c1 := now_cell R hi
      have S0 : SlB h1 n1 (o i) (S1.now i) := by
        have := (R.fo i (by omega)).slb
        rwa [flOf_lt _ hi] at this
      have hlt1 := R.lt
      have hinf := R.inf
      have hTd : F d := hF1 d (by omega) (.inl rfl)
      repeat' (first | refine stpS ?_ | (refine stp2 ?_ ?_ <;> intro _))
      repeat' (first | refine stp ?_ | (refine stp2 ?_ ?_ <;> intro _))
      refine RD.call n1 rfl opds (clone_rf (S1.now i) (o i) _ n1 _ (S0.ext (AH.below_ext h1 n1) (Nat.le_refl _)) rfl (by omega)) (Nat.le_refl _) cfc ?_
      rintro r n2 h2 hle2 ⟨a1, rfl, hE, hO⟩
      have hE2 : Ext n1 h1 h2 := hE.via (Nat.le_refl _) (AH.below_ext h1 n1)
      have hnew : a1 = o (2 + i) ∨ a1 = none ∨ n1 ≤ sb a1 := .inr (hO.at'.imp id (·.1))
      have R2 := R.fileJ (i := 2 + i) (j := 3 + i) (by omega) (by omega) (fun x hx _ => ⟨hE2.info x hx, fun k => hE2.cell x k hx⟩) hle2 (hO.mono (Nat.zero_le _)) hnew
      repeat' (first | refine stp ?_ | (refine stp2 ?_ ?_ <;> intro _))
      have e4 : upd o (2 + i) a1 4 = o 4 := upd_ne _ _ (by omega)
      have c5 := R2.c5
      rw [e4] at c5
      have hLl : (S1.ps.zip pa).length = S1.ps.length := by rw [List.length_zip, R.len, Nat.min_self]
      have hLo := R2.lo
      rw [e4, ← pcsL_zip, ← hLl] at hLo
      have hbx2 : (h2.app (.sets d (3 + i) [.slice a1 (S1.now i).length (S1.now i).length])).cell n 0 = .int .i64 (i : Nat) := c_out (.inl (by omega)) (c_ext hE2 (by omega) hbx)
      have hlt2 := R2.lt
      have hinf2 := R2.inf
      have hE3 : ExtW F n h (h2.app (.sets d (3 + i) [.slice a1 (S1.now i).length (S1.now i).length])) := ExtW.appSets (.inl hTd) (e0.then hE2 (by omega))
      generalize h2.app (.sets d (3 + i) [.slice a1 (S1.now i).length (S1.now i).length]) = h3 at *
      have hcw := cloneW_rf (S1.ps.zip pa) (o 4) n2 h3 hLo (by omega)
      rw [hLl] at hcw
      repeat' refine stp ?_
      refine RS.call rfl opds hcw none'W ?_
      rintro r n4 h4 hle4 ⟨a4, rfl, hE4, hO4⟩
      have ha4 := hO4.at'
      have hdel := delete_rf (S1.ps.zip pa) a4 i n n4 h4 (by rw [hLl]; exact hO4.mono (Nat.zero_le _)) (by omega) (by omega) (c_ext hE4 (by omega) hbx2) (ha4.imp id (by omega))
      rw [hLl] at hdel
      repeat' refine stp ?_
      refine RS.call rfl opds hdel (fun b hb => .inr (by have := ha4.resolve_left hb.1; have := hb.2; omega)) ?_
      rintro r n5 h5 hle5 ⟨rfl, hO5, hX5⟩
      have hE5 : Ext n2 h3 h5 := ⟨fun x hx => (hX5 x (by omega) (ha4.imp id (by omega))).1.trans (hE4.info x hx), fun x k hx => ((hX5 x (by omega) (ha4.imp id (by omega))).2 k).trans (hE4.cell x k hx)⟩
      have hi5 : h5.info d = some ⟨10, 0, true, 0⟩ := (hE5.info d hlt2).trans hinf2
      repeat' refine stp ?_
      obtain ⟨z1, z2⟩ := zip_fst S1.ps pa R.len.symm
      generalize hL : S1.ps.zip pa = L at *
      have hps' : (L.filter (keepP i)).map Prod.fst = S1.ps.filter fun p => !decide (p.file = i) := by
        rw [← z1, List.filter_map]; rfl
      have hlen' : ((L.filter (keepP i)).map Prod.snd).length = ((L.filter (keepP i)).map Prod.fst).length := by simp
      have hll : (L.filter (keepP i)).length = ((L.filter (keepP i)).map Prod.fst).length := by simp
      have hcs : pcsL (L.filter (keepP i)) = pcsC ((L.filter (keepP i)).map Prod.fst) ((L.filter (keepP i)).map Prod.snd) := by rw [← pcsL_zip, zip_fs]
      rw [hcs, hll] at hO5
      have hsub : ∀ x ∈ (L.filter (keepP i)).map Prod.snd, x ∈ pa := fun x hx => by
        rw [← z2]
        obtain ⟨y, hy, rfl⟩ := List.mem_map.1 hx
        exact List.mem_map.2 ⟨y, (List.mem_filter.1 hy).1, rfl⟩
      have R3 := R2.list (a' := a4) (ps' := (L.filter (keepP i)).map Prod.fst) (pa' := (L.filter (keepP i)).map Prod.snd) (fun x hx _ => ⟨hE5.info x hx, fun k => hE5.cell x k hx⟩) (by omega) hO5 (.inr (ha4.imp id (·.1))) hlen' hsub (fun k p hk _ => by
        rw [List.getElem?_map] at hk
        cases hq : (L.filter (keepP i))[k]? with
        | none => rw [hq] at hk; cases hk
        | some y =>
          rw [hq] at hk
          simp only [Option.map_some, Option.some.injEq] at hk
          have hy := (List.mem_filter.1 (List.mem_of_getElem? hq)).1
          obtain ⟨j, hj⟩ := List.mem_iff_getElem?.1 hy
          refine ⟨j, ?_, ?_⟩
          · rw [← z1, List.getElem?_map, hj, ← hk]; rfl
          · rw [← z2]
            simp only [List.getD, List.getElem?_map, hj, hq, Option.map_some])
      rw [hps'] at R3
      have ho : oNew n1 o (upd (upd o (2 + i) a1) 4 a4) := ((oNew.refl n1 o).upd (Nat.le_refl _) hnew).upd (n1 := n2) hle2 (.inr (ha4.imp id (·.1)))
      refine ⟨rfl, DkF d (upd (upd o (2 + i) a1) 4 a4), DkG ka ((L.filter (keepP i)).map Prod.snd), ⟨synced_ok ok, _, ka, (L.filter (keepP i)).map Prod.snd, rfl, rfl, ?_⟩, fun b hb q => hF1 b (by omega) (ho.F b (by omega) q), fun b hb q => hG1 b (by omega) ?_, ?_⟩
      · rw [hll, hps']
        refine R3.congr fun j hj => ?_
        unfold flOf upd
        by_cases h2 : j < 2
        · simp only [if_pos h2, if_neg (show ¬ j = 2 + i by omega)]
          exact (synced_now S1 i j).symm
        · simp only [if_neg h2]
          by_cases e : j = 2 + i
          · rw [if_pos e]
            subst e
            show S1.now i = upd S1.sure i (S1.now i) (2 + i - 2)
            rw [Nat.add_sub_cancel_left, upd_same]
          · rw [if_neg e]
            show S1.sure (j - 2) = upd S1.sure i (S1.now i) (j - 2)
            rw [upd_ne _ _ (by omega)]
      · obtain ⟨x, hx, hne, rfl⟩ := q
        refine ⟨x, ?_, hne, rfl⟩
        simp only [List.mem_cons] at hx ⊢
        exact hx.imp id (hsub x)
      · exact ExtW.appSets (.inl hTd) (hE3.then hE5 (by omega))
    · have hs : S.sync (i : Int) = S.ends := by rw [DS.sync, if_neg (by rw [hm]; simp), if_pos he]
      rw [hs]
      repeat' (first | refine stpS ?_ | (refine stp2 ?_ ?_ <;> intro _))
      exact ⟨rfl, _, _, D1, fun b hb q => hF1 b (by omega) q, fun b hb q => hG1 b (by omega) q, e0⟩
  · have he : S.sync f = (S.may f, S) := by simp [DS.sync, hm]
    rw [he]
    repeat' (first | refine stpS ?_ | (refine stp2 ?_ ?_ <;> intro _) | refine RS.call1 rfl opds (may_dk D0 f) none'W ?_)
    exact ⟨rfl, _, _, D0, fun _ _ q => q, fun _ _ q => q, ExtW.appNew (Nat.le_refl n) (ExtW.refl F n h)⟩
end
end Go.Proofs.YtfbddbpbifnhfaaGreatDoor.Dk

/- Contracts taken from disk (written by port.py). -/
namespace Go.Proofs.YtfbddbpbifnhfaaGreatDoor.Dk
open Go.Abs
section
variable {h h1 h2 : AH} {n n1 n2 d : Nat} {F G F1 G1 F2 G2 : Nat → Prop} {S S1 S2 : DS}
theorem init_ok : DSOk DS.init := ⟨fun p hp => (by cases hp), fun f => by simp [DS.init], by simp [DS.init], by simp [DS.init], by simp [DS.init]⟩
set_option maxHeartbeats 4000000 in
theorem new_rf (n : Nat) (h : AH) (hn : 0 < n) : RF Tryz.prog none' 4 #[] n h (fun r n' h' => ∃ d F G, r = .pointer (some ⟨d, 0, none⟩) ∧ Dk h' n' d F G DS.init ∧ (∀ b, F b → n ≤ b) ∧ (∀ b, ¬ G b) ∧ Ext n h h') := by
  refine RF.of Tryz.func4 rfl rfl (Nat.le_of_ble_eq_true rfl) ?_; dsimp only [argEnv]
  repeat' (first | refine stpS ?_ | (refine stp2 ?_ ?_ <;> intro _))
  refine ⟨n, DkF n (fun _ => none), DkG none [], rfl, ⟨init_ok, fun _ => none, none, [], rfl, rfl, ?_⟩, ?_, ?_, ext⟩
  · have e : ∀ i, flOf DS.init i = [] := fun i => by unfold flOf; split <;> rfl
    refine ⟨Nat.lt_succ_self n, i_new, cell, fun i hi => ?_, cell, cell, cell, cell, cell, fun i hi => by rw [e]; exact .nil (Nat.zero_le _), .nil (Nat.zero_le _), .nil, fun i p hp => (by cases hp), rfl, fun i hi => .inl rfl, fun i j _ _ _ => .inl rfl, fun i x _ _ => .inl rfl, fun x hx => ?_, fun x hx q => ?_⟩
    · rw [e]
      rcases (show i = 0 ∨ i = 1 ∨ i = 2 ∨ i = 3 by omega) with rfl | rfl | rfl | rfl <;> exact cell
    · simp at hx; exact .inl hx
    · simp at hx; exact absurd hx q
  · rintro b (rfl | ⟨i, _, q, _⟩)
    · exact Nat.le_refl _
    · exact absurd rfl q
  · rintro b ⟨x, hx, q, _⟩
    simp at hx; exact q hx
end
end Go.Proofs.YtfbddbpbifnhfaaGreatDoor.Dk

/- Contracts of wal: a log in memory. -/
namespace Go.Proofs.YtfbddbpbifnhfaaGreatDoor
open Go.Abs Cd

def CmR (h : AH) (n : Nat) (B : Nat → Prop) (c : Option Addr) (l : List (List UInt8)) : Prop :=
  ∃ ad, SlQ h n c ad l ∧ (c ≠ none → B (sb c)) ∧ ∀ j, j < l.length → ad j ≠ none → B (sb (ad j))
theorem SlQ.extW {W : Nat → Prop} {h h1 : AH} {n n1 : Nat} {a : Option Addr} {ad : Nat → Option Addr} {ls : List (List UInt8)} (S : SlQ h n a ad ls) (E : ExtW W n h h1) (hn : n ≤ n1) (ha : a ≠ none → ¬ W (sb a)) (hr : ∀ j, j < ls.length → ad j ≠ none → ¬ W (sb (ad j))) : SlQ h1 n1 a ad ls :=
  ⟨SlR.extW S.out E hn ha, fun j hj => SlR.extW (S.row j hj) E hn (hr j hj)⟩
theorem CmR.extW {W B : Nat → Prop} {h h1 : AH} {n n1 : Nat} {c : Option Addr} {l : List (List UInt8)} (C : CmR h n B c l) (E : ExtW W n h h1) (hn : n ≤ n1) (hB : ∀ b, B b → ¬ W b) : CmR h1 n1 B c l := by
  obtain ⟨ad, S, c1, c2⟩ := C
  exact ⟨ad, SlQ.extW S E hn (fun q => hB _ (c1 q)) (fun j hj q => hB _ (c2 j hj q)), c1, c2⟩
theorem CmR.mono {B B' : Nat → Prop} {h : AH} {n : Nat} {c : Option Addr} {l : List (List UInt8)} (C : CmR h n B c l) (hB : ∀ b, B b → B' b) : CmR h n B' c l := by
  obtain ⟨ad, S, c1, c2⟩ := C
  exact ⟨ad, S, fun q => hB _ (c1 q), fun j hj q => hB _ (c2 j hj q)⟩
theorem Cm.cmr {h : AH} {n0 n : Nat} {a : Option Addr} {M : List (Option Addr × List UInt8)} (c : Cm h n0 n a M) : CmR h n (fun b => n0 ≤ b ∧ b < n) a (M.map (·.2)) := by
  refine ⟨_, c.slq, fun q => c.out.at'.resolve_left q, fun j hj q => ?_⟩
  rw [List.length_map] at hj
  have hg : (cmL M)[j]? = some (M[j].1, M[j].2.length, bytesV M[j].2) := by unfold cmL; rw [List.getElem?_map, List.getElem?_eq_getElem hj]; rfl
  have he : (M.getD j (none, [])).1 = M[j].1 := by simp [List.getD, hj]
  rw [he] at q ⊢
  exact (c.inn j _ hg).at'.resolve_left q
structure LS where
  S : Dk.DS
  gen : Int
  L : List (List (List UInt8))
  e : Nat
abbrev CmA := Option Addr × List (List UInt8)
def lgC (N : List CmA) : List Value := N.map fun x => .slice x.1 x.2.length x.2.length
structure LgR (h : AH) (n lg d : Nat) (F G : Nat → Prop) (a : Option Addr) (N : List CmA) (B : Nat → Prop) (X : LS) : Prop where
  dk : Dk.Dk h n d F G X.S
  hi : lg < n
  inf : h.info lg = some ⟨4, 0, true, 0⟩
  c0 : h.cell lg 0 = .pointer (some ⟨d, 0, none⟩)
  c1 : h.cell lg 1 = .int .i64 X.gen
  c2 : h.cell lg 2 = .slice a X.L.length X.L.length
  c3 : h.cell lg 3 = .int .i64 (X.e : Nat)
  own : OwnSl h 0 n a 1 X.L.length (lgC N)
  nl : N.map (·.2) = X.L
  cm : ∀ x ∈ N, CmR h n B x.1 x.2
  bn : ∀ b, B b → b < n ∧ b ≠ lg ∧ ¬ inA a b ∧ ¬ F b
  lF : ¬ F lg ∧ ¬ G lg ∧ ¬ inA a lg
  aF : ∀ b, inA a b → ¬ F b ∧ ¬ G b
  gm : may X.gen
  le : X.L.length ≤ X.e
  me : X.e ≤ 4194304
def LgT (lg : Nat) (F G : Nat → Prop) (a : Option Addr) (B : Nat → Prop) (b : Nat) : Prop := F b ∨ G b ∨ b = lg ∨ inA a b ∨ B b
def Lg (h : AH) (n lg d : Nat) (T : Nat → Prop) (X : LS) : Prop := ∃ F G a N B, LgR h n lg d F G a N B X ∧ T = LgT lg F G a B
def LgTo (n lg d : Nat) (T : Nat → Prop) (h : AH) (X : LS) (n' : Nat) (h' : AH) : Prop :=
  ∃ T', Lg h' n' lg d T' X ∧ (∀ b, b < n → T' b → T b) ∧ ExtW T n h h'
section
variable {h h1 h2 : AH} {n n1 n2 lg d : Nat} {F G B T : Nat → Prop} {a : Option Addr} {N : List CmA} {X Y : LS}
theorem LgR.alt (R : LgR h n lg d F G a N B X) : ∀ b, inA a b → b < n := fun b q => by
  have := (R.own.at'.resolve_left q.1).2
  rw [q.2]; exact this
theorem LgR.lt (R : LgR h n lg d F G a N B X) : ∀ b, LgT lg F G a B b → b < n := by
  rintro b (q | q | q | q | q)
  · exact R.dk.ltF b q
  · exact R.dk.ltG b q
  · rw [q]; exact R.hi
  · exact R.alt b q
  · exact (R.bn b q).1
theorem Lg.lt (R : Lg h n lg d T X) : ∀ b, T b → b < n := by
  obtain ⟨F, G, a, N, B, R, rfl⟩ := R
  exact R.lt
theorem LgR.extW {W : Nat → Prop} (R : LgR h n lg d F G a N B X) (e : ExtW W n h h1) (hn : n ≤ n1) (hW : ∀ b, LgT lg F G a B b → ¬ W b) : LgR h1 n1 lg d F G a N B X := by
  have hl : ¬ W lg := hW lg (.inr (.inr (.inl rfl)))
  refine ⟨R.dk.extW e hn (fun b q => hW b (.inl q)) (fun b q => hW b (.inr (.inl q))), Nat.lt_of_lt_of_le R.hi hn, i_extW e R.hi hl R.inf, c_extW e R.hi hl R.c0, c_extW e R.hi hl R.c1, c_extW e R.hi hl R.c2, c_extW e R.hi hl R.c3, ?_, R.nl, fun x hx => (R.cm x hx).extW e hn (fun b q => hW b (.inr (.inr (.inr (.inr q))))), fun b q => ?_, R.lF, R.aF, R.gm, R.le, R.me⟩
  · exact (R.own.extW e (Nat.le_refl _) (Nat.le_refl _) fun q => hW _ (.inr (.inr (.inr (.inl ⟨q, rfl⟩))))).ext (Ext.refl _ _) hn
  · obtain ⟨q1, q2⟩ := R.bn b q
    exact ⟨by omega, q2⟩
theorem Lg.extW {W : Nat → Prop} (R : Lg h n lg d T X) (e : ExtW W n h h1) (hn : n ≤ n1) (hW : ∀ b, T b → ¬ W b) : Lg h1 n1 lg d T X := by
  obtain ⟨F, G, a, N, B, R, rfl⟩ := R
  exact ⟨F, G, a, N, B, R.extW e hn hW, rfl⟩
theorem Lg.ext (R : Lg h n lg d T X) (e : Ext n h h1) (hn : n ≤ n1) : Lg h1 n1 lg d T X := R.extW (ExtW.of e (Nat.le_refl _) : ExtW (fun _ => False) n h h1) hn (fun _ _ q => q)
theorem Lg.to (R : Lg h n lg d T X) : LgTo n lg d T h X n h := ⟨T, R, fun _ _ q => q, ExtW.refl _ _ _⟩
theorem LgTo.trans {T1 : Nat → Prop} (a : ExtW T n h h1) (hT : ∀ b, b < n → T1 b → T b) (hn : n ≤ n1) (b : LgTo n1 lg d T1 h1 X n2 h2) : LgTo n lg d T h X n2 h2 := by
  obtain ⟨T2, R, q1, q2⟩ := b
  exact ⟨T2, R, fun b hb q => hT b hb (q1 b (by omega) q), a.trans q2 hn hT⟩
theorem LgR.diskR {S' : Dk.DS} {F' G' : Nat → Prop} (R : LgR h n lg d F G a N B X) (D' : Dk.Dk h1 n1 d F' G' S') (hF : ∀ b, b < n → F' b → F b) (hG : ∀ b, b < n → G' b → G b) (e : ExtW F n h h1) (hn : n ≤ n1) : LgR h1 n1 lg d F' G' a N B { X with S := S' } := by
  have hlF := R.lF
  have hlt := R.hi
  refine ⟨D', Nat.lt_of_lt_of_le R.hi hn, i_extW e R.hi hlF.1 R.inf, c_extW e R.hi hlF.1 R.c0, c_extW e R.hi hlF.1 R.c1, c_extW e R.hi hlF.1 R.c2, c_extW e R.hi hlF.1 R.c3, ?_, R.nl, fun x hx => (R.cm x hx).extW e hn (fun b q => (R.bn b q).2.2.2), fun b q => ?_, ?_, fun b q => ?_, R.gm, R.le, R.me⟩
  · exact (R.own.extW e (Nat.le_refl _) (Nat.le_refl _) fun q => (R.aF _ ⟨q, rfl⟩).1).ext (Ext.refl _ _) hn
  · obtain ⟨q1, q2, q3, q4⟩ := R.bn b q
    exact ⟨by omega, q2, q3, fun q5 => q4 (hF b q1 q5)⟩
  · exact ⟨fun q => hlF.1 (hF _ hlt q), fun q => hlF.2.1 (hG _ hlt q), hlF.2.2⟩
  · obtain ⟨q1, q2⟩ := R.aF b q
    have := R.alt b q
    exact ⟨fun w => q1 (hF b this w), fun w => q2 (hG b this w)⟩
theorem LgR.disk {S' : Dk.DS} (R : LgR h n lg d F G a N B X) (D : Dk.DkTo n d F G h S' n1 h1) (hn : n ≤ n1) : LgTo n lg d (LgT lg F G a B) h { X with S := S' } n1 h1 := by
  obtain ⟨F', G', D', hF, hG, e⟩ := D
  refine ⟨LgT lg F' G' a B, ⟨F', G', a, N, B, R.diskR D' hF hG e hn, rfl⟩, ?_, e.mono (Nat.le_refl _) (fun b _ q => .inl q)⟩
  rintro b hb (q | q | q)
  · exact .inl (hF b hb q)
  · exact .inr (.inl (hG b hb q))
  · exact .inr (.inr q)
set_option maxHeartbeats 4000000 in
theorem none_ev (hlt : lg < n) (c0 : h.cell lg 0 = .pointer (some ⟨d, 0, none⟩)) : Ev Tryz.prog none' 45 #[.pointer (some ⟨lg, 0, none⟩)] n h (.bool false) n h := by
  refine RF.pure rfl fun n' hn => ?_
  refine RF.of Tryz.func45 rfl rfl (Nat.le_of_ble_eq_true rfl) ?_; dsimp only [argEnv]
  repeat' (first | refine stpS ?_ | (refine stp2 ?_ ?_ <;> intro _))
  rfl
set_option maxHeartbeats 4000000 in
theorem many_ev (R : Lg h n lg d T X) : Ev Tryz.prog none' 17 #[.pointer (some ⟨lg, 0, none⟩)] n h (.int .i64 (X.L.length : Nat)) n h := by
  refine RF.pure rfl fun n' hn => ?_
  refine RF.of Tryz.func17 rfl rfl (Nat.le_of_ble_eq_true rfl) ?_; dsimp only [argEnv]
  obtain ⟨F, G, a, N, B, R, rfl⟩ := R
  have hlt := R.hi
  have c0 := R.c0
  have c2 := R.c2
  repeat' (first | refine stpS ?_ | (refine stp2 ?_ ?_ <;> intro _))
  refine RS.call1 rfl opds (none_ev (by omega) c0) none'W ?_
  repeat' (first | refine stpS ?_ | (refine stp2 ?_ ?_ <;> intro _))
  rfl
set_option maxHeartbeats 4000000 in
theorem end_ev' (R : Lg h n lg d T X) : Ev Tryz.prog none' 16 #[.pointer (some ⟨lg, 0, none⟩)] n h (.int .i64 (X.e : Nat)) n h := by
  refine RF.pure rfl fun n' hn => ?_
  refine RF.of Tryz.func16 rfl rfl (Nat.le_of_ble_eq_true rfl) ?_; dsimp only [argEnv]
  obtain ⟨F, G, a, N, B, R, rfl⟩ := R
  have hlt := R.hi
  have c0 := R.c0
  have c3 := R.c3
  repeat' (first | refine stpS ?_ | (refine stp2 ?_ ?_ <;> intro _))
  refine RS.call1 rfl opds (none_ev (by omega) c0) none'W ?_
  repeat' (first | refine stpS ?_ | (refine stp2 ?_ ?_ <;> intro _))
  rfl
set_option maxHeartbeats 4000000 in
theorem gen_ev (R : Lg h n lg d T X) : Ev Tryz.prog none' 20 #[.pointer (some ⟨lg, 0, none⟩)] n h (.int .i64 X.gen) n h := by
  refine RF.pure rfl fun n' hn => ?_
  refine RF.of Tryz.func20 rfl rfl (Nat.le_of_ble_eq_true rfl) ?_; dsimp only [argEnv]
  obtain ⟨F, G, a, N, B, R, rfl⟩ := R
  have hlt := R.hi
  have c0 := R.c0
  have c1 := R.c1
  repeat' (first | refine stpS ?_ | (refine stp2 ?_ ?_ <;> intro _))
  refine RS.call1 rfl opds (none_ev (by omega) c0) none'W ?_
  repeat' (first | refine stpS ?_ | (refine stp2 ?_ ?_ <;> intro _))
  rfl
end
end Go.Proofs.YtfbddbpbifnhfaaGreatDoor

/- Contracts of wal: the next commit. -/
namespace Go.Proofs.YtfbddbpbifnhfaaGreatDoor
open Go.Abs Cd

theorem extX_extW {h h1 : AH} {n : Nat} {a : Option Addr} (E : ExtX n a h h1) : ExtW (inA a) n h h1 := by
  have : ∀ b, ¬ inA a b → a = none ∨ b ≠ sb a := fun b q => by
    by_cases z : a = none
    · exact .inl z
    · exact .inr fun w => q ⟨z, w⟩
  exact ⟨fun b hb q => (E b hb (this b q)).1, fun b i hb q => (E b hb (this b q)).2 i⟩
section
variable {h h1 h2 : AH} {n n1 n2 lg d : Nat} {F G B B1 T : Nat → Prop} {a a' : Option Addr} {N : List CmA} {X Y : LS}
theorem LgR.push {k : Nat} {l : List (List UInt8)} {c : Option Addr} (R : LgR h n lg d F G a N B X) (C : CmR h n B1 c l) (hB1 : ∀ b, B1 b → b < n ∧ b ≠ lg ∧ ¬ inA a b ∧ ¬ F b) (E : ExtX n a h h1) (hn : n ≤ n1)
    (o : OwnSl h1 0 n1 a' 1 (X.L.length + 1) (lgC N ++ [.slice c l.length l.length])) (hw : a' = a ∨ n ≤ sb a') (hk : X.e + k ≤ 4194304) (hk1 : 1 ≤ k) :
    LgR ((h1.app (.sets lg 2 [.slice a' (X.L.length + 1) (X.L.length + 1)])).app (.sets lg 3 [.int .i64 (X.e + k : Nat)])) n1 lg d F G a' (N ++ [(c, l)]) (fun b => B b ∨ B1 b) { X with L := X.L ++ [l], e := X.e + k } := by
  have hlt := R.hi
  have hE : ExtW (fun b => b = lg ∨ inA a b) n h ((h1.app (.sets lg 2 [.slice a' (X.L.length + 1) (X.L.length + 1)])).app (.sets lg 3 [.int .i64 (X.e + k : Nat)])) :=
    ExtW.appSets (.inl (.inl rfl)) (ExtW.appSets (.inl (.inl rfl)) ((extX_extW E).mono (Nat.le_refl _) (fun b _ q => .inr q)))
  obtain ⟨l1, l2, l3⟩ := R.lF
  have hal : a = none ∨ lg ≠ sb a := by
    by_cases z : a = none
    · exact .inl z
    · exact .inr fun w => l3 ⟨z, w⟩
  have hal' : a' = none ∨ sb a' ≠ lg := by
    rcases hw with q | q
    · rw [q]; exact hal.imp id Ne.symm
    · exact .inr (by omega)
  have hin : ∀ b, b < n → inA a' b → inA a b := fun b hb q => by
    rcases hw with w | w
    · rw [w] at q; exact q
    · have := q.2; omega
  have i1 := i_extX E hlt hal R.inf
  have k0 := c_extX E hlt hal R.c0
  have k1 := c_extX E hlt hal R.c1
  have hnl : (N ++ [(c, l)]).map (·.2) = X.L ++ [l] := by rw [List.map_append, R.nl]; rfl
  have hle := R.le
  refine ⟨R.dk.extW hE hn (fun b q z => ?_) (fun b q z => ?_), by omega, info, cell, cell, ?_, cell, ?_, hnl, fun x hx => ?_, fun b q => ?_, ⟨l1, l2, fun q => l3 (hin _ hlt q)⟩, fun b q => ?_, R.gm, ?_, hk⟩
  · rcases z with z | z
    · rw [z] at q; exact l1 q
    · exact (R.aF b z).1 q
  · rcases z with z | z
    · rw [z] at q; exact l2 q
    · exact (R.aF b z).2 q
  · show _ = Value.slice a' (X.L ++ [l]).length (X.L ++ [l]).length
    rw [List.length_append]
    exact cell
  · show OwnSl _ 0 n1 a' 1 (X.L ++ [l]).length (lgC (N ++ [(c, l)]))
    rw [List.length_append, show lgC (N ++ [(c, l)]) = lgC N ++ [.slice c l.length l.length] by simp [lgC]]
    exact (o.setsN hal').setsN hal'
  · rcases List.mem_append.1 hx with q | q
    · refine ((R.cm x q).extW hE hn (fun b w z => ?_)).mono (fun b w => .inl w)
      obtain ⟨-, w1, w2, -⟩ := R.bn b w
      exact z.elim w1 w2
    · simp only [List.mem_cons, List.not_mem_nil, or_false] at q
      subst q
      refine (C.extW hE hn (fun b w z => ?_)).mono (fun b w => .inr w)
      obtain ⟨-, w1, w2, -⟩ := hB1 b w
      exact z.elim w1 w2
  · have : b < n ∧ b ≠ lg ∧ ¬ inA a b ∧ ¬ F b := q.elim (R.bn b) (hB1 b)
    exact ⟨by omega, this.2.1, fun z => this.2.2.1 (hin b this.1 z), this.2.2.2⟩
  · by_cases hb : b < n
    · exact R.aF b (hin b hb q)
    · exact ⟨fun z => hb (R.dk.ltF b z), fun z => hb (R.dk.ltG b z)⟩
  · show (X.L ++ [l]).length ≤ X.e + k
    rw [List.length_append]
    show X.L.length + 1 ≤ _
    omega
end
def nextP (gen : Int) (k e : Nat) (b : List UInt8) : Option (List (List UInt8) × Nat) :=
  if b.length < e + 512 then none else
  let r := (b.drop e).drop 512
  let x := mkd gen (k : Nat) ((b.drop e).take 512)
  let l := r.take x.1.toNat
  if x.2.2 = true ∧ x.1 ≤ (r.length : Nat) ∧ (recordsP l).2 = true ∧ (crc l : Nat) = x.2.1 ∧ ((fillB l).length ≤ r.length ∧ r.take (fillB l).length = fillB l) then some ((recordsP l).1, 512 + (fillB l).length) else none
def LS.next (X : LS) (b : List UInt8) : Option LS := (nextP X.gen X.L.length X.e b).map fun x => { X with L := X.L ++ [x.1], e := X.e + x.2 }
theorem mkd_ok {g s : Int} {b : List UInt8} (h : (mkd g s b).2.2 = true) : 0 ≤ (mkd g s b).1 ∧ (mkd g s b).1 ≤ 262144 ∧ 0 ≤ (mkd g s b).2.1 ∧ (mkd g s b).2.1 < 4294967296 ∧ may g ∧ may s ∧ b = markB g s (mkd g s b).1 (mkd g s b).2.1 := by
  rw [mkd_N] at h ⊢
  split at h
  · rename_i q
    obtain ⟨q1, q2, q3, q4, q5, q6, q7, q8, ⟨q9, q10⟩, q11⟩ := q
    rw [if_pos ⟨q1, q2, q3, q4, q5, q6, q7, q8, ⟨q9, q10⟩, q11⟩]
    exact ⟨q7, q8, q9, q10, q5, q6, q11⟩
  · cases h
theorem mkd_no {g s : Int} {b : List UInt8} (h : (mkd g s b).2.2 = false) : mkd g s b = (0, 0, false) := by
  rw [mkd_N] at h ⊢
  split at h
  · cases h
  · rename_i q
    rw [if_neg q]
end Go.Proofs.YtfbddbpbifnhfaaGreatDoor

/- Contracts taken from disk (written by port.py). -/
namespace Go.Proofs.YtfbddbpbifnhfaaGreatDoor.Dk
open Go.Abs
section
variable {h h0 h1 h2 h' : AH} {n n0 n1 n2 n' d d1 d2 : Nat} {F G F1 G1 F2 G2 : Nat → Prop} {S S1 S2 S' : DS}
structure DL (n0 : Nat) (h0 : AH) (n : Nat) (h : AH) (d : Nat) (F G : Nat → Prop) (S : DS) : Prop where
  dk : Dk h n d F G S
  own : ∀ b, F b → n0 ≤ b
  le : n0 ≤ n
  ext : Ext n0 h0 h
theorem DL.to (D : DL n0 h0 n h d F G S) (hn : n ≤ n') (t : DkTo n d F G h S' n' h') : ∃ F' G', DL n0 h0 n' h' d F' G' S' ∧ (∀ b, b < n → F' b → F b) ∧ (∀ b, b < n → G' b → G b) ∧ ExtW F n h h' := by
  obtain ⟨F', G', D', f, g, e⟩ := t
  refine ⟨F', G', ⟨D', fun b hb => ?_, Nat.le_trans D.le hn, ?_⟩, f, g, e⟩
  · by_cases q : b < n
    · exact D.own b (f b q hb)
    · have := D.le; omega
  · have hle := D.le
    exact ⟨fun x hx => (e.info x (by omega) (fun q => by have := D.own _ q; omega)).trans (D.ext.info x hx), fun x i hx => (e.cell x i (by omega) (fun q => by have := D.own _ q; omega)).trans (D.ext.cell x i hx)⟩
theorem DL.W (D : DL n0 h0 n h d F G S) {W : Nat → Prop} (b : Nat) (k : F b) : W b ∨ n0 ≤ b := .inr (D.own b k)
end
end Go.Proofs.YtfbddbpbifnhfaaGreatDoor.Dk

/- Contracts taken from disk (written by port.py). -/
namespace Go.Proofs.YtfbddbpbifnhfaaGreatDoor.Dk
open Go.Abs
theorem getD_zeros (l : List UInt8) (k i : Nat) : (l ++ List.replicate k 0).getD i 0 = l.getD i 0 := by
  simp only [List.getD]
  by_cases h : i < l.length
  · rw [List.getElem?_append_left h]
  · rw [List.getElem?_append_right (by omega), List.getElem?_replicate, List.getElem?_eq_none (l := l) (by omega)]
    split <;> rfl
theorem getD_splice (cs : List UInt8) (at_ : Nat) (b : List UInt8) (h : at_ + b.length ≤ cs.length) (i : Nat) : (splice cs at_ b).getD i 0 = if at_ ≤ i ∧ i < at_ + b.length then b.getD (i - at_) 0 else cs.getD i 0 := by
  simp only [splice, List.getD]
  have hl : (cs.take at_).length = at_ := by rw [List.length_take]; omega
  by_cases h1 : i < at_
  · rw [List.append_assoc, List.getElem?_append_left (by omega), List.getElem?_take, if_pos h1, if_neg (by omega)]
  · by_cases h2 : i < at_ + b.length
    · rw [if_pos (by omega), List.getElem?_append_left (by rw [List.length_append]; omega), List.getElem?_append_right (by omega), hl]
    · rw [if_neg (by omega), List.getElem?_append_right (by rw [List.length_append]; omega), List.length_append, hl, List.getElem?_drop]
      congr 2; omega
theorem ext_getD {l m : List UInt8} (hl : l.length = m.length) (h : ∀ i, i < l.length → l.getD i 0 = m.getD i 0) : l = m := by
  apply List.ext_getElem hl
  intro i h1 h2
  have := h i h1
  simpa [List.getD, h1, h2] using this
theorem chunks_file (f : Nat) : ∀ (k at_ : Nat) (l : List UInt8), ∀ p ∈ chunks f k at_ l, p.file = f ∧ p.cut = false ∧ p.b ≠ [] := by
  intro k
  induction k with
  | zero => intro at_ l p hp; simp [chunks] at hp
  | succ k ih =>
    intro at_ l p hp
    cases l with
    | nil => simp [chunks] at hp
    | cons x r =>
      simp only [chunks, List.mem_cons] at hp
      rcases hp with rfl | hp
      · refine ⟨rfl, rfl, fun q => ?_⟩
        have := congrArg List.length q
        simp only [List.length_take, List.length_cons, List.length_nil] at this
        omega
      · exact ih _ _ p hp
section
variable {h h0 : AH} {n n0 n1 d : Nat} {F G : Nat → Prop} {S : DS}
theorem Dk.sets {b j : Nat} {vs : List Value} (D : Dk h n d F G S) (hF : ¬ F b) (hG : ¬ G b) : Dk (h.app (.sets b j vs)) n d F G S :=
  D.extW (W := fun x => x = b) (ExtW.appSets (.inl rfl) (ExtW.refl _ _ _)) (Nat.le_refl _) (fun _ q e => hF (e ▸ q)) (fun _ q e => hG (e ▸ q))
theorem DL.sets {b j : Nat} {vs : List Value} (D : DL n0 h0 n h d F G S) (hb : n0 ≤ b) (hF : ¬ F b) (hG : ¬ G b) : DL n0 h0 n (h.app (.sets b j vs)) d F G S :=
  ⟨D.dk.sets hF hG, D.own, D.le, D.ext.trans (Nat.le_refl _) ⟨fun x hx => sets_info _ _ _ _ _, fun x i hx => c_out (.inl (by omega)) rfl⟩⟩
theorem OwnSl.setI {m i : Nat} {x : Int} {a : Option Addr} {l : List UInt8} (o : OwnSl h n0 n a 1 m (bytesV l)) (hi : i < m) (h0 : 0 ≤ x) (h1 : x < 256) :
    OwnSl (h.app (.sets (sb a) (so a + i) [.int .u8 x])) n0 n a 1 m (bytesV (l.set i (UInt8.ofNat x.toNat))) := by
  have := Go.Abs.OwnSl.set1 o (i := i) (v := .int .u8 x) (by omega) rfl
  obtain ⟨k, rfl⟩ : ∃ k : Nat, x = k := ⟨x.toNat, by omega⟩
  rw [bytesV_set _ _ _ (by omega)] at this
  rwa [Int.toNat_natCast]
end
end Go.Proofs.YtfbddbpbifnhfaaGreatDoor.Dk

/- Contracts taken from disk (written by port.py). -/
namespace Go.Proofs.YtfbddbpbifnhfaaGreatDoor.Dk
open Go.Abs
theorem writes_len (S : DS) (i p : Nat) (b : List UInt8) : (S.writes i p b).ps.length ≤ S.ps.length + b.length := by
  have := chunks_length i b.length p b
  simp only [DS.writes, List.length_append]; omega
def pieceOk (t : List Bool) (least : Nat) (p : Pc) : Prop := p.file = 0 → (p.cut = true → least ≤ p.at_) ∧ (p.cut = false → ∀ i, p.at_ ≤ i → i < p.at_ + p.b.length → i < least → t.getD i false = false)
theorem pieceOk.mono {t t2 : List Bool} {l l2 : Nat} {p : Pc} (q : pieceOk t l p) (hl : l2 ≤ l) (ht : ∀ i, t2.getD i false = true → t.getD i false = true) : pieceOk t2 l2 p := fun hf =>
  ⟨fun hc => Nat.le_trans hl ((q hf).1 hc), fun hc i h1 h2 h3 => by
    have := (q hf).2 hc i h1 h2 (by omega)
    cases e : t2.getD i false
    · rfl
    · rw [ht i e] at this; cases this⟩
def keptOk (was : List UInt8) (t : List Bool) (least : Nat) (x : List UInt8) : Prop := least ≤ x.length ∧ ∀ i, i < least → t.getD i false = true → x.getD i 0 = was.getD i 0
theorem keptOk.doP {was : List UInt8} {t : List Bool} {least : Nat} {x : List UInt8} {p : Pc} (k : keptOk was t least x) (q : pieceOk t least p) (hf : p.file = 0) : keptOk was t least (doP x p) := by
  have h := q hf
  cases hc : p.cut
  · have e : YtfbddbpbifnhfaaGreatDoor.Dk.doP x p = splice (x ++ List.replicate (p.at_ + p.b.length - x.length) 0) p.at_ p.b := by unfold YtfbddbpbifnhfaaGreatDoor.Dk.doP; rw [hc]; rfl
    rw [e]
    refine ⟨?_, fun i hi ht => ?_⟩
    · rw [splice_length _ _ _ (by simp; omega), List.length_append]; have := k.1; omega
    · rw [getD_splice _ _ _ (by simp; omega), getD_zeros]
      split
      · rename_i hh
        rw [h.2 hc i hh.1 hh.2 hi] at ht; cases ht
      · exact k.2 i hi ht
  · have e : YtfbddbpbifnhfaaGreatDoor.Dk.doP x p = x.take p.at_ := by unfold YtfbddbpbifnhfaaGreatDoor.Dk.doP; rw [hc]; rfl
    have hle := h.1 hc
    rw [e]
    refine ⟨by rw [List.length_take]; have := k.1; omega, fun i hi ht => ?_⟩
    rw [← k.2 i hi ht]
    simp only [List.getD]
    rw [List.getElem?_take, if_pos (by omega)]
theorem keptOk.lose {was : List UInt8} {t : List Bool} {least : Nat} : ∀ {ps : List Pc} {ks : List Bool} {sure : Nat → List UInt8}, keptOk was t least (sure 0) → (∀ p ∈ ps, pieceOk t least p) → keptOk was t least (loseP sure ps ks 0) := by
  intro ps
  induction ps with
  | nil => intro ks sure k _; exact k
  | cons p ps ih =>
    intro ks sure k hp
    cases ks with
    | nil => exact k
    | cons b ks =>
      refine ih ?_ fun q hq => hp q (by simp [hq])
      cases b
      · exact k
      · simp only [if_true]
        by_cases e : p.file = 0
        · rw [e, upd_same]
          exact k.doP (hp p (by simp)) e
        · rw [upd_ne _ _ (Ne.symm e)]; exact k
structure SureInv (was : List UInt8) (S : DS) (t : List Bool) (least : Nat) : Prop where
  fuse : S.fuse = 0
  down : S.down = false
  sure : S.sure 0 = was
  len : t.length = was.length
  le : least ≤ was.length
  ps : ∀ p ∈ S.ps, pieceOk t least p
theorem chunks_in (f : Nat) : ∀ (k at_ : Nat) (l : List UInt8), l.length ≤ k → ∀ p ∈ chunks f k at_ l, at_ ≤ p.at_ ∧ p.at_ + p.b.length ≤ at_ + l.length := by
  intro k
  induction k with
  | zero => intro at_ l _ p hp; simp [chunks] at hp
  | succ k ih =>
    intro at_ l h p hp
    cases l with
    | nil => simp [chunks] at hp
    | cons x r =>
      simp only [chunks, List.mem_cons] at hp
      rcases hp with rfl | hp
      · refine ⟨Nat.le_refl _, ?_⟩
        dsimp only
        rw [List.length_take]; omega
      · have := ih _ _ (by rw [List.length_drop]; simp only [List.length_cons] at h ⊢; omega) p hp
        rw [List.length_drop] at this
        simp only [List.length_cons] at this h ⊢
        omega
theorem SureInv.write {was : List UInt8} {S : DS} {t t2 : List Bool} {least i p : Nat} {b : List UInt8} (I : SureInv was S t least) (hl : t2.length = t.length) (ht : ∀ k, t2.getD k false = true → t.getD k false = true)
    (h0 : i = 0 → ∀ k, p ≤ k → k < p + b.length → t2.getD k false = false) : SureInv was { S.writes i p b with calls := S.calls + 1 } t2 least := by
  refine ⟨I.fuse, I.down, I.sure, hl.trans I.len, I.le, fun q hq => ?_⟩
  rcases List.mem_append.1 (show q ∈ S.ps ++ chunks i b.length p b from hq) with hq | hq
  · exact (I.ps q hq).mono (Nat.le_refl _) ht
  · intro hf
    obtain ⟨k1, k2, k3⟩ := chunks_file _ _ _ _ q hq
    obtain ⟨k4, k5⟩ := chunks_in _ _ _ _ (Nat.le_refl _) q hq
    exact ⟨fun hc => (by rw [k2] at hc; cases hc), fun _ j h1 h2 _ => h0 (k1.symm.trans hf) j (by omega) (by omega)⟩
theorem SureInv.cut {was : List UInt8} {S : DS} {t : List Bool} {least l2 i k : Nat} (I : SureInv was S t least) (hl : l2 ≤ least) (h0 : i = 0 → l2 ≤ k) : SureInv was { S.done ⟨i, true, k, []⟩ with calls := S.calls + 1 } t l2 := by
  refine ⟨I.fuse, I.down, I.sure, I.len, Nat.le_trans hl I.le, fun q hq => ?_⟩
  rcases List.mem_append.1 (show q ∈ S.ps ++ [_] from hq) with hq | hq
  · exact (I.ps q hq).mono hl (fun _ h => h)
  · simp only [List.mem_cons, List.not_mem_nil, or_false] at hq
    subst hq
    intro hf
    exact ⟨fun _ => h0 hf, fun hc => (by cases hc)⟩
end Go.Proofs.YtfbddbpbifnhfaaGreatDoor.Dk

/- Contracts taken from disk (written by port.py). -/
namespace Go.Proofs.YtfbddbpbifnhfaaGreatDoor.Dk
open Go.Abs
def rpC (p : Pc) (a : Option Addr) : List Value := [.int .i64 (p.file : Nat), .bool p.cut, .int .i64 (p.at_ : Nat), .slice a p.b.length p.b.length]
def rpsC : List Pc → List (Option Addr) → List Value
  | p :: ps, a :: q => rpC p a ++ rpsC ps q
  | _, _ => []
theorem rpsC_snoc : ∀ (ps : List Pc) (pa : List (Option Addr)) (p : Pc) (a : Option Addr), pa.length = ps.length → rpsC (ps ++ [p]) (pa ++ [a]) = rpsC ps pa ++ rpC p a
  | [], [], p, a, _ => by simp [rpsC]
  | q :: ps, b :: pa, p, a, h => by simp [rpsC, rpsC_snoc ps pa p a (by simpa using h)]
  | [], _ :: _, _, _, h => by simp at h
  | _ :: _, [], _, _, h => by simp at h
theorem rpsC_at : ∀ (ps : List Pc) (pa : List (Option Addr)) (i : Nat) (p : Pc), pa.length = ps.length → ps[i]? = some p → ∀ j v, (rpC p (pa.getD i none))[j]? = some v → (rpsC ps pa)[i * 4 + j]? = some v
  | [], _, i, p, _, h => by simp at h
  | q :: ps, [], i, p, hl, h => by simp at hl
  | q :: ps, b :: pa, 0, p, hl, h => by
    simp only [List.getElem?_cons_zero, Option.some.injEq] at h
    subst h
    intro j v hv
    have hj : j < 4 := (List.getElem?_eq_some_iff.1 hv).1
    rw [rpsC, List.getElem?_append_left (by show 0 * 4 + j < 4; omega)]
    simpa using hv
  | q :: ps, b :: pa, i + 1, p, hl, h => by
    intro j v hv
    have := rpsC_at ps pa i p (by simpa using hl) (by simpa using h) j v (by simpa using hv)
    rw [rpsC, List.getElem?_append_right (by show 4 ≤ _; omega)]
    rw [show (i + 1) * 4 + j - (rpC q b).length = i * 4 + j by show (i + 1) * 4 + j - 4 = _; omega]
    exact this
def rfC (sa : Nat → Option Addr) (ol ka : Option Addr) (S : DS) : List Value := [.slice (sa 0) (S.sure 0).length (S.sure 0).length, .slice (sa 1) (S.sure 1).length (S.sure 1).length, .slice ol S.ps.length S.ps.length, .int .i64 S.fuse, .slice ka S.keep.length S.keep.length, .int .i64 S.calls, .bool S.down]
def rfG (sa : Nat → Option Addr) (ka : Option Addr) (pa : List (Option Addr)) : List (Option Addr) := sa 0 :: sa 1 :: ka :: pa
structure RfR (h : AH) (n r : Nat) (sa : Nat → Option Addr) (ol ka : Option Addr) (pa : List (Option Addr)) (S : DS) : Prop where
  lt : r < n
  inf : h.info r = some ⟨7, 0, true, 0⟩
  cs : ∀ i v, (rfC sa ol ka S)[i]? = some v → h.cell r i = v
  su : ∀ i, i < 2 → SlB h n (sa i) (S.sure i)
  lo : OwnSl h 0 n ol 4 S.ps.length (rpsC S.ps pa)
  ks : SlT h n ka S.keep
  dat : ∀ i p, S.ps[i]? = some p → SlB h n (pa.getD i none) p.b
  len : pa.length = S.ps.length
  rl : apd r ol
  sep : ∀ x, x ∈ rfG sa ka pa → apd r x ∧ apt ol x
  gl : ∀ x, x ∈ rfG sa ka pa → x ≠ none → sb x < n
def RkF (r : Nat) (ol : Option Addr) (b : Nat) : Prop := b = r ∨ inA ol b
def RkG (sa : Nat → Option Addr) (ka : Option Addr) (pa : List (Option Addr)) (b : Nat) : Prop := ∃ x, x ∈ rfG sa ka pa ∧ inA x b
def Rk (h : AH) (n r : Nat) (F G : Nat → Prop) (S : DS) : Prop := DSOk S ∧ ∃ sa ol ka pa, F = RkF r ol ∧ G = RkG sa ka pa ∧ RfR h n r sa ol ka pa S
def RkTo (n r : Nat) (F G : Nat → Prop) (h : AH) (S : DS) (n' : Nat) (h' : AH) : Prop :=
  ∃ F' G', Rk h' n' r F' G' S ∧ (∀ b, b < n → F' b → F b) ∧ (∀ b, b < n → G' b → G b) ∧ ExtW F n h h'
section
variable {h h1 h2 : AH} {n n1 n2 r : Nat} {sa sa' : Nat → Option Addr} {ol ol' ka ka' : Option Addr} {pa pa' : List (Option Addr)} {S S' : DS}
theorem gmem_sa {i : Nat} (hi : i < 2) : sa i ∈ rfG sa ka pa := by
  rcases (show i = 0 ∨ i = 1 by omega) with rfl | rfl <;> simp [rfG]
theorem gmem_ka : ka ∈ rfG sa ka pa := by simp [rfG]
theorem RfR.gmem (R : RfR h n r sa ol ka pa S) {i : Nat} {p : Pc} (hp : S.ps[i]? = some p) : pa.getD i none ∈ rfG sa ka pa := by
  have hi : i < pa.length := by rw [R.len]; exact (List.getElem?_eq_some_iff.1 hp).1
  have e2 : pa.getD i none = pa[i] := by simp [List.getD, hi]
  rw [e2]; simp [rfG]
theorem RfR.extW {W : Nat → Prop} (R : RfR h n r sa ol ka pa S) (e : ExtW W n h h1) (hn : n ≤ n1) (hF : ∀ b, RkF r ol b → ¬ W b) (hG : ∀ b, RkG sa ka pa b → ¬ W b) : RfR h1 n1 r sa ol ka pa S := by
  have hr := hF r (.inl rfl)
  have hg : ∀ x, x ∈ rfG sa ka pa → x ≠ none → ¬ W (sb x) := fun x hx hne => hG _ ⟨x, hx, hne, rfl⟩
  refine ⟨by have := R.lt; omega, by rw [e.info r R.lt hr]; exact R.inf, fun i v hv => by rw [e.cell r i R.lt hr]; exact R.cs i v hv, fun i hi => (R.su i hi).extW e hn (hg _ (gmem_sa hi)), R.lo.extW e hn (Nat.le_refl _) (fun q => hF _ (.inr ⟨q, rfl⟩)), R.ks.extW e hn (hg _ gmem_ka),
    fun i p hp => (R.dat i p hp).extW e hn (hg _ (R.gmem hp)), R.len, R.rl, R.sep, fun x hx q => Nat.lt_of_lt_of_le (R.gl x hx q) hn⟩
theorem RfR.ext (R : RfR h n r sa ol ka pa S) (e : Ext n h h1) (hn : n ≤ n1) : RfR h1 n1 r sa ol ka pa S := R.extW (W := fun _ => False) (ExtW.of e (Nat.le_refl _)) hn (fun _ _ q => q) (fun _ _ q => q)
theorem RfR.ltF (R : RfR h n r sa ol ka pa S) : ∀ b, RkF r ol b → b < n := by
  rintro b (rfl | ⟨hne, rfl⟩)
  · exact R.lt
  · exact (R.lo.at'.resolve_left hne).2
theorem RfR.rest (R : RfR h n r sa ol ka pa S) (hX : ExtX n ol h h2) (hn : n ≤ n2) : (∀ i, i < 2 → SlB h2 n2 (sa i) (S.sure i)) ∧ SlT h2 n2 ka S.keep ∧ ∀ i p, S.ps[i]? = some p → SlB h2 n2 (pa.getD i none) p.b := by
  have go : ∀ {z m : Nat} {x : Option Addr} {f : Nat → Value}, x ∈ rfG sa ka pa → SlR h n x z m f → SlR h2 n2 x z m f := fun {z m x f} hx s => by
    refine (SlR.extX s hX ?_).ext (Ext.refl _ _) hn
    rcases (R.sep x hx).2 with k | k | k
    · exact .inl k
    · exact .inr (.inl k)
    · exact .inr (.inr (Ne.symm k))
  exact ⟨fun i hi => go (gmem_sa hi) (R.su i hi), go gmem_ka R.ks, fun i p hp => go (R.gmem hp) (R.dat i p hp)⟩
theorem RfR.put {j : Nat} {v : Value} (R : RfR h n r sa ol ka pa S) (hX : ExtX n ol h h2) (hn : n ≤ n2) (hc : rfC sa' ol' ka' S' = (rfC sa ol ka S).set j v) (hj : j < 7)
    (hsu : ∀ i, i < 2 → SlB h2 n2 (sa' i) (S'.sure i)) (hlo : OwnSl h2 0 n2 ol' 4 S'.ps.length (rpsC S'.ps pa')) (hks : SlT h2 n2 ka' S'.keep) (hdat : ∀ i p, S'.ps[i]? = some p → SlB h2 n2 (pa'.getD i none) p.b) (hlen : pa'.length = S'.ps.length)
    (hol : ol' = ol ∨ ol' = none ∨ n ≤ sb ol') (hg : ∀ x, x ∈ rfG sa' ka' pa' → x ∈ rfG sa ka pa ∨ x = none ∨ (sb x < n2 ∧ apd r x ∧ apt ol' x)) :
    RfR (h2.app (.sets r j [v])) n2 r sa' ol' ka' pa' S' := by
  have hlt := R.lt
  have hrl : apd r ol' := apd_new R.rl hlt hol
  have hsep : ∀ x, x ∈ rfG sa' ka' pa' → apd r x ∧ apt ol' x := fun x hx => by
    rcases hg x hx with k | k | k
    · exact ⟨(R.sep x k).1, apt_new (R.sep x k).2 (R.gl x k) hol⟩
    · exact ⟨.inl k, .inr (.inl k)⟩
    · exact k.2
  have sl : ∀ {z m : Nat} {x : Option Addr} {f : Nat → Value}, x ∈ rfG sa' ka' pa' → SlR h2 n2 x z m f → SlR (h2.app (.sets r j [v])) n2 x z m f := fun {z m x f} hx s =>
    s.extW (W := fun b => b = r) (ExtW.appSets (.inl rfl) (ExtW.refl _ _ _)) (Nat.le_refl _) (fun e q => ((hsep x hx).1.resolve_left e) q.symm)
  have gm : ∀ {i : Nat} {p : Pc}, S'.ps[i]? = some p → pa'.getD i none ∈ rfG sa' ka' pa' := fun {i p} hp => by
    have hi : i < pa'.length := by rw [hlen]; exact (List.getElem?_eq_some_iff.1 hp).1
    have e2 : pa'.getD i none = pa'[i] := by simp [List.getD, hi]
    rw [e2]; simp [rfG]
  refine ⟨by omega, i_sets (i_extX hX hlt R.rl R.inf), fun i w hw => ?_, fun i hi => sl (gmem_sa hi) (hsu i hi), hlo.setsN (hrl.imp id Ne.symm), sl gmem_ka hks, fun i p hp => sl (gm hp) (hdat i p hp), hlen, hrl, hsep, fun x hx q => ?_⟩
  · rw [hc] at hw
    by_cases e : i = j
    · subst e
      rw [List.getElem?_set_self (by show i < 7; exact hj)] at hw
      cases hw
      exact c_in (Nat.le_refl _) (by simp)
    · rw [List.getElem?_set_ne (Ne.symm e)] at hw
      exact cellT hX R.rl hlt e (R.cs i w hw)
  · rcases hg x hx with k | k | k
    · exact Nat.lt_of_lt_of_le (R.gl x k q) hn
    · exact absurd k q
    · exact k.1
end
section
variable {h h1 h2 : AH} {n n1 n2 r : Nat} {F G F1 G1 : Nat → Prop} {S S1 S2 : DS}
theorem Rk.lt (D : Rk h n r F G S) : r < n := by
  obtain ⟨_, sa, ol, ka, pa, _, _, R⟩ := D
  exact R.lt
theorem Rk.ltF (D : Rk h n r F G S) : ∀ b, F b → b < n := by
  obtain ⟨_, sa, ol, ka, pa, rfl, _, R⟩ := D
  exact R.ltF
theorem Rk.ltG (D : Rk h n r F G S) : ∀ b, G b → b < n := by
  obtain ⟨_, sa, ol, ka, pa, _, rfl, R⟩ := D
  rintro b ⟨x, hx, hne, rfl⟩
  exact R.gl x hx hne
theorem Rk.inF (D : Rk h n r F G S) : F r := by
  obtain ⟨_, sa, ol, ka, pa, rfl, _, R⟩ := D
  exact .inl rfl
theorem Rk.ok (D : Rk h n r F G S) : DSOk S := D.1
theorem Rk.extW {W : Nat → Prop} (D : Rk h n r F G S) (e : ExtW W n h h1) (hn : n ≤ n1) (hF : ∀ b, F b → ¬ W b) (hG : ∀ b, G b → ¬ W b) : Rk h1 n1 r F G S := by
  obtain ⟨ok, sa, ol, ka, pa, rfl, rfl, R⟩ := D
  exact ⟨ok, sa, ol, ka, pa, rfl, rfl, R.extW e hn hF hG⟩
theorem Rk.ext (D : Rk h n r F G S) (e : Ext n h h1) (hn : n ≤ n1) : Rk h1 n1 r F G S := by
  obtain ⟨ok, sa, ol, ka, pa, rfl, rfl, R⟩ := D
  exact ⟨ok, sa, ol, ka, pa, rfl, rfl, R.ext e hn⟩
theorem Rk.to (D : Rk h n r F G S) : RkTo n r F G h S n h := ⟨F, G, D, fun _ _ q => q, fun _ _ q => q, ExtW.refl _ _ _⟩
theorem Rk.cell (D : Rk h n r F G S) : ∃ sa ol ka, ∀ i v, (rfC sa ol ka S)[i]? = some v → h.cell r i = v := by
  obtain ⟨_, sa, ol, ka, pa, _, _, R⟩ := D
  exact ⟨sa, ol, ka, R.cs⟩
theorem RkTo.mk {sa sa' : Nat → Option Addr} {ol ol' ka ka' : Option Addr} {pa pa' : List (Option Addr)} (ok : DSOk S) (R : RfR h1 n1 r sa' ol' ka' pa' S) (ho : ol' = ol ∨ ol' = none ∨ n ≤ sb ol') (hg : ∀ x, x ∈ rfG sa' ka' pa' → x ∈ rfG sa ka pa ∨ x = none ∨ n ≤ sb x) (e : ExtW (RkF r ol) n h h1) :
    RkTo n r (RkF r ol) (RkG sa ka pa) h S n1 h1 := by
  refine ⟨_, _, ⟨ok, sa', ol', ka', pa', rfl, rfl, R⟩, ?_, ?_, e⟩
  · rintro b hb (rfl | ⟨hne, rfl⟩)
    · exact .inl rfl
    · rcases ho with k | k | k
      · exact .inr ⟨by rw [← k]; exact hne, by rw [k]⟩
      · exact absurd k hne
      · omega
  · rintro b hb ⟨x, hx, hne, rfl⟩
    rcases hg x hx with k | k | k
    · exact ⟨x, k, hne, rfl⟩
    · exact absurd k hne
    · omega
theorem RkTo.trans (a : ExtW F n h h1) (hF : ∀ b, b < n → F1 b → F b) (hG : ∀ b, b < n → G1 b → G b) (hn : n ≤ n1) (b : RkTo n1 r F1 G1 h1 S n2 h2) : RkTo n r F G h S n2 h2 := by
  obtain ⟨F2, G2, D, f, g, e⟩ := b
  exact ⟨F2, G2, D, fun b hb q => hF b hb (f b (by omega) q), fun b hb q => hG b hb (g b (by omega) q), a.trans e hn hF⟩
end
end Go.Proofs.YtfbddbpbifnhfaaGreatDoor.Dk

/- Contracts taken from disk (written by port.py). -/
namespace Go.Proofs.YtfbddbpbifnhfaaGreatDoor.Dk
open Go.Abs
section
variable {h h1 h2 : AH} {n n1 n2 r : Nat} {sa : Nat → Option Addr} {ol ka : Option Addr} {pa : List (Option Addr)} {S : DS}
theorem splice_step (t : List UInt8) (at_ : Nat) (b : List UInt8) (i : Nat) (hi : i < b.length) (h : at_ + b.length ≤ t.length) : (splice t at_ (b.take i)).set (at_ + i) (b.getD i 0) = splice t at_ (b.take (i + 1)) := by
  have l1 : (b.take i).length = i := by rw [List.length_take]; omega
  have l2 : (b.take (i + 1)).length = i + 1 := by rw [List.length_take]; omega
  have s1 := splice_length t at_ (b.take i) (by omega)
  have s2 := splice_length t at_ (b.take (i + 1)) (by omega)
  apply ext_getD
  · rw [List.length_set, s1, s2]
  · intro j _
    rw [getD_splice _ _ _ (by omega), l2]
    have e0 : ∀ k, k < i + 1 → (b.take (i + 1)).getD k 0 = b.getD k 0 := fun k hk => by simp only [List.getD]; rw [List.getElem?_take, if_pos hk]
    by_cases e : j = at_ + i
    · subst e
      rw [if_pos (by omega), show at_ + i - at_ = i by omega, e0 i (by omega)]
      simp only [List.getD]
      rw [List.getElem?_set_self (by omega)]; rfl
    · have : ((splice t at_ (b.take i)).set (at_ + i) (b.getD i 0)).getD j 0 = (splice t at_ (b.take i)).getD j 0 := by
        simp only [List.getD]; rw [List.getElem?_set_ne (Ne.symm e)]
      rw [this, getD_splice _ _ _ (by omega), l1]
      by_cases h1 : at_ ≤ j ∧ j < at_ + i
      · rw [if_pos h1, if_pos (by omega), e0 _ (by omega)]
        simp only [List.getD]; rw [List.getElem?_take, if_pos (by omega)]
      · rw [if_neg h1, if_neg (by omega)]
set_option maxHeartbeats 4000000 in
theorem rdone_rf (l : List UInt8) (p : Pc) (c e : Option Addr) (n : Nat) (h : AH) (hl : l.length ≤ 4194304) (hp : PcOk p) (hS : SlB h n c l) (hB : SlB h n e p.b) (hn : 0 < n) :
    RF Tryz.prog none' 39 #[.slice c l.length l.length, .agg (rpC p e).toArray] n h (fun r n' h' => ∃ a', r = .slice a' (doP l p).length (doP l p).length ∧ Ext n h h' ∧ SlB h' n' a' (doP l p) ∧ (a' = none ∨ n ≤ sb a')) := by
  refine RF.of Tryz.func39 rfl rfl (Nat.le_of_ble_eq_true rfl) ?_; dsimp only [argEnv]
  have E0 : Ext n h (h.app (.new n ⟨4, 0, true, 0⟩ (rpC p e))) := ext
  have hS0 := hS.ext E0 (Nat.le_succ n)
  repeat' (first | refine stpS ?_ | (refine stp2 ?_ ?_ <;> intro _))
  refine RS.append rfl opd opd (OwnSl.nil (h := h.app (.new n ⟨4, 0, true, 0⟩ (rpC p e))) (n0 := n + 1) (n := n + 1) (z := 1) (Nat.le_refl _)) (SlB.src hS0) full_slice (fun b hb => Or.inr (by omega)) (by omega) ?_
  intro a1 n1 h1 hle hO hX hnew
  have hE := hX.ext (OwnSl.nil (h := h.app (.new n ⟨4, 0, true, 0⟩ (rpC p e))) (n0 := n + 1) (n := n + 1) (z := 1) (Nat.le_refl _))
  simp only [Nat.zero_add, List.nil_append] at hO ⊢
  have b1 : h1.cell n 1 = .bool p.cut := c_ext hE (by omega) cell
  have b2 : h1.cell n 2 = .int .i64 (p.at_ : Nat) := c_ext hE (by omega) cell
  have b3 : h1.cell n 3 = .slice e p.b.length p.b.length := c_ext hE (by omega) cell
  have hE1 : Ext n h h1 := E0.trans (Nat.le_succ n) hE
  have hat := hO.at'
  cases hcut : p.cut
  · rw [hcut] at b1
    have hde : doP l p = splice (l ++ List.replicate (p.at_ + p.b.length - l.length) 0) p.at_ p.b := by unfold doP; rw [hcut]; rfl
    have hsm := (hp.some hcut).2
    rw [hde]
    repeat' (first | refine stpS ?_ | (refine stp2 ?_ ?_ <;> intro _))
    refine RC.loop ?_
    refine RL.inv (α := Nat × Option Addr) (fun s => [(5, .slice s.2 (l.length + s.1) (l.length + s.1)), (3, .pointer (some ⟨n, 0, none⟩))])
      (fun s n2 h2 => s.1 ≤ p.at_ + p.b.length - l.length ∧ n1 ≤ n2 ∧ Ext (n + 1) h1 h2 ∧ OwnSl h2 (n + 1) n2 s.2 1 (l.length + s.1) (bytesV (l ++ List.replicate s.1 0))) (fun s => p.at_ + p.b.length - l.length - s.1) (0, a1) envs ⟨by omega, Nat.le_refl _, Ext.refl _ _, by simpa using hO⟩ ?_
    rintro ⟨k, a2⟩ n2 h2 ⟨hk, hn2, hE2, hO2⟩
    dsimp only at hk hO2 ⊢
    have d2 := c_ext hE2 (by omega) b2
    have d3 := c_ext hE2 (by omega) b3
    by_cases hlt : l.length + k < p.at_ + p.b.length
    · repeat' (first | refine stpS ?_ | (refine stp2 ?_ ?_ <;> intro _))
      have hone : OwnSl (h2.app (.new n2 ⟨1, 0, true, 1⟩ [.int .u8 0])) n2 (n2 + 1) (some ⟨n2, 0, none⟩) 1 1 [.int .u8 0] := OwnSl.new1 (h := h2) (m := 1) (cs := [.int .u8 0]) (Nat.le_refl n2) rfl rfl
      refine RS.append rfl opd opd (hO2.ext (n1 := n2 + 1) ext (by omega)) hone.src full_slice (fun b hb => Or.inr (by omega)) (by omega) ?_
      intro a3 n3 h3 hle3 hO3 hX3 hnew3
      have hE3 := hX3.ext (hO2.ext (n1 := n2 + 1) (h1 := h2.app (.new n2 ⟨1, 0, true, 1⟩ [.int .u8 0])) ext (by omega))
      repeat' (first | refine stpS ?_ | (refine stp2 ?_ ?_ <;> intro _))
      refine nextC.normal ⟨(k + 1, a3), by dsimp only; omega, envs, by dsimp only; omega, by omega, ext, ?_⟩
      dsimp only
      rw [show bytesV (l ++ List.replicate (k + 1) 0) = bytesV (l ++ List.replicate k 0) ++ [.int .u8 0] by rw [List.replicate_succ']; simp [bytesV]]
      exact hO3
    · have hke : k = p.at_ + p.b.length - l.length := by omega
      have hml : l.length + k = (l ++ List.replicate (p.at_ + p.b.length - l.length) (0 : UInt8)).length := by simp; omega
      rw [← hke] at hml ⊢
      have hge : p.at_ + p.b.length ≤ (l ++ List.replicate k (0 : UInt8)).length := by omega
      have hle2 : (l ++ List.replicate k (0 : UInt8)).length ≤ 4194304 := by rw [← hml]; omega
      rw [hml] at hO2 ⊢
      generalize l ++ List.replicate k (0 : UInt8) = t at *
      repeat' (first | refine stpS ?_ | (refine stp2 ?_ ?_ <;> intro _))
      refine RC.loop ?_
      refine RL.inv (α := Nat) (fun s => [(6, .int .i64 (s : Nat)), (5, .slice a2 t.length t.length), (3, .pointer (some ⟨n, 0, none⟩))])
        (fun s n3 h3 => s ≤ p.b.length ∧ n2 ≤ n3 ∧ Ext (n + 1) h1 h3 ∧ OwnSl h3 (n + 1) n3 a2 1 t.length (bytesV (splice t p.at_ (p.b.take s)))) (fun s => p.b.length - s) 0 envs ⟨by omega, Nat.le_refl _, hE2, by simpa [splice] using hO2⟩ ?_
      clear hE2 hO2 d2 d3
      rintro i n3 h3 ⟨hi, hn3, hE3, hO3⟩
      have d2 := c_ext hE3 (by omega) b2
      have d3 := c_ext hE3 (by omega) b3
      by_cases hlt3 : i < p.b.length
      · obtain ⟨ho, hlo, hhi, hI, hA, hC⟩ := hO3.facts (by omega)
        have hSe : SlB h3 n3 e p.b := hB.ext (hE1.trans (by omega) (hE3.mono (by omega) : Ext n h1 h3)) (by omega)
        have hel : sb e < n3 := hSe.lt (by omega)
        have hel2 : sb e < n := hB.lt (by omega)
        repeat' (first | refine stpS ?_ | (refine stp2 ?_ ?_ <;> intro _))
        repeat' (first | refine stp ?_ | (refine stp2 ?_ ?_ <;> intro _))
        have hto : ((p.at_ : Int) + (i : Int)).toNat = p.at_ + i := by omega
        rw [hto, Int.toNat_natCast, bytesF]
        have hO4 := OwnSl.setI hO3 (i := p.at_ + i) (x := ((p.b.getD i 0).toNat : Int)) (by omega) (by omega) (by have := (p.b.getD i 0).toNat_lt; omega)
        rw [show UInt8.ofNat ((p.b.getD i 0).toNat : Int).toNat = p.b.getD i 0 by rw [Int.toNat_natCast]; simp, splice_step t p.at_ p.b i hlt3 hge] at hO4
        refine nextC.normal ⟨i + 1, by omega, envs, by omega, hn3, ext, hO4⟩
      · have hie : i = p.b.length := by omega
        subst hie
        rw [List.take_length] at hO3
        have hsl := splice_length t p.at_ p.b hge
        repeat' (first | refine stpS ?_ | (refine stp2 ?_ ?_ <;> intro _))
        exact ⟨a2, by rw [hsl], hE1.trans (by omega) (hE3.mono (by omega) : Ext n h1 h3), hO3.slbE, hO3.at'.imp id (by omega)⟩
  · rw [hcut] at b1
    have hde : doP l p = l.take p.at_ := by unfold doP; rw [hcut]; rfl
    have hat2 := hp.size hcut
    have hS1 : SlB h1 n1 a1 l := hO.slbE
    rw [hde]
    repeat' (first | refine stpS ?_ | (refine stp2 ?_ ?_ <;> intro _))
    have e1 : (min (p.at_ : Int) (l.length : Int)).toNat = min p.at_ l.length := by omega
    have hS2 := hS1.take (u := min p.at_ l.length) (by omega)
    rw [take_min] at hS2
    exact ⟨a1, by rw [e1, List.length_take], hE1, hS2, hat.imp id (by omega)⟩
end
end Go.Proofs.YtfbddbpbifnhfaaGreatDoor.Dk

/- Contracts taken from disk (written by port.py). -/
namespace Go.Proofs.YtfbddbpbifnhfaaGreatDoor.Dk
open Go.Abs
variable {P : Program} {T : Nat → Prop} {ops : Array Oper} {os : List Oper} {env : Env} {n : Nat} {h : AH} {Q : Env → Nat → AH → Prop} {ty : TypeId} {pos : String} {after : Array Edge} {gd : Option (Nat × Bool)}
theorem RD.appendT {q : Tmp} {t t2 e : TypeId} {d d2 : TypeDesc} {z by_ : Nat} {zv : Value} {x y : Operand} {a : Option Addr} {n0 m k : Nat} {v : Value} {xs cs : List Value} {ps : List Ft} [hu : Uc P t (.slice e)] [hz : Tc P e d z by_ zv] [hu2 : Uc P t2 d2] (nb : Nat)
    (hw : wants ops ⟨some q, .call { callee := .builtin .append, args := #[x, y], argTypes := #[t, t2] }, ty, pos, after, gd⟩ env = some true) (hx : Opd env x (.slice a m m)) (hy : Opd env y v) (hO : OwnSl h n0 nb a z m cs) (hs : Src (h.below nb) z v k xs) (hf : full v k)
    (hT : a ≠ none → T (sb a)) (hbig : (m + k) * by_ ≤ 140737488355328) (hnb : nb ≤ n) (hc : CF ops ps.length (· < nb) (inA a) ps.length ps)
    (K : ∀ a' n1 h1, n ≤ n1 → OwnSl h1 n0 n1 a' z (m + k) (cs ++ xs) → ExtX n a h h1 → (a' = a ∨ n ≤ sb a') → RD P T ops (⟨(· < nb), inA a, n, n1⟩ :: ps) os ((q, .slice a' (m + k) (m + k)) :: env) n1 h1 Q)
    (c1 : Nat.beq z 0 = false := by rfl) (c2 : zv.cells.size = z := by rfl) (c3 : Nat.beq by_ 0 = false := by rfl) (c4 : notIntD d2 = true := by rfl) :
    RD P T ops ps (⟨some q, .call { callee := .builtin .append, args := #[x, y], argTypes := #[t, t2] }, ty, pos, after, gd⟩ :: os) env n h Q := by
  have hz0 : z ≠ 0 := fun h => by subst h; simp at c1
  have hb0 : by_ ≠ 0 := fun h => by subst h; simp at c3
  have he : EL P t t2 z by_ := ⟨e, d, zv, d2, hu.out, hz.out, hz0, c2, hb0, hu2.out, c4⟩
  have hlx := hs.length
  have hkx := hs.known
  have hle0 := hO.le
  have happ : ∀ (l m : List Value), known l = true → known m = true → known (l ++ m) = true := by
    intro l m hl hm
    induction l with
    | nil => exact hm
    | cons v l ih => cases v <;> simp_all [known]
  by_cases hk0 : k = 0
  · subst hk0
    have : xs = [] := List.eq_nil_of_length_eq_zero (by simpa using hlx)
    subst this
    refine RD.op (· < nb) (inA a) hw (o_append0 he hx hy hs hf) (AH.below_le _ _) (fun _ hx => AH.below_looks hx) (fun _ hb => Nat.lt_of_lt_of_le hb hnb) (fun b hb => (Dl.touches_nil hb).elim) hc (h1 := h) (by rw [AH.app_nil]; exact .refl _) ?_
    exact K a n h (Nat.le_refl _) (by simpa using hO.ext (Ext.refl _ _) hnb) (fun _ _ _ => ⟨rfl, fun _ => rfl⟩) (.inl rfl)
  · rcases hO.or with ⟨k1, k2⟩ | ⟨k1, k2, k3, k4, k5⟩
    · subst k1; subst k2
      have : cs = [] := List.eq_nil_of_length_eq_zero (by have := hO.len; omega)
      subst this
      simp only [Nat.zero_add, List.nil_append] at K hbig
      refine RD.op (· < nb) (inA none) hw (o_appendNil he hx hy hs hf hk0 hbig) (AH.below_le _ _) (fun _ hx => AH.below_looks hx) (fun _ hb => Nat.lt_of_lt_of_le hb hnb) (fun b hb => ?_) hc (.refl _) (K _ _ _ (Nat.le_succ _) ?_ ?_ (.inr (Nat.le_refl _)))
      · rcases hb with h1 | ⟨i, h1⟩ <;> (simp only [Dl.new] at h1; split at h1) <;> first | omega | exact absurd rfl h1
      · rw [hlx]; exact .new (by omega) hlx hkx
      · exact fun x hx _ => ⟨by simp [AH.app, Dl.new, show x ≠ n by omega], fun i => by simp [AH.app, Dl.new, show x ≠ n by omega]⟩
    · have hx' := hx
      rw [k1] at hx'
      have k4' : (h.below nb).info (sb a) = some ⟨m * z, 0, true, z⟩ := i_below k3 k4
      have k5' : rd (h.below nb) (sb a) 0 (m * z) = cs := r_below k3 k5
      refine RD.op (· < nb) (inA a) hw (o_append false he hx' hy hs hf k4' k5' hO.kn (.inl (hT (by rw [k1]; simp))) (by omega) hk0 hbig) (AH.below_le _ _) (fun _ hx => AH.below_looks hx) (fun _ hb => Nat.lt_of_lt_of_le hb hnb) (fun b hb => ?_) hc (.refl _) (K _ _ _ (Nat.le_succ _) ?_ ?_ (.inr (Nat.le_refl _)))
      · by_cases e1 : b = sb a
        · exact .inl ⟨by rw [k1]; simp, e1⟩
        · by_cases e2 : b = n
          · exact .inr (by omega)
          · exfalso
            rcases hb with h1 | ⟨i, h1⟩
            · simp [Dl.takeover, e1, e2] at h1
            · simp [Dl.takeover, e1, e2] at h1
      · have hl2 : (cs ++ xs).length = (m + k) * z := by rw [List.length_append, hO.len, hlx, Nat.add_mul]
        refine ⟨by omega, hl2, happ _ _ hO.kn hkx, .inr ⟨rfl, by show n0 ≤ n; omega, by show n < n + 1; omega, ?_, ?_⟩⟩
        · have := i_take (h := h) (b := sb a) (n := n) (sz := m * z) (lk := 0) (ez := z) (keep := false) (cs := cs ++ xs)
          rw [hl2] at this; exact this
        · exact r_take hl2.symm
      · intro x hx hne
        have hne' : x ≠ sb a := by
          rcases hne with h | h
          · rw [h] at k1; cases k1
          · exact h
        exact ⟨by simp [AH.app, Dl.takeover, show x ≠ n by omega, hne'], fun i => by simp [AH.app, Dl.takeover, show x ≠ n by omega, hne']⟩
end Go.Proofs.YtfbddbpbifnhfaaGreatDoor.Dk
