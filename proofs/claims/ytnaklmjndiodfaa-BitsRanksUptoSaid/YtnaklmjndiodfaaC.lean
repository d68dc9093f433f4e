/- Contracts of bits' functions: bits of truths, bits with one changed. -/
import Derived.Test.YtnaklmjndiodfaaB
namespace Go.Proofs.Ytnaklmjndiodfaa
open Go.Abs

set_option maxHeartbeats 4000000 in
theorem refList_rf (N : Int) (l : List UInt8) (a : Option Addr) (m n : Nat) (h : AH) (S : SlB h n a l) (e : m = l.length) (hm : m ≤ 1099511627776) :
    RF Try.prog none' 22 #[.agg #[.int .i64 N, .slice a m m]] n h (fun r n' h' => ∃ a', r = .slice a' (truths N l).length (truths N l).length ∧ Ext n h h' ∧ OwnSl h' n n' a' 1 (truths N l).length (boolsV (truths N l))) := by
  subst e
  have hp := plc_le N l.length
  refine RF.of Try.func22 rfl rfl (Nat.le_of_ble_eq_true rfl) ?_; dsimp only [argEnv]
  repeat' (first | refine stpS ?_ | (refine stp2 ?_ ?_ <;> intro _))
  refine RC.loop ?_
  refine RL.inv (α := Nat × Option Addr) (fun s => [(4, .int .i64 (s.1 : Nat)), (3, .slice s.2 s.1 s.1), (1, .pointer (some ⟨n, 0, none⟩))])
    (fun s n1 h1 => s.1 ≤ (plc N l.length).toNat ∧ n + 1 ≤ n1 ∧ Ext (n + 1) (h.app (.new n ⟨2, 0, true, 0⟩ [.int .i64 N, .slice a l.length l.length])) h1 ∧ OwnSl h1 (n + 1) n1 s.2 1 s.1 (boolsV ((truths N l).take s.1)))
    (fun s => (plc N l.length).toNat - s.1) (0, none) envs ⟨by omega, by omega, Ext.refl _ _, OwnSl.nil (by omega)⟩ ?_
  rintro ⟨i, a'⟩ n1 h1 ⟨hi, hn, hE, hO⟩
  dsimp only at hi hn hE hO ⊢
  repeat' (first | refine stpS ?_ | (refine stp2 ?_ ?_ <;> intro _) | refine RS.call1 rfl opds (refPlaces_ev _ _ _ _ _ (by omega)) none'W ?_ | refine RS.call1 rfl opds (refGet_ev _ _ _ _ _ _ _ (S.ext ext (by omega)) rfl (by omega)) none'W ?_)
  · rename_i hlt
    refine RS.append rfl opd opd (hO.ext ext (Nat.le_succ _)) (OwnSl.src (OwnSl.new1 (n0 := n1) (m := 1) (Nat.le_refl _) rfl rfl)) full_slice (fun b hb => Or.inr (by omega)) (by omega) ?_
    intro a2 n2 h2 hle2 hO2 hX hnew
    have hE2 := hX.ext (hO.ext ext (Nat.le_succ _))
    repeat' (first | refine stpS ?_ | (refine stp2 ?_ ?_ <;> intro _))
    refine nextC.normal ⟨(i + 1, a2), by dsimp only; omega, envs, by dsimp only; omega, by omega, ext, ?_⟩
    have e : boolsV ((truths N l).take (i + 1)) = boolsV ((truths N l).take i) ++ [.bool (getB N l i)] := by
      have h3 : i < (truths N l).length := by rw [truths_length]; omega
      have h4 : (truths N l).getD i false = (truths N l)[i] := by simp [List.getD, h3]
      unfold boolsV
      rw [List.take_succ_eq_append_getElem h3, List.map_append, getB_truths, h4]
      rfl
    dsimp only
    rw [e]; exact hO2
  · rename_i hlt
    have e : i = (truths N l).length := by rw [truths_length]; omega
    refine ⟨a', by rw [e], ext, ?_⟩
    rw [List.take_of_length_le (by omega)] at hO
    rw [← e]; exact hO.mono (by omega)
set_option maxHeartbeats 4000000 in
theorem of_rf (t : List Bool) (a : Option Addr) (m n : Nat) (h : AH) (S : SlT h n a t) (e : m = t.length) (hm : m ≤ 140737488355328) :
    RF Try.prog none' 18 #[.slice a m m] n h (BitsRes n h t) := by
  subst e
  refine RF.of Try.func18 rfl rfl (Nat.le_of_ble_eq_true rfl) ?_; dsimp only [argEnv]
  repeat' (first | refine stpS ?_ | (refine stp2 ?_ ?_ <;> intro _))
  refine RC.loop ?_
  have eK : (((t.length : Int) + 7) / 8).toNat = (t.length + 7) / 8 := by omega
  rw [eK]
  have hK : ∀ i, i ≤ t.length → (packB (curT t i)).length = (t.length + 7) / 8 := fun i hi => by rw [packB_length, curT_length _ _ hi]
  refine RL.gen (fun h0 => Ext n h h0 ∧ h0.cell (n + 1 + 1) 0 = .int .i64 t.length ∧ h0.cell (n + 1 + 1) 1 = .slice (some ⟨n + 1, 0, none⟩) ((t.length + 7) / 8) ((t.length + 7) / 8) ∧ h0.info n = some ⟨2, 0, true, 0⟩ ∧
    OwnSl h0 (n + 1) (n + 1 + 1 + 1) (some ⟨n + 1, 0, none⟩) 1 ((t.length + 7) / 8) (bytesV (packB (curT t 0)))) ⟨ext, cell, cell, info, ?_⟩ ?_
  · rw [curT_none, packB_replicate]
    simp only [bytesV, List.map_replicate]
    refine OwnSl.setsN ?_ (.inr (by show n + 1 ≠ n + 1 + 1; omega))
    exact (OwnSl.new1 (n0 := n + 1) (Nat.le_refl _) (by simp) (known_replicate _ _ rfl)).ext (Ext.appNew (Nat.le_refl _) (Ext.refl _ _)) (by omega)
  rintro h0 ⟨E0, F1, F2, F3, O0⟩
  refine RL.inv (α := Nat) (fun i => [(16, .int .i64 (i : Nat)), (15, .int .i64 t.length), (14, .slice a t.length t.length), (3, .pointer (some ⟨n + 1 + 1, 0, none⟩)), (2, .pointer (some ⟨n, 0, none⟩))])
    (fun i n1 h1 => i ≤ t.length ∧ n1 = n + 1 + 1 + 1 ∧ ExtX (n + 1 + 1 + 1) (some ⟨n + 1, 0, none⟩) h0 h1 ∧ OwnSl h1 (n + 1) (n + 1 + 1 + 1) (some ⟨n + 1, 0, none⟩) 1 ((t.length + 7) / 8) (bytesV (packB (curT t i))))
    (fun i => t.length - i) 0 envs ⟨by omega, rfl, ExtX.refl, O0⟩ ?_
  rintro i n1 h1 ⟨hi, rfl, hX, hO⟩
  have hE : Ext n h h1 := hX.to E0 (by omega) (fun x hx => .inr (by show x ≠ n + 1; omega))
  have hS := hO.slbE
  have hl := hK i hi
  by_cases hlt : i < t.length
  · have hc : h1.cell (sb a) (so a + (i : Int).toNat) = .bool (t.getD i false) := S.at hE (by omega)
    have hb : ((packB (curT t i)).getD ((i : Int) / 8).toNat 0).toNat < 256 := UInt8.toNat_lt _
    cases ht : t.getD i false
    · rw [ht] at hc
      repeat' (first | refine stp ?_ | (refine stp2 ?_ ?_ <;> intro _))
      refine nextC.normal ⟨i + 1, by omega, envs, by omega, rfl, hX, ?_⟩
      rw [curT_false hlt ht]; exact hO
    · rw [ht] at hc
      obtain ⟨ho, hlo, hhi, hI, hA, hC⟩ := hO.facts (by omega)
      have hI : h1.info (n + 1) = some ⟨(t.length + 7) / 8, 0, true, 1⟩ := by rw [Nat.mul_one] at hI; exact hI
      repeat' (first | refine stp ?_ | (refine stp2 ?_ ?_ <;> intro _))
      generalize hV : ((((packB (curT t i)).getD ((i : Int) / 8).toNat 0).toNat : Int).toNat ||| (((Int.toNat 1 <<< ((i : Int) % 8).toNat % 256 : Nat) : Int)).toNat) = V
      have e8 : ((i : Int) / 8).toNat = i / 8 := by omega
      have e9 : ((i : Int) % 8).toNat = i % 8 := by omega
      obtain ⟨hp, hv⟩ := pack_or (u := curT t i) (i := i) (by rw [curT_length _ _ hi]; exact hlt) (V := V) (by rw [← hV, e8, e9]; rfl)
      refine nextC.normal ⟨i + 1, by omega, envs, by omega, rfl, hX.sets (by intro e; cases e), ?_⟩
      have h3 := hO.set1 (i := ((i : Int) / 8).toNat) (v := .int .u8 (V : Nat)) (by omega) rfl
      rw [bytesV_set _ _ _ hv] at h3
      rw [curT_true hlt ht, hp, ← e8]
      exact h3
  · repeat' (first | refine stp ?_ | (refine stp2 ?_ ?_ <;> intro _))
    have e : i = t.length := by omega
    subst e
    rw [curT_all] at hO
    refine ⟨some ⟨n + 1, 0, none⟩, by rw [packB_length], ext, ?_⟩
    rw [packB_length]
    exact (hO.sets (by omega)).mono (by omega)
theorem getD_snocF (u : List Bool) (i : Nat) : (u ++ [false]).getD i false = u.getD i false := by
  simp only [List.getD, List.getElem?_append]
  split
  · rfl
  · rw [List.getElem?_eq_none (l := u) (by omega)]
    cases (i - u.length) <;> simp
theorem pack_snoc (u : List Bool) (h : u.length % 8 ≠ 0) : packB (u ++ [false]) = packB u := by
  symm
  apply pack_eq
  · rw [packB_length, List.length_append, List.length_singleton]; omega
  · intro i _; rw [bitAt_packB, getD_snocF]
theorem bitAt_snoc0 (l : List UInt8) (i : Nat) : bitAt (l ++ [0]) i = bitAt l i := by
  unfold bitAt
  simp only [List.getD, List.getElem?_append]
  split
  · rfl
  · rw [List.getElem?_eq_none (l := l) (by omega)]
    cases (i / 8 - l.length) <;> simp
theorem pack_snoc0 (u : List Bool) (h : u.length % 8 = 0) : packB (u ++ [false]) = packB u ++ [0] := by
  symm
  apply pack_eq
  · rw [List.length_append, packB_length, List.length_append, List.length_singleton, List.length_singleton]; omega
  · intro i _; rw [bitAt_snoc0, bitAt_packB, getD_snocF]
theorem take_succ_b (t : List Bool) (i : Nat) (h : i < t.length) : t.take (i + 1) = t.take i ++ [t.getD i false] := by
  rw [List.take_succ_eq_append_getElem h]
  simp [List.getD, h]
theorem bytesV_snoc (l : List UInt8) : bytesV (l ++ [0]) = bytesV l ++ [.int .u8 (0 : Int)] := by simp [bytesV]
theorem set_snoc (u : List Bool) (b c : Bool) (i : Nat) (h : u.length = i) : (u ++ [b]).set i c = u ++ [c] := by
  subst h; simp
set_option maxHeartbeats 4000000 in
theorem refOf_rf (t : List Bool) (a : Option Addr) (m n : Nat) (h : AH) (S : SlT h n a t) (e : m = t.length) (hm : m ≤ 1099511627776) :
    RF Try.prog none' 19 #[.slice a m m] n h (BitsRes n h t) := by
  subst e
  refine RF.of Try.func19 rfl rfl (Nat.le_of_ble_eq_true rfl) ?_; dsimp only [argEnv]
  repeat' (first | refine stpS ?_ | (refine stp2 ?_ ?_ <;> intro _))
  refine RC.loop ?_
  refine RL.gen (fun h0 => Ext n h h0 ∧ h0.info n = some ⟨2, 0, true, 0⟩ ∧ h0.info (n + 1) = some ⟨2, 0, true, 0⟩ ∧ h0.cell (n + 1) 0 = .int .i64 t.length ∧ h0.cell (n + 1) 1 = .slice none 0 0) ⟨ext, info, info, cell, cell⟩ ?_
  rintro h0 ⟨E0, F1, F2, F3, F4⟩
  have hO0 : OwnSl h0 (n + 1 + 1) (n + 1 + 1) none 1 ((0 + 7) / 8) (bytesV (packB (t.take 0))) := by
    have e : packB (t.take 0) = [] := by simp [packB]
    rw [e]; exact OwnSl.nil (Nat.le_refl _)
  refine RL.inv (α := Nat × Option Addr) (fun s => [(4, .int .i64 (s.1 : Nat)), (3, .pointer (some ⟨n + 1, 0, none⟩)), (2, .pointer (some ⟨n, 0, none⟩)), (0, .slice a t.length t.length)])
    (fun s n1 h1 => s.1 ≤ t.length ∧ n + 1 + 1 ≤ n1 ∧ Ext (n + 1) h0 h1 ∧ h1.info (n + 1) = some ⟨2, 0, true, 0⟩ ∧ h1.cell (n + 1) 0 = .int .i64 t.length ∧ h1.cell (n + 1) 1 = .slice s.2 ((s.1 + 7) / 8) ((s.1 + 7) / 8) ∧
      OwnSl h1 (n + 1 + 1) n1 s.2 1 ((s.1 + 7) / 8) (bytesV (packB (t.take s.1))))
    (fun s => t.length - s.1) (0, none) envs ⟨by omega, by omega, Ext.refl _ _, F2, F3, F4, hO0⟩ ?_
  rintro ⟨i, a'⟩ n1 h1 ⟨hi, hn, hE1, G1, G2, G3, hO⟩
  dsimp only at hi hn hE1 G1 G2 G3 hO ⊢
  have hE : Ext n h h1 := E0.trans (by omega) hE1
  have F1 : h1.info n = some ⟨2, 0, true, 0⟩ := (hE1.info n (by omega)).trans F1
  by_cases hlt : i < t.length
  · have hsa : sb a < n := S.lt (by omega)
    have hcl : (t.take i).length = i := by simp; omega
    have hc : h1.cell (sb a) (so a + (i : Int).toNat) = .bool (t.getD i false) := S.at hE (by omega)
    cases ht : t.getD i false
    · rw [ht] at hc
      by_cases h8 : (i : Int) % 8 = 0
      · repeat' (first | refine stpS ?_ | (refine stp2 ?_ ?_ <;> intro _))
        refine RS.append rfl opd opd (hO.ext ext (Nat.le_succ _)) (OwnSl.src (OwnSl.new1 (n0 := n1) (m := 1) (Nat.le_refl _) rfl rfl)) full_slice (fun b hb => Or.inr (by omega)) (by omega) ?_
        intro a2 n2 h2 hle2 hO2 hX hnew
        have hE2 := hX.ext (hO.ext ext (Nat.le_succ _))
        have em : (i + 1 + 7) / 8 = (i + 7) / 8 + 1 := by omega
        have hO2 : OwnSl h2 (n + 1 + 1) n2 a2 1 ((i + 7) / 8 + 1) (bytesV (packB (t.take i ++ [false]))) := by
          rw [pack_snoc0 _ (by rw [hcl]; omega), bytesV_snoc]; exact hO2
        have hO3 := hO2.sets (b := n + 1) (o' := 0 + 1) (vs := [.slice a2 ((i + 7) / 8 + 1) ((i + 7) / 8 + 1)]) (by omega)
        have hS3 := hO3.slbE
        have hb : ((packB (t.take i ++ [false])).getD ((i : Int) / 8).toNat 0).toNat < 256 := UInt8.toNat_lt _
        have hl3 : (packB (t.take i ++ [false])).length = ((i + 7) / 8 + 1) := by rw [packB_length, List.length_append, hcl, List.length_singleton]; omega
        obtain ⟨ho, hlo, hhi, hI, hA, hC⟩ := hO3.facts (by omega)
        rw [Nat.mul_one] at hI
        repeat' (first | refine stp ?_ | (refine stp2 ?_ ?_ <;> intro _))
        rw [show boolsF t (i : Int).toNat = .bool (t.getD i false) from rfl, ht]
        repeat' (first | refine stp ?_ | (refine stp2 ?_ ?_ <;> intro _))
        refine nextC.normal ⟨(i + 1, a2), by dsimp only; omega, envs, by dsimp only; omega, by omega, ext, info, cell, ?_, ?_⟩
        · dsimp only; rw [em]; exact cell
        · dsimp only; rw [em, take_succ_b t i hlt, ht]; exact hO3
      · have em : (i + 1 + 7) / 8 = (i + 7) / 8 := by omega
        have hO3 : OwnSl h1 (n + 1 + 1) n1 a' 1 ((i + 7) / 8) (bytesV (packB (t.take i ++ [false]))) := by
          rw [pack_snoc _ (by rw [hcl]; omega)]; exact hO
        have hS3 := hO3.slbE
        have hb : ((packB (t.take i ++ [false])).getD ((i : Int) / 8).toNat 0).toNat < 256 := UInt8.toNat_lt _
        have hl3 : (packB (t.take i ++ [false])).length = ((i + 7) / 8) := by rw [packB_length, List.length_append, hcl, List.length_singleton]; omega
        obtain ⟨ho, hlo, hhi, hI, hA, hC⟩ := hO3.facts (by omega)
        rw [Nat.mul_one] at hI
        repeat' (first | refine stp ?_ | (refine stp2 ?_ ?_ <;> intro _))
        refine nextC.normal ⟨(i + 1, a'), by dsimp only; omega, envs, by dsimp only; omega, by omega, ext, info, cell, ?_, ?_⟩
        · dsimp only; rw [em]; exact cell
        · dsimp only; rw [em, take_succ_b t i hlt, ht]; exact hO3
    · rw [ht] at hc
      by_cases h8 : (i : Int) % 8 = 0
      · repeat' (first | refine stpS ?_ | (refine stp2 ?_ ?_ <;> intro _))
        refine RS.append rfl opd opd (hO.ext ext (Nat.le_succ _)) (OwnSl.src (OwnSl.new1 (n0 := n1) (m := 1) (Nat.le_refl _) rfl rfl)) full_slice (fun b hb => Or.inr (by omega)) (by omega) ?_
        intro a2 n2 h2 hle2 hO2 hX hnew
        have hE2 := hX.ext (hO.ext ext (Nat.le_succ _))
        have em : (i + 1 + 7) / 8 = (i + 7) / 8 + 1 := by omega
        have hO2 : OwnSl h2 (n + 1 + 1) n2 a2 1 ((i + 7) / 8 + 1) (bytesV (packB (t.take i ++ [false]))) := by
          rw [pack_snoc0 _ (by rw [hcl]; omega), bytesV_snoc]; exact hO2
        have hO3 := hO2.sets (b := n + 1) (o' := 0 + 1) (vs := [.slice a2 ((i + 7) / 8 + 1) ((i + 7) / 8 + 1)]) (by omega)
        have hS3 := hO3.slbE
        have hb : ((packB (t.take i ++ [false])).getD ((i : Int) / 8).toNat 0).toNat < 256 := UInt8.toNat_lt _
        have hl3 : (packB (t.take i ++ [false])).length = ((i + 7) / 8 + 1) := by rw [packB_length, List.length_append, hcl, List.length_singleton]; omega
        obtain ⟨ho, hlo, hhi, hI, hA, hC⟩ := hO3.facts (by omega)
        rw [Nat.mul_one] at hI
        repeat' (first | refine stp ?_ | (refine stp2 ?_ ?_ <;> intro _))
        rw [show boolsF t (i : Int).toNat = .bool (t.getD i false) from rfl, ht]
        repeat' (first | refine stp ?_ | (refine stp2 ?_ ?_ <;> intro _))
        generalize hV : ((((packB (t.take i ++ [false])).getD ((i : Int) / 8).toNat 0).toNat : Int).toNat ||| (((Int.toNat 1 <<< ((i : Int) % 8).toNat % 256 : Nat) : Int)).toNat) = V
        have e8 : ((i : Int) / 8).toNat = i / 8 := by omega
        have e9 : ((i : Int) % 8).toNat = i % 8 := by omega
        obtain ⟨hp, hv⟩ := pack_or (u := t.take i ++ [false]) (i := i) (by rw [List.length_append, hcl, List.length_singleton]; omega) (V := V) (by rw [← hV, e8, e9]; rfl)
        have h3 := hO3.set1 (i := ((i : Int) / 8).toNat) (v := .int .u8 (V : Nat)) (by omega) rfl
        rw [bytesV_set _ _ _ hv, e8, ← hp, set_snoc _ _ _ _ hcl, ← ht, ← take_succ_b t i hlt] at h3
        refine nextC.normal ⟨(i + 1, a2), by dsimp only; omega, envs, by dsimp only; omega, by omega, ext, info, cell, ?_, ?_⟩
        · dsimp only; rw [em]; exact cell
        · dsimp only; rw [em]; rw [e8]; exact h3
      · have em : (i + 1 + 7) / 8 = (i + 7) / 8 := by omega
        have hO3 : OwnSl h1 (n + 1 + 1) n1 a' 1 ((i + 7) / 8) (bytesV (packB (t.take i ++ [false]))) := by
          rw [pack_snoc _ (by rw [hcl]; omega)]; exact hO
        have hS3 := hO3.slbE
        have hb : ((packB (t.take i ++ [false])).getD ((i : Int) / 8).toNat 0).toNat < 256 := UInt8.toNat_lt _
        have hl3 : (packB (t.take i ++ [false])).length = ((i + 7) / 8) := by rw [packB_length, List.length_append, hcl, List.length_singleton]; omega
        obtain ⟨ho, hlo, hhi, hI, hA, hC⟩ := hO3.facts (by omega)
        rw [Nat.mul_one] at hI
        repeat' (first | refine stp ?_ | (refine stp2 ?_ ?_ <;> intro _))
        generalize hV : ((((packB (t.take i ++ [false])).getD ((i : Int) / 8).toNat 0).toNat : Int).toNat ||| (((Int.toNat 1 <<< ((i : Int) % 8).toNat % 256 : Nat) : Int)).toNat) = V
        have e8 : ((i : Int) / 8).toNat = i / 8 := by omega
        have e9 : ((i : Int) % 8).toNat = i % 8 := by omega
        obtain ⟨hp, hv⟩ := pack_or (u := t.take i ++ [false]) (i := i) (by rw [List.length_append, hcl, List.length_singleton]; omega) (V := V) (by rw [← hV, e8, e9]; rfl)
        have h3 := hO3.set1 (i := ((i : Int) / 8).toNat) (v := .int .u8 (V : Nat)) (by omega) rfl
        rw [bytesV_set _ _ _ hv, e8, ← hp, set_snoc _ _ _ _ hcl, ← ht, ← take_succ_b t i hlt] at h3
        refine nextC.normal ⟨(i + 1, a'), by dsimp only; omega, envs, by dsimp only; omega, by omega, ext, info, cell, ?_, ?_⟩
        · dsimp only; rw [em]; exact cell
        · dsimp only; rw [em]; rw [e8]; exact h3
  · repeat' (first | refine stpS ?_ | (refine stp2 ?_ ?_ <;> intro _))
    have e : i = t.length := by omega
    subst e
    rw [List.take_length] at hO
    refine ⟨a', by rw [packB_length], ext, ?_⟩
    rw [packB_length]
    exact (hO.sets (by omega)).mono (by omega)
end Go.Proofs.Ytnaklmjndiodfaa
