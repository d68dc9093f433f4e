/- Contracts of the document's forms of ints: up. -/
import Derived.Test.YtflhhipemmlgpaaDoorC
set_option linter.unusedSimpArgs false
set_option linter.unusedVariables false
namespace Go.Proofs.YtflhhipemmlgpaaDoor
open Go.Abs

theorem lt_bl {m k : Nat} : k < bl m ↔ 2 ^ k ≤ m := by
  unfold bl
  split
  · rename_i q; subst q
    have := Nat.two_pow_pos k
    omega
  · rename_i q
    rw [← Nat.le_log2 q]; omega
theorem pow256 (j : Nat) : 256 ^ j = 2 ^ (8 * j) := by rw [Nat.pow_mul]
theorem nb_more {m j : Nat} (hj : 0 < j) : 0 < m / 256 ^ j ↔ j < nb m := by
  have h1 : 0 < m / 256 ^ j ↔ 8 * j < bl m := by
    rw [lt_bl, ← pow256]
    have := Nat.pow_pos (n := j) (show 0 < 256 by omega)
    rw [Nat.div_pos_iff]; omega
  rw [h1]; unfold nb; omega
def le (k m : Nat) : List UInt8 := (List.range k).map fun i => UInt8.ofNat (m / 256 ^ i)
theorem le_length (k m : Nat) : (le k m).length = k := by simp [le]
theorem bytesV_le_succ (k m : Nat) : bytesV (le (k + 1) m) = bytesV (le k m) ++ [.int .u8 ((m / 256 ^ k % 256 : Nat) : Int)] := by
  unfold bytesV le
  rw [List.range_succ, List.map_append, List.map_append]
  simp [UInt8.toNat_ofNat']
theorem be_getD {k m i : Nat} (hi : i < k) : (be k m).getD i 0 = (le k m).getD (k - 1 - i) 0 := by
  unfold be le
  simp [List.getD, show k - 1 - i < k by omega, hi]
set_option maxHeartbeats 4000000 in
theorem up_rf (x : Nat) (hx : x < 9223372036854775808) (n : Nat) (h : AH) :
    RF Tryd.prog none' 42 #[.int .i64 (x : Nat)] n h (fun r n' h' => ∃ a', r = .slice a' (formUp x).length (formUp x).length ∧ Ext n h h' ∧ OwnSl h' n n' a' 1 (formUp x).length (bytesV (formUp x))) := by
  refine RF.of Tryd.func42 rfl rfl (Nat.le_of_ble_eq_true rfl) ?_; dsimp only [argEnv]
  by_cases hs : x < 120
  · have hf : formUp x = [UInt8.ofNat (128 + x)] := by unfold formUp; rw [if_pos hs]
    rw [hf]
    have e : bytesV [UInt8.ofNat (128 + x)] = [.int .u8 (128 + (x : Int))] := by
      simp only [bytesV, List.map_cons, List.map_nil, UInt8.toNat_ofNat']
      rw [Nat.mod_eq_of_lt (by omega)]
      rfl
    rw [e]
    repeat' (first | refine stpS ?_ | (refine stp2 ?_ ?_ <;> intro _))
    exact ⟨_, rfl, ext, OwnSl.new1 (Nat.le_refl _) rfl rfl⟩
  have hf : formUp x = UInt8.ofNat (247 + nb (x - 120)) :: be (nb (x - 120)) (x - 120) := by unfold formUp; rw [if_neg hs]
  obtain ⟨m, hm⟩ : ∃ m, m = x - 120 := ⟨_, rfl⟩
  have hxm : (x : Int) - 120 = m := by omega
  rw [← hm] at hf
  have hnb := nb_le (m := m) (by omega)
  have hnp := nb_pos m
  rw [hf]
  repeat' (first | refine stpS ?_ | (refine stp2 ?_ ?_ <;> intro _))
  rw [hxm, show (m : Int) = ((m / 256 ^ 0 : Nat) : Int) by simp]
  refine RC.loop ?_
  refine RL.inv (α := Nat × Option Addr) (fun s => [(4, .slice s.2 s.1 s.1), (3, .int .i64 ((m / 256 ^ s.1 : Nat) : Int))])
    (fun s n1 h1 => s.1 ≤ nb m ∧ n ≤ n1 ∧ Ext n h h1 ∧ OwnSl h1 n n1 s.2 1 s.1 (bytesV (le s.1 m)))
    (fun s => nb m - s.1) (0, none) envs ⟨by omega, by omega, Ext.refl _ _, OwnSl.nil (by omega)⟩ ?_
  rintro ⟨j, a'⟩ n1 h1 ⟨hj, hn, hE, hO⟩
  dsimp only at hj hn hE hO ⊢
  have hmore := nb_more (m := m) (j := j)
  have hsucc := bytesV_le_succ j m
  have hdiv : m / 256 ^ (j + 1) = m / 256 ^ j / 256 := by rw [Nat.pow_succ, Nat.div_div_eq_div_mul]
  have hle : m / 256 ^ j ≤ m := Nat.div_le_self _ _
  generalize hy : m / 256 ^ j = y at *
  have step : (j < nb m ∧ 0 < y) ∨ (j < nb m ∧ y = 0 ∧ j = 0) ∨ (y = 0 ∧ 0 < j ∧ j = nb m) := by
    rcases Nat.eq_zero_or_pos y with r | r
    · rcases Nat.eq_zero_or_pos j with q | q
      · exact .inr (.inl ⟨by omega, r, q⟩)
      · exact .inr (.inr ⟨r, q, by have := hmore q; omega⟩)
    · rcases Nat.eq_zero_or_pos j with q | q
      · exact .inl ⟨by omega, r⟩
      · exact .inl ⟨(hmore q).1 r, r⟩
  rcases step with ⟨q1, q2⟩ | ⟨q1, q2, q3⟩ | ⟨q1, q2, q3⟩
  · repeat' (first | refine stpS ?_ | (refine stp2 ?_ ?_ <;> intro _))
    refine RS.append rfl opd opd (hO.ext ext (Nat.le_succ _)) (OwnSl.src (OwnSl.new1 (n0 := n1) (m := 1) (Nat.le_refl _) rfl rfl)) full_slice (fun b hb => Or.inr (by omega)) (by omega) ?_
    intro a2 n2 h2 hle2 hO2 hX hnew
    have hE2 := hX.ext (hO.ext ext (Nat.le_succ _))
    repeat' (first | refine stpS ?_ | (refine stp2 ?_ ?_ <;> intro _))
    refine nextC.normal ⟨(j + 1, a2), by dsimp only; omega, ?_, by dsimp only; omega, by omega, ext, ?_⟩
    · dsimp only
      rw [hdiv, Int.natCast_ediv]
      exact envs
    · dsimp only
      rw [hsucc]; exact hO2
  · repeat' (first | refine stpS ?_ | (refine stp2 ?_ ?_ <;> intro _))
    refine RS.append rfl opd opd (hO.ext ext (Nat.le_succ _)) (OwnSl.src (OwnSl.new1 (n0 := n1) (m := 1) (Nat.le_refl _) rfl rfl)) full_slice (fun b hb => Or.inr (by omega)) (by omega) ?_
    intro a2 n2 h2 hle2 hO2 hX hnew
    have hE2 := hX.ext (hO.ext ext (Nat.le_succ _))
    repeat' (first | refine stpS ?_ | (refine stp2 ?_ ?_ <;> intro _))
    refine nextC.normal ⟨(j + 1, a2), by dsimp only; omega, ?_, by dsimp only; omega, by omega, ext, ?_⟩
    · dsimp only
      rw [hdiv, Int.natCast_ediv]
      exact envs
    · dsimp only
      rw [hsucc]; exact hO2
  · have hS : SlB h1 n1 a' (le j m) := OwnSl.slbE hO
    have hll := le_length j m
    obtain ⟨-, -, -, -, hA, -⟩ := hO.facts (by omega)
    rw [← q3]
    have hbl := be_length j m
    clear hmore hsucc hdiv hy hnp
    repeat' (first | refine stpS ?_ | (refine stp2 ?_ ?_ <;> intro _))
    refine RC.loop ?_
    refine RL.inv (α := Int × Nat × Option Addr) (fun s => [(6, .int .i64 s.1), (5, .slice s.2.2 (s.2.1 + 1) (s.2.1 + 1)), (4, .slice a' j j)])
      (fun s n2 h2 => s.1 = j - 1 - s.2.1 ∧ s.2.1 ≤ j ∧ n1 + 1 ≤ n2 ∧ Ext n1 h1 h2 ∧ OwnSl h2 n1 n2 s.2.2 1 (s.2.1 + 1) (bytesV (UInt8.ofNat (247 + j) :: (be j m).take s.2.1)))
      (fun s => j - s.2.1) (_, 0, some ⟨n1, 0, none⟩) envs ⟨by dsimp only; omega, by dsimp only; omega, by omega, ext, ?_⟩ ?_
    · dsimp only
      have e : bytesV (UInt8.ofNat (247 + j) :: (be j m).take 0) = [.int .u8 (247 + (j : Int))] := by
        simp only [bytesV, List.take_zero, List.map_cons, List.map_nil, UInt8.toNat_ofNat']
        rw [Nat.mod_eq_of_lt (by omega)]
        rfl
      rw [e]
      exact OwnSl.new1 (Nat.le_refl _) rfl rfl
    rintro ⟨z, i, a5⟩ n2 h2 ⟨hz, hi, hn2, hE2, hO2⟩
    dsimp only at hz hi hn2 hE2 hO2 ⊢
    have hS2 : SlB h2 n2 a' (le j m) := hS.ext hE2 (by omega)
    have hb : ((le j m).getD z.toNat 0).toNat < 256 := UInt8.toNat_lt _
    repeat' (first | refine stpS ?_ | (refine stp2 ?_ ?_ <;> intro _))
    · rename_i hlt
      refine RS.append rfl opd opd (hO2.ext ext (Nat.le_succ _)) (OwnSl.src (OwnSl.new1 (n0 := n2) (m := 1) (Nat.le_refl _) rfl rfl)) full_slice (fun b hb => Or.inr (by omega)) (by omega) ?_
      intro a6 n3 h3 hle3 hO3 hX3 hnew3
      have hE3 := hX3.ext (hO2.ext ext (Nat.le_succ _))
      repeat' (first | refine stpS ?_ | (refine stp2 ?_ ?_ <;> intro _))
      refine nextC.normal ⟨(z - 1, i + 1, a6), by dsimp only; omega, envs, by dsimp only; omega, by dsimp only; omega, by omega, ext, ?_⟩
      dsimp only
      have e : bytesV (UInt8.ofNat (247 + j) :: (be j m).take (i + 1)) = bytesV (UInt8.ofNat (247 + j) :: (be j m).take i) ++ [.int .u8 ((le j m).getD z.toNat 0).toNat] := by
        have h1 := bytesV_take_succ (be j m) i (by omega)
        rw [be_getD (by omega), show j - 1 - i = z.toNat by omega] at h1
        show _ :: bytesV ((be j m).take (i + 1)) = _
        rw [h1]; rfl
      rw [e]; exact hO3
    · rename_i hlt
      have e : i = j := by omega
      subst e
      refine ⟨a5, by rw [List.length_cons, hbl], ext, ?_⟩
      rw [List.take_of_length_le (by omega)] at hO2
      rw [List.length_cons, hbl]
      exact hO2.mono (by omega)
end Go.Proofs.YtflhhipemmlgpaaDoor
