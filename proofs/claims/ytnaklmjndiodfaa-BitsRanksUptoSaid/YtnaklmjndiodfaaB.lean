/- Contracts of bits' functions: one bit, lists of truths. -/
import Derived.Test.YtnaklmjndiodfaaA
namespace Go.Proofs.Ytnaklmjndiodfaa
open Go.Abs

/-- Is place i set? -/
def getB (N : Int) (l : List UInt8) (i : Int) : Bool := decide (0 ≤ i) && (decide (i < plc N l.length) && bitAt l i.toNat)
theorem getB_truths (N : Int) (l : List UInt8) (i : Nat) : getB N l i = (truths N l).getD i false := by
  rw [truths_getD]; simp [getB]
theorem bit_val (l : List UInt8) (i : Int) (h0 : 0 ≤ i) : ((((l.getD (i / 8).toNat 0).toNat : Int).toNat >>> (i % 8).toNat : Nat) : Int) % 2 = if bitAt l i.toNat then 1 else 0 := by
  unfold bitAt
  rw [show i.toNat / 8 = (i / 8).toNat by omega, show i.toNat % 8 = (i % 8).toNat by omega]
  rw [Int.toNat_natCast]
  generalize (l.getD (i / 8).toNat 0).toNat = x
  rw [Nat.testBit, Nat.one_and_eq_mod_two]
  have e : ((x >>> (i % 8).toNat : Nat) : Int) % 2 = (((x >>> (i % 8).toNat) % 2 : Nat) : Int) := by omega
  rw [e]
  have := Nat.mod_two_eq_zero_or_one (x >>> (i % 8).toNat)
  rcases this with h | h
  · rw [h]; rfl
  · rw [h]; rfl
set_option maxHeartbeats 4000000 in
theorem get_ev (N : Int) (l : List UInt8) (a : Option Addr) (m n : Nat) (h : AH) (i : Int) (S : SlB h n a l) (e : m = l.length) (hm : m ≤ 1099511627776) :
    Ev Try.prog none' 15 #[.agg #[.int .i64 N, .slice a m m], .int .i64 i] n h (.bool (getB N l i)) n h := by
  subst e
  have hp := plc_le N l.length
  refine RF.pure rfl fun n' hn => ?_
  have S := S.ext (Ext.refl n h) hn
  refine RF.of Try.func15 rfl rfl (Nat.le_of_ble_eq_true rfl) ?_; dsimp only [argEnv]
  have hb : (l.getD (i / 8).toNat 0).toNat < 256 := UInt8.toNat_lt _
  have hbv := bit_val l i
  repeat' (first | refine stpS ?_ | (refine stp2 ?_ ?_ <;> intro _) | refine RS.call1 rfl opds (places_ev _ _ _ _ _ (by omega)) none'W ?_)
  · rename_i h1 h2 h3
    rw [hbv h1] at h3
    simp only [getB, h1, h2, decide_true, Bool.true_and]
    cases hx : bitAt l i.toNat <;> simp_all
  · rename_i h1 h2 h3
    rw [hbv h1] at h3
    simp only [getB, h1, h2, decide_true, Bool.true_and]
    cases hx : bitAt l i.toNat <;> simp_all
  · rename_i h1 h2
    simp [getB, h2]
  · rename_i h1
    simp [getB, h1]
set_option maxHeartbeats 4000000 in
theorem refGet_ev (N : Int) (l : List UInt8) (a : Option Addr) (m n : Nat) (h : AH) (i : Int) (S : SlB h n a l) (e : m = l.length) (hm : m ≤ 1099511627776) :
    Ev Try.prog none' 16 #[.agg #[.int .i64 N, .slice a m m], .int .i64 i] n h (.bool (getB N l i)) n h := by
  subst e
  have hp := plc_le N l.length
  refine RF.pure rfl fun n' hn => ?_
  have S := S.ext (Ext.refl n h) hn
  refine RF.of Try.func16 rfl rfl (Nat.le_of_ble_eq_true rfl) ?_; dsimp only [argEnv]
  have hb : (l.getD (i / 8).toNat 0).toNat < 256 := UInt8.toNat_lt _
  have hbv := bit_val l i
  repeat' (first | refine stpS ?_ | (refine stp2 ?_ ?_ <;> intro _) | refine RS.call1 rfl opds (refPlaces_ev _ _ _ _ _ (by omega)) none'W ?_)
  · rename_i h1 h2 h3
    rw [hbv h1] at h3
    simp only [getB, h1, h2, decide_true, Bool.true_and]
    cases hx : bitAt l i.toNat <;> simp_all
  · rename_i h1 h2 h3
    rw [hbv h1] at h3
    simp only [getB, h1, h2, decide_true, Bool.true_and]
    cases hx : bitAt l i.toNat <;> simp_all
  · rename_i h1 h2
    simp [getB, h2]
  · rename_i h1
    simp [getB, h1]
set_option maxHeartbeats 4000000 in
theorem exact_ev (N M : Int) (l k : List UInt8) (a b : Option Addr) (m m2 n : Nat) (h : AH) (S : SlB h n a l) (S2 : SlB h n b k) (e : m = l.length) (e2 : m2 = k.length) :
    Ev Try.prog none' 17 #[.agg #[.int .i64 N, .slice a m m], .agg #[.int .i64 M, .slice b m2 m2]] n h (.bool (decide (N = M) && decide (l = k))) n h := by
  subst e; subst e2
  refine RF.pure rfl fun n' hn => ?_
  have hA := S.sla
  have hA2 := S2.sla
  refine RF.of Try.func17 rfl rfl (Nat.le_of_ble_eq_true rfl) ?_; dsimp only [argEnv]
  have hr := SlB.rd S (h' := (h.app (.new n' ⟨2, 0, true, 0⟩ [.int .i64 N, .slice a l.length l.length])).app (.new (n' + 1) ⟨2, 0, true, 0⟩ [.int .i64 M, .slice b k.length k.length])) ext
  have hr2 := SlB.rd S2 (h' := (h.app (.new n' ⟨2, 0, true, 0⟩ [.int .i64 N, .slice a l.length l.length])).app (.new (n' + 1) ⟨2, 0, true, 0⟩ [.int .i64 M, .slice b k.length k.length])) ext
  repeat' (first | refine stpS ?_ | (refine stp2 ?_ ?_ <;> intro _))
  · rename_i h1 h2
    have : l = k := by simpa using h2
    simp [h1, this]
  · rename_i h1 h2
    have : l ≠ k := fun e => h2 (by rw [e])
    simp [this]
  · rename_i h1
    simp [h1]
set_option maxHeartbeats 4000000 in
theorem small_rf (N : Int) (l : List UInt8) (a : Option Addr) (m n : Nat) (h : AH) (S : SlB h n a l) (e : m = l.length) :
    RF Try.prog none' 11 #[.agg #[.int .i64 N, .slice a m m]] n h (fun r n' h' => r = .agg #[.int .i64 N, .slice a (l.take 4096).length (l.take 4096).length] ∧ Ext n h h' ∧ SlB h' n' a (l.take 4096)) := by
  subst e
  refine RF.of Try.func11 rfl rfl (Nat.le_of_ble_eq_true rfl) ?_; dsimp only [argEnv]
  repeat' (first | refine stpS ?_ | (refine stp2 ?_ ?_ <;> intro _))
  · rename_i h1
    have e1 : (l.take 4096).length = 4096 := by simp; omega
    have e2 : (4096 : Int).toNat = 4096 := rfl
    refine ⟨by rw [e1, e2], ext, ?_⟩
    exact (S.take (by omega)).ext ext (by omega)
  · rename_i h1
    have e1 : l.take 4096 = l := List.take_of_length_le (by omega)
    exact ⟨by rw [e1], ext, by rw [e1]; exact S.ext ext (by omega)⟩
set_option maxHeartbeats 4000000 in
theorem list_rf (N : Int) (l : List UInt8) (a : Option Addr) (m n : Nat) (h : AH) (S : SlB h n a l) (e : m = l.length) (hm : m ≤ 1099511627776) :
    RF Try.prog none' 21 #[.agg #[.int .i64 N, .slice a m m]] n h (fun r n' h' => ∃ a', r = .slice a' (truths N l).length (truths N l).length ∧ Ext n h h' ∧ OwnSl h' n n' a' 1 (truths N l).length (boolsV (truths N l))) := by
  subst e
  have hp := plc_le N l.length
  refine RF.of Try.func21 rfl rfl (Nat.le_of_ble_eq_true rfl) ?_; dsimp only [argEnv]
  repeat' (first | refine stpS ?_ | (refine stp2 ?_ ?_ <;> intro _) | refine RS.call1 rfl opds (places_ev _ _ _ _ _ (by omega)) none'W ?_)
  refine RC.loop ?_
  refine RL.inv (α := Nat × Option Addr) (fun s => [(7, .int .i64 (s.1 : Nat)), (6, .int .i64 (plc N l.length)), (3, .slice s.2 s.1 s.1), (1, .pointer (some ⟨n, 0, none⟩))])
    (fun s n1 h1 => s.1 ≤ (plc N l.length).toNat ∧ n + 1 ≤ n1 ∧ Ext (n + 1) (h.app (.new n ⟨2, 0, true, 0⟩ [.int .i64 N, .slice a l.length l.length])) h1 ∧ OwnSl h1 (n + 1) n1 s.2 1 s.1 (boolsV ((truths N l).take s.1)))
    (fun s => (plc N l.length).toNat - s.1) (0, none) envs ⟨by omega, by omega, Ext.refl _ _, OwnSl.nil (by omega)⟩ ?_
  rintro ⟨i, a'⟩ n1 h1 ⟨hi, hn, hE, hO⟩
  dsimp only at hi hn hE hO ⊢
  repeat' (first | refine stpS ?_ | (refine stp2 ?_ ?_ <;> intro _) | refine RS.call1 rfl opds (get_ev _ _ _ _ _ _ _ (S.ext ext (by omega)) rfl (by omega)) none'W ?_)
  · rename_i hlt
    refine RS.append rfl opd opd (hO.ext ext (Nat.le_succ _)) (OwnSl.src (OwnSl.new1 (n0 := n1) (m := 1) (Nat.le_refl _) rfl rfl)) full_slice (fun b hb => Or.inr (by omega)) (by omega) ?_
    intro a2 n2 h2 hle2 hO2 hX hnew
    have hE2 := hX.ext (hO.ext ext (Nat.le_succ _))
    repeat' (first | refine stpS ?_ | (refine stp2 ?_ ?_ <;> intro _))
    refine nextC.normal ⟨(i + 1, a2), by dsimp only; omega, envs, by dsimp only; omega, by omega, ext, ?_⟩
    have e : boolsV ((truths N l).take (i + 1)) = boolsV ((truths N l).take i) ++ [.bool (getB N l i)] := by
      have h3 : i < (truths N l).length := by rw [truths_length]; omega
      have h4 : (truths N l).getD i false = (truths N l)[i] := by simp [List.getD, h3]
      unfold boolsV
      rw [List.take_succ_eq_append_getElem h3, List.map_append, getB_truths, h4]
      rfl
    dsimp only
    rw [e]; exact hO2
  · rename_i hlt
    have e : i = (truths N l).length := by rw [truths_length]; omega
    refine ⟨a', by rw [e], ext, ?_⟩
    rw [List.take_of_length_le (by omega)] at hO
    rw [← e]; exact hO.mono (by omega)
end Go.Proofs.Ytnaklmjndiodfaa
