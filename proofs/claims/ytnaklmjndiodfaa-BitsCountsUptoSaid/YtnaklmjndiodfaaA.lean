/- Contracts of bits' functions: places, copies, whole bits. -/
import Derived.Test.YtnaklmjndiodfaaPl
namespace Go.Proofs.Ytnaklmjndiodfaa
open Go.Abs

set_option maxHeartbeats 4000000 in
theorem places_ev (N : Int) (a : Option Addr) (m n : Nat) (h : AH) (hm : m ≤ 140737488355328) : Ev Try.prog none' 49 #[.agg #[.int .i64 N, .slice a m m]] n h (.int .i64 (plc N m)) n h := by
  refine RF.pure rfl fun n _ => ?_
  refine RF.of Try.func49 rfl rfl (Nat.le_of_ble_eq_true rfl) ?_; dsimp only [argEnv]
  repeat' (first | refine stpS ?_ | (refine stp2 ?_ ?_ <;> intro _))
  rfl
set_option maxHeartbeats 4000000 in
theorem refPlaces_ev (N : Int) (a : Option Addr) (m n : Nat) (h : AH) (hm : m ≤ 140737488355328) : Ev Try.prog none' 51 #[.agg #[.int .i64 N, .slice a m m]] n h (.int .i64 (plc N m)) n h := by
  refine RF.pure rfl fun n _ => ?_
  refine RF.of Try.func51 rfl rfl (Nat.le_of_ble_eq_true rfl) ?_; dsimp only [argEnv]
  repeat' (first | refine stpS ?_ | (refine stp2 ?_ ?_ <;> intro _))
  rw [Int.mul_comm]; rfl
set_option maxHeartbeats 4000000 in
theorem clone_rf (l : List UInt8) (a : Option Addr) (m n : Nat) (h : AH) (S : SlB h n a l) (e : m = l.length) (hm : m ≤ 1099511627776) :
    RF Try.prog none' 47 #[.slice a m m] n h (fun r n' h' => ∃ a', r = .slice a' m m ∧ Ext n h h' ∧ OwnSl h' n n' a' 1 m (bytesV l)) := by
  subst e
  refine RF.of Try.func47 rfl rfl (Nat.le_of_ble_eq_true rfl) ?_; dsimp only [argEnv]
  rcases S.two with ⟨ha, hl⟩ | ⟨b, o, ha⟩
  · have : l = [] := List.eq_nil_of_length_eq_zero hl
    subst this; subst ha
    repeat' (first | refine stpS ?_ | (refine stp2 ?_ ?_ <;> intro _))
    exact ⟨none, rfl, ext, OwnSl.nil (by omega)⟩
  · subst ha
    repeat' (first | refine stpS ?_ | (refine stp2 ?_ ?_ <;> intro _))
    refine RS.append rfl opd opd (OwnSl.new (z := 1) (m := 0) (cs := []) (Nat.le_refl n) rfl rfl) (SlB.src (S.ext ext (Nat.le_refl _))) full_slice (fun b hb => Or.inr (by omega)) (by omega) ?_
    intro a' n1 h1 hle hO hX hnew
    have hE := hX.ext (OwnSl.new (z := 1) (m := 0) (cs := []) (Nat.le_refl n) rfl rfl)
    simp only [Nat.zero_add, List.nil_append] at hO ⊢
    repeat' (first | refine stpS ?_ | (refine stp2 ?_ ?_ <;> intro _))
    exact ⟨a', rfl, ext, hO⟩
theorem known_replicate (v : Value) (k : Nat) (h : known [v] = true) : known (List.replicate k v) = true := by
  induction k with
  | zero => rfl
  | succ k ih => rw [List.replicate_succ]; cases v <;> simp_all [known]
/-- The answer is bits of the truths t, in memory of their own. -/
def BitsRes (n : Nat) (h : AH) (t : List Bool) (r : Value) (n' : Nat) (h' : AH) : Prop :=
  ∃ a', r = .agg #[.int .i64 t.length, .slice a' (packB t).length (packB t).length] ∧ Ext n h h' ∧ OwnSl h' n n' a' 1 (packB t).length (bytesV (packB t))
theorem packB_replicate (k : Nat) : packB (List.replicate k false) = List.replicate ((k + 7) / 8) 0 := by
  symm
  apply pack_eq
  · simp
  · intro i hi
    simp only [List.length_replicate] at hi
    unfold bitAt
    have : (List.replicate ((k + 7) / 8) (0 : UInt8)).getD (i / 8) 0 = 0 := by simp [List.getD, List.getElem?_replicate]; split <;> rfl
    rw [this]
    have : (List.replicate k false).getD i false = false := by simp [List.getD, List.getElem?_replicate]; split <;> rfl
    rw [this]; simp
set_option maxHeartbeats 4000000 in
theorem new_rf (c : Int) (n : Nat) (h : AH) (hc : -9223372036854775808 ≤ c) (hc2 : c ≤ 9223372036854775807) :
    RF Try.prog none' 25 #[.int .i64 c] n h (BitsRes n h (List.replicate (min (max c 0) 1048576).toNat false)) := by
  refine RF.of Try.func25 rfl rfl (Nat.le_of_ble_eq_true rfl) ?_; dsimp only [argEnv]
  repeat' (first | refine stpS ?_ | (refine stp2 ?_ ?_ <;> intro _))
  refine ⟨some ⟨n + 1, 0, none⟩, ?_, ext, ?_⟩
  · rw [packB_replicate]
    simp only [List.length_replicate]
    have e1 : ((min (max c 0) 1048576).toNat : Int) = min (max c 0) 1048576 := by omega
    have e2 : ((min (max c 0) 1048576 + 7) / 8).toNat = ((min (max c 0) 1048576).toNat + 7) / 8 := by omega
    rw [e1, e2]
  · rw [packB_replicate]
    have e2 : ((min (max c 0) 1048576 + 7) / 8).toNat = ((min (max c 0) 1048576).toNat + 7) / 8 := by omega
    rw [e2]
    simp only [List.length_replicate, bytesV, List.map_replicate]
    refine ((OwnSl.new1 (n0 := n + 1) (Nat.le_refl _) (by simp) ?_).sets (by omega)).mono (by omega)
    exact known_replicate _ _ rfl

set_option maxHeartbeats 4000000 in
theorem whole_rf (N : Int) (l : List UInt8) (a : Option Addr) (m n : Nat) (h : AH) (S : SlB h n a l) (e : m = l.length) (hm : m ≤ 1099511627776) :
    RF Try.prog none' 50 #[.agg #[.int .i64 N, .slice a m m]] n h (BitsRes n h (truths N l)) := by
  refine RF.of Try.func50 rfl rfl (Nat.le_of_ble_eq_true rfl) ?_; dsimp only [argEnv]
  subst e
  have hp := plc_le N l.length
  repeat' (first | refine stpS ?_ | (refine stp2 ?_ ?_ <;> intro _))
  refine RS.call1 rfl opds (places_ev N a l.length _ _ (by omega)) none'W ?_
  repeat' (first | refine stpS ?_ | (refine stp2 ?_ ?_ <;> intro _))
  refine RS.call rfl opds (new_rf 0 _ _ (by decide) (by decide)) none'W ?_
  rintro r n1 h1 hle ⟨a1, rfl, hE1, hO1⟩
  simp only [List.length_replicate] at hO1 ⊢
  repeat' (first | refine stpS ?_ | (refine stp2 ?_ ?_ <;> intro _))
  refine RS.call rfl opds (clone_rf _ _ _ _ _ ((S.take (u := ((plc N l.length + 7) / 8).toNat) (by omega)).ext (n' := n1 + 1) ext (by omega)) (by simp; omega) (by omega)) none'W ?_
  rintro r n2 h2 hle2 ⟨a2, rfl, hE2, hO2⟩
  have hS2 := hO2.slbE
  have hlen : (l.take ((plc N l.length + 7) / 8).toNat).length = ((plc N l.length + 7) / 8).toNat := by simp; omega
  have hb : ((l.take ((plc N l.length + 7) / 8).toNat).getD (plc N l.length / 8).toNat 0).toNat < 256 := UInt8.toNat_lt _
  have e1 : ((plc N l.length).toNat : Int) = plc N l.length := by omega
  have e2 : ((plc N l.length).toNat + 7) / 8 = ((plc N l.length + 7) / 8).toNat := by omega
  by_cases hr : 0 < plc N l.length % 8
  · obtain ⟨ho, hlo, hhi, hI, hA, hC⟩ := hO2.facts (by omega)
    repeat' (first | refine stp ?_ | (refine stp2 ?_ ?_ <;> intro _))
    refine ⟨a2, ?_, ext, ?_⟩
    · rw [packB_length, truths_length, e1, e2]
    · rw [packB_length, truths_length, e2]
      generalize hV : (((l.take ((plc N l.length + 7) / 8).toNat).getD (plc N l.length / 8).toNat 0).toNat : Int).toNat &&& (((((1 : Int).toNat <<< (plc N l.length % 8).toNat) % 256 : Nat) - 1 : Int) % 256).toNat = V
      have hv : V < 256 := by rw [← hV]; exact Nat.lt_of_le_of_lt Nat.and_le_left (by omega)
      rw [whole_rest N l hr V hV.symm]
      have h3 := (((hO2.sets (b := n1) (o' := 0 + 0) (vs := [Value.int .i64 (plc N l.length)]) (by omega)).sets (b := n1) (o' := 0 + 1) (vs := [Value.slice a2 ((plc N l.length + 7) / 8).toNat ((plc N l.length + 7) / 8).toNat]) (by omega)).set1 (i := (plc N l.length / 8).toNat) (v := .int .u8 (V : Nat)) (by omega) rfl)
      rw [bytesV_set _ _ _ hv] at h3
      exact (h3.sets (by omega)).mono (by omega)
  · repeat' (first | refine stpS ?_ | (refine stp2 ?_ ?_ <;> intro _))
    refine ⟨a2, ?_, ext, ?_⟩
    · rw [packB_length, truths_length, e1, e2]
    · rw [packB_length, truths_length, e2, whole_full N l hr]
      exact ((hO2.sets (by omega)).sets (by omega)).sets (by omega) |>.mono (by omega)
end Go.Proofs.Ytnaklmjndiodfaa