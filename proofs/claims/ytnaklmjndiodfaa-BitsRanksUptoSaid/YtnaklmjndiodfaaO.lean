/- Contracts of bits' functions: all places that are set, one of them. -/
import Derived.Test.YtnaklmjndiodfaaN
namespace Go.Proofs.Ytnaklmjndiodfaa
open Go.Abs

set_option maxHeartbeats 4000000 in
theorem all_rf (N : Int) (l : List UInt8) (a : Option Addr) (m n : Nat) (h : AH) (S : SlB h n a l) (e : m = l.length) (hm : m ≤ 137438953472) :
    RF Try.prog none' 29 #[.agg #[.int .i64 N, .slice a m m]] n h (fun r n' h' => ∃ bc a', r = .func (.func 52) #[] #[.pointer (some ⟨bc, 0, none⟩)] ∧ Ext n h h' ∧ n ≤ bc ∧ (a' = none ∨ n ≤ sb a') ∧ AllK bc a' (packB (truths N l)) n' h') := by
  subst e
  refine RF.of Try.func29 rfl rfl (Nat.le_of_ble_eq_true rfl) ?_; dsimp only [argEnv]
  repeat' (first | refine stpS ?_ | (refine stp2 ?_ ?_ <;> intro _))
  refine RS.call rfl opds (whole_rf N l a l.length _ _ (S.ext ext (by omega)) rfl (by omega)) none'W ?_
  rintro r n1 h1 hle ⟨a1, rfl, hE1, hO1⟩
  have hS := hO1.slbE
  repeat' (first | refine stpS ?_ | (refine stp2 ?_ ?_ <;> intro _))
  exact ⟨n1, a1, rfl, ext, by omega, hO1.at'.imp id (fun q => by omega), by omega, cell, hS.ext ext (by omega)⟩

theorem wrap_wrap (a b : Int) : IntKind.i64.wrap (IntKind.i64.wrap a - b) = IntKind.i64.wrap (a - b) := by
  simp only [IntKind.wrap, IntKind.signed]; simp [IntKind.bits]; omega
theorem wrap_zero {k : Int} {i : Nat} (h1 : -9223372036854775808 ≤ k) (h2 : k ≤ 9223372036854775807) (hi : i ≤ 4611686018427387904) : IntKind.i64.wrap (k - i) = 0 ↔ k = i := by
  simp only [IntKind.wrap, IntKind.signed]; simp [IntKind.bits]; omega
/-- What pick answers. -/
def pickV (ps : List Nat) (k : Int) : Int × Bool := if 0 ≤ k ∧ k < ps.length then ((ps.getD k.toNat 0 : Nat), true) else (0, false)
set_option maxHeartbeats 4000000 in
theorem pick_ev (N : Int) (l : List UInt8) (a : Option Addr) (m n : Nat) (h : AH) (k : Int) (S : SlB h n a l) (e : m = l.length) (hm : m ≤ 134217728) (hk1 : -9223372036854775808 ≤ k) (hk2 : k ≤ 9223372036854775807) :
    Ev Try.prog none' 28 #[.agg #[.int .i64 N, .slice a m m], .int .i64 k] n h (.tuple #[.int .i64 (pickV (wheres (truths N l)) k).1, .bool (pickV (wheres (truths N l)) k).2]) n h := by
  subst e
  have hp := plc_le N l.length
  have htl := truths_length N l
  have hwl := wheres_le (truths N l)
  refine RF.pure (by simp [flat]) fun n' hn => ?_
  have S := S.ext (Ext.refl n h) hn
  refine RF.of Try.func28 rfl rfl (Nat.le_of_ble_eq_true rfl) ?_; dsimp only [argEnv]
  repeat' (first | refine stpS ?_ | (refine stp2 ?_ ?_ <;> intro _))
  refine RS.call rfl opds (all_rf N l a l.length _ _ (S.ext ext (by omega)) rfl (by omega)) none'W ?_
  rintro r n1 h1 hle ⟨bc, a1, rfl, hE1, hbc, ha1, hK1, hK2, hK3⟩
  have hc3 : h1.cell (n' + 1) 0 = .int .i64 k := cell
  have hi3 : h1.info (n' + 1) = some ⟨1, 0, true, 0⟩ := info
  have hi4 : h1.info (n' + 1 + 1) = some ⟨1, 0, true, 0⟩ := info
  have hi5 : h1.info (n' + 1 + 1 + 1) = some ⟨1, 0, true, 0⟩ := info
  repeat' (first | refine stpS ?_ | (refine stp2 ?_ ?_ <;> intro _))
  refine RC.rangeFunc opd (env0 := [(3, .pointer (some ⟨n' + 1, 0, none⟩)), (4, .pointer (some ⟨n' + 1 + 1, 0, none⟩)), (5, .pointer (some ⟨n' + 1 + 1 + 1, 0, none⟩))]) envs (W := fun b => (n' + 1 ≤ b ∧ b ≤ n' + 1 + 1 + 1) ∨ b = n1) (by intro b hb; first | omega | (dsimp only at hb ⊢; omega) | (dsimp only at hb; omega) | (dsimp only; omega)) ?_
  intro A hA
  have hpl := packB_length (truths N l)
  have hset := setL_pack (truths N l)
  refine (all1_iter bc a1 (packB (truths N l)) (by omega) _ _
    (fun i n2 h2 => n1 + 1 ≤ n2 ∧ ExtW (fun b => (n' + 1 ≤ b ∧ b ≤ n' + 1 + 1 + 1) ∨ b = n1) (n1 + 1) (h1.app (.obj n1 (.loop A))) h2 ∧ h2.info n1 = some (AObj.loop A).m ∧ h2.info (n' + 1) = some ⟨1, 0, true, 0⟩ ∧ h2.info (n' + 1 + 1) = some ⟨1, 0, true, 0⟩ ∧
      h2.info (n' + 1 + 1 + 1) = some ⟨1, 0, true, 0⟩ ∧ h2.cell (n' + 1) 0 = .int .i64 (IntKind.i64.wrap (k - i)) ∧ ∀ j, j < i → k ≠ (j : Nat))
    (fun n2 h2 => n1 + 1 ≤ n2 ∧ h2.info n1 = some (AObj.loop (A.at (some .ret))).m ∧ h2.cell (n' + 1 + 1) 0 = .int .i64 (pickV (wheres (truths N l)) k).1 ∧ h2.cell (n' + 1 + 1 + 1) 0 = .bool (pickV (wheres (truths N l)) k).2) _ _ ⟨?_, ?_⟩ ?_ ?_ (by omega)).mono ?_
  · rintro i n2 h2 n3 h3 ⟨q1, q2, q3, q4, q5, q6, q7, q8⟩ hn3 hE
    exact ⟨by omega, extW, info, info, info, info, cell, q8⟩
  · rintro i vs n2 h2 hv ⟨q1, q2, q3, q4, q5, q6, q7, q8⟩
    rw [hset] at hv
    simp only [placesV, List.getElem?_map, Option.map_eq_some_iff] at hv
    obtain ⟨p, hv, rfl⟩ := hv
    have hil := (List.getElem?_eq_some_iff.1 hv).1
    refine VF.yield1 hA q3 rfl (.inr rfl) (by omega) ?_
    have hwz := wrap_zero (i := i) hk1 hk2 (by omega)
    by_cases hk : k = (i : Nat)
    · have hw0 := hwz.2 hk
      have hpv : pickV (wheres (truths N l)) k = (((p : Nat) : Int), true) := by
        unfold pickV
        rw [if_pos ⟨by omega, by omega⟩]
        simp [hk, List.getD, hv]
      rw [hpv]
      repeat' (first | refine stpS ?_ | (refine stp2 ?_ ?_ <;> intro _))
      refine .inr ⟨rfl, by omega, info, cell, cell⟩
    · have hw0 : ¬ IntKind.i64.wrap (k - i) = 0 := fun q => hk (hwz.1 q)
      repeat' (first | refine stpS ?_ | (refine stp2 ?_ ?_ <;> intro _))
      refine .inl ⟨rfl, by omega, extW, info, info, info, info, ?_, fun j hj => ?_⟩
      · have e : IntKind.i64.wrap (k - ((i + 1 : Nat) : Int)) = IntKind.i64.wrap (IntKind.i64.wrap (k - i) - 1) := by rw [wrap_wrap]; congr 1; omega
        rw [e]; exact cell
      · by_cases e : j = i
        · subst e; exact hk
        · exact q8 j (by omega)
  · rintro i n2 h2 ⟨q1, q2, q3, q4, q5, q6, q7, q8⟩
    exact ⟨by omega, cell, hK3.extW (n' := n2) (extW : ExtW (fun b => (n' + 1 ≤ b ∧ b ≤ n' + 1 + 1 + 1) ∨ b = n1) n1 h1 h2) (by omega) (by intro q; have := ha1.resolve_left q; have := hK3.ltA q; first | omega | (dsimp only; omega))⟩
  · refine ⟨by omega, extW, info, info, info, info, ?_, fun j hj => by omega⟩
    have e : IntKind.i64.wrap (k - ((0 : Nat) : Int)) = k := by rw [wrap64 (by omega) (by omega)]; omega
    rw [e]; exact cell
  · rintro r n2 h2 (⟨q1, q2, q3, q4, q5, q6, q7, q8⟩ | ⟨q1, q2, q3, q4⟩)
    · refine rangeC.normal q3 ?_
      repeat' (first | refine stpS ?_ | (refine stp2 ?_ ?_ <;> intro _))
      have hlen : (placesV (setL 0 (packB (truths N l)))).length = (wheres (truths N l)).length := by rw [hset, placesV, List.length_map]
      have : ¬ (0 ≤ k ∧ k < (wheres (truths N l)).length) := fun q => by
        have := q8 k.toNat (by omega)
        omega
      unfold pickV
      rw [if_neg this]
    · refine rangeC.ret q2 ?_
      repeat' (first | refine stpS ?_ | (refine stp2 ?_ ?_ <;> intro _))
      rfl
end Go.Proofs.Ytnaklmjndiodfaa
