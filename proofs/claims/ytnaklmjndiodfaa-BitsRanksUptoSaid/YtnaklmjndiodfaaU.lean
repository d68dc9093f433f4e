/- The law BitsRanks. -/
import Derived.Test.YtnaklmjndiodfaaT
namespace Go.Proofs.Ytnaklmjndiodfaa
open Go.Abs
theorem wheres_pw (t : List Bool) : (wheres t).Pairwise (· < ·) := List.Pairwise.filter _ (List.pairwise_lt_range)
theorem count_lt {l : List Nat} (h : l.Pairwise (· < ·)) (i : Nat) (hi : i < l.length) : (l.filter fun w => decide (w < l[i])).length = i := by
  have e : l = l.take i ++ l.drop i := (List.take_append_drop i l).symm
  have h1 : (l.take i).filter (fun w => decide (w < l[i])) = l.take i := by
    rw [List.filter_eq_self]
    intro w hw
    obtain ⟨j, hj, rfl⟩ := List.mem_iff_getElem.1 hw
    rw [List.getElem_take]
    have hj2 : j < i := by rw [List.length_take] at hj; omega
    simpa using List.pairwise_iff_getElem.1 h j i (by omega) hi hj2
  have h2 : (l.drop i).filter (fun w => decide (w < l[i])) = [] := by
    rw [List.filter_eq_nil_iff]
    intro w hw
    obtain ⟨j, hj, rfl⟩ := List.mem_iff_getElem.1 hw
    rw [List.getElem_drop]
    rw [List.length_drop] at hj
    rcases Nat.eq_zero_or_pos j with h0 | h0
    · subst h0; simp
    · have := List.pairwise_iff_getElem.1 h i (i + j) hi (by omega) (by omega)
      simp; omega
  have h3 : l.filter (fun w => decide (w < l[i])) = (l.take i ++ l.drop i).filter (fun w => decide (w < l[i])) := by rw [← e]
  rw [h3, List.filter_append, h1, h2, List.append_nil, List.length_take]; omega
set_option maxHeartbeats 4000000 in
theorem law_BitsRanks (t : List Bool) (c : Option Addr) (n : Nat) (h : AH) (S : SlT h n c t) (hl : t.length ≤ 1048576) (hn : 0 < n) :
    RF Try.prog none' 6 #[.slice c t.length t.length] n h (fun r _ _ => r = .bool true) := by
  refine RF.of Try.func6 rfl rfl (Nat.le_of_ble_eq_true rfl) ?_; dsimp only [argEnv]
  repeat' (first | refine stpS ?_ | (refine stp2 ?_ ?_ <;> intro _))
  refine RS.call rfl opds (of_rf t c _ _ _ (S.ext ext (by omega)) rfl (by omega)) none'W ?_
  rintro r n1 h1 hle ⟨a1, rfl, hE1, hO1⟩
  have hS1 := hO1.slbE
  have hpl := packB_length t
  have htp := truths_pack t
  have hwl := wheres_le t
  repeat' (first | refine stpS ?_ | (refine stp2 ?_ ?_ <;> intro _) | refine RS.call1 rfl opds (begun_ev _ _) none'W ?_)
  refine RS.call rfl opds (all_rf t.length (packB t) a1 _ _ _ (hS1.ext ext (by omega)) rfl (by omega)) none'W ?_
  rintro r n3 h3 hle3 ⟨bc, a3, rfl, hE3, hbc, ha3, hK⟩
  rw [htp] at hK
  repeat' (first | refine stpS ?_ | (refine stp2 ?_ ?_ <;> intro _))
  refine RC.gen (fun g => Ext n h g ∧ Ext n3 h3 g ∧ SlB g n3 a1 (packB t) ∧ g.info (n + 1) = some ⟨1, 0, true, 0⟩ ∧ g.info (n1 + 1) = some ⟨1, 0, true, 0⟩ ∧ g.cell n 0 = .slice c t.length t.length ∧ g.cell n1 0 = .int .i64 t.length ∧ g.cell n1 1 = .slice a1 (packB t).length (packB t).length ∧ g.cell (n1 + 1) 0 = .int .i64 0)
    ⟨ext, ext, hS1.ext ext (by omega), info, info, cell, cell, cell, cell⟩ ?_
  rintro hb ⟨hE, hE3', hSb, i2, i4, c1, c30, c31, c4⟩
  refine RC.rangeFunc opd (env0 := [(1, .pointer (some ⟨n, 0, none⟩)), (2, .pointer (some ⟨n + 1, 0, none⟩)), (3, .pointer (some ⟨n1, 0, none⟩)), (4, .pointer (some ⟨n1 + 1, 0, none⟩))]) envs (W := fun b => b = n + 1 ∨ b = n1 + 1 ∨ b = n3) (by intro b hb; first | omega | (dsimp only at hb ⊢; omega) | (dsimp only at hb; omega) | (dsimp only; omega)) ?_
  intro A hA
  have haW : a1 ≠ none → ¬ (sb a1 = n + 1 ∨ sb a1 = n1 + 1 ∨ sb a1 = n3) := by
    intro q
    have := hO1.at'.resolve_left q
    omega
  have hit := all1_iter bc a3 (packB t) (by omega)
  rw [setL_pack] at hit
  refine (hit _ _
    (fun i n2 h2 => n3 + 1 ≤ n2 ∧ ExtW (fun b => b = n + 1 ∨ b = n1 + 1 ∨ b = n3) n3 hb h2 ∧ h2.info n3 = some (AObj.loop A).m ∧ h2.info (n + 1) = some ⟨1, 0, true, 0⟩ ∧ h2.info (n1 + 1) = some ⟨1, 0, true, 0⟩ ∧ h2.cell (n1 + 1) 0 = .int .i64 (i : Nat))
    (fun n2 h2 => False) _ _ ⟨?_, ?_⟩ ?_ ?_ (by omega)).mono ?_
  · rintro i n2 h2 n4 h4 ⟨q1, q2, q3, q4, q5, q6⟩ hn3 hE3
    exact ⟨by omega, extW, info, info, info, cell⟩
  · rintro i vs n2 h2 hv ⟨q1, q2, q3, q4, q5, q6⟩
    simp only [placesV, List.getElem?_map, Option.map_eq_some_iff] at hv
    obtain ⟨p, hv, rfl⟩ := hv
    have hil := (List.getElem?_eq_some_iff.1 hv).1
    refine VF.yield1 hA q3 rfl (by first | omega | (dsimp only; omega)) (by omega) ?_
    have hp := wheres_mem.1 (List.mem_of_getElem? hv)
    have hEx : Ext n h h2 := hE.trans (Nat.le_refl _) (q2.extM (by omega) (by intro b hb; omega))
    have hEx1 : ExtW (fun b => b = n + 1 ∨ b = n1 + 1 ∨ b = n3) n3 hb h2 := q2
    have hpk : ∀ n4 h4, n3 ≤ n4 → ExtW (fun b => b = n + 1 ∨ b = n1 + 1 ∨ b = n3) n3 hb h4 → Ev Try.prog none' 28 #[.agg #[.int .i64 t.length, .slice a1 (packB t).length (packB t).length], .int .i64 (i : Nat)] n4 h4 (.tuple #[.int .i64 (p : Nat), .bool true]) n4 h4 := fun n4 h4 r1 r2 => by
      have := pick_ev t.length (packB t) a1 (packB t).length n4 h4 (i : Nat) (hSb.extW r2 r1 haW) rfl (by omega) (by omega) (by omega)
      rw [htp] at this
      have hpv : pickV (wheres t) (i : Nat) = (((p : Nat) : Int), true) := by unfold pickV; rw [if_pos ⟨by omega, by omega⟩]; simp [List.getD, hv]
      rwa [hpv] at this
    have hrk : ∀ n4 h4, n3 ≤ n4 → ExtW (fun b => b = n + 1 ∨ b = n1 + 1 ∨ b = n3) n3 hb h4 → Ev Try.prog none' 31 #[.agg #[.int .i64 t.length, .slice a1 (packB t).length (packB t).length], .int .i64 (p : Nat)] n4 h4 (.int .i64 (i : Nat)) n4 h4 := fun n4 h4 r1 r2 => by
      have := rank_ev t.length (packB t) a1 (packB t).length n4 h4 (p : Nat) (hSb.extW r2 r1 haW) rfl (by omega)
      rw [htp, Int.toNat_natCast, wheres_take] at this
      have e2 : p = (wheres t)[i] := by
        have := (List.getElem?_eq_some_iff.1 hv).2
        exact this.symm
      rw [e2, count_lt (wheres_pw t) i hil, ← e2] at this
      exact this
    have hSt := S.ext hEx (n' := n2) (by omega)
    have hSA := hSt.sla
    have hcl : h2.cell (sb c) (so c + p) = .bool true := by
      rw [hSt.cell p (by omega)]; simp only [boolsF]; rw [hp.2]
    have hclt : sb c < n := S.lt (by omega)
    have hpl2 := hp.1
    repeat' (first | refine stp ?_ | (refine stp2 ?_ ?_ <;> intro _) | refine RS.call1 rfl opds (hpk _ _ (by omega) extW) none'W ?_ | refine RS.call1 rfl opds (hrk _ _ (by omega) extW) none'W ?_ | refine RD.call1 _ rfl opds (hpk _ _ (by omega) extW) (Nat.le_refl _) cfc (fun _ => ?_) | refine RD.call1 _ rfl opds (hrk _ _ (by omega) extW) (Nat.le_refl _) cfc (fun _ => ?_))
    exact .inl ⟨rfl, by omega, extW, info, info, info, cell⟩
  · rintro i n2 h2 ⟨q1, q2, q3, q4, q5, q6⟩
    have hWb : ∀ x, n1 + 1 + 1 ≤ x → x < n3 → ¬ (x = n + 1 ∨ x = n1 + 1 ∨ x = n3) := by omega
    refine ⟨by have := hK.1; omega, ?_, ?_⟩
    · rw [q2.cell bc 1 hK.1 (hWb _ hbc hK.1), hE3'.cell bc 1 hK.1]; exact hK.2.1
    · exact (hK.2.2.ext hE3' (Nat.le_refl _)).extW q2 (by omega) (fun q => hWb _ (ha3.resolve_left q) (hK.2.2.ltA q))
  · exact ⟨by omega, extW, info, info, info, cell⟩
  · rintro r n2 h2 (⟨q1, q2, q3, q4, q5, q6⟩ | q)
    · refine rangeC.normal q3 ?_
      rw [placesV, List.length_map] at q6
      have hct : ∀ n4 h4, n3 ≤ n4 → ExtW (fun b => b = n + 1 ∨ b = n1 + 1 ∨ b = n3) n3 hb h4 → Ev Try.prog none' 30 #[.agg #[.int .i64 t.length, .slice a1 (packB t).length (packB t).length]] n4 h4 (.int .i64 (wheres t).length) n4 h4 := fun n4 h4 r1 r2 => by
        have := count_ev t.length (packB t) a1 (packB t).length n4 h4 (hSb.extW r2 r1 haW) rfl (by omega)
        rwa [htp, onesB_pack] at this
      have hrk : ∀ n4 h4, n3 ≤ n4 → ExtW (fun b => b = n + 1 ∨ b = n1 + 1 ∨ b = n3) n3 hb h4 → Ev Try.prog none' 31 #[.agg #[.int .i64 t.length, .slice a1 (packB t).length (packB t).length], .int .i64 t.length] n4 h4 (.int .i64 (wheres t).length) n4 h4 := fun n4 h4 r1 r2 => by
        have := rank_ev t.length (packB t) a1 (packB t).length n4 h4 t.length (hSb.extW r2 r1 haW) rfl (by omega)
        rwa [htp, Int.toNat_natCast, List.take_of_length_le (Nat.le_refl _)] at this
      repeat' (first | refine stp ?_ | (refine stp2 ?_ ?_ <;> intro _) | refine RS.call1 rfl opds (hct _ _ (by omega) extW) none'W ?_ | refine RS.call1 rfl opds (hrk _ _ (by omega) extW) none'W ?_ | refine RD.call1 _ rfl opds (hct _ _ (by omega) extW) (Nat.le_refl _) cfc (fun _ => ?_) | refine RD.call1 _ rfl opds (hrk _ _ (by omega) extW) (Nat.le_refl _) cfc (fun _ => ?_))
      rfl
    · exact q.elim
end Go.Proofs.Ytnaklmjndiodfaa
