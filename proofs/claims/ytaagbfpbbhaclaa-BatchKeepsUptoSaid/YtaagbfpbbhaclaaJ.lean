/- Contracts of batches: which may be, by the document. -/
import Derived.Test.YtaagbfpbbhaclaaJ0
set_option linter.unusedSimpArgs false
set_option linter.unusedVariables false
namespace Go.Proofs.Ytaagbfpbbhaclaa
open Go.Abs

set_option maxHeartbeats 4000000 in
theorem refCheck13_rf (ta ca sa : Option Addr) (ts : List Ty) (N : Int) (cs : List RowE) (sel : List Int) (n : Nat) (h : AH) (BT : SlTy h n ta ts) (BC : RowsR h n ca cs) (BS : SlN h n sa sel) (hr : ∀ e ∈ cs, e.2.length ≤ 1099511627776) (hs : sel.length ≤ 1099511627776) (htl : ts.length ≤ 1099511627776) :
    RF Try.prog none' 14 #[.agg #[.slice ta ts.length ts.length, .int .i64 N, .slice ca cs.length cs.length, .slice sa sel.length sel.length]] n h (fun r n' h' => Ext n h h' ∧ ((r = .int .i64 0 ∧ BatE.may ⟨ta, ts, N, ca, cs, sa, sel⟩) ∨ (r = .int .i64 130 ∧ ¬ BatE.may ⟨ta, ts, N, ca, cs, sa, sel⟩))) := by
  by_cases hb : ts.length ≤ 32 ∧ ts.length = cs.length ∧ 0 ≤ N ∧ N ≤ 2048
  case neg =>
    refine (refCheck13_bad ta ca sa ts N cs sel n h hb htl hs).mono ?_
    rintro r n' h' ⟨e, rfl⟩
    exact ⟨e, .inr ⟨rfl, fun q => hb ⟨q.1, q.2.1.symm, q.2.2.1, q.2.2.2.1⟩⟩⟩
  refine RF.of Try.func14 rfl rfl (Nat.le_of_ble_eq_true rfl) ?_; dsimp only [argEnv]
  have E0 : Ext n h (h.app (.new n ⟨4, 0, true, 0⟩ [.slice ta ts.length ts.length, .int .i64 N, .slice ca cs.length cs.length, .slice sa sel.length sel.length])) := ext
  have k0 : (h.app (.new n ⟨4, 0, true, 0⟩ [.slice ta ts.length ts.length, .int .i64 N, .slice ca cs.length cs.length, .slice sa sel.length sel.length])).cell n 0 = .slice ta ts.length ts.length := cell
  have k1 : (h.app (.new n ⟨4, 0, true, 0⟩ [.slice ta ts.length ts.length, .int .i64 N, .slice ca cs.length cs.length, .slice sa sel.length sel.length])).cell n 1 = .int .i64 N := cell
  have k2 : (h.app (.new n ⟨4, 0, true, 0⟩ [.slice ta ts.length ts.length, .int .i64 N, .slice ca cs.length cs.length, .slice sa sel.length sel.length])).cell n 2 = .slice ca cs.length cs.length := cell
  have k3 : (h.app (.new n ⟨4, 0, true, 0⟩ [.slice ta ts.length ts.length, .int .i64 N, .slice ca cs.length cs.length, .slice sa sel.length sel.length])).cell n 3 = .slice sa sel.length sel.length := cell
  obtain ⟨q1, q2, q3, q4⟩ := hb
  repeat' (first | refine stpS ?_ | (refine stp2 ?_ ?_ <;> intro _))
  generalize h.app (.new n ⟨4, 0, true, 0⟩ [.slice ta ts.length ts.length, .int .i64 N, .slice ca cs.length cs.length, .slice sa sel.length sel.length]) = g at *
  refine RC.loop ?_
  refine RL.inv (α := Nat × Bool) (fun y => [(4, .int .i64 (y.1 : Nat)), (3, .bool y.2), (1, .pointer (some ⟨n, 0, none⟩))])
    (fun y n1 h1 => y.1 ≤ ts.length ∧ n + 1 ≤ n1 ∧ Ext (n + 1) g h1 ∧ (y.2 = true ↔ ∀ (j : Nat) (t : Ty) (e : RowE), j < y.1 → ts[j]? = some t → cs[j]? = some e → (e.2.length : Int) = N ∧ colMay t e.2)) (fun y => ts.length - y.1) (0, true) envs ⟨by omega, Nat.le_refl _, Ext.refl _ _, by simp⟩ ?_
  rintro ⟨i, ok⟩ n1 h1 ⟨hi, hn1, E1, hok⟩
  dsimp only at hi hok ⊢
  have hnn : n < n1 := by omega
  have E01 : Ext n h h1 := E0.trans (Nat.le_succ n) E1
  have b0 := c_ext E1 (by omega) k0
  have b1 := c_ext E1 (by omega) k1
  have b2 := c_ext E1 (by omega) k2
  by_cases hgo : i < ts.length ∧ ok = true
  · obtain ⟨hlt, rfl⟩ := hgo
    obtain ⟨t, ht⟩ : ∃ t, ts[i]? = some t := ⟨_, List.getElem?_eq_getElem hlt⟩
    obtain ⟨e, he⟩ : ∃ e, cs[i]? = some e := ⟨_, List.getElem?_eq_getElem (by omega)⟩
    obtain ⟨hA, hsn, d0, d1⟩ := SlTy.at_ (SlR.ext (n' := n1) BT E01 (by omega)) ht
    obtain ⟨hB, hsn2, f0, V⟩ := (BC.ext E01 (by omega : n ≤ n1)).at_ he
    have hrl := hr e (List.mem_of_getElem? he)
    obtain ⟨ea, el⟩ := e
    obtain ⟨k, s⟩ := t
    dsimp only at d0 d1 f0 V hrl
    repeat' (first | refine stpS ?_ | (refine stp2 ?_ ?_ <;> intro _))
    repeat' (first | refine stp ?_ | (refine stp2 ?_ ?_ <;> intro _))
    refine RD.call n1 rfl opds (refColumn_rf k s el ea N n1 _ (SlR.ext V (AH.below_ext _ _) (Nat.le_refl _)) hrl) (Nat.le_refl _) cfc ?_
    rintro r n2 h2 hle2 ⟨e2, rfl⟩
    have E2 : Ext n1 h1 h2 := e2.via (Nat.le_refl _) (AH.below_ext h1 n1)
    repeat' (first | refine stp ?_ | (refine stp2 ?_ ?_ <;> intro _))
    refine nextC.normal ⟨(i + 1, decide (colMay ⟨k, s⟩ el ∧ (el.length : Int) = N)), by dsimp only; omega, envs, by dsimp only; omega, by omega, E1.trans hn1 E2, ?_⟩
    dsimp only
    rw [decide_eq_true_iff]
    constructor
    · rintro ⟨w2, w1⟩ j t e hj h3 h4
      by_cases hji : j < i
      · exact hok.1 rfl j t e hji h3 h4
      · obtain rfl : j = i := by omega
        rw [ht] at h3; rw [he] at h4
        cases h3; cases h4
        exact ⟨w1, w2⟩
    · intro q
      have := q i _ _ (by omega) ht he
      exact ⟨this.2, this.1⟩
  · have hQ : ok = true ↔ colsP N ts cs := by
      constructor
      · intro e j t x h3 h4
        have hj := (List.getElem?_eq_some_iff.1 h3).1
        exact hok.1 e j t x (by
          have : ¬ i < ts.length := fun q => hgo ⟨q, e⟩
          omega) h3 h4
      · intro q; exact hok.2 fun j t x _ h3 h4 => q j t x h3 h4
    have b3 := c_ext E1 (by omega) k3
    by_cases hlt : i < ts.length
    · obtain rfl : ok = false := by
        cases ok
        · rfl
        · exact absurd ⟨hlt, rfl⟩ hgo
      repeat' (first | refine stpS ?_ | (refine stp2 ?_ ?_ <;> intro _))
      refine RC.loop ?_
      refine RL.inv (α := Nat × Bool) (fun y => [(5, .int .i64 (y.1 : Nat)), (3, .bool y.2), (1, .pointer (some ⟨n, 0, none⟩))])
        (fun y n2 h2 => y.1 ≤ sel.length ∧ n1 ≤ n2 ∧ h2 = h1 ∧ (y.2 = true ↔ colsP N ts cs ∧ selP N (sel.take y.1))) (fun y => sel.length - y.1) (0, false) envs ⟨by omega, Nat.le_refl _, rfl, ⟨fun e => ⟨hQ.1 e, fun j k hj => by simp at hj⟩, fun q => hQ.2 q.1⟩⟩ ?_
      rintro ⟨j, ok2⟩ n2 h2 ⟨hj, hn2, rfl, hok2⟩
      dsimp only at hj hok2 ⊢
      have hnn2 : n < n2 := by omega
      by_cases hgo2 : j < sel.length ∧ ok2 = true
      · obtain ⟨hlt2, rfl⟩ := hgo2
        obtain ⟨k, hk⟩ : ∃ k, sel[j]? = some k := ⟨_, List.getElem?_eq_getElem hlt2⟩
        have S1 : SlN h2 n1 sa sel := SlR.ext BS E01 (by omega)
        have hA : SlA sa sel.length := S1.sla
        have hb1 : sb sa < n2 := Nat.lt_of_lt_of_le (S1.lt (by omega)) hn2
        have d0 : h2.cell (sb sa) (so sa + j) = .int .i64 k := (S1.cell j (by omega)).trans (by simp [List.getD, hk])
        have hbase := hok2.1 rfl
        have hst := selP_take (N := N) hk
        by_cases w0 : 0 ≤ k
        · by_cases w1 : k < N
          · by_cases wj : j = 0
            · repeat' (first | refine stpS ?_ | (refine stp2 ?_ ?_ <;> intro _))
              repeat' (first | refine stp ?_ | (refine stp2 ?_ ?_ <;> intro _))
              refine nextC.normal ⟨(j + 1, true), by dsimp only; omega, envs, by dsimp only; omega, hn2, rfl, ⟨fun _ => ⟨hbase.1, hst.1 ⟨hbase.2, w0, w1, .inl wj⟩⟩, fun _ => rfl⟩⟩
            · obtain ⟨p, hp⟩ : ∃ p, sel[j - 1]? = some p := ⟨_, List.getElem?_eq_getElem (by omega)⟩
              have ejj : ((j : Int) - 1).toNat = j - 1 := by omega
              have d1 : h2.cell (sb sa) (so sa + ((j : Int) - 1).toNat) = .int .i64 p := by
                rw [ejj]
                exact (S1.cell (j - 1) (by omega)).trans (by simp [List.getD, hp])
              by_cases wp : p < k
              · repeat' (first | refine stpS ?_ | (refine stp2 ?_ ?_ <;> intro _))
                repeat' (first | refine stp ?_ | (refine stp2 ?_ ?_ <;> intro _))
                refine nextC.normal ⟨(j + 1, true), by dsimp only; omega, envs, by dsimp only; omega, hn2, rfl, ⟨fun _ => ⟨hbase.1, hst.1 ⟨hbase.2, w0, w1, .inr ⟨p, hp, wp⟩⟩⟩, fun _ => rfl⟩⟩
              · repeat' (first | refine stpS ?_ | (refine stp2 ?_ ?_ <;> intro _))
                repeat' (first | refine stp ?_ | (refine stp2 ?_ ?_ <;> intro _))
                refine nextC.normal ⟨(j + 1, false), by dsimp only; omega, envs, by dsimp only; omega, hn2, rfl, ⟨fun q => (by cases q), fun q => ?_⟩⟩
                exfalso
                rcases (hst.2 q.2).2.2.2 with z | ⟨p', hp', z⟩
                · exact wj z
                · rw [hp] at hp'; cases hp'; exact wp z
          · repeat' (first | refine stpS ?_ | (refine stp2 ?_ ?_ <;> intro _))
            repeat' (first | refine stp ?_ | (refine stp2 ?_ ?_ <;> intro _))
            refine nextC.normal ⟨(j + 1, false), by dsimp only; omega, envs, by dsimp only; omega, hn2, rfl, ⟨fun q => (by cases q), fun q => absurd (hst.2 q.2).2.2.1 w1⟩⟩
        · repeat' (first | refine stpS ?_ | (refine stp2 ?_ ?_ <;> intro _))
          repeat' (first | refine stp ?_ | (refine stp2 ?_ ?_ <;> intro _))
          refine nextC.normal ⟨(j + 1, false), by dsimp only; omega, envs, by dsimp only; omega, hn2, rfl, ⟨fun q => (by cases q), fun q => absurd (hst.2 q.2).2.1 w0⟩⟩
      · have hfin : ok2 = true ↔ BatE.may ⟨ta, ts, N, ca, cs, sa, sel⟩ := by
          constructor
          · intro e
            have hje : sel.length ≤ j := Nat.le_of_not_lt fun q => hgo2 ⟨q, e⟩
            have := hok2.1 e
            rw [List.take_of_length_le hje] at this
            exact ⟨q1, q2.symm, q3, q4, this.1, this.2⟩
          · intro q; exact hok2.2 ⟨q.2.2.2.2.1, selP_mono q.2.2.2.2.2⟩
        by_cases hlt2 : j < sel.length
        · obtain rfl : ok2 = false := by
            cases ok2
            · rfl
            · exact absurd ⟨hlt2, rfl⟩ hgo2
          repeat' (first | refine stpS ?_ | (refine stp2 ?_ ?_ <;> intro _))
          exact ⟨E01, .inr ⟨rfl, fun q => by have := hfin.2 q; cases this⟩⟩
        · cases ok2
          · repeat' (first | refine stpS ?_ | (refine stp2 ?_ ?_ <;> intro _))
            exact ⟨E01, .inr ⟨rfl, fun q => by have := hfin.2 q; cases this⟩⟩
          · repeat' (first | refine stpS ?_ | (refine stp2 ?_ ?_ <;> intro _))
            exact ⟨E01, .inl ⟨rfl, hfin.1 rfl⟩⟩
    · repeat' (first | refine stpS ?_ | (refine stp2 ?_ ?_ <;> intro _))
      refine RC.loop ?_
      refine RL.inv (α := Nat × Bool) (fun y => [(5, .int .i64 (y.1 : Nat)), (3, .bool y.2), (1, .pointer (some ⟨n, 0, none⟩))])
        (fun y n2 h2 => y.1 ≤ sel.length ∧ n1 ≤ n2 ∧ h2 = h1 ∧ (y.2 = true ↔ colsP N ts cs ∧ selP N (sel.take y.1))) (fun y => sel.length - y.1) (0, ok) envs ⟨by omega, Nat.le_refl _, rfl, ⟨fun e => ⟨hQ.1 e, fun j k hj => by simp at hj⟩, fun q => hQ.2 q.1⟩⟩ ?_
      rintro ⟨j, ok2⟩ n2 h2 ⟨hj, hn2, rfl, hok2⟩
      dsimp only at hj hok2 ⊢
      have hnn2 : n < n2 := by omega
      by_cases hgo2 : j < sel.length ∧ ok2 = true
      · obtain ⟨hlt2, rfl⟩ := hgo2
        obtain ⟨k, hk⟩ : ∃ k, sel[j]? = some k := ⟨_, List.getElem?_eq_getElem hlt2⟩
        have S1 : SlN h2 n1 sa sel := SlR.ext BS E01 (by omega)
        have hA : SlA sa sel.length := S1.sla
        have hb1 : sb sa < n2 := Nat.lt_of_lt_of_le (S1.lt (by omega)) hn2
        have d0 : h2.cell (sb sa) (so sa + j) = .int .i64 k := (S1.cell j (by omega)).trans (by simp [List.getD, hk])
        have hbase := hok2.1 rfl
        have hst := selP_take (N := N) hk
        by_cases w0 : 0 ≤ k
        · by_cases w1 : k < N
          · by_cases wj : j = 0
            · repeat' (first | refine stpS ?_ | (refine stp2 ?_ ?_ <;> intro _))
              repeat' (first | refine stp ?_ | (refine stp2 ?_ ?_ <;> intro _))
              refine nextC.normal ⟨(j + 1, true), by dsimp only; omega, envs, by dsimp only; omega, hn2, rfl, ⟨fun _ => ⟨hbase.1, hst.1 ⟨hbase.2, w0, w1, .inl wj⟩⟩, fun _ => rfl⟩⟩
            · obtain ⟨p, hp⟩ : ∃ p, sel[j - 1]? = some p := ⟨_, List.getElem?_eq_getElem (by omega)⟩
              have ejj : ((j : Int) - 1).toNat = j - 1 := by omega
              have d1 : h2.cell (sb sa) (so sa + ((j : Int) - 1).toNat) = .int .i64 p := by
                rw [ejj]
                exact (S1.cell (j - 1) (by omega)).trans (by simp [List.getD, hp])
              by_cases wp : p < k
              · repeat' (first | refine stpS ?_ | (refine stp2 ?_ ?_ <;> intro _))
                repeat' (first | refine stp ?_ | (refine stp2 ?_ ?_ <;> intro _))
                refine nextC.normal ⟨(j + 1, true), by dsimp only; omega, envs, by dsimp only; omega, hn2, rfl, ⟨fun _ => ⟨hbase.1, hst.1 ⟨hbase.2, w0, w1, .inr ⟨p, hp, wp⟩⟩⟩, fun _ => rfl⟩⟩
              · repeat' (first | refine stpS ?_ | (refine stp2 ?_ ?_ <;> intro _))
                repeat' (first | refine stp ?_ | (refine stp2 ?_ ?_ <;> intro _))
                refine nextC.normal ⟨(j + 1, false), by dsimp only; omega, envs, by dsimp only; omega, hn2, rfl, ⟨fun q => (by cases q), fun q => ?_⟩⟩
                exfalso
                rcases (hst.2 q.2).2.2.2 with z | ⟨p', hp', z⟩
                · exact wj z
                · rw [hp] at hp'; cases hp'; exact wp z
          · repeat' (first | refine stpS ?_ | (refine stp2 ?_ ?_ <;> intro _))
            repeat' (first | refine stp ?_ | (refine stp2 ?_ ?_ <;> intro _))
            refine nextC.normal ⟨(j + 1, false), by dsimp only; omega, envs, by dsimp only; omega, hn2, rfl, ⟨fun q => (by cases q), fun q => absurd (hst.2 q.2).2.2.1 w1⟩⟩
        · repeat' (first | refine stpS ?_ | (refine stp2 ?_ ?_ <;> intro _))
          repeat' (first | refine stp ?_ | (refine stp2 ?_ ?_ <;> intro _))
          refine nextC.normal ⟨(j + 1, false), by dsimp only; omega, envs, by dsimp only; omega, hn2, rfl, ⟨fun q => (by cases q), fun q => absurd (hst.2 q.2).2.1 w0⟩⟩
      · have hfin : ok2 = true ↔ BatE.may ⟨ta, ts, N, ca, cs, sa, sel⟩ := by
          constructor
          · intro e
            have hje : sel.length ≤ j := Nat.le_of_not_lt fun q => hgo2 ⟨q, e⟩
            have := hok2.1 e
            rw [List.take_of_length_le hje] at this
            exact ⟨q1, q2.symm, q3, q4, this.1, this.2⟩
          · intro q; exact hok2.2 ⟨q.2.2.2.2.1, selP_mono q.2.2.2.2.2⟩
        by_cases hlt2 : j < sel.length
        · obtain rfl : ok2 = false := by
            cases ok2
            · rfl
            · exact absurd ⟨hlt2, rfl⟩ hgo2
          repeat' (first | refine stpS ?_ | (refine stp2 ?_ ?_ <;> intro _))
          exact ⟨E01, .inr ⟨rfl, fun q => by have := hfin.2 q; cases this⟩⟩
        · cases ok2
          · repeat' (first | refine stpS ?_ | (refine stp2 ?_ ?_ <;> intro _))
            exact ⟨E01, .inr ⟨rfl, fun q => by have := hfin.2 q; cases this⟩⟩
          · repeat' (first | refine stpS ?_ | (refine stp2 ?_ ?_ <;> intro _))
            exact ⟨E01, .inl ⟨rfl, hfin.1 rfl⟩⟩
end Go.Proofs.Ytaagbfpbbhaclaa
