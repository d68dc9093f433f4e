/- Contracts of batches: which may be. -/
import Derived.Test.YtaagbfpbbhaclaaF
set_option linter.unusedSimpArgs false
set_option linter.unusedVariables false
namespace Go.Proofs.Ytaagbfpbbhaclaa
open Go.Abs

/-- How many values a batch holds at most. -/
structure BatE.Small (b : BatE) : Prop where
  cols : b.cols.length ≤ 1099511627776
  types : b.types.length ≤ 1099511627776
  rows : ∀ e ∈ b.cols, e.2.length ≤ 1099511627776
  sel : b.sel.length ≤ 1099511627776
  num : i64 b.num
set_option maxHeartbeats 4000000 in
theorem check_rf (ta ca sa : Option Addr) (ts : List Ty) (N : Int) (cs : List RowE) (sel : List Int) (n : Nat) (h : AH) (BT : SlTy h n ta ts) (BC : RowsR h n ca cs) (BS : SlN h n sa sel) (hr : ∀ e ∈ cs, e.2.length ≤ 1099511627776) (hs : sel.length ≤ 1099511627776) :
    RF Try.prog none' 13 #[.agg #[.slice ta ts.length ts.length, .int .i64 N, .slice ca cs.length cs.length, .slice sa sel.length sel.length]] n h (fun r n' h' => Ext n h h' ∧ ((r = .int .i64 0 ∧ BatE.may ⟨ta, ts, N, ca, cs, sa, sel⟩) ∨ (r = .int .i64 130 ∧ ¬ BatE.may ⟨ta, ts, N, ca, cs, sa, sel⟩))) := by
  refine RF.of Try.func13 rfl rfl (Nat.le_of_ble_eq_true rfl) ?_; dsimp only [argEnv]
  by_cases q1 : ts.length ≤ 32
  · by_cases q2 : cs.length = ts.length
    · by_cases q3 : 0 ≤ N
      · by_cases q4 : N ≤ 2048
        · have E0 : Ext n h (h.app (.new n ⟨4, 0, true, 0⟩ [.slice ta ts.length ts.length, .int .i64 N, .slice ca cs.length cs.length, .slice sa sel.length sel.length])) := ext
          have k1 : (h.app (.new n ⟨4, 0, true, 0⟩ [.slice ta ts.length ts.length, .int .i64 N, .slice ca cs.length cs.length, .slice sa sel.length sel.length])).cell n 1 = .int .i64 N := cell
          have k2 : (h.app (.new n ⟨4, 0, true, 0⟩ [.slice ta ts.length ts.length, .int .i64 N, .slice ca cs.length cs.length, .slice sa sel.length sel.length])).cell n 2 = .slice ca cs.length cs.length := cell
          have k3 : (h.app (.new n ⟨4, 0, true, 0⟩ [.slice ta ts.length ts.length, .int .i64 N, .slice ca cs.length cs.length, .slice sa sel.length sel.length])).cell n 3 = .slice sa sel.length sel.length := cell
          repeat' (first | refine stpS ?_ | (refine stp2 ?_ ?_ <;> intro _))
          generalize h.app (.new n ⟨4, 0, true, 0⟩ [.slice ta ts.length ts.length, .int .i64 N, .slice ca cs.length cs.length, .slice sa sel.length sel.length]) = g at *
          refine RC.loop ?_
          refine RL.inv (α := Nat) (fun y => [(34, .int .i64 (y : Nat)), (33, .int .i64 ts.length), (32, .slice ta ts.length ts.length), (1, .pointer (some ⟨n, 0, none⟩))])
            (fun y n1 h1 => y ≤ ts.length ∧ n + 1 ≤ n1 ∧ Ext (n + 1) g h1 ∧ ∀ (j : Nat) (t : Ty) (e : RowE), j < y → ts[j]? = some t → cs[j]? = some e → (e.2.length : Int) = N ∧ colMay t e.2) (fun y => ts.length - y) 0 envs ⟨by omega, Nat.le_refl _, Ext.refl _ _, fun j _ _ hj => by omega⟩ ?_
          rintro i n1 h1 ⟨hi, hn1, E1, hno⟩
          have hnn : n < n1 := by omega
          have E01 : Ext n h h1 := E0.trans (Nat.le_succ n) E1
          by_cases hlt : i < ts.length
          · obtain ⟨t, ht⟩ : ∃ t, ts[i]? = some t := ⟨_, List.getElem?_eq_getElem hlt⟩
            obtain ⟨e, he⟩ : ∃ e, cs[i]? = some e := ⟨_, List.getElem?_eq_getElem (by omega)⟩
            obtain ⟨hA, hsn, d0, d1⟩ := SlTy.at_ (SlR.ext (n' := n1) BT E01 (by omega)) ht
            obtain ⟨hB, hsn2, f0, V⟩ := (BC.ext E01 (by omega : n ≤ n1)).at_ he
            have b1 := c_ext E1 (by omega) k1
            have b2 := c_ext E1 (by omega) k2
            have hrl := hr e (List.mem_of_getElem? he)
            rw [q2] at hB b2
            obtain ⟨ea, el⟩ := e
            obtain ⟨k, s⟩ := t
            dsimp only at d0 d1 f0 V hrl
            have V1 : SlV ((h1.app (.new n1 ⟨2, 0, true, 0⟩ [.int .i64 0, .int .i64 0])).app (.sets n1 0 [.int .i64 k, .int .i64 s])) (n1 + 1) ea el := SlR.ext V ext (Nat.le_succ n1)
            by_cases w1 : (el.length : Int) = N
            · repeat' (first | refine stpS ?_ | (refine stp2 ?_ ?_ <;> intro _))
              repeat' (first | refine stp ?_ | (refine stp2 ?_ ?_ <;> intro _))
              refine RD.call (n1 + 1) rfl opds (column_rf k s el ea (n1 + 1) _ (SlR.ext V1 (AH.below_ext _ _) (Nat.le_refl _)) hrl) (Nat.le_refl _) cfc ?_
              rintro r n2 h2 hle2 ⟨e2, rfl⟩
              have E2 : Ext (n1 + 1) _ h2 := e2.via (Nat.le_refl _) (AH.below_ext ((h1.app (.new n1 ⟨2, 0, true, 0⟩ [.int .i64 0, .int .i64 0])).app (.sets n1 0 [.int .i64 k, .int .i64 s])) (n1 + 1))
              by_cases w2 : colMay ⟨k, s⟩ el
              · rw [decide_eq_true w2]
                repeat' (first | refine stp ?_ | (refine stp2 ?_ ?_ <;> intro _))
                refine nextC.normal ⟨i + 1, by omega, envs, by omega, by omega, ?_, fun j t e hj h3 h4 => ?_⟩
                · have Ea : Ext n1 h1 ((h1.app (.new n1 ⟨2, 0, true, 0⟩ [.int .i64 0, .int .i64 0])).app (.sets n1 0 [.int .i64 k, .int .i64 s])) := ext
                  exact E1.trans hn1 (Ea.trans (Nat.le_succ n1) E2)
                · by_cases hji : j < i
                  · exact hno j t e hji h3 h4
                  · obtain rfl : j = i := by omega
                    rw [ht] at h3; rw [he] at h4
                    cases h3; cases h4
                    exact ⟨w1, w2⟩
              · rw [decide_eq_false w2]
                repeat' (first | refine stp ?_ | (refine stp2 ?_ ?_ <;> intro _))
                have Ea : Ext n1 h1 ((h1.app (.new n1 ⟨2, 0, true, 0⟩ [.int .i64 0, .int .i64 0])).app (.sets n1 0 [.int .i64 k, .int .i64 s])) := ext
                exact ⟨E01.trans (by omega) (Ea.trans (Nat.le_succ n1) E2), .inr ⟨rfl, fun q => w2 (q.2.2.2.2.1 i _ _ ht he).2⟩⟩
            · repeat' (first | refine stpS ?_ | (refine stp2 ?_ ?_ <;> intro _))
              repeat' (first | refine stp ?_ | (refine stp2 ?_ ?_ <;> intro _))
              have Ea : Ext n1 h1 ((h1.app (.new n1 ⟨2, 0, true, 0⟩ [.int .i64 0, .int .i64 0])).app (.sets n1 0 [.int .i64 k, .int .i64 s])) := ext
              exact ⟨E01.trans (by omega) Ea, .inr ⟨rfl, fun q => w1 (q.2.2.2.2.1 i _ _ ht he).1⟩⟩
          · have hie : i = ts.length := by omega
            subst hie
            have hcol : colsP N ts cs := fun j t e h3 h4 => hno j t e (List.getElem?_eq_some_iff.1 h3).1 h3 h4
            have b3 := c_ext E1 (by omega) k3
            repeat' (first | refine stpS ?_ | (refine stp2 ?_ ?_ <;> intro _))
            refine RC.loop ?_
            refine RL.inv (α := Nat × Int) (fun y => [(62, .int .i64 (y.1 : Nat)), (61, .int .i64 sel.length), (60, .slice sa sel.length sel.length), (5, .int .i64 y.2), (1, .pointer (some ⟨n, 0, none⟩))])
              (fun y n2 h2 => y.1 ≤ sel.length ∧ n1 ≤ n2 ∧ h2 = h1 ∧ (y.1 = 0 → y.2 = -1) ∧ -1 ≤ y.2 ∧ (∀ (j : Nat) (p : Int), j + 1 = y.1 → sel[j]? = some p → y.2 = p) ∧ ∀ (j : Nat) (k : Int), j < y.1 → sel[j]? = some k → k < N ∧ 0 ≤ k ∧ ∀ (j' : Nat) (p : Int), j' + 1 = j → sel[j']? = some p → p < k) (fun y => sel.length - y.1) (0, -1) envs
              ⟨by omega, Nat.le_refl _, rfl, fun _ => rfl, by decide, fun j p hj => by simp at hj, fun j k hj => by simp at hj⟩ ?_
            rintro ⟨i, last⟩ n2 h2 ⟨hi2, hn2, rfl, hl0, hl1, hlp, hsl⟩
            dsimp only at hi2 hl0 hl1 hlp hsl ⊢
            by_cases hlt2 : i < sel.length
            · obtain ⟨k, hk⟩ : ∃ k, sel[i]? = some k := ⟨_, List.getElem?_eq_getElem hlt2⟩
              have S1 : SlN h2 n1 sa sel := SlR.ext BS E01 (by omega)
              have hA : SlA sa sel.length := S1.sla
              have hb1 : sb sa < n2 := Nat.lt_of_lt_of_le (S1.lt (by omega)) hn2
              have hnn2 : n < n2 := by omega
              have d0 : h2.cell (sb sa) (so sa + i) = .int .i64 k := (S1.cell i (by omega)).trans (by simp [List.getD, hk])
              have b1 := c_ext E1 (by omega) k1
              by_cases w1 : last < k
              · by_cases w2 : k < N
                · repeat' (first | refine stpS ?_ | (refine stp2 ?_ ?_ <;> intro _))
                  refine nextC.normal ⟨(i + 1, k), by dsimp only; omega, envs, by dsimp only; omega, hn2, rfl, fun q => by simp at q, by dsimp only; omega, fun j p hj hp => ?_, fun j k' hj hp => ?_⟩
                  · dsimp only at hj ⊢
                    obtain rfl : j = i := by omega
                    rw [hk] at hp; cases hp; rfl
                  · dsimp only at hj
                    by_cases e : j < i
                    · exact hsl j k' e hp
                    · obtain rfl : j = i := by omega
                      rw [hk] at hp; cases hp
                      refine ⟨w2, by omega, fun j' p hj' hp' => ?_⟩
                      have := hlp j' p hj' hp'
                      omega
                · repeat' (first | refine stpS ?_ | (refine stp2 ?_ ?_ <;> intro _))
                  exact ⟨E01, .inr ⟨rfl, fun q => w2 (q.2.2.2.2.2 i k hk).1⟩⟩
              · repeat' (first | refine stpS ?_ | (refine stp2 ?_ ?_ <;> intro _))
                refine ⟨E01, .inr ⟨rfl, fun q => ?_⟩⟩
                have hq := q.2.2.2.2.2 i k hk
                by_cases e : i = 0
                · have := hl0 e
                  have := hq.2.1
                  omega
                · obtain ⟨p, hp⟩ : ∃ p, sel[i - 1]? = some p := ⟨_, List.getElem?_eq_getElem (by omega)⟩
                  have h1 := hlp (i - 1) p (by omega) hp
                  have h2 := hq.2.2 (i - 1) p (by omega) hp
                  omega
            · repeat' (first | refine stpS ?_ | (refine stp2 ?_ ?_ <;> intro _))
              refine ⟨E01, .inl ⟨rfl, q1, q2, q3, q4, hcol, fun j k hk => hsl j k ?_ hk⟩⟩
              have hjl : j < sel.length := (List.getElem?_eq_some_iff.1 hk).1
              show j < i
              omega
        · repeat' (first | refine stpS ?_ | (refine stp2 ?_ ?_ <;> intro _))
          exact ⟨ext, .inr ⟨rfl, fun q => q4 q.2.2.2.1⟩⟩
      · repeat' (first | refine stpS ?_ | (refine stp2 ?_ ?_ <;> intro _))
        exact ⟨ext, .inr ⟨rfl, fun q => q3 q.2.2.1⟩⟩
    · repeat' (first | refine stpS ?_ | (refine stp2 ?_ ?_ <;> intro _))
      exact ⟨ext, .inr ⟨rfl, fun q => q2 q.2.1⟩⟩
  · repeat' (first | refine stpS ?_ | (refine stp2 ?_ ?_ <;> intro _))
    exact ⟨ext, .inr ⟨rfl, fun q => q1 q.1⟩⟩
end Go.Proofs.Ytaagbfpbbhaclaa
