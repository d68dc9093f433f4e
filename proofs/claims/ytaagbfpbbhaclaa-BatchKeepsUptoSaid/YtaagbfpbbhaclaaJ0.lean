/- Contracts of batches: batches whose lengths may not be, by the document. -/
import Derived.Test.YtaagbfpbbhaclaaI
set_option linter.unusedSimpArgs false
set_option linter.unusedVariables false
namespace Go.Proofs.Ytaagbfpbbhaclaa
open Go.Abs

set_option maxHeartbeats 4000000 in
theorem refCheck13_bad (ta ca sa : Option Addr) (ts : List Ty) (N : Int) (cs : List RowE) (sel : List Int) (n : Nat) (h : AH) (hb : ¬ (ts.length ≤ 32 ∧ ts.length = cs.length ∧ 0 ≤ N ∧ N ≤ 2048)) (htl : ts.length ≤ 1099511627776) (hs : sel.length ≤ 1099511627776) :
    RF Try.prog none' 14 #[.agg #[.slice ta ts.length ts.length, .int .i64 N, .slice ca cs.length cs.length, .slice sa sel.length sel.length]] n h (fun r n' h' => Ext n h h' ∧ r = .int .i64 130) := by
  refine RF.of Try.func14 rfl rfl (Nat.le_of_ble_eq_true rfl) ?_; dsimp only [argEnv]
  have E0 : Ext n h (h.app (.new n ⟨4, 0, true, 0⟩ [.slice ta ts.length ts.length, .int .i64 N, .slice ca cs.length cs.length, .slice sa sel.length sel.length])) := ext
  have k0 : (h.app (.new n ⟨4, 0, true, 0⟩ [.slice ta ts.length ts.length, .int .i64 N, .slice ca cs.length cs.length, .slice sa sel.length sel.length])).cell n 0 = .slice ta ts.length ts.length := cell
  have k3 : (h.app (.new n ⟨4, 0, true, 0⟩ [.slice ta ts.length ts.length, .int .i64 N, .slice ca cs.length cs.length, .slice sa sel.length sel.length])).cell n 3 = .slice sa sel.length sel.length := cell
  have k1 : (h.app (.new n ⟨4, 0, true, 0⟩ [.slice ta ts.length ts.length, .int .i64 N, .slice ca cs.length cs.length, .slice sa sel.length sel.length])).cell n 1 = .int .i64 N := cell
  have k2 : (h.app (.new n ⟨4, 0, true, 0⟩ [.slice ta ts.length ts.length, .int .i64 N, .slice ca cs.length cs.length, .slice sa sel.length sel.length])).cell n 2 = .slice ca cs.length cs.length := cell
  by_cases q1 : ts.length ≤ 32
  · by_cases q2 : ts.length = cs.length
    · by_cases q3 : 0 ≤ N
      · have q4 : ¬ N ≤ 2048 := fun q4 => hb ⟨q1, q2, q3, q4⟩
        repeat' (first | refine stpS ?_ | (refine stp2 ?_ ?_ <;> intro _))
        generalize h.app (.new n ⟨4, 0, true, 0⟩ [.slice ta ts.length ts.length, .int .i64 N, .slice ca cs.length cs.length, .slice sa sel.length sel.length]) = g at *
        refine RC.loop ?_
        refine RL.inv (α := Unit) (fun _ => [(4, .int .i64 0), (3, .bool false), (1, .pointer (some ⟨n, 0, none⟩))]) (fun _ n1 h1 => n1 = n + 1 ∧ h1 = g) (fun _ => 0) () envs ⟨rfl, rfl⟩ ?_
        rintro _ n1 h1 ⟨rfl, rfl⟩
        by_cases w : 0 < ts.length
        · repeat' (first | refine stpS ?_ | (refine stp2 ?_ ?_ <;> intro _))
          refine RC.loop ?_
          refine RL.inv (α := Unit) (fun _ => [(5, .int .i64 0), (3, .bool false), (1, .pointer (some ⟨n, 0, none⟩))]) (fun _ n2 h2 => n2 = n + 1 ∧ h2 = h1) (fun _ => 0) () envs ⟨rfl, rfl⟩ ?_
          rintro _ n2 h2 ⟨rfl, rfl⟩
          by_cases w2 : 0 < sel.length
          · repeat' (first | refine stpS ?_ | (refine stp2 ?_ ?_ <;> intro _))
            exact ⟨E0, rfl⟩
          · repeat' (first | refine stpS ?_ | (refine stp2 ?_ ?_ <;> intro _))
            exact ⟨E0, rfl⟩
        · repeat' (first | refine stpS ?_ | (refine stp2 ?_ ?_ <;> intro _))
          refine RC.loop ?_
          refine RL.inv (α := Unit) (fun _ => [(5, .int .i64 0), (3, .bool false), (1, .pointer (some ⟨n, 0, none⟩))]) (fun _ n2 h2 => n2 = n + 1 ∧ h2 = h1) (fun _ => 0) () envs ⟨rfl, rfl⟩ ?_
          rintro _ n2 h2 ⟨rfl, rfl⟩
          by_cases w2 : 0 < sel.length
          · repeat' (first | refine stpS ?_ | (refine stp2 ?_ ?_ <;> intro _))
            exact ⟨E0, rfl⟩
          · repeat' (first | refine stpS ?_ | (refine stp2 ?_ ?_ <;> intro _))
            exact ⟨E0, rfl⟩
      · repeat' (first | refine stpS ?_ | (refine stp2 ?_ ?_ <;> intro _))
        generalize h.app (.new n ⟨4, 0, true, 0⟩ [.slice ta ts.length ts.length, .int .i64 N, .slice ca cs.length cs.length, .slice sa sel.length sel.length]) = g at *
        refine RC.loop ?_
        refine RL.inv (α := Unit) (fun _ => [(4, .int .i64 0), (3, .bool false), (1, .pointer (some ⟨n, 0, none⟩))]) (fun _ n1 h1 => n1 = n + 1 ∧ h1 = g) (fun _ => 0) () envs ⟨rfl, rfl⟩ ?_
        rintro _ n1 h1 ⟨rfl, rfl⟩
        by_cases w : 0 < ts.length
        · repeat' (first | refine stpS ?_ | (refine stp2 ?_ ?_ <;> intro _))
          refine RC.loop ?_
          refine RL.inv (α := Unit) (fun _ => [(5, .int .i64 0), (3, .bool false), (1, .pointer (some ⟨n, 0, none⟩))]) (fun _ n2 h2 => n2 = n + 1 ∧ h2 = h1) (fun _ => 0) () envs ⟨rfl, rfl⟩ ?_
          rintro _ n2 h2 ⟨rfl, rfl⟩
          by_cases w2 : 0 < sel.length
          · repeat' (first | refine stpS ?_ | (refine stp2 ?_ ?_ <;> intro _))
            exact ⟨E0, rfl⟩
          · repeat' (first | refine stpS ?_ | (refine stp2 ?_ ?_ <;> intro _))
            exact ⟨E0, rfl⟩
        · repeat' (first | refine stpS ?_ | (refine stp2 ?_ ?_ <;> intro _))
          refine RC.loop ?_
          refine RL.inv (α := Unit) (fun _ => [(5, .int .i64 0), (3, .bool false), (1, .pointer (some ⟨n, 0, none⟩))]) (fun _ n2 h2 => n2 = n + 1 ∧ h2 = h1) (fun _ => 0) () envs ⟨rfl, rfl⟩ ?_
          rintro _ n2 h2 ⟨rfl, rfl⟩
          by_cases w2 : 0 < sel.length
          · repeat' (first | refine stpS ?_ | (refine stp2 ?_ ?_ <;> intro _))
            exact ⟨E0, rfl⟩
          · repeat' (first | refine stpS ?_ | (refine stp2 ?_ ?_ <;> intro _))
            exact ⟨E0, rfl⟩
    · repeat' (first | refine stpS ?_ | (refine stp2 ?_ ?_ <;> intro _))
      generalize h.app (.new n ⟨4, 0, true, 0⟩ [.slice ta ts.length ts.length, .int .i64 N, .slice ca cs.length cs.length, .slice sa sel.length sel.length]) = g at *
      refine RC.loop ?_
      refine RL.inv (α := Unit) (fun _ => [(4, .int .i64 0), (3, .bool false), (1, .pointer (some ⟨n, 0, none⟩))]) (fun _ n1 h1 => n1 = n + 1 ∧ h1 = g) (fun _ => 0) () envs ⟨rfl, rfl⟩ ?_
      rintro _ n1 h1 ⟨rfl, rfl⟩
      by_cases w : 0 < ts.length
      · repeat' (first | refine stpS ?_ | (refine stp2 ?_ ?_ <;> intro _))
        refine RC.loop ?_
        refine RL.inv (α := Unit) (fun _ => [(5, .int .i64 0), (3, .bool false), (1, .pointer (some ⟨n, 0, none⟩))]) (fun _ n2 h2 => n2 = n + 1 ∧ h2 = h1) (fun _ => 0) () envs ⟨rfl, rfl⟩ ?_
        rintro _ n2 h2 ⟨rfl, rfl⟩
        by_cases w2 : 0 < sel.length
        · repeat' (first | refine stpS ?_ | (refine stp2 ?_ ?_ <;> intro _))
          exact ⟨E0, rfl⟩
        · repeat' (first | refine stpS ?_ | (refine stp2 ?_ ?_ <;> intro _))
          exact ⟨E0, rfl⟩
      · repeat' (first | refine stpS ?_ | (refine stp2 ?_ ?_ <;> intro _))
        refine RC.loop ?_
        refine RL.inv (α := Unit) (fun _ => [(5, .int .i64 0), (3, .bool false), (1, .pointer (some ⟨n, 0, none⟩))]) (fun _ n2 h2 => n2 = n + 1 ∧ h2 = h1) (fun _ => 0) () envs ⟨rfl, rfl⟩ ?_
        rintro _ n2 h2 ⟨rfl, rfl⟩
        by_cases w2 : 0 < sel.length
        · repeat' (first | refine stpS ?_ | (refine stp2 ?_ ?_ <;> intro _))
          exact ⟨E0, rfl⟩
        · repeat' (first | refine stpS ?_ | (refine stp2 ?_ ?_ <;> intro _))
          exact ⟨E0, rfl⟩
  · repeat' (first | refine stpS ?_ | (refine stp2 ?_ ?_ <;> intro _))
    generalize h.app (.new n ⟨4, 0, true, 0⟩ [.slice ta ts.length ts.length, .int .i64 N, .slice ca cs.length cs.length, .slice sa sel.length sel.length]) = g at *
    refine RC.loop ?_
    refine RL.inv (α := Unit) (fun _ => [(4, .int .i64 0), (3, .bool false), (1, .pointer (some ⟨n, 0, none⟩))]) (fun _ n1 h1 => n1 = n + 1 ∧ h1 = g) (fun _ => 0) () envs ⟨rfl, rfl⟩ ?_
    rintro _ n1 h1 ⟨rfl, rfl⟩
    by_cases w : 0 < ts.length
    · repeat' (first | refine stpS ?_ | (refine stp2 ?_ ?_ <;> intro _))
      refine RC.loop ?_
      refine RL.inv (α := Unit) (fun _ => [(5, .int .i64 0), (3, .bool false), (1, .pointer (some ⟨n, 0, none⟩))]) (fun _ n2 h2 => n2 = n + 1 ∧ h2 = h1) (fun _ => 0) () envs ⟨rfl, rfl⟩ ?_
      rintro _ n2 h2 ⟨rfl, rfl⟩
      by_cases w2 : 0 < sel.length
      · repeat' (first | refine stpS ?_ | (refine stp2 ?_ ?_ <;> intro _))
        exact ⟨E0, rfl⟩
      · repeat' (first | refine stpS ?_ | (refine stp2 ?_ ?_ <;> intro _))
        exact ⟨E0, rfl⟩
    · repeat' (first | refine stpS ?_ | (refine stp2 ?_ ?_ <;> intro _))
      refine RC.loop ?_
      refine RL.inv (α := Unit) (fun _ => [(5, .int .i64 0), (3, .bool false), (1, .pointer (some ⟨n, 0, none⟩))]) (fun _ n2 h2 => n2 = n + 1 ∧ h2 = h1) (fun _ => 0) () envs ⟨rfl, rfl⟩ ?_
      rintro _ n2 h2 ⟨rfl, rfl⟩
      by_cases w2 : 0 < sel.length
      · repeat' (first | refine stpS ?_ | (refine stp2 ?_ ?_ <;> intro _))
        exact ⟨E0, rfl⟩
      · repeat' (first | refine stpS ?_ | (refine stp2 ?_ ?_ <;> intro _))
        exact ⟨E0, rfl⟩
end Go.Proofs.Ytaagbfpbbhaclaa
