/- Contracts of batches: are just these batches told? -/
import Derived.Test.YtaagbfpbbhaclaaT
import Derived.Test.YtaagbfpbbhaclaaK5
set_option linter.unusedSimpArgs false
set_option linter.unusedVariables false
namespace Go.Proofs.Ytaagbfpbbhaclaa
open Go.Abs

set_option maxHeartbeats 4000000 in
theorem told_rf (f : FuncId) (caps : List Value) (K : Nat → AH → Prop) (L M : List BatE) (w : Option Addr) (stop : Int) (n : Nat) (h : AH) (it : IterFP Try.prog f caps L.length (batVal L) K) (hK : K n h) (hKm : ∀ n' h', n ≤ n' → Ext n h h' → K n' h')
    (hM : BatsR h n w M) (hLM : L.map BatE.plain = M.map BatE.plain) (hs : ∀ b ∈ L, b.plain.Sm) (hl : L.length ≤ 1099511627776) (hn0 : 0 < n) :
    RF Try.prog none' 25 #[.func (.func f) #[] caps.toArray, .slice w M.length M.length, .int .i64 stop] n h (fun r n' h' => r = .bool true ∧ Ext n h h') := by
  have hML : M.length = L.length := by have := congrArg List.length hLM; simpa using this.symm
  rw [hML]
  refine RF.of Try.func25 rfl rfl (Nat.le_of_ble_eq_true rfl) ?_; dsimp only [argEnv]
  repeat' (first | refine stpS ?_ | (refine stp2 ?_ ?_ <;> intro _))
  obtain ⟨g, hg⟩ : ∃ g, g = ((((h.app (.new n ⟨1, 0, true, 0⟩ [.slice w L.length L.length])).app (.new (n + 1) ⟨1, 0, true, 0⟩ [.int .i64 stop])).app (.new (n + 1 + 1) ⟨1, 0, true, 0⟩ [.bool false])).app (.new (n + 1 + 1 + 1) ⟨1, 0, true, 0⟩ [.int .i64 0])).app (.sets (n + 1 + 1 + 1) 0 [.int .i64 0]) := ⟨_, rfl⟩
  refine RC.heap hg ?_
  have E0 : Ext n h g := by rw [hg]; exact ext
  have k0 : g.cell n 0 = .slice w L.length L.length := by rw [hg]; exact cell
  have k1 : g.cell (n + 1) 0 = .int .i64 stop := by rw [hg]; exact cell
  have k3 : g.cell (n + 1 + 1 + 1) 0 = .int .i64 0 := by rw [hg]; exact cell
  have i2 : g.info (n + 1 + 1) = some ⟨1, 0, true, 0⟩ := by rw [hg]; exact info
  have i3 : g.info (n + 1 + 1 + 1) = some ⟨1, 0, true, 0⟩ := by rw [hg]; exact info
  clear hg
  refine RC.rangeFunc opd (env0 := [(4, .pointer (some ⟨n, 0, none⟩)), (5, .pointer (some ⟨n + 1, 0, none⟩)), (6, .pointer (some ⟨n + 1 + 1, 0, none⟩)), (7, .pointer (some ⟨n + 1 + 1 + 1, 0, none⟩))]) envs (W := fun b => n ≤ b) (by intro b hb; first | omega | (dsimp only at hb ⊢; omega) | (dsimp only at hb; omega) | (dsimp only; omega)) ?_
  intro A hA
  refine (it _ _
    (fun i n6 h6 => n + 5 ≤ n6 ∧ Ext n h h6 ∧ h6.info (n + 1 + 1 + 1 + 1) = some (AObj.loop A).m ∧ h6.info (n + 1 + 1) = some ⟨1, 0, true, 0⟩ ∧ h6.info (n + 1 + 1 + 1) = some ⟨1, 0, true, 0⟩ ∧ h6.cell n 0 = .slice w L.length L.length ∧ h6.cell (n + 1) 0 = .int .i64 stop ∧ h6.cell (n + 1 + 1 + 1) 0 = .int .i64 (i : Nat) ∧ i ≤ L.length)
    (fun n6 h6 => n + 5 ≤ n6 ∧ Ext n h h6 ∧ h6.info (n + 1 + 1 + 1 + 1) = some (AObj.loop (A.at (some .ret))).m ∧ h6.cell (n + 1 + 1) 0 = .bool true) _ _ ⟨?_, ?_⟩ ?_ ?_ (by omega)).mono ?_
  · rintro i n6 h6 n7 h7 ⟨q1, q2, q3, q4, q5, q6, q7, q8, q9⟩ hn hE
    exact ⟨by omega, q2.trans (by omega) hE, (hE.info _ (by omega)).trans q3, (hE.info _ (by omega)).trans q4, (hE.info _ (by omega)).trans q5, c_ext hE (by omega) q6, c_ext hE (by omega) q7, c_ext hE (by omega) q8, q9⟩
  · rintro i vs n6 h6 hil ⟨x, rfl, hx, hxr⟩ ⟨q1, q2, q3, q4, q5, q6, q7, q8, q9⟩
    obtain ⟨b, hb⟩ : ∃ b, L[i]? = some b := ⟨_, List.getElem?_eq_getElem hil⟩
    obtain ⟨y, hy⟩ : ∃ y, M[i]? = some y := ⟨_, List.getElem?_eq_getElem (by omega)⟩
    have hxy : x.plain = y.plain := by
      have h1 : (L.map BatE.plain)[i]? = (M.map BatE.plain)[i]? := by rw [hLM]
      rw [List.getElem?_map, List.getElem?_map, hy, hx] at h1
      exact Option.some.inj h1
    have sm : x.Sm := Bat.Sm.of (by
      have : some b.plain = some x.plain := by rw [← hx, hb]; rfl
      rw [← Option.some.inj this]; exact hs b (List.mem_of_getElem? hb))
    have hwn : sb w < n := (hM.at_ hy).2.1
    refine VF.yield1 hA q3 rfl (by show n ≤ _; omega) (by omega) ?_
    repeat' (first | refine stpS ?_ | (refine stp2 ?_ ?_ <;> intro _))
    obtain ⟨g7, hg⟩ : ∃ g7, g7 = ((h6.app (.new n6 ⟨4, 0, true, 0⟩ [.slice none 0 0, .int .i64 0, .slice none 0 0, .slice none 0 0])).app (.sets n6 0 [.slice x.ta x.types.length x.types.length, .int .i64 x.num, .slice x.ca x.cols.length x.cols.length, .slice x.sa x.sel.length x.sel.length])).app (.obj (n + 1 + 1 + 1 + 1) (.loop A.busy)) := ⟨_, rfl⟩
    refine RC.heap hg ?_
    have E7 : Ext n h g7 := by
      have e1 : Ext n6 h6 ((h6.app (.new n6 ⟨4, 0, true, 0⟩ [.slice none 0 0, .int .i64 0, .slice none 0 0, .slice none 0 0])).app (.sets n6 0 [.slice x.ta x.types.length x.types.length, .int .i64 x.num, .slice x.ca x.cols.length x.cols.length, .slice x.sa x.sel.length x.sel.length])) := ext
      rw [hg]
      exact Ext.appObj (by omega) (q2.trans (by omega) e1)
    have xr : BatR g7 (n6 + 1) x := by
      have e1 : Ext n6 h6 ((h6.app (.new n6 ⟨4, 0, true, 0⟩ [.slice none 0 0, .int .i64 0, .slice none 0 0, .slice none 0 0])).app (.sets n6 0 [.slice x.ta x.types.length x.types.length, .int .i64 x.num, .slice x.ca x.cols.length x.cols.length, .slice x.sa x.sel.length x.sel.length])) := ext
      rw [hg]
      exact (hxr.ext e1 (Nat.le_succ n6)).obj ((e1.info _ (by omega)).trans q3) rfl
    have x0 : g7.cell n6 0 = .slice x.ta x.types.length x.types.length := by rw [hg]; exact cell
    have x1 : g7.cell n6 1 = .int .i64 x.num := by rw [hg]; exact cell
    have x2 : g7.cell n6 2 = .slice x.ca x.cols.length x.cols.length := by rw [hg]; exact cell
    have x3 : g7.cell n6 3 = .slice x.sa x.sel.length x.sel.length := by rw [hg]; exact cell
    have c0 : g7.cell n 0 = .slice w L.length L.length := by rw [hg]; exact cell
    have c1 : g7.cell (n + 1) 0 = .int .i64 stop := by rw [hg]; exact cell
    have c3 : g7.cell (n + 1 + 1 + 1) 0 = .int .i64 (i : Nat) := by rw [hg]; exact cell
    have j2 : g7.info (n + 1 + 1) = some ⟨1, 0, true, 0⟩ := by rw [hg]; exact info
    have j3 : g7.info (n + 1 + 1 + 1) = some ⟨1, 0, true, 0⟩ := by rw [hg]; exact info
    have j4 : g7.info (n + 1 + 1 + 1 + 1) = some (AObj.loop A.busy).m := by rw [hg]; exact info
    clear hg
    obtain ⟨hA1, hsn, d0, d1, d2, d3, R⟩ := (hM.ext E7 (by omega : n ≤ n6 + 1)).at_ hy
    rw [hML] at hA1
    have hsm := refSame13_ev x.ta x.ca x.sa x.types x.num x.cols x.sel y.ta y.ca y.sa y.types y.num y.cols y.sel (n6 + 1) (g7.below (n6 + 1)) (SlR.ext xr.types (AH.below_ext _ _) (Nat.le_refl _)) (xr.cols.ext (AH.below_ext _ _) (Nat.le_refl _)) (SlR.ext xr.sel (AH.below_ext _ _) (Nat.le_refl _)) (SlR.ext R.types (AH.below_ext _ _) (Nat.le_refl _)) (R.cols.ext (AH.below_ext _ _) (Nat.le_refl _)) (SlR.ext R.sel (AH.below_ext _ _) (Nat.le_refl _)) sm.r sm.s sm.t sm.c
    rw [decide_eq_true (show (⟨x.types, x.num, x.cols.map Prod.snd, x.sel⟩ : Bat) = ⟨y.types, y.num, y.cols.map Prod.snd, y.sel⟩ from hxy)] at hsm
    have hs6 : sb w < n6 + 1 := by omega
    repeat' (first | refine stpS ?_ | (refine stp2 ?_ ?_ <;> intro _))
    repeat' (first | refine stp ?_ | (refine stp2 ?_ ?_ <;> intro _))
    refine RD.callP (n6 + 1) rfl opds hsm (Nat.le_refl _) cfc ?_
    repeat' (first | refine stp ?_ | (refine stp2 ?_ ?_ <;> intro _))
    · exact .inr ⟨rfl, by omega, ext, info, cell⟩
    · exact .inl ⟨rfl, by omega, ext, info, info, info, cell, cell, cell, hil⟩
  · rintro i n6 h6 ⟨q1, q2, q3, q4, q5, q6, q7, q8, q9⟩
    exact hKm n6 h6 (by omega) q2
  · refine ⟨by omega, ?_, info, info, info, cell, cell, cell, Nat.zero_le _⟩
    exact E0.trans (Nat.le_refl _) (Ext.appObj (by omega) (Ext.refl _ _))
  · rintro r n6 h6 (⟨q1, q2, q3, q4, q5, q6, q7, q8, q9⟩ | ⟨q1, q2, q3, q4⟩)
    · refine rangeC.normal q3 ?_
      repeat' (first | refine stpS ?_ | (refine stp2 ?_ ?_ <;> intro _))
      exact ⟨rfl, ext⟩
    · refine rangeC.ret q3 ?_
      repeat' (first | refine stpS ?_ | (refine stp2 ?_ ?_ <;> intro _))
      exact ⟨rfl, ext⟩
end Go.Proofs.Ytaagbfpbbhaclaa
