/- Contracts of batches: the rows that are selected. -/
import Derived.Test.YtaagbfpbbhaclaaG
set_option linter.unusedSimpArgs false
set_option linter.unusedVariables false
namespace Go.Proofs.Ytaagbfpbbhaclaa
open Go.Abs

def dV : Val := ⟨⟨0, 0⟩, false, 0, ByteArray.empty⟩
def rowP (cs : List RowE) (k : Int) : List Val := cs.map fun e => e.2.getD k.toNat dV
def rowsP (cs : List RowE) (sel : List Int) : List (List Val) := sel.map (rowP cs)
theorem known_rowV : ∀ L : List RowE, known (L.map rowV) = true
  | [] => rfl
  | e :: L => by simpa [rowV, known] using known_rowV L
set_option maxHeartbeats 4000000 in
theorem rows_rf (ta ca sa : Option Addr) (ts : List Ty) (N : Int) (cs : List RowE) (sel : List Int) (n : Nat) (h : AH) (BT : SlTy h n ta ts) (BC : RowsR h n ca cs) (BS : SlN h n sa sel) (hr : ∀ e ∈ cs, e.2.length ≤ 1099511627776) (hs : sel.length ≤ 1099511627776) :
    RF Try.prog none' 10 #[.agg #[.slice ta ts.length ts.length, .int .i64 N, .slice ca cs.length cs.length, .slice sa sel.length sel.length]] n h (fun r n' h' => Ext n h h' ∧
      ((∃ a' L, r = .tuple #[.slice a' L.length L.length, .int .i64 0] ∧ BatE.may ⟨ta, ts, N, ca, cs, sa, sel⟩ ∧ RowsR h' n' a' L ∧ L.map Prod.snd = rowsP cs sel) ∨ (r = .tuple #[.slice none 0 0, .int .i64 130] ∧ ¬ BatE.may ⟨ta, ts, N, ca, cs, sa, sel⟩))) := by
  refine RF.of Try.func10 rfl rfl (Nat.le_of_ble_eq_true rfl) ?_; dsimp only [argEnv]
  have E0 : Ext n h (h.app (.new n ⟨4, 0, true, 0⟩ [.slice ta ts.length ts.length, .int .i64 N, .slice ca cs.length cs.length, .slice sa sel.length sel.length])) := ext
  have k2 : (h.app (.new n ⟨4, 0, true, 0⟩ [.slice ta ts.length ts.length, .int .i64 N, .slice ca cs.length cs.length, .slice sa sel.length sel.length])).cell n 2 = .slice ca cs.length cs.length := cell
  have k3 : (h.app (.new n ⟨4, 0, true, 0⟩ [.slice ta ts.length ts.length, .int .i64 N, .slice ca cs.length cs.length, .slice sa sel.length sel.length])).cell n 3 = .slice sa sel.length sel.length := cell
  have hle0 := Nat.le_succ n
  repeat' (first | refine stpS ?_ | (refine stp2 ?_ ?_ <;> intro _))
  refine RS.call rfl opds (check_rf ta ca sa ts N cs sel (n + 1) _ (SlR.ext BT E0 hle0) (BC.ext E0 hle0) (SlR.ext BS E0 hle0) hr hs) none'W ?_
  generalize h.app (.new n ⟨4, 0, true, 0⟩ [.slice ta ts.length ts.length, .int .i64 N, .slice ca cs.length cs.length, .slice sa sel.length sel.length]) = g at *
  rintro r n1 h1 hle1 ⟨E1, ⟨rfl, hmay⟩ | ⟨rfl, hmay⟩⟩
  · have E01 : Ext n h h1 := E0.trans hle0 E1
    have b3 := c_ext E1 (by omega) k3
    obtain ⟨q1, q2, q3, q4, q5, q6⟩ := id hmay
    have q1 : ts.length ≤ 32 := q1
    have q2 : cs.length = ts.length := q2
    have q5 : colsP N ts cs := q5
    have q6 : selP N sel := q6
    repeat' (first | refine stpS ?_ | (refine stp2 ?_ ?_ <;> intro _))
    refine RC.loop ?_
    refine RL.inv (α := Nat × Option Addr × List RowE) (fun y => [(19, .int .i64 (y.1 : Nat)), (18, .int .i64 sel.length), (17, .slice sa sel.length sel.length), (5, .slice y.2.1 y.1 y.1), (1, .pointer (some ⟨n, 0, none⟩))])
      (fun y n2 h2 => y.1 ≤ sel.length ∧ n1 ≤ n2 ∧ Ext n1 h1 h2 ∧ OwnSl h2 n1 n2 y.2.1 1 y.1 (y.2.2.map rowV) ∧ y.2.2.map Prod.snd = (rowsP cs sel).take y.1 ∧ ∀ e ∈ y.2.2, SlV h2 n2 e.1 e.2 ∧ (y.2.1 = none ∨ e.1 = none ∨ sb e.1 ≠ sb y.2.1)) (fun y => sel.length - y.1) (0, none, []) envs
      ⟨by omega, Nat.le_refl _, Ext.refl _ _, OwnSl.nil (Nat.le_refl _), rfl, fun e he => by cases he⟩ ?_
    rintro ⟨i, a, L⟩ n2 h2 ⟨hi, hn2, E2, hO, hL, hrows⟩
    dsimp only at hi hO hL hrows ⊢
    have hLl : L.length = i := by have := hO.len; simp at this; omega
    have E02 : Ext n h h2 := E01.trans (by omega) E2
    have hnn : n < n2 := by omega
    have b2 := c_ext E2 (by omega) (c_ext E1 (by omega) k2)
    by_cases hlt : i < sel.length
    · obtain ⟨k, hk⟩ : ∃ k, sel[i]? = some k := ⟨_, List.getElem?_eq_getElem hlt⟩
      have S1 : SlN h2 n2 sa sel := SlR.ext BS E02 (by omega)
      have hA : SlA sa sel.length := S1.sla
      have hb1 : sb sa < n2 := S1.lt (by omega)
      have d0 : h2.cell (sb sa) (so sa + i) = .int .i64 k := (S1.cell i (by omega)).trans (by simp [List.getD, hk])
      obtain ⟨hkN, hk0, -⟩ := q6 i k hk
      repeat' (first | refine stpS ?_ | (refine stp2 ?_ ?_ <;> intro _))
      refine RC.loop ?_
      refine RL.inv (α := Nat × Option Addr) (fun y => [(26, .int .i64 (y.1 : Nat)), (25, .int .i64 cs.length), (24, .slice ca cs.length cs.length), (8, .slice y.2 y.1 y.1), (7, .int .i64 k), (19, .int .i64 (i : Nat)), (18, .int .i64 sel.length), (17, .slice sa sel.length sel.length), (5, .slice a i i), (1, .pointer (some ⟨n, 0, none⟩))])
        (fun y n3 h3 => y.1 ≤ cs.length ∧ n2 ≤ n3 ∧ Ext n2 h2 h3 ∧ OwnSl h3 n2 n3 y.2 5 y.1 (valsC ((rowP cs k).take y.1))) (fun y => cs.length - y.1) (0, none) envs
        ⟨by omega, Nat.le_refl _, Ext.refl _ _, by simpa [valsC] using OwnSl.nil (Nat.le_refl _)⟩ ?_
      rintro ⟨j, c⟩ n3 h3 ⟨hj, hn3, E3, hOc⟩
      dsimp only at hj hOc ⊢
      have E03 : Ext n h h3 := E02.trans (by omega) E3
      by_cases hltj : j < cs.length
      · obtain ⟨e, he⟩ : ∃ e, cs[j]? = some e := ⟨_, List.getElem?_eq_getElem hltj⟩
        obtain ⟨t, ht⟩ : ∃ t, ts[j]? = some t := ⟨_, List.getElem?_eq_getElem (by omega)⟩
        obtain ⟨hB, hsn2, f0, V⟩ := (BC.ext E03 (by omega : n ≤ n3)).at_ he
        have hlen : (e.2.length : Int) = N := (q5 j t e ht he).1
        obtain ⟨v, hv⟩ : ∃ v, e.2[k.toNat]? = some v := ⟨_, List.getElem?_eq_getElem (by omega)⟩
        obtain ⟨hC, hsn3, g0, g1, g2, g3, g4⟩ := V.at_ hv
        have hrow : (rowP cs k).take (j + 1) = (rowP cs k).take j ++ [v] := by
          have : (rowP cs k)[j]? = some v := by rw [rowP, List.getElem?_map, he]; simp [List.getD, hv]
          rw [List.take_add_one, this]; rfl
        have hel := hr e (List.mem_of_getElem? he)
        obtain ⟨ea, el⟩ := e
        dsimp only at f0 V hlen hv hC hel
        repeat' (first | refine stpS ?_ | (refine stp2 ?_ ?_ <;> intro _))
        have hnew : OwnSl (h3.app (.new n3 ⟨5, 0, true, 5⟩ (valC v))) n3 (n3 + 1) (some ⟨n3, 0, none⟩) 5 1 (valC v) := OwnSl.new (h := h3) (m := 1) (z := 5) (Nat.le_refl n3) rfl rfl
        refine RS.append rfl opd opd (hOc.ext (n1 := n3 + 1) (h1 := h3.app (.new n3 ⟨5, 0, true, 5⟩ (valC v))) ext (Nat.le_succ n3)) hnew.src full_slice (fun b hb => Or.inr (by omega)) (by omega) ?_
        intro c2 n4 h4 hle4 hO4 hX4 hwh
        have E4 := hX4.ext (hOc.ext (n1 := n3 + 1) (h1 := h3.app (.new n3 ⟨5, 0, true, 5⟩ (valC v))) ext (Nat.le_succ n3))
        repeat' (first | refine stpS ?_ | (refine stp2 ?_ ?_ <;> intro _))
        refine nextC.normal ⟨(j + 1, c2), by dsimp only; omega, envs, by dsimp only; omega, by omega, ?_, ?_⟩
        · have Ea : Ext n3 h3 (h3.app (.new n3 ⟨5, 0, true, 5⟩ (valC v))) := ext
          exact E3.trans (Nat.le_refl n2) ((Ea.mono hn3).then E4)
        · dsimp only
          rw [hrow, valsC_app]
          have : valsC [v] = valC v := by simp [valsC]
          rw [this]; exact hO4
      · have hje : j = cs.length := by omega
        subst hje
        have hrl : (rowP cs k).take cs.length = rowP cs k := List.take_of_length_le (by simp [rowP])
        rw [hrl] at hOc
        repeat' (first | refine stpS ?_ | (refine stp2 ?_ ?_ <;> intro _))
        have hnew : OwnSl (h3.app (.new n3 ⟨1, 0, true, 1⟩ [.slice c cs.length cs.length])) n3 (n3 + 1) (some ⟨n3, 0, none⟩) 1 1 [.slice c cs.length cs.length] := OwnSl.new (h := h3) (m := 1) (z := 1) (Nat.le_refl n3) rfl rfl
        have Ea : Ext n3 h3 (h3.app (.new n3 ⟨1, 0, true, 1⟩ [.slice c cs.length cs.length])) := ext
        have hO3 := (hO.ext E3 hn3).ext Ea (Nat.le_succ n3)
        refine RS.append rfl opd opd hO3 hnew.src full_slice (fun b hb => Or.inr (by omega)) (by omega) ?_
        intro a2 n4 h4 hle4 hO4 hX4 hwh
        have E4 := hX4.ext hO3
        have hat := hO.at'
        have hatc := hOc.at'
        have hrow2 : (rowsP cs sel).take (i + 1) = (rowsP cs sel).take i ++ [rowP cs k] := by
          have : (rowsP cs sel)[i]? = some (rowP cs k) := by rw [rowsP, List.getElem?_map, hk]; rfl
          rw [List.take_add_one, this]; rfl
        have hcl : (rowP cs k).length = cs.length := by simp [rowP]
        repeat' (first | refine stpS ?_ | (refine stp2 ?_ ?_ <;> intro _))
        refine nextC.normal ⟨(i + 1, a2, L ++ [(c, rowP cs k)]), by dsimp only; omega, envs, by dsimp only; omega, by omega, ?_, ?_, ?_, fun e he => ?_⟩
        · exact ((E2.then (E3.mono hn2)).then (Ea.mono (by omega))).then E4
        · dsimp only
          rw [List.map_append]
          have : List.map rowV [(c, rowP cs k)] = [.slice c cs.length cs.length] := by simp [rowV, hcl]
          rw [this]; exact hO4
        · dsimp only
          rw [List.map_append, hL, hrow2]; rfl
        · dsimp only at he ⊢
          rcases List.mem_append.1 he with w | w
          · obtain ⟨V, ap⟩ := hrows e w
            have hel : e.1 = none ∨ sb e.1 < n2 := by
              by_cases q : e.1 = none
              · exact .inl q
              · exact .inr (V.ltA q)
            have V3 := SlR.ext (SlR.ext V E3 hn3) Ea (Nat.le_succ n3)
            refine ⟨SlR.ext (SlR.extX V3 hX4 ap) (Ext.refl _ _) (by omega), ?_⟩
            rcases hwh with z | z
            · rw [z]; exact ap
            · rcases hel with q | q
              · exact .inr (.inl q)
              · exact .inr (.inr (by omega))
          · simp only [List.mem_cons, List.not_mem_nil, or_false] at w
            subst w
            dsimp only
            have ap : a = none ∨ c = none ∨ sb c ≠ sb a := by
              rcases hat with q | q
              · exact .inl q
              · rcases hatc with w | w
                · exact .inr (.inl w)
                · exact .inr (.inr (by omega))
            have V3 : SlV (h3.app (.new n3 ⟨1, 0, true, 1⟩ [.slice c cs.length cs.length])) (n3 + 1) c (rowP cs k) := by
              have := (hOc.ext Ea (Nat.le_succ n3)).slr
              show SlR _ _ c 5 (rowP cs k).length _
              rw [hcl]; exact this
            refine ⟨SlR.ext (SlR.extX V3 hX4 ap) (Ext.refl _ _) (by omega), ?_⟩
            rcases hwh with z | z
            · rw [z]; exact ap
            · rcases hatc with w | w
              · exact .inr (.inl w)
              · exact .inr (.inr (by omega))
    · have hie : i = sel.length := by omega
      subst hie
      have hrl : (rowsP cs sel).take sel.length = rowsP cs sel := List.take_of_length_le (by simp [rowsP])
      rw [hrl] at hL
      repeat' (first | refine stpS ?_ | (refine stp2 ?_ ?_ <;> intro _))
      refine ⟨E02, .inl ⟨a, L, by rw [hLl], hmay, ⟨?_, fun e he => (hrows e he).1⟩, hL⟩⟩
      rw [hLl]; exact hO.slr
  · repeat' (first | refine stpS ?_ | (refine stp2 ?_ ?_ <;> intro _))
    exact ⟨E0.trans hle0 E1, .inr ⟨rfl, hmay⟩⟩
end Go.Proofs.Ytaagbfpbbhaclaa
