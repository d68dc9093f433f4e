/- Contracts of batches: dense ones; the document's of which less is selected. -/
import Derived.Test.YtaagbfpbbhaclaaK3
import Derived.Test.YtaagbfpbbhaclaaK4
import Derived.Test.YtaagbfpbbhaclaaK7
set_option linter.unusedSimpArgs false
set_option linter.unusedVariables false
namespace Go.Proofs.Ytaagbfpbbhaclaa
open Go.Abs

/-- The rows that are selected, plainly. -/
def Bat.rows (b : Bat) : List (List Val) := b.sel.map fun k => b.cols.map fun l => l.getD k.toNat dV
theorem rowsP_eq {cs : List RowE} {sel : List Int} {ts : List Ty} {N : Int} : rowsP cs sel = Bat.rows ⟨ts, N, cs.map Prod.snd, sel⟩ := by
  simp [rowsP, rowP, Bat.rows]
set_option maxHeartbeats 4000000 in
theorem dense_rf (ta ca sa : Option Addr) (ts : List Ty) (N : Int) (cs : List RowE) (sel : List Int) (n : Nat) (h : AH) (BT : SlTy h n ta ts) (BC : RowsR h n ca cs) (BS : SlN h n sa sel) (hr : ∀ e ∈ cs, e.2.length ≤ 1099511627776) (hs : sel.length ≤ 1099511627776) (htl : ts.length ≤ 1099511627776) (hcl : cs.length ≤ 1099511627776) :
    RF Try.prog none' 21 #[batV ta ts N ca cs sa sel] n h (fun r n' h' => Ext n h h' ∧
      ((∃ v, r = .tuple #[v, .int .i64 0] ∧ Bat.may ⟨ts, N, cs.map Prod.snd, sel⟩ ∧ ofMay ts (Bat.rows ⟨ts, N, cs.map Prod.snd, sel⟩) ∧ IsBat (ofB ts (Bat.rows ⟨ts, N, cs.map Prod.snd, sel⟩)) n v n' h') ∨ (r = .tuple #[zeroV, .int .i64 130] ∧ ¬ (Bat.may ⟨ts, N, cs.map Prod.snd, sel⟩ ∧ ofMay ts (Bat.rows ⟨ts, N, cs.map Prod.snd, sel⟩))))) := by
  refine RF.of Try.func21 rfl rfl (Nat.le_of_ble_eq_true rfl) ?_; dsimp only [argEnv]
  repeat' (first | refine stpS ?_ | (refine stp2 ?_ ?_ <;> intro _))
  obtain ⟨g, hg⟩ : ∃ g, g = (h.app (.new n ⟨4, 0, true, 0⟩ [.slice ta ts.length ts.length, .int .i64 N, .slice ca cs.length cs.length, .slice sa sel.length sel.length])).app (.new (n + 1) ⟨4, 0, true, 0⟩ [.slice none 0 0, .int .i64 0, .slice none 0 0, .slice none 0 0]) := ⟨_, rfl⟩
  refine RS.heap hg ?_
  have E0 : Ext n h g := by rw [hg]; exact ext
  have k0 : g.cell n 0 = .slice ta ts.length ts.length := by rw [hg]; exact cell
  have k1 : g.cell n 1 = .int .i64 N := by rw [hg]; exact cell
  have k2 : g.cell n 2 = .slice ca cs.length cs.length := by rw [hg]; exact cell
  have k3 : g.cell n 3 = .slice sa sel.length sel.length := by rw [hg]; exact cell
  have kj : g.info (n + 1) = some ⟨4, 0, true, 0⟩ := by rw [hg]; exact info
  clear hg
  refine RS.call rfl opds (rows_rf ta ca sa ts N cs sel _ _ (SlR.ext BT E0 (by omega)) (BC.ext E0 (by omega)) (SlR.ext BS E0 (by omega)) hr (by omega)) none'W ?_
  rintro r n1 h1 hle1 ⟨E1, ⟨a1, L1, rfl, hmay, R1, e1⟩ | ⟨rfl, hmay⟩⟩
  rotate_left
  · have kj := (E1.info _ (by omega)).trans kj
    repeat' (first | refine stpS ?_ | (refine stp2 ?_ ?_ <;> intro _))
    exact ⟨(E0.trans (by omega) E1).appSets (by omega), .inr ⟨rfl, fun q => hmay (may_iff.2 q.1)⟩⟩
  have hmay := may_iff.1 hmay
  have E1' : Ext n h h1 := E0.trans (by omega) E1
  have k0 := c_ext E1 (by omega) k0
  have k1 := c_ext E1 (by omega) k1
  have k2 := c_ext E1 (by omega) k2
  have k3 := c_ext E1 (by omega) k3
  have kj := (E1.info _ (by omega)).trans kj
  rw [rowsP_eq (ts := ts) (N := N)] at e1
  have hL1 : L1.length = sel.length := by have := congrArg List.length e1; simpa [Bat.rows] using this
  have hof := of_rf ta a1 ts L1 n1 h1 (SlR.ext BT E1' (by omega)) R1 htl (by omega) (fun e he => by
    have : e.2 ∈ Bat.rows ⟨ts, N, cs.map Prod.snd, sel⟩ := by rw [← e1]; exact List.mem_map_of_mem he
    simp only [Bat.rows, List.mem_map] at this
    obtain ⟨k, -, q⟩ := this
    rw [← q, List.length_map, List.length_map]; exact hcl)
  rw [e1] at hof
  repeat' (first | refine stpS ?_ | (refine stp2 ?_ ?_ <;> intro _))
  refine RS.call rfl opds hof none'W ?_
  rintro r n2 h2 hle2 ⟨E2, ⟨v, rfl, hm2, ta1, ca1, cs1, sa1, rfl, hc1, hB1⟩ | ⟨rfl, hm2⟩⟩
  · have kj := (E2.info _ (by omega)).trans kj
    repeat' (first | refine stpS ?_ | (refine stp2 ?_ ?_ <;> intro _))
    refine ⟨(E1'.trans (by omega) E2).appSets (by omega), .inl ⟨_, rfl, hmay, hm2, ta1, ca1, cs1, sa1, rfl, hc1, ?_⟩⟩
    exact ⟨(hB1.types.sets (by omega)).mono (by omega), (hB1.cols.setsN (hB1.cols.out.at'.imp id fun w => by omega) (by omega)).mono (by omega) (by omega), (hB1.sel.sets (by omega)).mono (by omega)⟩
  · have kj := (E2.info _ (by omega)).trans kj
    repeat' (first | refine stpS ?_ | (refine stp2 ?_ ?_ <;> intro _))
    exact ⟨(E1'.trans (by omega) E2).appSets (by omega), .inr ⟨rfl, fun q => hm2 q.2⟩⟩
set_option maxHeartbeats 4000000 in
theorem refDense_rf (ta ca sa : Option Addr) (ts : List Ty) (N : Int) (cs : List RowE) (sel : List Int) (n : Nat) (h : AH) (BT : SlTy h n ta ts) (BC : RowsR h n ca cs) (BS : SlN h n sa sel) (hr : ∀ e ∈ cs, e.2.length ≤ 1099511627776) (hs : sel.length ≤ 1099511627776) (htl : ts.length ≤ 1099511627776) (hcl : cs.length ≤ 1099511627776) :
    RF Try.prog none' 27 #[batV ta ts N ca cs sa sel] n h (fun r n' h' => Ext n h h' ∧
      ((∃ v, r = .tuple #[v, .int .i64 0] ∧ Bat.may ⟨ts, N, cs.map Prod.snd, sel⟩ ∧ ofMay ts (Bat.rows ⟨ts, N, cs.map Prod.snd, sel⟩) ∧ IsBat (ofB ts (Bat.rows ⟨ts, N, cs.map Prod.snd, sel⟩)) n v n' h') ∨ (r = .tuple #[zeroV, .int .i64 130] ∧ ¬ (Bat.may ⟨ts, N, cs.map Prod.snd, sel⟩ ∧ ofMay ts (Bat.rows ⟨ts, N, cs.map Prod.snd, sel⟩))))) := by
  refine RF.of Try.func27 rfl rfl (Nat.le_of_ble_eq_true rfl) ?_; dsimp only [argEnv]
  repeat' (first | refine stpS ?_ | (refine stp2 ?_ ?_ <;> intro _))
  obtain ⟨g, hg⟩ : ∃ g, g = (h.app (.new n ⟨4, 0, true, 0⟩ [.slice ta ts.length ts.length, .int .i64 N, .slice ca cs.length cs.length, .slice sa sel.length sel.length])).app (.new (n + 1) ⟨4, 0, true, 0⟩ [.slice none 0 0, .int .i64 0, .slice none 0 0, .slice none 0 0]) := ⟨_, rfl⟩
  refine RS.heap hg ?_
  have E0 : Ext n h g := by rw [hg]; exact ext
  have k0 : g.cell n 0 = .slice ta ts.length ts.length := by rw [hg]; exact cell
  have k1 : g.cell n 1 = .int .i64 N := by rw [hg]; exact cell
  have k2 : g.cell n 2 = .slice ca cs.length cs.length := by rw [hg]; exact cell
  have k3 : g.cell n 3 = .slice sa sel.length sel.length := by rw [hg]; exact cell
  have kj : g.info (n + 1) = some ⟨4, 0, true, 0⟩ := by rw [hg]; exact info
  clear hg
  refine RS.call rfl opds (refRows_rf ta ca sa ts N cs sel _ _ (SlR.ext BT E0 (by omega)) (BC.ext E0 (by omega)) (SlR.ext BS E0 (by omega)) hr (by omega) (by omega)) none'W ?_
  rintro r n1 h1 hle1 ⟨E1, ⟨a1, L1, rfl, hmay, R1, e1⟩ | ⟨rfl, hmay⟩⟩
  rotate_left
  · have kj := (E1.info _ (by omega)).trans kj
    repeat' (first | refine stpS ?_ | (refine stp2 ?_ ?_ <;> intro _))
    exact ⟨(E0.trans (by omega) E1).appSets (by omega), .inr ⟨rfl, fun q => hmay (may_iff.2 q.1)⟩⟩
  have hmay := may_iff.1 hmay
  have E1' : Ext n h h1 := E0.trans (by omega) E1
  have k0 := c_ext E1 (by omega) k0
  have k1 := c_ext E1 (by omega) k1
  have k2 := c_ext E1 (by omega) k2
  have k3 := c_ext E1 (by omega) k3
  have kj := (E1.info _ (by omega)).trans kj
  rw [rowsP_eq (ts := ts) (N := N)] at e1
  have hL1 : L1.length = sel.length := by have := congrArg List.length e1; simpa [Bat.rows] using this
  have hof := refOf_rf ta a1 ts L1 n1 h1 (SlR.ext BT E1' (by omega)) R1 htl (by omega) (fun e he => by
    have : e.2 ∈ Bat.rows ⟨ts, N, cs.map Prod.snd, sel⟩ := by rw [← e1]; exact List.mem_map_of_mem he
    simp only [Bat.rows, List.mem_map] at this
    obtain ⟨k, -, q⟩ := this
    rw [← q, List.length_map, List.length_map]; exact hcl)
  rw [e1] at hof
  repeat' (first | refine stpS ?_ | (refine stp2 ?_ ?_ <;> intro _))
  refine RS.call rfl opds hof none'W ?_
  rintro r n2 h2 hle2 ⟨E2, ⟨v, rfl, hm2, ta1, ca1, cs1, sa1, rfl, hc1, hB1⟩ | ⟨rfl, hm2⟩⟩
  · have kj := (E2.info _ (by omega)).trans kj
    repeat' (first | refine stpS ?_ | (refine stp2 ?_ ?_ <;> intro _))
    refine ⟨(E1'.trans (by omega) E2).appSets (by omega), .inl ⟨_, rfl, hmay, hm2, ta1, ca1, cs1, sa1, rfl, hc1, ?_⟩⟩
    exact ⟨(hB1.types.sets (by omega)).mono (by omega), (hB1.cols.setsN (hB1.cols.out.at'.imp id fun w => by omega) (by omega)).mono (by omega) (by omega), (hB1.sel.sets (by omega)).mono (by omega)⟩
  · have kj := (E2.info _ (by omega)).trans kj
    repeat' (first | refine stpS ?_ | (refine stp2 ?_ ?_ <;> intro _))
    exact ⟨(E1'.trans (by omega) E2).appSets (by omega), .inr ⟨rfl, fun q => hm2 q.2⟩⟩
set_option maxHeartbeats 4000000 in
theorem refKeep_rf (ta ca sa ba : Option Addr) (ts : List Ty) (N : Int) (cs : List RowE) (sel : List Int) (M : Int) (bl : List UInt8) (n : Nat) (h : AH) (BT : SlTy h n ta ts) (BC : RowsR h n ca cs) (BS : SlN h n sa sel) (BB : SlB h n ba bl) (hr : ∀ e ∈ cs, e.2.length ≤ 1099511627776) (hs : sel.length ≤ 1099511627776) (htl : ts.length ≤ 1099511627776) (hcl : cs.length ≤ 1099511627776) (hbl : bl.length ≤ 1048576) :
    RF Try.prog none' 26 #[batV ta ts N ca cs sa sel, .agg #[.int .i64 M, .slice ba bl.length bl.length]] n h (fun r n' h' => Ext n h h' ∧
      ((∃ s, r = .tuple #[batV ta ts N ca cs s (keepP sel (Bt.truths M bl)), .int .i64 0] ∧ Bat.may ⟨ts, N, cs.map Prod.snd, sel⟩ ∧ (Bt.truths M bl).length = sel.length ∧ SlN h' n' s (keepP sel (Bt.truths M bl))) ∨ (r = .tuple #[zeroV, .int .i64 130] ∧ ¬ Bat.may ⟨ts, N, cs.map Prod.snd, sel⟩) ∨
        (r = .tuple #[zeroV, .int .i64 1] ∧ Bat.may ⟨ts, N, cs.map Prod.snd, sel⟩ ∧ (Bt.truths M bl).length ≠ sel.length))) := by
  refine RF.of Try.func26 rfl rfl (Nat.le_of_ble_eq_true rfl) ?_; dsimp only [argEnv]
  repeat' (first | refine stpS ?_ | (refine stp2 ?_ ?_ <;> intro _))
  obtain ⟨g, hg⟩ : ∃ g, g = ((h.app (.new n ⟨4, 0, true, 0⟩ [.slice ta ts.length ts.length, .int .i64 N, .slice ca cs.length cs.length, .slice sa sel.length sel.length])).app (.new (n + 1) ⟨2, 0, true, 0⟩ [.int .i64 M, .slice ba bl.length bl.length])).app (.new (n + 1 + 1) ⟨4, 0, true, 0⟩ [.slice none 0 0, .int .i64 0, .slice none 0 0, .slice none 0 0]) := ⟨_, rfl⟩
  have E0 : Ext n h g := by rw [hg]; exact ext
  have k0 : g.cell n 0 = .slice ta ts.length ts.length := by rw [hg]; exact cell
  have k1 : g.cell n 1 = .int .i64 N := by rw [hg]; exact cell
  have k2 : g.cell n 2 = .slice ca cs.length cs.length := by rw [hg]; exact cell
  have k3 : g.cell n 3 = .slice sa sel.length sel.length := by rw [hg]; exact cell
  have m0 : g.cell (n + 1) 0 = .int .i64 M := by rw [hg]; exact cell
  have m1 : g.cell (n + 1) 1 = .slice ba bl.length bl.length := by rw [hg]; exact cell
  have kj : g.info (n + 1 + 1) = some ⟨4, 0, true, 0⟩ := by rw [hg]; exact info
  have ki : g.info n = some ⟨4, 0, true, 0⟩ := by rw [hg]; exact info
  refine RS.heap hg ?_
  clear hg
  refine RS.call rfl opds (refCheck13_rf ta ca sa ts N cs sel _ _ (SlR.ext BT E0 (by omega)) (BC.ext E0 (by omega)) (SlR.ext BS E0 (by omega)) hr hs htl) none'W ?_
  rintro r n1 h1 hle1 ⟨E1, ⟨rfl, hmay⟩ | ⟨rfl, hmay⟩⟩
  rotate_left
  · have kj := (E1.info _ (by omega)).trans kj
    repeat' (first | refine stpS ?_ | (refine stp2 ?_ ?_ <;> intro _))
    exact ⟨(E0.trans (by omega) E1).appSets (by omega), .inr (.inl ⟨rfl, fun q => hmay (may_iff.2 q)⟩)⟩
  have hmay := may_iff.1 hmay
  have E1' : Ext n h h1 := E0.trans (by omega) E1
  have k0 := c_ext E1 (by omega) k0
  have k1 := c_ext E1 (by omega) k1
  have k2 := c_ext E1 (by omega) k2
  have k3 := c_ext E1 (by omega) k3
  have m0 := c_ext E1 (by omega) m0
  have m1 := c_ext E1 (by omega) m1
  have kj := (E1.info _ (by omega)).trans kj
  have ki := (E1.info _ (by omega)).trans ki
  have htl2 := Bt.truths_length M bl
  have hplc := Bt.plc_le M bl.length
  have hpe := Bt.refPlaces_ev M ba bl.length n1 (h1.below n1) (by omega)
  repeat' (first | refine stpS ?_ | (refine stp2 ?_ ?_ <;> intro _))
  repeat' (first | refine stp ?_ | (refine stp2 ?_ ?_ <;> intro _))
  refine RD.callP n1 rfl opds hpe (Nat.le_refl _) cfc ?_
  by_cases hlen : (Bt.truths M bl).length = sel.length
  rotate_left
  · repeat' (first | refine stp ?_ | (refine stp2 ?_ ?_ <;> intro _))
    exact ⟨E1'.appSets (by omega), .inr (.inr ⟨rfl, hmay, hlen⟩)⟩
  repeat' (first | refine stp ?_ | (refine stp2 ?_ ?_ <;> intro _))
  refine RC.loop ?_
  refine RL.inv (α := Nat × Option Addr) (fun y => [(8, .int .i64 (y.1 : Nat)), (7, .slice y.2 (keepP sel ((Bt.truths M bl).take y.1)).length (keepP sel ((Bt.truths M bl).take y.1)).length), (2, .pointer (some ⟨n, 0, none⟩)), (3, .pointer (some ⟨n + 1, 0, none⟩)), (4, .pointer (some ⟨n + 1 + 1, 0, none⟩))])
    (fun y n2 h2 => y.1 ≤ sel.length ∧ n1 ≤ n2 ∧ Ext n1 h1 h2 ∧ OwnSl h2 n1 n2 y.2 1 (keepP sel ((Bt.truths M bl).take y.1)).length (intsV .i64 (keepP sel ((Bt.truths M bl).take y.1)))) (fun y => sel.length - y.1) (0, none) envs
    ⟨Nat.zero_le _, Nat.le_refl _, Ext.refl _ _, OwnSl.nil (Nat.le_refl _)⟩ ?_
  rintro ⟨i, s⟩ n2 h2 ⟨hi, hn2, E2, hO⟩
  dsimp only at hi hO ⊢
  have E2' : Ext n h h2 := E1'.trans (by omega) E2
  have k0 := c_ext E2 (by omega) k0
  have k1 := c_ext E2 (by omega) k1
  have k2 := c_ext E2 (by omega) k2
  have k3 := c_ext E2 (by omega) k3
  have m0 := c_ext E2 (by omega) m0
  have m1 := c_ext E2 (by omega) m1
  have kj := (E2.info _ (by omega)).trans kj
  have ki := (E2.info _ (by omega)).trans ki
  by_cases hlt : i < sel.length
  · obtain ⟨k, hk⟩ : ∃ k, sel[i]? = some k := ⟨_, List.getElem?_eq_getElem hlt⟩
    have hA : SlA sa sel.length := SlR.sla BS
    have hsn : sb sa < n2 := Nat.lt_of_lt_of_le (SlR.lt BS (by omega)) (by omega)
    have d0 : h2.cell (sb sa) (so sa + i) = .int .i64 k := (SlR.cell (SlR.ext BS E2' (by omega : n ≤ n2)) i (by omega)).trans (by simp [List.getD, hk])
    have hsnoc := Bt.wheres_snoc (Bt.truths M bl) i (by omega)
    have hget := Bt.refGet_ev M bl ba bl.length n2 h2 i (SlR.ext BB E2' (by omega)) rfl (by omega)
    rw [Bt.getB_truths] at hget
    have hkl : (keepP sel ((Bt.truths M bl).take i)).length ≤ i := by
      have := Bt.wheres_le ((Bt.truths M bl).take i)
      rw [List.length_take] at this
      simp only [keepP, List.length_map]; omega
    cases hb : (Bt.truths M bl).getD i false
    · rw [hb] at hget hsnoc
      have hke : keepP sel ((Bt.truths M bl).take (i + 1)) = keepP sel ((Bt.truths M bl).take i) := by
        rw [keepP, hsnoc]; simp [keepP]
      repeat' (first | refine stpS ?_ | (refine stp2 ?_ ?_ <;> intro _) | refine RS.call1 rfl opds (hget) none'W ?_)
      refine nextC.normal ⟨(i + 1, s), by dsimp only; omega, by dsimp only; rw [hke]; exact envs, by dsimp only; omega, hn2, E2, by dsimp only; rw [hke]; exact hO⟩
    · rw [hb] at hget hsnoc
      have hke : keepP sel ((Bt.truths M bl).take (i + 1)) = keepP sel ((Bt.truths M bl).take i) ++ [k] := by
        rw [keepP, hsnoc]; simp [keepP, List.getD, hk]
      repeat' (first | refine stpS ?_ | (refine stp2 ?_ ?_ <;> intro _) | refine RS.call1 rfl opds (hget) none'W ?_)
      have hnew : OwnSl (h2.app (.new n2 ⟨1, 0, true, 1⟩ [.int .i64 k])) n2 (n2 + 1) (some ⟨n2, 0, none⟩) 1 1 [.int .i64 k] := OwnSl.new (h := h2) (m := 1) (z := 1) (Nat.le_refl n2) rfl rfl
      have hO2 := hO.ext (n1 := n2 + 1) (h1 := h2.app (.new n2 ⟨1, 0, true, 1⟩ [.int .i64 k])) ext (Nat.le_succ n2)
      refine RS.append rfl opd opd hO2 hnew.src full_slice (fun b hb => .inr (by omega)) (by omega) ?_
      intro s' n3 h3 hle3 hO3 hX3 hwh
      repeat' (first | refine stpS ?_ | (refine stp2 ?_ ?_ <;> intro _))
      have E3 : Ext n2 h2 (h2.app (.new n2 ⟨1, 0, true, 1⟩ [.int .i64 k])) := ext
      refine nextC.normal ⟨(i + 1, s'), by dsimp only; omega, by dsimp only; rw [hke, List.length_append]; exact envs, by dsimp only; omega, by omega, (E2.trans (by omega) E3).trans (Nat.le_refl _) (hX3.ext hO2), ?_⟩
      dsimp only
      rw [hke, intsV, List.map_append, List.length_append]; exact hO3
  · have hie : i = sel.length := by omega
    subst hie
    rw [List.take_of_length_le (by omega)] at hO ⊢
    repeat' (first | refine stpS ?_ | (refine stp2 ?_ ?_ <;> intro _))
    refine ⟨(E2'.appSets (by omega)).appSets (by omega), .inl ⟨s, rfl, hmay, hlen, ?_⟩⟩
    exact OwnSl.slN ((hO.sets (by omega)).sets (by omega))
end Go.Proofs.Ytaagbfpbbhaclaa
