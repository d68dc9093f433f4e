/- Contracts of batches: less is selected. -/
import Derived.Test.YtaagbfpbbhaclaaK6
import Derived.Test.YtaagbfpbbhaclaaBt
set_option linter.unusedSimpArgs false
set_option linter.unusedVariables false
namespace Go.Proofs.Ytaagbfpbbhaclaa
open Go.Abs

/-- What is kept of places. -/
def keepP (sel : List Int) (t : List Bool) : List Int := (Bt.wheres t).map fun p => sel.getD p 0
theorem extW_own {h h1 : AH} {n0 n m k nn : Nat} {a : Option Addr} {cs : List Value} {W : Nat → Prop} (o : OwnSl h n0 n a m k cs) (E : ExtW W nn h h1) (hn : n ≤ nn) (hW : ∀ b, n0 ≤ b → b < n → ¬ W b) : OwnSl h1 n0 n a m k cs :=
  o.extW E (Nat.le_refl _) hn fun q => hW _ (o.at'.resolve_left q).1 (o.at'.resolve_left q).2
theorem BatO.extW {n0 n nn : Nat} {h h1 : AH} {ta ca sa : Option Addr} {ts : List Ty} {cs : List RowE} {sel : List Int} {W : Nat → Prop} (o : BatO n0 h n ta ts ca cs sa sel) (E : ExtW W nn h h1) (hn : n ≤ nn) (hW : ∀ b, n0 ≤ b → b < n → ¬ W b) : BatO n0 h1 n ta ts ca cs sa sel :=
  ⟨extW_own o.types E hn hW, ⟨extW_own o.cols.out E hn hW, fun i e he => extW_own (o.cols.inn i e he) E hn hW, o.cols.sep, o.cols.dis⟩, extW_own o.sel E hn hW⟩
set_option maxHeartbeats 4000000 in
theorem keep_rf (ta ca sa ba : Option Addr) (ts : List Ty) (N : Int) (cs : List RowE) (sel : List Int) (M : Int) (bl : List UInt8) (n : Nat) (h : AH) (BT : SlTy h n ta ts) (BC : RowsR h n ca cs) (BS : SlN h n sa sel) (BB : SlB h n ba bl) (hr : ∀ e ∈ cs, e.2.length ≤ 1099511627776) (hs : sel.length ≤ 1099511627776) (htl : ts.length ≤ 1099511627776) (hcl : cs.length ≤ 1099511627776) (hbl : bl.length ≤ 1048576) :
    RF Try.prog none' 19 #[batV ta ts N ca cs sa sel, .agg #[.int .i64 M, .slice ba bl.length bl.length]] n h (fun r n' h' => Ext n h h' ∧
      ((∃ v, r = .tuple #[v, .int .i64 0] ∧ Bat.may ⟨ts, N, cs.map Prod.snd, sel⟩ ∧ (Bt.truths M bl).length = sel.length ∧ IsBat ⟨ts, N, cs.map Prod.snd, keepP sel (Bt.truths M bl)⟩ n v n' h') ∨ (r = .tuple #[zeroV, .int .i64 130] ∧ ¬ Bat.may ⟨ts, N, cs.map Prod.snd, sel⟩) ∨
        (r = .tuple #[zeroV, .int .i64 1] ∧ Bat.may ⟨ts, N, cs.map Prod.snd, sel⟩ ∧ (Bt.truths M bl).length ≠ sel.length))) := by
  refine RF.of Try.func19 rfl rfl (Nat.le_of_ble_eq_true rfl) ?_; dsimp only [argEnv]
  repeat' (first | refine stpS ?_ | (refine stp2 ?_ ?_ <;> intro _))
  obtain ⟨g, hg⟩ : ∃ g, g = ((h.app (.new n ⟨4, 0, true, 0⟩ [.slice ta ts.length ts.length, .int .i64 N, .slice ca cs.length cs.length, .slice sa sel.length sel.length])).app (.new (n + 1) ⟨2, 0, true, 0⟩ [.int .i64 M, .slice ba bl.length bl.length])).app (.new (n + 1 + 1) ⟨4, 0, true, 0⟩ [.slice none 0 0, .int .i64 0, .slice none 0 0, .slice none 0 0]) := ⟨_, rfl⟩
  have E0 : Ext n h g := by rw [hg]; exact ext
  have k0 : g.cell n 0 = .slice ta ts.length ts.length := by rw [hg]; exact cell
  have k1 : g.cell n 1 = .int .i64 N := by rw [hg]; exact cell
  have k2 : g.cell n 2 = .slice ca cs.length cs.length := by rw [hg]; exact cell
  have k3 : g.cell n 3 = .slice sa sel.length sel.length := by rw [hg]; exact cell
  have m0 : g.cell (n + 1) 0 = .int .i64 M := by rw [hg]; exact cell
  have m1 : g.cell (n + 1) 1 = .slice ba bl.length bl.length := by rw [hg]; exact cell
  have kj : g.info (n + 1 + 1) = some ⟨4, 0, true, 0⟩ := by rw [hg]; exact info
  refine RS.heap hg ?_
  clear hg
  refine RS.call rfl opds (check_rf ta ca sa ts N cs sel _ _ (SlR.ext BT E0 (by omega)) (BC.ext E0 (by omega)) (SlR.ext BS E0 (by omega)) hr hs) none'W ?_
  rintro r n1 h1 hle1 ⟨E1, ⟨rfl, hmay⟩ | ⟨rfl, hmay⟩⟩
  rotate_left
  · have kj := (E1.info _ (by omega)).trans kj
    repeat' (first | refine stpS ?_ | (refine stp2 ?_ ?_ <;> intro _))
    exact ⟨(E0.trans (by omega) E1).appSets (by omega), .inr (.inl ⟨rfl, fun q => hmay (may_iff.2 q)⟩)⟩
  have hmay := may_iff.1 hmay
  have E1' : Ext n h h1 := E0.trans (by omega) E1
  have k0 := c_ext E1 (by omega) k0
  have k1 := c_ext E1 (by omega) k1
  have k2 := c_ext E1 (by omega) k2
  have k3 := c_ext E1 (by omega) k3
  have m0 := c_ext E1 (by omega) m0
  have m1 := c_ext E1 (by omega) m1
  have kj := (E1.info _ (by omega)).trans kj
  repeat' (first | refine stpS ?_ | (refine stp2 ?_ ?_ <;> intro _))
  repeat' (first | refine stp ?_ | (refine stp2 ?_ ?_ <;> intro _))
  refine RD.call n1 rfl opds (Bt.list_rf M bl ba bl.length n1 _ (SlR.ext (SlR.ext BB E1' (by omega)) (AH.below_ext _ _) (Nat.le_refl _)) rfl (by omega)) (Nat.le_refl _) cfc ?_
  rintro r n2 h2 hle2 ⟨a2, rfl, e2, -⟩
  have E2 : Ext n1 h1 h2 := e2.via (Nat.le_refl _) (AH.below_ext h1 n1)
  have E2' : Ext n h h2 := E1'.trans (by omega) E2
  have k0 := c_ext E2 (by omega) k0
  have k1 := c_ext E2 (by omega) k1
  have k2 := c_ext E2 (by omega) k2
  have k3 := c_ext E2 (by omega) k3
  have m0 := c_ext E2 (by omega) m0
  have m1 := c_ext E2 (by omega) m1
  have kj := (E2.info _ (by omega)).trans kj
  have htl2 := Bt.truths_length M bl
  have hplc := Bt.plc_le M bl.length
  by_cases hlen : (Bt.truths M bl).length = sel.length
  rotate_left
  · repeat' (first | refine stp ?_ | (refine stp2 ?_ ?_ <;> intro _))
    repeat' (first | refine stpS ?_ | (refine stp2 ?_ ?_ <;> intro _))
    exact ⟨E2'.appSets (by omega), .inr (.inr ⟨rfl, hmay, hlen⟩)⟩
  rw [hlen]
  repeat' (first | refine stp ?_ | (refine stp2 ?_ ?_ <;> intro _))
  repeat' (first | refine stpS ?_ | (refine stp2 ?_ ?_ <;> intro _))
  refine RS.call rfl opds (clone_rf ta ca sa ts N cs sel n2 h2 (SlR.ext BT E2' (by omega)) (BC.ext E2' (by omega)) (SlR.ext BS E2' (by omega)) hr hs htl hcl) none'W ?_
  rintro r n3 h3 hle3 ⟨E3, a1, a3, ds, a4, rfl, hds, hO3⟩
  dsimp only at hds hO3
  dsimp only [batV]
  have E3' : Ext n h h3 := E2'.trans (by omega) E3
  have k3 := c_ext E3 (by omega) k3
  have m0 := c_ext E3 (by omega) m0
  have m1 := c_ext E3 (by omega) m1
  have kj := (E3.info _ (by omega)).trans kj
  repeat' (first | refine stpS ?_ | (refine stp2 ?_ ?_ <;> intro _))
  obtain ⟨g, hg⟩ : ∃ g, g = ((h3.app (.new n3 ⟨4, 0, true, 0⟩ [.slice none 0 0, .int .i64 0, .slice none 0 0, .slice none 0 0])).app (.sets n3 0 [.slice a1 ts.length ts.length, .int .i64 N, .slice a3 ds.length ds.length, .slice a4 sel.length sel.length])).app (.sets n3 3 [.slice none 0 0]) := ⟨_, rfl⟩
  refine RS.heap hg ?_
  have E4 : Ext n3 h3 g := by rw [hg]; exact ext
  have x0 : g.cell n3 0 = .slice a1 ts.length ts.length := by rw [hg]; exact cell
  have x1 : g.cell n3 1 = .int .i64 N := by rw [hg]; exact cell
  have x2 : g.cell n3 2 = .slice a3 ds.length ds.length := by rw [hg]; exact cell
  have x3 : g.cell n3 3 = .slice none 0 0 := by rw [hg]; exact cell
  have xi : g.info n3 = some ⟨4, 0, true, 0⟩ := by rw [hg]; exact info
  clear hg
  have E4' : Ext n h g := E3'.trans (by omega) E4
  have k3 := c_ext E4 (by omega) k3
  have kj := (E4.info _ (by omega)).trans kj
  have hO4 := hO3.ext E4 (Nat.le_succ n3)
  refine RS.call rfl opds (Bt.all_rf M bl ba bl.length (n3 + 1) g (SlR.ext BB E4' (by omega)) rfl (by omega)) none'W ?_
  rintro r n5 h5 hle5 ⟨bc, a5, rfl, E5, hbc, ha5, hK1, hK2, hK3⟩
  have x0 := c_ext E5 (by omega) x0
  have x1 := c_ext E5 (by omega) x1
  have x2 := c_ext E5 (by omega) x2
  have x3 := c_ext E5 (by omega) x3
  have xi := (E5.info _ (by omega)).trans xi
  have k3 := c_ext E5 (by omega) k3
  have kj := (E5.info _ (by omega)).trans kj
  have hO5 := hO3.ext (E4.trans (Nat.le_succ n3) E5) (Nat.le_refl _)
  have E5' : Ext n h h5 := E4'.trans (by omega) E5
  repeat' (first | refine stpS ?_ | (refine stp2 ?_ ?_ <;> intro _))
  refine RC.rangeFunc opd (env0 := [(2, .pointer (some ⟨n, 0, none⟩)), (7, .pointer (some ⟨n3, 0, none⟩)), (4, .pointer (some ⟨n + 1 + 1, 0, none⟩))]) envs (W := fun b => b = n3 ∨ n5 ≤ b) (by intro b hb; first | omega | (dsimp only at hb ⊢; omega) | (dsimp only at hb; omega) | (dsimp only; omega)) ?_
  intro A hA
  have hpl := Bt.packB_length (Bt.truths M bl)
  have hset := Bt.setL_pack (Bt.truths M bl)
  have hwl := Bt.wheres_le (Bt.truths M bl)
  have hkl : (keepP sel (Bt.truths M bl)).length = (Bt.wheres (Bt.truths M bl)).length := by simp [keepP]
  refine (Bt.all1_iter bc a5 (Bt.packB (Bt.truths M bl)) (by omega) _ _
    (fun i n6 h6 => n5 + 1 ≤ n6 ∧ ExtW (fun b => b = n3 ∨ b = n5) (n5 + 1) (h5.app (.obj n5 (.loop A))) h6 ∧ h6.info n5 = some (AObj.loop A).m ∧ h6.info n3 = some ⟨4, 0, true, 0⟩ ∧ h6.cell n3 0 = .slice a1 ts.length ts.length ∧ h6.cell n3 1 = .int .i64 N ∧ h6.cell n3 2 = .slice a3 ds.length ds.length ∧
      i ≤ (Bt.wheres (Bt.truths M bl)).length ∧ ∃ s, h6.cell n3 3 = .slice s i i ∧ OwnSl h6 (n5 + 1) n6 s 1 i (intsV .i64 ((keepP sel (Bt.truths M bl)).take i)))
    (fun _ _ => False) _ _ ⟨?_, ?_⟩ ?_ ?_ (by omega)).mono ?_
  · rintro i n6 h6 n7 h7 ⟨q1, q2, q3, q4, q5, q6, q7, q8, s, q9, q10⟩ hn hE
    exact ⟨by omega, extW, (hE.info _ (by omega)).trans q3, (hE.info _ (by omega)).trans q4, c_ext hE (by omega) q5, c_ext hE (by omega) q6, c_ext hE (by omega) q7, q8, s, c_ext hE (by omega) q9, q10.ext hE hn⟩
  · rintro i vs n6 h6 hv ⟨q1, q2, q3, q4, q5, q6, q7, q8, s, q9, q10⟩
    rw [hset] at hv
    simp only [Bt.placesV, List.getElem?_map, Option.map_eq_some_iff] at hv
    obtain ⟨p, hv, rfl⟩ := hv
    have hil := (List.getElem?_eq_some_iff.1 hv).1
    have hpm := Bt.wheres_mem.1 (List.mem_of_getElem? hv)
    have hps : p < sel.length := by omega
    obtain ⟨k, hk⟩ : ∃ k, sel[p]? = some k := ⟨_, List.getElem?_eq_getElem hps⟩
    have hki : (keepP sel (Bt.truths M bl))[i]? = some k := by simp [keepP, hv, List.getD, hk]
    have htk : (keepP sel (Bt.truths M bl)).take (i + 1) = (keepP sel (Bt.truths M bl)).take i ++ [k] := by rw [List.take_add_one, hki]; rfl
    have S5 := SlR.ext BS E5' (by omega : n ≤ n5)
    have hA1 : SlA sa sel.length := SlR.sla BS
    have hbn : sb sa < n := SlR.lt BS (by omega)
    have hcs : (h5.app (.obj n5 (.loop A))).cell (sb sa) (so sa + p) = .int .i64 k := c_obj ((SlR.cell S5 p (by omega)).trans (by simp [List.getD, hk]))
    have d0 : h6.cell (sb sa) (so sa + p) = .int .i64 k := c_extW q2 (by omega) (by omega) hcs
    have k36 : h6.cell n 3 = .slice sa sel.length sel.length := c_extW q2 (by omega) (by omega) (c_obj k3)
    have hci : ∀ x, x ≤ n5 → ¬ inA s x := fun x hx q => by
      have := q10.at'.resolve_left q.1
      have := q.2
      omega
    have hi0 := hci n (by omega)
    have hi1 := hci n3 (by omega)
    have hi2 := hci (sb sa) (by omega)
    have hWl : ∀ b, inA s b → b < n6 + 1 := fun b q => by
      have := q10.at'.resolve_left q.1
      have := q.2
      omega
    refine VF.yield1 hA q3 rfl (.inr (Nat.le_refl _)) (by omega) ?_
    repeat' (first | refine stpS ?_ | (refine stp2 ?_ ?_ <;> intro _))
    repeat' (first | refine stp ?_ | (refine stp2 ?_ ?_ <;> intro _))
    have hnew : OwnSl ((h6.app (.obj n5 (.loop A.busy))).app (.new n6 ⟨1, 0, true, 1⟩ [.int .i64 k])) n6 (n6 + 1) (some ⟨n6, 0, none⟩) 1 1 [.int .i64 k] := OwnSl.new (h := h6.app (.obj n5 (.loop A.busy))) (m := 1) (z := 1) (Nat.le_refl n6) rfl rfl
    have hs6 : OwnSl ((h6.app (.obj n5 (.loop A.busy))).app (.new n6 ⟨1, 0, true, 1⟩ [.int .i64 k])) (n5 + 1) (n6 + 1) s 1 i (intsV .i64 ((keepP sel (Bt.truths M bl)).take i)) := by
      have := extW_own q10 (ExtW.appObj (W := fun b => b = n5) (n := n6) (.inl rfl) (ExtW.refl _ n6 h6) : ExtW (fun b => b = n5) n6 h6 (h6.app (.obj n5 (.loop A.busy)))) (Nat.le_refl _) (fun b h1 h2 => by omega)
      exact this.ext ext (Nat.le_succ n6)
    refine RD.appendT (n6 + 1) rfl opd opd hs6 (hnew.ext (AH.below_ext _ _) (Nat.le_refl _)).src full_slice (fun q => .inl (.inr (by have := q10.at'.resolve_left q; omega))) (by omega) (Nat.le_refl _) cfw ?_
    intro s' n7 h7 hle7 hO7 hX7 hwh
    have hsn : ∀ x, x ≤ n5 → s = none ∨ x ≠ sb s := fun x hx => q10.at'.imp id fun w => by omega
    have j3 : h7.info n3 = some ⟨4, 0, true, 0⟩ := i_extX hX7 (by omega) (hsn _ (by omega)) info
    have j5 : h7.info n5 = some (AObj.loop A.busy).m := i_extX hX7 (by omega) (hsn _ (by omega)) info
    have y0 : h7.cell n3 0 = .slice a1 ts.length ts.length := c_extX hX7 (by omega) (hsn _ (by omega)) cell
    have y1 : h7.cell n3 1 = .int .i64 N := c_extX hX7 (by omega) (hsn _ (by omega)) cell
    have y2 : h7.cell n3 2 = .slice a3 ds.length ds.length := c_extX hX7 (by omega) (hsn _ (by omega)) cell
    have hEW : ExtW (fun b => b = n3 ∨ b = n5) (n5 + 1) (h5.app (.obj n5 (.loop A))) h7 := by
      have e1 : ExtW (fun b => b = n3 ∨ b = n5) (n5 + 1) (h5.app (.obj n5 (.loop A))) ((h6.app (.obj n5 (.loop A.busy))).app (.new n6 ⟨1, 0, true, 1⟩ [.int .i64 k])) := extW
      exact e1.then (hX7.ext hs6) (Nat.le_refl _)
    have hn7 : n3 < n7 := by omega
    repeat' (first | refine stp ?_ | (refine stp2 ?_ ?_ <;> intro _))
    refine .inl ⟨rfl, by omega, extW, info, info, cell, cell, cell, by omega, s', cell, ?_⟩
    rw [htk, intsV, List.map_append]
    exact extW_own (hO7.setsN (b := n3) (o' := 3) (vs := [.slice s' (i + 1) (i + 1)]) (hO7.at'.imp id fun w => by omega)) (ExtW.appObj (W := fun b => b = n5) (n := n7) (.inl rfl) (ExtW.refl _ n7 _)) (Nat.le_refl _) (fun b h1 h2 => by omega)
  · rintro i n6 h6 ⟨q1, q2, q3, q4, q5, q6, q7, q8, s, q9, q10⟩
    exact ⟨by omega, c_extW q2 (by omega) (by omega) (c_obj hK2), hK3.extW (n' := n6) (extW : ExtW (fun b => b = n3 ∨ b = n5) n5 h5 h6) (by omega) (by intro q; have := ha5.resolve_left q; have := hK3.ltA q; first | omega | (dsimp only; omega))⟩
  · refine ⟨by omega, extW, info, info, cell, cell, cell, Nat.zero_le _, none, cell, OwnSl.nil (by omega)⟩
  · rintro r n6 h6 (⟨q1, q2, q3, q4, q5, q6, q7, q8, s, q9, q10⟩ | q)
    · refine rangeC.normal q3 ?_
      repeat' (first | refine stpS ?_ | (refine stp2 ?_ ?_ <;> intro _))
      have hlenP : (Bt.placesV (Bt.setL 0 (Bt.packB (Bt.truths M bl)))).length = (keepP sel (Bt.truths M bl)).length := by rw [hset, hkl, Bt.placesV, List.length_map]
      rw [hlenP] at q10 ⊢
      rw [List.take_length] at q10
      have hdl : ds.length = ds.length := rfl
      have eW : ExtW (fun b => b = n3 ∨ b = n5 ∨ b = n + 1 + 1) n5 h5 ((h6.app (.obj n5 (.loop A.over))).app (.sets (n + 1 + 1) 0 [.slice a1 ts.length ts.length, .int .i64 N, .slice a3 ds.length ds.length, .slice s (keepP sel (Bt.truths M bl)).length (keepP sel (Bt.truths M bl)).length])) := by
        have e1 : ExtW (fun b => b = n3 ∨ b = n5) (n5 + 1) (h5.app (.obj n5 (.loop A))) h6 := q2
        have e2 : ExtW (fun b => b = n3 ∨ b = n5 ∨ b = n + 1 + 1) (n5 + 1) (h5.app (.obj n5 (.loop A))) h6 := e1.mono (Nat.le_refl _) (fun x _ q => q.imp id .inl)
        have e3 : ExtW (fun b => b = n3 ∨ b = n5 ∨ b = n + 1 + 1) n5 h5 h6 := e2.via (Nat.le_succ n5) (fun _ _ q => q) (ExtW.appObj (.inl (.inr (.inl rfl))) (ExtW.refl _ _ _))
        exact ExtW.appSets (.inl (.inr (.inr rfl))) (ExtW.appObj (.inl (.inr (.inl rfl))) e3)
      refine ⟨E5'.trans (by omega) (eW.extM (m := n) (by omega) (fun b q => by omega)), .inl ⟨_, rfl, hmay, rfl, a1, a3, ds, s, rfl, hds, ?_⟩⟩
      have hB := BatO.extW hO5 eW (by omega) (fun b h1 h2 => by omega)
      refine ⟨(hB.types.mono (by omega)).ext (Ext.refl _ _) (by omega), (hB.cols.mono (by omega) (by omega)).ext (Ext.refl _ _) (by omega), ?_⟩
      have h1 := extW_own q10 (ExtW.appObj (W := fun b => b = n5) (n := n6) (o := .loop A.over) (.inl rfl) (ExtW.refl _ n6 _)) (Nat.le_refl _) (fun b h1 h2 => by omega)
      exact (h1.setsN (h1.at'.imp id fun w => by omega)).mono (by omega)
    · exact q.elim
end Go.Proofs.Ytaagbfpbbhaclaa
