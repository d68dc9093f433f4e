/- Contracts of batches: the document's some of the columns. -/
import Derived.Test.YtaagbfpbbhaclaaP
set_option linter.unusedSimpArgs false
set_option linter.unusedVariables false
namespace Go.Proofs.Ytaagbfpbbhaclaa
open Go.Abs

set_option maxHeartbeats 4000000 in
theorem refPick_rf (ta ca sa xa : Option Addr) (ts : List Ty) (N : Int) (cs : List RowE) (sel l : List Int) (n : Nat) (h : AH) (BT : SlTy h n ta ts) (BC : RowsR h n ca cs) (BS : SlN h n sa sel) (BL : SlN h n xa l) (hr : ∀ e ∈ cs, e.2.length ≤ 1099511627776) (hs : sel.length ≤ 1099511627776) (htl : ts.length ≤ 1099511627776) (hcl : cs.length ≤ 1099511627776) (hll : l.length ≤ 1099511627776) :
    RF Try.prog none' 28 #[batV ta ts N ca cs sa sel, .slice xa l.length l.length] n h (fun r n' h' => Ext n h h' ∧
      ((∃ c d, r = .tuple #[batV c (pickT ts l) N d (pickC cs l) sa sel, .int .i64 0] ∧ Bat.may ⟨ts, N, cs.map Prod.snd, sel⟩ ∧ pickMay ⟨ts, N, cs.map Prod.snd, sel⟩ l ∧ pickB ⟨ts, N, cs.map Prod.snd, sel⟩ l = ⟨pickT ts l, N, (pickC cs l).map Prod.snd, sel⟩ ∧ SlTy h' n' c (pickT ts l) ∧ RowsR h' n' d (pickC cs l)) ∨ (r = .tuple #[zeroV, .int .i64 130] ∧ ¬ Bat.may ⟨ts, N, cs.map Prod.snd, sel⟩) ∨
        (r = .tuple #[zeroV, .int .i64 1] ∧ Bat.may ⟨ts, N, cs.map Prod.snd, sel⟩ ∧ ¬ pickMay ⟨ts, N, cs.map Prod.snd, sel⟩ l))) := by
  refine RF.of Try.func28 rfl rfl (Nat.le_of_ble_eq_true rfl) ?_; dsimp only [argEnv]
  repeat' (first | refine stpS ?_ | (refine stp2 ?_ ?_ <;> intro _))
  obtain ⟨g, hg⟩ : ∃ g, g = (h.app (.new n ⟨4, 0, true, 0⟩ [.slice ta ts.length ts.length, .int .i64 N, .slice ca cs.length cs.length, .slice sa sel.length sel.length])).app (.new (n + 1) ⟨4, 0, true, 0⟩ [.slice none 0 0, .int .i64 0, .slice none 0 0, .slice none 0 0]) := ⟨_, rfl⟩
  refine RS.heap hg ?_
  have E0 : Ext n h g := by rw [hg]; exact ext
  have k0 : g.cell n 0 = .slice ta ts.length ts.length := by rw [hg]; exact cell
  have k1 : g.cell n 1 = .int .i64 N := by rw [hg]; exact cell
  have k2 : g.cell n 2 = .slice ca cs.length cs.length := by rw [hg]; exact cell
  have k3 : g.cell n 3 = .slice sa sel.length sel.length := by rw [hg]; exact cell
  have kj : g.info (n + 1) = some ⟨4, 0, true, 0⟩ := by rw [hg]; exact info
  clear hg
  refine RS.call rfl opds (refCheck13_rf ta ca sa ts N cs sel _ _ (SlR.ext BT E0 (by omega)) (BC.ext E0 (by omega)) (SlR.ext BS E0 (by omega)) hr hs htl) none'W ?_
  rintro r n1 h1 hle1 ⟨E1, ⟨rfl, hmay⟩ | ⟨rfl, hmay⟩⟩
  rotate_left
  · have kj := (E1.info _ (by omega)).trans kj
    repeat' (first | refine stpS ?_ | (refine stp2 ?_ ?_ <;> intro _))
    exact ⟨(E0.trans (by omega) E1).appSets (by omega), .inr (.inl ⟨rfl, fun q => hmay (may_iff.2 q)⟩)⟩
  have hmay := may_iff.1 hmay
  have E1' : Ext n h h1 := E0.trans (by omega) E1
  have k0 := c_ext E1 (by omega) k0
  have k1 := c_ext E1 (by omega) k1
  have k2 := c_ext E1 (by omega) k2
  have k3 := c_ext E1 (by omega) k3
  have kj := (E1.info _ (by omega)).trans kj
  by_cases q1 : l.length ≤ 32
  rotate_left
  · repeat' (first | refine stpS ?_ | (refine stp2 ?_ ?_ <;> intro _))
    exact ⟨E1'.appSets (by omega), .inr (.inr ⟨rfl, hmay, fun q => q1 q.1⟩)⟩
  repeat' (first | refine stpS ?_ | (refine stp2 ?_ ?_ <;> intro _))
  obtain ⟨g, hg⟩ : ∃ g, g = (h1.app (.new n1 ⟨4, 0, true, 0⟩ [.slice none 0 0, .int .i64 0, .slice none 0 0, .slice none 0 0])).app (.sets n1 0 [.slice none 0 0, .int .i64 N, .slice none 0 0, .slice sa sel.length sel.length]) := ⟨_, rfl⟩
  refine RC.heap hg ?_
  have E2 : Ext n1 h1 g := by rw [hg]; exact ext
  have x0 : g.cell n1 0 = .slice none 0 0 := by rw [hg]; exact cell
  have x1 : g.cell n1 1 = .int .i64 N := by rw [hg]; exact cell
  have x2 : g.cell n1 2 = .slice none 0 0 := by rw [hg]; exact cell
  have x3 : g.cell n1 3 = .slice sa sel.length sel.length := by rw [hg]; exact cell
  have xi : g.info n1 = some ⟨4, 0, true, 0⟩ := by rw [hg]; exact info
  clear hg
  have E2' : Ext n h g := E1'.trans (by omega) E2
  have k0 := c_ext E2 (by omega) k0
  have k1 := c_ext E2 (by omega) k1
  have k2 := c_ext E2 (by omega) k2
  have k3 := c_ext E2 (by omega) k3
  have kj := (E2.info _ (by omega)).trans kj
  have hmc : cs.length = ts.length := by have := hmay.2.1; simpa using this
  refine RC.loop ?_
  refine RL.inv (α := Nat × Option Addr × Option Addr) (fun y => [(8, .int .i64 (y.1 : Nat)), (1, .slice xa l.length l.length), (7, .pointer (some ⟨n1, 0, none⟩)), (2, .pointer (some ⟨n, 0, none⟩)), (4, .pointer (some ⟨n + 1, 0, none⟩))])
    (fun y n3 h3 => y.1 ≤ l.length ∧ n1 + 1 ≤ n3 ∧ ExtW (· = n1) (n1 + 1) g h3 ∧ h3.info n1 = some ⟨4, 0, true, 0⟩ ∧ h3.cell n1 0 = .slice y.2.1 y.1 y.1 ∧ h3.cell n1 1 = .int .i64 N ∧ h3.cell n1 2 = .slice y.2.2 y.1 y.1 ∧ h3.cell n1 3 = .slice sa sel.length sel.length ∧
      OwnSl h3 (n1 + 1) n3 y.2.1 2 y.1 (tysC (pickT ts (l.take y.1))) ∧ OwnSl h3 (n1 + 1) n3 y.2.2 1 y.1 ((pickC cs (l.take y.1)).map rowV) ∧ Apart y.2.1 y.2.2 ∧ ∀ c ∈ l.take y.1, inR cs.length c) (fun y => l.length - y.1) (0, none, none) envs
    ⟨Nat.zero_le _, Nat.le_refl _, ExtW.refl _ _ _, xi, x0, x1, x2, x3, OwnSl.nil (Nat.le_refl _), OwnSl.nil (Nat.le_refl _), .inl rfl, by simp⟩ ?_
  rintro ⟨i, c, d⟩ n3 h3 ⟨hi, hn3, E3, y5, y0, y1, y2, y3, oT, oC, hap, hin⟩
  dsimp only at hi y0 y2 oT oC hap ⊢
  have E3' : Ext n h h3 := E2'.trans (by omega) (E3.extM (m := n1) (by omega) (fun b q => by omega))
  have k0 : h3.cell n 0 = _ := c_extW E3 (by omega) (by omega) k0
  have k2 : h3.cell n 2 = _ := c_extW E3 (by omega) (by omega) k2
  have kj : h3.info (n + 1) = _ := (E3.info _ (by omega) (by omega)).trans kj
  by_cases hlt : i < l.length
  · obtain ⟨v, hv⟩ : ∃ v, l[i]? = some v := ⟨_, List.getElem?_eq_getElem hlt⟩
    have hA : SlA xa l.length := SlR.sla BL
    have hsn : sb xa < n3 := Nat.lt_of_lt_of_le (SlR.lt BL (by omega)) (by omega)
    have d0 : h3.cell (sb xa) (so xa + i) = .int .i64 v := (SlR.cell (SlR.ext BL E3' (by omega : n ≤ n3)) i (by omega)).trans (by simp [List.getD, hv])
    by_cases q3 : inR cs.length v
    rotate_left
    · have hno : ¬ pickMay ⟨ts, N, cs.map Prod.snd, sel⟩ l := fun q => q3 (by have := q.2 v (List.mem_of_getElem? hv); simpa using this)
      by_cases q4 : 0 ≤ v
      · have q5 : ¬ v < cs.length := fun w => q3 ⟨q4, w⟩
        repeat' (first | refine stpS ?_ | (refine stp2 ?_ ?_ <;> intro _))
        exact ⟨E3'.appSets (by omega), .inr (.inr ⟨rfl, hmay, hno⟩)⟩
      · repeat' (first | refine stpS ?_ | (refine stp2 ?_ ?_ <;> intro _))
        exact ⟨E3'.appSets (by omega), .inr (.inr ⟨rfl, hmay, hno⟩)⟩
    obtain ⟨v0, v1⟩ := id q3
    obtain ⟨t, ht⟩ : ∃ t, ts[v.toNat]? = some t := ⟨_, List.getElem?_eq_getElem (by omega)⟩
    obtain ⟨e, he⟩ : ∃ e, cs[v.toNat]? = some e := ⟨_, List.getElem?_eq_getElem (by omega)⟩
    obtain ⟨hAt, hst, t0, t1⟩ := SlTy.at_ (SlR.ext BT E3' (by omega : n ≤ n3)) ht
    obtain ⟨hAc, hsc, f0, V⟩ := (BC.ext E3' (by omega : n ≤ n3)).at_ he
    have hbt : sb ta < n := SlR.lt BT (by omega)
    have hbc : sb ca < n := (BC.at_ he).2.1
    have hpt : pickT ts (l.take (i + 1)) = pickT ts (l.take i) ++ [t] := by
      rw [List.take_add_one, hv]; simp [pickT, List.getD, ht]
    have hpc : pickC cs (l.take (i + 1)) = pickC cs (l.take i) ++ [e] := by
      rw [List.take_add_one, hv]; simp [pickC, List.getD, he]
    obtain ⟨k, s⟩ := t
    obtain ⟨ea, el⟩ := e
    dsimp only at t0 t1 f0
    have hci : ∀ (x : Nat) {z m : Nat} {a : Option Addr} {vs : List Value}, OwnSl h3 (n1 + 1) n3 a z m vs → x ≤ n1 → ¬ inA a x := fun x z m a vs o hx q => by
      have := o.at'.resolve_left q.1
      have := q.2
      omega
    have u0 := hci n1 oT (Nat.le_refl _)
    have u1 := hci n oT (by omega)
    have u2 := hci (sb ta) oT (by omega)
    have u3 := hci (sb ca) oT (by omega)
    have w0 := hci n1 oC (Nat.le_refl _)
    have w1 := hci n oC (by omega)
    have w2 := hci (sb ta) oC (by omega)
    have w3 := hci (sb ca) oC (by omega)
    have hWt : ∀ b, inA c b → b < n3 + 1 := fun b q => by
      have := oT.at'.resolve_left q.1
      have := q.2
      omega
    repeat' (first | refine stpS ?_ | (refine stp2 ?_ ?_ <;> intro _))
    repeat' (first | refine stp ?_ | (refine stp2 ?_ ?_ <;> intro _))
    have hnew : OwnSl (h3.app (.new n3 ⟨2, 0, true, 2⟩ [.int .i64 k, .int .i64 s])) n3 (n3 + 1) (some ⟨n3, 0, none⟩) 2 1 [.int .i64 k, .int .i64 s] := OwnSl.new (h := h3) (m := 1) (z := 2) (Nat.le_refl n3) rfl rfl
    have E4 : Ext n3 h3 (h3.app (.new n3 ⟨2, 0, true, 2⟩ [.int .i64 k, .int .i64 s])) := ext
    have oT4 := oT.ext E4 (Nat.le_succ n3)
    have oC4 := oC.ext E4 (Nat.le_succ n3)
    refine RD.appendT (n3 + 1) rfl opd opd oT4 (hnew.ext (AH.below_ext _ _) (Nat.le_refl _)).src full_slice (fun q => .inr (by have := oT.at'.resolve_left q; omega)) (by omega) (Nat.le_refl _) cfw ?_
    intro c' n5 h5 hle5 hO5 hX5 hwh
    have hcn : ∀ x, x ≤ n1 → c = none ∨ x ≠ sb c := fun x hx => oT.at'.imp id fun w => by omega
    have z1 : h5.cell n1 1 = .int .i64 N := c_extX hX5 (by omega) (hcn _ (by omega)) (c_ext E4 (by omega) y1)
    have z2 : h5.cell n1 2 = .slice d i i := c_extX hX5 (by omega) (hcn _ (by omega)) (c_ext E4 (by omega) y2)
    have z3 : h5.cell n1 3 = .slice sa sel.length sel.length := c_extX hX5 (by omega) (hcn _ (by omega)) (c_ext E4 (by omega) y3)
    have z5 : h5.info n1 = some ⟨4, 0, true, 0⟩ := i_extX hX5 (by omega) (hcn _ (by omega)) ((E4.info _ (by omega)).trans y5)
    have k25 : h5.cell n 2 = .slice ca cs.length cs.length := c_extX hX5 (by omega) (hcn _ (by omega)) (c_ext E4 (by omega) k2)
    have f5 : h5.cell (sb ca) (so ca + v.toNat) = .slice ea el.length el.length := c_extX hX5 (by omega) (hcn _ (by omega)) (c_ext E4 (by omega) f0)
    have oC5 : OwnSl h5 (n1 + 1) n5 d 1 i ((pickC cs (l.take i)).map rowV) := oC4.extX hX5 hle5 (by rcases hap with q | q | q; exact .inl q; exact .inr (.inl q); exact .inr (.inr (Ne.symm q)))
    have hap5 : Apart c' d := by
      rcases hwh with q | q
      · rw [q]; exact hap
      · exact (Apart.of (oC4.at'.imp id fun z => z.2) (.inr q)).symm
    have hn5 : n1 < n5 := by omega
    have hnn5 : n < n5 := by omega
    have hsc5 : sb ca < n5 := by omega
    obtain ⟨g5, hg⟩ : ∃ g5, g5 = h5.app (.sets n1 0 [.slice c' (i + 1) (i + 1)]) := ⟨_, rfl⟩
    have z0 : g5.cell n1 0 = .slice c' (i + 1) (i + 1) := by rw [hg]; exact cell
    have z1 : g5.cell n1 1 = .int .i64 N := by rw [hg]; exact cell
    have z2 : g5.cell n1 2 = .slice d i i := by rw [hg]; exact cell
    have z3 : g5.cell n1 3 = .slice sa sel.length sel.length := by rw [hg]; exact cell
    have z5 : g5.info n1 = some ⟨4, 0, true, 0⟩ := by rw [hg]; exact info
    have k25 : g5.cell n 2 = .slice ca cs.length cs.length := by rw [hg]; exact c_out (by omega) k25
    have f5 : g5.cell (sb ca) (so ca + v.toNat) = .slice ea el.length el.length := by rw [hg]; exact c_out (by omega) f5
    have oC5 : OwnSl g5 (n1 + 1) n5 d 1 i ((pickC cs (l.take i)).map rowV) := by rw [hg]; exact oC5.sets (by omega)
    have oT5 : OwnSl g5 (n1 + 1) n5 c' 2 (i + 1) (tysC (pickT ts (l.take i)) ++ [.int .i64 k, .int .i64 s]) := by rw [hg]; exact hO5.sets (by omega)
    have W5 : ExtW (· = n1) (n1 + 1) g g5 := by
      have e1 : Ext (n1 + 1) h3 h5 := (E4.mono hn3).trans (Nat.le_refl _) (hX5.ext oT4)
      rw [hg]
      exact ExtW.appSets (W := (· = n1)) (.inl rfl) (E3.then e1 (Nat.le_refl _))
    have hWd : ∀ b, inA d b → b < n5 + 1 := fun b q => by
      have := oC.at'.resolve_left q.1
      have := q.2
      omega
    repeat' (first | refine stp ?_ | (refine stp2 ?_ ?_ <;> intro _))
    refine RD.heap (g := g5.app (.new n5 ⟨1, 0, true, 1⟩ [.slice ea el.length el.length])) (by subst hg; rfl) ?_
    clear hg
    have hnew5 : OwnSl (g5.app (.new n5 ⟨1, 0, true, 1⟩ [.slice ea el.length el.length])) n5 (n5 + 1) (some ⟨n5, 0, none⟩) 1 1 [.slice ea el.length el.length] := OwnSl.new (h := g5) (m := 1) (z := 1) (Nat.le_refl n5) rfl rfl
    have E6 : Ext n5 g5 (g5.app (.new n5 ⟨1, 0, true, 1⟩ [.slice ea el.length el.length])) := ext
    have oT6 := oT5.ext E6 (Nat.le_succ n5)
    have oC6 := oC5.ext E6 (Nat.le_succ n5)
    refine RD.appendT (n5 + 1) rfl opd opd oC6 (hnew5.ext (AH.below_ext _ _) (Nat.le_refl _)).src full_slice (fun q => .inr (by have := oC5.at'.resolve_left q; omega)) (by omega) (Nat.le_refl _) cfw ?_
    intro d' n7 h7 hle7 hO7 hX7 hwh7
    have hdn : ∀ x, x ≤ n1 → d = none ∨ x ≠ sb d := fun x hx => oC5.at'.imp id fun w => by omega
    have v0' : h7.cell n1 0 = .slice c' (i + 1) (i + 1) := c_extX hX7 (by omega) (hdn _ (by omega)) (c_ext E6 (by omega) z0)
    have v1' : h7.cell n1 1 = .int .i64 N := c_extX hX7 (by omega) (hdn _ (by omega)) (c_ext E6 (by omega) z1)
    have v3' : h7.cell n1 3 = .slice sa sel.length sel.length := c_extX hX7 (by omega) (hdn _ (by omega)) (c_ext E6 (by omega) z3)
    have v5' : h7.info n1 = some ⟨4, 0, true, 0⟩ := i_extX hX7 (by omega) (hdn _ (by omega)) ((E6.info _ (by omega)).trans z5)
    have hn7 : n1 < n7 := by omega
    have oT7 : OwnSl h7 (n1 + 1) n7 c' 2 (i + 1) (tysC (pickT ts (l.take i)) ++ [.int .i64 k, .int .i64 s]) := oT6.extX hX7 hle7 (by rcases hap5 with q | q | q; exact .inr (.inl q); exact .inl q; exact .inr (.inr q))
    have hap7 : Apart c' d' := by
      rcases hwh7 with q | q
      · rw [q]; exact hap5
      · exact Apart.of (oT6.at'.imp id fun z => z.2) (.inr q)
    have E57 : ExtW (· = n1) (n1 + 1) g h7 := by
      have e2 : Ext (n1 + 1) g5 h7 := (E6.mono (by omega)).trans (Nat.le_refl _) (hX7.ext oC6)
      exact W5.then e2 (Nat.le_refl _)
    repeat' (first | refine stp ?_ | (refine stp2 ?_ ?_ <;> intro _))
    refine nextC.normal ⟨(i + 1, c', d'), by dsimp only; omega, envs, by dsimp only; omega, by omega, ExtW.appSets (W := (· = n1)) (.inl rfl) E57, info, cell, cell, cell, cell, ?_, ?_, hap7, ?_⟩
    · dsimp only
      rw [hpt, tysC_app]
      exact oT7.sets (by omega)
    · dsimp only
      rw [hpc, List.map_append]
      exact hO7.sets (by omega)
    · intro x hx
      dsimp only at hx
      rw [List.take_add_one, hv] at hx
      rcases List.mem_append.1 hx with w | w
      · exact hin x w
      · simp only [Option.toList_some, List.mem_cons, List.not_mem_nil, or_false] at w
        subst w; exact q3
  · have hie : i = l.length := by omega
    subst hie
    rw [List.take_length] at oT oC hin
    have hTl : (pickT ts l).length = l.length := by simp [pickT]
    have hCl : (pickC cs l).length = l.length := by simp [pickC]
    have BT3 : SlTy h3 n3 c (pickT ts l) := by
      show SlR h3 n3 c 2 (pickT ts l).length _
      rw [hTl]; exact oT.slr
    have BC3 : RowsR h3 n3 d (pickC cs l) := by
      refine ⟨by rw [hCl]; exact oC.slr, fun e he => ?_⟩
      simp only [pickC, List.mem_map] at he
      obtain ⟨x, hx, rfl⟩ := he
      obtain ⟨v0, v1⟩ := hin x hx
      have hxl : x.toNat < cs.length := by omega
      have : cs.getD x.toNat (none, []) = cs[x.toNat] := by simp [List.getD, hxl]
      rw [this]
      exact SlR.ext (BC.in_ _ (List.getElem_mem hxl)) E3' (by omega)
    have hpb : pickB ⟨ts, N, cs.map Prod.snd, sel⟩ l = ⟨pickT ts l, N, (pickC cs l).map Prod.snd, sel⟩ := by
      unfold pickB pickT pickC
      simp only [List.map_map, Bat.mk.injEq, true_and, and_true]
      apply List.map_congr_left
      intro x _
      simp only [List.getD, List.getElem?_map, Function.comp]
      cases cs[x.toNat]? <;> rfl
    repeat' (first | refine stpS ?_ | (refine stp2 ?_ ?_ <;> intro _))
    refine ⟨E3'.appSets (by omega), .inl ⟨c, d, ?_, hmay, ⟨q1, by simpa using hin⟩, hpb, ?_, ?_⟩⟩
    · dsimp only [batV]; rw [hTl, hCl]
    · show SlR _ _ c 2 (pickT ts l).length _
      rw [hTl]; exact (oT.sets (by omega)).slr
    · refine ⟨by rw [hCl]; exact (oC.sets (by omega)).slr, fun e he => ?_⟩
      simp only [pickC, List.mem_map] at he
      obtain ⟨x, hx, rfl⟩ := he
      obtain ⟨v0, v1⟩ := hin x hx
      have hxl : x.toNat < cs.length := by omega
      have : cs.getD x.toNat (none, []) = cs[x.toNat] := by simp [List.getD, hxl]
      rw [this]
      exact SlR.ext (BC.in_ _ (List.getElem_mem hxl)) (E3'.appSets (by omega)) (by omega)
end Go.Proofs.Ytaagbfpbbhaclaa
