/- Contracts of batches: the document's batch of rows. -/
import Derived.Test.YtaagbfpbbhaclaaK2
import Derived.Test.YtaagbfpbbhaclaaJ
set_option linter.unusedSimpArgs false
set_option linter.unusedVariables false
namespace Go.Proofs.Ytaagbfpbbhaclaa
open Go.Abs

set_option maxHeartbeats 4000000 in
theorem refChecked_rf (ta ca sa : Option Addr) (ts : List Ty) (N : Int) (cs : List RowE) (sel : List Int) (n : Nat) (h : AH) (BT : SlTy h n ta ts) (BC : RowsR h n ca cs) (BS : SlN h n sa sel) (hr : ∀ e ∈ cs, e.2.length ≤ 1099511627776) (hs : sel.length ≤ 1099511627776) (htl : ts.length ≤ 1099511627776) :
    RF Try.prog none' 35 #[batV ta ts N ca cs sa sel] n h (fun r n' h' => Ext n h h' ∧ ((r = .tuple #[batV ta ts N ca cs sa sel, .int .i64 0] ∧ Bat.may ⟨ts, N, cs.map Prod.snd, sel⟩) ∨ (r = .tuple #[zeroV, .int .i64 130] ∧ ¬ Bat.may ⟨ts, N, cs.map Prod.snd, sel⟩))) := by
  refine RF.of Try.func35 rfl rfl (Nat.le_of_ble_eq_true rfl) ?_; dsimp only [argEnv]
  repeat' (first | refine stpS ?_ | (refine stp2 ?_ ?_ <;> intro _))
  have E0 : Ext n h ((h.app (.new n ⟨4, 0, true, 0⟩ [.slice ta ts.length ts.length, .int .i64 N, .slice ca cs.length cs.length, .slice sa sel.length sel.length])).app (.new (n + 1) ⟨4, 0, true, 0⟩ [.slice none 0 0, .int .i64 0, .slice none 0 0, .slice none 0 0])) := ext
  have k0 : ((h.app (.new n ⟨4, 0, true, 0⟩ [.slice ta ts.length ts.length, .int .i64 N, .slice ca cs.length cs.length, .slice sa sel.length sel.length])).app (.new (n + 1) ⟨4, 0, true, 0⟩ [.slice none 0 0, .int .i64 0, .slice none 0 0, .slice none 0 0])).cell n 0 = .slice ta ts.length ts.length := cell
  have k1 : ((h.app (.new n ⟨4, 0, true, 0⟩ [.slice ta ts.length ts.length, .int .i64 N, .slice ca cs.length cs.length, .slice sa sel.length sel.length])).app (.new (n + 1) ⟨4, 0, true, 0⟩ [.slice none 0 0, .int .i64 0, .slice none 0 0, .slice none 0 0])).cell n 1 = .int .i64 N := cell
  have k2 : ((h.app (.new n ⟨4, 0, true, 0⟩ [.slice ta ts.length ts.length, .int .i64 N, .slice ca cs.length cs.length, .slice sa sel.length sel.length])).app (.new (n + 1) ⟨4, 0, true, 0⟩ [.slice none 0 0, .int .i64 0, .slice none 0 0, .slice none 0 0])).cell n 2 = .slice ca cs.length cs.length := cell
  have k3 : ((h.app (.new n ⟨4, 0, true, 0⟩ [.slice ta ts.length ts.length, .int .i64 N, .slice ca cs.length cs.length, .slice sa sel.length sel.length])).app (.new (n + 1) ⟨4, 0, true, 0⟩ [.slice none 0 0, .int .i64 0, .slice none 0 0, .slice none 0 0])).cell n 3 = .slice sa sel.length sel.length := cell
  have ki : ((h.app (.new n ⟨4, 0, true, 0⟩ [.slice ta ts.length ts.length, .int .i64 N, .slice ca cs.length cs.length, .slice sa sel.length sel.length])).app (.new (n + 1) ⟨4, 0, true, 0⟩ [.slice none 0 0, .int .i64 0, .slice none 0 0, .slice none 0 0])).info (n + 1) = some ⟨4, 0, true, 0⟩ := info
  generalize (h.app (.new n ⟨4, 0, true, 0⟩ [.slice ta ts.length ts.length, .int .i64 N, .slice ca cs.length cs.length, .slice sa sel.length sel.length])).app (.new (n + 1) ⟨4, 0, true, 0⟩ [.slice none 0 0, .int .i64 0, .slice none 0 0, .slice none 0 0]) = g at *
  refine RS.call rfl opds (refCheck13_rf ta ca sa ts N cs sel (n + 1 + 1) g (SlR.ext BT E0 (by omega)) (BC.ext E0 (by omega)) (SlR.ext BS E0 (by omega)) hr hs htl) none'W ?_
  rintro r n1 h1 hle1 ⟨E1, ⟨rfl, hmay⟩ | ⟨rfl, hmay⟩⟩
  · have k0 := c_ext E1 (by omega) k0
    have k1 := c_ext E1 (by omega) k1
    have k2 := c_ext E1 (by omega) k2
    have k3 := c_ext E1 (by omega) k3
    have ki := (E1.info _ (by omega)).trans ki
    repeat' (first | refine stpS ?_ | (refine stp2 ?_ ?_ <;> intro _))
    exact ⟨(E0.trans (by omega) E1).appSets (by omega), .inl ⟨rfl, may_iff.1 hmay⟩⟩
  · have ki := (E1.info _ (by omega)).trans ki
    repeat' (first | refine stpS ?_ | (refine stp2 ?_ ?_ <;> intro _))
    exact ⟨(E0.trans (by omega) E1).appSets (by omega), .inr ⟨rfl, fun q => hmay (may_iff.2 q)⟩⟩
set_option maxHeartbeats 4000000 in
theorem refOf_rf (ta ra : Option Addr) (ts : List Ty) (rs : List RowE) (n : Nat) (h : AH) (BT : SlTy h n ta ts) (BR : RowsR h n ra rs) (hT : ts.length ≤ 1099511627776) (hR : rs.length ≤ 1099511627776) (hr : ∀ e ∈ rs, e.2.length ≤ 1099511627776) :
    RF Try.prog none' 17 #[.slice ta ts.length ts.length, .slice ra rs.length rs.length] n h (fun r n' h' => Ext n h h' ∧
      ((∃ v, r = .tuple #[v, .int .i64 0] ∧ ofMay ts (rs.map Prod.snd) ∧ IsBat (ofB ts (rs.map Prod.snd)) n v n' h') ∨ (r = .tuple #[zeroV, .int .i64 130] ∧ ¬ ofMay ts (rs.map Prod.snd)))) := by
  refine RF.of Try.func17 rfl rfl (Nat.le_of_ble_eq_true rfl) ?_; dsimp only [argEnv]
  repeat' (first | refine stpS ?_ | (refine stp2 ?_ ?_ <;> intro _))
  repeat' (first | refine stp ?_ | (refine stp2 ?_ ?_ <;> intro _))
  refine RD.appendN rfl opd opd BT ext (Nat.le_succ n) (by
    rcases BT.shape with ⟨k, _⟩ | ⟨_, k, _⟩
    · subst k; show 0 < n + 1; omega
    · omega) (by rw [map_range_getD _ _ (tysC_length ts).symm]; exact known_tysC ts) (by omega) cfl ?_
  intro a1 n1 h1 hle1 hO1 E1
  rw [map_range_getD _ _ (tysC_length ts).symm] at hO1
  repeat' (first | refine stp ?_ | (refine stp2 ?_ ?_ <;> intro _))
  simp only [Int.toNat_natCast]
  have hO2 := OwnSl.new (h := h1) (n0 := n + 1) (m := ts.length) (z := 1) (n := n1) (cs := List.replicate ts.length (.slice none 0 0)) (by omega) (by simp) (known_replicate _ _ rfl)
  simp only [Nat.mul_one] at hO2
  have hI : OfI h n n1 (n1 + 1) a1 ts rs.length (((h1.app (.new n1 ⟨ts.length, 0, true, 1⟩ (List.replicate ts.length (.slice none 0 0)))).app (.new (n1 + 1) ⟨4, 0, true, 0⟩ [.slice none 0 0, .int .i64 0, .slice none 0 0, .slice none 0 0])).app (.sets (n1 + 1) 0 [.slice a1 ts.length ts.length, .int .i64 rs.length, .slice (some ⟨n1, 0, none⟩) ts.length ts.length, .slice none 0 0])) (n1 + 1 + 1) (List.replicate ts.length (none, [])) none 0 := by
    refine ⟨ext, hO1.ext ext (by omega), hO1.at'.imp id fun w => w.2, ?_, by simp, OwnSl.nil (Nat.le_refl _), fun e he => .inl rfl, info, info, cell, cell, cell, cell, by omega⟩
    refine ⟨?_, fun i e hi => ?_, fun i e hi => ?_, fun i j e f hi hj hne => ?_⟩
    · have := hO2.ext (n1 := n1 + 1 + 1) (h1 := ((h1.app (.new n1 ⟨ts.length, 0, true, 1⟩ (List.replicate ts.length (.slice none 0 0)))).app (.new (n1 + 1) ⟨4, 0, true, 0⟩ [.slice none 0 0, .int .i64 0, .slice none 0 0, .slice none 0 0])).app (.sets (n1 + 1) 0 [.slice a1 ts.length ts.length, .int .i64 rs.length, .slice (some ⟨n1, 0, none⟩) ts.length ts.length, .slice none 0 0])) ext (by omega)
      rw [rowO_v]
      simp only [List.map_replicate, List.length_map, List.length_replicate]; exact this
    all_goals rw [List.map_replicate] at hi; obtain rfl := List.eq_of_mem_replicate (List.mem_of_getElem? hi)
    · exact OwnSl.nil (Nat.le_refl _)
    · exact Apart.nil
    · exact .inl rfl
  generalize ((h1.app (.new n1 ⟨ts.length, 0, true, 1⟩ (List.replicate ts.length (.slice none 0 0)))).app (.new (n1 + 1) ⟨4, 0, true, 0⟩ [.slice none 0 0, .int .i64 0, .slice none 0 0, .slice none 0 0])).app (.sets (n1 + 1) 0 [.slice a1 ts.length ts.length, .int .i64 rs.length, .slice (some ⟨n1, 0, none⟩) ts.length ts.length, .slice none 0 0]) = g at *
  clear E1 hO1 hO2
  refine RC.loop ?_
  refine RL.inv (α := Nat × List RowE × Option Addr) (fun y => [(7, .int .i64 (y.1 : Nat)), (1, .slice ra rs.length rs.length), (6, .pointer (some ⟨n1 + 1, 0, none⟩)), (4, .pointer (some ⟨n, 0, none⟩)), (0, .slice ta ts.length ts.length)])
    (fun y n2 h2 => y.1 ≤ rs.length ∧ OfI h n n1 (n1 + 1) a1 ts rs.length h2 n2 y.2.1 y.2.2 y.1 ∧ y.2.1.map Prod.snd = colsOf ts.length ((rs.map Prod.snd).take y.1) ∧ ∀ r ∈ (rs.map Prod.snd).take y.1, r.length = ts.length) (fun y => rs.length - y.1) (0, List.replicate ts.length (none, []), none) envs
    ⟨Nat.zero_le _, hI, ?_, fun r hr => by simp at hr⟩ ?_
  · dsimp only; simp only [List.map_replicate, List.take_zero, colsOf]
    apply List.ext_getElem?
    intro i
    by_cases hi : i < ts.length <;> simp [hi, colOf]
  clear hI
  rintro ⟨i, cs, sa⟩ n2 h2 ⟨hi, hI, hcs, hrl⟩
  dsimp only at hi hI hcs hrl ⊢
  obtain ⟨l1, l2, l3⟩ := hI.lt
  by_cases hlt : i < rs.length
  · obtain ⟨e, he⟩ : ∃ e, rs[i]? = some e := ⟨_, List.getElem?_eq_getElem hlt⟩
    obtain ⟨hB, hsn2, f0, V⟩ := (BR.ext hI.ext (by omega : n ≤ n2)).at_ he
    have her := hr e (List.mem_of_getElem? he)
    have i0 := hI.inr
    have hri : (rs.map Prod.snd)[i]? = some e.2 := by rw [List.getElem?_map, he]; rfl
    have htk : (rs.map Prod.snd).take (i + 1) = (rs.map Prod.snd).take i ++ [e.2] := by rw [List.take_add_one, hri]; rfl
    obtain ⟨ea, el⟩ := e
    dsimp only at f0 V her hri htk
    by_cases hl : el.length = ts.length
    · repeat' (first | refine stpS ?_ | (refine stp2 ?_ ?_ <;> intro _))
      refine RC.loop ?_
      refine RL.inv (α := Nat × List RowE) (fun y => [(8, .int .i64 (y.1 : Nat)), (7, .int .i64 (i : Nat)), (1, .slice ra rs.length rs.length), (6, .pointer (some ⟨n1 + 1, 0, none⟩)), (4, .pointer (some ⟨n, 0, none⟩)), (0, .slice ta ts.length ts.length)])
        (fun y n3 h3 => y.1 ≤ el.length ∧ n2 ≤ n3 ∧ OfI h n n1 (n1 + 1) a1 ts rs.length h3 n3 y.2 sa i ∧ y.2.map Prod.snd = colsI ts.length (rs.map Prod.snd) i y.1) (fun y => el.length - y.1) (0, cs) envs
        ⟨Nat.zero_le _, Nat.le_refl _, hI, by rw [colsI_zero]; exact hcs⟩ ?_
      clear hI hcs
      rintro ⟨j, cs⟩ n3 h3 ⟨hj, hn3, hI, hcs⟩
      dsimp only at hj hI hcs ⊢
      have V3 : SlV h3 n3 ea el := ((BR.ext hI.ext (by have := hI.lt; omega : n ≤ n3)).at_ he).2.2.2
      by_cases hltj : j < el.length
      · obtain ⟨v, hv⟩ : ∃ v, el[j]? = some v := ⟨_, List.getElem?_eq_getElem hltj⟩
        obtain ⟨c, hc⟩ : ∃ c, cs[j]? = some c := ⟨_, List.getElem?_eq_getElem (by have := hI.len; omega)⟩
        obtain ⟨hC, hsn3, g0, g1, g2, g3, g4⟩ := V3.at_ hv
        have c2 := hI.c2
        obtain ⟨hBr, hsr, f3, V2⟩ := (BR.ext hI.ext (by omega : n ≤ n3)).at_ he
        have hsr0 := (BR.at_ he).2.1
        have hsv0 := ((BR.at_ he).2.2.2.at_ hv).2.1
        have oc0 := (hI.col hc).1
        dsimp only at hsr hsr0 hsv0 hBr f3 V2
        obtain ⟨oc, d0, d1⟩ := hI.col hc
        obtain ⟨l4, l5, l6⟩ := hI.lt
        have hcl : c.2.length ≤ 1099511627776 := by
          have hjm : j < ts.length := by omega
          have : c.2 = colOf ((rs.map Prod.snd).take i) j := by
            have := congrArg (fun l => l[j]?) hcs
            simp only [List.getElem?_map, hc, colsI, List.getElem?_range hjm, Option.map_some] at this
            simpa using this
          rw [this, colOf, List.length_map, List.length_take]
          omega
        repeat' (first | refine stp ?_ | (refine stp2 ?_ ?_ <;> intro _))
        have hE4 : Ext n3 h3 (h3.app (.new n3 ⟨5, 0, true, 5⟩ (valC v))) := ext
        have hnew : OwnSl (h3.app (.new n3 ⟨5, 0, true, 5⟩ (valC v))) n3 (n3 + 1) (some ⟨n3, 0, none⟩) 5 1 (valC v) := OwnSl.new (h := h3) (m := 1) (z := 5) (Nat.le_refl n3) rfl rfl
        have I4 := hI.grow hE4 (Nat.le_succ n3)
        obtain ⟨oc4, d04, d14⟩ := I4.col hc
        have hTo : c.1 ≠ none → n ≤ sb c.1 := fun q => by
          have := d1.resolve_left q
          omega
        have hnd : ¬ inA c.1 (n1 + 1) := fun q => by
          have := d1.resolve_left q.1
          have := q.2
          omega
        have hnd1 : ¬ inA c.1 n1 := fun q => by
          have := d1.resolve_left q.1
          have := q.2
          omega
        have hnd2 : ¬ inA c.1 (sb ra) := fun q => by
          have := d1.resolve_left q.1
          have := q.2
          omega
        have hnd3 : ¬ inA c.1 (sb ea) := fun q => by
          have := d1.resolve_left q.1
          have := q.2
          omega
        have hWl : ∀ b, inA c.1 b → b < n3 + 1 := fun b q => by
          have := oc0.at'.resolve_left q.1
          have := q.2
          omega
        refine RD.appendT (n3 + 1) rfl opd opd oc4 (hnew.ext (AH.below_ext _ _) (Nat.le_refl _)).src full_slice (fun q => .inr (hTo q)) (by omega) (Nat.le_refl _) cfw ?_
        intro a4 n4 h4 hle4 hO4 hX4 hwh
        have hi4 : h4.info n1 = some ⟨ts.length, 0, true, 1⟩ := i_extX hX4 (by omega) (d1.imp id fun q => by omega) (I4.inp (by omega))
        have hn4 : n1 < n4 := by omega
        repeat' (first | refine stp ?_ | (refine stp2 ?_ ?_ <;> intro _))
        simp only [Int.toNat_natCast]
        have I5 := I4.put (n1 := n4) hc hX4 hle4 rfl hO4 hwh
        refine nextC.normal ⟨(j + 1, cs.set j (a4, c.2 ++ [v])), by dsimp only; omega, envs, by dsimp only; omega, by omega, I5, colsI_step (by omega) hri hv hcs hc⟩
      · have hje : j = ts.length := by omega
        subst hje
        rw [colsI_all] at hcs
        have c3 := hI.c3
        have cq := hI.inf
        obtain ⟨l4, l5, l6⟩ := hI.lt
        repeat' (first | refine stpS ?_ | (refine stp2 ?_ ?_ <;> intro _))
        have hE4 : Ext n3 h3 (h3.app (.new n3 ⟨1, 0, true, 1⟩ [.int .i64 (i : Nat)])) := ext
        have hnew : OwnSl (h3.app (.new n3 ⟨1, 0, true, 1⟩ [.int .i64 (i : Nat)])) n3 (n3 + 1) (some ⟨n3, 0, none⟩) 1 1 [.int .i64 (i : Nat)] := OwnSl.new (h := h3) (m := 1) (z := 1) (Nat.le_refl n3) rfl rfl
        have I4 := hI.grow hE4 (Nat.le_succ n3)
        refine RS.append rfl opd opd I4.sel hnew.src full_slice (fun b hb => .inr (by omega)) (by omega) ?_
        intro a4 n4 h4 hle4 hO4 hX4 hwh
        have hsa : sa = none ∨ n1 + 1 ≠ sb sa := I4.sel.at'.imp id fun w => by omega
        have cq4 : h4.info (n1 + 1) = some ⟨4, 0, true, 0⟩ := i_extX hX4 (by omega) hsa I4.inf
        repeat' (first | refine stpS ?_ | (refine stp2 ?_ ?_ <;> intro _))
        have I5 := I4.more (n1 := n4) hX4 hle4 hO4 hwh
        refine nextC.normal ⟨(i + 1, cs, a4), by dsimp only; omega, envs, by dsimp only; omega, I5, hcs, ?_⟩
        intro r hr
        dsimp only at hr
        rw [htk] at hr
        rcases List.mem_append.1 hr with w | w
        · exact hrl r w
        · simp only [List.mem_cons, List.not_mem_nil, or_false] at w
          subst w; exact hl
    · repeat' (first | refine stpS ?_ | (refine stp2 ?_ ?_ <;> intro _))
      refine ⟨hI.ext.appSets (Nat.le_refl _), .inr ⟨rfl, fun q => hl (q.1 el (List.mem_of_getElem? hri))⟩⟩
  · have hie : i = rs.length := by omega
    subst hie
    have htk : (rs.map Prod.snd).take rs.length = rs.map Prod.snd := List.take_of_length_le (by simp)
    rw [htk] at hcs hrl
    have c0 := hI.c0
    have c1 := hI.c1
    have c2 := hI.c2
    have c3 := hI.c3
    have i0 := hI.inr
    have hcl := hI.len
    have hB := hI.bat
    have hsl := selAll_length rs.length
    have hsn := OwnSl.slN hB.sel
    have hrl2 : ∀ e ∈ cs, e.2.length ≤ 1099511627776 := by
      intro e he
      have : e.2 ∈ colsOf ts.length (rs.map Prod.snd) := by rw [← hcs]; exact List.mem_map_of_mem he
      simp only [colsOf, List.mem_map] at this
      obtain ⟨k, -, h3⟩ := this
      rw [← h3, colOf, List.length_map, List.length_map]; exact hR
    have hck := refChecked_rf a1 (some ⟨n1, 0, none⟩) sa ts rs.length cs (selAll rs.length) n2 h2 hB.types.slr (OwnRR.rowsR hB.cols) hsn hrl2 (by rw [hsl]; exact hR) hT
    dsimp only [batV] at hck
    rw [hsl, hcl] at hck
    repeat' (first | refine stpS ?_ | (refine stp2 ?_ ?_ <;> intro _))
    refine RS.call rfl opds hck none'W ?_
    have hb : ofB ts (rs.map Prod.snd) = ⟨ts, rs.length, colsOf ts.length (rs.map Prod.snd), selAll rs.length⟩ := by simp [ofB]
    have hmi : Bat.may ⟨ts, rs.length, cs.map Prod.snd, selAll rs.length⟩ ↔ ofMay ts (rs.map Prod.snd) := by
      rw [hcs]
      unfold ofMay
      rw [hb]
      exact ⟨fun q => ⟨hrl, q⟩, fun q => q.2⟩
    rintro r n3 h3 hle3 ⟨E3, ⟨rfl, hmay⟩ | ⟨rfl, hmay⟩⟩
    · have I3 := hI.grow E3 hle3
      have i0 := I3.inr
      repeat' (first | refine stpS ?_ | (refine stp2 ?_ ?_ <;> intro _))
      refine ⟨I3.ext.appSets (Nat.le_refl _), .inl ⟨_, rfl, hmi.1 hmay, a1, some ⟨n1, 0, none⟩, cs, sa, ?_, by rw [hcs]; rfl, ?_⟩⟩
      · rw [hb]; dsimp only [batV]; rw [hcl, hsl]
      · rw [hb]; dsimp only
        exact I3.batS
    · have I3 := hI.grow E3 hle3
      have i0 := I3.inr
      repeat' (first | refine stpS ?_ | (refine stp2 ?_ ?_ <;> intro _))
      exact ⟨I3.ext.appSets (Nat.le_refl _), .inr ⟨rfl, fun q => hmay (hmi.2 q)⟩⟩
end Go.Proofs.Ytaagbfpbbhaclaa
