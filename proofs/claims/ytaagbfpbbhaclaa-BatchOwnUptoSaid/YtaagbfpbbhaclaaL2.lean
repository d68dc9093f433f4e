/- The law BatchTwice. -/
import Derived.Test.YtaagbfpbbhaclaaK8
import Derived.Test.YtaagbfpbbhaclaaN
import Derived.Test.YtaagbfpbbhaclaaArg
set_option linter.unusedSimpArgs false
set_option linter.unusedVariables false
namespace Go.Proofs.Ytaagbfpbbhaclaa
open Go.Abs Go.RowKit

theorem IsBat.ofB_ {ts : List Ty} {L : List (List Val)} {n0 n k : Nat} {v : Value} {h : AH} (b : IsBat (ofB ts L) n0 v n h) (hk : L.length = k) : ∃ ta ca cs sa, v = .agg #[.slice ta ts.length ts.length, .int .i64 k, .slice ca ts.length ts.length, .slice sa k k] ∧
    cs.map Prod.snd = colsOf ts.length L ∧ cs.length = ts.length ∧ BatO n0 h n ta ts ca cs sa (selAll k) := by
  subst hk
  obtain ⟨ta, ca, cs, sa, rfl, hc, hB⟩ := b
  dsimp only [ofB] at hc hB
  have hl : cs.length = ts.length := by have := congrArg List.length hc; simpa [colsOf] using this
  refine ⟨ta, ca, cs, sa, ?_, hc, hl, hB⟩
  dsimp only [batV, ofB]
  rw [hl, selAll_length]
/-- What is kept of what was kept; which are kept by both. -/
def restI (one two : List Bool) (i : Nat) : List Bool := ((List.range i).filter (one.getD · false)).map (two.getD · false)
def bothI (one two : List Bool) (i : Nat) : List Nat := (List.range i).filter fun j => one.getD j false && two.getD j false
def wantI (rs : List RowE) (one two : List Bool) (i : Nat) : List RowE := (bothI one two i).map fun j => rs.getD j (none, [])
theorem restI_f {one two : List Bool} {i : Nat} (h : one.getD i false = false) : restI one two (i + 1) = restI one two i := by
  unfold restI
  rw [List.range_succ, List.filter_append, List.filter_cons, h]
  simp
theorem restI_t {one two : List Bool} {i : Nat} (h : one.getD i false = true) : restI one two (i + 1) = restI one two i ++ [two.getD i false] := by
  unfold restI
  rw [List.range_succ, List.filter_append, List.filter_cons, h]
  simp
theorem wantI_f {rs : List RowE} {one two : List Bool} {i : Nat} (h : (one.getD i false && two.getD i false) = false) : wantI rs one two (i + 1) = wantI rs one two i := by
  unfold wantI bothI
  rw [List.range_succ, List.filter_append, List.filter_cons, h]
  simp
theorem wantI_t {rs : List RowE} {one two : List Bool} {i : Nat} {e : RowE} (h : (one.getD i false && two.getD i false) = true) (he : rs[i]? = some e) : wantI rs one two (i + 1) = wantI rs one two i ++ [e] := by
  unfold wantI bothI
  rw [List.range_succ, List.filter_append, List.filter_cons, h]
  simp [List.getD, he]
theorem restI_le (one two : List Bool) (i : Nat) : (restI one two i).length ≤ i := by
  have := List.length_filter_le (one.getD · false) (List.range i)
  simp only [List.length_range] at this
  simp only [restI, List.length_map]; omega
theorem wantI_le (rs : List RowE) (one two : List Bool) (i : Nat) : (wantI rs one two i).length ≤ i := by
  have := List.length_filter_le (fun j => one.getD j false && two.getD j false) (List.range i)
  simp only [List.length_range] at this
  simp only [wantI, bothI, List.length_map]; omega
theorem SlT.take {h : AH} {n k : Nat} {a : Option Addr} {t : List Bool} (S : SlT h n a t) (hk : k ≤ t.length) : SlT h n a (t.take k) := by
  have := SlR.take S hk
  have e : (t.take k).length = k := by rw [List.length_take]; omega
  show SlR h n a 1 (t.take k).length (boolsF (t.take k))
  rw [e]
  exact this.congr fun j hj => by simp only [boolsF, List.getD, List.getElem?_take]; rw [if_pos (by omega)]
theorem take_map (t : List Bool) (k : Nat) (h : k ≤ t.length) : t.take k = (List.range k).map (t.getD · false) := by
  apply List.ext_getElem?
  intro i
  rw [List.getElem?_take, List.getElem?_map]
  by_cases hi : i < k
  · rw [if_pos hi, List.getElem?_range hi]
    simp [List.getD, show i < t.length by omega]
  · rw [if_neg hi, List.getElem?_eq_none (by simp; omega)]; rfl
def oneI (one : List Bool) (k : Nat) : List Nat := (List.range k).filter (one.getD · false)
theorem sel1_eq (one : List Bool) (k : Nat) (h : k ≤ one.length) : keepP (selAll k) (one.take k) = (oneI one k).map Int.ofNat := by
  rw [take_map one k h]; exact keep_map (List.range k) (one.getD · false)
theorem sel2_eq (one two : List Bool) (k : Nat) : keepP ((oneI one k).map Int.ofNat) (restI one two k) = (bothI one two k).map Int.ofNat := by
  have := keep_map (oneI one k) (two.getD · false)
  rw [show restI one two k = (oneI one k).map (two.getD · false) from rfl, this]
  congr 1
  unfold oneI bothI
  rw [List.filter_filter]
  congr 1
  funext j
  exact Bool.and_comm _ _
theorem filter_lt {f : Nat → Bool} {k i : Nat} (h : i ∈ (List.range k).filter f) : i < k := List.mem_range.1 (List.mem_filter.1 h).1
theorem filter_pw {f : Nat → Bool} {k : Nat} : ((List.range k).filter f).Pairwise (· < ·) := List.Pairwise.filter _ List.pairwise_lt_range
theorem want_rows {rs : List RowE} {one two : List Bool} {k : Nat} (hk : k ≤ rs.length) : (wantI rs one two k).map Prod.snd = (bothI one two k).map fun i => (rs.map Prod.snd).getD i [] := by
  unfold wantI
  rw [List.map_map]
  apply List.map_congr_left
  intro i hi
  have := filter_lt hi
  simp [List.getD, show i < rs.length by omega]
theorem IsBat.open_ {b : Bat} {n0 n : Nat} {v : Value} {h : AH} (o : IsBat b n0 v n h) : ∃ ta ca cs sa, v = .agg #[.slice ta b.types.length b.types.length, .int .i64 b.num, .slice ca b.cols.length b.cols.length, .slice sa b.sel.length b.sel.length] ∧ cs.map Prod.snd = b.cols ∧ cs.length = b.cols.length ∧ BatO n0 h n ta b.types ca cs sa b.sel := by
  obtain ⟨ta, ca, cs, sa, rfl, hc, hB⟩ := o
  have hl : cs.length = b.cols.length := by rw [← hc, List.length_map]
  exact ⟨ta, ca, cs, sa, by dsimp only [batV]; rw [hl], hc, hl, hB⟩
set_option maxHeartbeats 4000000 in
theorem law_BatchTwice (ta ra oa wa : Option Addr) (ts : List Ty) (rs : List RowE) (one two : List Bool) (m n : Nat) (h : AH) (hT : SlTy h n ta ts) (hR : RowsR h n ra rs) (hO : SlT h n oa one) (hW : SlT h n wa two) (tl : ts.length ≤ m) (rl : rs.length ≤ m) (hr : ∀ e ∈ rs, e.2.length ≤ m) (ol : one.length ≤ m) (wl : two.length ≤ m) (hm : m ≤ 1048576) (hn : 0 < n) :
    RF Try.prog none' 5 #[.slice ta ts.length ts.length, .slice ra rs.length rs.length, .slice oa one.length one.length, .slice wa two.length two.length] n h (fun r _ _ => r = .bool true) := by
  have hr' : ∀ e ∈ rs, e.2.length ≤ 1099511627776 := fun e he => by have := hr e he; omega
  refine RF.of Try.func5 rfl rfl (Nat.le_of_ble_eq_true rfl) ?_; dsimp only [argEnv]
  repeat' (first | refine stpS ?_ | (refine stp2 ?_ ?_ <;> intro _) | refine RS.call1 rfl opds (begun_ev _ _) none'W ?_)
  refine RS.call rfl opds (of_rf ta ra ts rs n h hT hR (by omega) (by omega) hr') none'W ?_
  rintro r n1 h1 hle1 ⟨E1, ⟨v, rfl, hmay, hB⟩ | ⟨rfl, hmay⟩⟩
  rotate_left
  · repeat' (first | refine stpS ?_ | (refine stp2 ?_ ?_ <;> intro _))
    rfl
  obtain ⟨ta1, ca1, cs1, sa1, rfl, hc1, hcl1, hB1⟩ := IsBat.ofB_ hB (k := rs.length) (by simp)
  clear hB
  by_cases q1 : rs.length ≤ one.length
  rotate_left
  · repeat' (first | refine stpS ?_ | (refine stp2 ?_ ?_ <;> intro _))
    rfl
  by_cases q2 : rs.length ≤ two.length
  rotate_left
  · repeat' (first | refine stpS ?_ | (refine stp2 ?_ ?_ <;> intro _))
    rfl
  repeat' (first | refine stpS ?_ | (refine stp2 ?_ ?_ <;> intro _))
  obtain ⟨g, hg⟩ : ∃ g, g = (h1.app (.new n1 ⟨4, 0, true, 0⟩ [.slice none 0 0, .int .i64 0, .slice none 0 0, .slice none 0 0])).app (.sets n1 0 [.slice ta1 ts.length ts.length, .int .i64 rs.length, .slice ca1 ts.length ts.length, .slice sa1 rs.length rs.length]) := ⟨_, rfl⟩
  refine RC.heap hg ?_
  have E2 : Ext n1 h1 g := by rw [hg]; exact ext
  have k0 : g.cell n1 0 = .slice ta1 ts.length ts.length := by rw [hg]; exact cell
  have k1 : g.cell n1 1 = .int .i64 rs.length := by rw [hg]; exact cell
  have k2 : g.cell n1 2 = .slice ca1 ts.length ts.length := by rw [hg]; exact cell
  have k3 : g.cell n1 3 = .slice sa1 rs.length rs.length := by rw [hg]; exact cell
  clear hg
  have E2' : Ext n h g := E1.trans (by omega) E2
  refine RC.loop ?_
  refine RL.inv (α := Nat × Option Addr × Option Addr) (fun y => [(49, .int .i64 (y.1 : Nat)), (48, .int .i64 rs.length), (9, .pointer (some ⟨n1, 0, none⟩)), (10, .int .i64 0), (11, .slice y.2.2 (wantI rs one two y.1).length (wantI rs one two y.1).length), (12, .slice y.2.1 (restI one two y.1).length (restI one two y.1).length), (0, .slice ta ts.length ts.length), (1, .slice ra rs.length rs.length), (2, .slice oa one.length one.length), (3, .slice wa two.length two.length)])
    (fun y n3 h3 => y.1 ≤ rs.length ∧ n1 + 1 ≤ n3 ∧ Ext (n1 + 1) g h3 ∧ OwnSl h3 (n1 + 1) n3 y.2.1 1 (restI one two y.1).length (boolsV (restI one two y.1)) ∧ OwnSl h3 (n1 + 1) n3 y.2.2 1 (wantI rs one two y.1).length ((wantI rs one two y.1).map rowV) ∧ Apart y.2.1 y.2.2) (fun y => rs.length - y.1) (0, none, none) envs
    ⟨Nat.zero_le _, Nat.le_refl _, Ext.refl _ _, OwnSl.nil (Nat.le_refl _), OwnSl.nil (Nat.le_refl _), .inl rfl⟩ ?_
  rintro ⟨i, c, w⟩ n3 h3 ⟨hi, hn3, E3, oC, oW, hap⟩
  dsimp only at hi oC oW hap ⊢
  have E3' : Ext n h h3 := E2'.trans (by omega) E3
  have hrl := restI_le one two i
  have hwl := wantI_le rs one two i
  by_cases hlt : i < rs.length
  · obtain ⟨e, he⟩ : ∃ e, rs[i]? = some e := ⟨_, List.getElem?_eq_getElem hlt⟩
    have hA1 : SlA oa one.length := SlR.sla hO
    have hA2 : SlA wa two.length := SlR.sla hW
    have hs1 : sb oa < n3 := Nat.lt_of_lt_of_le (SlR.lt hO (by omega)) (by omega)
    have hs2 : sb wa < n3 := Nat.lt_of_lt_of_le (SlR.lt hW (by omega)) (by omega)
    have d0 : h3.cell (sb oa) (so oa + i) = .bool (one.getD i false) := SlR.cell (SlR.ext hO E3' (by omega : n ≤ n3)) i (by omega)
    have d1 : h3.cell (sb wa) (so wa + i) = .bool (two.getD i false) := SlR.cell (SlR.ext hW E3' (by omega : n ≤ n3)) i (by omega)
    cases hb1 : one.getD i false
    · rw [hb1] at d0
      have e1 := restI_f (two := two) hb1
      have e2 := wantI_f (rs := rs) (one := one) (two := two) (i := i) (by rw [hb1]; rfl)
      repeat' (first | refine stpS ?_ | (refine stp2 ?_ ?_ <;> intro _))
      refine nextC.normal ⟨(i + 1, c, w), by dsimp only; omega, by dsimp only; rw [e1, e2]; exact envs, by dsimp only; omega, hn3, E3, by dsimp only; rw [e1]; exact oC, by dsimp only; rw [e2]; exact oW, hap⟩
    · rw [hb1] at d0
      have e1 := restI_t (two := two) hb1
      have hnew : OwnSl (h3.app (.new n3 ⟨1, 0, true, 1⟩ [.bool (two.getD i false)])) n3 (n3 + 1) (some ⟨n3, 0, none⟩) 1 1 [.bool (two.getD i false)] := OwnSl.new (h := h3) (m := 1) (z := 1) (Nat.le_refl n3) rfl rfl
      have E4 : Ext n3 h3 (h3.app (.new n3 ⟨1, 0, true, 1⟩ [.bool (two.getD i false)])) := ext
      have oC4 := oC.ext E4 (Nat.le_succ n3)
      have oW4 := oW.ext E4 (Nat.le_succ n3)
      repeat' (first | refine stpS ?_ | (refine stp2 ?_ ?_ <;> intro _))
      refine RS.append rfl opd opd oC4 hnew.src full_slice (fun b hb => .inr (by omega)) (by omega) ?_
      intro c' n5 h5 hle5 hO5 hX5 hwh
      have E5 : Ext (n1 + 1) g h5 := (E3.trans (by omega) E4).trans (Nat.le_refl _) (hX5.ext oC4)
      have E5' : Ext n h h5 := E2'.trans (by omega) E5
      have oW5 : OwnSl h5 (n1 + 1) n5 w 1 (wantI rs one two i).length ((wantI rs one two i).map rowV) := oW4.extX hX5 hle5 (by rcases hap with q | q | q; exact .inl q; exact .inr (.inl q); exact .inr (.inr (Ne.symm q)))
      have hap5 : Apart c' w := by
        rcases hwh with q | q
        · rw [q]; exact hap
        · exact (Apart.of (oW4.at'.imp id fun z => z.2) (.inr q)).symm
      have d1 : h5.cell (sb wa) (so wa + i) = .bool (two.getD i false) := SlR.cell (SlR.ext hW E5' (by omega : n ≤ n5)) i (by omega)
      have hs5 : sb wa < n5 := by omega
      have hO5 : OwnSl h5 (n1 + 1) n5 c' 1 (restI one two (i + 1)).length (boolsV (restI one two (i + 1))) := by
        rw [e1, List.length_append, boolsV, List.map_append]; exact hO5
      have hl1 : (restI one two (i + 1)).length = (restI one two i).length + 1 := by rw [e1]; simp
      cases hb2 : two.getD i false
      · rw [hb2] at d1
        have e2 := wantI_f (rs := rs) (one := one) (two := two) (i := i) (by rw [hb1, hb2]; rfl)
        repeat' (first | refine stpS ?_ | (refine stp2 ?_ ?_ <;> intro _))
        refine nextC.normal ⟨(i + 1, c', w), by dsimp only; omega, by dsimp only; rw [hl1, e2]; exact envs, by dsimp only; omega, by omega, E5, hO5, by dsimp only; rw [e2]; exact oW5, hap5⟩
      · rw [hb2] at d1
        have e2 := wantI_t (rs := rs) (one := one) (two := two) (i := i) (e := e) (by rw [hb1, hb2]; rfl) he
        obtain ⟨hB, hsn2, f0, V⟩ := (hR.ext E5' (by omega : n ≤ n5)).at_ he
        repeat' (first | refine stpS ?_ | (refine stp2 ?_ ?_ <;> intro _))
        have hnew : OwnSl (h5.app (.new n5 ⟨1, 0, true, 1⟩ [.slice e.1 e.2.length e.2.length])) n5 (n5 + 1) (some ⟨n5, 0, none⟩) 1 1 [.slice e.1 e.2.length e.2.length] := OwnSl.new (h := h5) (m := 1) (z := 1) (Nat.le_refl n5) rfl rfl
        have E6 : Ext n5 h5 (h5.app (.new n5 ⟨1, 0, true, 1⟩ [.slice e.1 e.2.length e.2.length])) := ext
        have oC6 := hO5.ext E6 (Nat.le_succ n5)
        have oW6 := oW5.ext E6 (Nat.le_succ n5)
        refine RS.append rfl opd opd oW6 hnew.src full_slice (fun b hb => .inr (by omega)) (by omega) ?_
        intro w' n7 h7 hle7 hO7 hX7 hwh7
        repeat' (first | refine stpS ?_ | (refine stp2 ?_ ?_ <;> intro _))
        refine nextC.normal ⟨(i + 1, c', w'), by dsimp only; omega, by dsimp only; rw [hl1, e2, List.length_append]; exact envs, by dsimp only; omega, by omega, (E5.trans (by omega) E6).trans (Nat.le_refl _) (hX7.ext oW6), ?_, ?_, ?_⟩
        · exact oC6.extX hX7 hle7 (by rcases hap5 with q | q | q; exact .inr (.inl q); exact .inl q; exact .inr (.inr q))
        · dsimp only; rw [e2, List.length_append, List.map_append]; exact hO7
        · dsimp only
          rcases hwh7 with q | q
          · rw [q]; exact hap5
          · exact Apart.of (oC6.at'.imp id fun z => z.2) (.inr q)
  · have hie : i = rs.length := by omega
    subst hie
    have k0 := c_ext E3 (by omega) k0
    have k1 := c_ext E3 (by omega) k1
    have k2 := c_ext E3 (by omega) k2
    have k3 := c_ext E3 (by omega) k3
    have hA1 : SlI h3 oa 1 one.length := SlI.of hO E3'
    have hs1 : sb oa < n3 := SlR.ltp hO hn (by omega)
    have hk0 : (one.take rs.length).length = rs.length := by rw [List.length_take]; omega
    repeat' (first | refine stpS ?_ | (refine stp2 ?_ ?_ <;> intro _))
    repeat' (first | refine stp ?_ | (refine stp2 ?_ ?_ <;> intro _))
    have hof := Bt.refOf_rf (one.take rs.length) oa rs.length n3 (h3.below n3) (SlR.ext (SlR.ext (SlT.take hO q1) E3' (by omega)) (AH.below_ext _ _) (Nat.le_refl _)) hk0.symm (by omega)
    refine RD.call n3 rfl opds hof (Nat.le_refl _) cfc ?_
    rintro r n4 h4 hle4 ⟨b4, rfl, E4, oB4⟩
    have E4 : Ext n3 h3 h4 := E4.via (Nat.le_refl _) (AH.below_ext h3 n3)
    repeat' (first | refine stp ?_ | (refine stp2 ?_ ?_ <;> intro _))
    have hB4 := (hB1.ext (E2.trans (Nat.le_refl _) ((E3.trans (by omega) E4).mono (by omega))) (by omega : n1 ≤ n4)).ext (AH.below_ext h4 n4) (Nat.le_refl n4)
    have hcol1 : ∀ e ∈ cs1, e.2.length ≤ 1099511627776 := fun e he => by
      have : e.2 ∈ colsOf ts.length (rs.map Prod.snd) := by rw [← hc1]; exact List.mem_map_of_mem he
      simp only [colsOf, List.mem_map] at this
      obtain ⟨k, -, q⟩ := this
      rw [← q, colOf, List.length_map, List.length_map]; omega
    have hpl := Bt.packB_length (one.take rs.length)
    have hke := keep_rf ta1 ca1 sa1 b4 ts rs.length cs1 (selAll rs.length) (one.take rs.length).length (Bt.packB (one.take rs.length)) n4 (h4.below n4) hB4.types.slr (OwnRR.rowsR hB4.cols) (OwnSl.slN hB4.sel) (oB4.ext (AH.below_ext h4 n4) (Nat.le_refl n4)).slbE hcol1 (by rw [selAll_length]; omega) (by omega) (by rw [hcl1]; omega) (by rw [hpl, hk0]; omega)
    rw [Bt.truths_pack, sel1_eq one rs.length q1, hc1] at hke
    dsimp only [batV] at hke
    rw [hcl1, selAll_length, hk0] at hke
    rw [hk0]
    refine RD.call n4 rfl opds hke (Nat.le_refl _) cfc ?_
    rintro r n5 h5 hle5 ⟨E5, ⟨v5, rfl, hm5, hl5, hB5⟩ | ⟨-, q⟩ | ⟨-, -, q⟩⟩
    rotate_left
    · exact absurd (by have := hmay.2; simpa [ofB] using this) q
    · exact absurd rfl q
    have E5 : Ext n4 h4 h5 := E5.via (Nat.le_refl _) (AH.below_ext h4 n4)
    obtain ⟨ta5, ca5, cs5, sa5, rfl, hc5, hl5, hB5⟩ := IsBat.open_ hB5
    dsimp only at hc5 hl5 hB5 ⊢
    rw [show (colsOf ts.length (rs.map Prod.snd)).length = ts.length by simp [colsOf]] at hl5 ⊢
    repeat' (first | refine stp ?_ | (refine stp2 ?_ ?_ <;> intro _))
    obtain ⟨g6, hg⟩ : ∃ g6, g6 = (h5.app (.new n5 ⟨4, 0, true, 0⟩ [.slice none 0 0, .int .i64 0, .slice none 0 0, .slice none 0 0])).app (.sets n5 0 [.slice ta5 ts.length ts.length, .int .i64 rs.length, .slice ca5 ts.length ts.length, .slice sa5 ((oneI one rs.length).map Int.ofNat).length ((oneI one rs.length).map Int.ofNat).length]) := ⟨_, rfl⟩
    refine RD.heap hg ?_
    have E6 : Ext n5 h5 g6 := by rw [hg]; exact ext
    clear hg
    have E36 : Ext n3 h3 g6 := E4.trans hle4 (E5.trans hle5 E6)
    have hO6 := oC.slt.ext E36 (by omega : n3 ≤ n5 + 1)
    have hof2 := Bt.refOf_rf (restI one two rs.length) c _ (n5 + 1) (g6.below (n5 + 1)) (SlR.ext hO6 (AH.below_ext _ _) (Nat.le_refl _)) rfl (by omega)
    refine RD.call (n5 + 1) rfl opds hof2 (Nat.le_refl _) cfc ?_
    rintro r n7 h7 hle7 ⟨b7, rfl, E7, oB7⟩
    have E7 : Ext (n5 + 1) g6 h7 := E7.via (Nat.le_refl _) (AH.below_ext g6 (n5 + 1))
    have hB7 := (hB5.ext (E6.trans (Nat.le_succ n5) E7) (by omega : n5 ≤ n7)).ext (AH.below_ext h7 n7) (Nat.le_refl n7)
    have hcol5 : ∀ e ∈ cs5, e.2.length ≤ 1099511627776 := fun e he => by
      have : e.2 ∈ colsOf ts.length (rs.map Prod.snd) := by rw [← hc5]; exact List.mem_map_of_mem he
      simp only [colsOf, List.mem_map] at this
      obtain ⟨k, -, q⟩ := this
      rw [← q, colOf, List.length_map, List.length_map]; omega
    have hpl7 := Bt.packB_length (restI one two rs.length)
    have hol : (oneI one rs.length).length ≤ rs.length := by
      have := List.length_filter_le (one.getD · false) (List.range rs.length)
      simpa [oneI] using this
    have hke2 := keep_rf ta5 ca5 sa5 b7 ts rs.length cs5 ((oneI one rs.length).map Int.ofNat) (restI one two rs.length).length (Bt.packB (restI one two rs.length)) n7 (h7.below n7) hB7.types.slr (OwnRR.rowsR hB7.cols) (OwnSl.slN hB7.sel) (oB7.ext (AH.below_ext h7 n7) (Nat.le_refl n7)).slbE hcol5 (by rw [List.length_map]; omega) (by omega) (by omega) (by rw [hpl7]; omega)
    rw [Bt.truths_pack, sel2_eq, hc5] at hke2
    dsimp only [batV] at hke2
    rw [hl5] at hke2
    refine RD.call n7 rfl opds hke2 (Nat.le_refl _) cfc ?_
    rintro r n8 h8 hle8 ⟨E8, ⟨v8, rfl, hm8, hl8, hB8⟩ | ⟨-, q⟩ | ⟨-, -, q⟩⟩
    rotate_left
    · refine absurd ?_ q
      have := keep_may (l := oneI one rs.length) hmay filter_pw (fun i hi => by simpa using filter_lt hi)
      simpa using this
    · exact absurd (by simp [restI, oneI]) q
    have E8 : Ext n7 h7 h8 := E8.via (Nat.le_refl _) (AH.below_ext h7 n7)
    obtain ⟨ta8, ca8, cs8, sa8, rfl, hc8, hl8, hB8⟩ := IsBat.open_ hB8
    dsimp only at hc8 hl8 hB8 ⊢
    rw [show (colsOf ts.length (rs.map Prod.snd)).length = ts.length by simp [colsOf]] at hl8 ⊢
    repeat' (first | refine stp ?_ | (refine stp2 ?_ ?_ <;> intro _))
    repeat' (first | refine stpS ?_ | (refine stp2 ?_ ?_ <;> intro _))
    obtain ⟨g9, hg⟩ : ∃ g9, g9 = (h8.app (.new n8 ⟨4, 0, true, 0⟩ [.slice none 0 0, .int .i64 0, .slice none 0 0, .slice none 0 0])).app (.sets n8 0 [.slice ta8 ts.length ts.length, .int .i64 rs.length, .slice ca8 ts.length ts.length, .slice sa8 ((bothI one two rs.length).map Int.ofNat).length ((bothI one two rs.length).map Int.ofNat).length]) := ⟨_, rfl⟩
    refine RS.heap hg ?_
    have E9 : Ext n8 h8 g9 := by rw [hg]; exact ext
    have y0 : g9.cell n8 0 = .slice ta8 ts.length ts.length := by rw [hg]; exact cell
    have y1 : g9.cell n8 1 = .int .i64 rs.length := by rw [hg]; exact cell
    have y2 : g9.cell n8 2 = .slice ca8 ts.length ts.length := by rw [hg]; exact cell
    have y3 : g9.cell n8 3 = .slice sa8 ((bothI one two rs.length).map Int.ofNat).length ((bothI one two rs.length).map Int.ofNat).length := by rw [hg]; exact cell
    clear hg
    have hB9 := hB8.ext E9 (Nat.le_succ n8)
    have hcol8 : ∀ e ∈ cs8, e.2.length ≤ 1099511627776 := fun e he => by
      have : e.2 ∈ colsOf ts.length (rs.map Prod.snd) := by rw [← hc8]; exact List.mem_map_of_mem he
      simp only [colsOf, List.mem_map] at this
      obtain ⟨k, -, q⟩ := this
      rw [← q, colOf, List.length_map, List.length_map]; omega
    have hbl : (bothI one two rs.length).length ≤ rs.length := by
      have := List.length_filter_le (fun j => one.getD j false && two.getD j false) (List.range rs.length)
      simpa [bothI] using this
    have hmb : Bat.may ⟨ts, rs.length, colsOf ts.length (rs.map Prod.snd), (bothI one two rs.length).map Int.ofNat⟩ := by
      have := keep_may (l := bothI one two rs.length) hmay filter_pw (fun i hi => by simpa using filter_lt hi)
      simpa using this
    have hrw := rows_rf ta8 ca8 sa8 ts rs.length cs8 ((bothI one two rs.length).map Int.ofNat) (n8 + 1) g9 hB9.types.slr (OwnRR.rowsR hB9.cols) (OwnSl.slN hB9.sel) hcol8 (by rw [List.length_map]; omega)
    have hrp : rowsP cs8 ((bothI one two rs.length).map Int.ofNat) = (wantI rs one two rs.length).map Prod.snd := by
      rw [rowsP_eq (ts := ts) (N := rs.length), hc8, rows_pick (fun r hr => hmay.1 r hr) _ (fun i hi => by simpa using filter_lt hi), want_rows (Nat.le_refl _)]
    rw [hrp, hl8] at hrw
    refine RS.call rfl opds hrw none'W ?_
    rintro r n10 h10 hle10 ⟨E10, ⟨a10, L10, rfl, -, R10, e10⟩ | ⟨-, q⟩⟩
    rotate_left
    · exact absurd (may_iff.2 (by rw [hc8]; exact hmb)) q
    have hB10 := hB9.ext E10 hle10
    have y0 := c_ext E10 (by omega) y0
    have y1 := c_ext E10 (by omega) y1
    have y2 := c_ext E10 (by omega) y2
    have y3 := c_ext E10 (by omega) y3
    have hde := dense_rf ta8 ca8 sa8 ts rs.length cs8 ((bothI one two rs.length).map Int.ofNat) n10 h10 hB10.types.slr (OwnRR.rowsR hB10.cols) (OwnSl.slN hB10.sel) hcol8 (by rw [List.length_map]; omega) (by omega) (by omega)
    have hrp2 : Bat.rows ⟨ts, rs.length, cs8.map Prod.snd, (bothI one two rs.length).map Int.ofNat⟩ = (wantI rs one two rs.length).map Prod.snd := by rw [← rowsP_eq, hrp]
    rw [hrp2] at hde
    dsimp only [batV] at hde
    rw [hl8] at hde
    repeat' (first | refine stpS ?_ | (refine stp2 ?_ ?_ <;> intro _))
    refine RS.call rfl opds hde none'W ?_
    have hmw : ofMay ts ((wantI rs one two rs.length).map Prod.snd) := by
      refine ofMay_sub hmay (fun r hr => ?_) (by simp only [List.length_map]; exact wantI_le _ _ _ _)
      rw [want_rows (Nat.le_refl _), List.mem_map] at hr
      obtain ⟨i, hi, rfl⟩ := hr
      have hil : i < rs.length := filter_lt hi
      have : (rs.map Prod.snd).getD i [] = (rs[i]).2 := by simp [List.getD, hil]
      rw [this]
      exact List.mem_map_of_mem (List.getElem_mem hil)
    rintro r n11 h11 hle11 ⟨E11, ⟨v11, rfl, -, -, hB11⟩ | ⟨-, q⟩⟩
    rotate_left
    · exact absurd ⟨by rw [hc8]; exact hmb, hmw⟩ q
    obtain ⟨ta11, ca11, cs11, sa11, rfl, hc11, hcl11, hB11⟩ := IsBat.ofB_ hB11 (k := (wantI rs one two rs.length).length) (by simp)
    repeat' (first | refine stpS ?_ | (refine stp2 ?_ ?_ <;> intro _))
    obtain ⟨g12, hg⟩ : ∃ g12, g12 = (h11.app (.new n11 ⟨4, 0, true, 0⟩ [.slice none 0 0, .int .i64 0, .slice none 0 0, .slice none 0 0])).app (.sets n11 0 [.slice ta11 ts.length ts.length, .int .i64 (wantI rs one two rs.length).length, .slice ca11 ts.length ts.length, .slice sa11 (wantI rs one two rs.length).length (wantI rs one two rs.length).length]) := ⟨_, rfl⟩
    refine RS.heap hg ?_
    have E12 : Ext n11 h11 g12 := by rw [hg]; exact ext
    have z0 : g12.cell n11 0 = .slice ta11 ts.length ts.length := by rw [hg]; exact cell
    have z1 : g12.cell n11 1 = .int .i64 (wantI rs one two rs.length).length := by rw [hg]; exact cell
    have z2 : g12.cell n11 2 = .slice ca11 ts.length ts.length := by rw [hg]; exact cell
    have z3 : g12.cell n11 3 = .slice sa11 (wantI rs one two rs.length).length (wantI rs one two rs.length).length := by rw [hg]; exact cell
    clear hg
    have hB12 := hB11.ext E12 (Nat.le_succ n11)
    have hcol11 : ∀ e ∈ cs11, e.2.length ≤ 1099511627776 := fun e he => by
      have : e.2 ∈ colsOf ts.length ((wantI rs one two rs.length).map Prod.snd) := by rw [← hc11]; exact List.mem_map_of_mem he
      simp only [colsOf, List.mem_map] at this
      obtain ⟨k, -, q⟩ := this
      rw [← q, colOf, List.length_map, List.length_map]; omega
    have hrw2 := rows_rf ta11 ca11 sa11 ts (wantI rs one two rs.length).length cs11 (selAll (wantI rs one two rs.length).length) (n11 + 1) g12 hB12.types.slr (OwnRR.rowsR hB12.cols) (OwnSl.slN hB12.sel) hcol11 (by rw [selAll_length]; omega)
    have hob : ofB ts ((wantI rs one two rs.length).map Prod.snd) = ⟨ts, (wantI rs one two rs.length).length, colsOf ts.length ((wantI rs one two rs.length).map Prod.snd), selAll (wantI rs one two rs.length).length⟩ := by simp [ofB]
    have hrp3 : rowsP cs11 (selAll (wantI rs one two rs.length).length) = (wantI rs one two rs.length).map Prod.snd := by
      rw [rowsP_eq (ts := ts) (N := (wantI rs one two rs.length).length), hc11, ← hob, rows_ofB hmw.1]
    rw [hrp3, hcl11, selAll_length] at hrw2
    refine RS.call rfl opds hrw2 none'W ?_
    rintro r n13 h13 hle13 ⟨E13, ⟨a13, L13, rfl, -, R13, e13⟩ | ⟨-, q⟩⟩
    rotate_left
    · exact absurd (may_iff.2 (by rw [hc11, ← hob]; exact hmw.2)) q
    have z0 := c_ext E13 (by omega) z0
    have z1 := c_ext E13 (by omega) z1
    have z2 := c_ext E13 (by omega) z2
    have z3 := c_ext E13 (by omega) z3
    have F3 : Ext n3 h3 h13 := E36.trans (by omega) (E7.trans (by omega) (E8.trans (by omega) (E9.trans (by omega) (E10.trans (by omega) (E11.trans (by omega) (E12.trans (by omega) E13))))))
    have RW : RowsR h13 n13 w (wantI rs one two rs.length) := by
      refine ⟨?_, fun e he => ?_⟩
      · exact (oW.ext F3 (by omega)).slr
      · obtain ⟨j, hj, rfl⟩ := List.mem_map.1 he
        have hjl : j < rs.length := filter_lt hj
        have : rs.getD j (none, []) = rs[j] := by simp [List.getD, hjl]
        rw [this]
        exact SlR.ext (hR.in_ _ (List.getElem_mem hjl)) (E3'.trans (by omega) F3) (by omega)
    have R10' := R10.ext (E11.trans (by omega) (E12.trans (by omega) E13)) (by omega : n10 ≤ n13)
    have hLL : ∀ L : List RowE, L.map Prod.snd = (wantI rs one two rs.length).map Prod.snd → L.length = (wantI rs one two rs.length).length ∧ ∀ e ∈ L, e.2.length ≤ 1099511627776 := by
      intro L hL
      refine ⟨by have := congrArg List.length hL; simpa using this, fun e he => ?_⟩
      have : e.2 ∈ (wantI rs one two rs.length).map Prod.snd := by rw [← hL]; exact List.mem_map_of_mem he
      rw [hmw.1 _ this]; omega
    obtain ⟨l10, r10⟩ := hLL L10 e10
    obtain ⟨l13, r13⟩ := hLL L13 e13
    have hs1 := refSameRows_ev L10 (wantI rs one two rs.length) a10 w n13 h13 R10' RW (by omega) r10
    have hs2 := refSameRows_ev L13 (wantI rs one two rs.length) a13 w n13 h13 R13 RW (by omega) r13
    rw [decide_eq_true e10] at hs1
    rw [decide_eq_true e13] at hs2
    rw [l10] at hs1 ⊢
    rw [l13] at hs2 ⊢
    repeat' (first | refine stpS ?_ | (refine stp2 ?_ ?_ <;> intro _) | refine RS.call1 rfl opds (hs1) none'W ?_ | refine RS.call1 rfl opds (hs2) none'W ?_)
    rfl
end Go.Proofs.Ytaagbfpbbhaclaa
