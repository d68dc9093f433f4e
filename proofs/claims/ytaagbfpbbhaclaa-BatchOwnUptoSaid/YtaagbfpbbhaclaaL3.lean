/- The law BatchOwn. -/
import Derived.Test.YtaagbfpbbhaclaaP
import Derived.Test.YtaagbfpbbhaclaaL2
import Derived.Test.YtaagbfpbbhaclaaK5
set_option linter.unusedSimpArgs false
set_option linter.unusedVariables false
namespace Go.Proofs.Ytaagbfpbbhaclaa
open Go.Abs Go.RowKit

/-- A column whose truths may be turned: it has m values. -/
structure MCol (h : AH) (lo n : Nat) (a : Option Addr) (m : Nat) : Prop where
  out : (a = none ∧ m = 0) ∨ (a = some ⟨sb a, 0, none⟩ ∧ lo ≤ sb a ∧ sb a < n ∧ h.info (sb a) = some ⟨m * 5, 0, true, 5⟩ ∧ ∀ j, j < m → ∃ v, h.cell (sb a) (j * 5 + 2) = .bool v)
theorem MCol.of {h : AH} {lo n : Nat} {a : Option Addr} {l : List Val} (o : OwnSl h lo n a 5 l.length (valsC l)) : MCol h lo n a l.length := by
  rcases o.or with k | ⟨k1, k2, k3, k4, -⟩
  · exact ⟨.inl k⟩
  · refine ⟨.inr ⟨k1, k2, k3, k4, fun j hj => ?_⟩⟩
    obtain ⟨v, hv⟩ : ∃ v, l[j]? = some v := ⟨_, List.getElem?_eq_getElem hj⟩
    have h1 := (o.facts (by omega)).2.2.2.2.2 (j * 5 + 2) (by omega)
    have hs : so a = 0 := by rw [k1]; rfl
    rw [hs, Nat.zero_add] at h1
    refine ⟨v.null, h1.trans ?_⟩
    have := valsC_at l j v hv 2 (.bool v.null) rfl
    simp [List.getD, this]
theorem MCol.extW {W : Nat → Prop} {h h1 : AH} {lo n nn : Nat} {a : Option Addr} {m : Nat} (o : MCol h lo n a m) (E : ExtW W nn h h1) (hn : n ≤ nn) (hW : ∀ b, lo ≤ b → b < n → ¬ W b) : MCol h1 lo n a m := by
  rcases o.out with k | ⟨k1, k2, k3, k4, k5⟩
  · exact ⟨.inl k⟩
  · exact ⟨.inr ⟨k1, k2, k3, (E.info _ (by omega) (hW _ k2 k3)).trans k4, fun j hj => by
      obtain ⟨v, hv⟩ := k5 j hj
      exact ⟨v, (E.cell _ _ (by omega) (hW _ k2 k3)).trans hv⟩⟩⟩
theorem MCol.turn {h : AH} {lo n b i : Nat} {v : Bool} {a : Option Addr} {m : Nat} (o : MCol h lo n a m) : MCol (h.app (.sets b (i * 5 + 2) [.bool v])) lo n a m := by
  rcases o.out with k | ⟨k1, k2, k3, k4, k5⟩
  · exact ⟨.inl k⟩
  · refine ⟨.inr ⟨k1, k2, k3, i_sets k4, fun j hj => ?_⟩⟩
    obtain ⟨w, hw⟩ := k5 j hj
    by_cases q : sb a = b ∧ j = i
    · obtain ⟨rfl, rfl⟩ := q
      exact ⟨v, c_in (Nat.le_refl _) (by simp)⟩
    · refine ⟨w, c_out ?_ hw⟩
      simp only [List.length_cons, List.length_nil]
      omega
/-- A batch of which truths and places may be turned. -/
structure Mut (h : AH) (lo n : Nat) (ca : Option Addr) (ls : List (Option Addr × Nat)) (sa : Option Addr) (k : Nat) : Prop where
  out : OwnSl h lo n ca 1 ls.length (ls.map fun e => .slice e.1 e.2 e.2)
  inn : ∀ e ∈ ls, MCol h lo n e.1 e.2 ∧ Apart ca e.1
  places : (sa = none ∧ k = 0) ∨ (sa = some ⟨sb sa, 0, none⟩ ∧ lo ≤ sb sa ∧ sb sa < n ∧ h.info (sb sa) = some ⟨k, 0, true, 1⟩)
  small : ls.length ≤ 1099511627776 ∧ k ≤ 1099511627776 ∧ ∀ e ∈ ls, e.2 ≤ 1099511627776
theorem Mut.nil {h : AH} {lo n : Nat} (hn : lo ≤ n) : Mut h lo n none [] none 0 := ⟨OwnSl.nil hn, fun e he => (by cases he), .inl ⟨rfl, rfl⟩, by decide, by decide, fun e he => (by cases he)⟩
theorem Mut.extW {W : Nat → Prop} {h h1 : AH} {lo n nn : Nat} {ca sa : Option Addr} {ls : List (Option Addr × Nat)} {k : Nat} (o : Mut h lo n ca ls sa k) (E : ExtW W nn h h1) (hn : n ≤ nn) (hW : ∀ b, lo ≤ b → b < n → ¬ W b) : Mut h1 lo n ca ls sa k :=
  ⟨extW_own o.out E hn hW, fun e he => ⟨(o.inn e he).1.extW E hn hW, (o.inn e he).2⟩, o.places.imp id fun ⟨k1, k2, k3, k4⟩ => ⟨k1, k2, k3, (E.info _ (by omega) (hW _ k2 k3)).trans k4⟩, o.small⟩
theorem Mut.of {h : AH} {lo n : Nat} {ta ca sa : Option Addr} {ts : List Ty} {cs : List RowE} {sel : List Int} (o : BatO lo h n ta ts ca cs sa sel) (h1 : cs.length ≤ 1099511627776) (h2 : sel.length ≤ 1099511627776) (h3 : ∀ e ∈ cs, e.2.length ≤ 1099511627776) : Mut h lo n ca (cs.map fun e => (e.1, e.2.length)) sa sel.length where
  out := by
    have := o.cols.out
    rw [rowO_v, List.length_map] at this
    rw [List.length_map, List.map_map]; exact this
  inn := fun e he => by
    obtain ⟨x, hx, rfl⟩ := List.mem_map.1 he
    obtain ⟨i, hi⟩ := List.getElem?_of_mem hx
    have hj : (cs.map rowO)[i]? = some (rowO x) := by rw [List.getElem?_map, hi]; rfl
    exact ⟨MCol.of (o.cols.inn i _ hj), o.cols.sep i _ hj⟩
  places := by
    rcases o.sel.or with q | ⟨q1, q2, q3, q4, -⟩
    · exact .inl q
    · exact .inr ⟨q1, q2, q3, by rw [Nat.mul_one] at q4; exact q4⟩
  small := ⟨by rw [List.length_map]; exact h1, h2, fun e he => by
    obtain ⟨x, hx, rfl⟩ := List.mem_map.1 he
    exact h3 x hx⟩
theorem Mut.turn {h : AH} {lo n i j : Nat} {v : Bool} {ca sa : Option Addr} {ls : List (Option Addr × Nat)} {k : Nat} {e : Option Addr × Nat} (o : Mut h lo n ca ls sa k) (he : ls[i]? = some e) (hj : j < e.2) : Mut (h.app (.sets (sb e.1) (j * 5 + 2) [.bool v])) lo n ca ls sa k := by
  obtain ⟨m, ap⟩ := o.inn e (List.mem_of_getElem? he)
  refine ⟨o.out.setsN ?_, fun f hf => ⟨(o.inn f hf).1.turn, (o.inn f hf).2⟩, o.places.imp id fun ⟨k1, k2, k3, k4⟩ => ⟨k1, k2, k3, i_sets k4⟩, o.small⟩
  rcases m.out with ⟨-, q⟩ | ⟨q, -⟩
  · omega
  · rcases ap with w | w | w
    · exact .inl w
    · rw [w] at q; cases q
    · exact .inr w
abbrev mutV (tc : Option Addr) (tk : Nat) (N : Int) (ca : Option Addr) (ls : List (Option Addr × Nat)) (sa : Option Addr) (k : Nat) : Value := .agg #[.slice tc tk tk, .int .i64 N, .slice ca ls.length ls.length, .slice sa k k]
def IsMut (lo : Nat) (r : Value) (n : Nat) (h : AH) : Prop := ∃ tc tk N ca ls sa k e, r = .tuple #[mutV tc tk N ca ls sa k, .int .i64 e] ∧ Mut h lo n ca ls sa k
theorem IsMut.of {b : Bat} {lo n : Nat} {v : Value} {e : Int} {h : AH} (o : IsBat b lo v n h) (h1 : b.cols.length ≤ 1099511627776) (h2 : b.sel.length ≤ 1099511627776) (h3 : ∀ l ∈ b.cols, l.length ≤ 1099511627776) : IsMut lo (.tuple #[v, .int .i64 e]) n h := by
  obtain ⟨ta, ca, cs, sa, rfl, hc, hB⟩ := o
  have hl : cs.length = b.cols.length := by rw [← hc, List.length_map]
  refine ⟨ta, b.types.length, b.num, ca, cs.map fun e => (e.1, e.2.length), sa, b.sel.length, e, ?_, Mut.of hB (by omega) h2 (fun x hx => h3 _ (by rw [← hc]; exact List.mem_map_of_mem hx))⟩
  dsimp only [batV, mutV]
  rw [List.length_map]
theorem IsMut.zero {lo n : Nat} {e : Int} {h : AH} (hn : lo ≤ n) : IsMut lo (.tuple #[zeroV, .int .i64 e]) n h := ⟨none, 0, 0, none, [], none, 0, e, rfl, Mut.nil hn⟩
set_option maxHeartbeats 4000000 in
theorem law_BatchOwn (ta ra : Option Addr) (ts : List Ty) (rs : List RowE) (m n : Nat) (h : AH) (hT : SlTy h n ta ts) (hR : RowsR h n ra rs) (tl : ts.length ≤ m) (rl : rs.length ≤ m) (hr : ∀ e ∈ rs, e.2.length ≤ m) (hm : m ≤ 1048576) :
    RF Try.prog none' 6 #[.slice ta ts.length ts.length, .slice ra rs.length rs.length] n h (fun r _ _ => r = .bool true) := by
  have hr' : ∀ e ∈ rs, e.2.length ≤ 1099511627776 := fun e he => by have := hr e he; omega
  refine RF.of Try.func6 rfl rfl (Nat.le_of_ble_eq_true rfl) ?_; dsimp only [argEnv]
  repeat' (first | refine stpS ?_ | (refine stp2 ?_ ?_ <;> intro _))
  refine RS.call rfl opds (of_rf ta ra ts rs n h hT hR (by omega) (by omega) hr') none'W ?_
  rintro r n1 h1 hle1 ⟨E1, ⟨v, rfl, hmay, hB⟩ | ⟨rfl, hmay⟩⟩
  rotate_left
  · repeat' (first | refine stpS ?_ | (refine stp2 ?_ ?_ <;> intro _) | refine RS.call1 rfl opds (begun_ev _ _) none'W ?_)
    rfl
  obtain ⟨ta1, ca1, cs1, sa1, rfl, hc1, hcl1, hB1⟩ := IsBat.ofB_ hB (k := rs.length) (by simp)
  clear hB
  repeat' (first | refine stpS ?_ | (refine stp2 ?_ ?_ <;> intro _))
  obtain ⟨g, hg⟩ : ∃ g, g = (h1.app (.new n1 ⟨4, 0, true, 0⟩ [.slice none 0 0, .int .i64 0, .slice none 0 0, .slice none 0 0])).app (.sets n1 0 [.slice ta1 ts.length ts.length, .int .i64 rs.length, .slice ca1 ts.length ts.length, .slice sa1 rs.length rs.length]) := ⟨_, rfl⟩
  refine RS.heap hg ?_
  have E2 : Ext n1 h1 g := by rw [hg]; exact ext
  have k0 : g.cell n1 0 = .slice ta1 ts.length ts.length := by rw [hg]; exact cell
  have k1 : g.cell n1 1 = .int .i64 rs.length := by rw [hg]; exact cell
  have k2 : g.cell n1 2 = .slice ca1 ts.length ts.length := by rw [hg]; exact cell
  have k3 : g.cell n1 3 = .slice sa1 rs.length rs.length := by rw [hg]; exact cell
  clear hg
  have E2' : Ext n h g := E1.trans (by omega) E2
  repeat' (first | refine stpS ?_ | (refine stp2 ?_ ?_ <;> intro _) | refine RS.call1 rfl opds (begun_ev _ _) none'W ?_)
  refine RS.call rfl opds (refOf_rf ta ra ts rs (n1 + 1) g (SlR.ext hT E2' (by omega)) (hR.ext E2' (by omega)) (by omega) (by omega) hr') none'W ?_
  rintro r n3 h3 hle3 ⟨E3, ⟨v, rfl, -, hB⟩ | ⟨-, q⟩⟩
  rotate_left
  · exact absurd hmay q
  obtain ⟨ta3, ca3, cs3, sa3, rfl, hc3, hcl3, hB3⟩ := IsBat.ofB_ hB (k := rs.length) (by simp)
  clear hB
  have k0 := c_ext E3 (by omega) k0
  have k1 := c_ext E3 (by omega) k1
  have k2 := c_ext E3 (by omega) k2
  have k3 := c_ext E3 (by omega) k3
  repeat' (first | refine stpS ?_ | (refine stp2 ?_ ?_ <;> intro _))
  obtain ⟨g4, hg⟩ : ∃ g4, g4 = ((h3.app (.new n3 ⟨4, 0, true, 0⟩ [.slice none 0 0, .int .i64 0, .slice none 0 0, .slice none 0 0])).app (.sets n3 0 [.slice ta3 ts.length ts.length, .int .i64 rs.length, .slice ca3 ts.length ts.length, .slice sa3 rs.length rs.length])).app (.new (n3 + 1) ⟨1, 0, true, 1⟩ [.int .i64 0]) := ⟨_, rfl⟩
  refine RS.heap hg ?_
  have E4 : Ext n3 h3 g4 := by rw [hg]; exact ext
  have m0 : g4.cell n3 0 = .slice ta3 ts.length ts.length := by rw [hg]; exact cell
  have m1 : g4.cell n3 1 = .int .i64 rs.length := by rw [hg]; exact cell
  have m2 : g4.cell n3 2 = .slice ca3 ts.length ts.length := by rw [hg]; exact cell
  have m3 : g4.cell n3 3 = .slice sa3 rs.length rs.length := by rw [hg]; exact cell
  have S0 : SlN g4 (n3 + 1 + 1) (some ⟨n3 + 1, 0, none⟩) [0] := by
    rw [hg]
    exact OwnSl.slN (OwnSl.new (m := 1) (z := 1) (cs := intsV .i64 [0]) (Nat.le_refl (n3 + 1)) rfl rfl)
  clear hg
  have k0 := c_ext E4 (by omega) k0
  have k1 := c_ext E4 (by omega) k1
  have k2 := c_ext E4 (by omega) k2
  have k3 := c_ext E4 (by omega) k3
  have hB1' := hB1.ext (E2.trans (Nat.le_refl _) ((E3.trans (by omega) E4).mono (Nat.le_succ n1))) (by omega : n1 ≤ n3 + 1 + 1)
  have hB3' := hB3.ext E4 (by omega : n3 ≤ n3 + 1 + 1)
  have hcol1 : ∀ e ∈ cs1, e.2.length ≤ 1099511627776 := fun e he => by
    have : e.2 ∈ colsOf ts.length (rs.map Prod.snd) := by rw [← hc1]; exact List.mem_map_of_mem he
    simp only [colsOf, List.mem_map] at this
    obtain ⟨k, -, q⟩ := this
    rw [← q, colOf, List.length_map, List.length_map]; omega
  have hcolP : ∀ l ∈ colsOf ts.length (rs.map Prod.snd), l.length ≤ 1099511627776 := fun l hl => by
    simp only [colsOf, List.mem_map] at hl
    obtain ⟨k, -, q⟩ := hl
    rw [← q, colOf, List.length_map, List.length_map]; omega
  have hpk := pick_rf ta1 ca1 sa1 (some ⟨n3 + 1, 0, none⟩) ts rs.length cs1 (selAll rs.length) [0] (n3 + 1 + 1) g4 hB1'.types.slr (OwnRR.rowsR hB1'.cols) (OwnSl.slN hB1'.sel) S0 hcol1 (by rw [selAll_length]; omega) (by omega) (by omega) (by decide)
  rw [hc1] at hpk
  dsimp only [batV] at hpk
  rw [hcl1, selAll_length] at hpk
  refine RS.call rfl opds hpk none'W ?_
  rintro r n5 h5 hle5 ⟨E5, hq⟩
  have hM : IsMut (n3 + 1 + 1) r n5 h5 := by
    rcases hq with ⟨v, rfl, -, -, hb⟩ | ⟨rfl, -⟩ | ⟨rfl, -⟩
    · refine IsMut.of hb (by simp [pickB]) (by simp only [pickB, selAll_length]; omega) (fun l hl => ?_)
      simp only [pickB, List.map_cons, List.map_nil, List.mem_cons, List.not_mem_nil, or_false] at hl
      subst hl
      simp only [List.getD]
      cases hq : (colsOf ts.length (rs.map Prod.snd))[(0 : Int).toNat]? with
      | none => exact Nat.zero_le _
      | some l => exact hcolP l (List.mem_of_getElem? hq)
    · exact IsMut.zero hle5
    · exact IsMut.zero hle5
  clear hq hpk
  obtain ⟨tc5, tk5, N5, ca5, ls5, sa5, k5, e5, rfl, M5⟩ := hM
  dsimp only [mutV]
  have k0 := c_ext E5 (by omega) k0
  have k1 := c_ext E5 (by omega) k1
  have k2 := c_ext E5 (by omega) k2
  have k3 := c_ext E5 (by omega) k3
  have m0 := c_ext E5 (by omega) m0
  have m1 := c_ext E5 (by omega) m1
  have m2 := c_ext E5 (by omega) m2
  have m3 := c_ext E5 (by omega) m3
  repeat' (first | refine stpS ?_ | (refine stp2 ?_ ?_ <;> intro _))
  obtain ⟨g6, hg⟩ : ∃ g6, g6 = (h5.app (.new n5 ⟨4, 0, true, 0⟩ [.slice none 0 0, .int .i64 0, .slice none 0 0, .slice none 0 0])).app (.sets n5 0 [.slice tc5 tk5 tk5, .int .i64 N5, .slice ca5 ls5.length ls5.length, .slice sa5 k5 k5]) := ⟨_, rfl⟩
  refine RS.heap hg ?_
  have E6 : Ext n5 h5 g6 := by rw [hg]; exact ext
  have x0 : g6.cell n5 0 = .slice tc5 tk5 tk5 := by rw [hg]; exact cell
  have x1 : g6.cell n5 1 = .int .i64 N5 := by rw [hg]; exact cell
  have x2 : g6.cell n5 2 = .slice ca5 ls5.length ls5.length := by rw [hg]; exact cell
  have x3 : g6.cell n5 3 = .slice sa5 k5 k5 := by rw [hg]; exact cell
  clear hg
  have k0 := c_ext E6 (by omega) k0
  have k1 := c_ext E6 (by omega) k1
  have k2 := c_ext E6 (by omega) k2
  have k3 := c_ext E6 (by omega) k3
  have m0 := c_ext E6 (by omega) m0
  have m1 := c_ext E6 (by omega) m1
  have m2 := c_ext E6 (by omega) m2
  have m3 := c_ext E6 (by omega) m3
  have hB6 := hB1'.ext (E5.trans hle5 E6) (by omega : n3 + 1 + 1 ≤ n5 + 1)
  have hde := dense_rf ta1 ca1 sa1 ts rs.length cs1 (selAll rs.length) (n5 + 1) g6 hB6.types.slr (OwnRR.rowsR hB6.cols) (OwnSl.slN hB6.sel) hcol1 (by rw [selAll_length]; omega) (by omega) (by omega)
  have hrw : Bat.rows ⟨ts, rs.length, colsOf ts.length (rs.map Prod.snd), selAll rs.length⟩ = rs.map Prod.snd := by
    have := rows_ofB hmay.1
    rw [ofB, List.length_map] at this
    exact this
  rw [hc1, hrw] at hde
  dsimp only [batV] at hde
  rw [hcl1, selAll_length] at hde
  refine RS.call rfl opds hde none'W ?_
  rintro r n7 h7 hle7 ⟨E7, hq⟩
  have hM : IsMut (n5 + 1) r n7 h7 := by
    rcases hq with ⟨v, rfl, -, -, hb⟩ | ⟨rfl, -⟩
    · refine IsMut.of hb (by simp only [ofB, colsOf, List.length_map, List.length_range]; omega) (by simp only [ofB, selAll_length, List.length_map]; omega) (fun l hl => hcolP l hl)
    · exact IsMut.zero hle7
  clear hq hde
  obtain ⟨tc7, tk7, N7, ca7, ls7, sa7, k7, e7, rfl, M7⟩ := hM
  dsimp only [mutV]
  have k0 := c_ext E7 (by omega) k0
  have k1 := c_ext E7 (by omega) k1
  have k2 := c_ext E7 (by omega) k2
  have k3 := c_ext E7 (by omega) k3
  have m0 := c_ext E7 (by omega) m0
  have m1 := c_ext E7 (by omega) m1
  have m2 := c_ext E7 (by omega) m2
  have m3 := c_ext E7 (by omega) m3
  have x0 := c_ext E7 (by omega) x0
  have x1 := c_ext E7 (by omega) x1
  have x2 := c_ext E7 (by omega) x2
  have x3 := c_ext E7 (by omega) x3
  repeat' (first | refine stpS ?_ | (refine stp2 ?_ ?_ <;> intro _))
  obtain ⟨g8, hg⟩ : ∃ g8, g8 = ((h7.app (.new n7 ⟨4, 0, true, 0⟩ [.slice none 0 0, .int .i64 0, .slice none 0 0, .slice none 0 0])).app (.sets n7 0 [.slice tc7 tk7 tk7, .int .i64 N7, .slice ca7 ls7.length ls7.length, .slice sa7 k7 k7])).app (.new (n7 + 1) ⟨8, 0, true, 4⟩ [.slice tc5 tk5 tk5, .int .i64 N5, .slice ca5 ls5.length ls5.length, .slice sa5 k5 k5, .slice tc7 tk7 tk7, .int .i64 N7, .slice ca7 ls7.length ls7.length, .slice sa7 k7 k7]) := ⟨_, rfl⟩
  refine RC.heap hg ?_
  have E8 : Ext n7 h7 g8 := by rw [hg]; exact ext
  have w0 : g8.cell (n7 + 1) 0 = .slice tc5 tk5 tk5 := by rw [hg]; exact cell
  have w1 : g8.cell (n7 + 1) 1 = .int .i64 N5 := by rw [hg]; exact cell
  have w2 : g8.cell (n7 + 1) 2 = .slice ca5 ls5.length ls5.length := by rw [hg]; exact cell
  have w3 : g8.cell (n7 + 1) 3 = .slice sa5 k5 k5 := by rw [hg]; exact cell
  have w4 : g8.cell (n7 + 1) 4 = .slice tc7 tk7 tk7 := by rw [hg]; exact cell
  have w5 : g8.cell (n7 + 1) 5 = .int .i64 N7 := by rw [hg]; exact cell
  have w6 : g8.cell (n7 + 1) 6 = .slice ca7 ls7.length ls7.length := by rw [hg]; exact cell
  have w7 : g8.cell (n7 + 1) 7 = .slice sa7 k7 k7 := by rw [hg]; exact cell
  clear hg
  have k0 := c_ext E8 (by omega) k0
  have k1 := c_ext E8 (by omega) k1
  have k2 := c_ext E8 (by omega) k2
  have k3 := c_ext E8 (by omega) k3
  have m0 := c_ext E8 (by omega) m0
  have m1 := c_ext E8 (by omega) m1
  have m2 := c_ext E8 (by omega) m2
  have m3 := c_ext E8 (by omega) m3
  have M5 : Mut g8 (n3 + 1 + 1) n5 ca5 ls5 sa5 k5 := M5.extW (ExtW.of (W := none') (E6.trans (Nat.le_succ n5 : n5 ≤ n5 + 1) (E7.trans hle7 E8)) (Nat.le_refl _)) (Nat.le_refl _) (fun b _ _ q => q)
  have M7 : Mut g8 (n5 + 1) n7 ca7 ls7 sa7 k7 := M7.extW (ExtW.of (W := none') E8 (Nat.le_refl _)) (Nat.le_refl _) (fun b _ _ q => q)
  have hB1g := hB1'.ext (E5.trans hle5 (E6.trans (Nat.le_succ n5) (E7.trans hle7 E8))) (by omega : n3 + 1 + 1 ≤ n7 + 1 + 1)
  have hB3g := hB3'.ext (E5.trans hle5 (E6.trans (Nat.le_succ n5) (E7.trans hle7 E8))) (by omega : n3 + 1 + 1 ≤ n7 + 1 + 1)
  let W : Nat → Prop := fun b => n3 + 1 + 1 ≤ b ∧ (b < n5 ∨ (n5 + 1 ≤ b ∧ b < n7))
  refine RC.loop ?_
  refine RL.inv (α := Nat) (fun y => [(52, .int .i64 (y : Nat)), (51, .int .i64 2), (50, .slice (some ⟨n7 + 1, 0, none⟩) 2 2), (5, .pointer (some ⟨n1, 0, none⟩)), (7, .pointer (some ⟨n3, 0, none⟩))])
    (fun y nn hh => y ≤ 2 ∧ n7 + 1 + 1 ≤ nn ∧ ExtW W (n7 + 1 + 1) g8 hh ∧ (y = 0 → Mut hh (n3 + 1 + 1) n5 ca5 ls5 sa5 k5) ∧ (y ≤ 1 → Mut hh (n5 + 1) n7 ca7 ls7 sa7 k7)) (fun y => 2 - y) 0 envs ⟨Nat.zero_le _, Nat.le_refl _, ExtW.refl _ _ _, fun _ => M5, fun _ => M7⟩ ?_
  clear M5 M7
  rintro i nn hh ⟨hi, hnn, EW, hM5, hM7⟩
  by_cases hlt : i < 2
  · obtain ⟨lo, hi', R, tcx, tkx, Nx, cax, lsx, sax, kx, hMx, hRx, f0, f1, f2, f3, hlo, hhi, hW, hgrow, hsets, hnext⟩ : ∃ (lo hi' : Nat) (R : AH → Prop) (tcx : Option Addr) (tkx : Nat) (Nx : Int) (cax : Option Addr) (lsx : List (Option Addr × Nat)) (sax : Option Addr) (kx : Nat), Mut hh lo hi' cax lsx sax kx ∧ R hh ∧
        hh.cell (n7 + 1) (0 + i * 4) = .slice tcx tkx tkx ∧ hh.cell (n7 + 1) (0 + i * 4 + 1) = .int .i64 Nx ∧ hh.cell (n7 + 1) (0 + i * 4 + 2) = .slice cax lsx.length lsx.length ∧ hh.cell (n7 + 1) (0 + i * 4 + 3) = .slice sax kx kx ∧ n3 + 1 + 1 ≤ lo ∧ hi' ≤ n7 ∧ (∀ b, lo ≤ b → b < hi' → W b) ∧
        (∀ n1 h1 h2, n7 + 1 + 1 ≤ n1 → R h1 → Ext n1 h1 h2 → R h2) ∧ (∀ h1 b o vs, R h1 → lo ≤ b → b < hi' → R (h1.app (.sets b o vs))) ∧ (∀ h1, R h1 → ExtW W (n7 + 1 + 1) g8 h1 ∧ (i + 1 = 0 → Mut h1 (n3 + 1 + 1) n5 ca5 ls5 sa5 k5) ∧ (i + 1 ≤ 1 → Mut h1 (n5 + 1) n7 ca7 ls7 sa7 k7)) := by
      have hWn : ¬ W (n7 + 1) := fun q => by have := q.2; omega
      have hc : ∀ j v, g8.cell (n7 + 1) j = v → hh.cell (n7 + 1) j = v := fun j v q => c_extW EW (by omega) hWn q
      have hq : i = 0 ∨ i = 1 := by omega
      rcases hq with rfl | rfl
      · refine ⟨n3 + 1 + 1, n5, fun h1 => ExtW W (n7 + 1 + 1) g8 h1 ∧ Mut h1 (n5 + 1) n7 ca7 ls7 sa7 k7, tc5, tk5, N5, ca5, ls5, sa5, k5, hM5 rfl, ⟨EW, hM7 (by omega)⟩, hc _ _ w0, hc _ _ w1, hc _ _ w2, hc _ _ w3, Nat.le_refl _, by omega, fun b q1 q2 => ⟨q1, .inl q2⟩, ?_, ?_, ?_⟩
        · rintro n1 h1 h2 hn ⟨q1, q2⟩ E
          exact ⟨q1.then E hn, q2.extW (ExtW.of (W := none') E (Nat.le_refl _)) (by omega) (fun b _ _ q => q)⟩
        · rintro h1 b o vs ⟨q1, q2⟩ z1 z2
          exact ⟨ExtW.appSets (.inl ⟨z1, .inl z2⟩) q1, q2.extW (ExtW.appSets (W := (· = b)) (.inl rfl) (ExtW.refl _ n7 h1)) (Nat.le_refl _) (fun x z3 z4 e => by omega)⟩
        · rintro h1 ⟨q1, q2⟩
          exact ⟨q1, fun e => by omega, fun _ => q2⟩
      · refine ⟨n5 + 1, n7, fun h1 => ExtW W (n7 + 1 + 1) g8 h1, tc7, tk7, N7, ca7, ls7, sa7, k7, hM7 (Nat.le_refl _), EW, hc _ _ w4, hc _ _ w5, hc _ _ w6, hc _ _ w7, by omega, Nat.le_refl _, fun b q1 q2 => ⟨by omega, .inr ⟨q1, q2⟩⟩, ?_, ?_, ?_⟩
        · rintro n1 h1 h2 hn q1 E
          exact q1.then E hn
        · rintro h1 b o vs q1 z1 z2
          exact ExtW.appSets (.inl ⟨by omega, .inr ⟨z1, z2⟩⟩) q1
        · rintro h1 q1
          exact ⟨q1, fun e => by omega, fun e => by omega⟩
    clear hM5 hM7
    have hsn : n7 + 1 < nn := by omega
    repeat' (first | refine stpS ?_ | (refine stp2 ?_ ?_ <;> intro _))
    obtain ⟨g9, hg⟩ : ∃ g9, g9 = (hh.app (.new nn ⟨4, 0, true, 0⟩ [.slice none 0 0, .int .i64 0, .slice none 0 0, .slice none 0 0])).app (.sets nn 0 [.slice tcx tkx tkx, .int .i64 Nx, .slice cax lsx.length lsx.length, .slice sax kx kx]) := ⟨_, rfl⟩
    refine RC.heap hg ?_
    have E9 : Ext nn hh g9 := by rw [hg]; exact ext
    have x2 : g9.cell nn 2 = .slice cax lsx.length lsx.length := by rw [hg]; exact cell
    have x3 : g9.cell nn 3 = .slice sax kx kx := by rw [hg]; exact cell
    clear hg
    have hR9 := hgrow _ _ _ hnn hRx E9
    have hM9 := hMx.extW (ExtW.of (W := none') E9 (Nat.le_refl _)) (by omega : hi' ≤ nn) (fun b _ _ q => q)
    obtain ⟨sm1, sm2, sm3⟩ := hM9.small
    refine RC.loop ?_
    refine RL.inv (α := Nat) (fun y => [(59, .int .i64 (y : Nat)), (58, .int .i64 lsx.length), (14, .pointer (some ⟨nn, 0, none⟩)), (52, .int .i64 (i : Nat)), (51, .int .i64 2), (50, .slice (some ⟨n7 + 1, 0, none⟩) 2 2), (5, .pointer (some ⟨n1, 0, none⟩)), (7, .pointer (some ⟨n3, 0, none⟩))])
      (fun y na ha => y ≤ lsx.length ∧ nn + 1 ≤ na ∧ R ha ∧ Mut ha lo hi' cax lsx sax kx ∧ ha.cell nn 2 = .slice cax lsx.length lsx.length ∧ ha.cell nn 3 = .slice sax kx kx) (fun y => lsx.length - y) 0 envs ⟨Nat.zero_le _, Nat.le_refl _, hR9, hM9, x2, x3⟩ ?_
    clear hRx hMx hR9 hM9 x2 x3
    rintro j na ha ⟨hj, hna, hRa, hMa, x2, x3⟩
    by_cases hltj : j < lsx.length
    · obtain ⟨e, he⟩ : ∃ e, lsx[j]? = some e := ⟨_, List.getElem?_eq_getElem hltj⟩
      obtain ⟨hso, hsl, hsu, -, hsA, hoc⟩ := hMa.out.facts (by omega)
      have hcj := hoc j (by omega)
      rw [hso] at hcj
      have hcj : ha.cell (sb cax) (so cax + j) = .slice e.1 e.2 e.2 := by rw [hso, hcj]; simp [List.getD, he]
      have hsc : sb cax < na := by omega
      have hnna : nn < na := by omega
      have hel := sm3 e (List.mem_of_getElem? he)
      repeat' (first | refine stpS ?_ | (refine stp2 ?_ ?_ <;> intro _))
      refine RC.loop ?_
      refine RL.inv (α := Nat) (fun y => [(68, .int .i64 (y : Nat)), (67, .int .i64 e.2), (15, .int .i64 (j : Nat)), (59, .int .i64 (j : Nat)), (58, .int .i64 lsx.length), (14, .pointer (some ⟨nn, 0, none⟩)), (52, .int .i64 (i : Nat)), (51, .int .i64 2), (50, .slice (some ⟨n7 + 1, 0, none⟩) 2 2), (5, .pointer (some ⟨n1, 0, none⟩)), (7, .pointer (some ⟨n3, 0, none⟩))])
        (fun y nb hb => y ≤ e.2 ∧ na ≤ nb ∧ R hb ∧ Mut hb lo hi' cax lsx sax kx ∧ hb.cell nn 2 = .slice cax lsx.length lsx.length ∧ hb.cell nn 3 = .slice sax kx kx) (fun y => e.2 - y) 0 envs ⟨Nat.zero_le _, Nat.le_refl _, hRa, hMa, x2, x3⟩ ?_
      clear hRa hMa x2 x3 hoc hcj
      rintro k nb hb ⟨hk, hnb, hRb, hMb, x2, x3⟩
      by_cases hltk : k < e.2
      · obtain ⟨mc, map⟩ := hMb.inn e (List.mem_of_getElem? he)
        obtain ⟨me1, me2, me3, me4, me5⟩ := mc.out.resolve_left (fun q => by omega)
        obtain ⟨v, hv⟩ := me5 k hltk
        obtain ⟨-, -, -, -, -, hoc⟩ := hMb.out.facts (by omega)
        have hcj := hoc j (by omega)
        have hcj : hb.cell (sb cax) (so cax + j) = .slice e.1 e.2 e.2 := by rw [hcj]; simp [List.getD, he]
        have hse : so e.1 = 0 := by rw [me1]; rfl
        have hAe : SlA e.1 e.2 := .inr (by rw [hse]; exact me1)
        have hvb : hb.cell (sb e.1) (so e.1 + k * 5 + 2) = .bool v := by rw [hse, Nat.zero_add]; exact hv
        have hnb1 : nn < nb := by omega
        have hnb2 : sb cax < nb := by omega
        have hnb3 : sb e.1 < nb := by omega
        have hnle : n ≤ sb e.1 := by omega
        repeat' (first | refine stpS ?_ | (refine stp2 ?_ ?_ <;> intro _))
        repeat' (first | refine stp ?_ | (refine stp2 ?_ ?_ <;> intro _))
        rw [hse, Nat.zero_add]
        refine nextC.normal ⟨k + 1, by omega, envs, by omega, hnb, hsets _ _ _ _ hRb me2 me3, hMb.turn he hltk, c_out (by omega) x2, c_out (by omega) x3⟩
      · repeat' (first | refine stpS ?_ | (refine stp2 ?_ ?_ <;> intro _))
        refine nextC.normal ⟨j + 1, by omega, envs, by omega, by omega, hRb, hMb, x2, x3⟩
    · have hnna : nn < na := by omega
      repeat' (first | refine stpS ?_ | (refine stp2 ?_ ?_ <;> intro _))
      have hpl : ∀ q, q < kx → sax = some ⟨sb sax, 0, none⟩ ∧ lo ≤ sb sax ∧ sb sax < hi' := fun q hq => by
        rcases hMa.places with ⟨-, z⟩ | ⟨z1, z2, z3, -⟩
        · omega
        · exact ⟨z1, z2, z3⟩
      have hpi : 0 < kx → ha.info (sb sax) = some ⟨kx, 0, true, 1⟩ := fun q => by
        rcases hMa.places with ⟨-, z⟩ | ⟨-, -, -, z⟩
        · omega
        · exact z
      refine RC.loop ?_
      refine RL.inv (α := Nat) (fun y => [(94, .int .i64 (y : Nat)), (93, .int .i64 kx), (14, .pointer (some ⟨nn, 0, none⟩)), (52, .int .i64 (i : Nat)), (51, .int .i64 2), (50, .slice (some ⟨n7 + 1, 0, none⟩) 2 2), (5, .pointer (some ⟨n1, 0, none⟩)), (7, .pointer (some ⟨n3, 0, none⟩))])
        (fun y nb hb => y ≤ kx ∧ na ≤ nb ∧ R hb ∧ hb.cell nn 3 = .slice sax kx kx ∧ (0 < kx → hb.info (sb sax) = some ⟨kx, 0, true, 1⟩)) (fun y => kx - y) 0 envs ⟨Nat.zero_le _, Nat.le_refl _, hRa, x3, hpi⟩ ?_
      clear hRa hMa x2 x3 hpi
      rintro k nb hb ⟨hk, hnb, hRb, x3, hpi⟩
      by_cases hltk : k < kx
      · obtain ⟨z1, z2, z3⟩ := hpl k hltk
        have hpi := hpi (by omega)
        have hss : so sax = 0 := by rw [z1]; rfl
        have hAs : SlA sax kx := .inr (by rw [hss]; exact z1)
        have hnb1 : nn < nb := by omega
        have hnb3 : sb sax < nb := by omega
        have hnle : n ≤ sb sax := by omega
        repeat' (first | refine stpS ?_ | (refine stp2 ?_ ?_ <;> intro _))
        refine nextC.normal ⟨k + 1, by omega, envs, by omega, hnb, hsets _ _ _ _ hRb z2 z3, c_out (by omega) x3, fun _ => i_sets hpi⟩
      · repeat' (first | refine stpS ?_ | (refine stp2 ?_ ?_ <;> intro _))
        obtain ⟨r1, r2, r3⟩ := hnext _ hRb
        refine nextC.normal ⟨i + 1, by omega, envs, by omega, by omega, r1, r2, r3⟩
  · have hie : i = 2 := by omega
    subst hie
    have hWb : ∀ b, b ≤ n3 + 1 → ¬ W b := fun b hb q => by have := q.1; omega
    have EWx : ∀ {x j v}, x ≤ n3 → g8.cell x j = v → hh.cell x j = v := fun hx q => c_extW EW (by omega) (hWb _ (by omega)) q
    have k0 := EWx (by omega) k0
    have k1 := EWx (by omega) k1
    have k2 := EWx (by omega) k2
    have k3 := EWx (by omega) k3
    have m0 := EWx (by omega) m0
    have m1 := EWx (by omega) m1
    have m2 := EWx (by omega) m2
    have m3 := EWx (by omega) m3
    have hn3 : n3 < nn := by omega
    have hn1' : n1 < nn := by omega
    have hX : Ext (n3 + 1 + 1) hh hh := Ext.refl _ _
    have EE : Ext (n3 + 1 + 1) g8 hh := EW.extM (by omega) (fun b q => q.1)
    have hB1f := hB1'.ext ((E5.trans hle5 (E6.trans (Nat.le_succ n5) (E7.trans hle7 E8))).trans (Nat.le_refl _) EE) (by omega : n3 + 1 + 1 ≤ nn)
    have hB3f := hB3'.ext ((E5.trans hle5 (E6.trans (Nat.le_succ n5) (E7.trans hle7 E8))).trans (Nat.le_refl _) EE) (by omega : n3 + 1 + 1 ≤ nn)
    have hs := refSame13_ev ta1 ca1 sa1 ts rs.length cs1 (selAll rs.length) ta3 ca3 sa3 ts rs.length cs3 (selAll rs.length) nn hh hB1f.types.slr (OwnRR.rowsR hB1f.cols) (OwnSl.slN hB1f.sel) hB3f.types.slr (OwnRR.rowsR hB3f.cols) (OwnSl.slN hB3f.sel) hcol1 (by rw [selAll_length]; omega) (by omega) (by omega)
    rw [hc1, hc3, decide_eq_true rfl] at hs
    dsimp only [batV] at hs
    rw [hcl1, hcl3, selAll_length] at hs
    repeat' (first | refine stpS ?_ | (refine stp2 ?_ ?_ <;> intro _) | refine RS.call1 rfl opds (hs) none'W ?_)
    rfl
end Go.Proofs.Ytaagbfpbbhaclaa
