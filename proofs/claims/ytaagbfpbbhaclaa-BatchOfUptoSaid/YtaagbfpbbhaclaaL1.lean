/- The laws BatchChecks and BatchOf. -/
import Derived.Test.YtaagbfpbbhaclaaK8
import Derived.Test.YtaagbfpbbhaclaaK3
import Derived.Test.YtaagbfpbbhaclaaK4
import Derived.Test.YtaagbfpbbhaclaaK5
import Derived.Test.YtaagbfpbbhaclaaArg
namespace Go.Proofs.Ytaagbfpbbhaclaa
open Go.Abs Go.RowKit

set_option maxHeartbeats 4000000 in
theorem law_BatchChecks (ta ca sa : Option Addr) (ts : List Ty) (N : Int) (cs : List RowE) (sel : List Int) (m n : Nat) (h : AH) (B : BatA h n m ta ts ca cs sa sel) (hm : m ≤ 1048576) :
    RF Try.prog none' 3 #[batV ta ts N ca cs sa sel] n h (fun r _ _ => r = .bool true) := by
  have b1 := B.tl
  have b2 := B.cl
  have b3 := B.sl
  have hr : ∀ e ∈ cs, e.2.length ≤ 1099511627776 := fun e he => by have := B.rl e he; omega
  refine RF.of Try.func3 rfl rfl (Nat.le_of_ble_eq_true rfl) ?_; dsimp only [argEnv]
  repeat' (first | refine stpS ?_ | (refine stp2 ?_ ?_ <;> intro _))
  obtain ⟨g, hg⟩ : ∃ g, g = h.app (.new n ⟨4, 0, true, 0⟩ [.slice ta ts.length ts.length, .int .i64 N, .slice ca cs.length cs.length, .slice sa sel.length sel.length]) := ⟨_, rfl⟩
  refine RS.heap hg ?_
  have E0 : Ext n h g := by rw [hg]; exact ext
  have k0 : g.cell n 0 = .slice ta ts.length ts.length := by rw [hg]; exact cell
  have k1 : g.cell n 1 = .int .i64 N := by rw [hg]; exact cell
  have k2 : g.cell n 2 = .slice ca cs.length cs.length := by rw [hg]; exact cell
  have k3 : g.cell n 3 = .slice sa sel.length sel.length := by rw [hg]; exact cell
  clear hg
  refine RS.call rfl opds (rows_rf ta ca sa ts N cs sel _ _ (SlR.ext B.types E0 (by omega)) (B.cols.ext E0 (by omega)) (SlR.ext B.snum E0 (by omega)) hr (by omega)) none'W ?_
  rintro r n1 h1 hle1 ⟨E1, q1⟩
  have E1' : Ext n h h1 := E0.trans (by omega) E1
  have k0 := c_ext E1 (by omega) k0
  have k1 := c_ext E1 (by omega) k1
  have k2 := c_ext E1 (by omega) k2
  have k3 := c_ext E1 (by omega) k3
  have hrr := refRows_rf ta ca sa ts N cs sel n1 h1 (SlR.ext B.types E1' (by omega)) (B.cols.ext E1' (by omega)) (SlR.ext B.snum E1' (by omega)) hr (by omega) (by omega)
  rcases q1 with ⟨a1, L1, rfl, hmay, R1, e1⟩ | ⟨rfl, hmay⟩
  · repeat' (first | refine stpS ?_ | (refine stp2 ?_ ?_ <;> intro _))
    refine RS.call rfl opds hrr none'W ?_
    rintro r n2 h2 hle2 ⟨E2, ⟨a2, L2, rfl, -, R2, e2⟩ | ⟨-, q⟩⟩
    rotate_left
    · exact absurd hmay q
    have E2' : Ext n h h2 := E1'.trans (by omega) E2
    have k0 := c_ext E2 (by omega) k0
    have k1 := c_ext E2 (by omega) k1
    have k2 := c_ext E2 (by omega) k2
    have k3 := c_ext E2 (by omega) k3
    repeat' (first | refine stpS ?_ | (refine stp2 ?_ ?_ <;> intro _))
    repeat' (first | refine stp ?_ | (refine stp2 ?_ ?_ <;> intro _))
    refine RD.callP n2 rfl opds (begun_ev _ _) (Nat.le_refl _) cfc ?_
    repeat' (first | refine stp ?_ | (refine stp2 ?_ ?_ <;> intro _))
    refine RD.call n2 rfl opds (check_rf ta ca sa ts N cs sel n2 _ (SlR.ext (SlR.ext B.types E2' (by omega)) (AH.below_ext _ _) (Nat.le_refl _)) ((B.cols.ext E2' (by omega)).ext (AH.below_ext _ _) (Nat.le_refl _)) (SlR.ext (SlR.ext B.snum E2' (by omega)) (AH.below_ext _ _) (Nat.le_refl _)) hr (by omega)) (Nat.le_refl _) cfc ?_
    rintro r n3 h3 hle3 ⟨E3, ⟨rfl, -⟩ | ⟨-, q⟩⟩
    rotate_left
    · exact absurd hmay q
    have E3 : Ext n2 h2 h3 := E3.via (Nat.le_refl _) (AH.below_ext h2 n2)
    have E3' : Ext n h h3 := E2'.trans (by omega) E3
    have k0 := c_ext E3 (by omega) k0
    have k1 := c_ext E3 (by omega) k1
    have k2 := c_ext E3 (by omega) k2
    have k3 := c_ext E3 (by omega) k3
    repeat' (first | refine stp ?_ | (refine stp2 ?_ ?_ <;> intro _))
    refine RD.call n3 rfl opds (refCheck13_rf ta ca sa ts N cs sel n3 _ (SlR.ext (SlR.ext B.types E3' (by omega)) (AH.below_ext _ _) (Nat.le_refl _)) ((B.cols.ext E3' (by omega)).ext (AH.below_ext _ _) (Nat.le_refl _)) (SlR.ext (SlR.ext B.snum E3' (by omega)) (AH.below_ext _ _) (Nat.le_refl _)) hr (by omega) (by omega)) (Nat.le_refl _) cfc ?_
    rintro r n4 h4 hle4 ⟨E4, ⟨rfl, -⟩ | ⟨-, q⟩⟩
    rotate_left
    · exact absurd hmay q
    have E4 : Ext n3 h3 h4 := E4.via (Nat.le_refl _) (AH.below_ext h3 n3)
    have R1' := (R1.ext (E2.trans (by omega) (E3.trans (by omega) E4)) (by omega : n1 ≤ n4)).ext (AH.below_ext h4 n4) (Nat.le_refl n4)
    have R2' := (R2.ext (E3.trans (by omega) E4) (by omega : n2 ≤ n4)).ext (AH.below_ext h4 n4) (Nat.le_refl n4)
    have hs := refSameRows_ev L1 L2 a1 a2 n4 _ R1' R2' (by
      have := congrArg List.length e1
      simp only [List.length_map, rowsP] at this
      omega) (fun e he => by
      have : e.2 ∈ rowsP cs sel := by rw [← e1]; exact List.mem_map_of_mem he
      simp only [rowsP, List.mem_map] at this
      obtain ⟨k, -, q⟩ := this
      rw [← q, rowP, List.length_map]; omega)
    rw [decide_eq_true (e1.trans e2.symm)] at hs
    repeat' (first | refine stp ?_ | (refine stp2 ?_ ?_ <;> intro _))
    refine RD.callP n4 rfl opds hs (Nat.le_refl _) cfc ?_
    repeat' (first | refine stp ?_ | (refine stp2 ?_ ?_ <;> intro _))
    rfl
  · repeat' (first | refine stpS ?_ | (refine stp2 ?_ ?_ <;> intro _))
    refine RS.call rfl opds hrr none'W ?_
    rintro r n2 h2 hle2 ⟨E2, ⟨a2, L2, rfl, q, R2, e2⟩ | ⟨rfl, -⟩⟩
    · exact absurd q hmay
    have E2' : Ext n h h2 := E1'.trans (by omega) E2
    have k0 := c_ext E2 (by omega) k0
    have k1 := c_ext E2 (by omega) k1
    have k2 := c_ext E2 (by omega) k2
    have k3 := c_ext E2 (by omega) k3
    repeat' (first | refine stpS ?_ | (refine stp2 ?_ ?_ <;> intro _))
    repeat' (first | refine stp ?_ | (refine stp2 ?_ ?_ <;> intro _))
    refine RD.callP n2 rfl opds (begun_ev _ _) (Nat.le_refl _) cfc ?_
    repeat' (first | refine stp ?_ | (refine stp2 ?_ ?_ <;> intro _))
    refine RD.call n2 rfl opds (check_rf ta ca sa ts N cs sel n2 _ (SlR.ext (SlR.ext B.types E2' (by omega)) (AH.below_ext _ _) (Nat.le_refl _)) ((B.cols.ext E2' (by omega)).ext (AH.below_ext _ _) (Nat.le_refl _)) (SlR.ext (SlR.ext B.snum E2' (by omega)) (AH.below_ext _ _) (Nat.le_refl _)) hr (by omega)) (Nat.le_refl _) cfc ?_
    rintro r n3 h3 hle3 ⟨E3, ⟨-, q⟩ | ⟨rfl, -⟩⟩
    · exact absurd q hmay
    have E3 : Ext n2 h2 h3 := E3.via (Nat.le_refl _) (AH.below_ext h2 n2)
    have E3' : Ext n h h3 := E2'.trans (by omega) E3
    have k0 := c_ext E3 (by omega) k0
    have k1 := c_ext E3 (by omega) k1
    have k2 := c_ext E3 (by omega) k2
    have k3 := c_ext E3 (by omega) k3
    repeat' (first | refine stp ?_ | (refine stp2 ?_ ?_ <;> intro _))
    refine RD.call n3 rfl opds (refCheck13_rf ta ca sa ts N cs sel n3 _ (SlR.ext (SlR.ext B.types E3' (by omega)) (AH.below_ext _ _) (Nat.le_refl _)) ((B.cols.ext E3' (by omega)).ext (AH.below_ext _ _) (Nat.le_refl _)) (SlR.ext (SlR.ext B.snum E3' (by omega)) (AH.below_ext _ _) (Nat.le_refl _)) hr (by omega) (by omega)) (Nat.le_refl _) cfc ?_
    rintro r n4 h4 hle4 ⟨E4, ⟨-, q⟩ | ⟨rfl, -⟩⟩
    · exact absurd q hmay
    have hs := refSameRows_ev [] [] none none n4 (h4.below n4) ⟨SlR.nil, fun e he => by cases he⟩ ⟨SlR.nil, fun e he => by cases he⟩ (by decide) (fun e he => by cases he)
    repeat' (first | refine stp ?_ | (refine stp2 ?_ ?_ <;> intro _))
    refine RD.callP n4 rfl opds hs (Nat.le_refl _) cfc ?_
    repeat' (first | refine stp ?_ | (refine stp2 ?_ ?_ <;> intro _))
    rfl
set_option maxHeartbeats 4000000 in
theorem law_BatchOf (ta ra : Option Addr) (ts : List Ty) (rs : List RowE) (m n : Nat) (h : AH) (hT : SlTy h n ta ts) (hR : RowsR h n ra rs) (tl : ts.length ≤ m) (rl : rs.length ≤ m) (hr : ∀ e ∈ rs, e.2.length ≤ m) (hm : m ≤ 1048576) :
    RF Try.prog none' 4 #[.slice ta ts.length ts.length, .slice ra rs.length rs.length] n h (fun r _ _ => r = .bool true) := by
  have hr' : ∀ e ∈ rs, e.2.length ≤ 1099511627776 := fun e he => by have := hr e he; omega
  refine RF.of Try.func4 rfl rfl (Nat.le_of_ble_eq_true rfl) ?_; dsimp only [argEnv]
  repeat' (first | refine stpS ?_ | (refine stp2 ?_ ?_ <;> intro _))
  refine RS.call rfl opds (of_rf ta ra ts rs n h hT hR (by omega) (by omega) hr') none'W ?_
  rintro r n1 h1 hle1 ⟨E1, ⟨v, rfl, hmay, ta1, ca1, cs1, sa1, rfl, hc1, hB1⟩ | ⟨rfl, hmay⟩⟩
  · have hc1l := congrArg List.length hc1
    simp only [ofB, colsOf, List.length_map, List.length_range] at hc1l
    repeat' (first | refine stpS ?_ | (refine stp2 ?_ ?_ <;> intro _))
    obtain ⟨g, hg⟩ : ∃ g, g = (h1.app (.new n1 ⟨4, 0, true, 0⟩ [.slice none 0 0, .int .i64 0, .slice none 0 0, .slice none 0 0])).app (.sets n1 0 [.slice ta1 (ofB ts (rs.map Prod.snd)).types.length (ofB ts (rs.map Prod.snd)).types.length, .int .i64 (ofB ts (rs.map Prod.snd)).num, .slice ca1 cs1.length cs1.length, .slice sa1 (ofB ts (rs.map Prod.snd)).sel.length (ofB ts (rs.map Prod.snd)).sel.length]) := ⟨_, rfl⟩
    refine RS.heap hg ?_
    have E2 : Ext n1 h1 g := by rw [hg]; exact ext
    have k0 : g.cell n1 0 = .slice ta1 (ofB ts (rs.map Prod.snd)).types.length (ofB ts (rs.map Prod.snd)).types.length := by rw [hg]; exact cell
    have k1 : g.cell n1 1 = .int .i64 (ofB ts (rs.map Prod.snd)).num := by rw [hg]; exact cell
    have k2 : g.cell n1 2 = .slice ca1 cs1.length cs1.length := by rw [hg]; exact cell
    have k3 : g.cell n1 3 = .slice sa1 (ofB ts (rs.map Prod.snd)).sel.length (ofB ts (rs.map Prod.snd)).sel.length := by rw [hg]; exact cell
    clear hg
    have E2' : Ext n h g := E1.trans (by omega) E2
    refine RS.call rfl opds (refOf_rf ta ra ts rs (n1 + 1) g (SlR.ext hT E2' (by omega)) (hR.ext E2' (by omega)) (by omega) (by omega) hr') none'W ?_
    rintro r n3 h3 hle3 ⟨E3, ⟨v, rfl, -, ta2, ca2, cs2, sa2, rfl, hc2, hB2⟩ | ⟨-, q⟩⟩
    rotate_left
    · exact absurd hmay q
    have k0 := c_ext E3 (by omega) k0
    have k1 := c_ext E3 (by omega) k1
    have k2 := c_ext E3 (by omega) k2
    have k3 := c_ext E3 (by omega) k3
    repeat' (first | refine stpS ?_ | (refine stp2 ?_ ?_ <;> intro _))
    obtain ⟨g4, hg⟩ : ∃ g4, g4 = (h3.app (.new n3 ⟨4, 0, true, 0⟩ [.slice none 0 0, .int .i64 0, .slice none 0 0, .slice none 0 0])).app (.sets n3 0 [.slice ta2 (ofB ts (rs.map Prod.snd)).types.length (ofB ts (rs.map Prod.snd)).types.length, .int .i64 (ofB ts (rs.map Prod.snd)).num, .slice ca2 cs2.length cs2.length, .slice sa2 (ofB ts (rs.map Prod.snd)).sel.length (ofB ts (rs.map Prod.snd)).sel.length]) := ⟨_, rfl⟩
    refine RS.heap hg ?_
    have E4 : Ext n3 h3 g4 := by rw [hg]; exact ext
    have m0 : g4.cell n3 0 = .slice ta2 (ofB ts (rs.map Prod.snd)).types.length (ofB ts (rs.map Prod.snd)).types.length := by rw [hg]; exact cell
    have m1 : g4.cell n3 1 = .int .i64 (ofB ts (rs.map Prod.snd)).num := by rw [hg]; exact cell
    have m2 : g4.cell n3 2 = .slice ca2 cs2.length cs2.length := by rw [hg]; exact cell
    have m3 : g4.cell n3 3 = .slice sa2 (ofB ts (rs.map Prod.snd)).sel.length (ofB ts (rs.map Prod.snd)).sel.length := by rw [hg]; exact cell
    clear hg
    have k0 := c_ext E4 (by omega) k0
    have k1 := c_ext E4 (by omega) k1
    have k2 := c_ext E4 (by omega) k2
    have k3 := c_ext E4 (by omega) k3
    have hB1' := hB1.ext (E2.trans (by omega) (E3.trans (by omega) E4)) (by omega : n1 ≤ n3 + 1)
    have hB2' := hB2.ext E4 (by omega : n3 ≤ n3 + 1)
    have hs := refSame13_ev ta1 ca1 sa1 _ (ofB ts (rs.map Prod.snd)).num cs1 _ ta2 ca2 sa2 _ (ofB ts (rs.map Prod.snd)).num cs2 _ (n3 + 1) g4 hB1'.types.slr (OwnRR.rowsR hB1'.cols) (OwnSl.slN hB1'.sel) hB2'.types.slr (OwnRR.rowsR hB2'.cols) (OwnSl.slN hB2'.sel) (fun e he => by
      have : e.2 ∈ (ofB ts (rs.map Prod.snd)).cols := by rw [← hc1]; exact List.mem_map_of_mem he
      simp only [ofB, colsOf, List.mem_map] at this
      obtain ⟨k, -, q⟩ := this
      rw [← q, colOf, List.length_map, List.length_map]; omega) (by simp only [ofB, selAll_length, List.length_map]; omega) (by show ts.length ≤ _; omega) (by omega)
    rw [hc1, hc2, decide_eq_true rfl] at hs
    repeat' (first | refine stpS ?_ | (refine stp2 ?_ ?_ <;> intro _) | refine RS.call1 rfl opds (begun_ev _ _) none'W ?_ | refine RS.call1 rfl opds (hs) none'W ?_)
    rfl
  · repeat' (first | refine stpS ?_ | (refine stp2 ?_ ?_ <;> intro _))
    obtain ⟨g, hg⟩ : ∃ g, g = (h1.app (.new n1 ⟨4, 0, true, 0⟩ [.slice none 0 0, .int .i64 0, .slice none 0 0, .slice none 0 0])).app (.sets n1 0 [.slice none 0 0, .int .i64 0, .slice none 0 0, .slice none 0 0]) := ⟨_, rfl⟩
    refine RS.heap hg ?_
    have E2 : Ext n1 h1 g := by rw [hg]; exact ext
    have k0 : g.cell n1 0 = .slice none 0 0 := by rw [hg]; exact cell
    have k1 : g.cell n1 1 = .int .i64 0 := by rw [hg]; exact cell
    have k2 : g.cell n1 2 = .slice none 0 0 := by rw [hg]; exact cell
    have k3 : g.cell n1 3 = .slice none 0 0 := by rw [hg]; exact cell
    clear hg
    have E2' : Ext n h g := E1.trans (by omega) E2
    refine RS.call rfl opds (refOf_rf ta ra ts rs (n1 + 1) g (SlR.ext hT E2' (by omega)) (hR.ext E2' (by omega)) (by omega) (by omega) hr') none'W ?_
    rintro r n3 h3 hle3 ⟨E3, ⟨v, rfl, q, -⟩ | ⟨rfl, -⟩⟩
    · exact absurd q hmay
    have k0 := c_ext E3 (by omega) k0
    have k1 := c_ext E3 (by omega) k1
    have k2 := c_ext E3 (by omega) k2
    have k3 := c_ext E3 (by omega) k3
    have hs := fun n h => refSame13_ev none none none [] 0 [] [] none none none [] 0 [] [] n h SlR.nil ⟨SlR.nil, fun e he => by cases he⟩ SlR.nil SlR.nil ⟨SlR.nil, fun e he => by cases he⟩ SlR.nil (fun e he => by cases he) (by decide) (by decide) (by decide)
    repeat' (first | refine stpS ?_ | (refine stp2 ?_ ?_ <;> intro _) | refine RS.call1 rfl opds (begun_ev _ _) none'W ?_ | refine RS.call1 rfl opds (hs _ _) none'W ?_)
    rfl
end Go.Proofs.Ytaagbfpbbhaclaa
