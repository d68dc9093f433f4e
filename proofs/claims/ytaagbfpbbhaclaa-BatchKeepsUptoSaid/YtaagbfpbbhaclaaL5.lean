/- The law BatchKeeps. -/
import Derived.Test.YtaagbfpbbhaclaaX
import Derived.Test.YtaagbfpbbhaclaaK5
import Derived.Test.YtaagbfpbbhaclaaK8
set_option linter.unusedSimpArgs false
set_option linter.unusedVariables false
namespace Go.Proofs.Ytaagbfpbbhaclaa
open Go.Abs Go.RowKit

theorem IsRes.same {P : Bat × Int} {x y : BatE} {n : Nat} {h : AH} (hx : x.plain = P.1) (hy : y.plain = P.1) (rx : BatR h n x) (ry : BatR h n y) (s : P.1.Sm) :
    Ev Try.prog none' 18 #[.agg x.cells.toArray, .agg y.cells.toArray] n h (.bool true) n h := by
  have sm := Bat.Sm.of (b := x) (by rw [hx]; exact s)
  have hsm := refSame13_ev x.ta x.ca x.sa x.types x.num x.cols x.sel y.ta y.ca y.sa y.types y.num y.cols y.sel n h rx.types rx.cols rx.sel ry.types ry.cols ry.sel sm.r sm.s sm.t sm.c
  rw [decide_eq_true (show (⟨x.types, x.num, x.cols.map Prod.snd, x.sel⟩ : Bat) = ⟨y.types, y.num, y.cols.map Prod.snd, y.sel⟩ from hx.trans hy.symm)] at hsm
  exact hsm
set_option maxHeartbeats 4000000 in
theorem law_BatchKeeps (ta ca sa ba xa la : Option Addr) (ts : List Ty) (N : Int) (cs : List RowE) (sel : List Int) (M : Int) (bl : List UInt8) (l : List Int) (t : Ty) (vl : List Val) (m n : Nat) (h : AH) (B : BatA h n m ta ts ca cs sa sel) (BB : SlB h n ba bl) (BX : SlN h n xa l) (BL : SlV h n la vl) (hm : m ≤ 1048576) (hb : bl.length ≤ 1048576) (hl : l.length ≤ 1048576) (hv : vl.length ≤ 1048576) :
    RF Try.prog none' 9 #[batV ta ts N ca cs sa sel, .agg #[.int .i64 M, .slice ba bl.length bl.length], .slice xa l.length l.length, .agg #[.int .i64 t.kind, .int .i64 t.scale], .slice la vl.length vl.length] n h (fun r _ _ => r = .bool true) := by
  obtain ⟨tk, tsc⟩ := t
  refine RF.of Try.func9 rfl rfl (Nat.le_of_ble_eq_true rfl) ?_; dsimp only [argEnv]
  repeat' (first | refine stpS ?_ | (refine stp2 ?_ ?_ <;> intro _))
  obtain ⟨g, hg⟩ : ∃ g, g = ((h.app (.new n ⟨4, 0, true, 0⟩ [.slice ta ts.length ts.length, .int .i64 N, .slice ca cs.length cs.length, .slice sa sel.length sel.length])).app (.new (n + 1) ⟨2, 0, true, 0⟩ [.int .i64 M, .slice ba bl.length bl.length])).app (.new (n + 1 + 1) ⟨2, 0, true, 0⟩ [.int .i64 tk, .int .i64 tsc]) := ⟨_, rfl⟩
  refine RS.heap hg ?_
  have E0 : Ext n h g := by rw [hg]; exact ext
  have k0 : g.cell n 0 = .slice ta ts.length ts.length := by rw [hg]; exact cell
  have k1 : g.cell n 1 = .int .i64 N := by rw [hg]; exact cell
  have k2 : g.cell n 2 = .slice ca cs.length cs.length := by rw [hg]; exact cell
  have k3 : g.cell n 3 = .slice sa sel.length sel.length := by rw [hg]; exact cell
  have m0 : g.cell (n + 1) 0 = .int .i64 M := by rw [hg]; exact cell
  have m1 : g.cell (n + 1) 1 = .slice ba bl.length bl.length := by rw [hg]; exact cell
  have t0 : g.cell (n + 1 + 1) 0 = .int .i64 tk := by rw [hg]; exact cell
  have t1 : g.cell (n + 1 + 1) 1 = .int .i64 tsc := by rw [hg]; exact cell
  clear hg
  refine RS.call rfl opds (keepR_rf (B.ext E0 (by omega)) (SlR.ext BB E0 (by omega)) hm hb) none'W ?_
  rintro r n1 h1 hle1 ⟨E1, x1, rfl, p1, r1, s1⟩
  dsimp only [BatE.cells]
  have k0 := c_ext E1 (by omega) k0
  have k1 := c_ext E1 (by omega) k1
  have k2 := c_ext E1 (by omega) k2
  have k3 := c_ext E1 (by omega) k3
  have m0 := c_ext E1 (by omega) m0
  have m1 := c_ext E1 (by omega) m1
  have t0 := c_ext E1 (by omega) t0
  have t1 := c_ext E1 (by omega) t1
  repeat' (first | refine stpS ?_ | (refine stp2 ?_ ?_ <;> intro _))
  obtain ⟨g1, hg⟩ : ∃ g1, g1 = (h1.app (.new n1 ⟨4, 0, true, 0⟩ [.slice none 0 0, .int .i64 0, .slice none 0 0, .slice none 0 0])).app (.sets n1 0 [.slice x1.ta x1.types.length x1.types.length, .int .i64 x1.num, .slice x1.ca x1.cols.length x1.cols.length, .slice x1.sa x1.sel.length x1.sel.length]) := ⟨_, rfl⟩
  refine RS.heap hg ?_
  have F1 : Ext n1 h1 g1 := by rw [hg]; exact ext
  have c10 : g1.cell n1 0 = .slice x1.ta x1.types.length x1.types.length := by rw [hg]; exact cell
  have c11 : g1.cell n1 1 = .int .i64 x1.num := by rw [hg]; exact cell
  have c12 : g1.cell n1 2 = .slice x1.ca x1.cols.length x1.cols.length := by rw [hg]; exact cell
  have c13 : g1.cell n1 3 = .slice x1.sa x1.sel.length x1.sel.length := by rw [hg]; exact cell
  clear hg
  have k0 := c_ext F1 (by omega) k0
  have k1 := c_ext F1 (by omega) k1
  have k2 := c_ext F1 (by omega) k2
  have k3 := c_ext F1 (by omega) k3
  have m0 := c_ext F1 (by omega) m0
  have m1 := c_ext F1 (by omega) m1
  have t0 := c_ext F1 (by omega) t0
  have t1 := c_ext F1 (by omega) t1
  have G1 : Ext n h g1 := E0.trans (by omega) (E1.trans hle1 F1)
  have r1 := r1.ext F1 (Nat.le_succ n1)
  refine RS.call rfl opds (refKeepR_rf (B.ext G1 (by omega)) (SlR.ext BB G1 (by omega)) hm hb) none'W ?_
  rintro r n2 h2 hle2 ⟨E2, q2⟩
  obtain ⟨x2, rfl, p2, r2, s2⟩ := q2 hle2
  dsimp only [BatE.cells]
  have k0 := c_ext E2 (by omega) k0
  have k1 := c_ext E2 (by omega) k1
  have k2 := c_ext E2 (by omega) k2
  have k3 := c_ext E2 (by omega) k3
  have m0 := c_ext E2 (by omega) m0
  have m1 := c_ext E2 (by omega) m1
  have t0 := c_ext E2 (by omega) t0
  have t1 := c_ext E2 (by omega) t1
  have c10 := c_ext E2 (by omega) c10
  have c11 := c_ext E2 (by omega) c11
  have c12 := c_ext E2 (by omega) c12
  have c13 := c_ext E2 (by omega) c13
  repeat' (first | refine stpS ?_ | (refine stp2 ?_ ?_ <;> intro _))
  obtain ⟨g2, hg⟩ : ∃ g2, g2 = (h2.app (.new n2 ⟨4, 0, true, 0⟩ [.slice none 0 0, .int .i64 0, .slice none 0 0, .slice none 0 0])).app (.sets n2 0 [.slice x2.ta x2.types.length x2.types.length, .int .i64 x2.num, .slice x2.ca x2.cols.length x2.cols.length, .slice x2.sa x2.sel.length x2.sel.length]) := ⟨_, rfl⟩
  refine RS.heap hg ?_
  have F2 : Ext n2 h2 g2 := by rw [hg]; exact ext
  have c20 : g2.cell n2 0 = .slice x2.ta x2.types.length x2.types.length := by rw [hg]; exact cell
  have c21 : g2.cell n2 1 = .int .i64 x2.num := by rw [hg]; exact cell
  have c22 : g2.cell n2 2 = .slice x2.ca x2.cols.length x2.cols.length := by rw [hg]; exact cell
  have c23 : g2.cell n2 3 = .slice x2.sa x2.sel.length x2.sel.length := by rw [hg]; exact cell
  clear hg
  have k0 := c_ext F2 (by omega) k0
  have k1 := c_ext F2 (by omega) k1
  have k2 := c_ext F2 (by omega) k2
  have k3 := c_ext F2 (by omega) k3
  have m0 := c_ext F2 (by omega) m0
  have m1 := c_ext F2 (by omega) m1
  have t0 := c_ext F2 (by omega) t0
  have t1 := c_ext F2 (by omega) t1
  have c10 := c_ext F2 (by omega) c10
  have c11 := c_ext F2 (by omega) c11
  have c12 := c_ext F2 (by omega) c12
  have c13 := c_ext F2 (by omega) c13
  have G2 : Ext n h g2 := G1.trans (by omega) (E2.trans hle2 F2)
  have r2 := r2.ext F2 (Nat.le_succ n2)
  have r1 := r1.ext (E2.trans hle2 F2) (by omega : _ ≤ n2 + 1)
  refine RS.call rfl opds (denseR_rf (B.ext G2 (by omega)) hm) none'W ?_
  rintro r n3 h3 hle3 ⟨E3, x3, rfl, p3, r3, s3⟩
  dsimp only [BatE.cells]
  have k0 := c_ext E3 (by omega) k0
  have k1 := c_ext E3 (by omega) k1
  have k2 := c_ext E3 (by omega) k2
  have k3 := c_ext E3 (by omega) k3
  have m0 := c_ext E3 (by omega) m0
  have m1 := c_ext E3 (by omega) m1
  have t0 := c_ext E3 (by omega) t0
  have t1 := c_ext E3 (by omega) t1
  have c10 := c_ext E3 (by omega) c10
  have c11 := c_ext E3 (by omega) c11
  have c12 := c_ext E3 (by omega) c12
  have c13 := c_ext E3 (by omega) c13
  have c20 := c_ext E3 (by omega) c20
  have c21 := c_ext E3 (by omega) c21
  have c22 := c_ext E3 (by omega) c22
  have c23 := c_ext E3 (by omega) c23
  repeat' (first | refine stpS ?_ | (refine stp2 ?_ ?_ <;> intro _))
  obtain ⟨g3, hg⟩ : ∃ g3, g3 = (h3.app (.new n3 ⟨4, 0, true, 0⟩ [.slice none 0 0, .int .i64 0, .slice none 0 0, .slice none 0 0])).app (.sets n3 0 [.slice x3.ta x3.types.length x3.types.length, .int .i64 x3.num, .slice x3.ca x3.cols.length x3.cols.length, .slice x3.sa x3.sel.length x3.sel.length]) := ⟨_, rfl⟩
  refine RS.heap hg ?_
  have F3 : Ext n3 h3 g3 := by rw [hg]; exact ext
  have c30 : g3.cell n3 0 = .slice x3.ta x3.types.length x3.types.length := by rw [hg]; exact cell
  have c31 : g3.cell n3 1 = .int .i64 x3.num := by rw [hg]; exact cell
  have c32 : g3.cell n3 2 = .slice x3.ca x3.cols.length x3.cols.length := by rw [hg]; exact cell
  have c33 : g3.cell n3 3 = .slice x3.sa x3.sel.length x3.sel.length := by rw [hg]; exact cell
  clear hg
  have k0 := c_ext F3 (by omega) k0
  have k1 := c_ext F3 (by omega) k1
  have k2 := c_ext F3 (by omega) k2
  have k3 := c_ext F3 (by omega) k3
  have m0 := c_ext F3 (by omega) m0
  have m1 := c_ext F3 (by omega) m1
  have t0 := c_ext F3 (by omega) t0
  have t1 := c_ext F3 (by omega) t1
  have c10 := c_ext F3 (by omega) c10
  have c11 := c_ext F3 (by omega) c11
  have c12 := c_ext F3 (by omega) c12
  have c13 := c_ext F3 (by omega) c13
  have c20 := c_ext F3 (by omega) c20
  have c21 := c_ext F3 (by omega) c21
  have c22 := c_ext F3 (by omega) c22
  have c23 := c_ext F3 (by omega) c23
  have G3 : Ext n h g3 := G2.trans (by omega) (E3.trans hle3 F3)
  have r3 := r3.ext F3 (Nat.le_succ n3)
  have r1 := r1.ext (E3.trans hle3 F3) (by omega : _ ≤ n3 + 1)
  have r2 := r2.ext (E3.trans hle3 F3) (by omega : _ ≤ n3 + 1)
  refine RS.call rfl opds (refDenseR_rf (B.ext G3 (by omega)) hm) none'W ?_
  rintro r n4 h4 hle4 ⟨E4, x4, rfl, p4, r4, s4⟩
  dsimp only [BatE.cells]
  have k0 := c_ext E4 (by omega) k0
  have k1 := c_ext E4 (by omega) k1
  have k2 := c_ext E4 (by omega) k2
  have k3 := c_ext E4 (by omega) k3
  have m0 := c_ext E4 (by omega) m0
  have m1 := c_ext E4 (by omega) m1
  have t0 := c_ext E4 (by omega) t0
  have t1 := c_ext E4 (by omega) t1
  have c10 := c_ext E4 (by omega) c10
  have c11 := c_ext E4 (by omega) c11
  have c12 := c_ext E4 (by omega) c12
  have c13 := c_ext E4 (by omega) c13
  have c20 := c_ext E4 (by omega) c20
  have c21 := c_ext E4 (by omega) c21
  have c22 := c_ext E4 (by omega) c22
  have c23 := c_ext E4 (by omega) c23
  have c30 := c_ext E4 (by omega) c30
  have c31 := c_ext E4 (by omega) c31
  have c32 := c_ext E4 (by omega) c32
  have c33 := c_ext E4 (by omega) c33
  repeat' (first | refine stpS ?_ | (refine stp2 ?_ ?_ <;> intro _))
  obtain ⟨g4, hg⟩ : ∃ g4, g4 = (h4.app (.new n4 ⟨4, 0, true, 0⟩ [.slice none 0 0, .int .i64 0, .slice none 0 0, .slice none 0 0])).app (.sets n4 0 [.slice x4.ta x4.types.length x4.types.length, .int .i64 x4.num, .slice x4.ca x4.cols.length x4.cols.length, .slice x4.sa x4.sel.length x4.sel.length]) := ⟨_, rfl⟩
  refine RS.heap hg ?_
  have F4 : Ext n4 h4 g4 := by rw [hg]; exact ext
  have c40 : g4.cell n4 0 = .slice x4.ta x4.types.length x4.types.length := by rw [hg]; exact cell
  have c41 : g4.cell n4 1 = .int .i64 x4.num := by rw [hg]; exact cell
  have c42 : g4.cell n4 2 = .slice x4.ca x4.cols.length x4.cols.length := by rw [hg]; exact cell
  have c43 : g4.cell n4 3 = .slice x4.sa x4.sel.length x4.sel.length := by rw [hg]; exact cell
  clear hg
  have k0 := c_ext F4 (by omega) k0
  have k1 := c_ext F4 (by omega) k1
  have k2 := c_ext F4 (by omega) k2
  have k3 := c_ext F4 (by omega) k3
  have m0 := c_ext F4 (by omega) m0
  have m1 := c_ext F4 (by omega) m1
  have t0 := c_ext F4 (by omega) t0
  have t1 := c_ext F4 (by omega) t1
  have c10 := c_ext F4 (by omega) c10
  have c11 := c_ext F4 (by omega) c11
  have c12 := c_ext F4 (by omega) c12
  have c13 := c_ext F4 (by omega) c13
  have c20 := c_ext F4 (by omega) c20
  have c21 := c_ext F4 (by omega) c21
  have c22 := c_ext F4 (by omega) c22
  have c23 := c_ext F4 (by omega) c23
  have c30 := c_ext F4 (by omega) c30
  have c31 := c_ext F4 (by omega) c31
  have c32 := c_ext F4 (by omega) c32
  have c33 := c_ext F4 (by omega) c33
  have G4 : Ext n h g4 := G3.trans (by omega) (E4.trans hle4 F4)
  have r4 := r4.ext F4 (Nat.le_succ n4)
  have r1 := r1.ext (E4.trans hle4 F4) (by omega : _ ≤ n4 + 1)
  have r2 := r2.ext (E4.trans hle4 F4) (by omega : _ ≤ n4 + 1)
  have r3 := r3.ext (E4.trans hle4 F4) (by omega : _ ≤ n4 + 1)
  have S12 := IsRes.same p1 p2 r1 r2 s1
  have S34 := IsRes.same p3 p4 r3 r4 s3
  dsimp only [BatE.cells] at S12 S34
  repeat' (first | refine stpS ?_ | (refine stp2 ?_ ?_ <;> intro _) | refine RS.call1 rfl opds (begun_ev _ _) none'W ?_ | refine RS.call1 rfl opds (S12) none'W ?_ | refine RS.call1 rfl opds (S34) none'W ?_)
  clear r1 r2 r3 r4 S12 S34 p1 p2 p3 p4 c10 c11 c12 c13 c20 c21 c22 c23 c30 c31 c32 c33 c40 c41 c42 c43
  refine RS.call rfl opds (pickR_rf (B.ext G4 (by omega)) (SlR.ext BX G4 (by omega)) hm hl) none'W ?_
  rintro r n5 h5 hle5 ⟨E5, x5, rfl, p5, r5, s5⟩
  dsimp only [BatE.cells]
  have k0 := c_ext E5 (by omega) k0
  have k1 := c_ext E5 (by omega) k1
  have k2 := c_ext E5 (by omega) k2
  have k3 := c_ext E5 (by omega) k3
  have m0 := c_ext E5 (by omega) m0
  have m1 := c_ext E5 (by omega) m1
  have t0 := c_ext E5 (by omega) t0
  have t1 := c_ext E5 (by omega) t1
  repeat' (first | refine stpS ?_ | (refine stp2 ?_ ?_ <;> intro _))
  obtain ⟨g5, hg⟩ : ∃ g5, g5 = (h5.app (.new n5 ⟨4, 0, true, 0⟩ [.slice none 0 0, .int .i64 0, .slice none 0 0, .slice none 0 0])).app (.sets n5 0 [.slice x5.ta x5.types.length x5.types.length, .int .i64 x5.num, .slice x5.ca x5.cols.length x5.cols.length, .slice x5.sa x5.sel.length x5.sel.length]) := ⟨_, rfl⟩
  refine RS.heap hg ?_
  have F5 : Ext n5 h5 g5 := by rw [hg]; exact ext
  have c50 : g5.cell n5 0 = .slice x5.ta x5.types.length x5.types.length := by rw [hg]; exact cell
  have c51 : g5.cell n5 1 = .int .i64 x5.num := by rw [hg]; exact cell
  have c52 : g5.cell n5 2 = .slice x5.ca x5.cols.length x5.cols.length := by rw [hg]; exact cell
  have c53 : g5.cell n5 3 = .slice x5.sa x5.sel.length x5.sel.length := by rw [hg]; exact cell
  clear hg
  have k0 := c_ext F5 (by omega) k0
  have k1 := c_ext F5 (by omega) k1
  have k2 := c_ext F5 (by omega) k2
  have k3 := c_ext F5 (by omega) k3
  have m0 := c_ext F5 (by omega) m0
  have m1 := c_ext F5 (by omega) m1
  have t0 := c_ext F5 (by omega) t0
  have t1 := c_ext F5 (by omega) t1
  have G5 : Ext n h g5 := G4.trans (by omega) (E5.trans hle5 F5)
  have r5 := r5.ext F5 (Nat.le_succ n5)
  refine RS.call rfl opds (refPickR_rf (B.ext G5 (by omega)) (SlR.ext BX G5 (by omega)) hm hl) none'W ?_
  rintro r n6 h6 hle6 ⟨E6, q6⟩
  obtain ⟨x6, rfl, p6, r6, s6⟩ := q6 hle6
  dsimp only [BatE.cells]
  have k0 := c_ext E6 (by omega) k0
  have k1 := c_ext E6 (by omega) k1
  have k2 := c_ext E6 (by omega) k2
  have k3 := c_ext E6 (by omega) k3
  have m0 := c_ext E6 (by omega) m0
  have m1 := c_ext E6 (by omega) m1
  have t0 := c_ext E6 (by omega) t0
  have t1 := c_ext E6 (by omega) t1
  have c50 := c_ext E6 (by omega) c50
  have c51 := c_ext E6 (by omega) c51
  have c52 := c_ext E6 (by omega) c52
  have c53 := c_ext E6 (by omega) c53
  repeat' (first | refine stpS ?_ | (refine stp2 ?_ ?_ <;> intro _))
  obtain ⟨g6, hg⟩ : ∃ g6, g6 = (h6.app (.new n6 ⟨4, 0, true, 0⟩ [.slice none 0 0, .int .i64 0, .slice none 0 0, .slice none 0 0])).app (.sets n6 0 [.slice x6.ta x6.types.length x6.types.length, .int .i64 x6.num, .slice x6.ca x6.cols.length x6.cols.length, .slice x6.sa x6.sel.length x6.sel.length]) := ⟨_, rfl⟩
  refine RS.heap hg ?_
  have F6 : Ext n6 h6 g6 := by rw [hg]; exact ext
  have c60 : g6.cell n6 0 = .slice x6.ta x6.types.length x6.types.length := by rw [hg]; exact cell
  have c61 : g6.cell n6 1 = .int .i64 x6.num := by rw [hg]; exact cell
  have c62 : g6.cell n6 2 = .slice x6.ca x6.cols.length x6.cols.length := by rw [hg]; exact cell
  have c63 : g6.cell n6 3 = .slice x6.sa x6.sel.length x6.sel.length := by rw [hg]; exact cell
  clear hg
  have k0 := c_ext F6 (by omega) k0
  have k1 := c_ext F6 (by omega) k1
  have k2 := c_ext F6 (by omega) k2
  have k3 := c_ext F6 (by omega) k3
  have m0 := c_ext F6 (by omega) m0
  have m1 := c_ext F6 (by omega) m1
  have t0 := c_ext F6 (by omega) t0
  have t1 := c_ext F6 (by omega) t1
  have c50 := c_ext F6 (by omega) c50
  have c51 := c_ext F6 (by omega) c51
  have c52 := c_ext F6 (by omega) c52
  have c53 := c_ext F6 (by omega) c53
  have G6 : Ext n h g6 := G5.trans (by omega) (E6.trans hle6 F6)
  have r6 := r6.ext F6 (Nat.le_succ n6)
  have r5 := r5.ext (E6.trans hle6 F6) (by omega : _ ≤ n6 + 1)
  refine RS.call rfl opds (withR_rf (t := ⟨tk, tsc⟩) (B.ext G6 (by omega)) (SlR.ext BL G6 (by omega)) hm hv) none'W ?_
  rintro r n7 h7 hle7 ⟨E7, x7, rfl, p7, r7, s7⟩
  dsimp only [BatE.cells]
  have k0 := c_ext E7 (by omega) k0
  have k1 := c_ext E7 (by omega) k1
  have k2 := c_ext E7 (by omega) k2
  have k3 := c_ext E7 (by omega) k3
  have m0 := c_ext E7 (by omega) m0
  have m1 := c_ext E7 (by omega) m1
  have t0 := c_ext E7 (by omega) t0
  have t1 := c_ext E7 (by omega) t1
  have c50 := c_ext E7 (by omega) c50
  have c51 := c_ext E7 (by omega) c51
  have c52 := c_ext E7 (by omega) c52
  have c53 := c_ext E7 (by omega) c53
  have c60 := c_ext E7 (by omega) c60
  have c61 := c_ext E7 (by omega) c61
  have c62 := c_ext E7 (by omega) c62
  have c63 := c_ext E7 (by omega) c63
  repeat' (first | refine stpS ?_ | (refine stp2 ?_ ?_ <;> intro _))
  obtain ⟨g7, hg⟩ : ∃ g7, g7 = (h7.app (.new n7 ⟨4, 0, true, 0⟩ [.slice none 0 0, .int .i64 0, .slice none 0 0, .slice none 0 0])).app (.sets n7 0 [.slice x7.ta x7.types.length x7.types.length, .int .i64 x7.num, .slice x7.ca x7.cols.length x7.cols.length, .slice x7.sa x7.sel.length x7.sel.length]) := ⟨_, rfl⟩
  refine RS.heap hg ?_
  have F7 : Ext n7 h7 g7 := by rw [hg]; exact ext
  have c70 : g7.cell n7 0 = .slice x7.ta x7.types.length x7.types.length := by rw [hg]; exact cell
  have c71 : g7.cell n7 1 = .int .i64 x7.num := by rw [hg]; exact cell
  have c72 : g7.cell n7 2 = .slice x7.ca x7.cols.length x7.cols.length := by rw [hg]; exact cell
  have c73 : g7.cell n7 3 = .slice x7.sa x7.sel.length x7.sel.length := by rw [hg]; exact cell
  clear hg
  have k0 := c_ext F7 (by omega) k0
  have k1 := c_ext F7 (by omega) k1
  have k2 := c_ext F7 (by omega) k2
  have k3 := c_ext F7 (by omega) k3
  have m0 := c_ext F7 (by omega) m0
  have m1 := c_ext F7 (by omega) m1
  have t0 := c_ext F7 (by omega) t0
  have t1 := c_ext F7 (by omega) t1
  have c50 := c_ext F7 (by omega) c50
  have c51 := c_ext F7 (by omega) c51
  have c52 := c_ext F7 (by omega) c52
  have c53 := c_ext F7 (by omega) c53
  have c60 := c_ext F7 (by omega) c60
  have c61 := c_ext F7 (by omega) c61
  have c62 := c_ext F7 (by omega) c62
  have c63 := c_ext F7 (by omega) c63
  have G7 : Ext n h g7 := G6.trans (by omega) (E7.trans hle7 F7)
  have r7 := r7.ext F7 (Nat.le_succ n7)
  have r5 := r5.ext (E7.trans hle7 F7) (by omega : _ ≤ n7 + 1)
  have r6 := r6.ext (E7.trans hle7 F7) (by omega : _ ≤ n7 + 1)
  refine RS.call rfl opds (refWithR_rf (t := ⟨tk, tsc⟩) (B.ext G7 (by omega)) (SlR.ext BL G7 (by omega)) hm hv) none'W ?_
  rintro r n8 h8 hle8 ⟨E8, q8⟩
  obtain ⟨x8, rfl, p8, r8, s8⟩ := q8 hle8
  dsimp only [BatE.cells]
  have k0 := c_ext E8 (by omega) k0
  have k1 := c_ext E8 (by omega) k1
  have k2 := c_ext E8 (by omega) k2
  have k3 := c_ext E8 (by omega) k3
  have m0 := c_ext E8 (by omega) m0
  have m1 := c_ext E8 (by omega) m1
  have t0 := c_ext E8 (by omega) t0
  have t1 := c_ext E8 (by omega) t1
  have c50 := c_ext E8 (by omega) c50
  have c51 := c_ext E8 (by omega) c51
  have c52 := c_ext E8 (by omega) c52
  have c53 := c_ext E8 (by omega) c53
  have c60 := c_ext E8 (by omega) c60
  have c61 := c_ext E8 (by omega) c61
  have c62 := c_ext E8 (by omega) c62
  have c63 := c_ext E8 (by omega) c63
  have c70 := c_ext E8 (by omega) c70
  have c71 := c_ext E8 (by omega) c71
  have c72 := c_ext E8 (by omega) c72
  have c73 := c_ext E8 (by omega) c73
  repeat' (first | refine stpS ?_ | (refine stp2 ?_ ?_ <;> intro _))
  obtain ⟨g8, hg⟩ : ∃ g8, g8 = (h8.app (.new n8 ⟨4, 0, true, 0⟩ [.slice none 0 0, .int .i64 0, .slice none 0 0, .slice none 0 0])).app (.sets n8 0 [.slice x8.ta x8.types.length x8.types.length, .int .i64 x8.num, .slice x8.ca x8.cols.length x8.cols.length, .slice x8.sa x8.sel.length x8.sel.length]) := ⟨_, rfl⟩
  refine RS.heap hg ?_
  have F8 : Ext n8 h8 g8 := by rw [hg]; exact ext
  have c80 : g8.cell n8 0 = .slice x8.ta x8.types.length x8.types.length := by rw [hg]; exact cell
  have c81 : g8.cell n8 1 = .int .i64 x8.num := by rw [hg]; exact cell
  have c82 : g8.cell n8 2 = .slice x8.ca x8.cols.length x8.cols.length := by rw [hg]; exact cell
  have c83 : g8.cell n8 3 = .slice x8.sa x8.sel.length x8.sel.length := by rw [hg]; exact cell
  clear hg
  have k0 := c_ext F8 (by omega) k0
  have k1 := c_ext F8 (by omega) k1
  have k2 := c_ext F8 (by omega) k2
  have k3 := c_ext F8 (by omega) k3
  have m0 := c_ext F8 (by omega) m0
  have m1 := c_ext F8 (by omega) m1
  have t0 := c_ext F8 (by omega) t0
  have t1 := c_ext F8 (by omega) t1
  have c50 := c_ext F8 (by omega) c50
  have c51 := c_ext F8 (by omega) c51
  have c52 := c_ext F8 (by omega) c52
  have c53 := c_ext F8 (by omega) c53
  have c60 := c_ext F8 (by omega) c60
  have c61 := c_ext F8 (by omega) c61
  have c62 := c_ext F8 (by omega) c62
  have c63 := c_ext F8 (by omega) c63
  have c70 := c_ext F8 (by omega) c70
  have c71 := c_ext F8 (by omega) c71
  have c72 := c_ext F8 (by omega) c72
  have c73 := c_ext F8 (by omega) c73
  have G8 : Ext n h g8 := G7.trans (by omega) (E8.trans hle8 F8)
  have r8 := r8.ext F8 (Nat.le_succ n8)
  have r5 := r5.ext (E8.trans hle8 F8) (by omega : _ ≤ n8 + 1)
  have r6 := r6.ext (E8.trans hle8 F8) (by omega : _ ≤ n8 + 1)
  have r7 := r7.ext (E8.trans hle8 F8) (by omega : _ ≤ n8 + 1)
  have S56 := IsRes.same p5 p6 r5 r6 s5
  have S78 := IsRes.same p7 p8 r7 r8 s7
  dsimp only [BatE.cells] at S56 S78
  repeat' (first | refine stpS ?_ | (refine stp2 ?_ ?_ <;> intro _) | refine RS.call1 rfl opds (S56) none'W ?_ | refine RS.call1 rfl opds (S78) none'W ?_)
  rfl
end Go.Proofs.Ytaagbfpbbhaclaa
