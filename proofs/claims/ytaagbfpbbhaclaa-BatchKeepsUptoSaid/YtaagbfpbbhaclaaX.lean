/- Contracts of batches: what the program's and the document's functions answer, alike. -/
import Derived.Test.YtaagbfpbbhaclaaW2
import Derived.Test.YtaagbfpbbhaclaaP2
import Derived.Test.YtaagbfpbbhaclaaT
import Derived.Test.YtaagbfpbbhaclaaArg
set_option linter.unusedSimpArgs false
set_option linter.unusedVariables false
namespace Go.Proofs.Ytaagbfpbbhaclaa
open Go.Abs

def zeroE : BatE := ⟨none, [], 0, none, [], none, []⟩
def zeroB : Bat := ⟨[], 0, [], []⟩
/-- The answer is a batch and a number. -/
def IsRes (P : Bat × Int) (r : Value) (n : Nat) (h : AH) : Prop := ∃ x : BatE, r = .tuple #[.agg x.cells.toArray, .int .i64 P.2] ∧ x.plain = P.1 ∧ BatR h n x ∧ P.1.Sm
theorem zero_sm : zeroB.Sm := ⟨by decide, by decide, by decide, fun l hl => by cases hl⟩
theorem IsRes.zero {e : Int} {n : Nat} {h : AH} : IsRes (zeroB, e) (.tuple #[zeroV, .int .i64 e]) n h := ⟨zeroE, rfl, rfl, ⟨SlR.nil, ⟨SlR.nil, fun e he => (by cases he)⟩, SlR.nil⟩, zero_sm⟩
theorem IsRes.bat {b : Bat} {e : Int} {n0 n : Nat} {v : Value} {h : AH} (o : IsBat b n0 v n h) (s : b.Sm) : IsRes (b, e) (.tuple #[v, .int .i64 e]) n h := by
  obtain ⟨x, rfl, h1, h2, -⟩ := IsBat.batE o
  exact ⟨x, rfl, h1, h2, s⟩
section
open Classical
noncomputable def keepR (b : Bat) (t : List Bool) : Bat × Int := if b.may then (if t.length = b.sel.length then (⟨b.types, b.num, b.cols, keepP b.sel t⟩, 0) else (zeroB, 1)) else (zeroB, 130)
noncomputable def denseR (b : Bat) : Bat × Int := if b.may ∧ ofMay b.types b.rows then (ofB b.types b.rows, 0) else (zeroB, 130)
noncomputable def pickR (b : Bat) (l : List Int) : Bat × Int := if b.may then (if pickMay b l then (pickB b l, 0) else (zeroB, 1)) else (zeroB, 130)
noncomputable def withR (b : Bat) (t : Ty) (l : List Val) : Bat × Int := if b.may then (if l.length = b.sel.length then (if (withB b t l).may then (withB b t l, 0) else (zeroB, 130)) else (zeroB, 1)) else (zeroB, 130)
end
theorem keepP_le (sel : List Int) (t : List Bool) : (keepP sel t).length ≤ t.length := by
  simp only [keepP, List.length_map]; exact Bt.wheres_le t
section
variable {h : AH} {n m : Nat} {ta ca sa : Option Addr} {ts : List Ty} {N : Int} {cs : List RowE} {sel : List Int}
theorem BatA.rl' (B : BatA h n m ta ts ca cs sa sel) (hm : m ≤ 1048576) : ∀ e ∈ cs, e.2.length ≤ 1099511627776 := fun e he => by have := B.rl e he; omega
theorem BatA.ext {h1 : AH} {n1 : Nat} (B : BatA h n m ta ts ca cs sa sel) (E : Ext n h h1) (hn : n ≤ n1) : BatA h1 n1 m ta ts ca cs sa sel := ⟨SlR.ext B.types E hn, B.cols.ext E hn, SlR.ext B.snum E hn, B.tl, B.cl, B.sl, B.rl⟩
theorem colP_sm (B : BatA h n m ta ts ca cs sa sel) (hm : m ≤ 1048576) : ∀ l ∈ cs.map Prod.snd, l.length ≤ 1099511627776 := fun l hl => by
  obtain ⟨e, he, rfl⟩ := List.mem_map.1 hl
  exact B.rl' hm e he
theorem rows_sm (B : BatA h n m ta ts ca cs sa sel) (hm : m ≤ 1048576) : (ofB ts (Bat.rows ⟨ts, N, cs.map Prod.snd, sel⟩)).Sm :=
  ofB_sm (by have := B.tl; omega) (by simp only [Bat.rows, List.length_map]; have := B.sl; omega)
theorem keepR_rf {ba : Option Addr} {M : Int} {bl : List UInt8} (B : BatA h n m ta ts ca cs sa sel) (BB : SlB h n ba bl) (hm : m ≤ 1048576) (hbl : bl.length ≤ 1048576) :
    RF Try.prog none' 19 #[batV ta ts N ca cs sa sel, .agg #[.int .i64 M, .slice ba bl.length bl.length]] n h (fun r n' h' => Ext n h h' ∧ IsRes (keepR ⟨ts, N, cs.map Prod.snd, sel⟩ (Bt.truths M bl)) r n' h') := by
  have b1 := B.tl
  have b2 := B.cl
  have b3 := B.sl
  refine (keep_rf ta ca sa ba ts N cs sel M bl n h B.types B.cols B.snum BB (B.rl' hm) (by omega) (by omega) (by omega) hbl).mono ?_
  rintro r n' h' ⟨E, ⟨v, rfl, q1, q2, q3⟩ | ⟨rfl, q1⟩ | ⟨rfl, q1, q2⟩⟩
  · refine ⟨E, ?_⟩
    rw [keepR, if_pos q1, if_pos q2]
    exact IsRes.bat q3 ⟨by dsimp only; omega, by simp only [List.length_map]; omega, by dsimp only; have := keepP_le sel (Bt.truths M bl); omega, colP_sm B hm⟩
  · refine ⟨E, ?_⟩
    rw [keepR, if_neg q1]; exact IsRes.zero
  · refine ⟨E, ?_⟩
    rw [keepR, if_pos q1, if_neg q2]; exact IsRes.zero
theorem refKeepR_rf {ba : Option Addr} {M : Int} {bl : List UInt8} (B : BatA h n m ta ts ca cs sa sel) (BB : SlB h n ba bl) (hm : m ≤ 1048576) (hbl : bl.length ≤ 1048576) :
    RF Try.prog none' 26 #[batV ta ts N ca cs sa sel, .agg #[.int .i64 M, .slice ba bl.length bl.length]] n h (fun r n' h' => Ext n h h' ∧ (n ≤ n' → IsRes (keepR ⟨ts, N, cs.map Prod.snd, sel⟩ (Bt.truths M bl)) r n' h')) := by
  have b1 := B.tl
  have b2 := B.cl
  have b3 := B.sl
  refine (refKeep_rf ta ca sa ba ts N cs sel M bl n h B.types B.cols B.snum BB (B.rl' hm) (by omega) (by omega) (by omega) hbl).mono ?_
  rintro r n' h' ⟨E, ⟨s, rfl, q1, q2, q3⟩ | ⟨rfl, q1⟩ | ⟨rfl, q1, q2⟩⟩
  · refine ⟨E, fun hn => ?_⟩
    rw [keepR, if_pos q1, if_pos q2]
    exact ⟨⟨ta, ts, N, ca, cs, s, keepP sel (Bt.truths M bl)⟩, rfl, rfl, ⟨SlR.ext B.types E hn, B.cols.ext E hn, q3⟩, ⟨by dsimp only; omega, by simp only [List.length_map]; omega, by dsimp only; have := keepP_le sel (Bt.truths M bl); omega, colP_sm B hm⟩⟩
  · refine ⟨E, fun _ => ?_⟩
    rw [keepR, if_neg q1]; exact IsRes.zero
  · refine ⟨E, fun _ => ?_⟩
    rw [keepR, if_pos q1, if_neg q2]; exact IsRes.zero
theorem denseR_rf (B : BatA h n m ta ts ca cs sa sel) (hm : m ≤ 1048576) :
    RF Try.prog none' 21 #[batV ta ts N ca cs sa sel] n h (fun r n' h' => Ext n h h' ∧ IsRes (denseR ⟨ts, N, cs.map Prod.snd, sel⟩) r n' h') := by
  have b1 := B.tl
  have b2 := B.cl
  have b3 := B.sl
  refine (dense_rf ta ca sa ts N cs sel n h B.types B.cols B.snum (B.rl' hm) (by omega) (by omega) (by omega)).mono ?_
  rintro r n' h' ⟨E, ⟨v, rfl, q1, q2, q3⟩ | ⟨rfl, q1⟩⟩
  · refine ⟨E, ?_⟩
    rw [denseR, if_pos ⟨q1, q2⟩]; exact IsRes.bat q3 (rows_sm B hm)
  · refine ⟨E, ?_⟩
    rw [denseR, if_neg q1]; exact IsRes.zero
theorem refDenseR_rf (B : BatA h n m ta ts ca cs sa sel) (hm : m ≤ 1048576) :
    RF Try.prog none' 27 #[batV ta ts N ca cs sa sel] n h (fun r n' h' => Ext n h h' ∧ IsRes (denseR ⟨ts, N, cs.map Prod.snd, sel⟩) r n' h') := by
  have b1 := B.tl
  have b2 := B.cl
  have b3 := B.sl
  refine (refDense_rf ta ca sa ts N cs sel n h B.types B.cols B.snum (B.rl' hm) (by omega) (by omega) (by omega)).mono ?_
  rintro r n' h' ⟨E, ⟨v, rfl, q1, q2, q3⟩ | ⟨rfl, q1⟩⟩
  · refine ⟨E, ?_⟩
    rw [denseR, if_pos ⟨q1, q2⟩]; exact IsRes.bat q3 (rows_sm B hm)
  · refine ⟨E, ?_⟩
    rw [denseR, if_neg q1]; exact IsRes.zero
theorem pick_sm {l : List Int} (B : BatA h n m ta ts ca cs sa sel) (hm : m ≤ 1048576) (hl : l.length ≤ 1048576) : (pickB ⟨ts, N, cs.map Prod.snd, sel⟩ l).Sm := by
  refine ⟨by simp only [pickB, List.length_map]; omega, by simp only [pickB, List.length_map]; omega, by simp only [pickB]; have := B.sl; omega, fun x hx => ?_⟩
  simp only [pickB, List.mem_map] at hx
  obtain ⟨c, -, rfl⟩ := hx
  simp only [List.getD]
  cases hq : (cs.map Prod.snd)[c.toNat]? with
  | none => exact Nat.zero_le _
  | some y => exact colP_sm B hm y (List.mem_of_getElem? hq)
theorem pickR_rf {xa : Option Addr} {l : List Int} (B : BatA h n m ta ts ca cs sa sel) (BL : SlN h n xa l) (hm : m ≤ 1048576) (hl : l.length ≤ 1048576) :
    RF Try.prog none' 22 #[batV ta ts N ca cs sa sel, .slice xa l.length l.length] n h (fun r n' h' => Ext n h h' ∧ IsRes (pickR ⟨ts, N, cs.map Prod.snd, sel⟩ l) r n' h') := by
  have b1 := B.tl
  have b2 := B.cl
  have b3 := B.sl
  refine (pick_rf ta ca sa xa ts N cs sel l n h B.types B.cols B.snum BL (B.rl' hm) (by omega) (by omega) (by omega) (by omega)).mono ?_
  rintro r n' h' ⟨E, ⟨v, rfl, q1, q2, q3⟩ | ⟨rfl, q1⟩ | ⟨rfl, q1, q2⟩⟩
  · refine ⟨E, ?_⟩
    rw [pickR, if_pos q1, if_pos q2]; exact IsRes.bat q3 (pick_sm B hm hl)
  · refine ⟨E, ?_⟩
    rw [pickR, if_neg q1]; exact IsRes.zero
  · refine ⟨E, ?_⟩
    rw [pickR, if_pos q1, if_neg q2]; exact IsRes.zero
theorem refPickR_rf {xa : Option Addr} {l : List Int} (B : BatA h n m ta ts ca cs sa sel) (BL : SlN h n xa l) (hm : m ≤ 1048576) (hl : l.length ≤ 1048576) :
    RF Try.prog none' 28 #[batV ta ts N ca cs sa sel, .slice xa l.length l.length] n h (fun r n' h' => Ext n h h' ∧ (n ≤ n' → IsRes (pickR ⟨ts, N, cs.map Prod.snd, sel⟩ l) r n' h')) := by
  have b1 := B.tl
  have b2 := B.cl
  have b3 := B.sl
  refine (refPick_rf ta ca sa xa ts N cs sel l n h B.types B.cols B.snum BL (B.rl' hm) (by omega) (by omega) (by omega) (by omega)).mono ?_
  rintro r n' h' ⟨E, ⟨c, d, rfl, q1, q2, q3, q4, q5⟩ | ⟨rfl, q1⟩ | ⟨rfl, q1, q2⟩⟩
  · refine ⟨E, fun hn => ?_⟩
    rw [pickR, if_pos q1, if_pos q2]
    exact ⟨⟨c, pickT ts l, N, d, pickC cs l, sa, sel⟩, rfl, q3.symm, ⟨q4, q5, SlR.ext B.snum E hn⟩, pick_sm B hm hl⟩
  · refine ⟨E, fun _ => ?_⟩
    rw [pickR, if_neg q1]; exact IsRes.zero
  · refine ⟨E, fun _ => ?_⟩
    rw [pickR, if_pos q1, if_neg q2]; exact IsRes.zero
theorem with_sm {t : Ty} {l : List Val} (B : BatA h n m ta ts ca cs sa sel) (hm : m ≤ 1048576) (hN : N ≤ 2048) : (withB ⟨ts, N, cs.map Prod.snd, sel⟩ t l).Sm := by
  have b1 := B.tl
  have b2 := B.cl
  have b3 := B.sl
  refine ⟨by simp only [withB, List.length_append, List.length_cons, List.length_nil]; omega, by simp only [withB, List.length_append, List.length_map, List.length_cons, List.length_nil]; omega, by simp only [withB]; omega, fun x hx => ?_⟩
  rcases List.mem_append.1 hx with q | q
  · exact colP_sm B hm x q
  · simp only [List.mem_cons, List.not_mem_nil, or_false] at q
    subst q
    rw [colW_length]; omega
theorem withR_rf {la : Option Addr} {t : Ty} {l : List Val} (B : BatA h n m ta ts ca cs sa sel) (BL : SlV h n la l) (hm : m ≤ 1048576) (hl : l.length ≤ 1048576) :
    RF Try.prog none' 29 #[batV ta ts N ca cs sa sel, .agg #[.int .i64 t.kind, .int .i64 t.scale], .slice la l.length l.length] n h (fun r n' h' => Ext n h h' ∧ IsRes (withR ⟨ts, N, cs.map Prod.snd, sel⟩ t l) r n' h') := by
  have b1 := B.tl
  have b2 := B.cl
  have b3 := B.sl
  refine (with_rf ta ca sa la ts N cs sel t l n h B.types B.cols B.snum BL (B.rl' hm) (by omega) (by omega) (by omega) (by omega)).mono ?_
  rintro r n' h' ⟨E, ⟨v, rfl, q1, q2, q3, q4⟩ | ⟨rfl, q1⟩ | ⟨rfl, q1, q2⟩⟩
  · refine ⟨E, ?_⟩
    rw [withR, if_pos q1, if_pos q2, if_pos q3]; exact IsRes.bat q4 (with_sm B hm q1.2.2.2.1)
  · refine ⟨E, ?_⟩
    by_cases w1 : Bat.may ⟨ts, N, cs.map Prod.snd, sel⟩
    · have w2 : ¬ (l.length = sel.length → (withB ⟨ts, N, cs.map Prod.snd, sel⟩ t l).may) := fun w => q1 ⟨w1, w⟩
      rw [Classical.not_imp] at w2
      rw [withR, if_pos w1, if_pos w2.1, if_neg w2.2]; exact IsRes.zero
    · rw [withR, if_neg w1]; exact IsRes.zero
  · refine ⟨E, ?_⟩
    rw [withR, if_pos q1, if_neg q2]; exact IsRes.zero
theorem refWithR_rf {la : Option Addr} {t : Ty} {l : List Val} (B : BatA h n m ta ts ca cs sa sel) (BL : SlV h n la l) (hm : m ≤ 1048576) (hl : l.length ≤ 1048576) :
    RF Try.prog none' 30 #[batV ta ts N ca cs sa sel, .agg #[.int .i64 t.kind, .int .i64 t.scale], .slice la l.length l.length] n h (fun r n' h' => Ext n h h' ∧ (n ≤ n' → IsRes (withR ⟨ts, N, cs.map Prod.snd, sel⟩ t l) r n' h')) := by
  have b1 := B.tl
  have b2 := B.cl
  have b3 := B.sl
  refine (refWith_rf ta ca sa la ts N cs sel t l n h B.types B.cols B.snum BL (B.rl' hm) (by omega) (by omega) (by omega) (by omega)).mono ?_
  rintro r n' h' ⟨E, ⟨c, d, ds, rfl, q1, q2, q3, q4, q5, q6⟩ | ⟨rfl, q1⟩ | ⟨rfl, q1, q2⟩⟩
  · refine ⟨E, fun hn => ?_⟩
    rw [withR, if_pos q1, if_pos q2, if_pos q3]
    exact ⟨⟨c, ts ++ [t], N, d, ds, sa, sel⟩, rfl, q4.symm, ⟨q5, q6, SlR.ext B.snum E hn⟩, with_sm B hm q1.2.2.2.1⟩
  · refine ⟨E, fun _ => ?_⟩
    by_cases w1 : Bat.may ⟨ts, N, cs.map Prod.snd, sel⟩
    · have w2 : ¬ (l.length = sel.length → (withB ⟨ts, N, cs.map Prod.snd, sel⟩ t l).may) := fun w => q1 ⟨w1, w⟩
      rw [Classical.not_imp] at w2
      rw [withR, if_pos w1, if_pos w2.1, if_neg w2.2]; exact IsRes.zero
    · rw [withR, if_neg w1]; exact IsRes.zero
  · refine ⟨E, fun _ => ?_⟩
    rw [withR, if_pos q1, if_neg q2]; exact IsRes.zero
end
end Go.Proofs.Ytaagbfpbbhaclaa
