/- The law BitsCuts. -/
import Derived.Test.YtnaklmjndiodfaaI
namespace Go.Proofs.Ytnaklmjndiodfaa
open Go.Abs

theorem bs_twoB {h : AH} {n s : Nat} {x y : BsE} {cs : List Value} (hc : cs = bsC [x, y]) (hs : s = 4) (Sx : SlB (h.app (.new n ⟨s, 0, true, 2⟩ cs)) (n + 1) x.2.1 x.2.2) (Sy : SlB (h.app (.new n ⟨s, 0, true, 2⟩ cs)) (n + 1) y.2.1 y.2.2) :
    BsRep ((h.app (.new n ⟨s, 0, true, 2⟩ cs)).below (n + 1)) (n + 1) (some ⟨n, 0, none⟩) [x, y] := (bs_two hc hs Sx Sy).ext ext (Nat.le_refl _)
theorem chk_pack (t : List Bool) : chk t.length (packB t) = 0 := by
  have h : plc t.length (packB t).length = t.length := by rw [packB_length]; unfold plc; omega
  simp only [chk, h, truths_pack, and_self, if_true]
theorem cut_take (t : List Bool) (K : Nat) : cutT t 0 K = t.take K := by
  unfold cutT
  rw [show (min (max (0 : Int) 0) (t.length : Int)).toNat = 0 by omega, List.drop_zero]; congr 1; omega
theorem cut_drop (t : List Bool) (K : Nat) (h : K ≤ t.length) : cutT t K t.length = t.drop K := by
  unfold cutT
  rw [show (min (max (K : Int) 0) (t.length : Int)).toNat = K by omega, List.take_of_length_le (by rw [List.length_drop]; omega)]
theorem SlT.known {t : List Bool} : Go.Abs.known ((List.range (t.length * 1)).map (boolsF t)) = true := by
  have : ∀ (l : List Nat), Go.Abs.known (l.map (boolsF t)) = true := by
    intro l
    induction l with
    | nil => rfl
    | cons i l ih => exact ih
  exact this _
theorem boolsF_range (t : List Bool) : (List.range (t.length * 1)).map (boolsF t) = boolsV t := by
  apply List.ext_getElem
  · simp [boolsV]
  · intro i h1 h2
    have : i < t.length := by simpa using h1
    simp [boolsF, boolsV, List.getD, this]
set_option maxHeartbeats 4000000 in
theorem law_BitsCuts (t : List Bool) (a : Option Addr) (k : Int) (n : Nat) (h : AH) (S : SlT h n a t) (ht : t.length ≤ 1048576) (hn : 0 < n) (hk0 : 0 ≤ k) (hk1 : k < 65536) :
    RF Try.prog none' 7 #[.slice a t.length t.length, .int .u16 k] n h (fun r _ _ => r = .bool true) := by
  have hsa : sb a < n := SlR.ltp S hn (Nat.le_refl _)
  obtain ⟨K, hK⟩ : ∃ K : Nat, (K : Int) = k % ((t.length : Int) + 1) := ⟨(k % ((t.length : Int) + 1)).toNat, by have := Int.emod_nonneg k (show (t.length : Int) + 1 ≠ 0 by omega); omega⟩
  have hKt : K ≤ t.length := by have := Int.emod_lt_of_pos k (show (0 : Int) < (t.length : Int) + 1 by omega); omega
  have hlx : (t.take K).length = K := by simp; omega
  have hly : (t.drop K).length = t.length - K := by simp
  have hpt := packB_length t
  have hpx := packB_length (t.take K)
  have hpy := packB_length (t.drop K)
  refine RF.of Try.func7 rfl rfl (Nat.le_of_ble_eq_true rfl) ?_; dsimp only [argEnv]
  repeat' (first | refine stpS ?_ | (refine stp2 ?_ ?_ <;> intro _))
  refine RS.call rfl opds (of_rf t a _ _ _ (S.ext ext (by omega)) rfl (by omega)) none'W ?_
  rintro r n1 h1 hle ⟨a1, rfl, hE1, hO1⟩
  have hS1 := hO1.slbE
  have hx : ∀ n h, SlB h n a1 (packB t) → RF Try.prog none' 34 #[.agg #[.int .i64 t.length, .slice a1 (packB t).length (packB t).length], .int .i64 0, .int .i64 (K : Nat)] n h (BitsRes n h (t.take K)) := fun n h S => by
    have := cut_rf t.length (packB t) a1 _ n h 0 K S rfl (by omega) (by omega) (by omega)
    rwa [truths_pack, cut_take] at this
  have hy : ∀ n h, SlB h n a1 (packB t) → RF Try.prog none' 34 #[.agg #[.int .i64 t.length, .slice a1 (packB t).length (packB t).length], .int .i64 (K : Nat), .int .i64 t.length] n h (BitsRes n h (t.drop K)) := fun n h S => by
    have := cut_rf t.length (packB t) a1 _ n h K t.length S rfl (by omega) (by omega) (by omega)
    rwa [truths_pack, cut_drop _ _ hKt] at this
  have hchk : ∀ (V : List Bool) (c : Option Addr) n h, V.length ≤ 1048576 → SlB h n c (packB V) → Ev Try.prog none' 23 #[.agg #[.int .i64 V.length, .slice c (packB V).length (packB V).length]] n h (.int .i64 0) n h := fun V c n h hV S => by
    have := check_ev V.length (packB V) c _ n h S rfl (by rw [packB_length]; omega)
    rwa [chk_pack] at this
  repeat' (first | refine stpS ?_ | (refine stp2 ?_ ?_ <;> intro _))
  rw [← hK]
  repeat' (first | refine stp ?_ | (refine stp2 ?_ ?_ <;> intro _))
  refine RD.call _ rfl opds (hx _ _ (hS1.ext ext (by omega))) (Nat.le_refl _) cfc ?_
  rintro r n2 h2 hle2 ⟨a2, rfl, hE2, hO2⟩
  repeat' (first | refine stp ?_ | (refine stp2 ?_ ?_ <;> intro _))
  refine RD.call _ rfl opds (hy _ _ (hS1.ext ext (by omega))) (Nat.le_refl _) cfc ?_
  rintro r n3 h3 hle3 ⟨a3, rfl, hE3, hO3⟩
  have hS2 := hO2.slbE
  have hS3 := hO3.slbE
  have hjn : joinT [(((t.take K).length : Int), a2, packB (t.take K)), (((t.drop K).length : Int), a3, packB (t.drop K))] = t := by
    unfold joinT
    simp only [List.map_cons, List.map_nil, pack_bs, List.flatten_cons, List.flatten_nil, List.append_nil, List.take_append_drop]
  have hj : ∀ n h c, BsRep h n c [(((t.take K).length : Int), a2, packB (t.take K)), (((t.drop K).length : Int), a3, packB (t.drop K))] → RF Try.prog none' 36 #[.slice c 2 2] n h (BitsRes n h t) := fun n h c B => by
    have := join_rf _ c 2 n h B rfl (by omega) (by intro x hx; simp only [List.mem_cons, List.not_mem_nil, or_false] at hx; rcases hx with rfl | rfl <;> dsimp only <;> omega) (by rw [hjn]; omega)
    rwa [hjn] at this
  have hsame : ∀ (c d : Option Addr) n h, SlB h n c (packB t) → SlB h n d (packB t) → Ev Try.prog none' 35 #[.agg #[.int .i64 t.length, .slice c (packB t).length (packB t).length], .agg #[.int .i64 t.length, .slice d (packB t).length (packB t).length]] n h (.bool true) n h := fun c d n h S S' => by
    have := same_ev t.length t.length (packB t) (packB t) c d _ _ n h S S' rfl rfl (by omega) (by omega)
    rwa [decide_eq_true rfl] at this
  repeat' (first | refine stp ?_ | (refine stp2 ?_ ?_ <;> intro _) | refine RS.call1 rfl opds (begun_ev _ _) none'W ?_ | refine RD.call1 _ rfl opds (begun_ev _ _) (Nat.le_refl _) cfc (fun _ => ?_))
  refine RD.call _ rfl opds (hj _ _ _ (bs_twoB rfl rfl (hS2.ext ext (by omega)) (hS3.ext ext (by omega)))) (Nat.le_refl _) cfc ?_
  rintro r n4 h4 hle4 ⟨a4, rfl, hE4, hO4⟩
  have hS4 := hO4.slbE
  repeat' (first | refine stp ?_ | (refine stp2 ?_ ?_ <;> intro _) | refine RS.call1 rfl opds (hsame _ _ _ _ (hS4.ext ext (by omega)) (hS1.ext ext (by omega))) none'W ?_ | refine RD.call1 _ rfl opds (hsame _ _ _ _ (hS4.ext ext (by omega)) (hS1.ext ext (by omega))) (Nat.le_refl _) cfc (fun _ => ?_))
  refine RD.call _ rfl opds (hj _ _ _ (bs_twoB rfl rfl (hS2.ext ext (by omega)) (hS3.ext ext (by omega)))) (Nat.le_refl _) cfc ?_
  rintro r n5 h5 hle5 ⟨a5, rfl, hE5, hO5⟩
  have hS5 := hO5.slbE
  repeat' (first | refine stp ?_ | (refine stp2 ?_ ?_ <;> intro _))
  have hlist := list_rf t.length (packB t) a5 (packB t).length n5 _ (hS5.ext (h' := h5.below n5) ext (by omega)) rfl (by omega)
  rw [truths_pack] at hlist
  refine RD.call _ rfl opds hlist (Nat.le_refl _) cfc ?_
  rintro r n6 h6 hle6 ⟨a6, rfl, hE6, hO6⟩
  repeat' (first | refine stp ?_ | (refine stp2 ?_ ?_ <;> intro _))
  refine RD.appendN rfl opd opd S ext (by omega) (by omega) SlT.known (by omega) cfl ?_
  intro a7 n7 h7 hle7 hO7 hE7
  rw [boolsF_range] at hO7
  repeat' (first | refine stp ?_ | (refine stp2 ?_ ?_ <;> intro _) | refine RS.call1 rfl opds (eqBoolsT_ev t _ _ _ _ _ _ (hO6.slt.ext ext (by omega)) (hO7.slt.ext ext (by omega)) rfl rfl (by omega) (by omega)) none'W ?_ | refine RS.call1 rfl opds (hchk _ _ _ _ (by omega) (hS2.ext ext (by omega))) none'W ?_ | refine RS.call1 rfl opds (hchk _ _ _ _ (by omega) (hS3.ext ext (by omega))) none'W ?_ | refine RD.call1 _ rfl opds (eqBoolsT_ev t _ _ _ _ _ _ (hO6.slt.ext ext (by omega)) (hO7.slt.ext ext (by omega)) rfl rfl (by omega) (by omega)) (Nat.le_refl _) cfc (fun _ => ?_) | refine RD.call1 _ rfl opds (hchk _ _ _ _ (by omega) (hS2.ext ext (by omega))) (Nat.le_refl _) cfc (fun _ => ?_) | refine RD.call1 _ rfl opds (hchk _ _ _ _ (by omega) (hS3.ext ext (by omega))) (Nat.le_refl _) cfc (fun _ => ?_))
  rfl
end Go.Proofs.Ytnaklmjndiodfaa
