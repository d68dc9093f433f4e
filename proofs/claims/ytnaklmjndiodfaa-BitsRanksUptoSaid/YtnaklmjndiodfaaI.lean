/- The laws BitsCuts and BitsMorgan. -/
import Derived.Test.YtnaklmjndiodfaaPm
namespace Go.Proofs.Ytnaklmjndiodfaa
open Go.Abs

theorem pack_bs {t : List Bool} {a : Option Addr} : tru ((t.length : Int), a, packB t) = t := truths_pack t
/-- Bits, written out as a row. -/
theorem bs_new {h : AH} {n s : Nat} {L : List BsE} {cs : List Value} (hc : cs = bsC L) (hs : s = L.length * 2) (hS : ∀ x, x ∈ L → SlB (h.app (.new n ⟨s, 0, true, 2⟩ cs)) (n + 1) x.2.1 x.2.2) :
    BsRep (h.app (.new n ⟨s, 0, true, 2⟩ cs)) (n + 1) (some ⟨n, 0, none⟩) L := by
  subst hc; subst hs
  have o : OwnSl (h.app (.new n ⟨L.length * 2, 0, true, 2⟩ (bsC L))) n (n + 1) (some ⟨n, 0, none⟩) 2 L.length (bsC L) := OwnSl.new (Nat.le_refl _) (bsC_length L) (bsC_known _)
  exact OwnSl.bs o hS
theorem bs_two {h : AH} {n s : Nat} {x y : BsE} {cs : List Value} (hc : cs = bsC [x, y]) (hs : s = 4) (Sx : SlB (h.app (.new n ⟨s, 0, true, 2⟩ cs)) (n + 1) x.2.1 x.2.2) (Sy : SlB (h.app (.new n ⟨s, 0, true, 2⟩ cs)) (n + 1) y.2.1 y.2.2) :
    BsRep (h.app (.new n ⟨s, 0, true, 2⟩ cs)) (n + 1) (some ⟨n, 0, none⟩) [x, y] :=
  bs_new hc hs (by
    intro z hz
    simp only [List.mem_cons, List.not_mem_nil, or_false] at hz
    rcases hz with rfl | rfl
    · exact Sx
    · exact Sy)
set_option maxHeartbeats 4000000 in
theorem law_BitsMorgan (t u : List Bool) (a b : Option Addr) (n : Nat) (h : AH) (S : SlT h n a t) (S2 : SlT h n b u) (ht : t.length ≤ 1048576) (hu : u.length ≤ 1048576) (hn : 0 < n) :
    RF Try.prog none' 8 #[.slice a t.length t.length, .slice b u.length u.length] n h (fun r _ _ => r = .bool true) := by
  have hsa : sb a < n := SlR.ltp S hn (Nat.le_refl _)
  have hsb : sb b < n := SlR.ltp S2 hn (Nat.le_refl _)
  obtain ⟨k, hk⟩ : ∃ k : Nat, k = min t.length u.length := ⟨_, rfl⟩
  have hki : min (t.length : Int) (u.length : Int) = (k : Int) := by omega
  have hSt : SlT h n a (t.take k) := by
    have hl : (t.take k).length = k := by simp; omega
    unfold SlT; rw [hl]
    exact (SlR.take S (by omega)).congr fun j hj => by simp only [boolsF, List.getD, List.getElem?_take]; rw [if_pos (by omega)]
  have hSu : SlT h n b (u.take k) := by
    have hl : (u.take k).length = k := by simp; omega
    unfold SlT; rw [hl]
    exact (SlR.take S2 (by omega)).congr fun j hj => by simp only [boolsF, List.getD, List.getElem?_take]; rw [if_pos (by omega)]
  have hlT : (t.take k).length = k := by simp; omega
  have hlU : (u.take k).length = k := by simp; omega
  generalize t.take k = T at *
  generalize u.take k = U at *
  refine RF.of Try.func8 rfl rfl (Nat.le_of_ble_eq_true rfl) ?_; dsimp only [argEnv]
  repeat' (first | refine stpS ?_ | (refine stp2 ?_ ?_ <;> intro _))
  rw [hki]
  repeat' (first | refine stp ?_ | (refine stp2 ?_ ?_ <;> intro _))
  refine RD.call _ rfl opds (of_rf T a _ _ _ (hSt.ext ext (by omega)) (by omega) (by omega)) (Nat.le_refl _) cfc ?_
  rintro r n1 h1 hle ⟨a1, rfl, hE1, hO1⟩
  repeat' (first | refine stp ?_ | (refine stp2 ?_ ?_ <;> intro _))
  refine RD.call _ rfl opds (of_rf U b _ _ _ (hSu.ext ext (by omega)) (by omega) (by omega)) (Nat.le_refl _) cfc ?_
  rintro r n2 h2 hle2 ⟨a2, rfl, hE2, hO2⟩
  have hS1 := hO1.slbE
  have hS2 := hO2.slbE
  have hpT := packB_length T
  have hpU := packB_length U
  repeat' (first | refine stp ?_ | (refine stp2 ?_ ?_ <;> intro _))
  refine RS.call rfl opds (and_rf [((T.length : Int), a1, packB T), ((U.length : Int), a2, packB U)] _ 2 _ _ (bs_two rfl rfl (hS1.ext ext (by omega)) (hS2.ext ext (by omega))) rfl (by omega) (by intro x hx; simp only [List.mem_cons, List.not_mem_nil, or_false] at hx; rcases hx with rfl | rfl <;> dsimp only <;> omega)) none'W ?_
  rw [show allT and (List.map tru [((T.length : Int), a1, packB T), ((U.length : Int), a2, packB U)]) = some (bothT and T U) by
    simp only [List.map_cons, List.map_nil, pack_bs, allT, mergeT]; rw [if_pos (by omega)]]
  rintro r n3 h3 hle3 ⟨v3, rfl, a3, rfl, hE3, hO3⟩
  have hS3 := hO3.slbE
  simp only [Option.getD_some] at hO3 hS3 ⊢
  have hN1 : ∀ (V : List Bool) (c : Option Addr) n h, V.length ≤ 1048576 → SlB h n c (packB V) → RF Try.prog none' 39 #[.agg #[.int .i64 V.length, .slice c (packB V).length (packB V).length]] n h (BitsRes n h (V.map (!·))) := fun V c n h hV S => by
    have := not_rf V.length (packB V) c _ n h S rfl (by rw [packB_length]; omega)
    rwa [truths_pack] at this
  have hC1 : ∀ (V : List Bool) (c : Option Addr) n h, V.length ≤ 1048576 → SlB h n c (packB V) → Ev Try.prog none' 30 #[.agg #[.int .i64 V.length, .slice c (packB V).length (packB V).length]] n h (.int .i64 (V.count true : Nat)) n h := fun V c n h hV S => by
    have := count_ev V.length (packB V) c _ n h S rfl (by rw [packB_length]; omega)
    rwa [truths_pack, onesB_pack, wheres_len] at this
  have hM1 : ∀ (V W : List Bool) (c d : Option Addr) n h, V = W → V.length ≤ 1048576 → SlB h n c (packB V) → SlB h n d (packB W) → Ev Try.prog none' 35 #[.agg #[.int .i64 V.length, .slice c (packB V).length (packB V).length], .agg #[.int .i64 W.length, .slice d (packB W).length (packB W).length]] n h (.bool true) n h := fun V W c d n h e hV S S' => by
    subst e
    have := same_ev V.length V.length (packB V) (packB V) c d _ _ n h S S' rfl rfl (by rw [packB_length]; omega) (by rw [packB_length]; omega)
    rwa [decide_eq_true rfl] at this
  repeat' (first | refine stp ?_ | (refine stp2 ?_ ?_ <;> intro _))
  refine RD.call _ rfl opds (hN1 T a1 _ _ (by omega) (hS1.ext ext (by omega))) (Nat.le_refl _) cfc ?_
  rintro r n4 h4 hle4 ⟨a4, rfl, hE4, hO4⟩
  repeat' (first | refine stp ?_ | (refine stp2 ?_ ?_ <;> intro _))
  refine RD.call _ rfl opds (hN1 U a2 _ _ (by omega) (hS2.ext ext (by omega))) (Nat.le_refl _) cfc ?_
  rintro r n5 h5 hle5 ⟨a5, rfl, hE5, hO5⟩
  have hS4 := hO4.slbE
  have hS5 := hO5.slbE
  have hp4 := packB_length (T.map (!·))
  have hp5 := packB_length (U.map (!·))
  have hl4 : (T.map (!·)).length = k := by rw [List.length_map]; exact hlT
  have hl5 : (U.map (!·)).length = k := by rw [List.length_map]; exact hlU
  repeat' (first | refine stp ?_ | (refine stp2 ?_ ?_ <;> intro _))
  have hB5 := bs_two (h := h5) (n := n5) (x := (((T.map (!·)).length : Int), a4, packB (T.map (!·)))) (y := (((U.map (!·)).length : Int), a5, packB (U.map (!·)))) rfl rfl (hS4.ext ext (by omega)) (hS5.ext ext (by omega))
  have hor : allT or (List.map tru [(((T.map (!·)).length : Int), a4, packB (T.map (!·))), (((U.map (!·)).length : Int), a5, packB (U.map (!·)))]) = some (bothT or (T.map (!·)) (U.map (!·))) := by
    simp only [List.map_cons, List.map_nil, pack_bs, allT, mergeT]; rw [if_pos (by omega)]
  refine RD.call _ rfl opds (or_rf _ _ 2 _ _ (hB5.ext ext (by omega)) rfl (by omega) (by intro x hx; simp only [List.mem_cons, List.not_mem_nil, or_false] at hx; rcases hx with rfl | rfl <;> dsimp only <;> omega)) (Nat.le_refl _) cfc ?_
  rw [hor]
  rintro r n6 h6 hle6 ⟨v6, rfl, a6, rfl, hE6, hO6⟩
  have hS6 := hO6.slbE
  simp only [Option.getD_some] at hO6 hS6 ⊢
  have hbl : (bothT and T U).length = k := by rw [bothT, List.length_zipWith]; omega
  have hbl6 : (bothT or (T.map (!·)) (U.map (!·))).length = k := by rw [bothT, List.length_zipWith]; omega
  repeat' (first | refine stp ?_ | (refine stp2 ?_ ?_ <;> intro _) | refine RS.call1 rfl opds (begun_ev _ _) none'W ?_ | refine RD.call1 _ rfl opds (begun_ev _ _) (Nat.le_refl _) cfc (fun _ => ?_))
  refine RD.call _ rfl opds (hN1 _ a3 _ _ (by omega) (hS3.ext ext (by omega))) (Nat.le_refl _) cfc ?_
  rintro r n7 h7 hle7 ⟨a7, rfl, hE7, hO7⟩
  have hS7 := hO7.slbE
  repeat' (first | refine stp ?_ | (refine stp2 ?_ ?_ <;> intro _) | refine RS.call1 rfl opds (hM1 _ _ _ _ _ _ (not_both T U) (by rw [List.length_map]; omega) (hS7.ext ext (by omega)) (hS6.ext ext (by omega))) none'W ?_ | refine RD.call1 _ rfl opds (hM1 _ _ _ _ _ _ (not_both T U) (by rw [List.length_map]; omega) (hS7.ext ext (by omega)) (hS6.ext ext (by omega))) (Nat.le_refl _) cfc (fun _ => ?_))
  refine RD.call _ rfl opds (hN1 _ a1 _ _ (by omega) (hS1.ext ext (by omega))) (Nat.le_refl _) cfc ?_
  rintro r n8 h8 hle8 ⟨a8, rfl, hE8, hO8⟩
  have hS8 := hO8.slbE
  repeat' (first | refine stp ?_ | (refine stp2 ?_ ?_ <;> intro _))
  refine RD.call _ rfl opds (hN1 _ a8 _ _ (by omega) (hS8.ext ext (by omega))) (Nat.le_refl _) cfc ?_
  rintro r n9 h9 hle9 ⟨a9, rfl, hE9, hO9⟩
  have hS9 := hO9.slbE
  repeat' (first | refine stp ?_ | (refine stp2 ?_ ?_ <;> intro _) | refine RS.call1 rfl opds (hM1 _ _ _ _ _ _ (not_not T) (by rw [not_not]; omega) (hS9.ext ext (by omega)) (hS1.ext ext (by omega))) none'W ?_ | refine RS.call1 rfl opds (hC1 T a1 _ _ (by omega) (hS1.ext ext (by omega))) none'W ?_ | refine RD.call1 _ rfl opds (hM1 _ _ _ _ _ _ (not_not T) (by rw [not_not]; omega) (hS9.ext ext (by omega)) (hS1.ext ext (by omega))) (Nat.le_refl _) cfc (fun _ => ?_) | refine RD.call1 _ rfl opds (hC1 T a1 _ _ (by omega) (hS1.ext ext (by omega))) (Nat.le_refl _) cfc (fun _ => ?_))
  refine RD.call _ rfl opds (hN1 _ a1 _ _ (by omega) (hS1.ext ext (by omega))) (Nat.le_refl _) cfc ?_
  rintro r n10 h10 hle10 ⟨a10, rfl, hE10, hO10⟩
  have hS10 := hO10.slbE
  have hcn := count_not T
  repeat' (first | refine stp ?_ | (refine stp2 ?_ ?_ <;> intro _) | refine RS.call1 rfl opds (hC1 _ a10 _ _ (by rw [List.length_map]; omega) (hS10.ext ext (by omega))) none'W ?_ | refine RD.call1 _ rfl opds (hC1 _ a10 _ _ (by rw [List.length_map]; omega) (hS10.ext ext (by omega))) (Nat.le_refl _) cfc (fun _ => ?_))
  rfl
end Go.Proofs.Ytnaklmjndiodfaa
