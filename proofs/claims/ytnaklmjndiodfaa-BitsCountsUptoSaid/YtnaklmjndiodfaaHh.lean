/- Contracts of bits' functions over rows of bits: the document's and, or. -/
import Derived.Test.YtnaklmjndiodfaaG
namespace Go.Proofs.Ytnaklmjndiodfaa
open Go.Abs

theorem both_upd (t u : List Bool) (h : u.length = t.length) : t.mapIdx (fun j b => b && u.getD j false) = bothT and t u := by
  apply List.ext_getElem?
  intro j
  simp only [bothT, List.getElem?_mapIdx, List.getElem?_zipWith, List.getD]
  by_cases hj : j < t.length
  · simp [hj, show j < u.length by omega]
  · simp [hj]
theorem boolsV_getD (t : List Bool) (j : Nat) (hj : j < t.length) : (boolsV t).getD j (.tuple #[]) = .bool (t.getD j false) := by simp [boolsV, List.getD, hj]
set_option maxHeartbeats 4000000 in
theorem refAnd_rf (L : List BsE) (a : Option Addr) (m n : Nat) (h : AH) (B : BsRep h n a L) (e : m = L.length) (hm : m ≤ 1048576) (hL : ∀ x ∈ L, x.2.2.length ≤ 1048576) :
    RF Try.prog none' 44 #[.slice a m m] n h (BitsE n h (allT and (L.map tru))) := by
  subst e
  have hA := B.shp.sla
  have hsh := B.shp
  refine RF.of Try.func44 rfl rfl (Nat.le_of_ble_eq_true rfl) ?_; dsimp only [argEnv]
  cases L with
  | nil =>
    repeat' (first | refine stpS ?_ | (refine stp2 ?_ ?_ <;> intro _))
    exact ⟨_, rfl, BitsRes.none (by omega) ext⟩
  | cons x R =>
    have hlt : 0 < (x :: R).length := by simp
    have hsa := hsh.lt hlt
    obtain ⟨c0, c1, S0⟩ := B.at_ 0 x rfl
    have hx := hL x (by simp)
    have hp := plc_le x.1 x.2.2.length
    have htl := truths_length x.1 x.2.2
    repeat' (first | refine stpS ?_ | (refine stp2 ?_ ?_ <;> intro _))
    refine RS.call rfl opds (refList_rf x.1 x.2.2 _ _ _ _ (S0.ext ext (by omega)) rfl (by omega)) none'W ?_
    rintro r n1 h1 hle ⟨a1, rfl, hE1, hO1⟩
    repeat' (first | refine stpS ?_ | (refine stp2 ?_ ?_ <;> intro _))
    refine RC.loop ?_
    generalize hM : (truths x.1 x.2.2).length = M at *
    have hR : (x :: R).length = R.length + 1 := rfl
    refine RL.inv (α := Nat × List Bool) (fun s => [(5, .int .i64 ((s.1 + 1 : Nat) : Int)), (4, .slice a1 M M), (2, .pointer (some ⟨n, 0, none⟩)), (0, .slice a (x :: R).length (x :: R).length)])
      (fun s n2 h2 => s.1 ≤ R.length ∧ s.2.length = M ∧ mergeT and s.2 ((R.drop s.1).map tru) = mergeT and (tru x) (R.map tru) ∧ n1 ≤ n2 ∧ Ext n h h2 ∧ h2.info n = some ⟨2, 0, true, 0⟩ ∧
        OwnSl h2 (n + 1) n1 a1 1 M (boolsV s.2))
      (fun s => R.length - s.1) (0, truths x.1 x.2.2) envs ⟨by omega, hM, rfl, by omega, ext, info, hO1⟩ ?_
    rintro ⟨i, w⟩ n2 h2 ⟨hi, hw, hmt, hn2, hE2, G0, hO⟩
    dsimp only at hi hw hmt hn2 hE2 G0 hO ⊢
    by_cases hlt2 : i < R.length
    · obtain ⟨y, hyi⟩ : ∃ y, R[i]? = some y := ⟨R[i], by simp [hlt2]⟩
      obtain ⟨d0, d1, S1⟩ := B.at_ (i + 1) y (by simpa using hyi)
      have hy := hL y (List.mem_cons_of_mem _ (List.mem_of_getElem? hyi))
      have hp2 := plc_le y.1 y.2.2.length
      obtain ⟨u, hu⟩ : ∃ u, truths y.1 y.2.2 = u := ⟨_, rfl⟩
      have htl2 : u.length = (plc y.1 y.2.2.length).toNat := by rw [← hu, truths_length]
      rw [drop_cons hyi, List.map_cons] at hmt
      simp only [mergeT, tru, hu] at hmt
      have hec : ((((i + 1 : Nat) : Int)).toNat) = i + 1 := rfl
      repeat' (first | refine stpS ?_ | (refine stp2 ?_ ?_ <;> intro _) | refine RS.call1 rfl opds (refPlaces_ev _ _ _ _ _ (by omega)) none'W ?_)
      · rename_i hne
        rw [if_neg (fun q => hne (by omega))] at hmt
        have hat : allT and ((x :: R).map tru) = none := hmt.symm
        rw [hat]
        exact ⟨_, rfl, BitsRes.none (by omega) ext⟩
      · rename_i hne
        have hlen : u.length = w.length := by omega
        rw [if_pos hlen] at hmt
        refine RC.loop ?_
        refine RL.inv (α := Nat) (fun j => [(6, .int .i64 (j : Nat)), (5, .int .i64 ((i + 1 : Nat) : Int)), (4, .slice a1 M M), (2, .pointer (some ⟨n, 0, none⟩)), (0, .slice a (x :: R).length (x :: R).length)])
          (fun j n4 h4 => j ≤ M ∧ n4 = n2 ∧ Ext n h h4 ∧ h4.info n = some ⟨2, 0, true, 0⟩ ∧ OwnSl h4 (n + 1) n1 a1 1 M (boolsV (updI (fun j b => b && u.getD j false) w j)))
          (fun j => M - j) 0 envs ⟨by omega, rfl, hE2, G0, by rw [updI_zero]; exact hO⟩ ?_
        rintro j n4 h4 ⟨hj, rfl, hE4, I4, P0⟩
        have hul := updI_length (fun j b => b && u.getD j false) w j
        by_cases hlt3 : j < M
        · obtain ⟨ho, hlo, hhi, hI, hA2, hC⟩ := P0.facts (by omega)
          rw [Nat.mul_one] at hI
          have e1 : (updI (fun j b => b && u.getD j false) w j).getD j false = w.getD j false := updI_getD _ _ _ _
          have hcell := hC j (by omega)
          rw [show (boolsV (updI (fun j b => b && u.getD j false) w j)).getD j (.tuple #[]) = .bool ((updI (fun j b => b && u.getD j false) w j).getD j false) from boolsV_getD _ _ (by omega), e1] at hcell
          have hcell : h4.cell (sb a1) (so a1 + (j : Int).toNat) = .bool (w.getD j false) := hcell
          have h5 := P0.set1 (i := j) (v := .bool (w.getD j false && u.getD j false)) (by omega) rfl
          rw [boolsV_set] at h5
          have hstep : updI (fun j b => b && u.getD j false) w (j + 1) = (updI (fun j b => b && u.getD j false) w j).set j (w.getD j false && u.getD j false) := updI_succ _ _ _ _ (by omega)
          rw [← hstep] at h5
          have hgb : getB y.1 y.2.2 (j : Int) = u.getD j false := by rw [getB_truths, hu]
          have hget : ∀ n h, SlB h n y.2.1 y.2.2 → Ev Try.prog none' 16 #[.agg #[.int .i64 y.1, .slice y.2.1 y.2.2.length y.2.2.length], .int .i64 (j : Nat)] n h (.bool (u.getD j false)) n h := fun n h S => hgb ▸ refGet_ev y.1 y.2.2 _ _ n h _ S rfl (by omega)
          cases hb : w.getD j false
          · rw [hb] at hcell h5
            repeat' (first | refine stpS ?_ | (refine stp2 ?_ ?_ <;> intro _))
            exact nextC.normal ⟨j + 1, by omega, envs, by omega, rfl, ext, info, h5⟩
          · rw [hb] at hcell h5
            repeat' (first | refine stpS ?_ | (refine stp2 ?_ ?_ <;> intro _) | refine RS.call1 rfl opds (hget _ _ (S1.ext ext (by omega))) none'W ?_)
            exact nextC.normal ⟨j + 1, by omega, envs, by omega, rfl, ext, info, h5⟩
        · repeat' (first | refine stpS ?_ | (refine stp2 ?_ ?_ <;> intro _))
          rw [updI_all _ _ (by omega), both_upd _ _ hlen] at P0
          have hbl : (bothT and w u).length = M := by rw [bothT, List.length_zipWith]; omega
          exact nextC.normal ⟨(i + 1, bothT and w u), by dsimp only; omega, envs, by dsimp only; omega, hbl, hmt, by omega, hE4, I4, P0⟩
    · have : i = R.length := by omega
      subst this
      rw [List.drop_length, List.map_nil] at hmt
      have hat : allT and ((x :: R).map tru) = some w := hmt.symm
      rw [hat]
      repeat' (first | refine stpS ?_ | (refine stp2 ?_ ?_ <;> intro _))
      refine RS.call rfl opds (refOf_rf w a1 M _ _ (hO.slt.ext (Ext.refl _ _) (by omega)) hw.symm (by omega)) none'W ?_
      rintro r n3 h3 hle3 ⟨a3, rfl, hE3, hO3⟩
      repeat' (first | refine stpS ?_ | (refine stp2 ?_ ?_ <;> intro _))
      refine ⟨_, rfl, a3, rfl, ext, ?_⟩
      exact (hO3.sets (by omega)).mono (by omega)
end Go.Proofs.Ytnaklmjndiodfaa
