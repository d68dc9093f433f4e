/- Contracts of batches: begun. -/
import Derived.Test.YtaagbfpbbhaclaaK7
set_option linter.unusedSimpArgs false
set_option linter.unusedVariables false
namespace Go.Proofs.Ytaagbfpbbhaclaa
open Go.Abs

def bv (k : Nat) : Val := ⟨⟨2, 0⟩, false, 7 + k, ByteArray.empty⟩
def bRows (i : Nat) : List (List Val) := (List.range i).map fun k => [bv k]
theorem bRows_succ (i : Nat) : bRows (i + 1) = bRows i ++ [[bv i]] := by simp [bRows, List.range_succ]
theorem colMay_b : colMay ⟨2, 0⟩ [bv 0, bv 1, bv 2] := by
  refine ⟨by decide, fun v hv => ?_⟩
  simp only [List.mem_cons, List.not_mem_nil, or_false] at hv
  rcases hv with rfl | rfl | rfl <;> exact ⟨rfl, by decide⟩
theorem may_b (sel : List Int) (hs : selP 3 sel) : Bat.may ⟨[⟨2, 0⟩], 3, [[bv 0, bv 1, bv 2]], sel⟩ := by
  refine ⟨Nat.le_of_ble_eq_true rfl, rfl, Int.natCast_nonneg 3, Int.ofNat_le.2 (Nat.le_of_ble_eq_true rfl : 3 ≤ 2048), fun i t l h1 h2 => ?_, hs⟩
  rcases i with _ | i
  · cases h1; cases h2; exact ⟨rfl, colMay_b⟩
  · simp at h1
theorem ofB_b : ofB [⟨2, 0⟩] (bRows 3) = ⟨[⟨2, 0⟩], 3, [[bv 0, bv 1, bv 2]], [0, 1, 2]⟩ := rfl
theorem selP_3 : selP 3 [0, 1, 2] := fun i k hk => by
  rcases i with _ | _ | _ | i
  · cases hk; exact ⟨by decide, by decide, fun j p hj => by omega⟩
  · cases hk; refine ⟨by decide, by decide, fun j p hj hp => ?_⟩
    obtain rfl : j = 0 := by omega
    cases hp; decide
  · cases hk; refine ⟨by decide, by decide, fun j p hj hp => ?_⟩
    obtain rfl : j = 1 := by omega
    cases hp; decide
  · simp at hk
theorem selP_2 : selP 3 [0, 2] := fun i k hk => by
  rcases i with _ | _ | i
  · cases hk; exact ⟨by decide, by decide, fun j p hj => by omega⟩
  · cases hk; refine ⟨by decide, by decide, fun j p hj hp => ?_⟩
    obtain rfl : j = 0 := by omega
    cases hp; decide
  · simp at hk
theorem ofMay_b : ofMay [⟨2, 0⟩] (bRows 3) := ⟨fun r hr => by simp [bRows] at hr; obtain ⟨k, _, rfl⟩ := hr; rfl, may_b _ selP_3⟩
theorem keepP_b : keepP [0, 1, 2] (Bt.truths 3 [5]) = [0, 2] := by decide
set_option maxHeartbeats 4000000 in
theorem begun_ev (n : Nat) (h : AH) : Ev Try.prog none' 12 #[] n h (.bool true) n h := by
  refine RF.pure rfl fun n0 hn => ?_
  refine RF.of Try.func12 rfl rfl (Nat.le_of_ble_eq_true rfl) ?_; dsimp only [argEnv]
  repeat' (first | refine stpS ?_ | (refine stp2 ?_ ?_ <;> intro _))
  obtain ⟨g, hg⟩ : ∃ g, g = h.app (.new n0 ⟨2, 0, true, 2⟩ [.int .i64 2, .int .i64 0]) := ⟨_, rfl⟩
  have hT : SlTy g (n0 + 1) (some ⟨n0, 0, none⟩) [⟨2, 0⟩] := by rw [hg]; exact (OwnSl.new (h := h) (m := 1) (z := 2) (Nat.le_refl n0) rfl rfl).slr
  refine RC.heap hg ?_
  clear hg
  refine RC.loop ?_
  refine RL.inv (α := Nat × Option Addr × List RowE) (fun y => [(12, .int .i64 (y.1 : Nat)), (2, .slice y.2.1 y.1 y.1), (1, .slice (some ⟨n0, 0, none⟩) 1 1)])
    (fun y n1 h1 => y.1 ≤ 3 ∧ n0 + 1 ≤ n1 ∧ Ext (n0 + 1) g h1 ∧ OwnRR h1 (n0 + 1) (n0 + 1) n1 y.2.1 5 (y.2.2.map rowO) ∧ y.2.2.map Prod.snd = bRows y.1) (fun y => 3 - y.1) (0, none, []) envs ⟨Nat.zero_le _, Nat.le_refl _, Ext.refl _ _, OwnRR.nil (Nat.le_refl _), rfl⟩ ?_
  rintro ⟨i, a, L⟩ n1 h1 ⟨hi, hn1, E1, hO, hL⟩
  dsimp only at hi hO hL ⊢
  have hLl : L.length = i := by
    have := congrArg List.length hL
    simpa [bRows] using this
  have hOo := hO.out
  rw [rowO_v, List.length_map, hLl] at hOo
  by_cases hlt : i < 3
  · obtain ⟨hA, hsn, d0, d1⟩ := SlTy.at_ (SlR.ext hT E1 hn1) (i := 0) (v := ⟨2, 0⟩) rfl
    dsimp only at d0 d1
    repeat' (first | refine stpS ?_ | (refine stp2 ?_ ?_ <;> intro _))
    obtain ⟨g2, hg2⟩ : ∃ g2, g2 = (h1.app (.new n1 ⟨5, 0, true, 5⟩ (valC (bv i)))).app (.new (n1 + 1) ⟨1, 0, true, 1⟩ [.slice (some ⟨n1, 0, none⟩) 1 1]) := ⟨_, rfl⟩
    have hin : OwnSl g2 (n0 + 1) (n1 + 1 + 1) (some ⟨n1, 0, none⟩) 5 1 (valsC [bv i]) := by
      have h2 := OwnSl.new (h := h1) (n0 := n0 + 1) (n := n1) (m := 1) (z := 5) (cs := valC (bv i)) hn1 rfl rfl
      rw [hg2]
      exact h2.ext ext (by omega)
    have hnew : OwnSl g2 (n1 + 1) (n1 + 1 + 1) (some ⟨n1 + 1, 0, none⟩) 1 1 [.slice (some ⟨n1, 0, none⟩) 1 1] := by
      rw [hg2]; exact OwnSl.new (m := 1) (z := 1) (Nat.le_refl _) rfl rfl
    have E2 : Ext n1 h1 g2 := by rw [hg2]; exact ext
    refine RS.heap hg2 ?_
    clear hg2
    have hO2 := hO.ext (n1 := n1 + 1 + 1) E2 (by omega)
    refine RS.append rfl opd opd (hOo.ext E2 (by omega)) hnew.src full_slice (fun b hb => .inr (by omega)) (by omega) ?_
    intro a' n3 h3 hle3 hO3 hX3 hwh
    repeat' (first | refine stpS ?_ | (refine stp2 ?_ ?_ <;> intro _))
    have hal : a = none ∨ sb a < n1 := hO.out.at'.imp id fun w => w.2
    have hpu := hO2.push (e := rowO (some ⟨n1, 0, none⟩, [bv i])) hin (Apart.of hal (.inr (Nat.le_refl _))) (fun j f hf => by
      rw [List.getElem?_map] at hf
      obtain ⟨e, he, rfl⟩ := Option.map_eq_some_iff.1 hf
      have := (hO.inn j (rowO e) (by rw [List.getElem?_map, he]; rfl)).at'
      exact (Apart.of (this.imp id fun w => w.2) (.inr (Nat.le_refl _))).symm) hX3 hle3 (by rw [rowO_v, List.length_map, hLl]; exact hO3) hwh
    refine nextC.normal ⟨(i + 1, a', L ++ [(some ⟨n1, 0, none⟩, [bv i])]), by dsimp only; omega, envs, by dsimp only; omega, by omega, (E1.trans hn1 E2).trans (Nat.le_refl _) (hX3.ext (hOo.ext E2 (by omega))), ?_, ?_⟩
    · dsimp only; rw [List.map_append]; exact hpu
    · dsimp only; rw [List.map_append, hL, bRows_succ]; rfl
  · obtain rfl : i = 3 := by omega
    have hR := OwnRR.rowsR hO
    have hr : ∀ e ∈ L, e.2.length ≤ 1099511627776 := fun e he => by
      have : e.2 ∈ bRows 3 := by rw [← hL]; exact List.mem_map_of_mem he
      simp [bRows] at this
      obtain ⟨k, _, h2⟩ := this
      rw [← h2]; exact Nat.le_of_ble_eq_true rfl
    have hof := of_rf (some ⟨n0, 0, none⟩) a [⟨2, 0⟩] L n1 h1 (SlR.ext hT E1 hn1) hR (by decide) (by rw [hLl]; decide) hr
    rw [hLl, hL] at hof
    repeat' (first | refine stpS ?_ | (refine stp2 ?_ ?_ <;> intro _))
    refine RS.call rfl opds hof none'W ?_
    rintro r n2 h2 hle2 ⟨E2, ⟨v, rfl, -, ta, ca, cs, sa, rfl, hcs, hB⟩ | ⟨-, q⟩⟩
    rotate_left
    · exact absurd ofMay_b q
    rw [ofB_b] at hcs hB ⊢
    dsimp only at hcs hB
    have hcl : cs.length = 1 := by
      have := congrArg List.length hcs
      simpa using this
    dsimp only [batV, List.length_cons, List.length_nil]
    rw [hcl]
    repeat' (first | refine stpS ?_ | (refine stp2 ?_ ?_ <;> intro _))
    have E2' : Ext (n0 + 1) g h2 := E1.trans hn1 E2
    obtain ⟨g3, hg3⟩ : ∃ g3, g3 = ((h2.app (.new n2 ⟨4, 0, true, 0⟩ [.slice none 0 0, .int .i64 0, .slice none 0 0, .slice none 0 0])).app (.sets n2 0 [.slice ta (0 + 1) (0 + 1), .int .i64 3, .slice ca 1 1, .slice sa (0 + 1 + 1 + 1) (0 + 1 + 1 + 1)])).app (.new (n2 + 1) ⟨1, 0, true, 1⟩ [.int .u8 5]) := ⟨_, rfl⟩
    have E3 : Ext n2 h2 g3 := by rw [hg3]; exact ext
    have hb5 : SlB g3 (n2 + 1 + 1) (some ⟨n2 + 1, 0, none⟩) [5] := by
      rw [hg3]
      exact (OwnSl.new (m := 1) (z := 1) (Nat.le_refl (n2 + 1)) rfl rfl : OwnSl _ (n2 + 1) _ _ 1 1 (bytesV [5])).slbE
    refine RS.heap hg3 ?_
    clear hg3
    have hB3 := hB.ext E3 (by omega : n2 ≤ n2 + 1 + 1)
    have hke := keep_rf ta ca sa (some ⟨n2 + 1, 0, none⟩) [⟨2, 0⟩] 3 cs [0, 1, 2] 3 [5] (n2 + 1 + 1) g3 hB3.types.slr (OwnRR.rowsR hB3.cols) (OwnSl.slN hB3.sel) hb5 (fun e he => by
      have : e.2 ∈ [[bv 0, bv 1, bv 2]] := by rw [← hcs]; exact List.mem_map_of_mem he
      simp only [List.mem_cons, List.not_mem_nil, or_false] at this
      rw [this]; decide) (by decide) (by decide) (by rw [hcl]; decide) (by decide)
    rw [hcs, keepP_b] at hke
    dsimp only [batV, List.length_cons, List.length_nil] at hke
    rw [hcl] at hke
    refine RS.call rfl opds hke none'W ?_
    rintro r n4 h4 hle4 ⟨E4, ⟨v, rfl, -, -, tb, cb, ds, sb', rfl, hds, hC⟩ | ⟨-, q⟩ | ⟨-, -, q⟩⟩
    rotate_left
    · exact absurd (may_b _ selP_3) q
    · exact absurd (by decide) q
    dsimp only at hds hC
    have hdl : ds.length = 1 := by
      have := congrArg List.length hds
      simpa using this
    dsimp only [batV, List.length_cons, List.length_nil]
    rw [hdl]
    repeat' (first | refine stpS ?_ | (refine stp2 ?_ ?_ <;> intro _))
    have hC5 := hC.ext (h1 := (h4.app (.new n4 ⟨4, 0, true, 0⟩ [.slice none 0 0, .int .i64 0, .slice none 0 0, .slice none 0 0])).app (.sets n4 0 [.slice tb (0 + 1) (0 + 1), .int .i64 3, .slice cb 1 1, .slice sb' (0 + 1 + 1) (0 + 1 + 1)])) ext (Nat.le_succ n4)
    have hrw := rows_rf tb cb sb' [⟨2, 0⟩] 3 ds [0, 2] (n4 + 1) _ hC5.types.slr (OwnRR.rowsR hC5.cols) (OwnSl.slN hC5.sel) (fun e he => by
      have : e.2 ∈ [[bv 0, bv 1, bv 2]] := by rw [← hds]; exact List.mem_map_of_mem he
      simp only [List.mem_cons, List.not_mem_nil, or_false] at this
      rw [this]; decide) (by decide)
    dsimp only [List.length_cons, List.length_nil] at hrw
    rw [hdl] at hrw
    refine RS.call rfl opds hrw none'W ?_
    rintro r n5 h5 hle5 ⟨E5, ⟨d', M, rfl, -, hM, hMs⟩ | ⟨-, q⟩⟩
    rotate_left
    · exact absurd (may_iff.2 (by rw [hds]; exact may_b _ selP_2)) q
    have hrp : rowsP ds [0, 2] = [[bv 0], [bv 2]] := by
      have : rowsP ds [0, 2] = [0, 2].map fun k : Int => (ds.map Prod.snd).map fun l => l.getD k.toNat dV := by simp [rowsP, rowP]
      rw [this, hds]; rfl
    rw [hrp] at hMs
    have hMl : M.length = 2 := by
      have := congrArg List.length hMs
      simpa using this
    obtain ⟨e, hMe⟩ : ∃ e, M[1]? = some e := ⟨_, List.getElem?_eq_getElem (by omega)⟩
    have he2 : e.2 = [bv 2] := by
      have : (M.map Prod.snd)[1]? = some e.2 := by rw [List.getElem?_map, hMe]; rfl
      rw [hMs] at this
      exact (Option.some.inj this).symm
    obtain ⟨hA, hsn, f0, V⟩ := hM.at_ hMe
    obtain ⟨ea, el⟩ := e
    dsimp only at he2 f0 V
    subst he2
    obtain ⟨hA2, hsn2, g0, g1, g2, g3, g4⟩ := V.at_ (i := 0) (v := bv 2) rfl
    rw [hMl] at hA ⊢
    dsimp only [List.length_cons, List.length_nil] at hA2 f0
    dsimp only [bv] at g3
    repeat' (first | refine stpS ?_ | (refine stp2 ?_ ?_ <;> intro _))
    rfl
end Go.Proofs.Ytaagbfpbbhaclaa
