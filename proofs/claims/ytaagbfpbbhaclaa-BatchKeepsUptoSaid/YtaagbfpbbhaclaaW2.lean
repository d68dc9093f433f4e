/- Contracts of batches: the document's one more column. -/
import Derived.Test.YtaagbfpbbhaclaaW
import Derived.Test.YtaagbfpbbhaclaaK3
set_option linter.unusedSimpArgs false
set_option linter.unusedVariables false
namespace Go.Proofs.Ytaagbfpbbhaclaa
open Go.Abs

set_option maxHeartbeats 4000000 in
theorem refWith_rf (ta ca sa la : Option Addr) (ts : List Ty) (N : Int) (cs : List RowE) (sel : List Int) (t : Ty) (l : List Val) (n : Nat) (h : AH) (BT : SlTy h n ta ts) (BC : RowsR h n ca cs) (BS : SlN h n sa sel) (BL : SlV h n la l) (hr : ∀ e ∈ cs, e.2.length ≤ 1099511627776) (hs : sel.length ≤ 1099511627776) (htl : ts.length ≤ 1099511627776) (hcl : cs.length ≤ 1099511627776) (hll : l.length ≤ 1099511627776) :
    RF Try.prog none' 30 #[batV ta ts N ca cs sa sel, .agg #[.int .i64 t.kind, .int .i64 t.scale], .slice la l.length l.length] n h (fun r n' h' => Ext n h h' ∧
      ((∃ c d ds, r = .tuple #[batV c (ts ++ [t]) N d ds sa sel, .int .i64 0] ∧ Bat.may ⟨ts, N, cs.map Prod.snd, sel⟩ ∧ l.length = sel.length ∧ (withB ⟨ts, N, cs.map Prod.snd, sel⟩ t l).may ∧ withB ⟨ts, N, cs.map Prod.snd, sel⟩ t l = ⟨ts ++ [t], N, ds.map Prod.snd, sel⟩ ∧ SlTy h' n' c (ts ++ [t]) ∧ RowsR h' n' d ds) ∨
        (r = .tuple #[zeroV, .int .i64 130] ∧ ¬ (Bat.may ⟨ts, N, cs.map Prod.snd, sel⟩ ∧ (l.length = sel.length → (withB ⟨ts, N, cs.map Prod.snd, sel⟩ t l).may))) ∨
        (r = .tuple #[zeroV, .int .i64 1] ∧ Bat.may ⟨ts, N, cs.map Prod.snd, sel⟩ ∧ l.length ≠ sel.length))) := by
  obtain ⟨tk, tsc⟩ := t
  refine RF.of Try.func30 rfl rfl (Nat.le_of_ble_eq_true rfl) ?_; dsimp only [argEnv]
  repeat' (first | refine stpS ?_ | (refine stp2 ?_ ?_ <;> intro _))
  obtain ⟨g, hg⟩ : ∃ g, g = ((h.app (.new n ⟨4, 0, true, 0⟩ [.slice ta ts.length ts.length, .int .i64 N, .slice ca cs.length cs.length, .slice sa sel.length sel.length])).app (.new (n + 1) ⟨2, 0, true, 0⟩ [.int .i64 tk, .int .i64 tsc])).app (.new (n + 1 + 1) ⟨4, 0, true, 0⟩ [.slice none 0 0, .int .i64 0, .slice none 0 0, .slice none 0 0]) := ⟨_, rfl⟩
  refine RS.heap hg ?_
  have E0 : Ext n h g := by rw [hg]; exact ext
  have k0 : g.cell n 0 = .slice ta ts.length ts.length := by rw [hg]; exact cell
  have k1 : g.cell n 1 = .int .i64 N := by rw [hg]; exact cell
  have k2 : g.cell n 2 = .slice ca cs.length cs.length := by rw [hg]; exact cell
  have k3 : g.cell n 3 = .slice sa sel.length sel.length := by rw [hg]; exact cell
  have t0 : g.cell (n + 1) 0 = .int .i64 tk := by rw [hg]; exact cell
  have t1 : g.cell (n + 1) 1 = .int .i64 tsc := by rw [hg]; exact cell
  have kj : g.info (n + 1 + 1) = some ⟨4, 0, true, 0⟩ := by rw [hg]; exact info
  clear hg
  refine RS.call rfl opds (refCheck13_rf ta ca sa ts N cs sel _ _ (SlR.ext BT E0 (by omega)) (BC.ext E0 (by omega)) (SlR.ext BS E0 (by omega)) hr hs htl) none'W ?_
  rintro r n1 h1 hle1 ⟨E1, ⟨rfl, hmay⟩ | ⟨rfl, hmay⟩⟩
  rotate_left
  · have kj := (E1.info _ (by omega)).trans kj
    repeat' (first | refine stpS ?_ | (refine stp2 ?_ ?_ <;> intro _))
    exact ⟨(E0.trans (by omega) E1).appSets (by omega), .inr (.inl ⟨rfl, fun q => hmay (may_iff.2 q.1)⟩)⟩
  have hmay := may_iff.1 hmay
  have E1' : Ext n h h1 := E0.trans (by omega) E1
  have k0 := c_ext E1 (by omega) k0
  have k1 := c_ext E1 (by omega) k1
  have k2 := c_ext E1 (by omega) k2
  have k3 := c_ext E1 (by omega) k3
  have t0 := c_ext E1 (by omega) t0
  have t1 := c_ext E1 (by omega) t1
  have kj := (E1.info _ (by omega)).trans kj
  by_cases hlen : l.length = sel.length
  rotate_left
  · repeat' (first | refine stpS ?_ | (refine stp2 ?_ ?_ <;> intro _))
    exact ⟨E1'.appSets (by omega), .inr (.inr ⟨rfl, hmay, hlen⟩)⟩
  have hN0 : 0 ≤ N := hmay.2.2.1
  have hN1 : N ≤ 2048 := hmay.2.2.2.1
  have hsel : selP N sel := hmay.2.2.2.2.2
  obtain ⟨M, rfl⟩ : ∃ M : Nat, N = (M : Int) := ⟨N.toNat, by omega⟩
  repeat' (first | refine stpS ?_ | (refine stp2 ?_ ?_ <;> intro _))
  simp only [Int.toNat_natCast]
  obtain ⟨g2, hg⟩ : ∃ g2, g2 = h1.app (.new n1 ⟨M * 5, 0, true, 5⟩ (zrow [.int .i64 0, .int .i64 0, .bool false, .int .i64 0, .string ByteArray.empty] M)) := ⟨_, rfl⟩
  refine RC.heap hg ?_
  have E2 : Ext n1 h1 g2 := by rw [hg]; exact ext
  have hW : OwnSl g2 n1 (n1 + 1) (some ⟨n1, 0, none⟩) 5 M (valsC (List.replicate 0 (noV ⟨tk, tsc⟩)) ++ zrow [.int .i64 0, .int .i64 0, .bool false, .int .i64 0, .string ByteArray.empty] M) := by
    rw [hg]; exact OwnSl.new (m := M) (z := 5) (Nat.le_refl n1) (zrow_length _ _) (known_zrow rfl)
  clear hg
  have E2' : Ext n h g2 := E1'.trans (by omega) E2
  have k0 := c_ext E2 (by omega) k0
  have k1 := c_ext E2 (by omega) k1
  have k2 := c_ext E2 (by omega) k2
  have k3 := c_ext E2 (by omega) k3
  have t0 := c_ext E2 (by omega) t0
  have t1 := c_ext E2 (by omega) t1
  have kj := (E2.info _ (by omega)).trans kj
  refine RC.loop ?_
  refine RL.inv (α := Nat × List Value) (fun y => [(10, .int .i64 (y.1 : Nat)), (9, .slice (some ⟨n1, 0, none⟩) M M), (2, .slice la l.length l.length), (3, .pointer (some ⟨n, 0, none⟩)), (4, .pointer (some ⟨n + 1, 0, none⟩)), (6, .pointer (some ⟨n + 1 + 1, 0, none⟩))])
    (fun y n3 h3 => y.1 ≤ M ∧ n1 + 1 ≤ n3 ∧ Ext n1 g2 h3 ∧ OwnSl h3 n1 n3 (some ⟨n1, 0, none⟩) 5 M (valsC (List.replicate y.1 (noV ⟨tk, tsc⟩)) ++ y.2)) (fun y => M - y.1) (0, zrow [.int .i64 0, .int .i64 0, .bool false, .int .i64 0, .string ByteArray.empty] M) envs ⟨Nat.zero_le _, Nat.le_refl _, Ext.refl _ _, hW⟩ ?_
  clear hW
  rintro ⟨i, rest⟩ n3 h3 ⟨hi, hn3, E3, hW⟩
  dsimp only at hi hW ⊢
  have E3' : Ext n h h3 := E2'.trans (by omega) E3
  have k0 := c_ext E3 (by omega) k0
  have k1 := c_ext E3 (by omega) k1
  have k2 := c_ext E3 (by omega) k2
  have k3 := c_ext E3 (by omega) k3
  have t0 := c_ext E3 (by omega) t0
  have t1 := c_ext E3 (by omega) t1
  have kj := (E3.info _ (by omega)).trans kj
  by_cases hlt : i < M
  · have hno := refNone_ev ⟨tk, tsc⟩ n3 h3
    dsimp only at hno
    obtain ⟨hso, hwl, hwu, hwi, hwA, -⟩ := hW.facts (by omega)
    have hwi : h3.info n1 = some ⟨M * 5, 0, true, 5⟩ := hwi
    have hnn : n1 < n3 := by omega
    have hwl2 : (valsC (List.replicate i (noV ⟨tk, tsc⟩))).length = i * 5 := by rw [valsC_length, List.length_replicate]
    have hsp := hW.splice (i := i * 5) (vs := valC (noV ⟨tk, tsc⟩)) (by show i * 5 + 5 ≤ M * 5; omega) rfl
    have e : Abs.splice (valsC (List.replicate i (noV ⟨tk, tsc⟩)) ++ rest) (i * 5) (valC (noV ⟨tk, tsc⟩)) = valsC (List.replicate (i + 1) (noV ⟨tk, tsc⟩)) ++ rest.drop 5 := by
      have h6 : (valC (noV ⟨tk, tsc⟩)).length = 5 := rfl
      have e1 : (valsC (List.replicate i (noV ⟨tk, tsc⟩))).drop (i * 5 + 5) = [] := List.drop_eq_nil_of_le (by omega)
      have e2 : (valsC (List.replicate i (noV ⟨tk, tsc⟩)) ++ rest).take (i * 5) = valsC (List.replicate i (noV ⟨tk, tsc⟩)) := by rw [← hwl2, List.take_left]
      rw [valsC_rep, Abs.splice, e2, h6, List.drop_append, e1, List.nil_append, hwl2, Nat.add_sub_cancel_left]
      simp [valsC]
    rw [e] at hsp
    repeat' (first | refine stpS ?_ | (refine stp2 ?_ ?_ <;> intro _) | refine RS.call1 rfl opds (hno) none'W ?_)
    refine nextC.normal ⟨(i + 1, rest.drop 5), by dsimp only; omega, envs, by dsimp only; omega, hn3, E3.appSets (Nat.le_refl _), hsp⟩
  · have hie : i = M := by omega
    subst hie
    have hr0 : rest = [] := by
      have := hW.len
      rw [List.length_append, valsC_length, List.length_replicate] at this
      exact List.eq_nil_of_length_eq_zero (by omega)
    rw [hr0, List.append_nil] at hW
    have hc0 : colW i ⟨tk, tsc⟩ sel l 0 = List.replicate i (noV ⟨tk, tsc⟩) := rfl
    rw [← hc0] at hW
    repeat' (first | refine stpS ?_ | (refine stp2 ?_ ?_ <;> intro _))
    refine RC.loop ?_
    refine RL.inv (α := Nat) (fun y => [(11, .int .i64 (y : Nat)), (9, .slice (some ⟨n1, 0, none⟩) i i), (2, .slice la l.length l.length), (3, .pointer (some ⟨n, 0, none⟩)), (4, .pointer (some ⟨n + 1, 0, none⟩)), (6, .pointer (some ⟨n + 1 + 1, 0, none⟩))])
      (fun y n4 h4 => y ≤ sel.length ∧ n3 ≤ n4 ∧ Ext n1 h3 h4 ∧ OwnSl h4 n1 n4 (some ⟨n1, 0, none⟩) 5 i (valsC (colW i ⟨tk, tsc⟩ sel l y))) (fun y => sel.length - y) 0 envs ⟨Nat.zero_le _, Nat.le_refl _, Ext.refl _ _, hW⟩ ?_
    clear hW
    rintro j n4 h4 ⟨hj, hn4, E4, hW⟩
    have E4' : Ext n h h4 := E3'.trans (by omega) E4
    have k0 := c_ext E4 (by omega) k0
    have k1 := c_ext E4 (by omega) k1
    have k2 := c_ext E4 (by omega) k2
    have k3 := c_ext E4 (by omega) k3
    have t0 := c_ext E4 (by omega) t0
    have t1 := c_ext E4 (by omega) t1
    have kj := (E4.info _ (by omega)).trans kj
    by_cases hltj : j < sel.length
    · obtain ⟨k, hk⟩ : ∃ k, sel[j]? = some k := ⟨_, List.getElem?_eq_getElem hltj⟩
      obtain ⟨v, hv⟩ : ∃ v, l[j]? = some v := ⟨_, List.getElem?_eq_getElem (by omega)⟩
      obtain ⟨hkN, hk0, -⟩ := hsel j k hk
      have hA : SlA sa sel.length := SlR.sla BS
      have hsn : sb sa < n4 := Nat.lt_of_lt_of_le (SlR.lt BS (by omega)) (by omega)
      have d0 : h4.cell (sb sa) (so sa + j) = .int .i64 k := (SlR.cell (SlR.ext BS E4' (by omega : n ≤ n4)) j (by omega)).trans (by simp [List.getD, hk])
      obtain ⟨hB, hsl, g0, g1, g2', g3, g4⟩ := SlV.at_ (SlR.ext BL E4' (by omega : n ≤ n4)) hv
      obtain ⟨hso, hwl, hwu, hwi, hwA, -⟩ := hW.facts (by omega)
      have hwi : h4.info n1 = some ⟨i * 5, 0, true, 5⟩ := hwi
      have hnn : n1 < n4 := by omega
      have hkM : k.toNat < i := by omega
      have hcs : colW i ⟨tk, tsc⟩ sel l (j + 1) = (colW i ⟨tk, tsc⟩ sel l j).set k.toNat v := by rw [colW_succ]; simp [List.getD, hk, hv]
      have hsp := hW.splice (i := k.toNat * 5) (vs := valC v) (by show k.toNat * 5 + 5 ≤ i * 5; omega) rfl
      rw [← valsC_set _ _ _ (by rw [colW_length]; exact hkM), ← hcs] at hsp
      obtain ⟨⟨vk, vs⟩, vp, vm, vx⟩ := v
      dsimp only at g0 g1 g2' g3 g4
      repeat' (first | refine stpS ?_ | (refine stp2 ?_ ?_ <;> intro _))
      repeat' (first | refine stp ?_ | (refine stp2 ?_ ?_ <;> intro _))
      refine nextC.normal ⟨j + 1, by omega, envs, by omega, hn4, E4.appSets (Nat.le_refl _), hsp⟩
    · have hje : j = sel.length := by omega
      subst hje
      have hcw := colW_length i ⟨tk, tsc⟩ sel l sel.length
      have hbn : sb ta < n ∨ ts.length = 0 := by
        rcases BT.shape with ⟨_, q⟩ | ⟨_, q, _⟩
        · exact .inr q
        · exact .inl q
      have hta : sb ta < n4 + 1 := by
        rcases BT.shape with ⟨q, _⟩ | ⟨_, q, _⟩
        · subst q; show 0 < n4 + 1; omega
        · omega
      repeat' (first | refine stpS ?_ | (refine stp2 ?_ ?_ <;> intro _))
      repeat' (first | refine stp ?_ | (refine stp2 ?_ ?_ <;> intro _))
      obtain ⟨g5, hg⟩ : ∃ g5, g5 = (h4.app (.new n4 ⟨4, 0, true, 0⟩ [.slice none 0 0, .int .i64 0, .slice none 0 0, .slice none 0 0])).app (.sets n4 0 [.slice none 0 0, .int .i64 (i : Int), .slice none 0 0, .slice sa sel.length sel.length]) := ⟨_, rfl⟩
      refine RD.heap hg ?_
      have E5 : Ext n4 h4 g5 := by rw [hg]; exact ext
      have x0 : g5.cell n4 0 = .slice none 0 0 := by rw [hg]; exact cell
      have x1 : g5.cell n4 1 = .int .i64 (i : Int) := by rw [hg]; exact cell
      have x2 : g5.cell n4 2 = .slice none 0 0 := by rw [hg]; exact cell
      have x3 : g5.cell n4 3 = .slice sa sel.length sel.length := by rw [hg]; exact cell
      have xi : g5.info n4 = some ⟨4, 0, true, 0⟩ := by rw [hg]; exact info
      clear hg
      have k0 := c_ext E5 (by omega) k0
      have k1 := c_ext E5 (by omega) k1
      have k2 := c_ext E5 (by omega) k2
      have k3 := c_ext E5 (by omega) k3
      have t0 := c_ext E5 (by omega) t0
      have t1 := c_ext E5 (by omega) t1
      have kj := (E5.info _ (by omega)).trans kj
      have E5' : Ext n h g5 := E4'.trans (by omega) E5
      refine RD.appendN rfl opd opd BT E5' (by omega) hta (by rw [map_range_getD _ _ (tysC_length ts).symm]; exact known_tysC ts) (by omega) cfl ?_
      intro c6 n6 h6 hle6 hO6 E6
      rw [map_range_getD _ _ (tysC_length ts).symm] at hO6
      have x0 := c_ext E6 (by omega) x0
      have x1 := c_ext E6 (by omega) x1
      have x2 := c_ext E6 (by omega) x2
      have x3 := c_ext E6 (by omega) x3
      have t0 := c_ext E6 (by omega) t0
      have t1 := c_ext E6 (by omega) t1
      have k2 := c_ext E6 (by omega) k2
      have xi := (E6.info _ (by omega)).trans xi
      have kj := (E6.info _ (by omega)).trans kj
      have hci : ∀ x, x ≤ n4 → ¬ inA c6 x := fun x hx q => by
        have := hO6.at'.resolve_left q.1
        have := q.2
        omega
      have u0 := hci n4 (Nat.le_refl _)
      have u1 := hci (n + 1) (by omega)
      have u2 := hci n (by omega)
      have u3 : ∀ b, b = sb ta → ¬ inA c6 b := fun b hb q => by
        have := hO6.at'.resolve_left q.1
        have := q.2
        omega
      have hWt : ∀ b, inA c6 b → b < n6 + 1 := fun b q => by
        have := hO6.at'.resolve_left q.1
        have := q.2
        omega
      have hn6 : n4 < n6 := by omega
      repeat' (first | refine stp ?_ | (refine stp2 ?_ ?_ <;> intro _))
      obtain ⟨g7, hg⟩ : ∃ g7, g7 = h6.app (.new n6 ⟨2, 0, true, 2⟩ [.int .i64 tk, .int .i64 tsc]) := ⟨_, rfl⟩
      refine RD.heap hg ?_
      have E7 : Ext n6 h6 g7 := by rw [hg]; exact ext
      have hnew : OwnSl g7 n6 (n6 + 1) (some ⟨n6, 0, none⟩) 2 1 [.int .i64 tk, .int .i64 tsc] := by rw [hg]; exact OwnSl.new (m := 1) (z := 2) (Nat.le_refl _) rfl rfl
      clear hg
      have x0 := c_ext E7 (by omega) x0
      have x1 := c_ext E7 (by omega) x1
      have x2 := c_ext E7 (by omega) x2
      have x3 := c_ext E7 (by omega) x3
      have t0 := c_ext E7 (by omega) t0
      have t1 := c_ext E7 (by omega) t1
      have k2 := c_ext E7 (by omega) k2
      have xi := (E7.info _ (by omega)).trans xi
      have kj := (E7.info _ (by omega)).trans kj
      have hO7 := hO6.ext E7 (Nat.le_succ n6)
      have v3 := u3 (sb ta) rfl
      refine RD.appendT (n6 + 1) rfl opd opd hO7 (hnew.ext (AH.below_ext _ _) (Nat.le_refl _)).src full_slice (fun q => .inr (by have := hO6.at'.resolve_left q; omega)) (by omega) (Nat.le_refl _) cfw ?_
      intro c8 n8 h8 hle8 hO8 hX8 hwh8
      have hcn : ∀ x, x ≤ n4 → c6 = none ∨ x ≠ sb c6 := fun x hx => hO6.at'.imp id fun w => by omega
      have x1 := c_extX hX8 (by omega) (hcn n4 (Nat.le_refl _)) x1
      have x2 := c_extX hX8 (by omega) (hcn n4 (Nat.le_refl _)) x2
      have x3 := c_extX hX8 (by omega) (hcn n4 (Nat.le_refl _)) x3
      have xi := i_extX hX8 (by omega) (hcn n4 (Nat.le_refl _)) xi
      have kj := i_extX hX8 (by omega) (hcn (n + 1 + 1) (by omega)) kj
      have k2 := c_extX hX8 (by omega) (hcn n (by omega)) k2
      have hn8 : n4 < n8 := by omega
      have E78 : Ext (n4 + 1) g7 h8 := hX8.ext hO7
      repeat' (first | refine stp ?_ | (refine stp2 ?_ ?_ <;> intro _))
      have hE48 : Ext (n4 + 1) g5 h8 := (E6.trans hle6 (E7.mono (Nat.le_refl _))).trans (Nat.le_refl _) E78
      obtain ⟨g9, hg⟩ : ∃ g9, g9 = h8.app (.sets n4 0 [.slice c8 (ts.length + 1) (ts.length + 1)]) := ⟨_, rfl⟩
      refine RS.heap hg ?_
      have x0 : g9.cell n4 0 = .slice c8 (ts.length + 1) (ts.length + 1) := by rw [hg]; exact cell
      have x1 : g9.cell n4 1 = .int .i64 (i : Int) := by rw [hg]; exact cell
      have x3 : g9.cell n4 3 = .slice sa sel.length sel.length := by rw [hg]; exact cell
      have xi : g9.info n4 = some ⟨4, 0, true, 0⟩ := by rw [hg]; exact info
      have kj : g9.info (n + 1 + 1) = some ⟨4, 0, true, 0⟩ := by rw [hg]; exact info
      have oT9 : OwnSl g9 (n4 + 1) n8 c8 2 (ts.length + 1) (tysC ts ++ [.int .i64 tk, .int .i64 tsc]) := by rw [hg]; exact hO8.sets (by omega)
      have E59 : Ext n4 h4 g9 := by
        rw [hg]
        exact ((E5.trans (Nat.le_refl _) (hE48.mono (Nat.le_succ n4)))).appSets (Nat.le_refl _)
      clear hg
      have oW9 : OwnSl g9 n1 n8 (some ⟨n1, 0, none⟩) 5 i (valsC (colW i ⟨tk, tsc⟩ sel l sel.length)) := hW.ext E59 (by omega)
      have E9' : Ext n h g9 := E4'.trans (by omega) E59
      have BC9 := BC.ext E9' (by omega : n ≤ n8)
      refine RS.append rfl opd opd (OwnSl.nil (n0 := n8) (Nat.le_refl n8)) (SlR.srcL BC9.out (by simp) (known_rowV cs)) full_slice (fun b hb => .inr (by omega)) (by omega) ?_
      intro c10 n10 h10 hle10 hO10 hX10 hwh10
      simp only [Nat.zero_add, List.nil_append] at hO10 ⊢
      have E10 : Ext n8 g9 h10 := hX10.ext (OwnSl.nil (z := 1) (Nat.le_refl n8))
      have x0 := c_ext E10 (by omega) x0
      have x1 := c_ext E10 (by omega) x1
      have x3 := c_ext E10 (by omega) x3
      have xi := (E10.info _ (by omega)).trans xi
      have kj := (E10.info _ (by omega)).trans kj
      repeat' (first | refine stpS ?_ | (refine stp2 ?_ ?_ <;> intro _))
      obtain ⟨g11, hg⟩ : ∃ g11, g11 = h10.app (.new n10 ⟨1, 0, true, 1⟩ [.slice (some ⟨n1, 0, none⟩) i i]) := ⟨_, rfl⟩
      refine RS.heap hg ?_
      have E11 : Ext n10 h10 g11 := by rw [hg]; exact ext
      have hnew11 : OwnSl g11 n10 (n10 + 1) (some ⟨n10, 0, none⟩) 1 1 [.slice (some ⟨n1, 0, none⟩) i i] := by rw [hg]; exact OwnSl.new (m := 1) (z := 1) (Nat.le_refl _) rfl rfl
      clear hg
      have x0 := c_ext E11 (by omega) x0
      have x1 := c_ext E11 (by omega) x1
      have x3 := c_ext E11 (by omega) x3
      have xi := (E11.info _ (by omega)).trans xi
      have kj := (E11.info _ (by omega)).trans kj
      have hO11 := hO10.ext E11 (Nat.le_succ n10)
      refine RS.append rfl opd opd hO11 hnew11.src full_slice (fun b hb => .inr (by omega)) (by omega) ?_
      intro c12 n12 h12 hle12 hO12 hX12 hwh12
      have E12 : Ext n8 g11 h12 := hX12.ext hO11
      have x0 := c_ext E12 (by omega) x0
      have x1 := c_ext E12 (by omega) x1
      have x3 := c_ext E12 (by omega) x3
      have xi := (E12.info _ (by omega)).trans xi
      have kj := (E12.info _ (by omega)).trans kj
      have hn12 : n4 < n12 := by omega
      repeat' (first | refine stpS ?_ | (refine stp2 ?_ ?_ <;> intro _))
      obtain ⟨gf, hg⟩ : ∃ gf, gf = h12.app (.sets n4 2 [.slice c12 (cs.length + 1) (cs.length + 1)]) := ⟨_, rfl⟩
      refine RS.heap hg ?_
      have kj : gf.info (n + 1 + 1) = some ⟨4, 0, true, 0⟩ := by rw [hg]; exact info
      have E9f : ∀ {z m lo : Nat} {a : Option Addr} {vs : List Value}, OwnSl g9 lo n8 a z m vs → (a = none ∨ sb a ≠ n4) → OwnSl gf lo n12 a z m vs := fun o q => by
        have := o.ext (E10.trans (Nat.le_refl _) ((E11.mono (by omega)).trans (Nat.le_refl _) E12)) (by omega : n8 ≤ n12)
        rw [hg]; exact this.setsN q
      have oTf := E9f oT9 (oT9.at'.imp id fun q => by omega)
      have oWf := E9f oW9 (.inr (by show n1 ≠ n4; omega))
      have oCf : OwnSl gf n8 n12 c12 1 (cs.length + 1) (cs.map rowV ++ [.slice (some ⟨n1, 0, none⟩) i i]) := by
        rw [hg]; exact hO12.setsN (hO12.at'.imp id fun q => by omega)
      have Ef : Ext n h gf := by
        rw [hg]
        exact (E9'.trans (by omega) (E10.trans (Nat.le_refl _) ((E11.mono (by omega)).trans (Nat.le_refl _) E12))).appSets (by omega)
      clear hg
      have hTl : (ts ++ [(⟨tk, tsc⟩ : Ty)]).length = ts.length + 1 := by simp
      have hCl : (cs ++ [((some ⟨n1, 0, none⟩ : Option Addr), colW i ⟨tk, tsc⟩ sel l sel.length)]).length = cs.length + 1 := by simp
      have eT : tysC (ts ++ [⟨tk, tsc⟩]) = tysC ts ++ [.int .i64 tk, .int .i64 tsc] := by simp [tysC, tyC]
      have ST : SlTy gf n12 c8 (ts ++ [⟨tk, tsc⟩]) := by
        show SlR gf n12 c8 2 _ _
        rw [hTl, eT]; exact oTf.slr
      have SCof : ∀ (h' : AH) (n' lo : Nat), n ≤ n' → Ext n h h' → OwnSl h' lo n' c12 1 (cs.length + 1) (cs.map rowV ++ [.slice (some ⟨n1, 0, none⟩) i i]) → OwnSl h' n1 n' (some ⟨n1, 0, none⟩) 5 i (valsC (colW i ⟨tk, tsc⟩ sel l sel.length)) → RowsR h' n' c12 (cs ++ [((some ⟨n1, 0, none⟩ : Option Addr), colW i ⟨tk, tsc⟩ sel l sel.length)]) := by
        intro h' n' lo hn' E' o1 o2
        refine ⟨?_, fun e he => ?_⟩
        · rw [hCl, List.map_append]
          have : [((some ⟨n1, 0, none⟩ : Option Addr), colW i ⟨tk, tsc⟩ sel l sel.length)].map rowV = [.slice (some ⟨n1, 0, none⟩) i i] := by
            simp only [List.map_cons, List.map_nil, rowV, hcw]
          rw [this]; exact o1.slr
        · rcases List.mem_append.1 he with q | q
          · exact SlR.ext (BC.in_ e q) E' hn'
          · simp only [List.mem_cons, List.not_mem_nil, or_false] at q
            subst q
            show SlR _ _ _ 5 (colW i ⟨tk, tsc⟩ sel l sel.length).length _
            rw [hcw]; exact o2.slr
      have SC := SCof gf n12 n8 (by omega) Ef oCf oWf
      have htl32 : ts.length ≤ 32 := hmay.1
      have hck := refChecked_rf c8 c12 sa (ts ++ [⟨tk, tsc⟩]) i (cs ++ [((some ⟨n1, 0, none⟩ : Option Addr), colW i ⟨tk, tsc⟩ sel l sel.length)]) sel n12 gf ST SC (SlR.ext BS Ef (by omega)) (fun e he => by
        rcases List.mem_append.1 he with q | q
        · exact hr e q
        · simp only [List.mem_cons, List.not_mem_nil, or_false] at q
          subst q
          show (colW i ⟨tk, tsc⟩ sel l sel.length).length ≤ _
          rw [hcw]; omega) hs (by rw [hTl]; omega)
      have hwb : withB ⟨ts, i, cs.map Prod.snd, sel⟩ ⟨tk, tsc⟩ l = ⟨ts ++ [⟨tk, tsc⟩], i, (cs ++ [((some ⟨n1, 0, none⟩ : Option Addr), colW i ⟨tk, tsc⟩ sel l sel.length)]).map Prod.snd, sel⟩ := by
        rw [List.map_append]; rfl
      rw [← hwb] at hck
      dsimp only [batV] at hck
      rw [hTl, hCl] at hck
      refine RS.call rfl opds hck none'W ?_
      rintro r n13 h13 hle13 ⟨E13, ⟨rfl, hm⟩ | ⟨rfl, hm⟩⟩
      · have kj := (E13.info _ (by omega)).trans kj
        repeat' (first | refine stpS ?_ | (refine stp2 ?_ ?_ <;> intro _))
        have hfin := (Ef.trans (by omega) E13).appSets (b := n + 1 + 1) (o := 0) (vs := [.slice c8 (ts.length + 1) (ts.length + 1), .int .i64 (i : Int), .slice c12 (cs.length + 1) (cs.length + 1), .slice sa sel.length sel.length]) (by omega)
        refine ⟨hfin, .inl ⟨c8, c12, _, ?_, hmay, hlen, hm, hwb, ?_, SCof _ n13 n8 (by omega) hfin ((oCf.ext E13 hle13).sets (by omega)) ((oWf.ext E13 hle13).sets (by omega))⟩⟩
        · dsimp only [batV]; rw [hTl, hCl]; rfl
        · show SlR _ n13 c8 2 _ _
          rw [hTl, eT]; exact ((oTf.ext E13 hle13).sets (by omega)).slr
      · have kj := (E13.info _ (by omega)).trans kj
        repeat' (first | refine stpS ?_ | (refine stp2 ?_ ?_ <;> intro _))
        exact ⟨(Ef.trans (by omega) E13).appSets (by omega), .inr (.inl ⟨rfl, fun q => hm (q.2 hlen)⟩)⟩
end Go.Proofs.Ytaagbfpbbhaclaa
