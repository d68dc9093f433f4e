/- Contracts of the disk's methods: sync. -/
import Derived.Test.YtchfnjfmlhacfaaJ
namespace Go.Proofs.Ytchfnjfmlhacfaa
open Go.Abs

theorem known_map {α : Type} (f : α → Value) : ∀ l : List α, (∀ x ∈ l, known [f x] = true) → known (l.map f) = true
  | [], _ => rfl
  | x :: r, h => by
    have h1 := h x (by simp)
    have h2 := known_map f r (fun y hy => h y (by simp [hy]))
    rw [List.map_cons]
    cases hf : f x <;> rw [hf] at h1 <;> simp_all [known]
def keepP (f : Nat) (x : PA) : Bool := !decide (x.1.file = f)
section
variable {h h1 h2 : AH} {n n1 n2 d : Nat}
set_option maxHeartbeats 4000000 in
theorem delete_rf (L : List PA) (a : Option Addr) (f bx n : Nat) (h : AH) (hO : OwnSl h 0 n a 2 L.length (pcsL L)) (hL : L.length ≤ 1099511627776) (hb : bx < n) (hf : h.cell bx 0 = .int .i64 (f : Nat)) (hab : a = none ∨ bx ≠ sb a) :
    RF Try.prog (inA a) 36 #[.slice a L.length L.length, .func (.func 38) #[] #[.pointer (some ⟨bx, 0, none⟩)]] n h (fun r n' h' =>
      r = .slice a (L.filter (keepP f)).length (L.filter (keepP f)).length ∧ OwnSl h' 0 n' a 2 (L.filter (keepP f)).length (pcsL (L.filter (keepP f))) ∧ ExtX n a h h') := by
  refine RF.of Try.func36 rfl rfl (Nat.le_of_ble_eq_true rfl) ?_; dsimp only [argEnv]
  repeat' (first | refine stpS ?_ | (refine stp2 ?_ ?_ <;> intro _))
  refine RS.call rfl opds (index_rf L a f bx n h hO hL hb hf) none'W ?_
  rintro r n1 h1 hle ⟨hE, hr⟩
  have hX : ExtX n a h h1 := fun x hx _ => ⟨hE.info x hx, fun i => hE.cell x i hx⟩
  rcases hr with ⟨rfl, hno⟩ | ⟨j, hj, rfl, hno, xj, hxj, hfj⟩
  · have hfl : L.filter (keepP f) = L := List.filter_eq_self.2 fun x hx => by simp [keepP, hno x hx]
    rw [hfl]
    repeat' (first | refine stpS ?_ | (refine stp2 ?_ ?_ <;> intro _))
    exact ⟨rfl, hO.ext hE hle, hX⟩
  · have ha : a ≠ none := by
      intro q; subst q
      rcases hO.or with ⟨_, k⟩ | ⟨k, _⟩
      · omega
      · cases k
    have hbn : bx ≠ sb a := hab.resolve_left ha
    have hfl1 : (L.take j).filter (keepP f) = L.take j := List.filter_eq_self.2 fun x hx => by simp [keepP, hno x hx]
    have htj : L.take (j + 1) = L.take j ++ [xj] := by rw [List.take_add_one, hxj]; rfl
    have hfl2 : (L.take (j + 1)).filter (keepP f) = L.take j := by rw [htj, List.filter_append, hfl1]; simp [keepP, hfj]
    have hTa : inA a (sb a) := ⟨ha, rfl⟩
    repeat' (first | refine stpS ?_ | (refine stp2 ?_ ?_ <;> intro _))
    refine RC.loop ?_
    refine RL.inv (α := Nat × Nat × List PA) (fun s => [(5, .int .i64 (s.1 : Nat)), (6, .int .i64 (s.2.1 : Nat)), (1, .func (.func 38) #[] #[.pointer (some ⟨bx, 0, none⟩)]), (0, .slice a L.length L.length)])
      (fun s n2 h2 => s.1 < s.2.1 ∧ s.2.1 ≤ L.length ∧ n ≤ n2 ∧ ExtX n a h h2 ∧ s.2.2.length = L.length ∧ s.2.2.take s.1 = (L.take s.2.1).filter (keepP f) ∧ s.2.2.drop s.2.1 = L.drop s.2.1 ∧ OwnSl h2 0 n2 a 2 L.length (pcsL s.2.2)) (fun s => L.length - s.2.1) (j, j + 1, L) envs
      ⟨by dsimp only; omega, by dsimp only; omega, hle, hX, rfl, hfl2.symm, rfl, hO.ext hE hle⟩ ?_
    rintro ⟨i, k, M⟩ n2 h2 ⟨hik, hk, hn2, hX2, hM, hMt, hMd, hO2⟩
    dsimp only at hik hk hM hMt hMd hO2 ⊢
    have hil : i = ((L.take k).filter (keepP f)).length := by rw [← hMt, List.length_take]; omega
    repeat' (first | refine stpS ?_ | (refine stp2 ?_ ?_ <;> intro _))
    · have hk' : k < L.length := by omega
      obtain ⟨x, hx⟩ : ∃ x, L[k]? = some x := ⟨_, List.getElem?_eq_getElem hk'⟩
      have hxM : M[k]? = some x := by
        have e : (M.drop k)[0]? = (L.drop k)[0]? := by rw [hMd]
        simpa [hx] using e
      obtain ⟨hA, hsn, hc0, hc1⟩ := row_at (L := M) (by rw [hM]; exact hO2) hxM
      rw [hM] at hA
      obtain ⟨t, w, hv⟩ : ∃ t w, pcV x.1 x.2 = .iface t w := by
        unfold pcV; split
        · exact ⟨_, _, rfl⟩
        · exact ⟨_, _, rfl⟩
      have htk : L.take (k + 1) = L.take k ++ [x] := by rw [List.take_add_one, hx]; rfl
      have hs := sync1_rf x f bx (n2 + 1) ((h2.app (.new n2 ⟨2, 0, true, 0⟩ [.int .i64 0, .nilIface])).app (.sets n2 0 [.int .i64 (x.1.file : Nat), .iface t w])) (by omega) (c_out (by omega) (c_new_ne (by omega) ((hX2 bx hb hab |>.2 0).trans hf)))
      rw [pcC] at hs
      have hpc : pcC x.1 x.2 = [.int .i64 (x.1.file : Nat), .iface t w] := by rw [pcC, hv]
      rw [hv] at hc1 hs
      obtain ⟨hso, -, -, hI, -, -⟩ := hO2.facts (by omega)
      repeat' (first | refine stpS ?_ | (refine stp2 ?_ ?_ <;> intro _))
      refine RS.callv (caps := [.pointer (some ⟨bx, 0, none⟩)]) rfl opd opds (RF.ev hs (Q := fun r n3 h3 => r = .bool (decide (x.1.file = f)) ∧ n3 = n2 + 1 ∧ h3 = (h2.app (.new n2 ⟨2, 0, true, 0⟩ [.int .i64 0, .nilIface])).app (.sets n2 0 [.int .i64 (x.1.file : Nat), .iface t w])) ⟨rfl, rfl, rfl⟩) none'W ?_
      rintro r n3 h3 hle3 ⟨rfl, rfl, rfl⟩
      have hX3 : ExtX n a h ((h2.app (.new n2 ⟨2, 0, true, 0⟩ [.int .i64 0, .nilIface])).app (.sets n2 0 [.int .i64 (x.1.file : Nat), .iface t w])) := fun y hy hne => by
        have e : Ext n2 h2 ((h2.app (.new n2 ⟨2, 0, true, 0⟩ [.int .i64 0, .nilIface])).app (.sets n2 0 [.int .i64 (x.1.file : Nat), .iface t w])) := ext
        have := hX2 y hy hne
        exact ⟨(e.info y (by omega)).trans this.1, fun z => (e.cell y z (by omega)).trans (this.2 z)⟩
      have hO3 := hO2.ext (n1 := n2 + 1) (h1 := (h2.app (.new n2 ⟨2, 0, true, 0⟩ [.int .i64 0, .nilIface])).app (.sets n2 0 [.int .i64 (x.1.file : Nat), .iface t w])) ext (by omega)
      by_cases q : x.1.file = f
      · rw [decide_eq_true q]
        repeat' (first | refine stpS ?_ | (refine stp2 ?_ ?_ <;> intro _))
        refine nextC.normal ⟨(i, k + 1, M), by dsimp only; omega, envs, by dsimp only; omega, by dsimp only; omega, by omega, hX3, hM, ?_, ?_, hO3⟩
        · dsimp only
          rw [htk, List.filter_append, hMt]; simp [keepP, q]
        · dsimp only
          rw [← List.drop_drop, ← List.drop_drop, hMd]
      · rw [decide_eq_false q]
        have hI' : h2.info (sb a) = some ⟨L.length * 2, 0, true, 2⟩ := hI
        have hAi : SlA a L.length := hA
        repeat' (first | refine stpS ?_ | (refine stp2 ?_ ?_ <;> intro _))
        have hi' : i < M.length := by omega
        refine nextC.normal ⟨(i + 1, k + 1, M.set i x), by dsimp only; omega, envs, by dsimp only; omega, by dsimp only; omega, by omega, hX3.sets (fun z => ha z), by dsimp only; rw [List.length_set]; exact hM, ?_, ?_, ?_⟩
        · dsimp only
          rw [htk, List.filter_append, ← hMt, List.set_eq_take_append_cons_drop, if_pos hi', List.take_append, List.take_take]
          have e1 : (M.take i).length = i := by rw [List.length_take]; omega
          rw [e1, Nat.min_eq_right (by omega), show i + 1 - i = 1 by omega]
          simp [keepP, q]
        · dsimp only
          rw [List.drop_set_of_lt (by omega), ← List.drop_drop, ← List.drop_drop, hMd]
        · have := hO3.splice (i := i * 2) (vs := pcC x.1 x.2) (by rw [pcC_length]; omega) (pcV_known _ _)
          rw [← pcsL_set M i x hi', hpc] at this
          exact this
    · have hkl : k = L.length := by omega
      subst hkl
      rw [List.take_length] at hMt hil
      have hS2 := hO2.slr
      repeat' (first | refine stpS ?_ | (refine stp2 ?_ ?_ <;> intro _))
      rw [Int.toNat_natCast]
      have hkz : known (zrow (Value.agg #[.int .i64 0, .nilIface]).cells.toList (L.length - i)) = true := by
        refine known_map _ _ fun j _ => ?_
        show known [[Value.int .i64 0, .nilIface].getD (j % 2) (.tuple #[])] = true
        have : j % 2 = 0 ∨ j % 2 = 1 := by omega
        rcases this with e | e <;> rw [e] <;> rfl
      refine RS.clear rfl opd hO2 (by omega) ha (.inl hTa) hkz ?_
      intro hO3
      repeat' (first | refine stpS ?_ | (refine stp2 ?_ ?_ <;> intro _))
      refine RS.sliceCut (u := i) rfl opd opd hO3 (by omega) (fun _ => .inl hTa) ?_
      intro h4 hO4 hX4
      repeat' (first | refine stpS ?_ | (refine stp2 ?_ ?_ <;> intro _))
      rw [← hil]
      refine ⟨rfl, ?_, fun y hy hne => ?_⟩
      · have e : (splice (pcsL M) (i * 2) (zrow (Value.agg #[.int .i64 0, .nilIface]).cells.toList (L.length - i))).take (i * 2) = pcsL (L.filter (keepP f)) := by
          have hl : ((pcsL M).take (i * 2)).length = i * 2 := by rw [List.length_take, pcsL_length]; omega
          rw [splice, List.append_assoc, List.take_append_of_le_length (by omega), List.take_take, Nat.min_self, pcsL_take, hMt]
        rw [e] at hO4
        exact hO4
      · have h5 := hX4 y (by omega) hne
        have h6 := (hX2.sets (o' := so a + i * 2) (vs := zrow (Value.agg #[.int .i64 0, .nilIface]).cells.toList (L.length - i)) (fun z => ha z)) y hy hne
        exact ⟨h5.1.trans h6.1, fun z => (h5.2 z).trans (h6.2 z)⟩
end
end Go.Proofs.Ytchfnjfmlhacfaa
