/- The document's disk: cut, write, sync. -/
import Derived.Test.YtchfnjfmlhacfaaYd
namespace Go.Proofs.Ytchfnjfmlhacfaa
open Go.Abs

section
variable {h h1 h2 : AH} {n n1 n2 r : Nat} {sa : Nat → Option Addr} {ol ka : Option Addr} {pa : List (Option Addr)} {F G F1 G1 : Nat → Prop} {S S1 : DS}
theorem meets_done (S : DS) (p : Pc) : (S.done p).meets = (S.meets.1, S.meets.2.done p) := by
  by_cases h : S.fuse = 0
  · rw [DS.meets, if_pos (show (S.done p).fuse = 0 from h), DS.meets, if_pos h]; rfl
  · rw [DS.meets, if_neg (show ¬ (S.done p).fuse = 0 from h), DS.meets, if_neg h]; rfl
theorem meets_writes (S : DS) (i p : Nat) (b : List UInt8) : (S.writes i p b).meets = (S.meets.1, S.meets.2.writes i p b) := by
  by_cases h : S.fuse = 0
  · rw [DS.meets, if_pos (show (S.writes i p b).fuse = 0 from h), DS.meets, if_pos h]; rfl
  · rw [DS.meets, if_neg (show ¬ (S.writes i p b).fuse = 0 from h), DS.meets, if_neg h]; rfl
set_option maxHeartbeats 4000000 in
theorem rtruncate_rk (D : Rk h n r F G S) (hps : S.ps.length < 1099511627776) (hcl : S.calls < 4611686018427387904) (f size : Int) (hsz64 : size ≤ 9223372036854775807) :
    RF Try.prog F 43 #[.pointer (some ⟨r, 0, none⟩), .int .i64 f, .int .i64 size] n h (fun v n' h' => v = .int .i64 (S.truncate f size).1 ∧ RkTo n r F G h (S.truncate f size).2 n' h') := by
  refine RF.of Try.func43 rfl rfl (Nat.le_of_ble_eq_true rfl) ?_; dsimp only [argEnv]
  have hlt := D.lt
  have hTr := D.inF
  by_cases hm : S.may f = 0
  · obtain ⟨i, hi, rfl, hd⟩ := may_zero hm
    have hme := rmay_rk D (i : Int)
    rw [hm] at hme
    have hno := D.ok.now i
    by_cases hneg : size < 0
    · have he : S.truncate (i : Int) size = (1, S) := by simp [DS.truncate, hm, hneg]
      rw [he]
      repeat' (first | refine stpS ?_ | (refine stp2 ?_ ?_ <;> intro _) | refine RS.call1 rfl opds (hme) none'W ?_)
      exact ⟨rfl, D.to⟩
    · obtain ⟨k, rfl⟩ : ∃ k : Nat, size = k := ⟨size.toNat, by omega⟩
      repeat' (first | refine stpS ?_ | (refine stp2 ?_ ?_ <;> intro _) | refine RS.call1 rfl opds (hme) none'W ?_)
      refine RS.call rfl opds (rnow_rk D (by omega) hi) none'W ?_
      rintro v n1 h1 hle ⟨a', rfl, hE, hS⟩
      have D1 := D.ext hE hle
      by_cases hgt : (S.now i).length < k
      · have he : S.truncate (i : Int) (k : Nat) = (1, S) := by rw [DS.truncate, if_neg (by rw [hm]; simp), if_pos (by rw [Int.toNat_natCast]; omega)]
        rw [he]
        repeat' (first | refine stpS ?_ | (refine stp2 ?_ ?_ <;> intro _))
        exact ⟨rfl, _, _, D1, fun _ _ q => q, fun _ _ q => q, ExtW.of hE (Nat.le_refl _)⟩
      · have he : S.truncate (i : Int) (k : Nat) = (S.done ⟨i, true, k, []⟩).ends := by rw [DS.truncate, if_neg (by rw [hm]; simp), if_neg (by rw [Int.toNat_natCast]; omega)]; rfl
        rw [he, ends_meets (show 0 ≤ (S.done ⟨i, true, k, []⟩).fuse from D.ok.fuse.1), meets_done]
        repeat' (first | refine stpS ?_ | (refine stp2 ?_ ?_ <;> intro _))
        refine RS.call rfl opds (rmeets_rk D1 hcl) (fun b hb => .inl hb) ?_
        rintro v n2 h2 hle2 ⟨rfl, rfl, D2, e2⟩
        have hmk : S.meets.2.keep = S.keep := by unfold DS.meets; split <;> rfl
        have hmp : S.meets.2.ps = S.ps := by unfold DS.meets; split <;> rfl
        have hok := D2.ok
        have hlt2 := D2.lt
        generalize S.meets = M at *
        obtain ⟨hit, S2⟩ := M
        dsimp only at D2 hmk hmp hok ⊢
        have hpl : S2.ps.length = S.ps.length := by rw [hmp]
        have hpo : PcOk ⟨i, true, k, []⟩ := ⟨by show i = 0 ∨ i = 1; omega, fun q => (by cases q), fun _ => by show k ≤ 4194304; omega⟩
        obtain ⟨-, sa, ol, ka, pa, rfl, rfl, R⟩ := id D2
        have hinf := R.inf
        have c2 : h2.cell r 2 = .slice ol S2.ps.length S2.ps.length := R.cs 2 _ rfl
        repeat' (first | refine stpS ?_ | (refine stp2 ?_ ?_ <;> intro _))
        have hnew : OwnSl (h2.app (.new n2 ⟨4, 0, true, 4⟩ (rpC ⟨i, true, k, []⟩ none))) n2 (n2 + 1) (some ⟨n2, 0, none⟩) 4 1 (rpC ⟨i, true, k, []⟩ none) := OwnSl.new (h := h2) (m := 1) (z := 4) (Nat.le_refl n2) rfl rfl
        refine RS.appendT rfl opd opd (R.lo.ext (n1 := n2 + 1) (h1 := h2.app (.new n2 ⟨4, 0, true, 4⟩ (rpC ⟨i, true, k, []⟩ none))) ext (Nat.le_succ n2)) hnew.src full_slice (fun q => .inl (.inr ⟨q, rfl⟩)) (by omega) ?_
        intro a3 n3 h3 hle3 hO3 hX3 hwh
        have hX : ExtX n2 ol h2 h3 := fun x hx hne => by
          have := hX3 x (by omega) hne
          exact ⟨this.1.trans (i_new_ne (by omega) rfl), fun i => (this.2 i).trans (c_new_ne (by omega) rfl)⟩
        have R3 := R.push (p := ⟨i, true, k, []⟩) (c := none) hX (by omega) (hO3.mono (Nat.zero_le _)) (hwh.imp id (fun q => .inr (by omega))) .nil (.inl rfl) (.inr (.inl rfl))
        have hinf3 : h3.info r = some ⟨7, 0, true, 0⟩ := i_extX hX hlt2 R.rl hinf
        repeat' (first | refine stpS ?_ | (refine stp2 ?_ ?_ <;> intro _))
        have to3 : RkTo n2 r (RkF r ol) (RkG sa ka pa) h2 (S2.done ⟨i, true, k, []⟩) n3 (h3.app (.sets r 2 [.slice a3 (S2.ps.length + 1) (S2.ps.length + 1)])) :=
          RkTo.mk (done_ok hok hpo) R3 (hwh.imp id (fun q => .inr (by omega))) (fun x hx => by
            simp only [rfG, List.mem_cons, List.mem_append, List.not_mem_nil, or_false] at hx ⊢
            rcases hx with k | k | k | k | k <;> simp [k]) (ExtW.appSets (.inl (.inl rfl)) (ExtW.ofX hX (fun q => .inr ⟨q, rfl⟩)))
        obtain ⟨F3, G3, D3, hF3, hG3, e3⟩ := to3
        refine RS.call rfl opds (rends_rk D3 (by simp [DS.done]; omega) hit) (fun b hb => ?_) ?_
        · by_cases q : b < n
          · exact .inl (hF3 b (by omega) hb)
          · exact .inr (by omega)
        rintro v n4 h4 hle4 ⟨rfl, to4⟩
        have hkp : (S2.done ⟨i, true, k, []⟩).keep = (S.done ⟨i, true, k, []⟩).keep := hmk
        have fin := RkTo.trans (n := n) (h := h) (F := RkF r ol) (G := RkG sa ka pa) (((ExtW.of (W := RkF r ol) hE (Nat.le_refl n)).trans e2 hle (fun _ _ q => q)).trans e3 hle (fun _ _ q => q)) (fun b hb q => hF3 b (by omega) q) (fun b hb q => hG3 b (by omega) q) (by omega) to4
        rw [← hkp]
        cases hit
        · repeat' (first | refine stpS ?_ | (refine stp2 ?_ ?_ <;> intro _))
          exact ⟨rfl, fin⟩
        · repeat' (first | refine stpS ?_ | (refine stp2 ?_ ?_ <;> intro _))
          exact ⟨rfl, fin⟩
  · have he : S.truncate f size = (S.may f, S) := by simp [DS.truncate, hm]
    rw [he]
    repeat' (first | refine stpS ?_ | (refine stp2 ?_ ?_ <;> intro _) | refine RS.call1 rfl opds (rmay_rk D f) none'W ?_)
    exact ⟨rfl, D.to⟩
end
end Go.Proofs.Ytchfnjfmlhacfaa
