/- Contracts of the disk's methods: clone. -/
import Derived.Test.YtchfnjfmlhacfaaN
namespace Go.Proofs.Ytchfnjfmlhacfaa
open Go.Abs

section
variable {h h1 h2 : AH} {n n1 n2 d : Nat} {o : Nat → Option Addr} {ka : Option Addr} {pa : List (Option Addr)} {fl : Nat → List UInt8} {ps : List Pc} {fuse : Int} {keep : List Bool} {calls : Int} {down : Bool}
/-- A copy of the disk's cells, in a new block, with the same rows. -/
theorem DkR.copy (R : DkR h n d o ka pa fl ps fuse keep calls down) (e : Ext n h h1) (hi : h1.info n = some ⟨10, 0, true, 0⟩) (c0 : h1.cell n 0 = .bool true) (cf : ∀ i, i < 4 → h1.cell n (1 + i) = .slice (o i) (fl i).length (fl i).length)
    (c5 : h1.cell n 5 = .slice (o 4) ps.length ps.length) (c6 : h1.cell n 6 = .int .i64 fuse) (c7 : h1.cell n 7 = .slice ka keep.length keep.length) (c8 : h1.cell n 8 = .int .i64 calls) (c9 : h1.cell n 9 = .bool down) :
    DkR h1 (n + 1) n o ka pa fl ps fuse keep calls down := by
  have hle : n ≤ n + 1 := Nat.le_succ n
  have hap : ∀ x : Option Addr, (x ≠ none → sb x < n) → apd n x := fun x hx => by
    by_cases q : x = none
    · exact .inl q
    · have := hx q
      exact .inr (by omega)
  exact ⟨Nat.lt_succ_self n, hi, c0, cf, c5, c6, c7, c8, c9, fun i hi => (R.fo i hi).ext e hle, R.lo.ext e hle, R.ks.ext e hle, fun i p hp hc => (R.dat i p hp hc).ext e hle, R.len, fun i hi => hap _ (R.rlt hi), R.oo, R.og, fun x hx => hap _ (R.gl x hx), fun x hx q => Nat.lt_succ_of_lt (R.gl x hx q)⟩
end
section
variable {h h1 h2 : AH} {n n1 n2 d : Nat} {F G F1 G1 F2 G2 : Nat → Prop} {S S1 S2 : DS}
set_option maxHeartbeats 4000000 in
theorem clone_dk (D : Dk h n d F G S) (hps : S.ps.length ≤ 1099511627776) :
    RF Try.prog none' 31 #[.pointer (some ⟨d, 0, none⟩)] n h (fun r n' h' => ∃ d2 F2 G2, r = .pointer (some ⟨d2, 0, none⟩) ∧ Dk h' n' d2 F2 G2 S ∧ (∀ b, F2 b → n ≤ b) ∧ (∀ b, G2 b → G b) ∧ Ext n h h') := by
  refine RF.of Try.func31 rfl rfl (Nat.le_of_ble_eq_true rfl) ?_; dsimp only [argEnv]
  have hlt := D.lt
  have hno := none_dk D
  obtain ⟨ok, o, ka, pa, rfl, rfl, R⟩ := id D
  have c0 := R.c0
  have c1 := R.cf 0 (by omega)
  have c2 := R.cf 1 (by omega)
  have c3 := R.cf 2 (by omega)
  have c4 := R.cf 3 (by omega)
  have c5 := R.c5
  have c6 := R.c6
  have c7 := R.c7
  have c8 := R.c8
  have c9 := R.c9
  have hinf := R.inf
  repeat' (first | refine stpS ?_ | (refine stp2 ?_ ?_ <;> intro _) | refine RS.call1 rfl opds (hno) none'W ?_)
  generalize hH : (h.app (.new n ⟨10, 0, true, 0⟩ [.bool false, .slice none 0 0, .slice none 0 0, .slice none 0 0, .slice none 0 0, .slice none 0 0, .int .i64 0, .slice none 0 0, .int .i64 0, .bool false])).app (.sets n 0 [.bool true, .slice (o 0) (flOf S 0).length (flOf S 0).length, .slice (o 1) (flOf S 1).length (flOf S 1).length, .slice (o 2) (flOf S 2).length (flOf S 2).length, .slice (o 3) (flOf S 3).length (flOf S 3).length, .slice (o 4) S.ps.length S.ps.length, .int .i64 S.fuse, .slice ka S.keep.length S.keep.length, .int .i64 S.calls, .bool S.down]) = g
  have hEg : Ext n h g := by rw [← hH]; exact ext
  have Rg : DkR g (n + 1) n o ka pa (flOf S) S.ps S.fuse S.keep S.calls S.down := by
    refine R.copy hEg (by rw [← hH]; exact info) (by rw [← hH]; exact cell) (fun i hi => ?_) (by rw [← hH]; exact cell) (by rw [← hH]; exact cell) (by rw [← hH]; exact cell) (by rw [← hH]; exact cell) (by rw [← hH]; exact cell)
    rcases (show i = 0 ∨ i = 1 ∨ i = 2 ∨ i = 3 by omega) with rfl | rfl | rfl | rfl <;> (rw [← hH]; exact cell)
  clear hH c0 c1 c2 c3 c4 c6 c7 c8 c9
  refine RC.loop ?_
  refine RL.inv (α := Nat × (Nat → Option Addr)) (fun s => [(10, .int .i64 (s.1 : Nat)), (3, .pointer (some ⟨n, 0, none⟩)), (0, .pointer (some ⟨d, 0, none⟩))])
    (fun s n1 h1 => s.1 ≤ 2 ∧ n + 1 ≤ n1 ∧ DkR h1 n1 n s.2 ka pa (flOf S) S.ps S.fuse S.keep S.calls S.down ∧ (∀ j, j < 4 → j % 2 < s.1 → s.2 j = none ∨ n ≤ sb (s.2 j)) ∧ Ext n h h1) (fun s => 2 - s.1) (0, o) envs ⟨by omega, Nat.le_refl _, Rg, fun j _ q => by simp at q, hEg⟩ ?_
  clear Rg hEg
  rintro ⟨f, o1⟩ n1 h1 ⟨hf, hn1, R1, ho1, hE1⟩
  dsimp only at hf R1 ho1 ⊢
  have hlt1 := R1.lt
  have hinf1 := R1.inf
  have Rd := R.ext hE1 (by omega : n ≤ n1)
  by_cases hf2 : f < 2
  · have d1 : h1.cell d (1 + f) = .slice (o f) (flOf S f).length (flOf S f).length := Rd.cf f (by omega)
    have d2 : h1.cell d (3 + f) = .slice (o (2 + f)) (flOf S (2 + f)).length (flOf S (2 + f)).length := by
      have := Rd.cf (2 + f) (by omega)
      rwa [show 1 + (2 + f) = 3 + f by omega] at this
    have S1 : SlB h1 n1 (o f) (flOf S f) := (Rd.fo f (by omega)).slb
    have S2 : SlB h1 n1 (o (2 + f)) (flOf S (2 + f)) := (Rd.fo (2 + f) (by omega)).slb
    have hl1 : (flOf S f).length ≤ 4194304 := by rw [flOf_lt _ hf2]; exact ok.now f
    have hl2 : (flOf S (2 + f)).length ≤ 4194304 := by rw [flOf_2]; exact ok.sure f
    have hltd : d < n1 := by omega
    repeat' (first | refine stpS ?_ | (refine stp2 ?_ ?_ <;> intro _))
    repeat' (first | refine stp ?_ | (refine stp2 ?_ ?_ <;> intro _))
    refine RD.call n1 rfl opds (clone_rf (flOf S f) (o f) _ n1 _ (S1.ext (AH.below_ext h1 n1) (Nat.le_refl _)) rfl (by omega)) (Nat.le_refl _) cfc ?_
    rintro r n2 h2 hle2 ⟨b1, rfl, hE, hO1⟩
    have hE2 : Ext n1 h1 h2 := hE.via (Nat.le_refl _) (AH.below_ext h1 n1)
    have d2' := c_ext hE2 hltd d2
    repeat' (first | refine stp ?_ | (refine stp2 ?_ ?_ <;> intro _))
    refine RD.call n2 rfl opds (clone_rf (flOf S (2 + f)) (o (2 + f)) _ n2 _ ((S2.ext hE2 hle2).ext (AH.below_ext h2 n2) (Nat.le_refl _)) rfl (by omega)) (Nat.le_refl _) cfc ?_
    rintro r n3 h3 hle3 ⟨b2, rfl, hE', hO2⟩
    have hE3 : Ext n2 h2 h3 := hE'.via (Nat.le_refl _) (AH.below_ext h2 n2)
    have hE13 : Ext n1 h1 h3 := hE2.trans hle2 hE3
    have hinf3 : h3.info n = some ⟨10, 0, true, 0⟩ := (hE13.info n hlt1).trans hinf1
    have at1 := hO1.at'
    have at2 := hO2.at'
    repeat' (first | refine stp ?_ | (refine stp2 ?_ ?_ <;> intro _))
    have R2 := R1.fileJ (i := f) (j := 1 + f) (by omega) rfl (fun x hx _ => ⟨hE13.info x hx, fun k => hE13.cell x k hx⟩) hle2 ((hO1.ext hE3 (Nat.le_refl _)).mono (Nat.zero_le _)) (.inr (at1.imp id (·.1)))
    have R3 := R2.fileJ (i := 2 + f) (j := 3 + f) (by omega) (by omega) (h2 := h3.app (.sets n (1 + f) [.slice b1 (flOf S f).length (flOf S f).length])) (fun x hx _ => ⟨rfl, fun k => rfl⟩) hle3 ((hO2.mono (Nat.zero_le _)).setsN (at2.imp id (by omega))) (.inr (at2.imp id (by omega)))
    refine nextC.normal ⟨(f + 1, upd (upd o1 f b1) (2 + f) b2), by dsimp only; omega, envs, by dsimp only; omega, by omega, R3.congr fun j hj => ?_, fun j hj q => ?_, ext⟩
    · unfold upd
      by_cases e : j = 2 + f
      · rw [if_pos e, e]
      · rw [if_neg e]
        by_cases e2 : j = f
        · rw [if_pos e2, e2]
        · rw [if_neg e2]
    · dsimp only at q ⊢
      by_cases e : j = 2 + f
      · subst e; rw [upd_same]; exact at2.imp id (by omega)
      · rw [upd_ne _ _ e]
        by_cases e2 : j = f
        · subst e2; rw [upd_same]; exact at1.imp id (by omega)
        · rw [upd_ne _ _ e2]; exact ho1 j hj (by omega)
  · have hfe : f = 2 := by omega
    subst hfe
    have hlo := Rd.lo
    rw [← pcsL_zip] at hlo
    have hLl : (S.ps.zip pa).length = S.ps.length := by rw [List.length_zip, R.len, Nat.min_self]
    rw [← hLl] at hlo
    have hcw := cloneW_rf (S.ps.zip pa) (o 4) n1 h1 hlo (by omega)
    rw [hLl] at hcw
    have c5' := c_ext hE1 hlt c5
    have hltd : d < n1 := by omega
    repeat' (first | refine stpS ?_ | (refine stp2 ?_ ?_ <;> intro _))
    refine RS.call rfl opds hcw none'W ?_
    rintro r n2 h2 hle2 ⟨a4, rfl, hE4, hO4⟩
    rw [pcsL_zip] at hO4
    have at4 := hO4.at'
    have hinf2 : h2.info n = some ⟨10, 0, true, 0⟩ := (hE4.info n hlt1).trans hinf1
    repeat' (first | refine stpS ?_ | (refine stp2 ?_ ?_ <;> intro _))
    have R2 := R1.list (a' := a4) (ps' := S.ps) (pa' := pa) (fun x hx _ => ⟨hE4.info x hx, fun k => hE4.cell x k hx⟩) hle2 (hO4.mono (Nat.zero_le _)) (.inr (at4.imp id (·.1))) R.len (fun _ q => q) (fun k p hk _ => ⟨k, hk, rfl⟩)
    refine ⟨n, DkF n (upd o1 4 a4), DkG ka pa, rfl, ⟨ok, _, ka, pa, rfl, rfl, R2⟩, ?_, fun b q => q, ext⟩
    rintro b (rfl | ⟨j, hj, hne, rfl⟩)
    · exact Nat.le_refl _
    · by_cases e : j = 4
      · subst e; rw [upd_same] at hne ⊢
        have := at4.resolve_left hne
        omega
      · rw [upd_ne _ _ e] at hne ⊢
        exact (ho1 j (by omega) (by omega)).resolve_left hne
end
end Go.Proofs.Ytchfnjfmlhacfaa
