/- The law DiskSame; disks that no call made. -/
import Derived.Test.YtchfnjfmlhacfaaZc
namespace Go.Proofs.Ytchfnjfmlhacfaa
open Go.Abs

section
variable {h h0 h1 h2 h' : AH} {n n0 n1 n2 n' d d' r e e' s : Nat} {F1 G1 F2 G2 F3 G3 F4 G4 : Nat → Prop} {S S1 S2 S' : DS}
/-- Two pairs, apart. -/
structure PP (n0 : Nat) (h0 : AH) (n : Nat) (h : AH) (d : Nat) (F1 G1 : Nat → Prop) (r : Nat) (F2 G2 : Nat → Prop) (S1 : DS) (e : Nat) (F3 G3 : Nat → Prop) (s : Nat) (F4 G4 : Nat → Prop) (S2 : DS) : Prop where
  a : PL n0 h0 n h d F1 G1 r F2 G2 S1
  b : PL n0 h0 n h e F3 G3 s F4 G4 S2
  ff : ∀ b, (F1 b ∨ F2 b) → ¬ (F3 b ∨ F4 b)
  fg : ∀ b, (F1 b ∨ F2 b) → ¬ (G3 b ∨ G4 b)
  gf : ∀ b, (F3 b ∨ F4 b) → ¬ (G1 b ∨ G2 b)
theorem PP.symm (D : PP n0 h0 n h d F1 G1 r F2 G2 S1 e F3 G3 s F4 G4 S2) : PP n0 h0 n h e F3 G3 s F4 G4 S2 d F1 G1 r F2 G2 S1 := ⟨D.b, D.a, fun b q k => D.ff b k q, D.gf, D.fg⟩
theorem PP.step (D : PP n0 h0 n h d F1 G1 r F2 G2 S1 e F3 G3 s F4 G4 S2) (hn : n ≤ n') (x : Ext n h h') : PP n0 h0 n' h' d F1 G1 r F2 G2 S1 e F3 G3 s F4 G4 S2 := ⟨D.a.step hn x, D.b.step hn x, D.ff, D.fg, D.gf⟩
theorem PP.one (D : PP n0 h0 n h d F1 G1 r F2 G2 S1 e F3 G3 s F4 G4 S2) (hn : n ≤ n') (t : PTo n r F1 G1 F2 G2 h S' d' n' h') : ∃ F5 G5 F6 G6, PP n0 h0 n' h' d' F5 G5 r F6 G6 S' e F3 G3 s F4 G4 S2 := by
  obtain ⟨F5, G5, F6, G6, P, hF, hG, x⟩ := D.a.to hn t
  have l3 := D.b.pq.a.ltF
  have l4 := D.b.pq.b.ltF
  have g3 := D.b.pq.a.ltG
  have g4 := D.b.pq.b.ltG
  have q : PQ h' n' e F3 G3 S2 s F4 G4 S2 := ⟨D.b.pq.a.extW x hn (fun b q k => D.ff b k (.inl q)) (fun b q k => D.fg b k (.inl q)), D.b.pq.b.extW x hn (fun b q k => D.ff b k (.inr q)) (fun b q k => D.fg b k (.inr q)), D.b.pq.ff, D.b.pq.fg, D.b.pq.gf⟩
  exact ⟨F5, G5, F6, G6, P, ⟨q, D.b.o1, D.b.o2, P.le, P.ext⟩, fun b q k => D.ff b (hF b (k.elim (l3 b) (l4 b)) q) k, fun b q k => D.fg b (hF b (k.elim (g3 b) (g4 b)) q) k, fun b q k => D.gf b q (hG b (q.elim (l3 b) (l4 b)) k)⟩
/-- A disk that no call made. -/
def Unm (h : AH) (n : Nat) (v : Value) : Prop := v = .pointer none ∨ ∃ d, v = .pointer (some ⟨d, 0, none⟩) ∧ d < n ∧ h.cell d 0 = .bool false
theorem Unm.ext {v : Value} (u : Unm h n v) (x : Ext n h h') (hn : n ≤ n') : Unm h' n' v := by
  rcases u with rfl | ⟨d, rfl, k, c⟩
  · exact .inl rfl
  · exact .inr ⟨d, rfl, by omega, (x.cell d 0 k).trans c⟩
set_option maxHeartbeats 4000000 in
theorem none_un {v : Value} (u : Unm h n v) : Ev Try.prog none' 39 #[v] n h (.bool true) n h := by
  refine RF.pure rfl fun n' hn => ?_
  have u := u.ext (Ext.refl n h) hn
  refine RF.of Try.func39 rfl rfl (Nat.le_of_ble_eq_true rfl) ?_; dsimp only [argEnv]
  rcases u with rfl | ⟨d, rfl, k, c⟩
  · repeat' (first | refine stpS ?_ | (refine stp2 ?_ ?_ <;> intro _))
    rfl
  · repeat' (first | refine stpS ?_ | (refine stp2 ?_ ?_ <;> intro _))
    rfl
set_option maxHeartbeats 4000000 in
theorem same_un1 {v w : Value} (u : Unm h n v) (hw : flat 8 w = true ∨ True) : RF Try.prog none' 22 #[v, w] n h (fun r n' h' => r = .bool false ∧ n' = n ∧ h' = h) := by
  refine RF.of Try.func22 rfl rfl (Nat.le_of_ble_eq_true rfl) ?_; dsimp only [argEnv]
  rcases u with rfl | ⟨d, rfl, k, c⟩
  · repeat' (first | refine stpS ?_ | (refine stp2 ?_ ?_ <;> intro _))
    repeat' (first | refine stp ?_ | (refine stp2 ?_ ?_ <;> intro _))
    refine RD.callP n rfl opds (none_un ((Unm.ext (.inl rfl) (AH.below_ext h n) (Nat.le_refl _)))) (Nat.le_refl _) cfc ?_
    repeat' (first | refine stp ?_ | (refine stp2 ?_ ?_ <;> intro _))
    exact ⟨rfl, rfl, rfl⟩
  · repeat' (first | refine stpS ?_ | (refine stp2 ?_ ?_ <;> intro _))
    repeat' (first | refine stp ?_ | (refine stp2 ?_ ?_ <;> intro _))
    refine RD.callP n rfl opds (none_un ((Unm.ext (.inr ⟨d, rfl, k, c⟩) (AH.below_ext h n) (Nat.le_refl _)))) (Nat.le_refl _) cfc ?_
    repeat' (first | refine stp ?_ | (refine stp2 ?_ ?_ <;> intro _))
    exact ⟨rfl, rfl, rfl⟩
set_option maxHeartbeats 4000000 in
theorem same_un2 {v : Value} (D : Dk h n d F1 G1 S) (u : Unm h n v) : RF Try.prog none' 22 #[.pointer (some ⟨d, 0, none⟩), v] n h (fun r n' h' => r = .bool false ∧ n' = n ∧ h' = h) := by
  refine RF.of Try.func22 rfl rfl (Nat.le_of_ble_eq_true rfl) ?_; dsimp only [argEnv]
  rcases u with rfl | ⟨d2, rfl, k, c⟩
  · repeat' (first | refine stpS ?_ | (refine stp2 ?_ ?_ <;> intro _))
    repeat' (first | refine stp ?_ | (refine stp2 ?_ ?_ <;> intro _))
    refine RD.callP n rfl opds (none_dk (D.ext (AH.below_ext h n) (Nat.le_refl _))) (Nat.le_refl _) cfc ?_
    repeat' (first | refine stp ?_ | (refine stp2 ?_ ?_ <;> intro _))
    refine RD.callP n rfl opds (none_un ((Unm.ext (.inl rfl) (AH.below_ext h n) (Nat.le_refl _)))) (Nat.le_refl _) cfc ?_
    repeat' (first | refine stp ?_ | (refine stp2 ?_ ?_ <;> intro _))
    exact ⟨rfl, rfl, rfl⟩
  · repeat' (first | refine stpS ?_ | (refine stp2 ?_ ?_ <;> intro _))
    repeat' (first | refine stp ?_ | (refine stp2 ?_ ?_ <;> intro _))
    refine RD.callP n rfl opds (none_dk (D.ext (AH.below_ext h n) (Nat.le_refl _))) (Nat.le_refl _) cfc ?_
    repeat' (first | refine stp ?_ | (refine stp2 ?_ ?_ <;> intro _))
    refine RD.callP n rfl opds (none_un ((Unm.ext (.inr ⟨d2, rfl, k, c⟩) (AH.below_ext h n) (Nat.le_refl _)))) (Nat.le_refl _) cfc ?_
    repeat' (first | refine stp ?_ | (refine stp2 ?_ ?_ <;> intro _))
    exact ⟨rfl, rfl, rfl⟩
end
set_option maxHeartbeats 4000000 in
theorem law_DiskSame (L1 L2 : List OpE) (a1 a2 : Option Addr) (m1 m2 n : Nat) (h : AH) (B1 : OpsRep h n a1 L1 m1) (B2 : OpsRep h n a2 L2 m2) (hn : 0 < n) (hm1 : L1.length ≤ 1048576) (hm2 : L2.length ≤ 1048576) (hm : L1.length * m1 ≤ 1099510000000) (hmb : L2.length * m2 ≤ 1099510000000) (h1m : 1 ≤ m1) (h2m : 1 ≤ m2) (hmm : m1 ≤ 1048576) (hmm2 : m2 ≤ 1048576) :
    RF Try.prog none' 6 #[.slice a1 L1.length L1.length, .slice a2 L2.length L2.length] n h (fun r _ _ => r = .bool true) := by
  refine RF.of Try.func6 rfl rfl (Nat.le_of_ble_eq_true rfl) ?_; dsimp only [argEnv]
  repeat' (first | refine stpS ?_ | (refine stp2 ?_ ?_ <;> intro _))
  refine RS.call rfl opds (new_rf n h hn) none'W ?_
  rintro v n1 h1 hle ⟨d, F1, G1, rfl, D1, hF1, hG1, e1⟩
  repeat' (first | refine stpS ?_ | (refine stp2 ?_ ?_ <;> intro _))
  refine RS.call rfl opds (new_rf n1 h1 (by omega)) none'W ?_
  rintro v n2 h2 hle2 ⟨e, F3, G3, rfl, D3, hF3, hG3, e2⟩
  repeat' (first | refine stpS ?_ | (refine stp2 ?_ ?_ <;> intro _))
  refine RS.call rfl opds (rnew_rf n2 h2 (by omega)) none'W ?_
  rintro v n3 h3 hle3 ⟨r, F2, G2, rfl, D2, hF2, hG2, e3⟩
  repeat' (first | refine stpS ?_ | (refine stp2 ?_ ?_ <;> intro _))
  refine RS.call rfl opds (rnew_rf n3 h3 (by omega)) none'W ?_
  rintro v n4 h4 hle4 ⟨s, F4, G4, rfl, D4, hF4, hG4, e4⟩
  have e12 := e1.trans hle e2
  have e13 := e12.trans (by omega) e3
  have e14 := e13.trans (by omega) e4
  have l1 := D1.ltF
  have l2 := D2.ltF
  have l3 := D3.ltF
  have P : PP n h n4 h4 d F1 G1 r F2 G2 DS.init e F3 G3 s F4 G4 DS.init :=
    ⟨⟨⟨((D1.ext e2 hle2).ext e3 hle3).ext e4 hle4, D2.ext e4 hle4, fun b q k => by have := l1 b q; have := hF2 b k; omega, fun b _ k => hG2 b k, fun b _ k => hG1 b k⟩, hF1, fun b q => by have := hF2 b q; omega, by omega, e14⟩,
     ⟨⟨(D3.ext e3 hle3).ext e4 hle4, D4, fun b q k => by have := l3 b q; have := hF4 b k; omega, fun b _ k => hG4 b k, fun b _ k => hG3 b k⟩, fun b q => by have := hF3 b q; omega, fun b q => by have := hF4 b q; omega, by omega, e14⟩,
     fun b q k => by
       rcases q with q | q <;> rcases k with k | k
       · have := l1 b q; have := hF3 b k; omega
       · have := l1 b q; have := hF4 b k; omega
       · have := l3 b k; have := hF2 b q; omega
       · have := l2 b q; have := hF4 b k; omega,
     fun b _ k => k.elim (hG3 b) (hG4 b), fun b _ k => k.elim (hG1 b) (hG2 b)⟩
  clear D1 D2 D3 D4 hF1 hF2 hF3 hF4 hG1 hG2 hG3 hG4 l1 l2 l3 e1 e2 e3 e4 e12 e13 e14
  repeat' (first | refine stpS ?_ | (refine stp2 ?_ ?_ <;> intro _))
  refine RS.call rfl opds (begun_rf n4 h4 (by omega)) none'W ?_
  rintro v n5 h5 hle5 ⟨rfl, e5⟩
  have P := P.step hle5 e5
  repeat' (first | refine stpS ?_ | (refine stp2 ?_ ?_ <;> intro _))
  refine RC.loop ?_
  refine RL.inv (α := Nat × DS × (Nat → Prop) × (Nat → Prop) × (Nat → Prop) × (Nat → Prop)) (fun z => [(29, .int .i64 (z.1 : Nat)), (28, .int .i64 L1.length), (27, .slice a1 L1.length L1.length), (1, .slice a2 L2.length L2.length), (5, .pointer (some ⟨d, 0, none⟩)), (7, .pointer (some ⟨r, 0, none⟩)), (6, .pointer (some ⟨e, 0, none⟩)), (8, .pointer (some ⟨s, 0, none⟩))])
    (fun q n4 h4 => q.1 ≤ L1.length ∧ q.2.1.calls ≤ q.1 ∧ q.2.1.ps.length ≤ q.1 * m1 ∧ PP n h n4 h4 d q.2.2.1 q.2.2.2.1 r q.2.2.2.2.1 q.2.2.2.2.2 q.2.1 e F3 G3 s F4 G4 DS.init) (fun z => L1.length - z.1)
    (0, DS.init, F1, G1, F2, G2) envs ⟨by omega, by simp [DS.init], by simp [DS.init], P⟩ ?_
  clear P
  rintro ⟨i, S, F1, G1, F2, G2⟩ n6 h6 ⟨hi, hcl, hps, P⟩
  dsimp only at hi hcl hps P ⊢
  have hlt1 := P.a.pq.a.lt
  have hlt2 := P.a.pq.b.lt
  have hlt3 := P.b.pq.a.lt
  have hlt4 := P.b.pq.b.lt
  have hle6 := P.a.le
  by_cases hlti : i < L1.length
  · obtain ⟨x, hx⟩ : ∃ x, L1[i]? = some x := ⟨L1[i], by simp [hlti]⟩
    have B := B1.ext P.a.ext P.a.le
    obtain ⟨⟨c0, c1, c2, c3, c4, c5⟩, ok⟩ := B.at_ i x hx
    obtain ⟨-, ok0⟩ := B1.at_ i x hx
    have hA := B.shp.sla
    have hba := B.shp.lt (by omega)
    have him : (i + 1) * m1 ≤ L1.length * m1 := Nat.mul_le_mul_right _ (by omega)
    rw [Nat.succ_mul] at him
    have hob := op_bound S x h1m ok.dl
    have E5 : Ext n6 h6 ((h6.app (.new n6 ⟨6, 0, true, 0⟩ [.int .i64 0, .int .i64 0, .int .i64 0, .int .i64 0, .slice none 0 0, .slice none 0 0])).app (.sets n6 0 x.cells)) := ext
    have P5 := P.step (Nat.le_succ n6) E5
    by_cases h7 : x.do_ = 7
    · repeat' (first | refine stpS ?_ | (refine stp2 ?_ ?_ <;> intro _))
      refine nextC.normal ⟨(i + 1, S, F1, G1, F2, G2), by dsimp only; omega, envs, by dsimp only; omega, by dsimp only; omega, by dsimp only; rw [Nat.succ_mul]; omega, P5⟩
    · have P6 := P5
      repeat' (first | refine stpS ?_ | (refine stp2 ?_ ?_ <;> intro _))
      refine RS.call rfl opds (step_rf P6.a.pq x (ok.ext E5 (Nat.le_succ n6)) (P6.a.low fun q => ok0.data.ltA q) (P6.a.low fun q => ok0.keep.ltA q) hmm h1m (by omega) (by omega)) (fun b => P6.a.W b) ?_
      rintro v n7 h7 hle7 ⟨d', rfl, to, hd⟩
      obtain rfl := hd (by omega)
      obtain ⟨F5, G5, F6, G6, P7⟩ := P6.one hle7 to
      repeat' (first | refine stpS ?_ | (refine stp2 ?_ ?_ <;> intro _))
      refine nextC.normal ⟨(i + 1, S.op x, F5, G5, F6, G6), by dsimp only; omega, envs, by dsimp only; omega, by dsimp only; omega, by dsimp only; rw [Nat.succ_mul]; omega, P7⟩
  · have hie : i = L1.length := by omega
    subst hie
    obtain ⟨S1, hS1⟩ : ∃ S1, S1 = S := ⟨_, rfl⟩
    rw [← hS1] at P hps hcl
    clear hS1
    have hps1 := hps
    clear hps hcl hi hlti
    repeat' (first | refine stpS ?_ | (refine stp2 ?_ ?_ <;> intro _))
    refine RC.loop ?_
    refine RL.inv (α := Nat × DS × (Nat → Prop) × (Nat → Prop) × (Nat → Prop) × (Nat → Prop)) (fun z => [(43, .int .i64 (z.1 : Nat)), (42, .int .i64 L2.length), (41, .slice a2 L2.length L2.length), (5, .pointer (some ⟨d, 0, none⟩)), (7, .pointer (some ⟨r, 0, none⟩)), (6, .pointer (some ⟨e, 0, none⟩)), (8, .pointer (some ⟨s, 0, none⟩))])
      (fun q n4 h4 => q.1 ≤ L2.length ∧ q.2.1.calls ≤ q.1 ∧ q.2.1.ps.length ≤ q.1 * m2 ∧ PP n h n4 h4 d F1 G1 r F2 G2 S1 e q.2.2.1 q.2.2.2.1 s q.2.2.2.2.1 q.2.2.2.2.2 q.2.1) (fun z => L2.length - z.1)
      (0, DS.init, F3, G3, F4, G4) envs ⟨by omega, by simp [DS.init], by simp [DS.init], P⟩ ?_
    clear P
    rintro ⟨i, S, F3, G3, F4, G4⟩ n6 h6 ⟨hi, hcl, hps, P⟩
    dsimp only at hi hcl hps P ⊢
    have hlt1 := P.a.pq.a.lt
    have hlt2 := P.a.pq.b.lt
    have hlt3 := P.b.pq.a.lt
    have hlt4 := P.b.pq.b.lt
    have hle6 := P.a.le
    by_cases hlti : i < L2.length
    · obtain ⟨x, hx⟩ : ∃ x, L2[i]? = some x := ⟨L2[i], by simp [hlti]⟩
      have B := B2.ext P.a.ext P.a.le
      obtain ⟨⟨c0, c1, c2, c3, c4, c5⟩, ok⟩ := B.at_ i x hx
      obtain ⟨-, ok0⟩ := B2.at_ i x hx
      have hA := B.shp.sla
      have hba := B.shp.lt (by omega)
      have him : (i + 1) * m2 ≤ L2.length * m2 := Nat.mul_le_mul_right _ (by omega)
      rw [Nat.succ_mul] at him
      have hob := op_bound S x h2m ok.dl
      have E5 : Ext n6 h6 ((h6.app (.new n6 ⟨6, 0, true, 0⟩ [.int .i64 0, .int .i64 0, .int .i64 0, .int .i64 0, .slice none 0 0, .slice none 0 0])).app (.sets n6 0 x.cells)) := ext
      have P5 := P.step (Nat.le_succ n6) E5
      by_cases h7 : x.do_ = 7
      · repeat' (first | refine stpS ?_ | (refine stp2 ?_ ?_ <;> intro _))
        refine nextC.normal ⟨(i + 1, S, F3, G3, F4, G4), by dsimp only; omega, envs, by dsimp only; omega, by dsimp only; omega, by dsimp only; rw [Nat.succ_mul]; omega, P5⟩
      · have P6 := P5.symm
        repeat' (first | refine stpS ?_ | (refine stp2 ?_ ?_ <;> intro _))
        refine RS.call rfl opds (step_rf P6.a.pq x (ok.ext E5 (Nat.le_succ n6)) (P6.a.low fun q => ok0.data.ltA q) (P6.a.low fun q => ok0.keep.ltA q) hmm2 h2m (by omega) (by omega)) (fun b => P6.a.W b) ?_
        rintro v n7 h7 hle7 ⟨d', rfl, to, hd⟩
        obtain rfl := hd (by omega)
        obtain ⟨F5, G5, F6, G6, P7⟩ := P6.one hle7 to
        repeat' (first | refine stpS ?_ | (refine stp2 ?_ ?_ <;> intro _))
        refine nextC.normal ⟨(i + 1, S.op x, F5, G5, F6, G6), by dsimp only; omega, envs, by dsimp only; omega, by dsimp only; omega, by dsimp only; rw [Nat.succ_mul]; omega, P7.symm⟩
    · have hie : i = L2.length := by omega
      subst hie
      repeat' (first | refine stpS ?_ | (refine stp2 ?_ ?_ <;> intro _))
      have hp1 : S1.ps.length ≤ 1099511627776 := by omega
      have hp2 : S.ps.length ≤ 1099511627776 := by omega
      have hsm := same_ev P.a.pq.a P.b.pq.a
      repeat' (first | refine stpS ?_ | (refine stp2 ?_ ?_ <;> intro _) | refine RS.call1 rfl opds (hsm) none'W ?_)
      refine RS.call rfl opds (rsame_rk P.a.pq.b P.b.pq.b hp1 hp2) none'W ?_
      rintro v n8 h8 hle8 ⟨rfl, e8⟩
      have P8 := P.step hle8 e8
      have hdc : decide (S.now 0 = S1.now 0 ∧ S.now 1 = S1.now 1) = decide (S1.now 0 = S.now 0 ∧ S1.now 1 = S.now 1) := by
        congr 1
        exact propext ⟨fun q => ⟨q.1.symm, q.2.symm⟩, fun q => ⟨q.1.symm, q.2.symm⟩⟩
      have hsm2 := same_ev P8.b.pq.a P8.a.pq.a
      rw [hdc] at hsm2
      have hs2 := rsame_rk P8.a.pq.b P8.b.pq.b hp1 hp2
      have hlt1 := P8.a.pq.a.lt
      generalize decide (S1.now 0 = S.now 0 ∧ S1.now 1 = S.now 1) = q at *
      cases q <;>
        (repeat' (first | refine stpS ?_ | (refine stp2 ?_ ?_ <;> intro _) | refine RS.call1 rfl opds (hsm2) none'W ?_)
         refine RS.call rfl opds hs2 none'W ?_
         rintro v n9 h9 hle9 ⟨rfl, e9⟩
         have P9 := P8.step hle9 e9
         have hsm3 := same_ev P9.a.pq.a P9.a.pq.a
         rw [decide_eq_true ⟨rfl, rfl⟩] at hsm3
         repeat' (first | refine stpS ?_ | (refine stp2 ?_ ?_ <;> intro _))
         refine RS.call1 rfl opds hsm3 none'W ?_
         repeat' (first | refine stpS ?_ | (refine stp2 ?_ ?_ <;> intro _))
         refine RS.call rfl opds (same_un2 P9.a.pq.a (.inl rfl)) none'W ?_
         rintro v n10 h10 hle10 ⟨rfl, rfl, rfl⟩
         repeat' (first | refine stpS ?_ | (refine stp2 ?_ ?_ <;> intro _))
         refine RS.call rfl opds (same_un1 (.inl rfl) (.inr trivial)) none'W ?_
         rintro v n11 h11 hle11 ⟨rfl, rfl, rfl⟩
         repeat' (first | refine stpS ?_ | (refine stp2 ?_ ?_ <;> intro _))
         rfl)
end Go.Proofs.Ytchfnjfmlhacfaa
