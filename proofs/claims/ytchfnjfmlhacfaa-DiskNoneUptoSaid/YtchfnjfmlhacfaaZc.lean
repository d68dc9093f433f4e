/- The law DiskDoes. -/
import Derived.Test.YtchfnjfmlhacfaaZb
namespace Go.Proofs.Ytchfnjfmlhacfaa
open Go.Abs

section
variable {h h0 h1 h2 h' : AH} {n n0 n1 n2 n' d d' r : Nat} {F1 G1 F2 G2 : Nat → Prop} {S S1 S2 S' : DS}
/-- Both were made behind n0 and are in the same state. -/
structure PL (n0 : Nat) (h0 : AH) (n : Nat) (h : AH) (d : Nat) (F1 G1 : Nat → Prop) (r : Nat) (F2 G2 : Nat → Prop) (S : DS) : Prop where
  pq : PQ h n d F1 G1 S r F2 G2 S
  o1 : ∀ b, F1 b → n0 ≤ b
  o2 : ∀ b, F2 b → n0 ≤ b
  le : n0 ≤ n
  ext : Ext n0 h0 h
theorem PL.step (D : PL n0 h0 n h d F1 G1 r F2 G2 S) (hn : n ≤ n') (e : Ext n h h') : PL n0 h0 n' h' d F1 G1 r F2 G2 S := ⟨D.pq.step hn e, D.o1, D.o2, Nat.le_trans D.le hn, D.ext.trans D.le e⟩
theorem PL.to (D : PL n0 h0 n h d F1 G1 r F2 G2 S) (hn : n ≤ n') (t : PTo n r F1 G1 F2 G2 h S' d' n' h') : ∃ F3 G3 F4 G4, PL n0 h0 n' h' d' F3 G3 r F4 G4 S' ∧ (∀ b, b < n → F3 b ∨ F4 b → F1 b ∨ F2 b) ∧ (∀ b, b < n → G3 b ∨ G4 b → G1 b ∨ G2 b) ∧ ExtW (fun b => F1 b ∨ F2 b) n h h' := by
  obtain ⟨F3, G3, F4, G4, P, s1, s2, s3, s4, e⟩ := t
  have hle := D.le
  refine ⟨F3, G3, F4, G4, ⟨P, fun b q => ?_, fun b q => ?_, by omega, ?_⟩, fun b hb q => q.imp (s1 b hb) (s3 b hb), fun b hb q => q.imp (s2 b hb) (s4 b hb), e⟩
  · by_cases k : b < n
    · exact D.o1 b (s1 b k q)
    · omega
  · by_cases k : b < n
    · exact D.o2 b (s3 b k q)
    · omega
  · have hno : ∀ x, x < n0 → ¬ (F1 x ∨ F2 x) := fun x hx q => by
      rcases q with q | q
      · have := D.o1 x q; omega
      · have := D.o2 x q; omega
    exact ⟨fun x hx => (e.info x (by omega) (hno x hx)).trans (D.ext.info x hx), fun x i hx => (e.cell x i (by omega) (hno x hx)).trans (D.ext.cell x i hx)⟩
theorem PL.low (D : PL n0 h0 n h d F1 G1 r F2 G2 S) {c : Option Addr} (hc : c ≠ none → sb c < n0) : c ≠ none → ¬ F1 (sb c) ∧ ¬ F2 (sb c) := fun q => by
  have := hc q
  exact ⟨fun k => by have := D.o1 _ k; omega, fun k => by have := D.o2 _ k; omega⟩
theorem PL.W (D : PL n0 h0 n h d F1 G1 r F2 G2 S) {W : Nat → Prop} (b : Nat) (k : F1 b ∨ F2 b) : W b ∨ n0 ≤ b := .inr (k.elim (D.o1 b) (D.o2 b))
end
set_option maxHeartbeats 4000000 in
theorem law_DiskDoes (L1 : List OpE) (a1 : Option Addr) (m n : Nat) (h : AH) (B1 : OpsRep h n a1 L1 m) (hn : 0 < n) (hm1 : L1.length ≤ 1048576) (hm : L1.length * m ≤ 1099510000000) (h1m : 1 ≤ m) (hmm : m ≤ 1048576) :
    RF Try.prog none' 7 #[.slice a1 L1.length L1.length] n h (fun r _ _ => r = .bool true) := by
  refine RF.of Try.func7 rfl rfl (Nat.le_of_ble_eq_true rfl) ?_; dsimp only [argEnv]
  repeat' (first | refine stpS ?_ | (refine stp2 ?_ ?_ <;> intro _))
  refine RS.call rfl opds (new_rf n h hn) none'W ?_
  rintro v n1 h1 hle ⟨d, F1, G1, rfl, D, hF1, hG1, e1⟩
  repeat' (first | refine stpS ?_ | (refine stp2 ?_ ?_ <;> intro _))
  refine RS.call rfl opds (rnew_rf n1 h1 (by omega)) none'W ?_
  rintro v n2 h2 hle2 ⟨r, F2, G2, rfl, D2, hF2, hG2, e2⟩
  have P : PL n h n2 h2 d F1 G1 r F2 G2 DS.init := ⟨⟨D.ext e2 hle2, D2, fun b q k => by have := D.ltF _ q; have := hF2 b k; omega, fun b _ k => hG2 b k, fun b _ k => hG1 b k⟩, hF1, fun b q => Nat.le_trans hle (hF2 b q), by omega, e1.trans hle e2⟩
  clear D D2 hF1 hF2 hG1 hG2 e1 e2
  repeat' (first | refine stpS ?_ | (refine stp2 ?_ ?_ <;> intro _))
  refine RS.call rfl opds (begun_rf n2 h2 (by omega)) none'W ?_
  rintro v n3 h3 hle3 ⟨rfl, e3⟩
  have P := P.step hle3 e3
  repeat' (first | refine stpS ?_ | (refine stp2 ?_ ?_ <;> intro _))
  refine RC.loop ?_
  refine RL.inv (α := Nat × DS × Nat × (Nat → Prop) × (Nat → Prop) × (Nat → Prop) × (Nat → Prop)) (fun s => [(18, .int .i64 (s.1 : Nat)), (17, .int .i64 L1.length), (16, .slice a1 L1.length L1.length), (3, .pointer (some ⟨s.2.2.1, 0, none⟩)), (4, .pointer (some ⟨r, 0, none⟩))])
    (fun s n4 h4 => s.1 ≤ L1.length ∧ s.2.1.calls ≤ s.1 ∧ s.2.1.ps.length ≤ s.1 * m ∧ PL n h n4 h4 s.2.2.1 s.2.2.2.1 s.2.2.2.2.1 r s.2.2.2.2.2.1 s.2.2.2.2.2.2 s.2.1) (fun s => L1.length - s.1)
    (0, DS.init, d, F1, G1, F2, G2) envs ⟨by omega, by simp [DS.init], by simp [DS.init], P⟩ ?_
  clear P
  rintro ⟨i, S, d, F1, G1, F2, G2⟩ n4 h4 ⟨hi, hcl, hps, P⟩
  dsimp only at hi hcl hps P ⊢
  have hlt1 := P.pq.a.lt
  have hlt2 := P.pq.b.lt
  have hle4 := P.le
  by_cases hlti : i < L1.length
  · obtain ⟨x, hx⟩ : ∃ x, L1[i]? = some x := ⟨L1[i], by simp [hlti]⟩
    have B := B1.ext P.ext P.le
    obtain ⟨⟨c0, c1, c2, c3, c4, c5⟩, ok⟩ := B.at_ i x hx
    obtain ⟨-, ok0⟩ := B1.at_ i x hx
    have hA := B.shp.sla
    have hba := B.shp.lt (by omega)
    have him : (i + 1) * m ≤ L1.length * m := Nat.mul_le_mul_right _ (by omega)
    rw [Nat.succ_mul] at him
    have hob := op_bound S x h1m ok.dl
    have E5 : Ext n4 h4 ((h4.app (.new n4 ⟨6, 0, true, 0⟩ [.int .i64 0, .int .i64 0, .int .i64 0, .int .i64 0, .slice none 0 0, .slice none 0 0])).app (.sets n4 0 x.cells)) := ext
    have P5 := P.step (Nat.le_succ n4) E5
    repeat' (first | refine stpS ?_ | (refine stp2 ?_ ?_ <;> intro _))
    refine RS.call rfl opds (step_rf P5.pq x (ok.ext E5 (Nat.le_succ n4)) (P5.low fun q => ok0.data.ltA q) (P5.low fun q => ok0.keep.ltA q) hmm h1m (by omega) (by omega)) (fun b => P5.W b) ?_
    rintro v n6 h6 hle6 ⟨d', rfl, to, -⟩
    obtain ⟨F3, G3, F4, G4, P6, -, -, -⟩ := P5.to hle6 to
    repeat' (first | refine stpS ?_ | (refine stp2 ?_ ?_ <;> intro _))
    refine RS.call rfl opds (equal_rf P6.pq (by omega)) none'W ?_
    rintro v n7 h7 hle7 ⟨rfl, e7⟩
    have P7 := P6.step hle7 e7
    repeat' (first | refine stpS ?_ | (refine stp2 ?_ ?_ <;> intro _))
    refine nextC.normal ⟨(i + 1, S.op x, d', F3, G3, F4, G4), by dsimp only; omega, envs, by dsimp only; omega, by dsimp only; omega, by dsimp only; rw [Nat.succ_mul]; omega, P7⟩
  · have hie : i = L1.length := by omega
    subst hie
    repeat' (first | refine stpS ?_ | (refine stp2 ?_ ?_ <;> intro _))
    refine RS.call rfl opds (restart_dk P.pq.a) (fun b hb => P.W b (.inl hb)) ?_
    rintro v n5 h5 hle5 ⟨rfl, to⟩
    obtain ⟨F3, G3, D2, hF3, hG3, x2⟩ := P.pq.one hle5 to
    have hltr := D2.b.lt
    have hltd := D2.a.lt
    repeat' (first | refine stpS ?_ | (refine stp2 ?_ ?_ <;> intro _))
    refine RS.call rfl opds (rrestart_rk D2.b) (fun b hb => P.W b (.inr hb)) ?_
    rintro v n6 h6 hle6 ⟨rfl, to⟩
    obtain ⟨F4, G4, D3, hF4, hG4, x3⟩ := D2.two hle6 to
    repeat' (first | refine stpS ?_ | (refine stp2 ?_ ?_ <;> intro _))
    refine RS.call rfl opds (equal_rf D3 (by show S.ps.length ≤ _; omega)) none'W ?_
    rintro v n7 h7 hle7 ⟨rfl, e7⟩
    repeat' (first | refine stpS ?_ | (refine stp2 ?_ ?_ <;> intro _))
    rfl
end Go.Proofs.Ytchfnjfmlhacfaa
