/- The disk and the document's, side by side: equal, same. -/
import Derived.Test.YtchfnjfmlhacfaaYf
import Derived.Test.YtchfnjfmlhacfaaYg
import Derived.Test.YtchfnjfmlhacfaaNc
import Derived.Test.YtchfnjfmlhacfaaArg
namespace Go.Proofs.Ytchfnjfmlhacfaa
open Go.Abs

section
variable {h h0 h1 h2 h' : AH} {n n0 n1 n2 n' d r : Nat} {F G F1 G1 F2 G2 F3 G3 F4 G4 : Nat → Prop} {S S1 S2 S' : DS}
/-- A disk and a document's disk, apart. -/
structure PQ (h : AH) (n d : Nat) (F1 G1 : Nat → Prop) (S1 : DS) (r : Nat) (F2 G2 : Nat → Prop) (S2 : DS) : Prop where
  a : Dk h n d F1 G1 S1
  b : Rk h n r F2 G2 S2
  ff : ∀ b, F1 b → ¬ F2 b
  fg : ∀ b, F1 b → ¬ G2 b
  gf : ∀ b, F2 b → ¬ G1 b
theorem PQ.step (D : PQ h n d F1 G1 S1 r F2 G2 S2) (hn : n ≤ n') (e : Ext n h h') : PQ h' n' d F1 G1 S1 r F2 G2 S2 := ⟨D.a.ext e hn, D.b.ext e hn, D.ff, D.fg, D.gf⟩
theorem PQ.one (D : PQ h n d F1 G1 S1 r F2 G2 S2) (hn : n ≤ n') (t : DkTo n d F1 G1 h S' n' h') : ∃ F G, PQ h' n' d F G S' r F2 G2 S2 ∧ (∀ b, b < n → F b → F1 b) ∧ (∀ b, b < n → G b → G1 b) ∧ ExtW F1 n h h' := by
  obtain ⟨F, G, L, hF, hG, e⟩ := t
  have hlt := D.b.ltF
  have hltG := D.b.ltG
  exact ⟨F, G, ⟨L, D.b.extW e hn (fun b q k => D.ff b k q) (fun b q k => D.fg b k q), fun b q k => D.ff b (hF b (hlt b k) q) k, fun b q k => D.fg b (hF b (hltG b k) q) k, fun b q k => D.gf b q (hG b (hlt b q) k)⟩, hF, hG, e⟩
theorem PQ.two (D : PQ h n d F1 G1 S1 r F2 G2 S2) (hn : n ≤ n') (t : RkTo n r F2 G2 h S' n' h') : ∃ F G, PQ h' n' d F1 G1 S1 r F G S' ∧ (∀ b, b < n → F b → F2 b) ∧ (∀ b, b < n → G b → G2 b) ∧ ExtW F2 n h h' := by
  obtain ⟨F, G, L, hF, hG, e⟩ := t
  have hlt := D.a.ltF
  have hltG := D.a.ltG
  exact ⟨F, G, ⟨D.a.extW e hn (fun b q k => D.ff b q k) (fun b q k => D.gf b k q), L, fun b q k => D.ff b q (hF b (hlt b q) k), fun b q k => D.fg b q (hG b (hlt b q) k), fun b q k => D.gf b (hF b (hltG b k) q) k⟩, hF, hG, e⟩
/-- Both have come to the state S; what else lay below n is as it was. -/
def PTo (n r : Nat) (F1 G1 F2 G2 : Nat → Prop) (h : AH) (S : DS) (d' n' : Nat) (h' : AH) : Prop :=
  ∃ F3 G3 F4 G4, PQ h' n' d' F3 G3 S r F4 G4 S ∧ (∀ b, b < n → F3 b → F1 b) ∧ (∀ b, b < n → G3 b → G1 b) ∧ (∀ b, b < n → F4 b → F2 b) ∧ (∀ b, b < n → G4 b → G2 b) ∧ ExtW (fun b => F1 b ∨ F2 b) n h h'
set_option maxHeartbeats 4000000 in
theorem rsame_rk {r2 : Nat} (D1 : Rk h n r F1 G1 S1) (D2 : Rk h n r2 F2 G2 S2) (hp1 : S1.ps.length ≤ 1099511627776) (hp2 : S2.ps.length ≤ 1099511627776) :
    RF Try.prog none' 26 #[.pointer (some ⟨r, 0, none⟩), .pointer (some ⟨r2, 0, none⟩)] n h (fun v n' h' => v = .bool (decide (S1.now 0 = S2.now 0 ∧ S1.now 1 = S2.now 1)) ∧ Ext n h h') := by
  refine RF.of Try.func26 rfl rfl (Nat.le_of_ble_eq_true rfl) ?_; dsimp only [argEnv]
  have hba : ∀ x y : List UInt8, ((⟨x.toArray⟩ : ByteArray) = ⟨y.toArray⟩) ↔ x = y := by
    intro x y; constructor
    · intro q; injection q with q; simpa using congrArg Array.toList q
    · intro q; rw [q]
  repeat' (first | refine stpS ?_ | (refine stp2 ?_ ?_ <;> intro _))
  repeat' (first | refine stp ?_ | (refine stp2 ?_ ?_ <;> intro _))
  refine RD.call n rfl opds (rnow_rk (f := 0) (D1.ext (AH.below_ext h n) (Nat.le_refl _)) hp1 (by omega)) (Nat.le_refl _) cfc ?_
  rintro v n1 h1 hle1 ⟨a1, rfl, e1, s1⟩
  have e1 := e1.via (Nat.le_refl _) (AH.below_ext h n)
  have hn1 : 0 < n1 := by have := D1.lt; omega
  repeat' (first | refine stp ?_ | (refine stp2 ?_ ?_ <;> intro _))
  refine RD.call n1 rfl opds (rnow_rk (f := 0) ((D2.ext e1 hle1).ext (AH.below_ext h1 n1) (Nat.le_refl _)) hp2 (by omega)) (Nat.le_refl _) cfc ?_
  rintro v n2 h2 hle2 ⟨a2, rfl, e2, s2⟩
  have e2 := e2.via (Nat.le_refl _) (AH.below_ext h1 n1)
  have e02 : Ext n h h2 := e1.trans hle1 e2
  repeat' (first | refine stp ?_ | (refine stp2 ?_ ?_ <;> intro _))
  · rename_i q
    have q0 : S1.now 0 = S2.now 0 := (hba _ _).1 q
    refine RD.call n2 rfl opds (rnow_rk (f := 1) ((D1.ext e02 (by omega)).ext (AH.below_ext h2 n2) (Nat.le_refl _)) hp1 (by omega)) (Nat.le_refl _) cfc ?_
    rintro v n3 h3 hle3 ⟨a3, rfl, e3, s3⟩
    have e3 := e3.via (Nat.le_refl _) (AH.below_ext h2 n2)
    have e03 : Ext n h h3 := e02.trans (by omega) e3
    repeat' (first | refine stp ?_ | (refine stp2 ?_ ?_ <;> intro _))
    refine RD.call n3 rfl opds (rnow_rk (f := 1) ((D2.ext e03 (by omega)).ext (AH.below_ext h3 n3) (Nat.le_refl _)) hp2 (by omega)) (Nat.le_refl _) cfc ?_
    rintro v n4 h4 hle4 ⟨a4, rfl, e4, s4⟩
    have e4 := e4.via (Nat.le_refl _) (AH.below_ext h3 n3)
    have e04 : Ext n h h4 := e03.trans (by omega) e4
    repeat' (first | refine stp ?_ | (refine stp2 ?_ ?_ <;> intro _))
    · rename_i q
      have q1 : S1.now 1 = S2.now 1 := (hba _ _).1 q
      exact ⟨by simp [q0, q1], e04⟩
    · rename_i q
      have q1 : ¬ S1.now 1 = S2.now 1 := fun h => q ((hba _ _).2 h)
      exact ⟨by simp [q1], e04⟩
  · rename_i q
    have q0 : ¬ S1.now 0 = S2.now 0 := fun h => q ((hba _ _).2 h)
    exact ⟨by simp [q0], e02⟩
set_option maxHeartbeats 4000000 in
theorem equal_rf (D : PQ h n d F1 G1 S r F2 G2 S) (hps : S.ps.length ≤ 1099511627776) :
    RF Try.prog none' 27 #[.pointer (some ⟨d, 0, none⟩), .pointer (some ⟨r, 0, none⟩)] n h (fun v n' h' => v = .bool true ∧ Ext n h h') := by
  refine RF.of Try.func27 rfl rfl (Nat.le_of_ble_eq_true rfl) ?_; dsimp only [argEnv]
  have Db := D.step (Nat.le_refl n) (AH.below_ext h n)
  obtain ⟨sa, ol, ka, C⟩ := D.b.cell
  have c2 : h.cell r 2 = .slice ol S.ps.length S.ps.length := C 2 _ rfl
  have hlr := D.b.lt
  repeat' (first | refine stpS ?_ | (refine stp2 ?_ ?_ <;> intro _))
  repeat' (first | refine stp ?_ | (refine stp2 ?_ ?_ <;> intro _))
  refine RD.callP n rfl opds (down_dk Db.a) (Nat.le_refl _) cfc ?_
  repeat' (first | refine stp ?_ | (refine stp2 ?_ ?_ <;> intro _))
  refine RD.callP n rfl opds (rdown_rk Db.b) (Nat.le_refl _) cfc ?_
  repeat' (first | refine stp ?_ | (refine stp2 ?_ ?_ <;> intro _))
  refine RD.callP n rfl opds (calls_dk Db.a) (Nat.le_refl _) cfc ?_
  repeat' (first | refine stp ?_ | (refine stp2 ?_ ?_ <;> intro _))
  refine RD.callP n rfl opds (rcalls_rk Db.b) (Nat.le_refl _) cfc ?_
  repeat' (first | refine stp ?_ | (refine stp2 ?_ ?_ <;> intro _))
  refine RD.callP n rfl opds (pending_dk Db.a) (Nat.le_refl _) cfc ?_
  repeat' (first | refine stp ?_ | (refine stp2 ?_ ?_ <;> intro _))
  refine RC.loop ?_
  refine RL.inv (α := Nat) (fun s => [(30, .int .i64 (s : Nat)), (0, .pointer (some ⟨d, 0, none⟩)), (1, .pointer (some ⟨r, 0, none⟩))])
    (fun s n1 h1 => s ≤ 2 ∧ n ≤ n1 ∧ Ext n h h1) (fun s => 2 - s) 0 envs ⟨by omega, Nat.le_refl _, Ext.refl _ _⟩ ?_
  rintro f n1 h1 ⟨hf, hn1, e1⟩
  have D1 := D.step hn1 e1
  have hlt1 := D1.a.lt
  have hlt2 := D1.b.lt
  by_cases hf2 : f < 2
  · have hno := D1.a.ok.now f
    cases hd : S.down
    · have hrd : S.read (f : Int) 0 4194304 = (0, S.now f) := by
        have h2 := read_zero (S := S) (i := f) (at_ := 0) (k := 4194304) hd hf2
        rw [List.drop_zero, List.take_of_length_le hno] at h2
        exact h2
      have hr := read_dk D1.a f 0 4194304
      rw [hrd] at hr
      dsimp only at hr
      repeat' (first | refine stpS ?_ | (refine stp2 ?_ ?_ <;> intro _))
      refine RS.call rfl opds hr none'W ?_
      rintro v n2 h2 hle2 ⟨a2, rfl, e2, hO2⟩
      have D2 := D1.step hle2 e2
      have hdn := rdown_rk D2.b
      rw [hd] at hdn
      have hlt3 := D2.b.lt
      repeat' (first | refine stpS ?_ | (refine stp2 ?_ ?_ <;> intro _) | refine RS.call1 rfl opds (hdn) none'W ?_)
      refine RS.call rfl opds (rnow_rk D2.b hps hf2) none'W ?_
      rintro v n3 h3 hle3 ⟨a3, rfl, e3, s3⟩
      have q0 := equal_ev (S.now f) (S.now f) a2 a3 _ _ n3 h3 (SlR.ext hO2.slbE e3 hle3) s3 rfl rfl
      rw [decide_eq_true rfl] at q0
      repeat' (first | refine stpS ?_ | (refine stp2 ?_ ?_ <;> intro _) | refine RS.call1 rfl opds (q0) none'W ?_)
      refine nextC.normal ⟨f + 1, by omega, envs, by omega, by omega, e1.trans hn1 (e2.trans hle2 e3)⟩
    · have hr := read_dk D1.a f 0 4194304
      repeat' (first | refine stpS ?_ | (refine stp2 ?_ ?_ <;> intro _))
      refine RS.call rfl opds hr none'W ?_
      rintro v n2 h2 hle2 ⟨a2, rfl, e2, hO2⟩
      have D2 := D1.step hle2 e2
      have hdn := rdown_rk D2.b
      rw [hd] at hdn
      have hlt3 := D2.b.lt
      repeat' (first | refine stpS ?_ | (refine stp2 ?_ ?_ <;> intro _) | refine RS.call1 rfl opds (hdn) none'W ?_)
      refine nextC.normal ⟨f + 1, by omega, envs, by omega, by omega, e1.trans hn1 e2⟩
  · repeat' (first | refine stpS ?_ | (refine stp2 ?_ ?_ <;> intro _))
    exact ⟨rfl, e1⟩
end
end Go.Proofs.Ytchfnjfmlhacfaa
