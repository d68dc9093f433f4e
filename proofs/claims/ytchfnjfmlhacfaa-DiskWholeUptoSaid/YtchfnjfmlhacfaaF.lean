/- A disk as a whole: its state, the blocks that its methods turn, those they only read. -/
import Derived.Test.YtchfnjfmlhacfaaE
namespace Go.Proofs.Ytchfnjfmlhacfaa
open Go.Abs

def flOf (S : DS) : Nat → List UInt8 := fun i => if i < 2 then S.now i else S.sure (i - 2)
theorem flOf_lt (S : DS) {i : Nat} (h : i < 2) : flOf S i = S.now i := by simp [flOf, h]
theorem flOf_2 (S : DS) (f : Nat) : flOf S (2 + f) = S.sure f := by simp [flOf, show ¬ 2 + f < 2 by omega]
/-- A disk lies at block d; F: the blocks that its methods turn; G: those that they only read. -/
def Dk (h : AH) (n d : Nat) (F G : Nat → Prop) (S : DS) : Prop :=
  DSOk S ∧ ∃ o ka pa, F = DkF d o ∧ G = DkG ka pa ∧ DkR h n d o ka pa (flOf S) S.ps S.fuse S.keep S.calls S.down
/-- From (n, h) the disk has come to the state S; what else lay below n is as it was. -/
def DkTo (n d : Nat) (F G : Nat → Prop) (h : AH) (S : DS) (n' : Nat) (h' : AH) : Prop :=
  ∃ F' G', Dk h' n' d F' G' S ∧ (∀ b, b < n → F' b → F b) ∧ (∀ b, b < n → G' b → G b) ∧ ExtW F n h h'

section
variable {h h1 h2 : AH} {n n1 n2 d : Nat} {F G : Nat → Prop} {S S1 S2 : DS}
theorem Dk.lt (D : Dk h n d F G S) : d < n := by
  obtain ⟨_, o, ka, pa, _, _, R⟩ := D
  exact R.lt
theorem Dk.ltF (D : Dk h n d F G S) : ∀ b, F b → b < n := by
  obtain ⟨_, o, ka, pa, rfl, _, R⟩ := D
  exact R.ltF
theorem Dk.ltG (D : Dk h n d F G S) : ∀ b, G b → b < n := by
  obtain ⟨_, o, ka, pa, _, rfl, R⟩ := D
  rintro b ⟨x, hx, hne, rfl⟩
  exact R.gl x hx hne
theorem Dk.inF (D : Dk h n d F G S) : F d := by
  obtain ⟨_, o, ka, pa, rfl, _, R⟩ := D
  exact .inl rfl
theorem Dk.apart (D : Dk h n d F G S) : ∀ b, F b → ¬ G b := by
  obtain ⟨_, o, ka, pa, rfl, rfl, R⟩ := D
  rintro b (rfl | ⟨i, hi, hne, rfl⟩) ⟨x, hx, hxe, e⟩
  · exact ((R.dg x hx).resolve_left hxe) e
  · rcases R.og i x hi hx with k | k | k
    · exact hne k
    · exact hxe k
    · exact k e
theorem Dk.ok (D : Dk h n d F G S) : DSOk S := D.1
theorem Dk.extW {W : Nat → Prop} (D : Dk h n d F G S) (e : ExtW W n h h1) (hn : n ≤ n1) (hF : ∀ b, F b → ¬ W b) (hG : ∀ b, G b → ¬ W b) : Dk h1 n1 d F G S := by
  obtain ⟨ok, o, ka, pa, rfl, rfl, R⟩ := D
  exact ⟨ok, o, ka, pa, rfl, rfl, R.extW e hn hF hG⟩
theorem Dk.ext (D : Dk h n d F G S) (e : Ext n h h1) (hn : n ≤ n1) : Dk h1 n1 d F G S := by
  obtain ⟨ok, o, ka, pa, rfl, rfl, R⟩ := D
  exact ⟨ok, o, ka, pa, rfl, rfl, R.ext e hn⟩
theorem Dk.to (D : Dk h n d F G S) : DkTo n d F G h S n h := ⟨F, G, D, fun _ _ q => q, fun _ _ q => q, ExtW.refl _ _ _⟩
theorem DkTo.mk {o o' : Nat → Option Addr} {ka : Option Addr} {pa pa' : List (Option Addr)} (ok : DSOk S) (R : DkR h1 n1 d o' ka pa' (flOf S) S.ps S.fuse S.keep S.calls S.down) (ho : oNew n o o') (hp : ∀ x, x ∈ pa' → x ∈ pa ∨ x = none ∨ n ≤ sb x) (e : ExtW (DkF d o) n h h1) :
    DkTo n d (DkF d o) (DkG ka pa) h S n1 h1 := by
  refine ⟨_, _, ⟨ok, o', ka, pa', rfl, rfl, R⟩, fun b hb q => ho.F b hb q, ?_, e⟩
  rintro b hb ⟨x, hx, hne, rfl⟩
  simp only [List.mem_cons] at hx
  rcases hx with rfl | hx
  · exact ⟨x, by simp, hne, rfl⟩
  · rcases hp x hx with k | k | k
    · exact ⟨x, by simp [k], hne, rfl⟩
    · exact absurd k hne
    · omega
theorem DkTo.trans {F1 G1 : Nat → Prop} (a : ExtW F n h h1) (hF : ∀ b, b < n → F1 b → F b) (hG : ∀ b, b < n → G1 b → G b) (hn : n ≤ n1) (b : DkTo n1 d F1 G1 h1 S n2 h2) : DkTo n d F G h S n2 h2 := by
  obtain ⟨F2, G2, D, f, g, e⟩ := b
  exact ⟨F2, G2, D, fun b hb q => hF b hb (f b (by omega) q), fun b hb q => hG b hb (g b (by omega) q), a.trans e hn hF⟩
theorem loseP_ok {S : DS} (h : DSOk S) (ks : List Bool) : DSOk (S.lose ks) :=
  ⟨fun p hp => (by cases hp), loseP_le h.sure h.ps, ⟨by simp [DS.lose], by simp [DS.lose]⟩, h.calls, h.keep⟩
theorem lose_now (S : DS) (ks : List Bool) (f : Nat) : (S.lose ks).now f = loseP S.sure S.ps ks f := rfl
theorem none_dk (D : Dk h n d F G S) : Ev Try.prog none' 39 #[.pointer (some ⟨d, 0, none⟩)] n h (.bool false) n h := by
  obtain ⟨ok, o, ka, pa, rfl, rfl, R⟩ := D
  exact none_ev R
theorem may_dk (D : Dk h n d F G S) (f : Int) : Ev Try.prog none' 33 #[.pointer (some ⟨d, 0, none⟩), .int .i64 f] n h (.int .i64 (S.may f)) n h := by
  obtain ⟨ok, o, ka, pa, rfl, rfl, R⟩ := D
  exact may_ev R f
/-- lose, of the whole disk. -/
theorem lose_dk {c : Option Addr} {ks : List Bool} (D : Dk h n d F G S) (hps : S.ps.length ≤ 1099511627776) (hks : ks.length ≤ 1099511627776) (hS : SlT h n c ks) (hc : c ≠ none → ¬ F (sb c)) :
    RF Try.prog F 40 #[.pointer (some ⟨d, 0, none⟩), .slice c ks.length ks.length] n h (fun _ n' h' => DkTo n d F G h (S.lose ks) n' h') := by
  obtain ⟨ok, o, ka, pa, rfl, rfl, R⟩ := D
  have hco : ∀ i, i < 5 → apt (o i) c := fun i hi => by
    by_cases q : o i = none
    · exact .inl q
    · by_cases q2 : c = none
      · exact .inr (.inl q2)
      · exact .inr (.inr fun e => hc q2 (.inr ⟨i, hi, q, e.symm⟩))
  have hcd : apd d c := by
    by_cases q2 : c = none
    · exact .inl q2
    · exact .inr fun e => hc q2 (.inl e.symm)
  refine (lose_rf R ok.ps (fun f => by rw [flOf_2]; exact ok.sure f) hps hks hS hco hcd).mono ?_
  rintro r n' h' ⟨o', R', ho, e⟩
  refine DkTo.mk (loseP_ok ok ks) (R'.congr fun i hi => ?_) ho (fun x hx => by cases hx) e
  have e2 : (fun f => flOf S (2 + f)) = S.sure := funext fun f => flOf_2 S f
  rw [e2]
  unfold flOf
  by_cases h2 : i < 2
  · rw [if_pos h2, Nat.mod_eq_of_lt h2]; rfl
  · rw [if_neg h2]
    show loseP S.sure S.ps ks (i % 2) = loseP S.sure S.ps ks (i - 2)
    rw [show i % 2 = i - 2 by omega]
end
end Go.Proofs.Ytchfnjfmlhacfaa
