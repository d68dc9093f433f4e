/- A disk of one's own; begun. -/
import Derived.Test.YtchfnjfmlhacfaaN
namespace Go.Proofs.Ytchfnjfmlhacfaa
open Go.Abs

section
variable {h h0 h1 h2 h' : AH} {n n0 n1 n2 n' d d1 d2 : Nat} {F G F1 G1 F2 G2 : Nat → Prop} {S S1 S2 S' : DS}
/-- A disk that was made behind n0; what lies below is as it was. -/
structure DL (n0 : Nat) (h0 : AH) (n : Nat) (h : AH) (d : Nat) (F G : Nat → Prop) (S : DS) : Prop where
  dk : Dk h n d F G S
  own : ∀ b, F b → n0 ≤ b
  le : n0 ≤ n
  ext : Ext n0 h0 h
theorem DL.to (D : DL n0 h0 n h d F G S) (hn : n ≤ n') (t : DkTo n d F G h S' n' h') : ∃ F' G', DL n0 h0 n' h' d F' G' S' ∧ (∀ b, b < n → F' b → F b) ∧ (∀ b, b < n → G' b → G b) ∧ ExtW F n h h' := by
  obtain ⟨F', G', D', f, g, e⟩ := t
  refine ⟨F', G', ⟨D', fun b hb => ?_, Nat.le_trans D.le hn, ?_⟩, f, g, e⟩
  · by_cases q : b < n
    · exact D.own b (f b q hb)
    · have := D.le; omega
  · have hle := D.le
    exact ⟨fun x hx => (e.info x (by omega) (fun q => by have := D.own _ q; omega)).trans (D.ext.info x hx), fun x i hx => (e.cell x i (by omega) (fun q => by have := D.own _ q; omega)).trans (D.ext.cell x i hx)⟩
theorem DL.step (D : DL n0 h0 n h d F G S) (hn : n ≤ n') (e : Ext n h h') : DL n0 h0 n' h' d F G S :=
  ⟨D.dk.ext e hn, D.own, Nat.le_trans D.le hn, D.ext.trans D.le e⟩
theorem DL.low (D : DL n0 h0 n h d F G S) {c : Option Addr} (hc : c ≠ none → sb c < n0) : c ≠ none → ¬ F (sb c) := fun q k => by
  have := D.own _ k
  have := hc q
  omega
theorem DL.W (D : DL n0 h0 n h d F G S) {W : Nat → Prop} (b : Nat) (k : F b) : W b ∨ n0 ≤ b := .inr (D.own b k)
theorem new_dl (hle : n0 ≤ n) (e : Ext n0 h0 h) (D : Dk h' n' d F G DS.init) (hF : ∀ b, F b → n ≤ b) (hn : n ≤ n') (e2 : Ext n h h') : DL n0 h0 n' h' d F G DS.init :=
  ⟨D, fun b q => Nat.le_trans hle (hF b q), Nat.le_trans hle hn, e.trans hle e2⟩
end

def bS1 : DS := (DS.init.write 0 0 [1, 2]).2
def bS2 : DS := (bS1.sync 0).2
def bS3 : DS := (bS2.write 1 0 [3]).2
def bS4 : DS := (bS3.crash []).2
def bS5 : DS := bS4.restart
theorem bS_ans : (DS.init.write 0 0 [1, 2]).1 = 0 ∧ (bS1.sync 0).1 = 0 ∧ (bS2.write 1 0 [3]).1 = 0 ∧ (bS3.crash []).1 = 0 ∧ bS5.read 0 0 9 = (0, [1, 2]) ∧ bS5.may 1 = 0 ∧ (bS5.now 1).length = 0 := by
  refine ⟨rfl, rfl, rfl, rfl, rfl, rfl, rfl⟩
theorem bS_small : bS1.ps.length = 1 ∧ bS1.calls = 1 ∧ bS2.ps.length = 0 ∧ bS2.calls = 2 ∧ bS3.ps.length = 1 ∧ bS3.calls = 3 := ⟨rfl, rfl, rfl, rfl, rfl, rfl⟩
set_option maxHeartbeats 4000000 in
theorem begun_rf (n : Nat) (h : AH) (hn : 0 < n) : RF Try.prog none' 11 #[] n h (fun r n' h' => r = .bool true ∧ Ext n h h') := by
  refine RF.of Try.func11 rfl rfl (Nat.le_of_ble_eq_true rfl) ?_; dsimp only [argEnv]
  repeat' (first | refine stpS ?_ | (refine stp2 ?_ ?_ <;> intro _))
  refine RS.call rfl opds (new_rf n h hn) none'W ?_
  rintro r n1 h1 hle ⟨d, F, G, rfl, D, hF, hG, e1⟩
  have L := new_dl (n0 := n) (h0 := h) (Nat.le_refl n) (Ext.refl n h) D hF hle e1
  clear D hF hG e1
  have hlt := L.dk.lt
  repeat' (first | refine stpS ?_ | (refine stp2 ?_ ?_ <;> intro _))
  have S1 : SlB (h1.app (.new n1 ⟨2, 0, true, 1⟩ (bytesV [1, 2]))) (n1 + 1) (some ⟨n1, 0, none⟩) [1, 2] := (OwnSl.new1 (h := h1) (n0 := n1) (m := 2) (Nat.le_refl n1) rfl rfl).slb
  have L0 := L
  have L := L.step (Nat.le_succ n1) (h' := h1.app (.new n1 ⟨2, 0, true, 1⟩ (bytesV [1, 2]))) ext
  refine RS.call rfl opds (write_dk L.dk 0 0 (by omega) S1 (fun _ q => Nat.lt_irrefl _ (L0.dk.ltF _ q)) (by simp [DS.init]) (by simp [DS.init])) (fun b => L.W b) ?_
  rintro r n2 h2 hle2 ⟨rfl, to⟩
  obtain ⟨F1, G1, L1, -, -, -⟩ := L.to hle2 to
  rw [bS_ans.1]
  replace L1 : DL n h n2 h2 d F1 G1 bS1 := L1
  clear L to S1
  have hlt := L1.dk.lt
  repeat' (first | refine stpS ?_ | (refine stp2 ?_ ?_ <;> intro _))
  refine RS.call rfl opds (sync_dk L1.dk (by simp [bS_small]) (by simp [bS_small]) 0) (fun b => L1.W b) ?_
  rintro r n3 h3 hle3 ⟨rfl, to⟩
  obtain ⟨F2, G2, L2, -, -, -⟩ := L1.to hle3 to
  rw [bS_ans.2.1]
  replace L2 : DL n h n3 h3 d F2 G2 bS2 := L2
  clear L1 to
  have hlt := L2.dk.lt
  repeat' (first | refine stpS ?_ | (refine stp2 ?_ ?_ <;> intro _))
  have S2 : SlB (h3.app (.new n3 ⟨1, 0, true, 1⟩ (bytesV [3]))) (n3 + 1) (some ⟨n3, 0, none⟩) [3] := (OwnSl.new1 (h := h3) (n0 := n3) (m := 1) (Nat.le_refl n3) rfl rfl).slb
  have L0 := L2
  have L2 := L2.step (Nat.le_succ n3) (h' := h3.app (.new n3 ⟨1, 0, true, 1⟩ (bytesV [3]))) ext
  refine RS.call rfl opds (write_dk L2.dk 1 0 (by omega) S2 (fun _ q => Nat.lt_irrefl _ (L0.dk.ltF _ q)) (by simp [bS_small]) (by simp [bS_small])) (fun b => L2.W b) ?_
  rintro r n4 h4 hle4 ⟨rfl, to⟩
  obtain ⟨F3, G3, L3, -, -, -⟩ := L2.to hle4 to
  rw [bS_ans.2.2.1]
  replace L3 : DL n h n4 h4 d F3 G3 bS3 := L3
  clear L0 L2 to S2
  have hlt := L3.dk.lt
  repeat' (first | refine stpS ?_ | (refine stp2 ?_ ?_ <;> intro _))
  refine RS.call rfl opds (crash_dk (c := none) (ks := []) L3.dk (by simp [bS_small]) (by simp) .nil (fun q => absurd rfl q)) (fun b => L3.W b) ?_
  rintro r n5 h5 hle5 ⟨rfl, to⟩
  obtain ⟨F4, G4, L4, -, -, -⟩ := L3.to hle5 to
  rw [bS_ans.2.2.2.1]
  replace L4 : DL n h n5 h5 d F4 G4 bS4 := L4
  clear L3 to
  have hlt := L4.dk.lt
  repeat' (first | refine stpS ?_ | (refine stp2 ?_ ?_ <;> intro _))
  refine RS.call rfl opds (restart_dk L4.dk) (fun b => L4.W b) ?_
  rintro r n6 h6 hle6 ⟨rfl, to⟩
  obtain ⟨F5, G5, L5, -, -, -⟩ := L4.to hle6 to
  replace L5 : DL n h n6 h6 d F5 G5 bS5 := L5
  clear L4 to
  have hlt := L5.dk.lt
  repeat' (first | refine stpS ?_ | (refine stp2 ?_ ?_ <;> intro _))
  have hr := read_dk L5.dk 0 0 9
  rw [bS_ans.2.2.2.2.1] at hr
  dsimp only at hr
  refine RS.call rfl opds hr none'W ?_
  rintro r n7 h7 hle7 ⟨a, rfl, e7, hO⟩
  have L5 := L5.step hle7 e7
  have hlt := L5.dk.lt
  have hz := size_dk L5.dk 1
  rw [if_pos bS_ans.2.2.2.2.2.1, bS_ans.2.2.2.2.2.1, show (bS5.now (Int.toNat 1)).length = 0 from rfl] at hz
  repeat' (first | refine stpS ?_ | (refine stp2 ?_ ?_ <;> intro _) | refine RS.call1 rfl opds (hz) none'W ?_)
  have S7 : SlB (h7.app (.new n7 ⟨2, 0, true, 1⟩ (bytesV [1, 2]))) (n7 + 1) (some ⟨n7, 0, none⟩) [1, 2] := (OwnSl.new1 (h := h7) (n0 := n7) (m := 2) (Nat.le_refl n7) rfl rfl).slb
  have L5 := L5.step (Nat.le_succ n7) (h' := h7.app (.new n7 ⟨2, 0, true, 1⟩ (bytesV [1, 2]))) ext
  have q0 := equal_ev [1, 2] [1, 2] a (some ⟨n7, 0, none⟩) 2 2 _ _ ((show SlB h7 n7 a [1, 2] from hO.slbE).ext (h' := h7.app (.new n7 ⟨2, 0, true, 1⟩ (bytesV [1, 2]))) ext (Nat.le_succ n7)) S7 rfl rfl
  repeat' (first | refine stpS ?_ | (refine stp2 ?_ ?_ <;> intro _) | refine RS.call1 rfl opds (q0) none'W ?_)
  exact ⟨rfl, L5.ext⟩
end Go.Proofs.Ytchfnjfmlhacfaa
