/- Two disks side by side; the plain law of the fuse. -/
import Derived.Test.YtchfnjfmlhacfaaPs
namespace Go.Proofs.Ytchfnjfmlhacfaa
open Go.Abs

section
variable {h h0 h1 h2 h' : AH} {n n0 n1 n2 n' d c : Nat} {F G F1 G1 F2 G2 : Nat → Prop} {S S1 S2 S' : DS}
/-- Two disks that were made behind n0, apart. -/
structure DLL (n0 : Nat) (h0 : AH) (n : Nat) (h : AH) (d : Nat) (F1 G1 : Nat → Prop) (S1 : DS) (c : Nat) (F2 G2 : Nat → Prop) (S2 : DS) : Prop where
  a : DL n0 h0 n h d F1 G1 S1
  b : DL n0 h0 n h c F2 G2 S2
  ff : ∀ b, F1 b → ¬ F2 b
  fg : ∀ b, F1 b → ¬ G2 b
  gf : ∀ b, F2 b → ¬ G1 b
theorem DLL.symm (D : DLL n0 h0 n h d F1 G1 S1 c F2 G2 S2) : DLL n0 h0 n h c F2 G2 S2 d F1 G1 S1 := ⟨D.b, D.a, fun b q k => D.ff b k q, D.gf, D.fg⟩
theorem DLL.step (D : DLL n0 h0 n h d F1 G1 S1 c F2 G2 S2) (hn : n ≤ n') (e : Ext n h h') : DLL n0 h0 n' h' d F1 G1 S1 c F2 G2 S2 := ⟨D.a.step hn e, D.b.step hn e, D.ff, D.fg, D.gf⟩
theorem DLL.one (D : DLL n0 h0 n h d F1 G1 S1 c F2 G2 S2) (hn : n ≤ n') (t : DkTo n d F1 G1 h S' n' h') : ∃ F G, DLL n0 h0 n' h' d F G S' c F2 G2 S2 ∧ (∀ b, b < n → F b → F1 b) ∧ ExtW F1 n h h' := by
  obtain ⟨F, G, L, hF, hG, e⟩ := D.a.to hn t
  have hlt := D.b.dk.ltF
  have hltG := D.b.dk.ltG
  refine ⟨F, G, ⟨L, ⟨D.b.dk.extW e hn (fun b q k => D.ff b k q) (fun b q k => D.fg b k q), D.b.own, Nat.le_trans D.b.le hn, L.ext⟩, fun b q k => D.ff b (hF b (hlt b k) q) k, fun b q k => D.fg b (hF b (hltG b k) q) k, fun b q k => D.gf b q (hG b (hlt b q) k)⟩, hF, e⟩
theorem DLL.two (D : DLL n0 h0 n h d F1 G1 S1 c F2 G2 S2) (hn : n ≤ n') (t : DkTo n c F2 G2 h S' n' h') : ∃ F G, DLL n0 h0 n' h' d F1 G1 S1 c F G S' ∧ (∀ b, b < n → F b → F2 b) ∧ ExtW F2 n h h' := by
  obtain ⟨F, G, L, hF, e⟩ := D.symm.one hn t
  exact ⟨F, G, L.symm, hF, e⟩
end
/-- The disk with a fuse that is met at the k-th call. -/
def fz (S : DS) (k : Int) (ks : List Bool) : DS := { S with fuse := k - S.calls, keep := ks }
def hitBy (S D : DS) (k : Int) (ks : List Bool) : Prop := D.calls = k ∧ ∀ f, D.now f = (S.lose ks).now f
theorem fz_ends {S T : DS} {k : Int} {ks : List Bool} (hc : S.calls < k) (hT : T = ⟨S.sure, T.ps, k - S.calls, ks, S.calls, S.down⟩) :
    (S.calls + 1 < k ∧ T.ends = (0, fz { S with ps := T.ps, calls := S.calls + 1 } k ks)) ∨ (S.calls + 1 = k ∧ ∃ D, T.ends = (6, D) ∧ hitBy { S with ps := T.ps } D k ks) := by
  generalize T.ps = ps at *
  subst hT
  by_cases h1 : 1 < k - S.calls
  · refine .inl ⟨by omega, ?_⟩
    rw [DS.ends, if_neg (show ¬ (k - S.calls = 0) by omega), if_pos h1]
    show ((0 : Int), DS.mk S.sure ps (k - S.calls - 1) ks (S.calls + 1) S.down) = (0, DS.mk S.sure ps (k - (S.calls + 1)) ks (S.calls + 1) S.down)
    rw [show k - S.calls - 1 = k - (S.calls + 1) by omega]
  · refine .inr ⟨by omega, (DS.mk S.sure ps (k - S.calls - 1) ks (S.calls + 1) S.down).lose ks, ?_, ?_, fun f => rfl⟩
    · rw [DS.ends, if_neg (show ¬ (k - S.calls = 0) by omega), if_neg h1]
    · show S.calls + 1 = k
      omega
theorem fz_may {S : DS} {k : Int} {ks : List Bool} (f : Int) : (fz S k ks).may f = S.may f := rfl
theorem may_ne {S : DS} (hd : S.down = false) (f : Int) : S.may f ≠ 6 := by
  rw [DS.may, if_neg (by rw [hd]; simp)]; split <;> decide
theorem fz_write {S : DS} {k : Int} {ks : List Bool} (hf : S.fuse = 0) (hd : S.down = false) (hc : S.calls < k) (f at_ : Int) (b : List UInt8) :
    (∃ e, e ≠ 0 ∧ e ≠ 6 ∧ S.write f at_ b = (e, S) ∧ (fz S k ks).write f at_ b = (e, fz S k ks)) ∨
    ∃ S', S'.fuse = 0 ∧ S'.down = false ∧ S'.calls = S.calls + 1 ∧ S'.ps.length ≤ S.ps.length + b.length ∧ S.write f at_ b = (0, S') ∧
      ((S'.calls < k ∧ (fz S k ks).write f at_ b = (0, fz S' k ks)) ∨ (S'.calls = k ∧ ∃ D, (fz S k ks).write f at_ b = (6, D) ∧ hitBy S' D k ks)) := by
  by_cases hm : S.may f = 0
  · by_cases hw : writeE at_ b = 0
    · refine .inr ⟨{ S.writes f.toNat at_.toNat b with calls := S.calls + 1 }, hf, hd, rfl, writes_len S _ _ b, ?_, ?_⟩
      · rw [DS.write, if_neg (by rw [hm]; simp), if_neg (by rw [hw]; simp)]; exact ends_zero hf
      · have e : (fz S k ks).write f at_ b = ((fz S k ks).writes f.toNat at_.toNat b).ends := by rw [DS.write, if_neg (by rw [fz_may, hm]; simp), if_neg (by rw [hw]; simp)]
        rw [e]
        exact fz_ends (T := (fz S k ks).writes f.toNat at_.toNat b) hc rfl
    · refine .inl ⟨_, hw, ?_, by rw [DS.write, if_neg (by rw [hm]; simp), if_pos hw], by rw [DS.write, if_neg (by rw [fz_may, hm]; simp), if_pos hw]⟩
      unfold writeE; split
      · decide
      · split <;> decide
  · exact .inl ⟨_, hm, may_ne hd f, by rw [DS.write, if_pos hm], by rw [DS.write, if_pos (show (fz S k ks).may f ≠ 0 from hm)]; rfl⟩
theorem fz_truncate {S : DS} {k : Int} {ks : List Bool} (hf : S.fuse = 0) (hd : S.down = false) (hc : S.calls < k) (f size : Int) :
    (∃ e, e ≠ 0 ∧ e ≠ 6 ∧ S.truncate f size = (e, S) ∧ (fz S k ks).truncate f size = (e, fz S k ks)) ∨
    ∃ S', S'.fuse = 0 ∧ S'.down = false ∧ S'.calls = S.calls + 1 ∧ S'.ps.length = S.ps.length + 1 ∧ S.truncate f size = (0, S') ∧
      ((S'.calls < k ∧ (fz S k ks).truncate f size = (0, fz S' k ks)) ∨ (S'.calls = k ∧ ∃ D, (fz S k ks).truncate f size = (6, D) ∧ hitBy S' D k ks)) := by
  by_cases hm : S.may f = 0
  · by_cases hw : size < 0 ∨ ((S.now f.toNat).length : Int) < size
    · exact .inl ⟨1, by decide, by decide, by rw [DS.truncate, if_neg (by rw [hm]; simp), if_pos hw], by rw [DS.truncate, if_neg (by rw [fz_may, hm]; simp), if_pos (show size < 0 ∨ (((fz S k ks).now f.toNat).length : Int) < size from hw)]⟩
    · refine .inr ⟨{ S.done ⟨f.toNat, true, size.toNat, []⟩ with calls := S.calls + 1 }, hf, hd, rfl, by simp [DS.done], ?_, ?_⟩
      · rw [DS.truncate, if_neg (by rw [hm]; simp), if_neg hw]; exact ends_zero hf
      · have e : (fz S k ks).truncate f size = ((fz S k ks).done ⟨f.toNat, true, size.toNat, []⟩).ends := by rw [DS.truncate, if_neg (by rw [fz_may, hm]; simp), if_neg (show ¬ (size < 0 ∨ (((fz S k ks).now f.toNat).length : Int) < size) from hw)]
        rw [e]
        exact fz_ends (T := (fz S k ks).done ⟨f.toNat, true, size.toNat, []⟩) hc rfl
  · exact .inl ⟨_, hm, may_ne hd f, by rw [DS.truncate, if_pos hm], by rw [DS.truncate, if_pos (show (fz S k ks).may f ≠ 0 from hm)]; rfl⟩
theorem fz_sync {S : DS} {k : Int} {ks : List Bool} (hf : S.fuse = 0) (hd : S.down = false) (hc : S.calls < k) (f : Int) :
    (∃ e, e ≠ 0 ∧ e ≠ 6 ∧ S.sync f = (e, S) ∧ (fz S k ks).sync f = (e, fz S k ks)) ∨
    (∃ S', S'.fuse = 0 ∧ S'.down = false ∧ S'.calls = S.calls + 1 ∧ S'.ps.length ≤ S.ps.length ∧ S.sync f = (0, S') ∧ S'.calls < k ∧ (fz S k ks).sync f = (0, fz S' k ks)) ∨
    (S.calls + 1 = k ∧ ∃ D, (fz S k ks).sync f = (6, D) ∧ hitBy S D k ks) := by
  by_cases hm : S.may f = 0
  · have e1 : S.sync f = (0, { S with calls := S.calls + 1 }.synced f.toNat) := by
      rw [DS.sync, if_neg (by rw [hm]; simp), ends_zero hf, if_neg (by simp)]
    rcases fz_ends (S := S) (T := fz S k ks) hc rfl with ⟨q1, q2⟩ | ⟨q1, D, q2, q3⟩
    · refine .inr (.inl ⟨{ S with calls := S.calls + 1 }.synced f.toNat, hf, hd, rfl, ?_, e1, q1, ?_⟩)
      · exact List.length_filter_le _ _
      · rw [DS.sync, if_neg (by rw [fz_may, hm]; simp), q2, if_neg (by simp)]; rfl
    · refine .inr (.inr ⟨q1, D, ?_, q3⟩)
      rw [DS.sync, if_neg (by rw [fz_may, hm]; simp), q2, if_pos (by simp)]
  · exact .inl ⟨_, hm, may_ne hd f, by rw [DS.sync, if_pos hm], by rw [DS.sync, if_pos (show (fz S k ks).may f ≠ 0 from hm)]; rfl⟩
end Go.Proofs.Ytchfnjfmlhacfaa
