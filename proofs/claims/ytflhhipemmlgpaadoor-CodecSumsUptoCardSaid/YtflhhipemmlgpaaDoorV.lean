/- Contracts of a writer's bytes and texts; the beginning that each law asks. -/
import Derived.Test.YtflhhipemmlgpaaDoorU
set_option linter.unusedSimpArgs false
set_option linter.unusedVariables false
namespace Go.Proofs.YtflhhipemmlgpaaDoor
open Go.Abs

set_option maxHeartbeats 4000000 in
theorem replaceAll_rf (l : List UInt8) (a d0 d1 : Option Addr) (m n : Nat) (h : AH) (S : SlB h n a l) (S0 : SlB h n d0 [0]) (S1 : SlB h n d1 [0, 1]) (e : m = l.length) (hm : m ≤ 1099511627776) :
    RF Tryd.prog none' 49 #[.slice a m m, .slice d0 1 1, .slice d1 2 2] n h (fun r n' h' => ∃ a', r = .slice a' (esc l).length (esc l).length ∧ Ext n h h' ∧ OwnSl h' n n' a' 1 (esc l).length (bytesV (esc l))) := by
  refine RF.of Tryd.func49 rfl rfl (Nat.le_of_ble_eq_true rfl) ?_; dsimp only [argEnv]
  repeat' (first | refine stpS ?_ | (refine stp2 ?_ ?_ <;> intro _))
  refine RS.call rfl opds (replace_rf l a d0 d1 m n h S S0 S1 e hm) none'W ?_
  rintro r n1 h1 hle ⟨a', rfl, hE, hO⟩
  repeat' (first | refine stpS ?_ | (refine stp2 ?_ ?_ <;> intro _))
  exact ⟨a', rfl, hE, hO⟩
set_option maxHeartbeats 4000000 in
theorem wBytes_rf (w : Nat) (a c : Option Addr) (b l : List UInt8) (m n0 n : Nat) (h : AH) (R : WrR h n0 n w a b) (S : SlB h n c l) (e : m = l.length) (hm : m ≤ 1073741824) :
    RF Tryd.prog (inW w a) 28 #[.pointer (some ⟨w, 0, none⟩), .slice c m m] n h (WrTo w a b (formB l) n0 n h) := by
  subst e
  refine RF.of Tryd.func28 rfl rfl (Nat.le_of_ble_eq_true rfl) ?_; dsimp only [argEnv]
  have hel := esc_length l
  have hcl : l.count 0 ≤ l.length := List.count_le_length
  repeat' (first | refine stpS ?_ | (refine stp2 ?_ ?_ <;> intro _))
  obtain ⟨g, hg⟩ : ∃ g, g = (h.app (.new n ⟨([.int .u8 0] : List Value).length, 0, true, 1⟩ [.int .u8 0])).app (.new (n + 1) ⟨([.int .u8 0, .int .u8 1] : List Value).length, 0, true, 1⟩ [.int .u8 0, .int .u8 1]) := ⟨_, rfl⟩
  refine RS.heap hg ?_
  have hE : Ext n h g := by rw [hg]; exact ext
  have hS0 : SlB g (n + 1 + 1) (some ⟨n, 0, none⟩) [0] := by
    rw [hg]
    have := OwnSl.new1 (h := h) (n0 := n) (n := n) (m := 1) (cs := [.int .u8 0]) (Nat.le_refl n) rfl rfl
    exact OwnSl.slbE (this.ext (n1 := n + 1 + 1) ext (by omega))
  have hS1 : SlB g (n + 1 + 1) (some ⟨n + 1, 0, none⟩) [0, 1] := by
    rw [hg]
    exact OwnSl.slbE (OwnSl.new1 (n0 := n) (n := n + 1) (m := 2) (cs := [.int .u8 0, .int .u8 1]) (Nat.le_succ n) rfl rfl)
  clear hg
  refine RS.call rfl opds (replaceAll_rf l c _ _ _ _ g (S.ext hE (by omega)) hS0 hS1 rfl (by omega)) none'W ?_
  rintro r n1 h1 hle ⟨c1, rfl, hE1, hO1⟩
  repeat' (first | refine stpS ?_ | (refine stp2 ?_ ?_ <;> intro _))
  refine RS.append rfl opd opd (hO1.ext (n1 := n1 + 1) ext (by omega)) (OwnSl.src (OwnSl.new1 (n0 := n1) (m := 2) (Nat.le_refl _) rfl rfl)) full_slice (fun b hb => .inr (by omega)) (by omega) ?_
  intro c2 n2 h2 hle2 hO2 hX2 hnew2
  have hE1' : Ext (n + 1 + 1) h1 (h1.app (.new n1 ⟨([.int .u8 0, .int .u8 0] : List Value).length, 0, true, 1⟩ [.int .u8 0, .int .u8 0])) := ext
  have hE2 : Ext n h h2 := (hE.trans (by omega) hE1).trans (Nat.le_add_right n 2) (hE1'.then (hX2.ext (hO1.ext (n1 := n1 + 1) ext (by omega))))
  have hfb : (formB l).length = (esc l).length + 2 := by unfold formB; rw [List.length_append]; rfl
  have R2 := R.ext (n1 := n2) hE2 (by omega)
  have hO3 : SlB h2 n2 c2 (formB l) := by
    unfold formB
    refine OwnSl.slbE (n0 := n + 1 + 1) (m := (esc l).length + 2) ?_
    rw [bytesV_app]; exact hO2
  refine RS.call rfl opds (more_rf w a c2 b (formB l) ((esc l).length + 2) n0 n2 h2 R2 hO3 hfb.symm (by omega)) (fun x hx => .inl hx) ?_
  rintro r n3 h3 hle3 ⟨a', rfl, hR3, hX3, hw3⟩
  repeat' (first | refine stpS ?_ | (refine stp2 ?_ ?_ <;> intro _))
  exact ⟨a', rfl, hR3, hX3.via (by omega) (fun _ _ k => k) (ExtW.of hE2 (Nat.le_refl _)), hw3.imp_right fun k => by omega⟩
theorem slb_new (l : List UInt8) (n : Nat) (h : AH) : SlB (h.app (.new n ⟨l.length, 0, true, 1⟩ (bytesV l))) (n + 1) (some ⟨n, 0, none⟩) l :=
  OwnSl.slbE (OwnSl.new1 (n0 := n) (n := n) (m := l.length) (cs := bytesV l) (Nat.le_refl n) (by rw [bytesV_length]) (bytesV_known _))
set_option maxHeartbeats 4000000 in
theorem wText_rf (w : Nat) (a : Option Addr) (b : List UInt8) (s : ByteArray) (n0 n : Nat) (h : AH) (R : WrR h n0 n w a b) (hm : s.size ≤ 1073741824) :
    RF Tryd.prog (inW w a) 21 #[.pointer (some ⟨w, 0, none⟩), .string s] n h (WrTo w a b (formB s.data.toList) n0 n h) := by
  have hsz : s.data.toList.length = s.size := rfl
  refine RF.of Tryd.func21 rfl rfl (Nat.le_of_ble_eq_true rfl) ?_; dsimp only [argEnv]
  repeat' (first | refine stpS ?_ | (refine stp2 ?_ ?_ <;> intro _))
  have hO := OwnSl.new1 (h := h) (n0 := n) (n := n) (m := s.size) (cs := bytesV s.data.toList) (Nat.le_refl n) (by rw [bytesV_length]; exact hsz) (bytesV_known _)
  rw [show (bytesV s.data.toList).length = s.size by rw [bytesV_length]; exact hsz]
  obtain ⟨g, hg⟩ : ∃ g, g = h.app (.new n ⟨s.size, 0, true, 1⟩ (bytesV s.data.toList)) := ⟨_, rfl⟩
  have hE : Ext n h g := by rw [hg]; exact ext
  rw [← hg] at hO
  refine RS.heap hg ?_
  refine RS.call rfl opds (wBytes_rf w a _ b s.data.toList s.size n0 (n + 1) g (R.ext hE (by omega)) (OwnSl.slbE hO) hsz.symm hm) (fun x hx => .inl hx) ?_
  rintro r n3 h3 hle3 ⟨a', rfl, hR3, hX3, hw3⟩
  repeat' (first | refine stpS ?_ | (refine stp2 ?_ ?_ <;> intro _))
  exact ⟨a', rfl, hR3, hX3.via (by omega) (fun _ _ k => k) (ExtW.of hE (Nat.le_refl _)), hw3.imp_right fun k => by omega⟩
theorem WrR.lo_of {h : AH} {n0 n w : Nat} {a : Option Addr} {b : List UInt8} (R : WrR h n0 n w a b) : ∀ x, inW w a x → n0 ≤ x := fun x hx => by
  rcases hx with rfl | ⟨h1, h2⟩
  · exact R.lo
  · rw [h2]; exact (R.own.at'.resolve_left h1).1
def rowV (x : Option Addr × List UInt8) : Value := .slice x.1 x.2.length x.2.length
theorem slq_new (L : List (Option Addr × List UInt8)) {n : Nat} {h : AH} (hL : ∀ x, x ∈ L → SlB h n x.1 x.2) : SlQ (h.app (.new n ⟨L.length, 0, true, 1⟩ (L.map rowV))) (n + 1) (some ⟨n, 0, none⟩) (fun j => (L.getD j (none, [])).1) (L.map (·.2)) := by
  have hk : ∀ j, j < (L.map (·.2)).length → L.getD j (none, []) ∈ L ∧ (L.map (·.2)).getD j [] = (L.getD j (none, [])).2 ∧ (L.map rowV).getD j (.tuple #[]) = rowV (L.getD j (none, [])) := fun j hj => by
    have hj : j < L.length := by simpa using hj
    refine ⟨?_, ?_, ?_⟩
    · rw [List.getD_eq_getElem?_getD, List.getElem?_eq_getElem hj]; exact List.getElem_mem hj
    · simp [List.getD, hj]
    · simp [List.getD, hj]
  refine ⟨SlR.new (Nat.lt_succ_self n) info rfl fun j hj => ?_, fun j hj => ?_⟩
  · rw [Nat.mul_one] at hj
    obtain ⟨k1, k2, k3⟩ := hk j hj
    have : (h.app (.new n ⟨L.length, 0, true, 1⟩ (L.map rowV))).cell n j = (L.map rowV).getD j (.tuple #[]) := by
      have hj' : j < L.length := by simpa using hj
      exact c_new (by simp [List.getD, hj'])
    rw [this, k3]
    unfold rowsF rowV
    rw [k2]
  · obtain ⟨k1, k2, k3⟩ := hk j hj
    rw [k2]
    exact (hL _ k1).ext ext (Nat.le_succ n)
set_option maxHeartbeats 4000000 in
theorem begun_rf (n : Nat) (h : AH) : RF Tryd.prog none' 14 #[] n h (fun r n' h' => r = .bool true ∧ Ext n h h') := by
  refine RF.of Tryd.func14 rfl rfl (Nat.le_of_ble_eq_true rfl) ?_; dsimp only [argEnv]
  repeat' (first | refine stpS ?_ | (refine stp2 ?_ ?_ <;> intro _))
  refine RS.call rfl opds (newWriter_rf n h) none'W ?_
  rintro r n1 h1 hle1 ⟨rfl, hE1, hR1⟩
  repeat' (first | refine stpS ?_ | (refine stp2 ?_ ?_ <;> intro _))
  refine RS.call rfl opds (wInt_rf n none [] (-121) (by omega) (by omega) n n1 h1 hR1) (fun x hx => .inr (hR1.lo_of x hx)) ?_
  rintro r n2 h2 hle2 ⟨a2, rfl, hR2, hX2, -⟩
  have hE2 := hE1.viaW hX2 hle1 hR1.lo_of
  have f1 : form (-121) = [7, 255] := by decide +kernel
  rw [f1] at hR2 ⊢
  rw [if_pos (by decide)] at hR2 ⊢
  repeat' (first | refine stpS ?_ | (refine stp2 ?_ ?_ <;> intro _))
  refine RS.call rfl opds (wText_rf n a2 [7, 255] ⟨#[97, 0, 98]⟩ n n2 h2 hR2 (by decide)) (fun x hx => .inr (hR2.lo_of x hx)) ?_
  rintro r n3 h3 hle3 ⟨a3, rfl, hR3, hX3, -⟩
  have hE3 := hE2.viaW hX3 (by omega) hR2.lo_of
  have f2 : formB [97, 0, 98] = [97, 0, 1, 98, 0, 0] := by decide +kernel
  rw [show (⟨#[97, 0, 98]⟩ : ByteArray).data.toList = [97, 0, 98] from rfl, f2] at hR3 ⊢
  rw [if_pos (by decide)] at hR3 ⊢
  repeat' (first | refine stpS ?_ | (refine stp2 ?_ ?_ <;> intro _))
  refine RS.call rfl opds (wOut_rf n a3 _ n n3 h3 hR3) none'W ?_
  rintro r n4 h4 hle4 ⟨a4, rfl, hE4, hO4⟩
  repeat' (first | refine stpS ?_ | (refine stp2 ?_ ?_ <;> intro _))
  refine RS.gen (fun g => SlB g (n4 + 1) (some ⟨n4, 0, none⟩) [7, 255, 97, 0, 1, 98, 0, 0] ∧ Ext n h g ∧ SlB g (n4 + 1) a4 [7, 255, 97, 0, 1, 98, 0, 0]) ⟨slb_new [7, 255, 97, 0, 1, 98, 0, 0] n4 h4, ?_, (OwnSl.slbE (m := 8) hO4).ext ext (by omega)⟩ ?_
  · have : Ext n4 h4 (h4.app (.new n4 ⟨([.int .u8 7, .int .u8 255, .int .u8 97, .int .u8 0, .int .u8 1, .int .u8 98, .int .u8 0, .int .u8 0] : List Value).length, 0, true, 1⟩ [.int .u8 7, .int .u8 255, .int .u8 97, .int .u8 0, .int .u8 1, .int .u8 98, .int .u8 0, .int .u8 0])) := ext
    exact (hE3.trans (by omega) hE4).trans (by omega) this
  rintro g1 ⟨hS1, hF1, hS2⟩
  refine RS.call1 rfl opds (equal_ev [7, 255, 97, 0, 1, 98, 0, 0] [7, 255, 97, 0, 1, 98, 0, 0] _ _ _ _ _ _ hS2 hS1 rfl rfl) none'W ?_
  repeat' (first | refine stpS ?_ | (refine stp2 ?_ ?_ <;> intro _))
  refine RS.put rfl rfl (op_convSame Uc.out Uc.out (Opd.ev opd) (by omega) info (by decide)) ?_
  repeat' (first | refine stpS ?_ | (refine stp2 ?_ ?_ <;> intro _))
  refine RS.put rfl rfl (op_convSame Uc.out Uc.out (Opd.ev opd) (by omega) info (by decide)) ?_
  repeat' (first | refine stpS ?_ | (refine stp2 ?_ ?_ <;> intro _))
  refine RS.gen (fun g => SlQ g (n4 + 1 + 1 + 1 + 1) (some ⟨n4 + 1 + 1 + 1, 0, none⟩) (fun j => (([(some ⟨n4 + 1, 0, none⟩, [49, 50, 51, 52, 53]), (some ⟨n4 + 1 + 1, 0, none⟩, [54, 55, 56, 57])] : List (Option Addr × List UInt8)).getD j (none, [])).1) [[49, 50, 51, 52, 53], [54, 55, 56, 57]] ∧ Ext n h g) ⟨slq_new [(some ⟨n4 + 1, 0, none⟩, [49, 50, 51, 52, 53]), (some ⟨n4 + 1 + 1, 0, none⟩, [54, 55, 56, 57])] ?_, ?_⟩ ?_
  · intro x hx
    have h5 := slb_new [49, 50, 51, 52, 53] (n4 + 1) g1
    have h6 := slb_new [54, 55, 56, 57] (n4 + 1 + 1) (g1.app (.new (n4 + 1) ⟨5, 0, true, 1⟩ (bytesV [49, 50, 51, 52, 53])))
    simp only [List.mem_cons, List.not_mem_nil, or_false] at hx
    rcases hx with rfl | rfl
    · exact h5.ext ext (Nat.le_succ _)
    · exact h6
  · exact hF1.trans (by omega) (Ext.appNew (by omega) (Ext.appNew (by omega) (Ext.appNew (Nat.le_refl _) (Ext.refl _ _))))
  rintro g2 ⟨hQ, hF2⟩
  refine RS.call1 rfl opds (sum_ev _ _ _ _ _ _ hQ rfl (by decide) (by decide)) none'W ?_
  have hcrc : crc ([[49, 50, 51, 52, 53], [54, 55, 56, 57]] : List (List UInt8)).flatten = 3808858755 := by decide +kernel
  rw [hcrc]
  repeat' (first | refine stpS ?_ | (refine stp2 ?_ ?_ <;> intro _))
  exact ⟨rfl, hF2⟩
end Go.Proofs.YtflhhipemmlgpaaDoor
