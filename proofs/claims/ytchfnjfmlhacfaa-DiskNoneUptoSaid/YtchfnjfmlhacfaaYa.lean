/- The document's disk: done, now, may, meets. -/
import Derived.Test.YtchfnjfmlhacfaaX
namespace Go.Proofs.Ytchfnjfmlhacfaa
open Go.Abs

section
variable {h h1 h2 : AH} {n n1 n2 r : Nat} {sa : Nat → Option Addr} {ol ka : Option Addr} {pa : List (Option Addr)} {S : DS}
theorem splice_step (t : List UInt8) (at_ : Nat) (b : List UInt8) (i : Nat) (hi : i < b.length) (h : at_ + b.length ≤ t.length) : (splice t at_ (b.take i)).set (at_ + i) (b.getD i 0) = splice t at_ (b.take (i + 1)) := by
  have l1 : (b.take i).length = i := by rw [List.length_take]; omega
  have l2 : (b.take (i + 1)).length = i + 1 := by rw [List.length_take]; omega
  have s1 := splice_length t at_ (b.take i) (by omega)
  have s2 := splice_length t at_ (b.take (i + 1)) (by omega)
  apply ext_getD
  · rw [List.length_set, s1, s2]
  · intro j _
    rw [getD_splice _ _ _ (by omega), l2]
    have e0 : ∀ k, k < i + 1 → (b.take (i + 1)).getD k 0 = b.getD k 0 := fun k hk => by simp only [List.getD]; rw [List.getElem?_take, if_pos hk]
    by_cases e : j = at_ + i
    · subst e
      rw [if_pos (by omega), show at_ + i - at_ = i by omega, e0 i (by omega)]
      simp only [List.getD]
      rw [List.getElem?_set_self (by omega)]; rfl
    · have : ((splice t at_ (b.take i)).set (at_ + i) (b.getD i 0)).getD j 0 = (splice t at_ (b.take i)).getD j 0 := by
        simp only [List.getD]; rw [List.getElem?_set_ne (Ne.symm e)]
      rw [this, getD_splice _ _ _ (by omega), l1]
      by_cases h1 : at_ ≤ j ∧ j < at_ + i
      · rw [if_pos h1, if_pos (by omega), e0 _ (by omega)]
        simp only [List.getD]; rw [List.getElem?_take, if_pos (by omega)]
      · rw [if_neg h1, if_neg (by omega)]
set_option maxHeartbeats 4000000 in
theorem rdone_rf (l : List UInt8) (p : Pc) (c e : Option Addr) (n : Nat) (h : AH) (hl : l.length ≤ 4194304) (hp : PcOk p) (hS : SlB h n c l) (hB : SlB h n e p.b) (hn : 0 < n) :
    RF Try.prog none' 59 #[.slice c l.length l.length, .agg (rpC p e).toArray] n h (fun r n' h' => ∃ a', r = .slice a' (doP l p).length (doP l p).length ∧ Ext n h h' ∧ SlB h' n' a' (doP l p) ∧ (a' = none ∨ n ≤ sb a')) := by
  refine RF.of Try.func59 rfl rfl (Nat.le_of_ble_eq_true rfl) ?_; dsimp only [argEnv]
  have E0 : Ext n h (h.app (.new n ⟨4, 0, true, 0⟩ (rpC p e))) := ext
  have hS0 := hS.ext E0 (Nat.le_succ n)
  repeat' (first | refine stpS ?_ | (refine stp2 ?_ ?_ <;> intro _))
  refine RS.append rfl opd opd (OwnSl.nil (h := h.app (.new n ⟨4, 0, true, 0⟩ (rpC p e))) (n0 := n + 1) (n := n + 1) (z := 1) (Nat.le_refl _)) (SlB.src hS0) full_slice (fun b hb => Or.inr (by omega)) (by omega) ?_
  intro a1 n1 h1 hle hO hX hnew
  have hE := hX.ext (OwnSl.nil (h := h.app (.new n ⟨4, 0, true, 0⟩ (rpC p e))) (n0 := n + 1) (n := n + 1) (z := 1) (Nat.le_refl _))
  simp only [Nat.zero_add, List.nil_append] at hO ⊢
  have b1 : h1.cell n 1 = .bool p.cut := c_ext hE (by omega) cell
  have b2 : h1.cell n 2 = .int .i64 (p.at_ : Nat) := c_ext hE (by omega) cell
  have b3 : h1.cell n 3 = .slice e p.b.length p.b.length := c_ext hE (by omega) cell
  have hE1 : Ext n h h1 := E0.trans (Nat.le_succ n) hE
  have hat := hO.at'
  cases hcut : p.cut
  · rw [hcut] at b1
    have hde : doP l p = splice (l ++ List.replicate (p.at_ + p.b.length - l.length) 0) p.at_ p.b := by unfold doP; rw [hcut]; rfl
    have hsm := (hp.some hcut).2
    rw [hde]
    repeat' (first | refine stpS ?_ | (refine stp2 ?_ ?_ <;> intro _))
    refine RC.loop ?_
    refine RL.inv (α := Nat × Option Addr) (fun s => [(5, .slice s.2 (l.length + s.1) (l.length + s.1)), (3, .pointer (some ⟨n, 0, none⟩))])
      (fun s n2 h2 => s.1 ≤ p.at_ + p.b.length - l.length ∧ n1 ≤ n2 ∧ Ext (n + 1) h1 h2 ∧ OwnSl h2 (n + 1) n2 s.2 1 (l.length + s.1) (bytesV (l ++ List.replicate s.1 0))) (fun s => p.at_ + p.b.length - l.length - s.1) (0, a1) envs ⟨by omega, Nat.le_refl _, Ext.refl _ _, by simpa using hO⟩ ?_
    rintro ⟨k, a2⟩ n2 h2 ⟨hk, hn2, hE2, hO2⟩
    dsimp only at hk hO2 ⊢
    have d2 := c_ext hE2 (by omega) b2
    have d3 := c_ext hE2 (by omega) b3
    by_cases hlt : l.length + k < p.at_ + p.b.length
    · repeat' (first | refine stpS ?_ | (refine stp2 ?_ ?_ <;> intro _))
      have hone : OwnSl (h2.app (.new n2 ⟨1, 0, true, 1⟩ [.int .u8 0])) n2 (n2 + 1) (some ⟨n2, 0, none⟩) 1 1 [.int .u8 0] := OwnSl.new1 (h := h2) (m := 1) (cs := [.int .u8 0]) (Nat.le_refl n2) rfl rfl
      refine RS.append rfl opd opd (hO2.ext (n1 := n2 + 1) ext (by omega)) hone.src full_slice (fun b hb => Or.inr (by omega)) (by omega) ?_
      intro a3 n3 h3 hle3 hO3 hX3 hnew3
      have hE3 := hX3.ext (hO2.ext (n1 := n2 + 1) (h1 := h2.app (.new n2 ⟨1, 0, true, 1⟩ [.int .u8 0])) ext (by omega))
      repeat' (first | refine stpS ?_ | (refine stp2 ?_ ?_ <;> intro _))
      refine nextC.normal ⟨(k + 1, a3), by dsimp only; omega, envs, by dsimp only; omega, by omega, ext, ?_⟩
      dsimp only
      rw [show bytesV (l ++ List.replicate (k + 1) 0) = bytesV (l ++ List.replicate k 0) ++ [.int .u8 0] by rw [List.replicate_succ']; simp [bytesV]]
      exact hO3
    · have hke : k = p.at_ + p.b.length - l.length := by omega
      have hml : l.length + k = (l ++ List.replicate (p.at_ + p.b.length - l.length) (0 : UInt8)).length := by simp; omega
      rw [← hke] at hml ⊢
      have hge : p.at_ + p.b.length ≤ (l ++ List.replicate k (0 : UInt8)).length := by omega
      have hle2 : (l ++ List.replicate k (0 : UInt8)).length ≤ 4194304 := by rw [← hml]; omega
      rw [hml] at hO2 ⊢
      generalize l ++ List.replicate k (0 : UInt8) = t at *
      repeat' (first | refine stpS ?_ | (refine stp2 ?_ ?_ <;> intro _))
      refine RC.loop ?_
      refine RL.inv (α := Nat) (fun s => [(6, .int .i64 (s : Nat)), (5, .slice a2 t.length t.length), (3, .pointer (some ⟨n, 0, none⟩))])
        (fun s n3 h3 => s ≤ p.b.length ∧ n2 ≤ n3 ∧ Ext (n + 1) h1 h3 ∧ OwnSl h3 (n + 1) n3 a2 1 t.length (bytesV (splice t p.at_ (p.b.take s)))) (fun s => p.b.length - s) 0 envs ⟨by omega, Nat.le_refl _, hE2, by simpa [splice] using hO2⟩ ?_
      clear hE2 hO2 d2 d3
      rintro i n3 h3 ⟨hi, hn3, hE3, hO3⟩
      have d2 := c_ext hE3 (by omega) b2
      have d3 := c_ext hE3 (by omega) b3
      by_cases hlt3 : i < p.b.length
      · obtain ⟨ho, hlo, hhi, hI, hA, hC⟩ := hO3.facts (by omega)
        have hSe : SlB h3 n3 e p.b := hB.ext (hE1.trans (by omega) (hE3.mono (by omega) : Ext n h1 h3)) (by omega)
        have hel : sb e < n3 := hSe.lt (by omega)
        have hel2 : sb e < n := hB.lt (by omega)
        repeat' (first | refine stpS ?_ | (refine stp2 ?_ ?_ <;> intro _))
        repeat' (first | refine stp ?_ | (refine stp2 ?_ ?_ <;> intro _))
        have hto : ((p.at_ : Int) + (i : Int)).toNat = p.at_ + i := by omega
        rw [hto, Int.toNat_natCast, bytesF]
        have hO4 := OwnSl.setI hO3 (i := p.at_ + i) (x := ((p.b.getD i 0).toNat : Int)) (by omega) (by omega) (by have := (p.b.getD i 0).toNat_lt; omega)
        rw [show UInt8.ofNat ((p.b.getD i 0).toNat : Int).toNat = p.b.getD i 0 by rw [Int.toNat_natCast]; simp, splice_step t p.at_ p.b i hlt3 hge] at hO4
        refine nextC.normal ⟨i + 1, by omega, envs, by omega, hn3, ext, hO4⟩
      · have hie : i = p.b.length := by omega
        subst hie
        rw [List.take_length] at hO3
        have hsl := splice_length t p.at_ p.b hge
        repeat' (first | refine stpS ?_ | (refine stp2 ?_ ?_ <;> intro _))
        exact ⟨a2, by rw [hsl], hE1.trans (by omega) (hE3.mono (by omega) : Ext n h1 h3), hO3.slbE, hO3.at'.imp id (by omega)⟩
  · rw [hcut] at b1
    have hde : doP l p = l.take p.at_ := by unfold doP; rw [hcut]; rfl
    have hat2 := hp.size hcut
    have hS1 : SlB h1 n1 a1 l := hO.slbE
    rw [hde]
    repeat' (first | refine stpS ?_ | (refine stp2 ?_ ?_ <;> intro _))
    have e1 : (min (p.at_ : Int) (l.length : Int)).toNat = min p.at_ l.length := by omega
    have hS2 := hS1.take (u := min p.at_ l.length) (by omega)
    rw [take_min] at hS2
    exact ⟨a1, by rw [e1, List.length_take], hE1, hS2, hat.imp id (by omega)⟩
end
end Go.Proofs.Ytchfnjfmlhacfaa
