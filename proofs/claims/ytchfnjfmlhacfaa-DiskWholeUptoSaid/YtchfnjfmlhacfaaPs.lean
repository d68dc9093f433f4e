/- The plain law DiskSure: what is sure behind a crash. -/
import Derived.Test.YtchfnjfmlhacfaaPw
namespace Go.Proofs.Ytchfnjfmlhacfaa
open Go.Abs

theorem may_ok {S : DS} {i : Nat} (hd : S.down = false) (hi : i < 2) : S.may (i : Int) = 0 := by rw [DS.may, if_neg (by rw [hd]; simp), if_neg (by omega)]
theorem write_cases (S : DS) (f at_ : Int) (b : List UInt8) (hf : S.fuse = 0) : (∃ e, e ≠ 0 ∧ S.write f at_ b = (e, S)) ∨
    ∃ i p : Nat, f = i ∧ at_ = p ∧ i < 2 ∧ S.down = false ∧ (b ≠ [] → p + b.length ≤ 4194304) ∧ S.write f at_ b = (0, { S.writes i p b with calls := S.calls + 1 }) := by
  by_cases hm : S.may f = 0
  · obtain ⟨i, hi, rfl, hd⟩ := may_zero hm
    by_cases hw : writeE at_ b = 0
    · have hw1 : ¬ at_ < 0 := fun q => by rw [writeE, if_pos q] at hw; cases hw
      obtain ⟨p, rfl⟩ : ∃ p : Nat, at_ = p := ⟨at_.toNat, by omega⟩
      have hw2 : b ≠ [] → p + b.length ≤ 4194304 := fun q => by
        have := List.length_pos_iff.2 q
        rw [writeE, if_neg hw1] at hw
        split at hw
        · cases hw
        · omega
      exact .inr ⟨i, p, rfl, rfl, hi, hd, hw2, write_zero hd hi hw2 hf⟩
    · exact .inl ⟨_, hw, by rw [DS.write, if_neg (by rw [hm]; simp), if_pos hw]⟩
  · exact .inl ⟨_, hm, by rw [DS.write, if_pos hm]⟩
theorem truncate_cases (S : DS) (f size : Int) (hf : S.fuse = 0) : (∃ e, e ≠ 0 ∧ S.truncate f size = (e, S)) ∨
    ∃ i k : Nat, f = i ∧ size = k ∧ i < 2 ∧ S.down = false ∧ k ≤ (S.now i).length ∧ S.truncate f size = (0, { S.done ⟨i, true, k, []⟩ with calls := S.calls + 1 }) := by
  by_cases hm : S.may f = 0
  · obtain ⟨i, hi, rfl, hd⟩ := may_zero hm
    by_cases hsz : size < 0 ∨ ((S.now i).length : Int) < size
    · exact .inl ⟨1, by decide, by rw [DS.truncate, if_neg (by rw [hm]; simp), if_pos (by rw [Int.toNat_natCast]; exact hsz)]⟩
    · obtain ⟨k, rfl⟩ : ∃ k : Nat, size = k := ⟨size.toNat, by omega⟩
      refine .inr ⟨i, k, rfl, rfl, hi, hd, by omega, ?_⟩
      rw [DS.truncate, if_neg (by rw [hm]; simp), if_neg (by rw [Int.toNat_natCast]; exact hsz)]
      exact ends_zero hf
  · exact .inl ⟨_, hm, by rw [DS.truncate, if_pos hm]⟩
theorem writes_len (S : DS) (i p : Nat) (b : List UInt8) : (S.writes i p b).ps.length ≤ S.ps.length + b.length := by
  have := chunks_length i b.length p b
  simp only [DS.writes, List.length_append]; omega
/-- A piece that leaves what is safe. -/
def pieceOk (t : List Bool) (least : Nat) (p : Pc) : Prop := p.file = 0 → (p.cut = true → least ≤ p.at_) ∧ (p.cut = false → ∀ i, p.at_ ≤ i → i < p.at_ + p.b.length → i < least → t.getD i false = false)
theorem pieceOk.mono {t t2 : List Bool} {l l2 : Nat} {p : Pc} (q : pieceOk t l p) (hl : l2 ≤ l) (ht : ∀ i, t2.getD i false = true → t.getD i false = true) : pieceOk t2 l2 p := fun hf =>
  ⟨fun hc => Nat.le_trans hl ((q hf).1 hc), fun hc i h1 h2 h3 => by
    have := (q hf).2 hc i h1 h2 (by omega)
    cases e : t2.getD i false
    · rfl
    · rw [ht i e] at this; cases this⟩
def keptOk (was : List UInt8) (t : List Bool) (least : Nat) (x : List UInt8) : Prop := least ≤ x.length ∧ ∀ i, i < least → t.getD i false = true → x.getD i 0 = was.getD i 0
theorem keptOk.doP {was : List UInt8} {t : List Bool} {least : Nat} {x : List UInt8} {p : Pc} (k : keptOk was t least x) (q : pieceOk t least p) (hf : p.file = 0) : keptOk was t least (doP x p) := by
  have h := q hf
  cases hc : p.cut
  · have e : Ytchfnjfmlhacfaa.doP x p = splice (x ++ List.replicate (p.at_ + p.b.length - x.length) 0) p.at_ p.b := by unfold Ytchfnjfmlhacfaa.doP; rw [hc]; rfl
    rw [e]
    refine ⟨?_, fun i hi ht => ?_⟩
    · rw [splice_length _ _ _ (by simp; omega), List.length_append]; have := k.1; omega
    · rw [getD_splice _ _ _ (by simp; omega), getD_zeros]
      split
      · rename_i hh
        rw [h.2 hc i hh.1 hh.2 hi] at ht; cases ht
      · exact k.2 i hi ht
  · have e : Ytchfnjfmlhacfaa.doP x p = x.take p.at_ := by unfold Ytchfnjfmlhacfaa.doP; rw [hc]; rfl
    have hle := h.1 hc
    rw [e]
    refine ⟨by rw [List.length_take]; have := k.1; omega, fun i hi ht => ?_⟩
    rw [← k.2 i hi ht]
    simp only [List.getD]
    rw [List.getElem?_take, if_pos (by omega)]
theorem keptOk.lose {was : List UInt8} {t : List Bool} {least : Nat} : ∀ {ps : List Pc} {ks : List Bool} {sure : Nat → List UInt8}, keptOk was t least (sure 0) → (∀ p ∈ ps, pieceOk t least p) → keptOk was t least (loseP sure ps ks 0) := by
  intro ps
  induction ps with
  | nil => intro ks sure k _; exact k
  | cons p ps ih =>
    intro ks sure k hp
    cases ks with
    | nil => exact k
    | cons b ks =>
      refine ih ?_ fun q hq => hp q (by simp [hq])
      cases b
      · exact k
      · simp only [if_true]
        by_cases e : p.file = 0
        · rw [e, upd_same]
          exact k.doP (hp p (by simp)) e
        · rw [upd_ne _ _ (Ne.symm e)]; exact k
/-- What holds while more is written. -/
structure SureInv (was : List UInt8) (S : DS) (t : List Bool) (least : Nat) : Prop where
  fuse : S.fuse = 0
  down : S.down = false
  sure : S.sure 0 = was
  len : t.length = was.length
  le : least ≤ was.length
  ps : ∀ p ∈ S.ps, pieceOk t least p
theorem chunks_in (f : Nat) : ∀ (k at_ : Nat) (l : List UInt8), l.length ≤ k → ∀ p ∈ chunks f k at_ l, at_ ≤ p.at_ ∧ p.at_ + p.b.length ≤ at_ + l.length := by
  intro k
  induction k with
  | zero => intro at_ l _ p hp; simp [chunks] at hp
  | succ k ih =>
    intro at_ l h p hp
    cases l with
    | nil => simp [chunks] at hp
    | cons x r =>
      simp only [chunks, List.mem_cons] at hp
      rcases hp with rfl | hp
      · refine ⟨Nat.le_refl _, ?_⟩
        dsimp only
        rw [List.length_take]; omega
      · have := ih _ _ (by rw [List.length_drop]; simp only [List.length_cons] at h ⊢; omega) p hp
        rw [List.length_drop] at this
        simp only [List.length_cons] at this h ⊢
        omega
theorem SureInv.write {was : List UInt8} {S : DS} {t t2 : List Bool} {least i p : Nat} {b : List UInt8} (I : SureInv was S t least) (hl : t2.length = t.length) (ht : ∀ k, t2.getD k false = true → t.getD k false = true)
    (h0 : i = 0 → ∀ k, p ≤ k → k < p + b.length → t2.getD k false = false) : SureInv was { S.writes i p b with calls := S.calls + 1 } t2 least := by
  refine ⟨I.fuse, I.down, I.sure, hl.trans I.len, I.le, fun q hq => ?_⟩
  rcases List.mem_append.1 (show q ∈ S.ps ++ chunks i b.length p b from hq) with hq | hq
  · exact (I.ps q hq).mono (Nat.le_refl _) ht
  · intro hf
    obtain ⟨k1, k2, k3⟩ := chunks_file _ _ _ _ q hq
    obtain ⟨k4, k5⟩ := chunks_in _ _ _ _ (Nat.le_refl _) q hq
    exact ⟨fun hc => (by rw [k2] at hc; cases hc), fun _ j h1 h2 _ => h0 (k1.symm.trans hf) j (by omega) (by omega)⟩
theorem SureInv.cut {was : List UInt8} {S : DS} {t : List Bool} {least l2 i k : Nat} (I : SureInv was S t least) (hl : l2 ≤ least) (h0 : i = 0 → l2 ≤ k) : SureInv was { S.done ⟨i, true, k, []⟩ with calls := S.calls + 1 } t l2 := by
  refine ⟨I.fuse, I.down, I.sure, I.len, Nat.le_trans hl I.le, fun q hq => ?_⟩
  rcases List.mem_append.1 (show q ∈ S.ps ++ [_] from hq) with hq | hq
  · exact (I.ps q hq).mono hl (fun _ h => h)
  · simp only [List.mem_cons, List.not_mem_nil, or_false] at hq
    subst hq
    intro hf
    exact ⟨fun _ => h0 hf, fun hc => (by cases hc)⟩
theorem sync_zero {S : DS} (hf : S.fuse = 0) (hd : S.down = false) : S.sync 0 = (0, { S with calls := S.calls + 1 }.synced 0) := by
  have hm : S.may 0 = 0 := may_ok (i := 0) hd (by omega)
  rw [DS.sync, if_neg (by rw [hm]; simp), ends_zero hf, if_neg (by simp)]
  rfl
theorem SureInv.start {S : DS} (hf : S.fuse = 0) (hd : S.down = false) : SureInv (S.now 0) ({ S with calls := S.calls + 1 }.synced 0) (List.replicate (S.now 0).length true) (S.now 0).length := by
  refine ⟨hf, hd, upd_same S.sure 0 (S.now 0), by simp, Nat.le_refl _, fun p hp => ?_⟩
  have := (List.mem_filter.1 hp).2
  intro h0
  rw [h0] at this
  simp at this
end Go.Proofs.Ytchfnjfmlhacfaa
