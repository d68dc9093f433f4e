/- Contracts of batches: no value, and rows of one. -/
import Derived.Test.YtaagbfpbbhaclaaMu
import Derived.Test.YtaagbfpbbhaclaaK2
set_option linter.unusedSimpArgs false
set_option linter.unusedVariables false
namespace Go.Proofs.Ytaagbfpbbhaclaa
open Go.Abs

def noV (t : Ty) : Val := ⟨t, true, 0, ByteArray.empty⟩
set_option maxHeartbeats 4000000 in
theorem none_ev (t : Ty) (n : Nat) (h : AH) : Ev Try.prog none' 46 #[.agg #[.int .i64 t.kind, .int .i64 t.scale]] n h (.agg #[.int .i64 t.kind, .int .i64 t.scale, .bool true, .int .i64 0, .string ByteArray.empty]) n h := by
  obtain ⟨k, s⟩ := t
  refine RF.pure (by simp [flat]) fun n' hn => ?_
  refine RF.of Try.func46 rfl rfl (Nat.le_of_ble_eq_true rfl) ?_; dsimp only [argEnv]
  repeat' (first | refine stpS ?_ | (refine stp2 ?_ ?_ <;> intro _))
  rfl
set_option maxHeartbeats 4000000 in
theorem refNone_ev (t : Ty) (n : Nat) (h : AH) : Ev Try.prog none' 47 #[.agg #[.int .i64 t.kind, .int .i64 t.scale]] n h (.agg #[.int .i64 t.kind, .int .i64 t.scale, .bool true, .int .i64 0, .string ByteArray.empty]) n h := by
  obtain ⟨k, s⟩ := t
  refine RF.pure (by simp [flat]) fun n' hn => ?_
  refine RF.of Try.func47 rfl rfl (Nat.le_of_ble_eq_true rfl) ?_; dsimp only [argEnv]
  repeat' (first | refine stpS ?_ | (refine stp2 ?_ ?_ <;> intro _))
  rfl
theorem valsC_rep (v : Val) (a b : Nat) : valsC (List.replicate (a + b) v) = valsC (List.replicate a v) ++ valsC (List.replicate b v) := by rw [show List.replicate (a + b) v = List.replicate a v ++ List.replicate b v from (List.replicate_append_replicate ..).symm, valsC_app]
set_option maxHeartbeats 4000000 in
theorem repeat_rf (v : Val) (a : Option Addr) (k n : Nat) (h : AH) (S : SlV h n a [v]) (hk : k ≤ 2048) :
    RF Try.prog none' 45 #[.slice a 1 1, .int .i64 (k : Nat)] n h (fun r n' h' => ∃ a', r = .slice a' k k ∧ Ext n h h' ∧ OwnSl h' n n' a' 5 k (valsC (List.replicate k v))) := by
  refine RF.of Try.func45 rfl rfl (Nat.le_of_ble_eq_true rfl) ?_; dsimp only [argEnv]
  repeat' (first | refine stpS ?_ | (refine stp2 ?_ ?_ <;> intro _) | refine RS.call1 rfl opds (mul_ev k (by omega) _ _) none'W ?_)
  simp only [Int.toNat_natCast]
  obtain ⟨g, hg⟩ : ∃ g, g = h.app (.new n ⟨k * 5, 0, true, 5⟩ (zrow [.int .i64 0, .int .i64 0, .bool false, .int .i64 0, .string ByteArray.empty] k)) := ⟨_, rfl⟩
  refine RS.heap hg ?_
  have E1 : Ext n h g := by rw [hg]; exact ext
  have i1 : g.info n = some ⟨k * 5, 0, true, 5⟩ := by rw [hg]; exact info
  have hO : OwnSl g n (n + 1) (some ⟨n, 0, none⟩) 5 k (zrow [.int .i64 0, .int .i64 0, .bool false, .int .i64 0, .string ByteArray.empty] k) := by
    rw [hg]; exact OwnSl.new (m := k) (z := 5) (Nat.le_refl n) (zrow_length _ _) (known_zrow rfl)
  have S1 : SlV g (n + 1) a [v] := SlR.ext S E1 (Nat.le_succ n)
  clear hg
  have hsrc : Src g 5 (.slice a 1 1) (min 1 k) (valsC (List.replicate (min 1 k) v)) := by
    rcases Nat.eq_zero_or_pos k with q | q
    · subst q
      obtain ⟨ha, -⟩ | ha := S1.sla
      · have := S1.shape
        rcases this with ⟨-, w⟩ | ⟨w, -⟩
        · simp at w
        · rw [ha] at w; cases w
      · rw [ha]
        have := Src.slice (g := g) (z := 5) (b := sb a) (o := so a) (m := 1) (k := 0) (by omega) (by simp [rd, known])
        simpa [rd, valsC] using this
    · rw [Nat.min_eq_left q]; exact SlV.src S1
  refine RS.mem rfl rfl (op_copy (k := min 1 k) (kk := 1) Uc.out Tc.out (by decide) (Opd.ev opd) (Opd.ev opd) hsrc full_slice (fun c w q => lenOf_slice q) rfl i1 (Nat.zero_le _) (by show 0 + min 1 k * 5 ≤ k * 5; omega) (.inl (.inr (Nat.le_refl n))) (Nat.lt_succ_self n)) ?_
  repeat' (first | refine stpS ?_ | (refine stp2 ?_ ?_ <;> intro _))
  refine RC.loop ?_
  refine RL.inv (α := Nat × List Value) (fun y => [(8, .int .i64 (y.1 : Nat)), (7, .slice (some ⟨n, 0, none⟩) k k)])
    (fun y n2 h2 => min 1 k ≤ y.1 ∧ y.1 ≤ k ∧ n + 1 ≤ n2 ∧ Ext n h h2 ∧ OwnSl h2 n n2 (some ⟨n, 0, none⟩) 5 k (valsC (List.replicate y.1 v) ++ y.2)) (fun y => k - y.1) (min 1 k, (zrow [.int .i64 0, .int .i64 0, .bool false, .int .i64 0, .string ByteArray.empty] k).drop (min 1 k * 5)) envs
    ⟨Nat.le_refl _, Nat.min_le_right _ _, Nat.le_refl _, E1.trans (Nat.le_refl n) ext, ?_⟩ ?_
  · have := hO.splice (i := 0) (vs := valsC (List.replicate (min 1 k) v)) (by rw [valsC_length, List.length_replicate]; omega) (known_valsC _)
    have e : Abs.splice (zrow [.int .i64 0, .int .i64 0, .bool false, .int .i64 0, .string ByteArray.empty] k) 0 (valsC (List.replicate (min 1 k) v)) = valsC (List.replicate (min 1 k) v) ++ (zrow [.int .i64 0, .int .i64 0, .bool false, .int .i64 0, .string ByteArray.empty] k).drop (min 1 k * 5) := by
      simp [splice, valsC_length]
    rw [e] at this
    exact this
  rintro ⟨p, rest⟩ n2 h2 ⟨hp1, hpk, hn2, E2, hO2⟩
  dsimp only at hp1 hpk hO2 ⊢
  have hrl : rest.length = (k - p) * 5 := by
    have := hO2.len
    rw [List.length_append, valsC_length, List.length_replicate] at this
    omega
  by_cases hlt : p < k
  · obtain ⟨-, -, -, i2, -, hcc⟩ := hO2.facts (by omega)
    have i2 : h2.info n = some ⟨k * 5, 0, true, 5⟩ := i2
    have hnn : n < n2 := by omega
    obtain ⟨aN, haN⟩ : ∃ aN : Option Addr, aN = some ⟨n, 0, none⟩ := ⟨_, rfl⟩
    have hsb : sb aN = n := by rw [haN]; rfl
    have hso : so aN = 0 := by rw [haN]; rfl
    have hsl : sb aN < n2 := by omega
    rw [← haN]
    have hI : SlI h2 aN 5 k := .inr ⟨by rw [hsb, hso]; exact haN, _, by rw [hsb]; exact i2, rfl⟩
    repeat' (first | refine stpS ?_ | (refine stp2 ?_ ?_ <;> intro _))
    repeat' (first | refine stp ?_ | (refine stp2 ?_ ?_ <;> intro _))
    rw [Int.toNat_natCast, haN]
    have hsub : Abs.sub (some ⟨n, 0, none⟩) (p * 5) = some ⟨n, 0 + p * 5, none⟩ := rfl
    rw [hsub]
    have hc : min p (k - p) ≤ p := Nat.min_le_left _ _
    have hrep : valsC (List.replicate p v) = valsC (List.replicate (min p (k - p)) v) ++ valsC (List.replicate (p - min p (k - p)) v) := by rw [← valsC_rep]; congr 2; omega
    have hvl : (valsC (List.replicate (min p (k - p)) v)).length = min p (k - p) * 5 := by rw [valsC_length, List.length_replicate]
    have hrd : rd (h2.only n) n 0 (min p (k - p) * 5) = valsC (List.replicate (min p (k - p)) v) := by
      rw [rd_map]
      refine Eq.trans (List.map_congr_left fun j hj => ?_) (map_range_getD (valsC (List.replicate (min p (k - p)) v)) _ hvl.symm)
      have hj := List.mem_range.1 hj
      have h1 : h2.cell n (0 + j) = _ := hcc j (by omega)
      rw [c_only h1, hrep, List.append_assoc]
      simp only [List.getD]
      rw [List.getElem?_append_left (by rw [hvl]; exact hj)]
    have hkn : known (rd (h2.only n) n 0 (min p (k - p) * 5)) = true := by rw [hrd]; exact known_valsC _
    have hsr : Src (h2.only n) 5 (.slice (some ⟨n, 0, none⟩) p p) (min p (k - p)) (rd (h2.only n) n 0 (min p (k - p) * 5)) := .slice (Nat.min_le_left _ _) hkn
    refine RD.op (fun b => b = n) (fun b => b = n) (g := h2.only n) rfl (op_copy (k := min p (k - p)) (kk := p) (b := n) (o := 0 + p * 5) (m := k - p) Uc.out Tc.out (by decide) (Opd.ev opd) (Opd.ev opd) hsr full_slice (fun c w q => lenOf_slice q) rfl (i_only i2) (Nat.zero_le _) (by show 0 + p * 5 + min p (k - p) * 5 ≤ k * 5; omega) (.inl (.inr (Nat.le_refl n))) hnn) (AH.only_le _ _) (fun _ hx => AH.only_looks hx) (fun _ e => by subst e; exact hnn) (fun b hb => .inl (sets_touches hb)) cfs (.refl _) ?_
    rw [hrd]
    have hq : ((p : Int) + (min p (k - p) : Nat)) = ((p + min p (k - p) : Nat) : Int) := by omega
    repeat' (first | refine stp ?_ | (refine stp2 ?_ ?_ <;> intro _))
    rw [hq]
    refine nextC.normal ⟨(p + min p (k - p), rest.drop (min p (k - p) * 5)), by dsimp only; omega, envs, by dsimp only; omega, by dsimp only; omega, hn2, E2.trans (Nat.le_refl n) ext, ?_⟩
    dsimp only
    have hsp := hO2.splice (i := p * 5) (vs := valsC (List.replicate (min p (k - p)) v)) (by rw [hvl]; omega) (known_valsC _)
    have e : Abs.splice (valsC (List.replicate p v) ++ rest) (p * 5) (valsC (List.replicate (min p (k - p)) v)) = valsC (List.replicate (p + min p (k - p)) v) ++ rest.drop (min p (k - p) * 5) := by
      have hl : (valsC (List.replicate p v)).length = p * 5 := by rw [valsC_length, List.length_replicate]
      rw [valsC_rep, Abs.splice, ← hl, List.take_left, hvl, List.drop_append, List.drop_eq_nil_of_le (by omega), List.nil_append, Nat.add_sub_cancel_left]
    rw [e] at hsp
    exact hsp
  · have hpe : p = k := by omega
    subst hpe
    have hr0 : rest = [] := List.eq_nil_of_length_eq_zero (by omega)
    rw [hr0, List.append_nil] at hO2
    repeat' (first | refine stpS ?_ | (refine stp2 ?_ ?_ <;> intro _))
    exact ⟨_, rfl, E2, hO2⟩
end Go.Proofs.Ytaagbfpbbhaclaa
