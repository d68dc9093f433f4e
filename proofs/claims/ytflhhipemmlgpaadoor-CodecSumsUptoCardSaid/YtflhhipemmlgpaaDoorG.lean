/- Contracts of codec: put of any int. -/
import Derived.Test.YtflhhipemmlgpaaDoorF
set_option linter.unusedSimpArgs false
set_option linter.unusedVariables false
namespace Go.Proofs.YtflhhipemmlgpaaDoor
open Go.Abs

/-- The bytes while the form is turned: i of its bytes are. -/
def cur (l f : List UInt8) (i : Nat) : List UInt8 := l ++ (turn (f.take i) ++ f.drop i)
theorem cur_length (l f : List UInt8) (i : Nat) : (cur l f i).length = l.length + f.length := by
  simp [cur, turn]; omega
theorem set_mid (A B D : List Value) (c v : Value) : (A ++ (B ++ c :: D)).set (A.length + B.length) v = A ++ (B ++ v :: D) := by
  rw [List.set_append_right _ _ (by omega), Nat.add_sub_cancel_left, List.set_append_right _ _ (by omega), Nat.sub_self]; rfl
theorem xor255 : ∀ x : Nat, x < 256 → x ^^^ 255 = 255 - x := by decide +kernel
theorem cur_succ (l f : List UInt8) (i : Nat) (hi : i < f.length) :
    bytesV (cur l f (i + 1)) = (bytesV (cur l f i)).set (l.length + i) (.int .u8 ((((((cur l f i).getD (l.length + i) 0).toNat : Nat) : Int).toNat ^^^ (255 : Int).toNat : Nat) : Int)) := by
  have hd : f.drop i = f[i] :: f.drop (i + 1) := List.drop_eq_getElem_cons hi
  have ht : f.take (i + 1) = f.take i ++ [f[i]] := List.take_succ_eq_append_getElem hi
  have htl : (turn (f.take i)).length = i := by simp [turn]; omega
  have hg : (cur l f i).getD (l.length + i) 0 = f[i] := by
    unfold cur
    rw [hd, List.getD_eq_getElem?_getD, List.getElem?_append_right (by omega), Nat.add_sub_cancel_left, List.getElem?_append_right (by omega), htl, Nat.sub_self]
    rfl
  rw [hg, Int.toNat_natCast, show (255 : Int).toNat = 255 from rfl, xor255 _ f[i].toNat_lt]
  unfold cur
  rw [hd, ht]
  have e1 : turn (f.take i ++ [f[i]]) = turn (f.take i) ++ [255 - f[i]] := by unfold turn; rw [List.map_append]; rfl
  rw [e1, List.append_assoc]
  simp only [bytesV_app]
  have hx : (255 - f[i]).toNat = 255 - f[i].toNat := by
    have := f[i].toNat_lt
    rw [UInt8.toNat_sub_of_le _ _ (by rw [UInt8.le_iff_toNat_le]; show f[i].toNat ≤ 255; omega)]
    rfl
  have hA : (bytesV l).length = l.length := by simp [bytesV]
  have hB : (bytesV (turn (f.take i))).length = i := by simp [bytesV, htl]
  have := set_mid (bytesV l) (bytesV (turn (f.take i))) (bytesV (f.drop (i + 1))) (.int .u8 f[i].toNat) (.int .u8 (255 - f[i].toNat : Nat))
  rw [hA, hB] at this
  show bytesV l ++ (bytesV (turn (f.take i)) ++ (.int .u8 (255 - f[i]).toNat :: bytesV (f.drop (i + 1)))) = _
  rw [hx]
  exact this.symm
theorem form_pos (v : Int) : 1 ≤ (form v).length := by
  rw [form_length, formUp_length]
  generalize (if v < 0 then (-v - 1).toNat else v.toNat) = y
  split <;> omega
theorem form_le (v : Int) (hlo : -9223372036854775808 ≤ v) (hhi : v < 9223372036854775808) : (form v).length ≤ 9 := by
  rw [form_length, formUp_length]
  obtain ⟨y, hy⟩ : ∃ y, y = if v < 0 then (-v - 1).toNat else v.toNat := ⟨_, rfl⟩
  have hy2 : y < 9223372036854775808 := by rw [hy]; split <;> omega
  rw [← hy]
  have := nb_le (m := y - 120) (by omega)
  split <;> omega
set_option maxHeartbeats 4000000 in
theorem put_rf (l : List UInt8) (v : Int) (hlo : -9223372036854775808 ≤ v) (hhi : v < 9223372036854775808) (a : Option Addr) (m n0 n : Nat) (h : AH) (hO : OwnSl h n0 n a 1 m (bytesV l)) (hm : m ≤ 1099511627776) :
    RF Tryd.prog (inA a) 44 #[.slice a m m, .int .i64 v] n h (Put a l v m n0 n h) := by
  by_cases q : 0 ≤ v
  · exact putP_rf l v q hhi a m n0 n h hO hm
  refine RF.of Tryd.func44 rfl rfl (Nat.le_of_ble_eq_true rfl) ?_; dsimp only [argEnv]
  have hml : m = l.length := by have := hO.len; simp [bytesV] at this; omega
  obtain ⟨w, hw⟩ : ∃ w, w = -v - 1 := ⟨_, rfl⟩
  have hf : form v = turn (form w) := by
    unfold form
    rw [if_pos (by omega), if_neg (by omega), hw]
  have hfp := form_pos w
  have hfl := form_le w (by omega) (by omega)
  repeat (first | (refine RS.put (v := .int .i64 (-v - 1)) rfl rfl (o_notI (Opd.tmp Look.here) hlo hhi) ?_) | refine stpS ?_)
  rw [← hw]
  refine RS.call rfl opds (putP_rf l w (by omega) (by omega) a m n0 n _ hO hm) (fun b hb => .inl hb) ?_
  rintro r n1 h1 hle ⟨a1, rfl, hO1, hX1, hn1⟩
  have hS1 : SlB h1 n1 a1 (l ++ form w) := OwnSl.slbE hO1
  obtain ⟨-, -, hhi1, hI1, hA1, -⟩ := hO1.facts (by omega)
  have hSI : SlI h1 a1 1 (m + (form w).length) := SlI.of hO1.slr (Ext.refl _ _)
  repeat' (first | refine stpS ?_ | (refine stp2 ?_ ?_ <;> intro _))
  rw [show m + (form w).length - (m : Int).toNat = (form w).length by omega]
  have e0 : l ++ form w = cur l (form w) 0 := by simp [cur, turn]
  rw [e0] at hO1
  have hTs : a1 ≠ none → inA a (sb a1) ∨ n ≤ sb a1 := fun q => hn1.elim (fun e => .inl (by subst e; exact ⟨q, rfl⟩)) .inr
  refine RC.loop ?_
  refine RL.inv (α := Nat) (fun i => [(20, .int .i64 (i : Nat)), (19, .int .i64 ((form w).length : Nat)), (0, .slice a1 (m + (form w).length) (m + (form w).length)), (5, .int .i64 m)])
    (fun i n2 h2 => i ≤ (form w).length ∧ n1 = n2 ∧ ExtX n a h h2 ∧ OwnSl h2 n0 n2 a1 1 (m + (form w).length) (bytesV (cur l (form w) i)))
    (fun i => (form w).length - i) 0 envs ⟨by omega, rfl, hX1, hO1⟩ ?_
  rintro i n2 h2 ⟨hi, rfl, hX2, hO2⟩
  have hS2 : SlB h2 n1 a1 (cur l (form w) i) := OwnSl.slbE hO2
  obtain ⟨hso, -, -, hI2, -, -⟩ := hO2.facts (by omega)
  have hcl := cur_length l (form w) i
  have hb : ((cur l (form w) i).getD ((m : Int) + (i : Int)).toNat 0).toNat < 256 := UInt8.toNat_lt _
  have hTs' := hTs (fun e => by
    rcases hA1 with ⟨-, k⟩ | k
    · omega
    · rw [e] at k; cases k)
  by_cases hlt : i < (form w).length
  · repeat' (first | refine stpS ?_ | (refine stp2 ?_ ?_ <;> intro _))
    have hset := hO2.set1 (i := m + i) (v := .int .u8 (((((((cur l (form w) i).getD (l.length + i) 0).toNat : Nat) : Int).toNat ^^^ (255 : Int).toNat : Nat) : Int))) (by omega) rfl
    have hcs := cur_succ l (form w) i hlt
    rw [← hml] at hcs hset
    rw [← hcs] at hset
    rw [show ((m : Int) + (i : Int)).toNat = m + i by omega]
    refine nextC.normal ⟨i + 1, by omega, envs, by omega, rfl, ?_, hset⟩
    exact ExtX.step hX2 (Ext.refl n1 _) (k := n) (a' := a1) (fun x hx hne => ⟨by simp [AH.app, Dl.sets], fun j => by
      rcases hne with e | e
      · exact absurd e (fun e => by
          rcases hA1 with ⟨-, k⟩ | k
          · omega
          · rw [e] at k; cases k)
      · simp [AH.app, Dl.sets, e]⟩) hle (Nat.le_refl _) hn1
  · repeat' (first | refine stpS ?_ | (refine stp2 ?_ ?_ <;> intro _))
    have e : i = (form w).length := by omega
    subst e
    have hl : (form v).length = (form w).length := by rw [hf, turn_length]
    refine ⟨a1, by rw [hl], ?_, hX2, hn1⟩
    rw [hl, hf]
    have e2 : cur l (form w) (form w).length = l ++ turn (form w) := by simp [cur]
    rw [e2] at hO2
    exact hO2
end Go.Proofs.YtflhhipemmlgpaaDoor
