/- Contracts of codec: put. -/
import Derived.Test.YtflhhipemmlgpaaDoorE
import Derived.Test.YtflhhipemmlgpaaDoorAbsRR
set_option linter.unusedSimpArgs false
set_option linter.unusedVariables false
namespace Go.Proofs.YtflhhipemmlgpaaDoor
open Go.Abs

def Put (a : Option Addr) (l : List UInt8) (v : Int) (m n0 n : Nat) (h : AH) (r : Value) (n' : Nat) (h' : AH) : Prop :=
  ∃ a', r = .slice a' (m + (form v).length) (m + (form v).length) ∧ OwnSl h' n0 n' a' 1 (m + (form v).length) (bytesV (l ++ form v)) ∧ ExtX n a h h' ∧ (a' = a ∨ n ≤ sb a')
theorem ExtX.step {n m k : Nat} {a a' : Option Addr} {h h1 h2 h3 : AH} (e : ExtX n a h h1) (g : Ext m h1 h2) (f : ExtX k a' h2 h3) (hm : n ≤ m) (hk : n ≤ k) (ha : a' = a ∨ n ≤ sb a') : ExtX n a h h3 := fun x hx hne => by
  have h1 := e x hx hne
  have hx2 : x < m := by omega
  have h3 := f x (by omega) (by
    rcases ha with r | r
    · rw [r]; exact hne
    · exact .inr (by omega))
  exact ⟨by rw [h3.1, g.info x hx2, h1.1], fun i => by rw [h3.2, g.cell x i hx2, h1.2]⟩
theorem bytesV_app (l k : List UInt8) : bytesV (l ++ k) = bytesV l ++ bytesV k := by simp [bytesV]
set_option maxHeartbeats 4000000 in
theorem putP_rf (l : List UInt8) (v : Int) (h0 : 0 ≤ v) (hhi : v < 9223372036854775808) (a : Option Addr) (m n0 n : Nat) (h : AH) (hO : OwnSl h n0 n a 1 m (bytesV l)) (hm : m ≤ 1099511627776) :
    RF Tryd.prog (inA a) 44 #[.slice a m m, .int .i64 v] n h (Put a l v m n0 n h) := by
  refine RF.of Tryd.func44 rfl rfl (Nat.le_of_ble_eq_true rfl) ?_; dsimp only [argEnv]
  have hml : m = l.length := by have := hO.len; simp [bytesV] at this; omega
  have hfl : (form v).length = if v.toNat < 120 then 1 else 1 + nb (v.toNat - 120) := form_lenP (by omega)
  have hf : form v = formUp v.toNat := by unfold form; rw [if_neg (by omega)]
  by_cases q : v < 120
  · rw [if_pos (by omega)] at hfl
    have hf1 : form v = [UInt8.ofNat (128 + v.toNat)] := by rw [hf]; unfold formUp; rw [if_pos (by omega)]
    repeat' (first | refine stpS ?_ | (refine stp2 ?_ ?_ <;> intro _) | refine RS.call1 rfl opds (size_ev _ (by omega) (by omega) _ _) none'W ?_)
    refine RS.appendT rfl opd opd (hO.ext ext (Nat.le_succ _)) (OwnSl.src (OwnSl.new1 (n0 := n) (m := 1) (Nat.le_refl _) rfl rfl)) full_slice (fun q => .inl ⟨q, rfl⟩) (by omega) ?_
    intro a2 n2 h2 hle2 hO2 hX hnew
    repeat' (first | refine stpS ?_ | (refine stp2 ?_ ?_ <;> intro _))
    refine ⟨a2, by rw [hfl], ?_, ExtX.step ExtX.refl ext hX (Nat.le_refl _) (by omega) (.inl rfl), hnew.imp_right fun q => by omega⟩
    rw [hfl, bytesV_app, hf1]
    have e : bytesV [UInt8.ofNat (128 + v.toNat)] = [.int .u8 (128 + v)] := by
      simp only [bytesV, List.map_cons, List.map_nil, UInt8.toNat_ofNat']
      rw [Nat.mod_eq_of_lt (by omega), show ((128 + v.toNat : Nat) : Int) = 128 + v by omega]
    rw [e]; exact hO2
  · rw [if_neg (by omega)] at hfl
    obtain ⟨x, hx⟩ : ∃ x : Nat, x = v.toNat - 120 := ⟨_, rfl⟩
    rw [← hx] at hfl
    have hf1 : form v = UInt8.ofNat (247 + nb x) :: be (nb x) x := by rw [hf]; unfold formUp; rw [if_neg (by omega), ← hx]
    have hnb := nb_le (m := x) (by omega)
    have hnp := nb_pos x
    repeat' (first | refine stpS ?_ | (refine stp2 ?_ ?_ <;> intro _) | refine RS.call1 rfl opds (size_ev _ (by omega) (by omega) _ _) none'W ?_)
    refine RS.appendT rfl opd opd (hO.ext ext (Nat.le_succ _)) (OwnSl.src (OwnSl.new1 (n0 := n) (m := 1) (Nat.le_refl _) rfl rfl)) full_slice (fun q => .inl ⟨q, rfl⟩) (by omega) ?_
    intro a2 n2 h2 hle2 hO2 hX hnew
    have hbl := be_length (nb x) x
    have hX2 : ExtX n a h h2 := ExtX.step ExtX.refl ext hX (Nat.le_refl _) (by omega) (.inl rfl)
    have e1 : bytesV (l ++ UInt8.ofNat (247 + nb x) :: (be (nb x) x).take 0) = bytesV l ++ [.int .u8 (247 + (((form v).length : Nat) - 1))] := by
      rw [bytesV_app]
      simp only [bytesV, List.take_zero, List.map_cons, List.map_nil, UInt8.toNat_ofNat']
      rw [Nat.mod_eq_of_lt (by omega), show ((247 + nb x : Nat) : Int) = 247 + ((form v).length - 1) by omega]
    rw [← e1] at hO2
    repeat' (first | refine stpS ?_ | (refine stp2 ?_ ?_ <;> intro _))
    refine RC.loop ?_
    refine RL.inv (α := Int × Nat × Option Addr) (fun s => [(7, .int .i64 s.1), (0, .slice s.2.2 (m + 1 + s.2.1) (m + 1 + s.2.1)), (1, .int .i64 v)])
      (fun s n1 h1 => s.1 = nb x - 1 - s.2.1 ∧ s.2.1 ≤ nb x ∧ n ≤ n1 ∧ ExtX n a h h1 ∧ OwnSl h1 n0 n1 s.2.2 1 (m + 1 + s.2.1) (bytesV (l ++ UInt8.ofNat (247 + nb x) :: (be (nb x) x).take s.2.1)) ∧ (s.2.2 = a ∨ n ≤ sb s.2.2))
      (fun s => nb x - s.2.1) (_, 0, a2) envs ⟨by dsimp only; omega, by dsimp only; omega, by omega, hX2, hO2, hnew.imp_right fun q => by show n ≤ sb a2; omega⟩ ?_
    rintro ⟨z, i, a3⟩ n3 h3 ⟨hz, hi, hn3, hX3, hO3, hw3⟩
    dsimp only at hz hi hn3 hX3 hO3 hw3 ⊢
    by_cases hlt : 0 ≤ z
    · have hw : ((((v - 120).toNat >>> (8 * z).toNat : Nat) : Int) % 256) = (((be (nb x) x).getD i 0).toNat : Nat) := by
        have hd : (be (nb x) x).getD i 0 = UInt8.ofNat (x / 256 ^ z.toNat) := by
          unfold be
          rw [show z.toNat = nb x - 1 - i by omega]
          simp [List.getD, show i < nb x by omega]
        rw [hd, UInt8.toNat_ofNat', Nat.shiftRight_eq_div_pow, show (v - 120).toNat = x by omega, show (8 * z).toNat = 8 * z.toNat by omega, ← pow256]
        rfl
      repeat (first | (refine RS.put (v := .int .u8 ((((v - 120).toNat >>> (8 * z).toNat : Nat) : Int) % 256)) rfl rfl (o_convM_u8 (Opd.tmp Look.here)) ?_) | refine stpS ?_)
      rw [hw]
      have hb : ((be (nb x) x).getD i 0).toNat < 256 := UInt8.toNat_lt _
      refine RS.appendT rfl opd opd (hO3.ext ext (Nat.le_succ _)) (OwnSl.src (OwnSl.new1 (n0 := n3) (m := 1) (Nat.le_refl _) rfl rfl)) full_slice (fun q => hw3.elim (fun e => .inl (by subst e; exact ⟨q, rfl⟩)) .inr) (by omega) ?_
      intro a4 n4 h4 hle4 hO4 hX4 hnew4
      have hX5 : ExtX n a h h4 := ExtX.step hX3 ext hX4 hn3 (by omega) hw3
      repeat' (first | refine stpS ?_ | (refine stp2 ?_ ?_ <;> intro _))
      refine nextC.normal ⟨(z - 1, i + 1, a4), by dsimp only; omega, envs, by dsimp only; omega, by dsimp only; omega, by omega, hX5, ?_, ?_⟩
      · dsimp only
        have e : bytesV (l ++ UInt8.ofNat (247 + nb x) :: (be (nb x) x).take (i + 1)) = bytesV (l ++ UInt8.ofNat (247 + nb x) :: (be (nb x) x).take i) ++ [.int .u8 ((be (nb x) x).getD i 0).toNat] := by
          have h1 := bytesV_take_succ (be (nb x) x) i (by omega)
          rw [bytesV_app, bytesV_app, List.append_assoc]
          show _ ++ _ :: bytesV ((be (nb x) x).take (i + 1)) = _
          rw [h1]; rfl
        rw [e]; exact hO4
      · dsimp only
        rcases hnew4 with e | e
        · rw [e]; exact hw3
        · exact .inr (by omega)
    · repeat' (first | refine stpS ?_ | (refine stp2 ?_ ?_ <;> intro _))
      have e : i = nb x := by omega
      subst e
      rw [List.take_of_length_le (by omega), ← hf1] at hO3
      refine ⟨a3, by rw [hfl, Nat.add_assoc], ?_, hX3, hw3⟩
      rw [hfl, ← Nat.add_assoc]
      exact hO3
end Go.Proofs.YtflhhipemmlgpaaDoor
