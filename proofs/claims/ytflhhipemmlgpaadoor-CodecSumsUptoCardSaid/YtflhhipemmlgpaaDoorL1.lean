/- The law CodecSums. -/
import Derived.Test.YtflhhipemmlgpaaDoorV
set_option linter.unusedSimpArgs false
set_option linter.unusedVariables false
namespace Go.Proofs.YtflhhipemmlgpaaDoor
open Go.Abs

theorem begun_ev (n : Nat) (h : AH) : Ev Tryd.prog none' 14 #[] n h (.bool true) n h :=
  RF.pure rfl fun n' hn => (begun_rf n' h).mono fun r n h q => q.1
set_option maxHeartbeats 4000000 in
theorem law_CodecSums (a b : Option Addr) (l : List Int) (t : List UInt8) (k : Nat) (n : Nat) (h : AH) (S : SlN h n a .i64 l) (hk : In64 l) (S2 : SlB h n b t) (hl : l.length ≤ 1048576) (ht : t.length ≤ 1048576) (hk2 : k < 65536) :
    RF Tryd.prog none' 3 #[.slice a l.length l.length, .slice b t.length t.length, .int .u16 (k : Nat)] n h (fun r _ _ => r = .bool true) := by
  refine RF.of Tryd.func3 rfl rfl (Nat.le_of_ble_eq_true rfl) ?_; dsimp only [argEnv]
  repeat' (first | refine stpS ?_ | (refine stp2 ?_ ?_ <;> intro _))
  refine RC.loop ?_
  refine RL.inv (α := Nat) (fun i => [(12, .int .i64 (i : Nat)), (11, .int .i64 (l.length : Nat)), (10, .slice a l.length l.length), (0, .slice a l.length l.length), (1, .slice b t.length t.length), (2, .int .u16 (k : Nat))])
    (fun i n1 h1 => i ≤ l.length ∧ n ≤ n1 ∧ Ext n h h1)
    (fun i => l.length - i) 0 envs ⟨by omega, Nat.le_refl _, Ext.refl _ _⟩ ?_
  rintro i n1 h1 ⟨hi, hn, hE⟩
  have hS := S.ext hE hn
  have hS2 := S2.ext hE hn
  by_cases hlt : i < l.length
  · obtain ⟨v1, v2⟩ := hk.at_ i hlt
    have hvl := form_le (l.getD i 0) v1 v2
    repeat' (first | refine stpS ?_ | (refine stp2 ?_ ?_ <;> intro _))
    rw [show (i : Int).toNat = i by omega]
    rw [show intsF .i64 l i = .int .i64 (l.getD i 0) from rfl]
    refine RS.call1 rfl opds (size_ev _ v1 v2 _ _) none'W ?_
    repeat' (first | refine stpS ?_ | (refine stp2 ?_ ?_ <;> intro _))
    refine RS.call rfl opds (refInt_rf (l.getD i 0) v1 v2 n1 h1) none'W ?_
    rintro r n2 h2 hle ⟨a2, rfl, hE2, hO2⟩
    repeat' (first | refine stpS ?_ | (refine stp2 ?_ ?_ <;> intro _))
    exact nextC.normal ⟨i + 1, by omega, envs, by omega, by omega, hE.trans hn hE2⟩
  · obtain ⟨kk, hkk, hkl⟩ : ∃ kk : Nat, (k : Int) % ((t.length : Int) + 1) = kk ∧ kk ≤ t.length := ⟨k % (t.length + 1), (Int.natCast_emod k (t.length + 1)).symm, Nat.le_of_lt_succ (Nat.mod_lt _ (Nat.succ_pos _))⟩
    have hS2k := SlB.take hS2 hkl
    have hS2d := SlB.cut hS2 hkl (Nat.le_refl _)
    rw [List.take_length] at hS2d
    have hfl := forms_le hk
    repeat' (first | refine stpS ?_ | (refine stp2 ?_ ?_ <;> intro _))
    rw [hkk]
    repeat' (first | refine stp ?_ | (refine stp2 ?_ ?_ <;> intro _))
    refine RD.callP n1 rfl opds (begun_ev _ _) (Nat.le_refl _) cfc ?_
    repeat' (first | refine stp ?_ | (refine stp2 ?_ ?_ <;> intro _))
    refine RD.call n1 rfl opds (row_rf l a _ n1 _ (SlR.ext hS (AH.below_ext _ _) (Nat.le_refl _)) hk rfl hl) (Nat.le_refl _) cfc ?_
    rintro r n2 h2 hle2 ⟨a2, rfl, hE2, hO2⟩
    have hE2 : Ext n1 h1 h2 := hE2.via (Nat.le_refl _) (AH.below_ext h1 n1)
    have hS' := hS.ext hE2 hle2
    repeat' (first | refine stp ?_ | (refine stp2 ?_ ?_ <;> intro _))
    refine RD.call n2 rfl opds (refRow_rf l a _ n2 _ (SlR.ext hS' (AH.below_ext _ _) (Nat.le_refl _)) hk rfl hl) (Nat.le_refl _) cfc ?_
    rintro r n3 h3 hle3 ⟨a3, rfl, hE3, hO3⟩
    have hE3 : Ext n2 h2 h3 := hE3.via (Nat.le_refl _) (AH.below_ext h2 n2)
    have hO2' := hO2.ext hE3 hle3
    repeat' (first | refine stp ?_ | (refine stp2 ?_ ?_ <;> intro _))
    have heq := equal_ev (forms l) (forms l) _ _ _ _ n3 (h3.below n3) (SlR.ext hO2'.slb (AH.below_ext _ _) (Nat.le_refl _)) (SlR.ext hO3.slb (AH.below_ext _ _) (Nat.le_refl _)) rfl rfl
    rw [decide_eq_true rfl] at heq
    refine RD.callP n3 rfl opds heq (Nat.le_refl _) cfc ?_
    have hE4 : Ext n1 h1 h3 := hE2.trans hle2 hE3
    have hB3 := hS2.ext hE4 (by omega : n1 ≤ n3)
    have hBk := SlR.ext hS2k hE4 (by omega : n1 ≤ n3)
    have hBd := SlR.ext hS2d hE4 (by omega : n1 ≤ n3)
    repeat' (first | refine stp ?_ | (refine stp2 ?_ ?_ <;> intro _))
    refine RD.gen (fun g => SlQ g (n3 + 1) (some ⟨n3, 0, none⟩) (fun j => (([(b, t)] : List (Option Addr × List UInt8)).getD j (none, [])).1) [t] ∧ Ext n3 h3 g) ⟨slq_new [(b, t)] (fun x hx => by simp only [List.mem_singleton] at hx; subst hx; exact hB3), ext⟩ ?_
    rintro g4 ⟨hQ4, hE5⟩
    have hsum := sum_ev [t] _ _ 1 (n3 + 1) (g4.below (n3 + 1)) (hQ4.ext (AH.below_ext _ _) (Nat.le_refl _)) rfl (by omega) (by simp; omega)
    rw [show [t].flatten = t by simp] at hsum
    refine RD.callP (n3 + 1) rfl opds hsum (Nat.le_refl _) cfc ?_
    have hB4 := hB3.ext hE5 (Nat.le_succ n3)
    repeat' (first | refine stp ?_ | (refine stp2 ?_ ?_ <;> intro _))
    refine RD.callP (n3 + 1) rfl opds (refSum_ev t _ _ _ _ (SlR.ext hB4 (AH.below_ext _ _) (Nat.le_refl _)) rfl (by omega)) (Nat.le_refl _) cfc ?_
    have hBk4 := SlR.ext hBk hE5 (Nat.le_succ n3)
    have hBd4 := SlR.ext hBd hE5 (Nat.le_succ n3)
    repeat' (first | refine stp ?_ | (refine stp2 ?_ ?_ <;> intro _))
    rw [Int.toNat_natCast]
    have e1 : (t.take kk).length = kk := by rw [List.length_take]; omega
    have e2 : (t.drop kk).length = t.length - kk := List.length_drop
    have hq := slq_new [(b, t.take kk), (sub b kk, t.drop kk)] (n := n3 + 1) (h := g4) (fun x hx => by
      simp only [List.mem_cons, List.not_mem_nil, or_false] at hx
      rcases hx with rfl | rfl
      · exact hBk4
      · exact hBd4)
    simp only [List.map_cons, List.map_nil, rowV, e1, e2] at hq
    refine RD.gen (fun g => SlQ g (n3 + 1 + 1) (some ⟨n3 + 1, 0, none⟩) (fun j => (([(b, t.take kk), (sub b kk, t.drop kk)] : List (Option Addr × List UInt8)).getD j (none, [])).1) [t.take kk, t.drop kk] ∧ Ext (n3 + 1) g4 g) ⟨hq, ext⟩ ?_
    rintro g5 ⟨hQ5, hE6⟩
    have hsum5 := sum_ev [t.take kk, t.drop kk] _ _ 2 (n3 + 1 + 1) (g5.below (n3 + 1 + 1)) (hQ5.ext (AH.below_ext _ _) (Nat.le_refl _)) rfl (by omega) (by simp; omega)
    rw [show [t.take kk, t.drop kk].flatten = t by simp] at hsum5
    refine RD.callP (n3 + 1 + 1) rfl opds hsum5 (Nat.le_refl _) cfc ?_
    have hB5 := hB4.ext hE6 (Nat.le_succ _)
    repeat' (first | refine stp ?_ | (refine stp2 ?_ ?_ <;> intro _))
    refine RD.gen (fun g => SlQ g (n3 + 1 + 1 + 1) (some ⟨n3 + 1 + 1, 0, none⟩) (fun j => (([(b, t)] : List (Option Addr × List UInt8)).getD j (none, [])).1) [t]) (slq_new [(b, t)] (fun x hx => by simp only [List.mem_singleton] at hx; subst hx; exact hB5)) ?_
    rintro g6 hQ6
    have hsum6 := sum_ev [t] _ _ 1 (n3 + 1 + 1 + 1) (g6.below (n3 + 1 + 1 + 1)) (hQ6.ext (AH.below_ext _ _) (Nat.le_refl _)) rfl (by omega) (by simp; omega)
    rw [show [t].flatten = t by simp] at hsum6
    refine RD.callP (n3 + 1 + 1 + 1) rfl opds hsum6 (Nat.le_refl _) cfc ?_
    repeat' (first | refine stp ?_ | (refine stp2 ?_ ?_ <;> intro _))
    rfl
end Go.Proofs.YtflhhipemmlgpaaDoor
