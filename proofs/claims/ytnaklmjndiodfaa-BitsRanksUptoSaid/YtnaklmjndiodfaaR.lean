/- Contracts of bits' functions: where, rank; a told row of places. -/
import Derived.Test.YtnaklmjndiodfaaO
namespace Go.Proofs.Ytnaklmjndiodfaa
open Go.Abs

def whereI (t : List Bool) : List Int := (wheres t).map Int.ofNat
theorem whereI_length (t : List Bool) : (whereI t).length = (wheres t).length := by simp [whereI]
theorem whereI_getD (t : List Bool) (i : Nat) : (whereI t).getD i 0 = ((wheres t).getD i 0 : Nat) := by
  simp only [whereI, List.getD, List.getElem?_map]
  cases (wheres t)[i]? <;> rfl
set_option maxHeartbeats 4000000 in
theorem refWhere_rf (N : Int) (l : List UInt8) (a : Option Addr) (m n : Nat) (h : AH) (S : SlB h n a l) (e : m = l.length) (hm : m ≤ 137438953472) :
    RF Try.prog none' 27 #[.agg #[.int .i64 N, .slice a m m]] n h (fun r n' h' => ∃ a', r = .slice a' (wheres (truths N l)).length (wheres (truths N l)).length ∧ Ext n h h' ∧ OwnSl h' n n' a' 1 (wheres (truths N l)).length (intsV .i64 (whereI (truths N l)))) := by
  subst e
  have hp := plc_le N l.length
  have htl := truths_length N l
  refine RF.of Try.func27 rfl rfl (Nat.le_of_ble_eq_true rfl) ?_; dsimp only [argEnv]
  repeat' (first | refine stpS ?_ | (refine stp2 ?_ ?_ <;> intro _))
  refine RC.loop ?_
  refine RL.inv (α := Nat × Option Addr) (fun s => [(4, .int .i64 (s.1 : Nat)), (3, .slice s.2 (wheres ((truths N l).take s.1)).length (wheres ((truths N l).take s.1)).length), (1, .pointer (some ⟨n, 0, none⟩))])
    (fun s n1 h1 => s.1 ≤ (plc N l.length).toNat ∧ n + 1 ≤ n1 ∧ Ext (n + 1) (h.app (.new n ⟨2, 0, true, 0⟩ [.int .i64 N, .slice a l.length l.length])) h1 ∧ OwnSl h1 (n + 1) n1 s.2 1 (wheres ((truths N l).take s.1)).length (intsV .i64 (whereI ((truths N l).take s.1))))
    (fun s => (plc N l.length).toNat - s.1) (0, none) envs ⟨by omega, by omega, Ext.refl _ _, OwnSl.nil (by omega)⟩ ?_
  rintro ⟨i, a'⟩ n1 h1 ⟨hi, hn, hE, hO⟩
  dsimp only at hi hn hE hO ⊢
  by_cases hlt : i < (plc N l.length).toNat
  · have hw := wheres_snoc (truths N l) i (by omega)
    have hwl := wheres_le ((truths N l).take i)
    rw [List.length_take] at hwl
    cases hb : (truths N l).getD i false
    · have hg : Ev Try.prog none' 16 #[.agg #[.int .i64 N, .slice a l.length l.length], .int .i64 (i : Nat)] n1 h1 (.bool false) n1 h1 := by
        have := refGet_ev N l a l.length n1 h1 (i : Nat) (S.ext ext (by omega)) rfl (by omega)
        rwa [getB_truths, hb] at this
      repeat' (first | refine stpS ?_ | (refine stp2 ?_ ?_ <;> intro _) | refine RS.call1 rfl opds (refPlaces_ev _ _ _ _ _ (by omega)) none'W ?_ | refine RS.call1 rfl opds (hg) none'W ?_)
      refine nextC.normal ⟨(i + 1, a'), by dsimp only; omega, ?_, by dsimp only; omega, by omega, ext, ?_⟩
      · dsimp only
        rw [hw, hb, if_neg (by simp), List.append_nil]; exact envs
      · dsimp only
        have : whereI ((truths N l).take (i + 1)) = whereI ((truths N l).take i) := by unfold whereI; rw [hw, hb, if_neg (by simp), List.append_nil]
        rw [hw, hb, if_neg (by simp), List.append_nil, this]; exact hO
    · have hg : Ev Try.prog none' 16 #[.agg #[.int .i64 N, .slice a l.length l.length], .int .i64 (i : Nat)] n1 h1 (.bool true) n1 h1 := by
        have := refGet_ev N l a l.length n1 h1 (i : Nat) (S.ext ext (by omega)) rfl (by omega)
        rwa [getB_truths, hb] at this
      repeat' (first | refine stpS ?_ | (refine stp2 ?_ ?_ <;> intro _) | refine RS.call1 rfl opds (refPlaces_ev _ _ _ _ _ (by omega)) none'W ?_ | refine RS.call1 rfl opds (hg) none'W ?_)
      refine RS.append rfl opd opd (hO.ext ext (Nat.le_succ _)) (OwnSl.src (OwnSl.new1 (n0 := n1) (m := 1) (Nat.le_refl _) rfl rfl)) full_slice (fun b hb => Or.inr (by omega)) (by omega) ?_
      intro a2 n2 h2 hle2 hO2 hX hnew
      have hE2 := hX.ext (hO.ext ext (Nat.le_succ _))
      repeat' (first | refine stpS ?_ | (refine stp2 ?_ ?_ <;> intro _))
      have e1 : (wheres ((truths N l).take (i + 1))).length = (wheres ((truths N l).take i)).length + 1 := by rw [hw, hb, if_pos rfl, List.length_append]; rfl
      refine nextC.normal ⟨(i + 1, a2), by dsimp only; omega, ?_, by dsimp only; omega, by omega, ext, ?_⟩
      · dsimp only
        rw [e1]; exact envs
      · dsimp only
        have : whereI ((truths N l).take (i + 1)) = whereI ((truths N l).take i) ++ [((i : Nat) : Int)] := by unfold whereI; rw [hw, hb, if_pos rfl, List.map_append]; rfl
        rw [e1, this]
        unfold intsV at hO2 ⊢
        rw [List.map_append]; exact hO2
  · repeat' (first | refine stpS ?_ | (refine stp2 ?_ ?_ <;> intro _) | refine RS.call1 rfl opds (refPlaces_ev _ _ _ _ _ (by omega)) none'W ?_)
    have e : (truths N l).take i = truths N l := List.take_of_length_le (by omega)
    rw [e] at hO ⊢
    exact ⟨a', rfl, ext, hO.mono (by omega)⟩

theorem truths_take (N : Int) (l : List UInt8) (i : Int) : truths (min i (plc N l.length)) l = (truths N l).take i.toNat := by
  unfold truths
  rw [← List.map_take, List.take_range]
  congr 2
  unfold plc; omega
set_option maxHeartbeats 4000000 in
theorem rank_ev (N : Int) (l : List UInt8) (a : Option Addr) (m n : Nat) (h : AH) (i : Int) (S : SlB h n a l) (e : m = l.length) (hm : m ≤ 137438953472) :
    Ev Try.prog none' 31 #[.agg #[.int .i64 N, .slice a m m], .int .i64 i] n h (.int .i64 (wheres ((truths N l).take i.toNat)).length) n h := by
  subst e
  have hp := plc_le N l.length
  refine RF.pure rfl fun n' hn => ?_
  have S := S.ext (Ext.refl n h) hn
  refine RF.of Try.func31 rfl rfl (Nat.le_of_ble_eq_true rfl) ?_; dsimp only [argEnv]
  have hc : ∀ n2 h2, n' ≤ n2 → Ext n' h h2 → Ev Try.prog none' 30 #[.agg #[.int .i64 (min i (plc N l.length)), .slice a l.length l.length]] n2 h2 (.int .i64 (wheres ((truths N l).take i.toNat)).length) n2 h2 := fun n2 h2 h3 h4 => by
    have := count_ev (min i (plc N l.length)) l a l.length n2 h2 (S.ext h4 h3) rfl hm
    rwa [truths_take, onesB_pack] at this
  repeat' (first | refine stp ?_ | (refine stp2 ?_ ?_ <;> intro _) | refine RS.call1 rfl opds (places_ev _ _ _ _ _ (by omega)) none'W ?_ | refine RS.call1 rfl opds (hc _ _ (by omega) ext) none'W ?_ | refine RD.call1 _ rfl opds (places_ev _ _ _ _ _ (by omega)) (Nat.le_refl _) cfc (fun _ => ?_) | refine RD.call1 _ rfl opds (hc _ _ (by omega) ext) (Nat.le_refl _) cfc (fun _ => ?_))
  rfl
set_option maxHeartbeats 4000000 in
theorem refRank_ev (N : Int) (l : List UInt8) (a : Option Addr) (m n : Nat) (h : AH) (i : Int) (S : SlB h n a l) (e : m = l.length) (hm : m ≤ 137438953472) :
    Ev Try.prog none' 32 #[.agg #[.int .i64 N, .slice a m m], .int .i64 i] n h (.int .i64 (wheres ((truths N l).take i.toNat)).length) n h := by
  subst e
  have hp := plc_le N l.length
  have htl := truths_length N l
  have hwl := wheres_le (truths N l)
  refine RF.pure rfl fun n' hn => ?_
  have S := S.ext (Ext.refl n h) hn
  refine RF.of Try.func32 rfl rfl (Nat.le_of_ble_eq_true rfl) ?_; dsimp only [argEnv]
  repeat' (first | refine stpS ?_ | (refine stp2 ?_ ?_ <;> intro _))
  refine RS.call rfl opds (refWhere_rf N l a l.length _ _ (S.ext ext (by omega)) rfl hm) none'W ?_
  rintro r n1 h1 hle ⟨a1, rfl, hE1, hO1⟩
  have hS : SlN h1 n1 a1 .i64 (whereI (truths N l)) := by
    have := hO1; rw [← whereI_length] at this; exact this.sln
  repeat' (first | refine stpS ?_ | (refine stp2 ?_ ?_ <;> intro _))
  refine RC.loop ?_
  refine RL.inv (α := Nat) (fun k => [(7, .int .i64 (k : Nat)), (6, .slice a1 (wheres (truths N l)).length (wheres (truths N l)).length), (5, .int .i64 (((wheres (truths N l)).take k).filter fun (w : Nat) => decide ((w : Int) < i)).length), (1, .int .i64 i)])
    (fun k n2 h2 => k ≤ (wheres (truths N l)).length ∧ n1 ≤ n2 ∧ Ext n1 h1 h2) (fun k => (wheres (truths N l)).length - k) 0 envs ⟨by omega, by omega, Ext.refl _ _⟩ ?_
  rintro k n2 h2 ⟨hk, hn2, hE2⟩
  by_cases hlt : k < (wheres (truths N l)).length
  · have hS2 := hS.ext hE2 hn2
    rw [whereI_length] at hS2
    have ht : (wheres (truths N l)).take (k + 1) = (wheres (truths N l)).take k ++ [(wheres (truths N l)).getD k 0] := by
      rw [List.take_succ_eq_append_getElem hlt]; simp [List.getD, hlt]
    have hfl := List.length_filter_le (fun (w : Nat) => decide ((w : Int) < i)) ((wheres (truths N l)).take k)
    rw [List.length_take] at hfl
    have hgd := whereI_getD (truths N l) k
    have hcl : h2.cell (sb a1) (so a1 + k) = .int .i64 ((wheres (truths N l)).getD k 0 : Nat) := by rw [← hgd]; exact hS2.cell k (by omega)
    repeat' (first | refine stpS ?_ | (refine stp2 ?_ ?_ <;> intro _))
    · rename_i hc
      refine nextC.normal ⟨k + 1, by omega, ?_, by omega, by omega, ext⟩
      rw [ht, List.filter_append, List.length_append]
      have : decide ((((wheres (truths N l)).getD k 0 : Nat) : Int) < i) = true := by simpa using hc
      simp only [List.filter_cons, this, if_true, List.filter_nil, List.length_singleton, Int.natCast_add]
      exact envs
    · rename_i hc
      refine nextC.normal ⟨k + 1, by omega, ?_, by omega, by omega, ext⟩
      rw [ht, List.filter_append, List.length_append]
      have : decide ((((wheres (truths N l)).getD k 0 : Nat) : Int) < i) = false := by simpa using hc
      simp only [List.filter_cons, this, Bool.false_eq_true, if_false, List.filter_nil, List.length_nil, Nat.add_zero]
      exact envs
  · repeat' (first | refine stpS ?_ | (refine stp2 ?_ ?_ <;> intro _))
    rw [List.take_of_length_le (by omega), wheres_take]
    congr 3
    apply List.filter_congr
    intro w _
    congr 1
    exact propext (by omega)
end Go.Proofs.Ytnaklmjndiodfaa
