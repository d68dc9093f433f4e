/- Contracts of codec: the forms of a row of ints. -/
import Derived.Test.YtflhhipemmlgpaaDoorG
set_option linter.unusedSimpArgs false
set_option linter.unusedVariables false
namespace Go.Proofs.YtflhhipemmlgpaaDoor
open Go.Abs

set_option maxHeartbeats 4000000 in
theorem equal_ev (t u : List UInt8) (a b : Option Addr) (m k n : Nat) (h : AH) (S : SlB h n a t) (S2 : SlB h n b u) (e : m = t.length) (e2 : k = u.length) :
    Ev Tryd.prog none' 15 #[.slice a m m, .slice b k k] n h (.bool (decide (t = u))) n h := by
  subst e; subst e2
  refine RF.pure rfl fun n' hn => ?_
  have S := S.ext (Ext.refl n h) hn
  have S2 := S2.ext (Ext.refl n h) hn
  refine RF.of Tryd.func15 rfl rfl (Nat.le_of_ble_eq_true rfl) ?_; dsimp only [argEnv]
  have hba : ∀ x y : List UInt8, ((⟨x.toArray⟩ : ByteArray) = ⟨y.toArray⟩) ↔ x = y := by
    intro x y; constructor
    · intro q; injection q with q; simpa using congrArg Array.toList q
    · intro q; rw [q]
  repeat' (first | refine stpS ?_ | (refine stp2 ?_ ?_ <;> intro _))
  · rename_i q
    have := (hba _ _).1 q
    simp [this]
  · rename_i q
    have : ¬ t = u := fun h => q ((hba _ _).2 h)
    simp [this]
def forms (l : List Int) : List UInt8 := l.flatMap form
/-- An int that 64 bits hold. -/
def In64 (l : List Int) : Prop := ∀ v, v ∈ l → -9223372036854775808 ≤ v ∧ v < 9223372036854775808
theorem In64.at_ {l : List Int} (k : In64 l) (i : Nat) (hi : i < l.length) : -9223372036854775808 ≤ l.getD i 0 ∧ l.getD i 0 < 9223372036854775808 := by
  rw [List.getD_eq_getElem?_getD, List.getElem?_eq_getElem hi]
  exact k _ (List.getElem_mem hi)
theorem forms_le {l : List Int} (k : In64 l) : (forms l).length ≤ 9 * l.length := by
  induction l with
  | nil => simp [forms]
  | cons v l ih =>
    have h1 := ih fun w hw => k w (List.mem_cons_of_mem _ hw)
    have h2 := form_le v (k v (.head _)).1 (k v (.head _)).2
    simp only [forms, List.flatMap_cons, List.length_append, List.length_cons] at h1 ⊢
    omega
theorem forms_take_le {l : List Int} (k : In64 l) (i : Nat) : (forms (l.take i)).length ≤ 9 * l.length := by
  have := forms_le (l := l.take i) fun v hv => k v (List.mem_of_mem_take hv)
  rw [List.length_take] at this
  omega
theorem forms_succ (l : List Int) (i : Nat) (hi : i < l.length) : forms (l.take (i + 1)) = forms (l.take i) ++ form (l.getD i 0) := by
  unfold forms
  rw [List.take_succ_eq_append_getElem hi, List.flatMap_append]
  simp [List.getD, hi]
def Row (l : List UInt8) (n : Nat) (h : AH) (r : Value) (n' : Nat) (h' : AH) : Prop :=
  ∃ a', r = .slice a' l.length l.length ∧ Ext n h h' ∧ OwnSl h' n n' a' 1 l.length (bytesV l)
set_option maxHeartbeats 4000000 in
theorem row_rf (l : List Int) (a : Option Addr) (m n : Nat) (h : AH) (S : SlN h n a .i64 l) (hk : In64 l) (e : m = l.length) (hm : m ≤ 1048576) :
    RF Tryd.prog none' 16 #[.slice a m m] n h (Row (forms l) n h) := by
  subst e
  refine RF.of Tryd.func16 rfl rfl (Nat.le_of_ble_eq_true rfl) ?_; dsimp only [argEnv]
  repeat' (first | refine stpS ?_ | (refine stp2 ?_ ?_ <;> intro _))
  refine RC.loop ?_
  refine RL.inv (α := Nat × Option Addr) (fun s => [(8, .int .i64 (s.1 : Nat)), (7, .int .i64 (l.length : Nat)), (6, .slice a l.length l.length), (3, .slice s.2 (forms (l.take s.1)).length (forms (l.take s.1)).length)])
    (fun s n1 h1 => s.1 ≤ l.length ∧ n ≤ n1 ∧ Ext n h h1 ∧ OwnSl h1 n n1 s.2 1 (forms (l.take s.1)).length (bytesV (forms (l.take s.1))))
    (fun s => l.length - s.1) (0, none) envs ⟨by omega, by omega, Ext.refl _ _, OwnSl.nil (by omega)⟩ ?_
  rintro ⟨i, a'⟩ n1 h1 ⟨hi, hn, hE, hO⟩
  dsimp only at hi hn hE hO ⊢
  have hS := S.ext hE hn
  have hfl := forms_take_le hk i
  by_cases hlt : i < l.length
  · obtain ⟨v1, v2⟩ := hk.at_ i hlt
    have hsu := forms_succ l i hlt
    repeat' (first | refine stpS ?_ | (refine stp2 ?_ ?_ <;> intro _))
    rw [show (i : Int).toNat = i by omega]
    rw [show intsF .i64 l i = .int .i64 (l.getD i 0) from rfl]
    refine RS.call rfl opds (put_rf (forms (l.take i)) (l.getD i 0) v1 v2 a' _ n n1 h1 hO (by omega)) (fun b hb => .inr (by
      rcases hO.at' with k | k
      · exact absurd k hb.1
      · rw [hb.2]; exact k.1)) ?_
    rintro r n2 h2 hle ⟨a2, rfl, hO2, hX2, hw2⟩
    have hE2 := hX2.ext hO
    rw [← List.length_append, ← hsu] at hO2 ⊢
    repeat' (first | refine stpS ?_ | (refine stp2 ?_ ?_ <;> intro _))
    refine nextC.normal ⟨(i + 1, a2), by dsimp only; omega, envs, by dsimp only; omega, by omega, ext, hO2⟩
  · repeat' (first | refine stpS ?_ | (refine stp2 ?_ ?_ <;> intro _))
    have e : i = l.length := by omega
    subst e
    rw [List.take_of_length_le (by omega)] at hO ⊢
    exact ⟨a', rfl, ext, hO⟩
set_option maxHeartbeats 4000000 in
theorem refRow_rf (l : List Int) (a : Option Addr) (m n : Nat) (h : AH) (S : SlN h n a .i64 l) (hk : In64 l) (e : m = l.length) (hm : m ≤ 1048576) :
    RF Tryd.prog none' 17 #[.slice a m m] n h (Row (forms l) n h) := by
  subst e
  refine RF.of Tryd.func17 rfl rfl (Nat.le_of_ble_eq_true rfl) ?_; dsimp only [argEnv]
  repeat' (first | refine stpS ?_ | (refine stp2 ?_ ?_ <;> intro _))
  refine RC.loop ?_
  refine RL.inv (α := Nat × Option Addr) (fun s => [(4, .int .i64 (s.1 : Nat)), (3, .slice s.2 (forms (l.take s.1)).length (forms (l.take s.1)).length), (0, .slice a l.length l.length)])
    (fun s n1 h1 => s.1 ≤ l.length ∧ n ≤ n1 ∧ Ext n h h1 ∧ OwnSl h1 n n1 s.2 1 (forms (l.take s.1)).length (bytesV (forms (l.take s.1))))
    (fun s => l.length - s.1) (0, none) envs ⟨by omega, by omega, Ext.refl _ _, OwnSl.nil (by omega)⟩ ?_
  rintro ⟨i, a'⟩ n1 h1 ⟨hi, hn, hE, hO⟩
  dsimp only at hi hn hE hO ⊢
  have hS := S.ext hE hn
  have hfl := forms_take_le hk i
  by_cases hlt : i < l.length
  · obtain ⟨v1, v2⟩ := hk.at_ i hlt
    have hsu := forms_succ l i hlt
    have hvl := form_le (l.getD i 0) v1 v2
    repeat' (first | refine stpS ?_ | (refine stp2 ?_ ?_ <;> intro _))
    rw [show (i : Int).toNat = i by omega]
    rw [show intsF .i64 l i = .int .i64 (l.getD i 0) from rfl]
    refine RS.call rfl opds (refInt_rf (l.getD i 0) v1 v2 n1 h1) none'W ?_
    rintro r n2 h2 hle ⟨a2, rfl, hE2, hO2⟩
    refine RS.append rfl opd opd (hO.ext hE2 hle) hO2.src full_slice (fun b hb => Or.inr (by omega)) (by omega) ?_
    intro a3 n3 h3 hle3 hO3 hX3 hnew3
    have hE3 := hX3.ext (hO.ext hE2 hle)
    rw [← bytesV_app, ← List.length_append, ← hsu] at hO3
    rw [← List.length_append, ← hsu]
    repeat' (first | refine stpS ?_ | (refine stp2 ?_ ?_ <;> intro _))
    refine nextC.normal ⟨(i + 1, a3), by dsimp only; omega, envs, by dsimp only; omega, by omega, ext, hO3⟩
  · repeat' (first | refine stpS ?_ | (refine stp2 ?_ ?_ <;> intro _))
    have e : i = l.length := by omega
    subst e
    rw [List.take_of_length_le (by omega)] at hO ⊢
    exact ⟨a', rfl, ext, hO⟩
end Go.Proofs.YtflhhipemmlgpaaDoor
