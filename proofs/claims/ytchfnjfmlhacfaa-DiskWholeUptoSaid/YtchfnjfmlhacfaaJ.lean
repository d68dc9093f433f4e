/- Contracts of the disk's methods: what is sure is no longer waiting. -/
import Derived.Test.YtchfnjfmlhacfaaI
namespace Go.Proofs.Ytchfnjfmlhacfaa
open Go.Abs

abbrev PA := Pc × Option Addr
def pcsL : List PA → List Value
  | [] => []
  | x :: r => pcC x.1 x.2 ++ pcsL r
theorem pcC_length (p : Pc) (a : Option Addr) : (pcC p a).length = 2 := rfl
theorem pcsL_length : ∀ L : List PA, (pcsL L).length = L.length * 2
  | [] => rfl
  | x :: r => by rw [pcsL, List.length_append, pcsL_length r, pcC_length, List.length_cons]; omega
theorem pcsL_known : ∀ L : List PA, known (pcsL L) = true
  | [] => rfl
  | x :: r => known_app (pcV_known _ _) (pcsL_known r)
theorem pcsL_zip : ∀ (ps : List Pc) (pa : List (Option Addr)), pcsL (ps.zip pa) = pcsC ps pa
  | [], _ => by simp [pcsL, pcsC]
  | _ :: _, [] => by simp [pcsL, pcsC]
  | p :: ps, a :: pa => by simp [pcsL, pcsC, pcsL_zip ps pa]
theorem pcsL_take : ∀ (L : List PA) (i : Nat), (pcsL L).take (i * 2) = pcsL (L.take i)
  | [], i => by simp [pcsL]
  | x :: r, 0 => by simp [pcsL]
  | x :: r, i + 1 => by
    rw [pcsL, List.take_succ_cons, pcsL, ← pcsL_take r i, show (i + 1) * 2 = (pcC x.1 x.2).length + i * 2 by rw [pcC_length]; omega, List.take_length_add_append]
theorem pcsL_drop : ∀ (L : List PA) (i : Nat), (pcsL L).drop (i * 2) = pcsL (L.drop i)
  | [], i => by simp [pcsL]
  | x :: r, 0 => by simp [pcsL]
  | x :: r, i + 1 => by
    rw [pcsL, List.drop_succ_cons, ← pcsL_drop r i, show (i + 1) * 2 = (pcC x.1 x.2).length + i * 2 by rw [pcC_length]; omega, List.drop_length_add_append]
theorem pcsL_app : ∀ (L M : List PA), pcsL (L ++ M) = pcsL L ++ pcsL M
  | [], M => rfl
  | x :: r, M => by rw [List.cons_append, pcsL, pcsL, pcsL_app r M, List.append_assoc]
theorem pcsL_set (L : List PA) (i : Nat) (x : PA) (h : i < L.length) : pcsL (L.set i x) = splice (pcsL L) (i * 2) (pcC x.1 x.2) := by
  rw [List.set_eq_take_append_cons_drop, if_pos h, pcsL_app, pcsL, splice, pcsL_take, pcC_length, show i * 2 + 2 = (i + 1) * 2 by omega, pcsL_drop, List.append_assoc]
theorem pcsL_at (L : List PA) (i : Nat) (x : PA) (h : L[i]? = some x) : (pcsL L).getD (i * 2) (.tuple #[]) = .int .i64 (x.1.file : Nat) ∧ (pcsL L).getD (i * 2 + 1) (.tuple #[]) = pcV x.1 x.2 := by
  obtain ⟨hi, hx⟩ := List.getElem?_eq_some_iff.1 h
  have e : L = L.take i ++ x :: L.drop (i + 1) := by rw [← hx, ← List.drop_eq_getElem_cons hi, List.take_append_drop]
  have hl : (pcsL (L.take i)).length = i * 2 := by rw [pcsL_length, List.length_take]; omega
  rw [e, pcsL_app, pcsL]
  constructor
  · rw [List.getD, List.getElem?_append_right (by omega), hl, Nat.sub_self]; rfl
  · rw [List.getD, List.getElem?_append_right (by omega), hl, show i * 2 + 1 - i * 2 = 1 by omega]; rfl

section
variable {h h1 h2 : AH} {n n1 n2 d : Nat}
set_option maxHeartbeats 4000000 in
theorem cloneW_rf (L : List PA) (a : Option Addr) (n : Nat) (h : AH) (hO : OwnSl h 0 n a 2 L.length (pcsL L)) (hL : L.length ≤ 1099511627776) :
    RF Try.prog none' 37 #[.slice a L.length L.length] n h (fun r n' h' => ∃ a', r = .slice a' L.length L.length ∧ Ext n h h' ∧ OwnSl h' n n' a' 2 L.length (pcsL L)) := by
  refine RF.of Try.func37 rfl rfl (Nat.le_of_ble_eq_true rfl) ?_; dsimp only [argEnv]
  have S := hO.slr
  rcases S.two with ⟨ha, hl⟩ | ⟨b, o, ha⟩
  · have : L = [] := List.eq_nil_of_length_eq_zero hl
    subst this; subst ha
    repeat' (first | refine stpS ?_ | (refine stp2 ?_ ?_ <;> intro _))
    exact ⟨none, rfl, ext, OwnSl.nil (by omega)⟩
  · subst ha
    have hsrc := hO.src
    repeat' (first | refine stpS ?_ | (refine stp2 ?_ ?_ <;> intro _))
    refine RS.append rfl opd opd (OwnSl.new (z := 2) (m := 0) (cs := []) (Nat.le_refl n) rfl rfl) (hO.ext ext (Nat.le_succ n)).src full_slice (fun b hb => Or.inr (by omega)) (by omega) ?_
    intro a' n1 h1 hle hO hX hnew
    have hE := hX.ext (OwnSl.new (z := 2) (m := 0) (cs := []) (Nat.le_refl n) rfl rfl)
    simp only [Nat.zero_add, List.nil_append] at hO ⊢
    repeat' (first | refine stpS ?_ | (refine stp2 ?_ ?_ <;> intro _))
    exact ⟨a', rfl, ext, hO⟩
set_option maxHeartbeats 4000000 in
theorem sync1_rf (x : PA) (f : Nat) (bx n : Nat) (h : AH) (hb : bx < n) (hf : h.cell bx 0 = .int .i64 (f : Nat)) :
    Ev Try.prog none' 38 #[.agg (pcC x.1 x.2).toArray, .pointer (some ⟨bx, 0, none⟩)] n h (.bool (decide (x.1.file = f))) n h := by
  refine RF.pure rfl fun n' hn => ?_
  refine RF.of Try.func38 rfl rfl (Nat.le_of_ble_eq_true rfl) ?_; dsimp only [argEnv]
  obtain ⟨t, w, hv⟩ : ∃ t w, pcV x.1 x.2 = .iface t w := by
    unfold pcV; split
    · exact ⟨_, _, rfl⟩
    · exact ⟨_, _, rfl⟩
  rw [pcC, hv]
  have hb' : bx < n' := by omega
  repeat' (first | refine stpS ?_ | (refine stp2 ?_ ?_ <;> intro _))
  · rename_i q
    have : x.1.file = f := by omega
    simp [this]
  · rename_i q
    have : ¬ x.1.file = f := by omega
    simp [this]
theorem row_at {a : Option Addr} {L : List PA} (hO : OwnSl h 0 n a 2 L.length (pcsL L)) {i : Nat} {x : PA} (hx : L[i]? = some x) : SlA a L.length ∧ sb a < n ∧ h.cell (sb a) (so a + i * 2) = .int .i64 (x.1.file : Nat) ∧ h.cell (sb a) (so a + i * 2 + 1) = pcV x.1 x.2 := by
  have hi := (List.getElem?_eq_some_iff.1 hx).1
  obtain ⟨hso, -, hsn, -, hA, hC⟩ := hO.facts (by omega)
  obtain ⟨g0, g1⟩ := pcsL_at L i x hx
  refine ⟨hA, hsn, (hC (i * 2) (by omega)).trans g0, ?_⟩
  have := hC (i * 2 + 1) (by omega)
  rw [g1] at this
  exact this
set_option maxHeartbeats 4000000 in
theorem index_rf (L : List PA) (a : Option Addr) (f bx n : Nat) (h : AH) (hO : OwnSl h 0 n a 2 L.length (pcsL L)) (hL : L.length ≤ 1099511627776) (hb : bx < n) (hf : h.cell bx 0 = .int .i64 (f : Nat)) :
    RF Try.prog none' 54 #[.slice a L.length L.length, .func (.func 38) #[] #[.pointer (some ⟨bx, 0, none⟩)]] n h (fun r n' h' => Ext n h h' ∧
      ((r = .int .i64 (-1) ∧ ∀ x ∈ L, ¬ x.1.file = f) ∨ ∃ j : Nat, j < L.length ∧ r = .int .i64 (j : Nat) ∧ (∀ x ∈ L.take j, ¬ x.1.file = f) ∧ ∃ x, L[j]? = some x ∧ x.1.file = f)) := by
  refine RF.of Try.func54 rfl rfl (Nat.le_of_ble_eq_true rfl) ?_; dsimp only [argEnv]
  repeat' (first | refine stpS ?_ | (refine stp2 ?_ ?_ <;> intro _))
  refine RC.loop ?_
  refine RL.inv (α := Nat) (fun s => [(8, .int .i64 (s : Nat)), (7, .int .i64 L.length), (1, .func (.func 38) #[] #[.pointer (some ⟨bx, 0, none⟩)]), (0, .slice a L.length L.length)])
    (fun s n1 h1 => s ≤ L.length ∧ n ≤ n1 ∧ Ext n h h1 ∧ ∀ x ∈ L.take s, ¬ x.1.file = f) (fun s => L.length - s) 0 envs ⟨by omega, by omega, Ext.refl _ _, by simp⟩ ?_
  rintro i n1 h1 ⟨hi, hn1, hE, hno⟩
  repeat' (first | refine stpS ?_ | (refine stp2 ?_ ?_ <;> intro _))
  · have hi' : i < L.length := by omega
    obtain ⟨x, hx⟩ : ∃ x, L[i]? = some x := ⟨_, List.getElem?_eq_getElem hi'⟩
    have hO1 := hO.ext hE hn1
    obtain ⟨hA, hsn, hc0, hc1⟩ := row_at hO1 hx
    obtain ⟨t, w, hv⟩ : ∃ t w, pcV x.1 x.2 = .iface t w := by
      unfold pcV; split
      · exact ⟨_, _, rfl⟩
      · exact ⟨_, _, rfl⟩
    have hs := sync1_rf x f bx n1 h1 (by omega) ((hE.cell bx 0 hb).trans hf)
    rw [pcC] at hs
    rw [hv] at hc1 hs
    repeat' (first | refine stpS ?_ | (refine stp2 ?_ ?_ <;> intro _))
    refine RS.callv (caps := [.pointer (some ⟨bx, 0, none⟩)]) rfl opd opds (RF.ev hs (Q := fun r n2 h2 => r = .bool (decide (x.1.file = f)) ∧ n2 = n1 ∧ h2 = h1) ⟨rfl, rfl, rfl⟩) none'W ?_
    rintro r n2 h2 hle ⟨rfl, rfl, rfl⟩
    have htk : L.take (i + 1) = L.take i ++ [x] := by rw [List.take_add_one, hx]; rfl
    by_cases q : x.1.file = f
    · rw [decide_eq_true q]
      repeat' (first | refine stpS ?_ | (refine stp2 ?_ ?_ <;> intro _))
      exact ⟨hE, .inr ⟨i, hi', rfl, hno, x, hx, q⟩⟩
    · rw [decide_eq_false q]
      repeat' (first | refine stpS ?_ | (refine stp2 ?_ ?_ <;> intro _))
      refine nextC.normal ⟨i + 1, by omega, envs, by omega, hn1, hE, fun y hy => ?_⟩
      rw [htk] at hy
      rcases List.mem_append.1 hy with k | k
      · exact hno y k
      · simp at k; subst k; exact q
  · repeat' (first | refine stpS ?_ | (refine stp2 ?_ ?_ <;> intro _))
    rw [List.take_of_length_le (by omega)] at hno
    exact ⟨hE, .inl ⟨rfl, hno⟩⟩
end
end Go.Proofs.Ytchfnjfmlhacfaa
