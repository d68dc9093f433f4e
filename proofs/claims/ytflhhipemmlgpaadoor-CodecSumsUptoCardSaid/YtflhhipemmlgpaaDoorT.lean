/- The plain law of zeros that are followed by a one; bytes that are copied into a row of one's own. -/
import Derived.Test.YtflhhipemmlgpaaDoorS
import Derived.Lib.IndexLaws
set_option linter.unusedSimpArgs false
set_option linter.unusedVariables false
namespace Go.Proofs.YtflhhipemmlgpaaDoor
open Go.Abs

theorem esc_app (l m : List UInt8) : esc (l ++ m) = esc l ++ esc m := by simp [esc]
theorem esc_length (l : List UInt8) : (esc l).length = l.length + l.count 0 := by
  induction l with
  | nil => rfl
  | cons c l ih =>
    simp only [esc, List.flatMap_cons, List.length_append, List.length_cons] at ih ⊢
    rw [ih, List.count_cons]
    unfold escB
    by_cases h : c = 0
    · subst h; simp; omega
    · have h2 : ¬ c.toNat = 0 := fun e => h (by simpa using (UInt8.toNat_inj (a := c) (b := 0)).1 e)
      rw [if_neg h2]
      simp [h]; omega
theorem esc_none {l : List UInt8} (h : ∀ k : Nat, l[k]? ≠ some 0) : esc l = l := by
  induction l with
  | nil => rfl
  | cons c l ih =>
    have h0 : ¬ c.toNat = 0 := fun e => h 0 (by simpa using (UInt8.toNat_inj (a := c) (b := 0)).1 e)
    have := ih fun k => by simpa using h (k + 1)
    unfold esc at this ⊢
    rw [List.flatMap_cons, this]
    unfold escB
    rw [if_neg h0]; rfl
theorem index_at {l : List UInt8} {s : Nat} (h : 0 < (l.drop s).count 0) : ∃ k : Nat, Lib.indexByte (l.drop s) 0 = k ∧ s + k + 1 ≤ l.length ∧ (l.drop (s + k + 1)).count 0 + 1 = (l.drop s).count 0 ∧ esc (l.take (s + k + 1)) = esc (l.take s) ++ (l.take (s + k)).drop s ++ [0, 1] := by
  have hge := Lib.indexByte_ge (l.drop s) 0
  have hne : Lib.indexByte (l.drop s) 0 ≠ -1 := fun e => by
    have := Lib.indexByte_none e
    have h2 := List.count_eq_zero.2 (fun hm => by
      obtain ⟨k, hk⟩ := List.getElem?_of_mem hm
      exact this k hk)
    omega
  obtain ⟨k, hk⟩ : ∃ k : Nat, Lib.indexByte (l.drop s) 0 = k := ⟨(Lib.indexByte (l.drop s) 0).toNat, by omega⟩
  obtain ⟨h1, h2⟩ := Lib.indexByte_some hk
  rw [List.getElem?_drop] at h1
  have hlt : s + k < l.length := by
    by_cases q : s + k < l.length
    · exact q
    · rw [List.getElem?_eq_none (by omega)] at h1; cases h1
  have hat : l[s + k] = 0 := by rw [List.getElem?_eq_getElem hlt] at h1; exact Option.some.inj h1
  have hmid : ∀ i : Nat, ((l.take (s + k)).drop s)[i]? ≠ some 0 := fun i => by
    by_cases q : i < k
    · have := h2 i q
      rw [List.getElem?_drop] at this ⊢
      rw [List.getElem?_take, if_pos (by omega)]; exact this
    · rw [List.getElem?_eq_none (by rw [List.length_drop, List.length_take]; omega)]; simp
  have e0 : l.take (s + k) = l.take s ++ (l.take (s + k)).drop s := by
    have := (List.take_append_drop s (l.take (s + k))).symm
    rw [List.take_take, Nat.min_eq_left (by omega)] at this; exact this
  have e1 : l.take (s + k + 1) = l.take s ++ (l.take (s + k)).drop s ++ [0] := by
    rw [List.take_succ_eq_append_getElem hlt, hat, ← e0]
  refine ⟨k, hk, by omega, ?_, ?_⟩
  · have e2 : l.drop s = (l.take (s + k)).drop s ++ 0 :: l.drop (s + k + 1) := by
      have a1 : l.drop s = (l.take (s + k)).drop s ++ l.drop (s + k) := by
        have := List.drop_append (i := s) (l₁ := l.take (s + k)) (l₂ := l.drop (s + k))
        rw [List.take_append_drop, List.length_take, Nat.min_eq_left (by omega), show s - (s + k) = 0 by omega, List.drop_zero] at this
        exact this
      rw [a1, List.drop_eq_getElem_cons hlt, hat]
    have e3 : ((l.take (s + k)).drop s).count 0 = 0 := List.count_eq_zero.2 fun hm => by
      obtain ⟨i, hi⟩ := List.getElem?_of_mem hm
      exact hmid i hi
    rw [e2, List.count_append, e3, List.count_cons]
    simp
  · rw [e1, esc_app, esc_app, esc_none hmid]
    rfl
theorem esc_end {l : List UInt8} {s : Nat} (h : (l.drop s).count 0 = 0) : esc l = esc (l.take s) ++ l.drop s := by
  have := esc_app (l.take s) (l.drop s)
  rw [List.take_append_drop] at this
  rw [this, esc_none (l := l.drop s)]
  intro k hk
  exact (List.count_eq_zero.1 h) (List.mem_of_getElem? hk)
theorem splice_room {α : Type} (z : α) (p x : List α) (M : Nat) (h : p.length + x.length ≤ M) : splice (p ++ List.replicate (M - p.length) z) p.length x = (p ++ x) ++ List.replicate (M - (p ++ x).length) z := by
  unfold splice
  have h1 : (p ++ List.replicate (M - p.length) z).take p.length = p := by simp
  have h2 : (p ++ List.replicate (M - p.length) z).drop (p.length + x.length) = List.replicate (M - (p ++ x).length) z := by
    rw [List.drop_append, List.drop_eq_nil_of_le (by omega), List.nil_append, List.drop_replicate, List.length_append]
    congr 1; omega
  rw [h1, h2]
section
variable {P : Program} {T : Nat → Prop} {ops : Array Oper} {os : List Oper} {env : Env} {n : Nat} {h : AH} {dst : Option Tmp} {ty : TypeId} {pos : String} {after : Array Edge} {gd : Option (Nat × Bool)} {Q : Env → Nat → AH → Prop} {ps : List Ft}
theorem RS.gen (F : AH → Prop) (hF : F h) (k : ∀ h, F h → RS P T ops os env n h Q) : RS P T ops os env n h Q := k h hF
theorem RD.gen (F : AH → Prop) (hF : F h) (k : ∀ h, F h → RD P T ops ps os env n h Q) : RD P T ops ps os env n h Q := k h hF
/-- copy of bytes to a row of one's own that is there, from its i-th place on. -/
theorem RS.copyO {q : Tmp} {t t2 e : TypeId} {d : TypeDesc} {by_ : Nat} {zv : Value} {x y : Operand} {a c : Option Addr} {n0 m i k : Nat} {l s : List UInt8} [hu : Uc P t (.slice e)] [hz : Tc P e d 1 by_ zv]
    (hw : wants ops ⟨some q, .call { callee := .builtin .copy, args := #[x, y], argTypes := #[t, t2] }, ty, pos, after, gd⟩ env = some true) (hx : Opd env x (.slice (sub a i) k k)) (hy : Opd env y (.slice c s.length s.length)) (hO : OwnSl h n0 n a 1 m (bytesV l)) (S : SlB h n c s)
    (hik : i + k = m) (ha : a ≠ none) (hsk : s.length ≤ k) (hT : T (sb a) ∨ n ≤ sb a)
    (K : OwnSl (h.app (.sets (sb a) (so a + i) (bytesV s))) n0 n a 1 m (bytesV (Abs.splice l i s)) → RS P T ops os ((q, .int .i64 s.length) :: env) n (h.app (.sets (sb a) (so a + i) (bytesV s))) Q) :
    RS P T ops (⟨some q, .call { callee := .builtin .copy, args := #[x, y], argTypes := #[t, t2] }, ty, pos, after, gd⟩ :: os) env n h Q := by
  have hO' := hO
  rcases hO.or with ⟨k1, k2⟩ | ⟨k1, k2, k3, k4, k5⟩
  · exact absurd k1 ha
  have hso : so a = 0 := by rw [k1]; rfl
  have hx' : ev env x = .slice (some ⟨sb a, so a + i, none⟩) k k := by rw [hx.ev, k1]; rfl
  have hop := op_copy (P := P) (T := T) (n := n) (g := h) (env := env) (dst := some q) (ty := ty) (pos := pos) (after := after) (gd := gd) (t := t) (t2 := t2) (z := 1) (k := s.length) (kk := s.length) (m := k) (v := .slice c s.length s.length) hu.out hz.out (by decide) hx' hy.ev
    S.src (full_slice) (fun c w h => lenOf_slice h) (by omega) (mm := ⟨m * 1, 0, true, 1⟩) k4 (Nat.zero_le _) (by rw [hso]; simp only [Nat.mul_one]; omega) hT k3
  exact RS.mem hw rfl hop (K (hO'.spliceB (by omega)))
theorem RD.copyO {q : Tmp} {t t2 e : TypeId} {d : TypeDesc} {by_ : Nat} {zv : Value} {x y : Operand} {a c : Option Addr} {n0 m i k nb : Nat} {l s : List UInt8} [hu : Uc P t (.slice e)] [hz : Tc P e d 1 by_ zv]
    (hw : wants ops ⟨some q, .call { callee := .builtin .copy, args := #[x, y], argTypes := #[t, t2] }, ty, pos, after, gd⟩ env = some true) (hx : Opd env x (.slice (sub a i) k k)) (hy : Opd env y (.slice c s.length s.length)) (hO : OwnSl h n0 nb a 1 m (bytesV l)) (S : SlB h nb c s)
    (hik : i + k = m) (ha : a ≠ none) (hsk : s.length ≤ k) (hT : T (sb a) ∨ n ≤ sb a) (hnb : nb ≤ n) (hc : CF ops ps.length (· < nb) (· = sb a) ps.length ps)
    (K : OwnSl (h.app (.sets (sb a) (so a + i) (bytesV s))) n0 nb a 1 m (bytesV (Abs.splice l i s)) → RD P T ops (⟨(· < nb), (· = sb a), n, n⟩ :: ps) os ((q, .int .i64 s.length) :: env) n (h.app (.sets (sb a) (so a + i) (bytesV s))) Q) :
    RD P T ops ps (⟨some q, .call { callee := .builtin .copy, args := #[x, y], argTypes := #[t, t2] }, ty, pos, after, gd⟩ :: os) env n h Q := by
  have hO' := hO
  rcases hO.or with ⟨k1, k2⟩ | ⟨k1, k2, k3, k4, k5⟩
  · exact absurd k1 ha
  have hso : so a = 0 := by rw [k1]; rfl
  have hx' : ev env x = .slice (some ⟨sb a, so a + i, none⟩) k k := by rw [hx.ev, k1]; rfl
  have S' : SlB (h.below nb) nb c s := S.ext (AH.below_ext h nb) (Nat.le_refl _)
  have hop := op_copy (P := P) (T := T) (n := n) (g := h.below nb) (env := env) (dst := some q) (ty := ty) (pos := pos) (after := after) (gd := gd) (t := t) (t2 := t2) (z := 1) (k := s.length) (kk := s.length) (m := k) (v := .slice c s.length s.length) hu.out hz.out (by decide) hx' hy.ev
    S'.src (full_slice) (fun c w h => lenOf_slice h) (by omega) (mm := ⟨m * 1, 0, true, 1⟩) (i_below k3 k4) (Nat.zero_le _) (by rw [hso]; simp only [Nat.mul_one]; omega) hT (by omega)
  refine RD.op (· < nb) (· = sb a) hw hop (AH.below_le _ _) (fun _ hx => AH.below_looks hx) (fun _ e => Nat.lt_of_lt_of_le e hnb) (fun b hb => .inl (sets_touches hb)) hc (.refl _) (K ?_)
  exact hO'.spliceB (by omega)
end
end Go.Proofs.YtflhhipemmlgpaaDoor
