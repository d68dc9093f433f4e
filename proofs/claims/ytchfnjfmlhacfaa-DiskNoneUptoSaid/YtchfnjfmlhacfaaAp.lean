/- append to a row of one's own in a region that draws its order. -/
import Derived.Test.YtchfnjfmlhacfaaA
namespace Go.Proofs.Ytchfnjfmlhacfaa
open Go.Abs

variable {P : Program} {T : Nat → Prop} {ops : Array Oper} {os : List Oper} {env : Env} {n : Nat} {h : AH} {Q : Env → Nat → AH → Prop} {ty : TypeId} {pos : String} {after : Array Edge} {gd : Option (Nat × Bool)}
theorem RD.appendT {q : Tmp} {t t2 e : TypeId} {d d2 : TypeDesc} {z by_ : Nat} {zv : Value} {x y : Operand} {a : Option Addr} {n0 m k : Nat} {v : Value} {xs cs : List Value} {ps : List Ft} [hu : Uc P t (.slice e)] [hz : Tc P e d z by_ zv] [hu2 : Uc P t2 d2] (nb : Nat)
    (hw : wants ops ⟨some q, .call { callee := .builtin .append, args := #[x, y], argTypes := #[t, t2] }, ty, pos, after, gd⟩ env = some true) (hx : Opd env x (.slice a m m)) (hy : Opd env y v) (hO : OwnSl h n0 nb a z m cs) (hs : Src (h.below nb) z v k xs) (hf : full v k)
    (hT : a ≠ none → T (sb a)) (hbig : (m + k) * by_ ≤ 140737488355328) (hnb : nb ≤ n) (hc : CF ops ps.length (· < nb) (inA a) ps.length ps)
    (K : ∀ a' n1 h1, n ≤ n1 → OwnSl h1 n0 n1 a' z (m + k) (cs ++ xs) → ExtX n a h h1 → (a' = a ∨ n ≤ sb a') → RD P T ops (⟨(· < nb), inA a, n, n1⟩ :: ps) os ((q, .slice a' (m + k) (m + k)) :: env) n1 h1 Q)
    (c1 : Nat.beq z 0 = false := by rfl) (c2 : zv.cells.size = z := by rfl) (c3 : Nat.beq by_ 0 = false := by rfl) (c4 : notIntD d2 = true := by rfl) :
    RD P T ops ps (⟨some q, .call { callee := .builtin .append, args := #[x, y], argTypes := #[t, t2] }, ty, pos, after, gd⟩ :: os) env n h Q := by
  have hz0 : z ≠ 0 := fun h => by subst h; simp at c1
  have hb0 : by_ ≠ 0 := fun h => by subst h; simp at c3
  have he : EL P t t2 z by_ := ⟨e, d, zv, d2, hu.out, hz.out, hz0, c2, hb0, hu2.out, c4⟩
  have hlx := hs.length
  have hkx := hs.known
  have hle0 := hO.le
  have happ : ∀ (l m : List Value), known l = true → known m = true → known (l ++ m) = true := by
    intro l m hl hm
    induction l with
    | nil => exact hm
    | cons v l ih => cases v <;> simp_all [known]
  by_cases hk0 : k = 0
  · subst hk0
    have : xs = [] := List.eq_nil_of_length_eq_zero (by simpa using hlx)
    subst this
    refine RD.op (· < nb) (inA a) hw (o_append0 he hx hy hs hf) (AH.below_le _ _) (fun _ hx => AH.below_looks hx) (fun _ hb => Nat.lt_of_lt_of_le hb hnb) (fun b hb => (Dl.touches_nil hb).elim) hc (h1 := h) (by rw [AH.app_nil]; exact .refl _) ?_
    exact K a n h (Nat.le_refl _) (by simpa using hO.ext (Ext.refl _ _) hnb) (fun _ _ _ => ⟨rfl, fun _ => rfl⟩) (.inl rfl)
  · rcases hO.or with ⟨k1, k2⟩ | ⟨k1, k2, k3, k4, k5⟩
    · subst k1; subst k2
      have : cs = [] := List.eq_nil_of_length_eq_zero (by have := hO.len; omega)
      subst this
      simp only [Nat.zero_add, List.nil_append] at K hbig
      refine RD.op (· < nb) (inA none) hw (o_appendNil he hx hy hs hf hk0 hbig) (AH.below_le _ _) (fun _ hx => AH.below_looks hx) (fun _ hb => Nat.lt_of_lt_of_le hb hnb) (fun b hb => ?_) hc (.refl _) (K _ _ _ (Nat.le_succ _) ?_ ?_ (.inr (Nat.le_refl _)))
      · rcases hb with h1 | ⟨i, h1⟩ <;> (simp only [Dl.new] at h1; split at h1) <;> first | omega | exact absurd rfl h1
      · rw [hlx]; exact .new (by omega) hlx hkx
      · exact fun x hx _ => ⟨by simp [AH.app, Dl.new, show x ≠ n by omega], fun i => by simp [AH.app, Dl.new, show x ≠ n by omega]⟩
    · have hx' := hx
      rw [k1] at hx'
      have k4' : (h.below nb).info (sb a) = some ⟨m * z, 0, true, z⟩ := i_below k3 k4
      have k5' : rd (h.below nb) (sb a) 0 (m * z) = cs := r_below k3 k5
      refine RD.op (· < nb) (inA a) hw (o_append false he hx' hy hs hf k4' k5' hO.kn (.inl (hT (by rw [k1]; simp))) (by omega) hk0 hbig) (AH.below_le _ _) (fun _ hx => AH.below_looks hx) (fun _ hb => Nat.lt_of_lt_of_le hb hnb) (fun b hb => ?_) hc (.refl _) (K _ _ _ (Nat.le_succ _) ?_ ?_ (.inr (Nat.le_refl _)))
      · by_cases e1 : b = sb a
        · exact .inl ⟨by rw [k1]; simp, e1⟩
        · by_cases e2 : b = n
          · exact .inr (by omega)
          · exfalso
            rcases hb with h1 | ⟨i, h1⟩
            · simp [Dl.takeover, e1, e2] at h1
            · simp [Dl.takeover, e1, e2] at h1
      · have hl2 : (cs ++ xs).length = (m + k) * z := by rw [List.length_append, hO.len, hlx, Nat.add_mul]
        refine ⟨by omega, hl2, happ _ _ hO.kn hkx, .inr ⟨rfl, by show n0 ≤ n; omega, by show n < n + 1; omega, ?_, ?_⟩⟩
        · have := i_take (h := h) (b := sb a) (n := n) (sz := m * z) (lk := 0) (ez := z) (keep := false) (cs := cs ++ xs)
          rw [hl2] at this; exact this
        · exact r_take hl2.symm
      · intro x hx hne
        have hne' : x ≠ sb a := by
          rcases hne with h | h
          · rw [h] at k1; cases k1
          · exact h
        exact ⟨by simp [AH.app, Dl.takeover, show x ≠ n by omega, hne'], fun i => by simp [AH.app, Dl.takeover, show x ≠ n by omega, hne']⟩
end Go.Proofs.Ytchfnjfmlhacfaa
