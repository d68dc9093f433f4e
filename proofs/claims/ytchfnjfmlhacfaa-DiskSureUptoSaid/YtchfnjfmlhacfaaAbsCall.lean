/- Functions over the abstract heap, and calls of them. -/
import Derived.Test.YtchfnjfmlhacfaaAbsExec
namespace Go.Abs
open Go.RowKit

structure RelAll (ρ : Ren) (xs ys : Array Value) : Prop where
  size : xs.size = ys.size
  at_ : ∀ i, VRel ρ (xs.getD i (.tuple #[])) (ys.getD i (.tuple #[]))

theorem RelAll.mono {ρ ρ' : Ren} (hl : ρ.le ρ') {xs ys : Array Value} (h : RelAll ρ xs ys) : RelAll ρ' xs ys := ⟨h.size, fun i => (h.at_ i).mono hl⟩

theorem RelAll.append {ρ : Ren} {xs ys zs ws : Array Value} (h : RelAll ρ xs ys) (k : RelAll ρ zs ws) : RelAll ρ (xs ++ zs) (ys ++ ws) := by
  refine ⟨by simp [h.size, k.size], fun i => ?_⟩
  have h1 := h.at_ i
  have k1 := k.at_ (i - xs.size)
  have hs := h.size
  simp only [Array.getD_eq_getD_getElem?, Array.getElem?_append] at *
  by_cases hi : i < xs.size
  · rw [if_pos hi, if_pos (by omega)]; exact h1
  · rw [if_neg hi, if_neg (by omega), ← hs]; exact k1

theorem RelAll.map {ρ : Ren} {xs : Array Operand} {env : Env} {a : Act} (h : ∀ x, x ∈ xs → VRel ρ (ev env x) (a.eval x)) : RelAll ρ (xs.map (ev env)) (xs.map a.eval) := by
  refine ⟨by simp, fun i => ?_⟩
  by_cases hi : i < xs.size
  · simp [Array.getD, hi]; exact h _ (by simp)
  · simp [Array.getD, hi]; exact .unk _

/-- It has a body, and is none of the run-time's. -/
def Callable (P : Program) (f : FuncId) : Prop := ∃ fn, P.funcs[f]? = some fn ∧ fn.body.isSome = true ∧ (fn.name == "runtime.NumGoroutine") = false

/-- The function f, called with args in the state (n, h), returns r and leaves (n', h'); of what was there it turns W alone. -/
def Ev (P : Program) (W : Nat → Prop) (f : FuncId) (args : Array Value) (n : Nat) (h : AH) (r : Value) (n' : Nat) (h' : AH) : Prop :=
  Callable P f ∧ ∃ d : Dl, h'.le (h.app d) ∧ n ≤ n' ∧ Within W n n' d ∧
    ∀ (w0 : Base) (ρ : Ren) (w : World) (H : AH) (cargs : Array Value), h.le H → Fresh n n' ρ → Sim w0 ρ H w → RelAll ρ args cargs →
      CallsIn (FW none) 0 P f cargs w fun e w' => ∃ ρ' c, e = .returned c ∧ Grow n n' ρ ρ' ∧ VRel ρ' r c ∧ Sim w0 ρ' (H.app d) w'

/-- The frame's environment at the start. -/
def argEnv : Nat → List Value → Env
  | _, [] => []
  | i, v :: r => (i, v) :: argEnv (i + 1) r
theorem argEnv_get : ∀ (l : List Value) (i t : Nat), (argEnv i l).get t = if i ≤ t then l.getD (t - i) (.tuple #[]) else .tuple #[]
  | [], i, t => by simp [argEnv, Env.get]
  | v :: r, i, t => by
    simp only [argEnv, Env.get]
    by_cases e : i = t
    · subst e; simp
    · rw [if_neg (by simpa using e), argEnv_get r (i + 1) t]
      by_cases h : i ≤ t
      · rw [if_pos h, if_pos (by omega), show t - i = (t - (i + 1)) + 1 by omega]; simp
      · rw [if_neg h, if_neg (by omega)]

theorem EnvRel.start {ρ : Ren} {args cargs : Array Value} {N : Nat} (h : RelAll ρ args cargs) (hN : args.size ≤ N) :
    EnvRel ρ N (argEnv 0 args.toList) (cargs ++ Array.replicate (N - cargs.size) undef) := by
  refine ⟨by simp; have := h.size; omega, fun t => ?_⟩
  rw [argEnv_get]
  simp only [Nat.zero_le, if_true, Nat.sub_zero]
  by_cases ht : t < args.size
  · have h1 := h.at_ t
    have h2 : t < cargs.size := by rw [← h.size]; exact ht
    simp only [Array.getD_eq_getD_getElem?, Array.getElem?_append, if_pos h2] at *
    simpa [List.getD] using h1
  · have : args.toList.getD t (.tuple #[]) = .tuple #[] := by
      rw [List.getD, List.getElem?_eq_none (by simpa using Nat.le_of_not_lt ht)]; rfl
    rw [this]; exact .unk _

/-- A row of cells, read. -/
def rd (h : AH) (b o : Nat) : Nat → List Value
  | 0 => []
  | k + 1 => h.cell b o :: rd h b (o + 1) k

theorem rd_length (h : AH) (b : Nat) : ∀ (k o : Nat), (rd h b o k).length = k
  | 0, _ => rfl
  | k + 1, o => by simp [rd, rd_length h b k]
theorem rd_getD (h : AH) (b : Nat) : ∀ (k o i : Nat), i < k → (rd h b o k).getD i (.tuple #[]) = h.cell b (o + i)
  | 0, _, _, hi => by omega
  | k + 1, o, 0, _ => by simp [rd]
  | k + 1, o, i + 1, hi => by
    have := rd_getD h b k (o + 1) i (by omega)
    simp only [rd, List.getD_cons_succ, this]; congr 1; omega

theorem addr_add (b o n : Nat) : (⟨b, o, none⟩ : Addr).add n = ⟨b, o + n, none⟩ := by unfold Addr.add; split <;> simp_all

/-- All of a row of cells is known. -/
def known : List Value → Bool
  | [] => true
  | .tuple _ :: _ => false
  | .agg _ :: _ => false
  | .chan _ :: _ => false
  | _ :: r => known r
theorem known_at : ∀ (l : List Value), known l = true → ∀ i, i < l.length → l.getD i (.tuple #[]) ≠ .tuple #[] ∧ (l.getD i (.tuple #[])).oneCell' = true ∧ l.getD i (.tuple #[]) ≠ skipV
  | [], _, i, hi => by simp at hi
  | v :: r, h, 0, _ => by cases v <;> simp_all [known, Value.oneCell']
  | v :: r, h, i + 1, hi => by
    have : known r = true := by cases v <;> simp_all [known]
    simpa using known_at r this i (by simpa using hi)

theorem VRel.oneCell {ρ : Ren} {a c : Value} (h : VRel ρ a c) (ha : a.oneCell' = true ∧ a ≠ skipV) : c.oneCell' = true := by
  cases h <;> simp_all [Value.oneCell', skipV]

/-- Cells that are known read, in the world, as a row that is related. -/
theorem Sim.rd {P : Program} {w0 : Base} {w : World} {ρ : Ren} {h H : AH} (s : Sim w0 ρ H w) (hl : h.le H) {b o k : Nat} {L : Loc} (hL : ρ b = some L) (hk : known (rd h b o k) = true) :
    ∃ cs : List Value, cs.length = k ∧ (∀ i, i < k → w.cell? ⟨L.blk, L.off + o + i, none⟩ = some (cs.getD i (.tuple #[])) ∧ VRel ρ ((rd h b o k).getD i (.tuple #[])) (cs.getD i (.tuple #[]))) ∧
      (loadCells ⟨L.blk, L.off + o, none⟩ k).run P w = .ok cs.toArray w := by
  have key : ∀ i, i < k → ∃ v, w.cell? ⟨L.blk, L.off + o + i, none⟩ = some v ∧ VRel ρ ((Abs.rd h b o k).getD i (.tuple #[])) v := by
    intro i hi
    have h1 := known_at _ hk i (by rw [rd_length]; exact hi)
    rw [rd_getD h b k o i hi] at h1 ⊢
    have h2 : H.cell b (o + i) = h.cell b (o + i) := (hl.cell b (o + i)).resolve_left h1.1
    obtain ⟨L', v, k1, k2, k3⟩ := s.cell b (o + i) (by rw [h2]; exact h1.1)
    rw [hL] at k1; cases k1
    rw [h2] at k3
    exact ⟨v, by rw [Nat.add_assoc]; exact k2, k3⟩
  let f : Nat → Value := fun i => if hi : i < k then (key i hi).choose else undef
  have hf : ∀ i (hi : i < k), w.cell? ⟨L.blk, L.off + o + i, none⟩ = some (f i) ∧ VRel ρ ((Abs.rd h b o k).getD i (.tuple #[])) (f i) := by
    intro i hi
    simp only [f, hi, dite_true]
    exact (key i hi).choose_spec
  have hg : ∀ i, i < k → ((List.range k).map f).getD i (.tuple #[]) = f i := by
    intro i hi; simp [List.getD, hi]
  refine ⟨(List.range k).map f, by simp, fun i hi => ?_, ?_⟩
  · rw [hg i hi]; exact hf i hi
  · exact run_loadCells w _ k f fun j hj => by rw [addr_add]; exact (hf j hj).1

end Go.Abs
