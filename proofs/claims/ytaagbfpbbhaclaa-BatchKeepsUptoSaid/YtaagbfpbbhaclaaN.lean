/- The plain law of batches: rows kept twice. -/
import Derived.Test.YtaagbfpbbhaclaaM
set_option linter.unusedSimpArgs false
set_option linter.unusedVariables false
namespace Go.Proofs.Ytaagbfpbbhaclaa
open Go.Abs

theorem wheres_cons (b : Bool) (t : List Bool) : Bt.wheres (b :: t) = (if b then [0] else []) ++ (Bt.wheres t).map (· + 1) := by
  have h : ∀ f : Nat → Bool, ((List.range t.length).map Nat.succ).filter f = ((List.range t.length).filter fun i => f (i + 1)).map (· + 1) := by
    intro f
    rw [List.filter_map]; rfl
  unfold Bt.wheres
  rw [List.length_cons, List.range_succ_eq_map, List.filter_cons, h]
  cases b <;> simp
theorem keep_map (l : List Nat) (f : Nat → Bool) : keepP (l.map Int.ofNat) (l.map f) = (l.filter f).map Int.ofNat := by
  unfold keepP
  induction l with
  | nil => rfl
  | cons x l ih =>
    rw [List.map_cons, List.map_cons, wheres_cons, List.map_append, List.map_map, List.filter_cons]
    have e : (fun p => (Int.ofNat x :: l.map Int.ofNat).getD p 0) ∘ (fun x : Nat => x + 1) = fun p => (l.map Int.ofNat).getD p 0 := by funext p; simp
    rw [e, ih]
    cases f x <;> simp
theorem colsOf_row {m : Nat} {rs : List (List Val)} {k : Nat} {r : List Val} (hk : rs[k]? = some r) (hr : r.length = m) : (colsOf m rs).map (fun l => l.getD k dV) = r := by
  unfold colsOf colOf
  rw [List.map_map]
  apply List.ext_getElem?
  intro c
  rw [List.getElem?_map]
  by_cases hc : c < m
  · rw [List.getElem?_range hc]
    simp only [Option.map_some, Function.comp, List.getD, List.getElem?_map, hk]
    simp [show c < r.length by omega]
  · rw [List.getElem?_eq_none (by simp; omega), List.getElem?_eq_none (by omega)]; rfl
theorem rows_pick {ts : List Ty} {rs : List (List Val)} {M : Int} (hl : ∀ r ∈ rs, r.length = ts.length) (l : List Nat) (h : ∀ i ∈ l, i < rs.length) : Bat.rows ⟨ts, M, colsOf ts.length rs, l.map Int.ofNat⟩ = l.map fun i => rs.getD i [] := by
  unfold Bat.rows
  dsimp only
  rw [List.map_map]
  apply List.map_congr_left
  intro i hi
  have hir := h i hi
  have hk : rs[i]? = some rs[i] := List.getElem?_eq_getElem hir
  show (colsOf ts.length rs).map (fun l => l.getD (Int.ofNat i).toNat dV) = _
  rw [show (Int.ofNat i).toNat = i from rfl, colsOf_row hk (hl _ (List.getElem_mem hir))]
  simp [List.getD, hk]
theorem rows_ofB {ts : List Ty} {rs : List (List Val)} (hl : ∀ r ∈ rs, r.length = ts.length) : (ofB ts rs).rows = rs := by
  unfold ofB
  have : selAll rs.length = (List.range rs.length).map Int.ofNat := rfl
  rw [this, rows_pick hl _ (fun i hi => List.mem_range.1 hi)]
  apply List.ext_getElem?
  intro i
  by_cases h : i < rs.length
  · simp [h]
  · simp [h]
theorem selP_of {N : Nat} {l : List Nat} (hp : l.Pairwise (· < ·)) (h : ∀ i ∈ l, i < N) : selP N (l.map Int.ofNat) := by
  intro i k hk
  rw [List.getElem?_map] at hk
  obtain ⟨x, hx, rfl⟩ := Option.map_eq_some_iff.1 hk
  have := h x (List.mem_of_getElem? hx)
  refine ⟨Int.ofNat_lt.2 this, Int.natCast_nonneg _, fun j p hj hp' => ?_⟩
  rw [List.getElem?_map] at hp'
  obtain ⟨y, hy, rfl⟩ := Option.map_eq_some_iff.1 hp'
  obtain ⟨h1, e1⟩ := List.getElem?_eq_some_iff.1 hx
  obtain ⟨h2, e2⟩ := List.getElem?_eq_some_iff.1 hy
  have := List.pairwise_iff_getElem.1 hp j i h2 h1 (by omega)
  rw [e1, e2] at this
  exact Int.ofNat_lt.2 this
theorem ofMay_sub {ts : List Ty} {rs ws : List (List Val)} (h : ofMay ts rs) (hs : ∀ r ∈ ws, r ∈ rs) (hl : ws.length ≤ rs.length) : ofMay ts ws := by
  obtain ⟨h1, b1, b2, b3, b4, b5, b6⟩ := h
  dsimp only [ofB] at b1 b2 b3 b4 b5 b6
  refine ⟨fun r hr => h1 r (hs r hr), b1, by simp [ofB, colsOf], Int.natCast_nonneg _, by show (ws.length : Int) ≤ 2048; omega, fun i t l ht hi => ?_, ?_⟩
  · dsimp only [ofB] at ht hi ⊢
    obtain ⟨c1, c2⟩ : i < ts.length ∧ l = colOf ws i := by
      have hi' := (List.getElem?_eq_some_iff.1 ht).1
      simp only [colsOf, List.getElem?_map, List.getElem?_range hi', Option.map_some, Option.some.injEq] at hi
      exact ⟨hi', hi.symm⟩
    have hc : (colsOf ts.length rs)[i]? = some (colOf rs i) := by simp [colsOf, List.getElem?_range c1]
    obtain ⟨-, d1, d2⟩ := b5 i t _ ht hc
    subst c2
    refine ⟨by simp [colOf], d1, fun v hv => ?_⟩
    simp only [colOf, List.mem_map] at hv
    obtain ⟨r, hr, rfl⟩ := hv
    exact d2 _ (List.mem_map.2 ⟨r, hs r hr, rfl⟩)
  · exact selP_of List.pairwise_lt_range (fun i hi => List.mem_range.1 hi)
theorem keep_may {ts : List Ty} {rs : List (List Val)} {l : List Nat} (h : ofMay ts rs) (hp : l.Pairwise (· < ·)) (hl : ∀ i ∈ l, i < rs.length) : Bat.may ⟨ts, rs.length, colsOf ts.length rs, l.map Int.ofNat⟩ := by
  obtain ⟨-, b1, b2, b3, b4, b5, b6⟩ := h
  exact ⟨b1, b2, b3, b4, b5, selP_of hp hl⟩
end Go.Proofs.Ytaagbfpbbhaclaa
