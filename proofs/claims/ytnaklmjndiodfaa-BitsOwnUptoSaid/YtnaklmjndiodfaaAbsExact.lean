/- Contracts made exact: what a call left behind and nobody names is dropped; the one new block that is named gets the next number. -/
import Derived.Test.YtnaklmjndiodfaaAbsFn
namespace Go.Abs
open Go.RowKit

theorem flat_eq {ρ : Ren} : ∀ (d : Nat) (v c : Value), flat d v = true → VRel ρ v c → c = v := by
  intro d
  induction d with
  | zero =>
    intro v c h hv
    unfold flat at h
    split at h <;> first | contradiction | (cases hv; rfl) | (exfalso; simp at *; done)
  | succ d ih =>
    intro v c h hv
    unfold flat at h
    split at h
    all_goals first
      | contradiction
      | (cases hv; rfl; done)
      | skip
    · rename_i d1 xs hd
      cases hd
      cases hv with
      | @agg _ ys hs hh =>
        congr 1
        apply Array.ext
        · exact hs.symm
        · intro i h1 h2
          have h3 := hh i
          have e1 : xs.getD i (.tuple #[]) = xs[i] := by simp [Array.getD, h2]
          have e2 : ys.getD i (.tuple #[]) = ys[i] := by simp [Array.getD, h1]
          rw [e1, e2] at h3
          exact ih _ _ (by simpa using (Array.all_eq_true.1 h) i h2) h3
    · rename_i hd
      cases hd
      cases hv with
      | iface hx => rw [ih _ _ h hx]

theorem flat_any {ρ ρ' : Ren} {d : Nat} {v c : Value} (h : flat d v = true) (hv : VRel ρ v c) : VRel ρ' v c := by
  rw [flat_eq d v c h hv]; exact flat_rel ρ' d v h

/-- The smaller naming is good enough for what it named. -/
theorem Sim.back {w0 w w' : World} {ρ ρ' : Ren} {h : AH} (s : Sim w0 ρ h w) (s' : Sim w0 ρ' h w') (hl : ρ.le ρ') : Sim w0 ρ h w' where
  base := s'.base
  fin := s.fin
  info := fun b m hm => by
    obtain ⟨L, h1, _⟩ := s.info b m hm
    obtain ⟨L', k1, k2⟩ := s'.info b m hm
    rw [hl _ _ h1] at k1; cases k1
    exact ⟨L, h1, k2⟩
  cell := fun b i hb => by
    obtain ⟨L, v, h1, h2, h3⟩ := s.cell b i hb
    obtain ⟨L', v', k1, k2, k3⟩ := s'.cell b i hb
    rw [hl _ _ h1] at k1; cases k1
    exact ⟨L, v', h1, k2, h3.back hl v' k3⟩
  sep := fun b m L i hm hL hi b' L' i' hne hL' hor => s'.sep b m L i hm (hl _ _ hL) hi b' L' i' hne (hl _ _ hL') hor

theorem le_app_new {w0 w : World} {ρ : Ren} {H : AH} {m n' : Nat} {d : Dl} {W : Nat → Prop} (s : Sim w0 ρ H w) (hW : ∀ b, ¬ W b) (hw : Within W m n' d) (hf : ∀ b, m ≤ b → ρ b = none) : H.le (H.app d) := by
  have key : ∀ b, ρ b ≠ none → ¬ d.touches b := by
    intro b hb ht
    rcases (hw b ht).1 with h1 | h1
    · exact hW b h1
    · exact hb (hf b h1)
  refine ⟨fun b mt hb => ?_, fun b i => ?_⟩
  · have h1 : ¬ d.touches b := key b (fun h => by have := (s.named b h).1; rw [hb] at this; cases this)
    have : d.info b = none := Classical.byContradiction fun h => h1 (.inl h)
    simp [AH.app, this, hb]
  · by_cases hc : H.cell b i = .tuple #[]
    · exact .inl hc
    · have h1 : ¬ d.touches b := key b (fun h => hc ((s.named b h).2 i))
      have : d.cell b i = none := Classical.byContradiction fun h => h1 (.inr ⟨i, h⟩)
      right; simp [AH.app, this]

/-- A function that turns nothing and returns what holds no address: as if it had made nothing. -/
theorem Ev.pure {P : Program} {W : Nat → Prop} {f : FuncId} {args : Array Value} {n : Nat} {h : AH} {r : Value} (hW : ∀ b, ¬ W b) (hr : flat 8 r = true)
    (hall : ∀ m, n ≤ m → ∃ n' h', Ev P W f args m h r n' h') : Ev P W f args n h r n h := by
  obtain ⟨_, _, hc, _⟩ := hall n (Nat.le_refl _)
  refine ⟨hc, .nil, .refl _, Nat.le_refl _, .nil _ _ _, fun w0 ρ w H cargs hl hf hs hra => ?_⟩
  obtain ⟨N, hN⟩ := hs.fin
  obtain ⟨n', h', _, d, hle, hn, hwi, run⟩ := hall (max n N) (by omega)
  refine Calls.mono (run w0 ρ w H cargs hl (fun b h1 _ => hN b (by omega)) hs hra) ?_
  rintro e w' ⟨ρ', c, rfl, hg, hv, hs'⟩
  have hle2 := le_app_new hs hW hwi (fun b hb => hN b (by omega))
  exact ⟨ρ, c, rfl, .refl _ _ _, flat_any hr hv, hs.back (hs'.anti hle2) hg.le⟩

/-- A function that turns nothing and returns one new block: it gets the next number. -/
theorem Ev.fresh {P : Program} {W : Nat → Prop} {f : FuncId} {args : Array Value} {n : Nat} {h : AH} {r : Nat → Value} {mt : Meta} {cs : List Value} (hW : ∀ b, ¬ W b) (hcs : cs.all (flat 8) = true)
    (hren : ∀ (ρ1 ρ2 : Ren) (L : Loc) (b : Nat) (c : Value), ρ1 b = some L → ρ2 n = some L → VRel ρ1 (r b) c → VRel ρ2 (r n) c)
    (hall : ∀ m, n ≤ m → ∃ n' h' b0, Ev P W f args m h (r b0) n' h' ∧ m ≤ b0 ∧ h'.info b0 = some mt ∧ ∀ i, i < cs.length → h'.cell b0 i = cs.getD i (.tuple #[])) :
    Ev P W f args n h (r n) (n + 1) (h.app (.new n mt cs)) := by
  obtain ⟨_, _, _, ⟨hc, _⟩, _⟩ := hall n (Nat.le_refl _)
  have hwn : Within W n (n + 1) (.new n mt cs) := by
    intro b hb
    have : b = n := by
      rcases hb with h | ⟨i, h⟩
      · simp only [Dl.new] at h; split at h
        · assumption
        · exact absurd rfl h
      · simp only [Dl.new] at h; split at h
        · assumption
        · exact absurd rfl h
    subst this; exact ⟨.inr (Nat.le_refl _), Nat.lt_succ_self _⟩
  refine ⟨hc, .new n mt cs, .refl _, Nat.le_succ _, hwn, fun w0 ρ w H cargs hl hf hs hra => ?_⟩
  obtain ⟨N, hN⟩ := hs.fin
  obtain ⟨n', h', b0, ⟨_, d, hle, hn, hwi, run⟩, hb0, hinf, hcell⟩ := hall (max n N) (by omega)
  refine Calls.mono (run w0 ρ w H cargs hl (fun b h1 _ => hN b (by omega)) hs hra) ?_
  rintro e w' ⟨ρ', c, rfl, hg, hv, hs'⟩
  have hle2 := le_app_new hs hW hwi (fun b hb => hN b (by omega))
  have s0 : Sim w0 ρ H w' := hs.back (hs'.anti hle2) hg.le
  have hle3 : h'.le (H.app d) := hle.trans (hl.app d)
  have hI := hle3.info b0 mt hinf
  obtain ⟨L, hL, hz, hsz, hlk, hown⟩ := hs'.info b0 mt hI
  have hn0 : ρ n = none := hf n (Nat.le_refl _) (Nat.lt_succ_self _)
  have hρn := Ren.le_set hn0 L
  have hb0ρ : ρ b0 = none := hN b0 (by omega)
  have hcellD : ∀ i, cs.getD i (.tuple #[]) ≠ .tuple #[] → (H.app d).cell b0 i = cs.getD i (.tuple #[]) ∧ flat 8 (cs.getD i (.tuple #[])) = true := by
    intro i hi
    have hlt := getD_none_lt hi
    have h1 := hcell i hlt
    rcases hle3.cell b0 i with h2 | h2
    · rw [h1] at h2; exact absurd h2 hi
    · refine ⟨h2.trans h1, ?_⟩
      have h3 : cs.getD i (.tuple #[]) = cs[i] := by simp [List.getD, hlt]
      rw [h3]; exact List.all_eq_true.1 hcs _ (List.getElem_mem hlt)
  have hcl : ∀ x i, (H.app (.new n mt cs)).cell x i = if x = n then cs.getD i (.tuple #[]) else H.cell x i := by
    intro x i; by_cases e : x = n <;> simp [AH.app, Dl.new, e]
  have hin : ∀ x, (H.app (.new n mt cs)).info x = if x = n then some mt else H.info x := by
    intro x; by_cases e : x = n <;> simp [AH.app, Dl.new, e]
  -- what H tells is told behind d too
  have hup : ∀ x i, (H.cell x i ≠ .tuple #[] → (H.app d).cell x i ≠ .tuple #[]) := by
    intro x i hx
    rcases hle2.cell x i with h1 | h1
    · exact absurd h1 hx
    · rw [h1]; exact hx
  have hnb : ∀ x L', ρ x = some L' → x ≠ b0 := by intro x L' hx e; rw [e, hb0ρ] at hx; cases hx
  refine ⟨ρ.set n L, c, rfl, .one hn0 L, hren ρ' _ L b0 c hL (Ren.set_self _ _ _) hv, ?_⟩
  refine ⟨s0.base, Ren.set_fin s0.fin _ _, ?_, ?_, ?_⟩
  · intro x m hx
    rw [hin] at hx
    by_cases e : x = n
    · subst e
      rw [if_pos rfl] at hx; cases hx
      exact ⟨L, Ren.set_self _ _ _, hz, hsz, hlk, hown⟩
    · rw [if_neg e] at hx
      obtain ⟨K, k1, k2⟩ := s0.info x m hx
      exact ⟨K, hρn _ _ k1, k2⟩
  · intro x i hx
    rw [hcl] at hx ⊢
    by_cases e : x = n
    · subst e
      rw [if_pos rfl] at hx ⊢
      obtain ⟨h1, h2⟩ := hcellD i hx
      obtain ⟨K, v, k1, k2, k3⟩ := hs'.cell b0 i (by rw [h1]; exact hx)
      rw [hL] at k1; cases k1
      rw [h1] at k3
      exact ⟨L, v, Ren.set_self _ _ _, k2, flat_any h2 k3⟩
    · rw [if_neg e] at hx ⊢
      obtain ⟨K, v, k1, k2, k3⟩ := s0.cell x i hx
      exact ⟨K, v, hρn _ _ k1, k2, k3.mono hρn⟩
  · intro x m K i hx hK hi x' K' i' hne hK' hor
    rw [hin] at hx
    rw [hcl, hin] at hor
    by_cases e : x = n
    · subst e
      rw [if_pos rfl] at hx; cases hx
      rw [Ren.set_self] at hK; cases hK
      rw [Ren.set_ne _ _ hne] at hK'
      rw [if_neg hne, if_neg hne] at hor
      refine hs'.sep b0 mt L i hI hL hi x' K' i' (hnb x' K' hK') (hg.le _ _ hK') ?_
      rcases hor with h1 | ⟨m', h1, h2⟩
      · exact .inl (hup x' i' h1)
      · exact .inr ⟨m', hle2.info x' m' h1, h2⟩
    · rw [if_neg e] at hx
      rw [Ren.set_ne _ _ e] at hK
      by_cases e' : x' = n
      · subst e'
        rw [Ren.set_self] at hK'; cases hK'
        rw [if_pos rfl, if_pos rfl] at hor
        refine hs'.sep x m K i (hle2.info x m hx) (hg.le _ _ hK) hi b0 L i' (fun h => hnb x K hK h.symm) hL ?_
        rcases hor with h1 | ⟨m', h1, h2⟩
        · left
          rw [(hcellD i' h1).1]; exact h1
        · cases h1; exact .inr ⟨mt, hI, h2⟩
      · rw [Ren.set_ne _ _ e'] at hK'
        rw [if_neg e', if_neg e'] at hor
        exact s0.sep x m K i hx hK hi x' K' i' hne hK' hor

/-- A call without arguments whose answer the empty heap gives. -/
theorem Ev.closed {P : Program} {f : FuncId} {W : Nat → Prop} {n n' m : Nat} {h h' : AH} {r : Value} (hW : ∀ b, ¬ W b) (hr : flat 8 r = true) (hev : Ev P W f #[] m .empty r n' h') : Ev P W f #[] n h r n h := by
  obtain ⟨hc, d, hle, hn, hwi, run⟩ := hev
  refine ⟨hc, .nil, .refl _, Nat.le_refl _, .nil _ _ _, fun w0 ρ w H cargs hl hf hs hra => ?_⟩
  refine Calls.mono (run w (fun _ => none) w .empty cargs (.refl _) (fun _ _ _ => rfl) (Sim.start w) ⟨hra.size, fun i => by simp [Array.getD]; exact .unk _⟩) ?_
  rintro e w' ⟨ρ', c, rfl, hg, hv, hs'⟩
  refine ⟨ρ, c, rfl, .refl _ _ _, flat_any hr hv, hs.move ?_ ?_ ?_⟩
  · exact hs.base.trans (hs'.base.mono hs.base.size)
  · intro b L i v _ hc
    rw [hs'.base.cell (World.block_lt_of_cell? _ _ hc)]; exact hc
  · intro b L i v _ hc hz
    rw [hs'.base.frozen (World.block_lt_of_cell? _ _ hc)]; exact hz

end Go.Abs
