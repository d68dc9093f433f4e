/- Contracts made exact: what a call left behind and nobody names is dropped; the one new block that is named gets the next number. -/
import Derived.Test.YtchfnjfmlhacfaaAbsFn
namespace Go.Abs
open Go.RowKit

theorem flat_eq {ρ : Ren} : ∀ (d : Nat) (v c : Value), flat d v = true → VRel ρ v c → c = v := by
  intro d
  induction d with
  | zero =>
    intro v c h hv
    unfold flat at h
    split at h <;> first | contradiction | (cases hv; rfl) | (exfalso; simp at *; done)
  | succ d ih =>
    intro v c h hv
    unfold flat at h
    split at h
    all_goals first
      | contradiction
      | (cases hv; rfl; done)
      | skip
    · rename_i d1 xs hd
      cases hd
      cases hv with
      | @agg _ ys hs hh =>
        congr 1
        apply Array.ext
        · exact hs.symm
        · intro i h1 h2
          have h3 := hh i
          have e1 : xs.getD i (.tuple #[]) = xs[i] := by simp [Array.getD, h2]
          have e2 : ys.getD i (.tuple #[]) = ys[i] := by simp [Array.getD, h1]
          rw [e1, e2] at h3
          exact ih _ _ (by simpa using (Array.all_eq_true.1 h) i h2) h3
    · rename_i hd
      cases hd
      cases hv with
      | iface hx => rw [ih _ _ h hx]
    · rename_i d1 xs hd
      cases hd
      simp only [Bool.and_eq_true] at h
      cases hv with
      | unk => simp at h
      | @tuple _ ys hs hh =>
        congr 1
        apply Array.ext
        · exact hs.symm
        · intro i h1 h2
          have h3 := hh i
          have e1 : xs.getD i (.tuple #[]) = xs[i] := by simp [Array.getD, h2]
          have e2 : ys.getD i (.tuple #[]) = ys[i] := by simp [Array.getD, h1]
          rw [e1, e2] at h3
          exact ih _ _ (by simpa using (Array.all_eq_true.1 h.2) i h2) h3

theorem flat_any {ρ ρ' : Ren} {d : Nat} {v c : Value} (h : flat d v = true) (hv : VRel ρ v c) : VRel ρ' v c := by
  rw [flat_eq d v c h hv]; exact flat_rel ρ' d v h

/-- The smaller naming is good enough for what it named. -/
theorem Sim.back {w0 : Base} {w w' : World} {ρ ρ' : Ren} {h : AH} (s : Sim w0 ρ h w) (s' : Sim w0 ρ' h w') (hl : ρ.le ρ') : Sim w0 ρ h w' where
  base := s'.base
  keep := s'.keep
  fin := s.fin
  info := fun b m hm => by
    obtain ⟨L, h1, _⟩ := s.info b m hm
    obtain ⟨L', k1, k2⟩ := s'.info b m hm
    rw [hl _ _ h1] at k1; cases k1
    exact ⟨L, h1, k2⟩
  cell := fun b i hb => by
    obtain ⟨L, v, h1, h2, h3⟩ := s.cell b i hb
    obtain ⟨L', v', k1, k2, k3⟩ := s'.cell b i hb
    rw [hl _ _ h1] at k1; cases k1
    exact ⟨L, v', h1, k2, h3.back hl v' k3⟩
  sep := fun b m L i hm hL hi b' L' i' hne hL' hor => s'.sep b m L i hm (hl _ _ hL) hi b' L' i' hne (hl _ _ hL') hor
  obj := fun b m o hb ho => by
    obtain ⟨L, c, h1, h2, h3, h4, h5⟩ := s.obj b m o hb ho
    obtain ⟨L', c', k1, k2, k3, k4, k5⟩ := s'.obj b m o hb ho
    rw [hl _ _ h1] at k1; cases k1
    exact ⟨L, c', h1, h2, h3, k4, h5.back hl k5⟩
  osep := fun b m o b' m' o' L L' hb ho hb' ho' hL hL' => s'.osep b m o b' m' o' L L' hb ho hb' ho' (hl _ _ hL) (hl _ _ hL')

theorem le_app_new {w0 : Base} {w : World} {ρ : Ren} {H : AH} {m n' : Nat} {d : Dl} {W : Nat → Prop} (s : Sim w0 ρ H w) (hW : ∀ b, ¬ W b) (hw : Within W m n' d) (hf : ∀ b, m ≤ b → ρ b = none) : H.le (H.app d) := by
  have key : ∀ b, ρ b ≠ none → ¬ d.touches b := by
    intro b hb ht
    rcases (hw b ht).1 with h1 | h1
    · exact hW b h1
    · exact hb (hf b h1)
  refine ⟨fun b mt hb => ?_, fun b i => ?_⟩
  · have h1 : ¬ d.touches b := key b (fun h => by have := (s.named b h).1; rw [hb] at this; cases this)
    have : d.info b = none := Classical.byContradiction fun h => h1 (.inl h)
    simp [AH.app, this, hb]
  · by_cases hc : H.cell b i = .tuple #[]
    · exact .inl hc
    · have h1 : ¬ d.touches b := key b (fun h => hc ((s.named b h).2 i))
      have : d.cell b i = none := Classical.byContradiction fun h => h1 (.inr ⟨i, h⟩)
      right; simp [AH.app, this]

/-- A function that turns nothing and returns what holds no address: as if it had made nothing. -/
theorem Ev.pure {P : Program} {W : Nat → Prop} {f : FuncId} {args : Array Value} {n : Nat} {h : AH} {r : Value} (hW : ∀ b, ¬ W b) (hr : flat 8 r = true)
    (hall : ∀ m, n ≤ m → ∃ n' h', Ev P W f args m h r n' h') : Ev P W f args n h r n h := by
  obtain ⟨_, _, hc, _⟩ := hall n (Nat.le_refl _)
  refine ⟨hc, .nil, .refl _, Nat.le_refl _, .nil _ _ _, fun w0 ρ w H cargs hl hf hs hra => ?_⟩
  obtain ⟨N, hN⟩ := hs.fin
  obtain ⟨n', h', _, d, hle, hn, hwi, run⟩ := hall (max n N) (by omega)
  refine CallsIn.mono (run w0 ρ w H cargs hl (fun b h1 _ => hN b (by omega)) hs hra) ?_
  rintro e w' ⟨ρ', c, rfl, hg, hv, hs'⟩
  have hle2 := le_app_new hs hW hwi (fun b hb => hN b (by omega))
  exact ⟨ρ, c, rfl, .refl _ _ _, flat_any hr hv, hs.back (hs'.anti hle2) hg.le⟩

/-- A call without arguments whose answer the empty heap gives. -/
theorem Ev.closed {P : Program} {f : FuncId} {W : Nat → Prop} {n n' m : Nat} {h h' : AH} {r : Value} (hW : ∀ b, ¬ W b) (hr : flat 8 r = true) (hev : Ev P W f #[] m .empty r n' h') : Ev P W f #[] n h r n h := by
  obtain ⟨hc, d, hle, hn, hwi, run⟩ := hev
  refine ⟨hc, .nil, .refl _, Nat.le_refl _, .nil _ _ _, fun w0 ρ w H cargs hl hf hs hra => ?_⟩
  refine CallsIn.mono (run (.start w) (fun _ => none) w .empty cargs (.refl _) (fun _ _ _ => rfl) (Sim.start w) ⟨hra.size, fun i => by simp [Array.getD]; exact .unk _⟩) ?_
  rintro e w' ⟨ρ', c, rfl, hg, hv, hs'⟩
  refine ⟨ρ, c, rfl, .refl _ _ _, flat_any hr hv, hs.move ?_ ?_ ?_ ?_⟩
  · exact hs.base.trans (hs'.base.mono hs.base.size)
  · intro l o ho _
    rw [hs'.base.block l (Array.getElem?_eq_some_iff.1 ho).1]; exact ho
  · intro b L i v _ hc
    rw [hs'.base.cell (World.block_lt_of_cell? _ _ hc)]; exact hc
  · intro b L i v _ hc hz
    rw [hs'.base.frozen (World.block_lt_of_cell? _ _ hc)]; exact hz

end Go.Abs
