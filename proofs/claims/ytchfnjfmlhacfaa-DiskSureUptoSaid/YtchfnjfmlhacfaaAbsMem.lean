/- Steps of memory, told of the abstract heap: a new block, a store, slack taken by an append, what is given up. -/
import Derived.Test.YtchfnjfmlhacfaaAbsCore
import Derived.Laws.IdiomCopy
namespace Go.Abs
open Go.RowKit

def Ren.set (ρ : Ren) (n : Nat) (L : Loc) : Ren := fun b => if b = n then some L else ρ b
theorem Ren.le_set {ρ : Ren} {n : Nat} (hn : ρ n = none) (L : Loc) : ρ.le (ρ.set n L) := fun b K h => by
  unfold Ren.set
  by_cases e : b = n
  · subst e; rw [hn] at h; cases h
  · rw [if_neg e]; exact h
theorem Ren.set_fin {ρ : Ren} (h : ∃ N, ∀ b, N ≤ b → ρ b = none) (n : Nat) (L : Loc) : ∃ N, ∀ b, N ≤ b → ρ.set n L b = none := by
  obtain ⟨N, h⟩ := h
  exact ⟨max N (n + 1), fun b hb => by unfold Ren.set; rw [if_neg (by omega)]; exact h b (by omega)⟩
theorem Ren.set_self (ρ : Ren) (n : Nat) (L : Loc) : ρ.set n L n = some L := by simp [Ren.set]
theorem Ren.set_ne (ρ : Ren) {n b : Nat} (L : Loc) (h : b ≠ n) : ρ.set n L b = ρ b := by simp [Ren.set, h]

/-- A new block n. -/
@[irreducible] def Dl.new (n : Nat) (m : Meta) (cs : List Value) : Dl :=
  ⟨fun b => if b = n then some (some m) else none, fun b i => if b = n then some (cs.getD i (.tuple #[])) else none⟩
/-- Cells of block b from o on. -/
@[irreducible] def Dl.sets (b o : Nat) (vs : List Value) : Dl :=
  ⟨fun _ => none, fun x i => if x = b ∧ o ≤ i ∧ i < o + vs.length then some (vs.getD (i - o) (.tuple #[])) else none⟩

theorem sets_info (h : AH) (b o : Nat) (vs : List Value) (x : Nat) : (h.app (.sets b o vs)).info x = h.info x := by unfold Dl.sets; rfl
theorem getD_none_lt {cs : List Value} {i : Nat} (h : cs.getD i (.tuple #[]) ≠ .tuple #[]) : i < cs.length := by
  rcases Nat.lt_or_ge i cs.length with h1 | h1
  · exact h1
  · exact absurd (by simp [List.getD, List.getElem?_eq_none h1]) h

theorem World.cell?_alloc_some {w : World} {a : Addr} {v : Value} (o : Obj) (h : w.cell? a = some v) : (w.alloc o).cell? a = some v := by
  rw [World.cell?_alloc_lt _ _ _ (World.block_lt_of_cell? _ _ h)]; exact h
theorem World.frozen?_alloc_some {w : World} {a : Addr} {v : Value} (o : Obj) (h : w.cell? a = some v) : (w.alloc o).frozen? a = w.frozen? a :=
  World.frozen?_alloc_old _ _ _ (Nat.ne_of_lt (World.block_lt_of_cell? _ _ h))

theorem KeepsObjs.alloc (w : World) (x : Obj) : KeepsObjs w (w.alloc x) := fun l o h _ => by
  have hl : l < w.heap.size := (Array.getElem?_eq_some_iff.1 h).1
  simp only [World.alloc, Array.getElem?_push]
  rw [if_neg (by omega)]; exact h
theorem KeepsObjs.setCell (w : World) (a : Addr) (v : Value) : KeepsObjs w (w.setCell a v) := fun l o h hc => by
  simp only [World.setCell, Array.getElem?_modify]
  split
  · rw [h]
    cases o <;> first | rfl | exact absurd rfl (hc _ _ _)
  · exact h

theorem Sim.alloc {w0 : Base} {w : World} {ρ : Ren} {h : AH} (s : Sim w0 ρ h w) (o : Obj) : Sim w0 ρ h (w.alloc o) :=
  s.move (s.base.alloc s.base.size o) (.alloc w o) (fun _ _ _ _ _ h => World.cell?_alloc_some o h) (fun _ _ _ _ _ h hf => by rw [World.frozen?_alloc_some o h]; exact hf)

theorem Sim.new {w0 : Base} {w : World} {ρ : Ren} {h : AH} (s : Sim w0 ρ h w) {n : Nat} (hn : ρ n = none) (cs : List Value) (conc : Array Value) (elem : TypeId) (sz : Nat)
    (hsz : cs.length ≤ conc.size) (hv : ∀ i, i < cs.length → VRel ρ (cs.getD i (.tuple #[])) (conc.getD i (.tuple #[]))) :
    Sim w0 (ρ.set n ⟨w.heap.size, 0, conc.size, sz⟩) (h.app (.new n ⟨cs.length, 0, true, sz⟩ cs)) (w.alloc (.cells conc elem)) := by
  have s1 := (s.alloc (.cells conc elem)).grow' (Ren.le_set hn ⟨w.heap.size, 0, conc.size, sz⟩) (Ren.set_fin s.fin _ _)
  have hnamed := s.named n hn
  have hcell : ∀ b i, (h.app (.new n ⟨cs.length, 0, true, sz⟩ cs)).cell b i = if b = n then cs.getD i (.tuple #[]) else h.cell b i := by
    intro b i; by_cases e : b = n <;> simp [AH.app, Dl.new, e]
  have hinfo : ∀ b, (h.app (.new n ⟨cs.length, 0, true, sz⟩ cs)).info b = if b = n then some ⟨cs.length, 0, true, sz⟩ else h.info b := by
    intro b; by_cases e : b = n <;> simp [AH.app, Dl.new, e]
  have hgt : ∀ i, i < conc.size → (w.alloc (.cells conc elem)).cell? ⟨w.heap.size, 0 + i, none⟩ = some (conc.getD i (.tuple #[])) := by
    intro i hi
    rw [World.cell?_alloc_new]; simp [hi]
  have hold : ∀ b L, b ≠ n → (ρ.set n ⟨w.heap.size, 0, conc.size, sz⟩) b = some L → (h.cell b · ≠ .tuple #[]) = (h.cell b · ≠ .tuple #[]) := fun _ _ _ _ => rfl
  -- a block that is told of lies in an older block of the world
  have hlt : ∀ b L i, b ≠ n → ρ b = some L → (h.cell b i ≠ .tuple #[] ∨ ∃ m', h.info b = some m' ∧ Own m' L i) → L.blk < w.heap.size := by
    intro b L i hb hL hor
    rcases hor with h1 | ⟨m', h1, h2⟩
    · obtain ⟨L', v, k1, k2, _⟩ := s.cell b i h1
      rw [hL] at k1; cases k1
      exact World.block_lt_of_cell? _ _ k2
    · obtain ⟨L', k1, _, _, _, k3⟩ := s.info b m' h1
      rw [hL] at k1; cases k1
      obtain ⟨_, ⟨v, k4⟩, _⟩ := k3 i h2
      exact World.block_lt_of_cell? _ _ k4
  have hobj : ∀ b m o, (h.app (.new n ⟨cs.length, 0, true, sz⟩ cs)).info b = some m → m.tail = .obj o → b ≠ n ∧ h.info b = some m := by
    intro b m o hm ho
    rw [hinfo] at hm
    by_cases e : b = n
    · rw [if_pos e] at hm; cases hm; cases ho
    · rw [if_neg e] at hm; exact ⟨e, hm⟩
  refine ⟨s1.base, s1.keep, s1.fin, ?_, ?_, ?_, fun b m o hm ho => s1.obj b m o (hobj b m o hm ho).2 ho, fun b m o b' m' o' L L' hm ho hm' ho' => s1.osep b m o b' m' o' L L' (hobj b m o hm ho).2 ho (hobj b' m' o' hm' ho').2 ho'⟩
  · intro b m hm
    rw [hinfo] at hm
    by_cases e : b = n
    · subst e
      rw [if_pos rfl] at hm; cases hm
      refine ⟨_, Ren.set_self _ _ _, rfl, hsz, Nat.zero_le _, fun i hi => ⟨s.base.size, ?_, ?_⟩⟩
      · have : i < conc.size := by simpa [Own] using hi.2
        exact ⟨_, hgt i this⟩
      · exact World.frozen?_alloc_new _ _ _ _
    · rw [if_neg e] at hm; exact s1.info b m hm
  · intro b i hb
    rw [hcell] at hb ⊢
    by_cases e : b = n
    · subst e
      rw [if_pos rfl] at hb ⊢
      have hi := getD_none_lt hb
      exact ⟨_, _, Ren.set_self _ _ _, hgt i (by omega), (hv i hi).mono (Ren.le_set hn _)⟩
    · rw [if_neg e] at hb ⊢; exact s1.cell b i hb
  · intro b m L i hm hL hi b' L' i' hne hL' hor
    rw [hinfo] at hm
    rw [hcell, hinfo] at hor
    by_cases e : b = n
    · subst e
      rw [Ren.set_self] at hL; cases hL
      rw [if_neg hne, if_neg hne] at hor
      rw [Ren.set_ne _ _ hne] at hL'
      have := hlt b' L' i' hne hL' hor
      rintro ⟨h1, _⟩
      simp only at h1; omega
    · rw [if_neg e] at hm
      by_cases e' : b' = n
      · subst e'
        rw [Ren.set_self] at hL'; cases hL'
        rw [Ren.set_ne _ _ e] at hL
        have := hlt b L i e hL (.inr ⟨m, hm, hi⟩)
        rintro ⟨h1, _⟩
        simp only at h1; omega
      · rw [if_neg e', if_neg e'] at hor
        exact s1.sep b m L i hm hL hi b' L' i' hne hL' hor

/-- One store into a cell that is its block's own. -/
theorem Sim.store1 {w0 : Base} {w : World} {ρ : Ren} {h : AH} (s : Sim w0 ρ h w) {b : Nat} {m : Meta} {L : Loc} {i : Nat} (hm : h.info b = some m) (hL : ρ b = some L) (hi : Own m L i)
    {a c : Value} (hv : VRel ρ a c) : Sim w0 ρ (h.app (.sets b i [a])) (w.setCell ⟨L.blk, L.off + i, none⟩ c) := by
  obtain ⟨L', e, hzz, h2, h3, h4⟩ := s.info b m hm
  rw [hL] at e; cases e
  obtain ⟨hbase, ⟨u, hu⟩, hfz⟩ := h4 i hi
  have hcell : ∀ x j, (h.app (.sets b i [a])).cell x j = if x = b ∧ j = i then a else h.cell x j := by
    intro x j
    by_cases e : x = b ∧ j = i
    · obtain ⟨rfl, rfl⟩ := e; simp [AH.app, Dl.sets]
    · have : ¬ (x = b ∧ i ≤ j ∧ j < i + [a].length) := by simp; omega
      simp only [AH.app, Dl.sets, if_neg this, Option.getD_none, if_neg e]
  have hinfo : ∀ x, (h.app (.sets b i [a])).info x = h.info x := fun x => sets_info h b i [a] x
  refine ⟨s.base.setCell hbase c, s.keep.move (.setCell w _ _), s.fin, ?_, ?_, ?_, fun b m o hm ho => obj_move (.setCell w _ _) (s.obj b m o (hinfo b ▸ hm) ho), fun b m o b' m' o' L L' hb ho hb' ho' => s.osep b m o b' m' o' L L' (hinfo b ▸ hb) ho (hinfo b' ▸ hb') ho'⟩
  · intro x mx hx
    rw [hinfo] at hx
    obtain ⟨K, k1, kz, k2, k3, k4⟩ := s.info x mx hx
    refine ⟨K, k1, kz, k2, k3, fun j hj => ?_⟩
    obtain ⟨q1, ⟨v, q2⟩, q3⟩ := k4 j hj
    refine ⟨q1, ?_, by rw [World.frozen?_setCell]; exact q3⟩
    by_cases e : (⟨L.blk, L.off + i, none⟩ : Addr) = ⟨K.blk, K.off + j, none⟩
    · rw [← e]; exact ⟨c, World.cell?_setCell_same _ _ _ hu⟩
    · rw [World.cell?_setCell_other _ _ _ _ e]; exact ⟨v, q2⟩
  · intro x j hx
    rw [hcell] at hx ⊢
    by_cases e : x = b ∧ j = i
    · obtain ⟨rfl, rfl⟩ := e
      rw [if_pos ⟨rfl, rfl⟩]
      exact ⟨L, c, hL, World.cell?_setCell_same _ _ _ hu, hv⟩
    · rw [if_neg e] at hx ⊢
      obtain ⟨K, v, k1, k2, k3⟩ := s.cell x j hx
      refine ⟨K, v, k1, ?_, k3⟩
      rw [World.cell?_setCell_other _ _ _ _ ?_]
      · exact k2
      · intro heq
        injection heq with h5 h6
        by_cases exb : x = b
        · subst exb
          rw [hL] at k1; cases k1
          exact e ⟨rfl, by omega⟩
        · exact s.sep b m L i hm hL hi x K j exb k1 (.inl hx) ⟨h5, h6⟩
  · intro x mx K j hx hK hj x' K' j' hne hK' hor
    rw [hinfo] at hx
    rw [hcell, hinfo] at hor
    by_cases e : x' = b ∧ j' = i
    · obtain ⟨rfl, rfl⟩ := e
      rw [hL] at hK'; cases hK'
      exact s.sep x mx K j hx hK hj x' L j' hne hL (.inr ⟨m, hm, hi⟩)
    · rw [if_neg e] at hor
      exact s.sep x mx K j hx hK hj x' K' j' hne hK' hor

theorem sets_cons (b o : Nat) (v : Value) (r : List Value) : (Dl.sets b o [v]).comp (.sets b (o + 1) r) = .sets b o (v :: r) := by
  simp only [Dl.comp, Dl.sets, Dl.mk.injEq]
  constructor
  · funext x; rfl
  · funext x i
    by_cases hx : x = b
    · subst hx
      by_cases h0 : i = o
      · subst h0
        have h1 : ¬ (x = x ∧ i + 1 ≤ i ∧ i < i + 1 + r.length) := by omega
        rw [if_neg h1, if_pos (by simp), if_pos (by simp)]; simp
      · by_cases h1 : o + 1 ≤ i ∧ i < o + 1 + r.length
        · have h2 : o ≤ i ∧ i < o + (v :: r).length := by simp; omega
          simp only [true_and, if_pos h1, if_pos h2, Option.some_or]
          congr 1
          have : i - o = (i - (o + 1)) + 1 := by omega
          rw [this]; simp [List.getD]
        · have h2 : ¬ (o ≤ i ∧ i < o + (v :: r).length) := by simp at h1 ⊢; omega
          have h3 : ¬ (o ≤ i ∧ i < o + [v].length) := by simp; omega
          simp only [true_and, if_neg h1, if_neg h2, if_neg h3, Option.or_none]
    · simp [hx]
theorem sets_nil (b o : Nat) : Dl.sets b o [] = .nil := by
  simp only [Dl.sets, Dl.nil, Dl.mk.injEq, true_and]
  funext x i
  rw [if_neg]; rintro ⟨_, h1, h2⟩; simp at h2; omega

/-- A row of stores. -/
theorem Sim.stores {w0 : Base} {ρ : Ren} {b : Nat} {m : Meta} {L : Loc} (hL : ρ b = some L) : ∀ (vs cs : List Value) (o : Nat) {w : World} {h : AH} (_ : Sim w0 ρ h w) (_ : h.info b = some m),
    vs.length = cs.length → (∀ j, j < vs.length → Own m L (o + j)) → (∀ j, j < vs.length → VRel ρ (vs.getD j (.tuple #[])) (cs.getD j (.tuple #[]))) →
    Sim w0 ρ (h.app (.sets b o vs)) (w.setCells L.blk (L.off + o) cs)
  | [], [], o, w, h, s, _, _, _, _ => by rw [sets_nil]; exact s
  | v :: r, c :: q, o, w, h, s, hm, hlen, ho, hv => by
    have s1 := s.store1 hm hL (i := o) (by simpa using ho 0 (by simp)) (a := v) (c := c) (by simpa using hv 0 (by simp))
    have s2 := Sim.stores hL r q (o + 1) s1 (by rw [sets_info]; exact hm) (by simpa using hlen) (fun j hj => by have := ho (j + 1) (by simpa using hj); rwa [show o + 1 + j = o + (j + 1) by omega])
      (fun j hj => by simpa using hv (j + 1) (by simpa using hj))
    rw [← AH.app_comp, sets_cons] at s2
    simpa [World.setCells, Nat.add_assoc] using s2
  | [], _ :: _, _, _, _, _, _, h, _, _ => by simp at h
  | _ :: _, [], _, _, _, _, _, h, _, _ => by simp at h

/-- Less is told: a block gives up cells of its own, or all that is told of it. -/
theorem Sim.shrink {w0 : Base} {w : World} {ρ : Ren} {h H : AH} (s : Sim w0 ρ H w)
    (hi : ∀ b m', h.info b = some m' → ∃ m, H.info b = some m ∧ m'.sz = m.sz ∧ m'.size ≤ m.size ∧ m'.lock ≤ m'.size ∧ ∀ L i, ρ b = some L → Own m' L i → Own m L i) (hk : ∀ b m' o, h.info b = some m' → m'.tail = .obj o → H.info b = some m')
    (hc : ∀ b i, h.cell b i = .tuple #[] ∨ H.cell b i = h.cell b i) : Sim w0 ρ h w where
  base := s.base
  keep := s.keep
  fin := s.fin
  info := fun b m' hb => by
    obtain ⟨m, h1, hz, h2, h3, h4⟩ := hi b m' hb
    obtain ⟨L, k1, kz, k2, k3, k4⟩ := s.info b m h1
    exact ⟨L, k1, kz.trans hz.symm, by omega, h3, fun i hi => k4 i (h4 L i k1 hi)⟩
  cell := fun b i hb => by
    rcases hc b i with h1 | h1
    · exact absurd h1 hb
    · have := s.cell b i (by rw [h1]; exact hb)
      rwa [h1] at this
  sep := fun b m' L i hb hL hi' b' L' i' hne hL' hor => by
    obtain ⟨m, h1, hz, h2, h3, h4⟩ := hi b m' hb
    refine s.sep b m L i h1 hL (h4 L i hL hi') b' L' i' hne hL' ?_
    rcases hor with k | ⟨m2, k, k'⟩
    · left
      rcases hc b' i' with q | q
      · exact absurd q k
      · rw [q]; exact k
    · obtain ⟨m3, q1, _, _, _, q4⟩ := hi b' m2 k
      exact .inr ⟨m3, q1, q4 L' i' hL' k'⟩
  obj := fun b m o hb ho => s.obj b m o (hk b m o hb ho) ho
  osep := fun b m o b' m' o' L L' hb ho hb' ho' => s.osep b m o b' m' o' L L' (hk b m o hb ho) ho (hk b' m' o' hb' ho') ho'

/-- Block n takes over what lies in block b from cell `lk` on (and reads what lies ahead of it); b keeps its first `sz` cells to read, or nothing. -/
@[irreducible] def Dl.takeover (b n : Nat) (keep : Bool) (sz lk ez : Nat) (cs : List Value) : Dl :=
  ⟨fun x => if x = n then some (some ⟨cs.length, lk, true, ez⟩) else if x = b then some (if keep then some ⟨sz, sz, false, ez⟩ else none) else none,
   fun x i => if x = n then some (cs.getD i (.tuple #[])) else if x = b then (if keep && i < sz then none else some (.tuple #[])) else none⟩

theorem Sim.takeover {w0 : Base} {w : World} {ρ : Ren} {h : AH} (s : Sim w0 ρ h w) {b n : Nat} {m : Meta} {L : Loc} (hm : h.info b = some m) (hL : ρ b = some L) (ht : m.tail = true) (hn : ρ n = none)
    (keep : Bool) (cs : List Value) (lk : Nat) (hlk : lk = if keep then m.size else m.lock) (hsz : m.size ≤ cs.length) (hext : cs.length ≤ L.ext)
    (hcs : ∀ i, i < cs.length → h.cell b i = cs.getD i (.tuple #[]) ∨ cs.getD i (.tuple #[]) = .tuple #[]) :
    Sim w0 (ρ.set n L) (h.app (.takeover b n keep m.size lk m.sz cs)) w := by
  have hbn : b ≠ n := fun e => by rw [e, hn] at hL; cases hL
  have hle := Ren.le_set hn L
  obtain ⟨L', e, hzz, h2, h3, h4⟩ := s.info b m hm
  rw [hL] at e; cases e
  have hinfo : ∀ x, (h.app (.takeover b n keep m.size lk m.sz cs)).info x = if x = n then some ⟨cs.length, lk, true, m.sz⟩ else if x = b then (if keep then some ⟨m.size, m.size, false, m.sz⟩ else none) else h.info x := by
    intro x
    by_cases e1 : x = n
    · simp [AH.app, Dl.takeover, e1]
    · by_cases e2 : x = b <;> simp [AH.app, Dl.takeover, e1, e2, hbn]
  have hcell : ∀ x i, (h.app (.takeover b n keep m.size lk m.sz cs)).cell x i = if x = n then cs.getD i (.tuple #[]) else if x = b then (if keep && i < m.size then h.cell b i else .tuple #[]) else h.cell x i := by
    intro x i
    by_cases e1 : x = n
    · simp [AH.app, Dl.takeover, e1]
    · by_cases e2 : x = b
      · subst e2
        simp only [AH.app, Dl.takeover, if_neg e1, if_true]
        by_cases e3 : (keep && decide (i < m.size)) = true
        · rw [if_pos e3, if_pos e3]; rfl
        · rw [if_neg e3, if_neg e3]; rfl
      · simp [AH.app, Dl.takeover, e1, e2]
  have hown : ∀ i, lk ≤ i → i < L.ext → Own m L i := by
    intro i h5 h6
    refine ⟨?_, by simp only [ht, Tail.isExt_of, if_true]; exact h6⟩
    cases keep <;> simp at hlk <;> omega
  have hobj : ∀ x mx o, (h.app (.takeover b n keep m.size lk m.sz cs)).info x = some mx → mx.tail = .obj o → h.info x = some mx := by
    intro x mx o hx ho
    rw [hinfo] at hx
    by_cases e1 : x = n
    · rw [if_pos e1] at hx; cases hx; cases ho
    · rw [if_neg e1] at hx
      by_cases e2 : x = b
      · rw [if_pos e2] at hx
        cases keep
        · simp at hx
        · simp at hx; cases hx; cases ho
      · rw [if_neg e2] at hx; exact hx
  have s2 := s.grow' hle (Ren.set_fin s.fin n L)
  refine ⟨s.base, s.keep, Ren.set_fin s.fin _ _, ?_, ?_, ?_, fun x mx o hx ho => s2.obj x mx o (hobj x mx o hx ho) ho, fun x mx o x' mx' o' K K' hx ho hx' ho' => s2.osep x mx o x' mx' o' K K' (hobj x mx o hx ho) ho (hobj x' mx' o' hx' ho') ho'⟩
  · intro x mx hx
    rw [hinfo] at hx
    by_cases e1 : x = n
    · subst e1
      rw [if_pos rfl] at hx; cases hx
      refine ⟨L, Ren.set_self _ _ _, hzz, hext, ?_, fun i hi => ?_⟩
      · show lk ≤ cs.length
        cases keep <;> simp at hlk <;> omega
      · obtain ⟨h5, h6⟩ := hi
        exact h4 i (hown i h5 (by simpa using h6))
    · rw [if_neg e1] at hx
      by_cases e2 : x = b
      · subst e2
        rw [if_pos rfl] at hx
        cases keep
        · simp at hx
        · simp at hx; cases hx
          exact ⟨L, by rw [Ren.set_ne _ _ e1]; exact hL, hzz, h2, Nat.le_refl _, fun i hi => by
            obtain ⟨h5, h6⟩ := hi; simp at h5 h6; omega⟩
      · rw [if_neg e2] at hx
        obtain ⟨K, k1, k2⟩ := s.info x mx hx
        exact ⟨K, hle _ _ k1, k2⟩
  · intro x i hx
    rw [hcell] at hx ⊢
    by_cases e1 : x = n
    · subst e1
      rw [if_pos rfl] at hx ⊢
      have hi := getD_none_lt hx
      rcases hcs i hi with h5 | h5
      · rw [← h5] at hx ⊢
        obtain ⟨K, v, k1, k2, k3⟩ := s.cell b i hx
        rw [hL] at k1; cases k1
        exact ⟨L, v, Ren.set_self _ _ _, k2, k3.mono hle⟩
      · exact absurd h5 hx
    · rw [if_neg e1] at hx ⊢
      have hold : h.cell x i ≠ .tuple #[] ∧ (if x = b then (if keep && i < m.size then h.cell b i else .tuple #[]) else h.cell x i) = h.cell x i := by
        by_cases e2 : x = b
        · subst e2
          rw [if_pos rfl] at hx ⊢
          by_cases e3 : (keep && decide (i < m.size)) = true
          · rw [if_pos e3] at hx ⊢; exact ⟨hx, rfl⟩
          · rw [if_neg e3] at hx; exact absurd rfl hx
        · rw [if_neg e2] at hx ⊢; exact ⟨hx, rfl⟩
      rw [hold.2]
      obtain ⟨K, v, k1, k2, k3⟩ := s.cell x i hold.1
      exact ⟨K, v, hle _ _ k1, k2, k3.mono hle⟩
  · intro x mx K i hx hK hi x' K' i' hne hK' hor
    rw [hinfo] at hx
    rw [hcell, hinfo] at hor
    -- what is told of x' now was told of it, or it is n
    by_cases e1 : x = n
    · subst e1
      rw [if_pos rfl] at hx; cases hx
      rw [Ren.set_self] at hK; cases hK
      rw [Ren.set_ne _ _ hne] at hK'
      rw [if_neg hne, if_neg hne] at hor
      have ho := hown i hi.1 (by simpa using hi.2)
      by_cases e2 : x' = b
      · subst e2
        rw [hL] at hK'; cases hK'
        rw [if_pos rfl, if_pos rfl] at hor
        rintro ⟨_, h6⟩
        have hii : i = i' := by omega
        subst hii
        cases keep
        · simp at hor
        · simp only [if_true] at hlk hor
          have h7 := hi.1
          simp only at h7
          rcases hor with h8 | ⟨m', h8, h9⟩
          · rw [if_neg (by simp; omega)] at h8; exact h8 rfl
          · cases h8
            obtain ⟨h5, h6⟩ := h9; simp at h5 h6; omega
      · rw [if_neg e2, if_neg e2] at hor
        exact s.sep b m L i hm hL ho x' K' i' e2 hK' hor
    · rw [if_neg e1] at hx
      rw [Ren.set_ne _ _ e1] at hK
      by_cases e2 : x = b
      · subst e2
        rw [if_pos rfl] at hx
        cases keep
        · simp at hx
        · simp at hx; cases hx
          obtain ⟨h5, h6⟩ := hi; simp at h5 h6; omega
      · rw [if_neg e2] at hx
        by_cases e3 : x' = n
        · subst e3
          rw [Ren.set_self] at hK'; cases hK'
          rw [if_pos rfl, if_pos rfl] at hor
          refine s.sep x mx K i hx hK hi b L i' (fun e => e2 e.symm) hL ?_
          rcases hor with h5 | ⟨m', h5, h6⟩
          · left
            have hi' := getD_none_lt h5
            rcases hcs i' hi' with h7 | h7
            · rw [h7]; exact h5
            · exact absurd h7 h5
          · cases h5
            exact .inr ⟨m, hm, hown i' h6.1 (by simpa using h6.2)⟩
        · rw [Ren.set_ne _ _ e3] at hK'
          rw [if_neg e3, if_neg e3] at hor
          refine s.sep x mx K i hx hK hi x' K' i' hne hK' ?_
          by_cases e4 : x' = b
          · subst e4
            rw [if_pos rfl, if_pos rfl] at hor
            rcases hor with h5 | ⟨m', h5, h6⟩
            · left
              by_cases e5 : (keep && decide (i' < m.size)) = true
              · rw [if_pos e5] at h5; exact h5
              · rw [if_neg e5] at h5; exact absurd rfl h5
            · cases keep
              · simp at h5
              · simp at h5; cases h5
                obtain ⟨h5, h6⟩ := h6; simp at h5 h6; omega
          · rw [if_neg e4, if_neg e4] at hor
            exact hor

end Go.Abs
