/- Objects that are no rows of cells (loops over functions, maps, iterators), and the blocks of deferred calls: how the abstract heap tells of them. -/
import Derived.Test.YtchfnjfmlhacfaaAbsMem
import Derived.RangeFuncRecord
namespace Go.Abs
open Go.RowKit

section
variable {w0 : Base} {w : World} {ρ : Ren} {h : AH}

theorem cell?_putObj {l : Nat} {c o : Obj} (hl : w.heap[l]? = some c) (hc : ∀ x e f, c ≠ .cells x e f) {a : Addr} {v : Value} (h : w.cell? a = some v) :
    (w.putObj l o).cell? a = some v ∧ (w.putObj l o).frozen? a = w.frozen? a := by
  have hne : a.block ≠ l := by
    intro e
    unfold World.cell? at h
    rw [e, hl] at h
    cases c with
    | cells x e f => exact absurd rfl (hc x e f)
    | _ => cases h
  exact ⟨(World.cell?_of_block (World.putObj_heap_other hne)).trans h, World.frozen?_of_block (World.putObj_heap_other hne)⟩
theorem below_putObj {B : Nat} {a : World} (h : Below B a w) {l : Nat} (hl : B ≤ l) (o : Obj) : Below B a (w.putObj l o) :=
  ⟨h.os, h.tape, h.output, by rw [World.putObj_size]; exact h.size, fun k hk => by rw [World.putObj_heap_other (by omega)]; exact h.block k hk⟩

/-- What is told of an object. -/
abbrev AObj.m (o : AObj) : Meta := ⟨0, 0, .obj o, 0⟩
/-- Object b is, or becomes, o. -/
@[irreducible] def Dl.obj (b : Nat) (o : AObj) : Dl := ⟨fun x => if x = b then some (some o.m) else none, fun _ _ => none⟩
theorem own_obj {o : AObj} {L : Loc} {i : Nat} (h : Own o.m L i) : False := by
  obtain ⟨h1, h2⟩ := h
  simp [AObj.m, Tail.isExt] at h2
theorem obj_info {b : Nat} {o : AObj} (x : Nat) : (h.app (.obj b o)).info x = if x = b then some o.m else h.info x := by
  by_cases e : x = b <;> simp [AH.app, Dl.obj, e]
theorem obj_cell {b : Nat} {o : AObj} (x i : Nat) : (h.app (.obj b o)).cell x i = h.cell x i := by simp [AH.app, Dl.obj]

/-- A new object. -/
theorem Sim.newObj (s : Sim w0 ρ h w) {n : Nat} (hn : ρ n = none) {o : AObj} {c : Obj} (hc : ORel (ρ.set n ⟨w.heap.size, 0, 0, 0⟩) o c) :
    Sim w0 (ρ.set n ⟨w.heap.size, 0, 0, 0⟩) (h.app (.obj n o)) (w.alloc c) := by
  have s1 := (s.alloc c).grow' (Ren.le_set hn ⟨w.heap.size, 0, 0, 0⟩) (Ren.set_fin s.fin _ _)
  have hnamed := s.named n hn
  have hlt : ∀ b m o, h.info b = some m → m.tail = .obj o → b ≠ n ∧ ∃ L, ρ b = some L ∧ L.blk < w.heap.size := by
    intro b m o hb ho
    obtain ⟨L, c, h1, _, _, h4, _⟩ := s.obj b m o hb ho
    exact ⟨(fun e => by subst e; rw [hn] at h1; cases h1), L, h1, (Array.getElem?_eq_some_iff.1 h4).1⟩
  refine ⟨s1.base, s1.keep, s1.fin, ?_, ?_, ?_, ?_, ?_⟩
  · intro b m hb
    rw [obj_info] at hb
    by_cases e : b = n
    · subst e
      rw [if_pos rfl] at hb; cases hb
      exact ⟨_, Ren.set_self _ _ _, rfl, Nat.le_refl _, Nat.le_refl _, fun i hi => (own_obj hi).elim⟩
    · rw [if_neg e] at hb; exact s1.info b m hb
  · intro b i hb
    rw [obj_cell] at hb ⊢
    exact s1.cell b i hb
  · intro b m L i hm hL hi b' L' i' hne hL' hor
    rw [obj_info] at hm
    by_cases e : b = n
    · rw [if_pos e] at hm; cases hm; exact (own_obj hi).elim
    · rw [if_neg e] at hm
      refine s1.sep b m L i hm hL hi b' L' i' hne hL' ?_
      rw [obj_cell, obj_info] at hor
      rcases hor with k | ⟨m', k1, k2⟩
      · exact .inl k
      · by_cases e' : b' = n
        · rw [if_pos e'] at k1; cases k1; exact (own_obj k2).elim
        · rw [if_neg e'] at k1; exact .inr ⟨m', k1, k2⟩
  · intro b m o' hb ho
    rw [obj_info] at hb
    by_cases e : b = n
    · subst e
      rw [if_pos rfl] at hb; cases hb; cases ho
      exact ⟨_, c, Ren.set_self _ _ _, rfl, s.base.size, World.alloc_heap_new _ _, hc⟩
    · rw [if_neg e] at hb; exact s1.obj b m o' hb ho
  · intro b m o1 b' m' o2 L L' hb ho hb' ho' hL hL' he
    rw [obj_info] at hb hb'
    by_cases e : b = n
    · by_cases e' : b' = n
      · rw [e, e']
      · rw [if_neg e'] at hb'
        obtain ⟨_, K, k1, k2⟩ := hlt b' m' o2 hb' ho'
        rw [Ren.set_ne _ _ e'] at hL'
        rw [hL'] at k1; cases k1
        subst e; rw [Ren.set_self] at hL; cases hL
        simp only at he; omega
    · rw [if_neg e] at hb
      obtain ⟨_, K, k1, k2⟩ := hlt b m o1 hb ho
      by_cases e' : b' = n
      · rw [Ren.set_ne _ _ e] at hL
        rw [hL] at k1; cases k1
        subst e'; rw [Ren.set_self] at hL'; cases hL'
        simp only at he; omega
      · rw [if_neg e'] at hb'
        exact s1.osep b m o1 b' m' o2 L L' hb ho hb' ho' hL hL' he

/-- An object changes. -/
theorem Sim.putObj (s : Sim w0 ρ h w) {b : Nat} {o o2 : AObj} {L : Loc} {c c2 : Obj} (hm : h.info b = some o.m) (hL : ρ b = some L) (hc : w.heap[L.blk]? = some c) (hr : ORel ρ o c) (hr2 : ORel ρ o2 c2)
    (hk : ∀ r, c = .loop r → ∃ r2, c2 = .loop r2) : Sim w0 ρ (h.app (.obj b o2)) (w.putObj L.blk c2) := by
  obtain ⟨L', c', k1, k2, k3, k4, k5⟩ := s.obj b _ o hm rfl
  rw [hL] at k1; cases k1
  rw [hc] at k4; cases k4
  have hnc := hr.cells
  have hlt : L.blk < w.heap.size := (Array.getElem?_eq_some_iff.1 hc).1
  refine ⟨below_putObj s.base k3 c2, ⟨s.keep.nodup, fun r q => ?_, fun l q => ?_⟩, s.fin, ?_, ?_, ?_, ?_, ?_⟩
  · obtain ⟨q1, q2⟩ := s.keep.marks r q
    refine ⟨q1, ?_⟩
    by_cases e : r = L.blk
    · subst e; rw [hc] at q2; cases q2; cases hr
    · rw [World.putObj_heap_other e]; exact q2
  · obtain ⟨r, q1⟩ := s.keep.rounds l q
    by_cases e : l = L.blk
    · subst e; rw [hc] at q1; cases q1
      obtain ⟨r2, e2⟩ := hk r rfl
      exact ⟨r2, by rw [World.putObj_heap_same hlt, e2]⟩
    · exact ⟨r, by rw [World.putObj_heap_other e]; exact q1⟩
  · intro x mx hx
    rw [obj_info] at hx
    by_cases e : x = b
    · subst e
      rw [if_pos rfl] at hx; cases hx
      obtain ⟨K, q1, q2, q3, q4, _⟩ := s.info x _ hm
      exact ⟨K, q1, q2, q3, q4, fun i hi => (own_obj hi).elim⟩
    · rw [if_neg e] at hx
      obtain ⟨K, q1, q2, q3, q4, q5⟩ := s.info x mx hx
      refine ⟨K, q1, q2, q3, q4, fun i hi => ?_⟩
      obtain ⟨p1, ⟨v, p2⟩, p3⟩ := q5 i hi
      have := cell?_putObj (o := c2) hc hnc p2
      exact ⟨p1, ⟨v, this.1⟩, this.2.trans p3⟩
  · intro x i hx
    rw [obj_cell] at hx ⊢
    obtain ⟨K, v, q1, q2, q3⟩ := s.cell x i hx
    exact ⟨K, v, q1, (cell?_putObj (o := c2) hc hnc q2).1, q3⟩
  · intro x mx K i hx hK hi x' K' i' hne hK' hor
    rw [obj_info] at hx
    by_cases e : x = b
    · rw [if_pos e] at hx; cases hx; exact (own_obj hi).elim
    · rw [if_neg e] at hx
      refine s.sep x mx K i hx hK hi x' K' i' hne hK' ?_
      rw [obj_cell, obj_info] at hor
      rcases hor with k | ⟨m', q1, q2⟩
      · exact .inl k
      · by_cases e' : x' = b
        · rw [if_pos e'] at q1; cases q1; exact (own_obj q2).elim
        · rw [if_neg e'] at q1; exact .inr ⟨m', q1, q2⟩
  · intro x mx ox hx ho
    rw [obj_info] at hx
    by_cases e : x = b
    · subst e
      rw [if_pos rfl] at hx; cases hx; cases ho
      exact ⟨L, c2, hL, k2, k3, World.putObj_heap_same hlt, hr2⟩
    · rw [if_neg e] at hx
      obtain ⟨K, cx, q1, q2, q3, q4, q5⟩ := s.obj x mx ox hx ho
      refine ⟨K, cx, q1, q2, q3, ?_, q5⟩
      rw [World.putObj_heap_other]
      · exact q4
      · exact fun he => e (s.osep x mx ox b _ o K L hx ho hm rfl q1 hL he)
  · intro x mx o1 x' mx' o1' K K' hx ho hx' ho' hK hK' he
    have key : ∀ y my oy, (h.app (.obj b o2)).info y = some my → my.tail = .obj oy → ∃ my' oy', h.info y = some my' ∧ my'.tail = .obj oy' := by
      intro y my oy hy hoy
      rw [obj_info] at hy
      by_cases e : y = b
      · subst e; exact ⟨_, _, hm, rfl⟩
      · rw [if_neg e] at hy; exact ⟨my, oy, hy, hoy⟩
    obtain ⟨m1, p1, q1, q2⟩ := key x mx o1 hx ho
    obtain ⟨m2, p2, q3, q4⟩ := key x' mx' o1' hx' ho'
    exact s.osep x m1 p1 x' m2 p2 K K' q1 q2 q3 q4 hK hK' he

def Base.keep (w0 : Base) (ms : List Nat) : Base := { w0 with marks := ms ++ w0.marks }
def Base.round (w0 : Base) (l : Nat) : Base := { w0 with rounds := l :: w0.rounds }
theorem Base.keep_keep (w0 : Base) (ms ms' : List Nat) : (w0.keep ms).keep ms' = w0.keep (ms' ++ ms) := by simp [Base.keep]
theorem Base.keep_nil (w0 : Base) : w0.keep [] = w0 := rfl

theorem Sim.rebase {w1 : Base} (s : Sim w0 ρ h w) (hw : w1.w = w0.w) (hk : Keeps w1 w) : Sim w1 ρ h w :=
  ⟨by rw [hw]; exact s.base, hk, s.fin, by rw [hw]; exact s.info, s.cell, s.sep, by rw [hw]; exact s.obj, s.osep⟩
/-- Less is kept. -/
theorem Sim.unkeep {ms : List Nat} (s : Sim (w0.keep ms) ρ h w) : Sim w0 ρ h w :=
  s.rebase rfl ⟨(List.nodup_append.1 s.keep.nodup).2.1, fun r hr => s.keep.marks r (List.mem_append_right _ hr), s.keep.rounds⟩
theorem Sim.unround {l : Nat} (s : Sim (w0.round l) ρ h w) : Sim w0 ρ h w :=
  s.rebase rfl ⟨s.keep.nodup, s.keep.marks, fun r hr => s.keep.rounds r (List.mem_cons_of_mem _ hr)⟩
theorem Base.round_keep (w0 : Base) (ms : List Nat) (l : Nat) : (w0.round l).keep ms = (w0.keep ms).round l := rfl
/-- More is kept. -/
theorem Sim.round {l : Nat} {r : Loop} (s : Sim w0 ρ h w) (hl : w.heap[l]? = some (.loop r)) : Sim (w0.round l) ρ h w :=
  s.rebase rfl ⟨s.keep.nodup, s.keep.marks, fun x hx => by
    rcases List.mem_cons.1 hx with rfl | hx
    · exact ⟨r, hl⟩
    · exact s.keep.rounds x hx⟩
/-- A new block for deferred calls. -/
theorem Sim.mark (s : Sim w0 ρ h w) : Sim (w0.keep [w.heap.size]) ρ h (w.alloc (.deferred (some []))) := by
  have s1 := s.alloc (.deferred (some []))
  refine s1.rebase rfl ⟨?_, fun r hr => ?_, s1.keep.rounds⟩
  · show (w.heap.size :: w0.marks).Nodup
    refine List.nodup_cons.2 ⟨fun hm => ?_, s.keep.nodup⟩
    have := (Array.getElem?_eq_some_iff.1 (s.keep.marks _ hm).2).1
    omega
  · rcases List.mem_cons.1 (show r ∈ w.heap.size :: w0.marks from hr) with rfl | hr
    · exact ⟨s.base.size, World.alloc_heap_new _ _⟩
    · exact s1.keep.marks r hr
/-- It is come to. -/
theorem Sim.taken {P : Program} {r : Nat} {ms : List Nat} (s : Sim (w0.keep (r :: ms)) ρ h w) : ∃ w', (Instr.takeDeferred r).run P w = .ok [] w' ∧ Sim (w0.keep ms) ρ h w' := by
  have hmem : r ∈ (w0.keep (r :: ms)).marks := List.mem_cons_self
  obtain ⟨q1, q2⟩ := s.keep.marks r hmem
  have hnd : (r :: (ms ++ w0.marks)).Nodup := s.keep.nodup
  obtain ⟨hn1, hn2⟩ := List.nodup_cons.1 hnd
  have hnc : ∀ x e f, Obj.deferred (some []) ≠ .cells x e f := fun _ _ _ e => by cases e
  refine ⟨_, run_takeDeferred q2, ⟨below_putObj s.base q1 _, ⟨hn2, fun x hx => ?_, fun l hl => ?_⟩, s.fin, ?_, ?_, s.sep, ?_, s.osep⟩⟩
  · obtain ⟨p1, p2⟩ := s.keep.marks x (List.mem_cons_of_mem _ hx)
    refine ⟨p1, ?_⟩
    rw [World.putObj_heap_other (fun e => hn1 (by subst e; exact hx))]; exact p2
  · obtain ⟨l', p⟩ := s.keep.rounds l hl
    exact ⟨l', by rw [World.putObj_heap_other (fun e => by subst e; rw [q2] at p; cases p)]; exact p⟩
  · intro x mx hx
    obtain ⟨K, k1, k2, k3, k4, k5⟩ := s.info x mx hx
    refine ⟨K, k1, k2, k3, k4, fun i hi => ?_⟩
    obtain ⟨p1, ⟨v, p2⟩, p3⟩ := k5 i hi
    have := cell?_putObj (o := .deferred none) q2 hnc p2
    exact ⟨p1, ⟨v, this.1⟩, this.2.trans p3⟩
  · intro x i hx
    obtain ⟨K, v, k1, k2, k3⟩ := s.cell x i hx
    exact ⟨K, v, k1, (cell?_putObj (o := .deferred none) q2 hnc k2).1, k3⟩
  · intro x mx o hx ho
    obtain ⟨K, c, k1, k2, k3, k4, k5⟩ := s.obj x mx o hx ho
    exact ⟨K, c, k1, k2, k3, by rw [World.putObj_heap_other (fun e => by rw [e, q2] at k4; cases k4; cases k5)]; exact k4, k5⟩
end
end Go.Abs
