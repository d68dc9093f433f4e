/- append over the abstract heap: the operation. -/
import Derived.Test.YtchfnjfmlhacfaaAbsApp
namespace Go.Abs
open Go.RowKit

theorem Sim.drew {w0 : Base} {w : World} {ρ : Ren} {h : AH} (s : Sim w0 ρ h w) : Sim w0 ρ h w.drew := s.drawn _

section
variable {P : Program} {T : Nat → Prop} {env : Env} {n : Nat} {g : AH}
variable {dst : Option Tmp} {ty : TypeId} {pos : String} {after : Array Edge} {gd : Option (Nat × Bool)}

theorem op_appendNil {t t2 e : TypeId} {x y : Operand} {d d2 : TypeDesc} {z by_ k : Nat} {zv : Value} {xs : List Value} (hu : P.underlying t = some (.slice e)) (hz : TI P e d z by_ zv) (hz0 : z ≠ 0) (hzz : zv.cells.size = z)
    (hb0 : by_ ≠ 0) (ht2 : P.underlying t2 = some d2) (hd2 : notIntD d2 = true) (hx : ev env x = .slice none 0 0) (hy : Src g z (ev env y) k xs) (hfl : full (ev env y) k)
    (hk0 : k ≠ 0) (hbig : k * by_ ≤ 140737488355328) :
    OpEv P T ⟨dst, .call { callee := .builtin .append, args := #[x, y], argTypes := #[t, t2] }, ty, pos, after, gd⟩ env n g (.slice (some ⟨n, 0, none⟩) k k) (n + 1) (.new n ⟨xs.length, 0, true, z⟩ xs) :=
  op_new fun w0 ρ w H ce hl hs hop => by
    have h1 := hop x (by simp [Op.operands, Call.operands])
    have h2 := hop y (by simp [Op.operands, Call.operands])
    rw [hx] at h1
    have hcx : ce x = .slice none 0 0 := by generalize ce x = q at h1; cases h1; rfl
    obtain ⟨cs, k1, k2, k3⟩ := hy.run (P := P) hl hs.drew h2 hz0
    have hlen := hy.len (P := P) h2 w hfl
    obtain ⟨N, hN, hrun⟩ := append_grow (P := P) (ty := ty) hu hz ht2 hd2 (A := none) (m := 0) (C := 0) (k := k) (y := ce y) (olds := []) (cs := cs) (w := w) (by omega) hb0 (by simpa using hbig) hlen
      (fun w1 e => by subst e; exact k3) (fun w1 e => by simp [Builtin.firstCells])
    have hxl := hy.length
    refine ⟨w.drew, #[] ++ cs.toArray ++ Builtin.zeroCells zv.cells (N - (0 + k)), e, .slice (some ⟨w.heap.size, 0, none⟩) (0 + k) N, hs.drew, ?_, fun i hi => ?_, ?_, ?_⟩
    · simp [k1, hxl]
    · have hi' : i < k * z := by omega
      have := k2 i hi'
      have e : (#[] ++ cs.toArray ++ Builtin.zeroCells zv.cells (N - (0 + k))).getD i (.tuple #[]) = cs.getD i (.tuple #[]) := by
        simp [Array.getD_eq_getD_getElem?, List.getD, Array.getElem?_append, k1, hi']
      rw [e]; exact this
    · simp [execOp, resolve, invoke, builtin, hcx, hrun]
    · rw [Nat.zero_add]
      refine .slice (L := ⟨w.drew.heap.size, 0, _, z⟩) N (Ren.set_self _ _ _) (by omega) fun _ => ?_
      have hsz : (#[] ++ cs.toArray ++ Builtin.zeroCells zv.cells (N - k)).size = k * z + (N - k) * z := by simp [Builtin.zeroCells, k1, hzz]
      show 0 + N * z ≤ (#[] ++ cs.toArray ++ Builtin.zeroCells zv.cells (N - k)).size
      have : k * z + (N - k) * z = N * z := by rw [← Nat.add_mul]; congr 1; omega
      omega

theorem within_takeover {T : Nat → Prop} {b n : Nat} {keep : Bool} {sz lk ez : Nat} {cs : List Value} (hT : T b ∨ n ≤ b) (hb : b < n) : Within T n (n + 1) (.takeover b n keep sz lk ez cs) := by
  intro x hx
  have : x = n ∨ x = b := by
    rcases hx with h | ⟨i, h⟩
    · simp only [Dl.takeover] at h
      split at h
      · left; assumption
      · split at h
        · right; assumption
        · exact absurd rfl h
    · simp only [Dl.takeover] at h
      split at h
      · left; assumption
      · split at h
        · right; assumption
        · exact absurd rfl h
  rcases this with rfl | rfl
  · exact ⟨.inr (Nat.le_refl _), Nat.lt_succ_self _⟩
  · exact ⟨hT, by omega⟩

theorem op_append {t t2 e : TypeId} {x y : Operand} {d d2 : TypeDesc} {z by_ k b m : Nat} {zv : Value} {xs : List Value} {mm : Meta} (keep : Bool) (hu : P.underlying t = some (.slice e)) (hz : TI P e d z by_ zv) (hz0 : z ≠ 0) (hzz : zv.cells.size = z)
    (hb0 : by_ ≠ 0) (ht2 : P.underlying t2 = some d2) (hd2 : notIntD d2 = true) (hx : ev env x = .slice (some ⟨b, 0, none⟩) m m) (hy : Src g z (ev env y) k xs) (hfl : full (ev env y) k)
    (hi : g.info b = some mm) (hms : mm.size = m * z) (hmt : mm.tail = true) (hmz : mm.sz = z) (hkn : known (rd g b 0 (m * z)) = true) (hT : T b ∨ n ≤ b) (hbn : b < n)
    (hk0 : k ≠ 0) (hbig : (m + k) * by_ ≤ 140737488355328) :
    OpEv P T ⟨dst, .call { callee := .builtin .append, args := #[x, y], argTypes := #[t, t2] }, ty, pos, after, gd⟩ env n g (.slice (some ⟨n, 0, none⟩) (m + k) (m + k)) (n + 1)
      (.takeover b n keep mm.size (if keep then mm.size else mm.lock) z (rd g b 0 (m * z) ++ xs)) where
  le := Nat.le_succ _
  within := within_takeover hT hbn
  run := fun rq w0 ρ w H a next Q hl hf hs hop K => by
    have hn := hf n (Nat.le_refl _) (Nat.lt_succ_self _)
    have h1 := hop x (by simp [Op.operands, Call.operands])
    have h2 := hop y (by simp [Op.operands, Call.operands])
    rw [hx] at h1
    have hI := hl.info b mm hi
    have hxl := hy.length
    have hcl : (rd g b 0 (m * z) ++ xs).length = (m + k) * z := by rw [List.length_append, rd_length, hxl, Nat.add_mul]
    have hlen := hy.len (P := P) h2 w hfl
    obtain ⟨L, hL, hLz, hLe, hlk, hown⟩ := hs.info b mm hI
    -- what grows
    have grow : ∀ (A : Option Addr) (C : Nat), C < m + k → a.eval x = .slice A m C → (∃ olds : List Value, olds.length = m * z ∧ (∀ i, i < m * z → VRel ρ ((rd g b 0 (m * z)).getD i (.tuple #[])) (olds.getD i (.tuple #[]))) ∧
        (Builtin.firstCells z m (.slice A m C)).run P w.drew = .ok olds.toArray w.drew) → (Oper.wpIn (FW rq) 0 P ⟨dst, .call { callee := .builtin .append, args := #[x, y], argTypes := #[t, t2] }, ty, pos, after, gd⟩ a w next Q) := by
      intro A C hC hcx ⟨olds, o1, o2, o3⟩
      obtain ⟨cs, k1, k2, k3⟩ := hy.run (P := P) hl hs.drew h2 hz0
      obtain ⟨N, hN, hrun⟩ := append_grow (P := P) (ty := ty) hu hz ht2 hd2 (A := A) (m := m) (C := C) (k := k) (y := a.eval y) (olds := olds) (cs := cs) (w := w) hC hb0 hbig hlen
        (fun w1 e => by subst e; exact k3) (fun w1 e => by subst e; exact o3)
      have hrel : ∀ i, i < (rd g b 0 (m * z) ++ xs).length → VRel ρ ((rd g b 0 (m * z) ++ xs).getD i (.tuple #[])) ((olds.toArray ++ cs.toArray ++ Builtin.zeroCells zv.cells (N - (m + k))).getD i (.tuple #[])) := by
        intro i hi'
        rw [hcl] at hi'
        have e2 : (olds.toArray ++ cs.toArray ++ Builtin.zeroCells zv.cells (N - (m + k))).getD i (.tuple #[]) = (olds ++ cs).getD i (.tuple #[]) := by
          have : i < (olds ++ cs).length := by rw [List.length_append, o1, k1, ← Nat.add_mul]; exact hi'
          have h3 : i < (olds.toArray ++ cs.toArray).size := by simpa using this
          rw [Array.getD_eq_getD_getElem?, Array.getElem?_append_left h3]
          simp [List.getD]
        rw [e2]
        by_cases hlt : i < m * z
        · have := o2 i hlt
          rw [List.getD, List.getD, List.getElem?_append_left (by rw [rd_length]; exact hlt), List.getElem?_append_left (by rw [o1]; exact hlt)]
          exact this
        · have hj : i - m * z < k * z := by rw [Nat.add_mul] at hi'; omega
          have := k2 (i - m * z) hj
          rw [List.getD, List.getD, List.getElem?_append_right (by rw [rd_length]; omega), List.getElem?_append_right (by rw [o1]; omega), rd_length, o1]
          exact this
      have hcsz : (olds.toArray ++ cs.toArray ++ Builtin.zeroCells zv.cells (N - (m + k))).size = N * z := by
        simp only [Array.size_append, List.size_toArray, o1, k1, Builtin.zeroCells, Array.size_map, Array.size_range, hzz]
        rw [← Nat.add_mul, ← Nat.add_mul]; congr 1; omega
      have hs1 := hs.drew.new hn (rd g b 0 (m * z) ++ xs) _ e z (by rw [hcl, hcsz]; exact Nat.mul_le_mul_right _ hN) hrel
      -- the old block gives up
      have hs2 : Sim w0 (ρ.set n ⟨w.heap.size, 0, (olds.toArray ++ cs.toArray ++ Builtin.zeroCells zv.cells (N - (m + k))).size, z⟩)
          (H.app (.takeover b n keep mm.size (if keep then mm.size else mm.lock) z (rd g b 0 (m * z) ++ xs))) (w.drew.alloc (.cells (olds.toArray ++ cs.toArray ++ Builtin.zeroCells zv.cells (N - (m + k))) e)) := by
        have hbn' : b ≠ n := by omega
        refine hs1.shrink ?_ ?_ ?_
        · intro q mq hq
          by_cases e1 : q = n
          · subst e1
            simp only [AH.app, Dl.takeover, Dl.new, if_true, Option.getD_some, Option.some.injEq] at hq ⊢
            subst hq
            refine ⟨_, rfl, rfl, Nat.le_refl _, ?_, fun K i _ ho => ⟨Nat.zero_le _, by simpa using ho.2⟩⟩
            simp only [hcl]
            have : m * z ≤ (m + k) * z := Nat.mul_le_mul_right _ (by omega)
            cases keep <;> simp <;> omega
          · by_cases e2 : q = b
            · subst e2
              simp only [AH.app, Dl.takeover, Dl.new, if_neg e1, if_true, Option.getD_some, Option.getD_none] at hq ⊢
              cases keep
              · simp at hq
              · simp at hq; subst hq
                exact ⟨mm, hI, hmz.symm, Nat.le_refl _, Nat.le_refl _, fun K i _ ho => by
                  obtain ⟨p1, p2⟩ := ho
                  simp only [Tail.isExt_of, Bool.false_eq_true, if_false] at p1 p2; omega⟩
            · simp only [AH.app, Dl.takeover, Dl.new, if_neg e1, if_neg e2, Option.getD_none] at hq ⊢
              have hqs := hs.info q mq hq
              obtain ⟨Lq, _, _, _, q4, _⟩ := hqs
              exact ⟨mq, hq, rfl, Nat.le_refl _, q4, fun K i _ ho => ho⟩
        · intro q mq o hq ho
          by_cases e1 : q = n
          · subst e1
            simp only [AH.app, Dl.takeover, Dl.new, if_true, Option.getD_some, Option.some.injEq] at hq
            subst hq; cases ho
          · by_cases e2 : q = b
            · subst e2
              simp only [AH.app, Dl.takeover, Dl.new, if_neg e1, if_true, Option.getD_some, Option.getD_none] at hq
              cases keep
              · simp at hq
              · simp at hq; subst hq; cases ho
            · simp only [AH.app, Dl.takeover, Dl.new, if_neg e1, if_neg e2, Option.getD_none] at hq ⊢
              exact hq
        · intro q i
          by_cases e1 : q = n
          · subst e1; right; simp [AH.app, Dl.takeover, Dl.new]
          · by_cases e2 : q = b
            · subst e2
              by_cases e3 : (keep && decide (i < mm.size)) = true
              · right; simp only [AH.app, Dl.takeover, Dl.new, if_neg e1, if_true]; rw [if_pos e3]
              · left; simp only [AH.app, Dl.takeover, Dl.new, if_neg e1, if_true]; rw [if_neg e3]; rfl
            · right; simp [AH.app, Dl.takeover, Dl.new, e1, e2]
      have hexec : (execOp a.eval ⟨dst, .call { callee := .builtin .append, args := #[x, y], argTypes := #[t, t2] }, ty, pos, after, gd⟩).run P w =
          .ok (.value (.slice (some ⟨w.heap.size, 0, none⟩) (m + k) N)) (w.drew.alloc (.cells (olds.toArray ++ cs.toArray ++ Builtin.zeroCells zv.cells (N - (m + k))) e)) := by
        simp [execOp, resolve, invoke, builtin, hcx, hrun]
      refine wpA_value hexec ?_
      refine K _ _ _ (.one hn _) (.slice N (Ren.set_self _ _ _) hN fun _ => ?_) hs2
      simp only [hcsz]; omega
    generalize hcx : a.eval x = q at h1
    cases h1 with
    | @slice _ _ _ L' C hL' hmC hcc =>
      rw [hL] at hL'; cases hL'
      by_cases hfit : m + k ≤ C
      · -- it fits: the slack is taken
        obtain ⟨cs, k1, k2, k3⟩ := hy.run (P := P) hl hs h2 hz0
        have hCe : 0 + C * z ≤ L.ext := by have := hcc (by omega); rw [hLz, hmz] at this; exact this
        have hfz : (m + k) * z ≤ C * z := Nat.mul_le_mul_right _ hfit
        obtain ⟨e1, e2⟩ := hs.storeCells (P := P) (o := m * z) hI hL xs cs (by omega) (fun j hj => ⟨by omega, by rw [hmt, if_pos (Tail.isExt_of _)]; rw [Nat.add_mul] at hfz; omega⟩)
          (fun j hj => k2 j (by omega)) hy.known
        have hrun := append_fit (P := P) (ty := ty) hu hz ht2 hd2 (a := ⟨L.blk, L.off + 0, none⟩) hfit hlen k3 (w' := w.setCells L.blk (L.off + m * z) cs) (by rw [addr_add, Nat.add_zero]; exact e1)
        have hexec : (execOp a.eval ⟨dst, .call { callee := .builtin .append, args := #[x, y], argTypes := #[t, t2] }, ty, pos, after, gd⟩).run P w =
            .ok (.value (.slice (some ⟨L.blk, L.off + 0, none⟩) (m + k) C)) (w.setCells L.blk (L.off + m * z) cs) := by
          simp only [Nat.add_zero] at hrun
          simp [execOp, resolve, invoke, builtin, hcx, hrun]
        have hs2 := e2.takeover (b := b) (n := n) (m := mm) (L := L) (by rw [sets_info]; exact hI) hL hmt hn keep (rd g b 0 (m * z) ++ xs) (if keep then mm.size else mm.lock) rfl (by rw [hcl, hms]; exact Nat.mul_le_mul_right _ (by omega)) (by rw [hcl]; omega)
          (fun i hi' => by
            rw [hcl] at hi'
            by_cases hlt : i < m * z
            · have e3 : (rd g b 0 (m * z) ++ xs).getD i (.tuple #[]) = g.cell b i := by
                rw [List.getD, List.getElem?_append_left (by rw [rd_length]; exact hlt)]
                have := rd_getD g b (m * z) 0 i hlt
                rw [Nat.zero_add] at this; exact this
              rw [e3]
              have e4 : (H.app (.sets b (m * z) xs)).cell b i = H.cell b i := by
                simp only [AH.app, Dl.sets]; rw [if_neg (by omega)]; rfl
              rw [e4]
              rcases hl.cell b i with h5 | h5
              · exact .inr h5
              · exact .inl h5
            · left
              have e3 : (rd g b 0 (m * z) ++ xs).getD i (.tuple #[]) = xs.getD (i - m * z) (.tuple #[]) := by
                rw [List.getD, List.getElem?_append_right (by rw [rd_length]; omega), rd_length]; rfl
              rw [e3]
              simp only [AH.app, Dl.sets]
              rw [if_pos (by refine ⟨by trivial, by omega, ?_⟩; rw [hxl]; rw [Nat.add_mul] at hi'; omega)]; rfl)
        rw [hmz, ← AH.app_comp] at hs2
        have hd : (Dl.sets b (m * z) xs).comp (.takeover b n keep mm.size (if keep then mm.size else mm.lock) z (rd g b 0 (m * z) ++ xs)) =
            .takeover b n keep mm.size (if keep then mm.size else mm.lock) z (rd g b 0 (m * z) ++ xs) := by
          simp only [Dl.comp, Dl.takeover, Dl.sets, Dl.mk.injEq]
          constructor
          · funext q; simp
          · funext q i
            by_cases e1 : q = n
            · simp [e1]
            · by_cases e2 : q = b
              · subst e2
                by_cases e3 : (keep && decide (i < mm.size)) = true
                · have : ¬ (m * z ≤ i ∧ i < m * z + xs.length) := by simp at e3; omega
                  simp only [if_neg e1, if_true, true_and]
                  rw [if_pos e3, if_neg this]; rfl
                · simp only [if_neg e1, if_true]
                  rw [if_neg e3]; rfl
              · simp [e1, e2]
        rw [hd] at hs2
        refine wpA_value hexec ?_
        refine K _ _ _ (.one hn L) ?_ hs2
        exact .slice (L := L) C (Ren.set_self _ _ _) hfit (fun _ => by rw [hLz, hmz]; exact hCe)
      · exact grow _ C (by omega) hcx (by
          obtain ⟨cs, k1, k2, k3⟩ := hs.drew.rd (P := P) (o := 0) hl hL hkn
          exact ⟨cs, k1, fun i hi' => (k2 i hi').2, by simpa [Builtin.firstCells] using k3⟩)
    | slice0 A hL' =>
      exact grow _ 0 (by omega) hcx ⟨[], by simp, fun i hi' => by omega, by simp [Builtin.firstCells, loadCells, loadCellsFrom]⟩

end
end Go.Abs
