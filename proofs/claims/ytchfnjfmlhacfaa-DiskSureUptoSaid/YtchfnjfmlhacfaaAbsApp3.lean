/- append over the abstract heap, whatever is appended: elements, or so many zeros. -/
import Derived.Test.YtchfnjfmlhacfaaAbsApp2
namespace Go.Abs
open Go.RowKit

section
variable {P : Program} {T : Nat → Prop} {env : Env} {n : Nat} {g : AH}
variable {dst : Option Tmp} {ty : TypeId} {pos : String} {after : Array Edge} {gd : Option (Nat × Bool)}

/-- What is appended: k elements of z cells each, the cells xs. -/
structure AppY (P : Program) (t t2 ty e : TypeId) (z by_ : Nat) (zv : Value) (g : AH) (v : Value) (k : Nat) (xs : List Value) : Prop where
  len : xs.length = k * z
  kn : known xs = true
  run : ∀ (w0 : Base) (ρ : Ren) (w : World) (H : AH) (c : Value), g.le H → Sim w0 ρ H w → VRel ρ v c → ∃ cs : List Value, cs.length = k * z ∧ (∀ i, i < k * z → VRel ρ (xs.getD i (.tuple #[])) (cs.getD i (.tuple #[]))) ∧
    (∀ (A : Addr) (m C : Nat) (w' : World), m + k ≤ C → (storeCells (A.add (m * z)) cs).run P w = .ok () w' → (Builtin.append_ #[t, t2] ty #[.slice (some A) m C, c]).run P w = .ok (.slice (some A) (m + k) C) w') ∧
    (∀ (A : Option Addr) (m C : Nat) (olds : List Value), C < m + k → (m + k) * by_ ≤ 140737488355328 → (Builtin.firstCells z m (.slice A m C)).run P w.drew = .ok olds.toArray w.drew →
      ∃ N : Nat, m + k ≤ N ∧ (Builtin.append_ #[t, t2] ty #[.slice A m C, c]).run P w = .ok (.slice (some ⟨w.heap.size, 0, none⟩) (m + k) N) (w.drew.alloc (.cells (olds.toArray ++ cs.toArray ++ Builtin.zeroCells zv.cells (N - (m + k))) e)))

theorem AppY.src {t t2 e : TypeId} {d d2 : TypeDesc} {z by_ k : Nat} {zv v : Value} {xs : List Value} (hu : P.underlying t = some (.slice e)) (hz : TI P e d z by_ zv) (hz0 : z ≠ 0) (hb0 : by_ ≠ 0) (ht2 : P.underlying t2 = some d2) (hd2 : notIntD d2 = true)
    (hy : Src g z v k xs) (hfl : full v k) : AppY P t t2 ty e z by_ zv g v k xs where
  len := hy.length
  kn := hy.known
  run := fun w0 ρ w H c hl hs hv => by
    obtain ⟨cs, k1, k2, k3⟩ := hy.run (P := P) hl hs.drew hv hz0
    have hlen := hy.len (P := P) hv w hfl
    obtain ⟨cs', k1', k2', k3'⟩ := hy.run (P := P) hl hs hv hz0
    have hsame : cs' = cs := by
      have hfc : ∀ (l l' : List Value), (Builtin.firstCells z k c).run P w = .ok l.toArray w → (Builtin.firstCells z k c).run P w.drew = .ok l'.toArray w.drew → l = l' := by
        intro l l' h1 h2
        have : (Builtin.firstCells z k c).run P w.drew = .ok l.toArray w.drew := by
          cases hy with
          | @slice b o m k hk hkn =>
            cases hv with
            | @slice _ _ _ L c' hL hn hc =>
              obtain ⟨q, q1, q2, q3⟩ := hs.rd (P := P) hl hL hkn
              obtain ⟨q', p1, p2, p3⟩ := hs.drew.rd (P := P) hl hL hkn
              have e : q = q' := by
                apply List.ext_getElem (by omega)
                intro i i1 i2
                have a1 := (q2 i (by omega)).1
                have a2 := (p2 i (by omega)).1
                have a3 : some (q.getD i (.tuple #[])) = some (q'.getD i (.tuple #[])) := a1.symm.trans a2
                simpa [List.getD, i1, i2] using a3
              subst e
              have h3 : (Builtin.firstCells z k (.slice (some ⟨L.blk, L.off + o, none⟩) m c')).run P w = .ok q.toArray w := by simpa [Builtin.firstCells] using q3
              rw [h3] at h1
              have e2 : q.toArray = l.toArray := by injection h1
              rw [← e2]
              simpa [Builtin.firstCells] using p3
            | slice0 a hL =>
              have : k = 0 := by omega
              subst this
              have h3 : (Builtin.firstCells z 0 (.slice (some a) 0 0)).run P w = .ok #[] w := by simp [Builtin.firstCells, loadCells, loadCellsFrom]
              rw [h3] at h1
              have e2 : #[] = l.toArray := by injection h1
              rw [← e2]; simp [Builtin.firstCells, loadCells, loadCellsFrom]
          | nil =>
            cases hv
            have h3 : (Builtin.firstCells z 0 (.slice none 0 0)).run P w = .ok #[] w := by simp [Builtin.firstCells]
            rw [h3] at h1
            have e2 : #[] = l.toArray := by injection h1
            rw [← e2]; simp [Builtin.firstCells]
          | @str s k hz1 hk =>
            have := hv.string_inv; subst this
            simp only [Builtin.firstCells, Sem.run_pure] at h1 ⊢
            injection h1 with h1
            rw [h1]
        rw [this] at h2
        injection h2 with h2
        simpa using h2
      exact hfc _ _ k3' k3
    subst hsame
    refine ⟨cs', k1, k2, fun A m C w' hC hst => append_fit (P := P) (ty := ty) hu hz ht2 hd2 hC hlen k3' hst, fun A m C olds hC hbig ho => ?_⟩
    exact append_grow (P := P) (ty := ty) hu hz ht2 hd2 hC hb0 hbig hlen (fun w1 e => by subst e; exact k3) (fun w1 e => by subst e; exact ho)

theorem wrap64' {a : Int} (h1 : 0 ≤ a) (h2 : a ≤ 140737488355328) : IntKind.i64.wrap a = a := by
  simp only [IntKind.wrap, IntKind.signed]; simp [IntKind.bits]; omega
/-- So many zeros. -/
theorem AppY.zeros {t t2 e : TypeId} {d : TypeDesc} {q kk : IntKind} {z by_ : Nat} {zv : Value} {l : Int} (hu : P.underlying t = some (.slice e)) (hz : TI P e d z by_ zv) (hz0 : z ≠ 0) (hb0 : by_ ≠ 0) (hzz : zv.cells.size = z) (hf : zv.cells.all (flat 8) = true)
    (ht2 : P.underlying t2 = some (.int q)) (h0 : 0 ≤ l) (hlim : l.toNat * by_ ≤ 140737488355328) (hkn : known (zrow zv.cells.toList l.toNat) = true) :
    AppY P t t2 ty e z by_ zv g (.int kk l) l.toNat (zrow zv.cells.toList l.toNat) where
  len := by rw [zrow_length, Array.length_toList, hzz]
  kn := hkn
  run := fun w0 ρ w H c hl hs hv => by
    have hc : c = .int kk l := hv.int_inv
    subst hc
    have hr : ∀ w1, (underlying t).run P w1 = .ok (.slice e) w1 := fun w1 => by simp [underlying, hu]
    have hr2 : ∀ w1, (underlying t2).run P w1 = .ok (.int q) w1 := fun w1 => by simp [underlying, ht2]
    obtain ⟨i, hi1, hi2⟩ := hz.info
    have hti : ∀ w1, (typeInfo e).run P w1 = .ok i w1 := fun w1 => by simp [typeInfo, hi1]
    have hib : i.bytes = by_ := hi2.2.1
    have hby : 1 ≤ by_ := Nat.pos_of_ne_zero hb0
    have hl47 : l.toNat ≤ 140737488355328 := Nat.le_trans (Nat.le_mul_of_pos_right _ hby) hlim
    have hwr : IntKind.i64.wrap l = l := wrap64' h0 (by omega)
    have e0 : (#[t, t2] : Array TypeId)[0]? = some t := rfl
    have e1 : (#[t, t2] : Array TypeId)[1]? = some t2 := rfl
    have hmul : l * (by_ : Int) = ((l.toNat * by_ : Nat) : Int) := by rw [Int.natCast_mul, Int.toNat_of_nonneg h0]
    have hlim2 : ¬ (l * (by_ : Int) > 2 ^ 48) := by
      rw [hmul]
      have : (2 : Int) ^ 48 = 281474976710656 := by decide
      omega
    have hcl : (Builtin.zeroCells zv.cells l.toNat).toList.length = l.toNat * z := by simp [Builtin.zeroCells, hzz]
    have happ : ∀ w1, ((if l.toNat * z = 0 then pure #[] else (do pure (Builtin.zeroCells (← zeroValue e).cells l.toNat) : Sem (Array Value))) : Sem (Array Value)).run P w1 = .ok (Builtin.zeroCells zv.cells l.toNat) w1 := by
      intro w1
      by_cases hk : l.toNat * z = 0
      · rw [if_pos hk]
        have : Builtin.zeroCells zv.cells l.toNat = #[] := Array.eq_empty_of_size_eq_zero (by simp [Builtin.zeroCells, hzz, hk])
        rw [this]; rfl
      · rw [if_neg hk]; simp [Sem.run_bind, hz.run_zeroValue, Sem.run_pure]
    refine ⟨(Builtin.zeroCells zv.cells l.toNat).toList, hcl, fun j hj => ?_, fun A m C w' hC hst => ?_, fun A m C olds hC hbig ho => ?_⟩
    · have := zrow_rel (ρ := ρ) hf l.toNat l.toNat (Nat.le_refl _) j (by rw [zrow_length, Array.length_toList, hzz]; exact hj)
      have e9 : (Builtin.zeroCells zv.cells l.toNat).toList.getD j (.tuple #[]) = (Builtin.zeroCells zv.cells l.toNat).getD j (.tuple #[]) := by simp [Array.getD_eq_getD_getElem?, List.getD]
      rw [e9]; exact this
    · have e2 : (#[Value.slice (some A) m C, .int kk l] : Array Value)[0]? = some (.slice (some A) m C) := rfl
      have e3 : (#[Value.slice (some A) m C, .int kk l] : Array Value)[1]? = some (.int kk l) := rfl
      simp only [Builtin.append_, e0, e1, e2, e3]
      simp only [Sem.run_bind, hr, hr2, Result.andThen_ok, hz.run_sizeOf, Sem.run_pure, Sem.run_map, asInt, asIntOf, if_true, hwr, if_neg (Int.not_lt.2 h0), hti, hib, if_neg hlim2]
      simp only [if_pos hC, Sem.run_bind, Bool.not_true, Bool.false_eq_true, if_false, Sem.run_pure, Result.andThen_ok]
      rw [happ w]
      simp only [Result.andThen_ok, hst]
    · obtain e2 : (#[Value.slice A m C, .int kk l] : Array Value)[0]? = some (.slice A m C) := rfl
      have e3 : (#[Value.slice A m C, .int kk l] : Array Value)[1]? = some (.int kk l) := rfl
      have hfits := growslice_fits hC hbig
      refine ⟨m + l.toNat + w.tape w.drawn (.appendCap (m + l.toNat) C e) % (2 ^ 63 - (m + l.toNat)), by omega, ?_⟩
      simp only [Builtin.append_, e0, e1, e2, e3]
      simp only [Sem.run_bind, hr, hr2, Result.andThen_ok, hz.run_sizeOf, Sem.run_pure, Sem.run_map, asInt, asIntOf, if_true, hwr, if_neg (Int.not_lt.2 h0), hti, hib, if_neg hlim2]
      rw [if_neg (by omega)]
      simp only [Sem.run_bind, hti, Result.andThen_ok, hib]
      have hneed : m + l.toNat ≤ 140737488355328 := Nat.le_trans (Nat.le_mul_of_pos_right _ hby) hbig
      have hmax : IntKind.i64.max = 9223372036854775807 := by decide
      rw [if_neg (by rintro ⟨h1, _⟩; rw [hmax] at h1; omega)]
      simp only [Sem.run_bind, hti, Result.andThen_ok, hib]
      rw [if_neg (show ¬ (Builtin.nextslicecap (m + l.toNat) C * by_ > 2 ^ 48) by
        have : (2 : Nat) ^ 48 = 281474976710656 := by decide
        omega)]
      simp only [Sem.run_bind, run_choose, Question.forced, Bool.false_eq_true, if_false, Result.andThen_ok, Question.cut, hti, hib, run_askRoom]
      rw [World.drew_drawn, ho]
      simp only [Result.andThen_ok, Bool.not_true, Bool.false_eq_true, if_false]
      rw [happ w.drew]
      simp only [Result.andThen_ok, hz.run_zeroValue, newRow, Sem.run_bind, run_newObj, Sem.run_pure]
      rfl

theorem op_appendNilY {t t2 e : TypeId} {x y : Operand} {d : TypeDesc} {z by_ k : Nat} {zv : Value} {xs : List Value} (hu : P.underlying t = some (.slice e)) (hz : TI P e d z by_ zv) (hz0 : z ≠ 0) (hzz : zv.cells.size = z)
    (hx : ev env x = .slice none 0 0) (hy : AppY P t t2 ty e z by_ zv g (ev env y) k xs)
    (hk0 : k ≠ 0) (hbig : k * by_ ≤ 140737488355328) :
    OpEv P T ⟨dst, .call { callee := .builtin .append, args := #[x, y], argTypes := #[t, t2] }, ty, pos, after, gd⟩ env n g (.slice (some ⟨n, 0, none⟩) k k) (n + 1) (.new n ⟨xs.length, 0, true, z⟩ xs) :=
  op_new fun w0 ρ w H ce hl hs hop => by
    have h1 := hop x (by simp [Op.operands, Call.operands])
    have h2 := hop y (by simp [Op.operands, Call.operands])
    rw [hx] at h1
    have hcx : ce x = .slice none 0 0 := by generalize ce x = q at h1; cases h1; rfl
    obtain ⟨cs, k1, k2, -, kg⟩ := hy.run w0 ρ w H (ce y) hl hs h2
    obtain ⟨N, hN, hrun⟩ := kg none 0 0 [] (by omega) (by simpa using hbig) (by simp [Builtin.firstCells])
    have hxl := hy.len
    refine ⟨w.drew, #[] ++ cs.toArray ++ Builtin.zeroCells zv.cells (N - (0 + k)), e, .slice (some ⟨w.heap.size, 0, none⟩) (0 + k) N, hs.drew, ?_, fun i hi => ?_, ?_, ?_⟩
    · simp [k1, hxl]
    · have hi' : i < k * z := by omega
      have := k2 i hi'
      have e : (#[] ++ cs.toArray ++ Builtin.zeroCells zv.cells (N - (0 + k))).getD i (.tuple #[]) = cs.getD i (.tuple #[]) := by
        simp [Array.getD_eq_getD_getElem?, List.getD, Array.getElem?_append, k1, hi']
      rw [e]; exact this
    · simp [execOp, resolve, invoke, builtin, hcx, hrun]
    · rw [Nat.zero_add]
      refine .slice (L := ⟨w.drew.heap.size, 0, _, z⟩) N (Ren.set_self _ _ _) (by omega) fun _ => ?_
      have hsz : (#[] ++ cs.toArray ++ Builtin.zeroCells zv.cells (N - k)).size = k * z + (N - k) * z := by simp [Builtin.zeroCells, k1, hzz]
      show 0 + N * z ≤ (#[] ++ cs.toArray ++ Builtin.zeroCells zv.cells (N - k)).size
      have : k * z + (N - k) * z = N * z := by rw [← Nat.add_mul]; congr 1; omega
      omega

theorem op_appendY {t t2 e : TypeId} {x y : Operand} {d : TypeDesc} {z by_ k b m : Nat} {zv : Value} {xs : List Value} {mm : Meta} (keep : Bool) (hu : P.underlying t = some (.slice e)) (hz : TI P e d z by_ zv) (hz0 : z ≠ 0) (hzz : zv.cells.size = z)
    (hx : ev env x = .slice (some ⟨b, 0, none⟩) m m) (hy : AppY P t t2 ty e z by_ zv g (ev env y) k xs)
    (hi : g.info b = some mm) (hms : mm.size = m * z) (hmt : mm.tail = true) (hmz : mm.sz = z) (hkn : known (rd g b 0 (m * z)) = true) (hT : T b ∨ n ≤ b) (hbn : b < n)
    (hk0 : k ≠ 0) (hbig : (m + k) * by_ ≤ 140737488355328) :
    OpEv P T ⟨dst, .call { callee := .builtin .append, args := #[x, y], argTypes := #[t, t2] }, ty, pos, after, gd⟩ env n g (.slice (some ⟨n, 0, none⟩) (m + k) (m + k)) (n + 1)
      (.takeover b n keep mm.size (if keep then mm.size else mm.lock) z (rd g b 0 (m * z) ++ xs)) where
  le := Nat.le_succ _
  within := within_takeover hT hbn
  run := fun rq w0 ρ w H a next Q hl hf hs hop K => by
    have hn := hf n (Nat.le_refl _) (Nat.lt_succ_self _)
    have h1 := hop x (by simp [Op.operands, Call.operands])
    have h2 := hop y (by simp [Op.operands, Call.operands])
    rw [hx] at h1
    have hI := hl.info b mm hi
    have hxl := hy.len
    have hcl : (rd g b 0 (m * z) ++ xs).length = (m + k) * z := by rw [List.length_append, rd_length, hxl, Nat.add_mul]
    obtain ⟨L, hL, hLz, hLe, hlk, hown⟩ := hs.info b mm hI
    -- what grows
    have grow : ∀ (A : Option Addr) (C : Nat), C < m + k → a.eval x = .slice A m C → (∃ olds : List Value, olds.length = m * z ∧ (∀ i, i < m * z → VRel ρ ((rd g b 0 (m * z)).getD i (.tuple #[])) (olds.getD i (.tuple #[]))) ∧
        (Builtin.firstCells z m (.slice A m C)).run P w.drew = .ok olds.toArray w.drew) → (Oper.wpIn (FW rq) 0 P ⟨dst, .call { callee := .builtin .append, args := #[x, y], argTypes := #[t, t2] }, ty, pos, after, gd⟩ a w next Q) := by
      intro A C hC hcx ⟨olds, o1, o2, o3⟩
      obtain ⟨cs, k1, k2, -, kg⟩ := hy.run w0 ρ w H (a.eval y) hl hs h2
      obtain ⟨N, hN, hrun⟩ := kg A m C olds hC hbig o3
      have hrel : ∀ i, i < (rd g b 0 (m * z) ++ xs).length → VRel ρ ((rd g b 0 (m * z) ++ xs).getD i (.tuple #[])) ((olds.toArray ++ cs.toArray ++ Builtin.zeroCells zv.cells (N - (m + k))).getD i (.tuple #[])) := by
        intro i hi'
        rw [hcl] at hi'
        have e2 : (olds.toArray ++ cs.toArray ++ Builtin.zeroCells zv.cells (N - (m + k))).getD i (.tuple #[]) = (olds ++ cs).getD i (.tuple #[]) := by
          have : i < (olds ++ cs).length := by rw [List.length_append, o1, k1, ← Nat.add_mul]; exact hi'
          have h3 : i < (olds.toArray ++ cs.toArray).size := by simpa using this
          rw [Array.getD_eq_getD_getElem?, Array.getElem?_append_left h3]
          simp [List.getD]
        rw [e2]
        by_cases hlt : i < m * z
        · have := o2 i hlt
          rw [List.getD, List.getD, List.getElem?_append_left (by rw [rd_length]; exact hlt), List.getElem?_append_left (by rw [o1]; exact hlt)]
          exact this
        · have hj : i - m * z < k * z := by rw [Nat.add_mul] at hi'; omega
          have := k2 (i - m * z) hj
          rw [List.getD, List.getD, List.getElem?_append_right (by rw [rd_length]; omega), List.getElem?_append_right (by rw [o1]; omega), rd_length, o1]
          exact this
      have hcsz : (olds.toArray ++ cs.toArray ++ Builtin.zeroCells zv.cells (N - (m + k))).size = N * z := by
        simp only [Array.size_append, List.size_toArray, o1, k1, Builtin.zeroCells, Array.size_map, Array.size_range, hzz]
        rw [← Nat.add_mul, ← Nat.add_mul]; congr 1; omega
      have hs1 := hs.drew.new hn (rd g b 0 (m * z) ++ xs) _ e z (by rw [hcl, hcsz]; exact Nat.mul_le_mul_right _ hN) hrel
      -- the old block gives up
      have hs2 : Sim w0 (ρ.set n ⟨w.heap.size, 0, (olds.toArray ++ cs.toArray ++ Builtin.zeroCells zv.cells (N - (m + k))).size, z⟩)
          (H.app (.takeover b n keep mm.size (if keep then mm.size else mm.lock) z (rd g b 0 (m * z) ++ xs))) (w.drew.alloc (.cells (olds.toArray ++ cs.toArray ++ Builtin.zeroCells zv.cells (N - (m + k))) e)) := by
        have hbn' : b ≠ n := by omega
        refine hs1.shrink ?_ ?_ ?_
        · intro q mq hq
          by_cases e1 : q = n
          · subst e1
            simp only [AH.app, Dl.takeover, Dl.new, if_true, Option.getD_some, Option.some.injEq] at hq ⊢
            subst hq
            refine ⟨_, rfl, rfl, Nat.le_refl _, ?_, fun K i _ ho => ⟨Nat.zero_le _, by simpa using ho.2⟩⟩
            simp only [hcl]
            have : m * z ≤ (m + k) * z := Nat.mul_le_mul_right _ (by omega)
            cases keep <;> simp <;> omega
          · by_cases e2 : q = b
            · subst e2
              simp only [AH.app, Dl.takeover, Dl.new, if_neg e1, if_true, Option.getD_some, Option.getD_none] at hq ⊢
              cases keep
              · simp at hq
              · simp at hq; subst hq
                exact ⟨mm, hI, hmz.symm, Nat.le_refl _, Nat.le_refl _, fun K i _ ho => by
                  obtain ⟨p1, p2⟩ := ho
                  simp only [Tail.isExt_of, Bool.false_eq_true, if_false] at p1 p2; omega⟩
            · simp only [AH.app, Dl.takeover, Dl.new, if_neg e1, if_neg e2, Option.getD_none] at hq ⊢
              have hqs := hs.info q mq hq
              obtain ⟨Lq, _, _, _, q4, _⟩ := hqs
              exact ⟨mq, hq, rfl, Nat.le_refl _, q4, fun K i _ ho => ho⟩
        · intro q mq o hq ho
          by_cases e1 : q = n
          · subst e1
            simp only [AH.app, Dl.takeover, Dl.new, if_true, Option.getD_some, Option.some.injEq] at hq
            subst hq; cases ho
          · by_cases e2 : q = b
            · subst e2
              simp only [AH.app, Dl.takeover, Dl.new, if_neg e1, if_true, Option.getD_some, Option.getD_none] at hq
              cases keep
              · simp at hq
              · simp at hq; subst hq; cases ho
            · simp only [AH.app, Dl.takeover, Dl.new, if_neg e1, if_neg e2, Option.getD_none] at hq ⊢
              exact hq
        · intro q i
          by_cases e1 : q = n
          · subst e1; right; simp [AH.app, Dl.takeover, Dl.new]
          · by_cases e2 : q = b
            · subst e2
              by_cases e3 : (keep && decide (i < mm.size)) = true
              · right; simp only [AH.app, Dl.takeover, Dl.new, if_neg e1, if_true]; rw [if_pos e3]
              · left; simp only [AH.app, Dl.takeover, Dl.new, if_neg e1, if_true]; rw [if_neg e3]; rfl
            · right; simp [AH.app, Dl.takeover, Dl.new, e1, e2]
      have hexec : (execOp a.eval ⟨dst, .call { callee := .builtin .append, args := #[x, y], argTypes := #[t, t2] }, ty, pos, after, gd⟩).run P w =
          .ok (.value (.slice (some ⟨w.heap.size, 0, none⟩) (m + k) N)) (w.drew.alloc (.cells (olds.toArray ++ cs.toArray ++ Builtin.zeroCells zv.cells (N - (m + k))) e)) := by
        simp [execOp, resolve, invoke, builtin, hcx, hrun]
      refine wpA_value hexec ?_
      refine K _ _ _ (.one hn _) (.slice N (Ren.set_self _ _ _) hN fun _ => ?_) hs2
      simp only [hcsz]; omega
    generalize hcx : a.eval x = q at h1
    cases h1 with
    | @slice _ _ _ L' C hL' hmC hcc =>
      rw [hL] at hL'; cases hL'
      by_cases hfit : m + k ≤ C
      · -- it fits: the slack is taken
        obtain ⟨cs, k1, k2, k3, -⟩ := hy.run w0 ρ w H (a.eval y) hl hs h2
        have hCe : 0 + C * z ≤ L.ext := by have := hcc (by omega); rw [hLz, hmz] at this; exact this
        have hfz : (m + k) * z ≤ C * z := Nat.mul_le_mul_right _ hfit
        obtain ⟨e1, e2⟩ := hs.storeCells (P := P) (o := m * z) hI hL xs cs (by omega) (fun j hj => ⟨by omega, by rw [hmt, if_pos (Tail.isExt_of _)]; rw [Nat.add_mul] at hfz; omega⟩)
          (fun j hj => k2 j (by omega)) hy.kn
        have hrun := k3 ⟨L.blk, L.off + 0, none⟩ m C (w.setCells L.blk (L.off + m * z) cs) hfit (by rw [addr_add, Nat.add_zero]; exact e1)
        have hexec : (execOp a.eval ⟨dst, .call { callee := .builtin .append, args := #[x, y], argTypes := #[t, t2] }, ty, pos, after, gd⟩).run P w =
            .ok (.value (.slice (some ⟨L.blk, L.off + 0, none⟩) (m + k) C)) (w.setCells L.blk (L.off + m * z) cs) := by
          simp only [Nat.add_zero] at hrun
          simp [execOp, resolve, invoke, builtin, hcx, hrun]
        have hs2 := e2.takeover (b := b) (n := n) (m := mm) (L := L) (by rw [sets_info]; exact hI) hL hmt hn keep (rd g b 0 (m * z) ++ xs) (if keep then mm.size else mm.lock) rfl (by rw [hcl, hms]; exact Nat.mul_le_mul_right _ (by omega)) (by rw [hcl]; omega)
          (fun i hi' => by
            rw [hcl] at hi'
            by_cases hlt : i < m * z
            · have e3 : (rd g b 0 (m * z) ++ xs).getD i (.tuple #[]) = g.cell b i := by
                rw [List.getD, List.getElem?_append_left (by rw [rd_length]; exact hlt)]
                have := rd_getD g b (m * z) 0 i hlt
                rw [Nat.zero_add] at this; exact this
              rw [e3]
              have e4 : (H.app (.sets b (m * z) xs)).cell b i = H.cell b i := by
                simp only [AH.app, Dl.sets]; rw [if_neg (by omega)]; rfl
              rw [e4]
              rcases hl.cell b i with h5 | h5
              · exact .inr h5
              · exact .inl h5
            · left
              have e3 : (rd g b 0 (m * z) ++ xs).getD i (.tuple #[]) = xs.getD (i - m * z) (.tuple #[]) := by
                rw [List.getD, List.getElem?_append_right (by rw [rd_length]; omega), rd_length]; rfl
              rw [e3]
              simp only [AH.app, Dl.sets]
              rw [if_pos (by refine ⟨by trivial, by omega, ?_⟩; rw [hxl]; rw [Nat.add_mul] at hi'; omega)]; rfl)
        rw [hmz, ← AH.app_comp] at hs2
        have hd : (Dl.sets b (m * z) xs).comp (.takeover b n keep mm.size (if keep then mm.size else mm.lock) z (rd g b 0 (m * z) ++ xs)) =
            .takeover b n keep mm.size (if keep then mm.size else mm.lock) z (rd g b 0 (m * z) ++ xs) := by
          simp only [Dl.comp, Dl.takeover, Dl.sets, Dl.mk.injEq]
          constructor
          · funext q; simp
          · funext q i
            by_cases e1 : q = n
            · simp [e1]
            · by_cases e2 : q = b
              · subst e2
                by_cases e3 : (keep && decide (i < mm.size)) = true
                · have : ¬ (m * z ≤ i ∧ i < m * z + xs.length) := by simp at e3; omega
                  simp only [if_neg e1, if_true, true_and]
                  rw [if_pos e3, if_neg this]; rfl
                · simp only [if_neg e1, if_true]
                  rw [if_neg e3]; rfl
              · simp [e1, e2]
        rw [hd] at hs2
        refine wpA_value hexec ?_
        refine K _ _ _ (.one hn L) ?_ hs2
        exact .slice (L := L) C (Ren.set_self _ _ _) hfit (fun _ => by rw [hLz, hmz]; exact hCe)
      · exact grow _ C (by omega) hcx (by
          obtain ⟨cs, k1, k2, k3⟩ := hs.drew.rd (P := P) (o := 0) hl hL hkn
          exact ⟨cs, k1, fun i hi' => (k2 i hi').2, by simpa [Builtin.firstCells] using k3⟩)
    | slice0 A hL' =>
      exact grow _ 0 (by omega) hcx ⟨[], by simp, fun i hi' => by omega, by simp [Builtin.firstCells, loadCells, loadCellsFrom]⟩



end
end Go.Abs
