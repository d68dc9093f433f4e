/- Operations over the abstract heap: rows that are made, appended to, copied, converted. -/
import Derived.Test.YtchfnjfmlhacfaaAbsFn
import Derived.Laws.IdiomStrings
namespace Go.Abs
open Go.RowKit

theorem World.cell?_alloc_fz (w : World) (c : Array Value) (e : TypeId) (fz : Nat × Nat) (a : Addr) : (w.alloc (.cells c e fz)).cell? a = (w.alloc (.cells c e)).cell? a := by
  simp only [World.alloc, World.cell?, Array.getElem?_push]
  split <;> rename_i h <;> split at h <;> first | (cases h; simp_all) | simp_all
theorem KeepsObjs.refz (w : World) (c : Array Value) (e : TypeId) (f g : Nat × Nat) : KeepsObjs (w.alloc (.cells c e f)) (w.alloc (.cells c e g)) := fun l o h hc => by
  have h1 : (w.heap.push (.cells c e f))[l]? = some o := h
  show (w.heap.push (.cells c e g))[l]? = some o
  rw [Array.getElem?_push] at h1 ⊢
  by_cases hl : l = w.heap.size
  · rw [if_pos hl] at h1; cases h1; exact absurd rfl (hc _ _ _)
  · rw [if_neg hl] at h1 ⊢; exact h1
theorem Sim.fz {w0 : Base} {w : World} {ρ : Ren} {h : AH} {c : Array Value} {e : TypeId} {fz : Nat × Nat} (s : Sim w0 ρ h (w.alloc (.cells c e))) (hw : w0.w.heap.size ≤ w.heap.size) (hb : Below w0.w.heap.size w0.w w) (hf : c.size ≤ fz.1) : Sim w0 ρ h (w.alloc (.cells c e fz)) := by
  refine s.move (hb.alloc hw _) (.refz w _ _ _ _) (fun b L i v _ h => by rw [World.cell?_alloc_fz]; exact h) fun b L i v _ hc hz => ?_
  by_cases hb : L.blk = w.heap.size
  · rw [hb] at hc ⊢
    rw [World.cell?_alloc_new] at hc
    have hi : L.off + i < c.size := (Array.getElem?_eq_some_iff.1 hc).1
    have hg : (w.heap.push (Obj.cells c e fz))[w.heap.size]? = some (.cells c e fz) := by simp
    simp only [World.alloc, World.frozen?, hg]
    simp; omega
  · rw [World.frozen?_alloc_old _ _ _ (by simpa using hb)] at hz ⊢
    exact hz

inductive All2 {α : Type} (R : α → α → Prop) : List α → List α → Prop
  | nil : All2 R [] []
  | cons {a b l m} (h : R a b) (t : All2 R l m) : All2 R (a :: l) (b :: m)

theorem RelAll.set {ρ : Ren} {xs ys : Array Value} (h : RelAll ρ xs ys) (i : Nat) {a c : Value} (hv : VRel ρ a c) : RelAll ρ (xs.setIfInBounds i a) (ys.setIfInBounds i c) := by
  refine ⟨by simp [h.size], fun j => ?_⟩
  have hj := h.at_ j
  have hs := h.size
  simp only [Array.getD_eq_getD_getElem?, Array.getElem?_setIfInBounds] at *
  by_cases e : i = j
  · subst e
    by_cases hi : i < xs.size
    · rw [if_pos rfl, if_pos hi, if_pos rfl, if_pos (by omega)]; exact hv
    · rw [if_pos rfl, if_neg hi, if_pos rfl, if_neg (by omega)]; exact .unk _
  · rw [if_neg e, if_neg e]; exact hj

theorem fill_rel {ρ : Ren} (place : Nat → Option (Nat × Nat)) : ∀ (ps qs : List (Nat × Value)) (xs ys cs : Array Value), RelAll ρ xs ys →
    All2 (fun p q => p.1 = q.1 ∧ VRel ρ p.2 q.2 ∧ okV p.2 = true) ps qs → Instr.fill place xs ps = some cs → ∃ ds, Instr.fill place ys qs = some ds ∧ RelAll ρ cs ds
  | [], [], xs, ys, cs, hr, _, h => by simp only [Instr.fill, Option.some.injEq] at h ⊢; subst h; exact ⟨ys, rfl, hr⟩
  | p :: ps, q :: qs, xs, ys, cs, hr, ha, h => by
    cases ha with
    | cons h1 h2 =>
      obtain ⟨hi, hv, hok⟩ := h1
      obtain ⟨i, v⟩ := p
      obtain ⟨i', v'⟩ := q
      simp only at hi hv hok
      subst hi
      simp only [Instr.fill] at h ⊢
      cases hp : place i with
      | none => rw [hp] at h; cases h
      | some os =>
        obtain ⟨off, size⟩ := os
        rw [hp] at h
        simp only at h ⊢
        obtain ⟨c1, c2, c3⟩ := hv.cells hok
        have hsz := hr.size
        split at h
        · cases h
        · rename_i hn
          rw [← c1, ← hsz, if_neg hn]
          refine fill_rel place ps qs _ _ cs ?_ h2 h
          -- the cells laid one by one
          have key : ∀ (l m : List (Value × Nat)) (as bs : Array Value), l.length = m.length → (∀ k, k < l.length → (l.getD k (.tuple #[], 0)).2 = (m.getD k (.tuple #[], 0)).2 ∧ VRel ρ (l.getD k (.tuple #[], 0)).1 (m.getD k (.tuple #[], 0)).1) →
              RelAll ρ as bs → RelAll ρ (l.foldl (fun cs (x : Value × Nat) => cs.setIfInBounds (off + x.2) x.1) as) (m.foldl (fun cs (x : Value × Nat) => cs.setIfInBounds (off + x.2) x.1) bs) := by
            intro l
            induction l with
            | nil => intro m as bs hl _ hr; cases m with | nil => exact hr | cons => simp at hl
            | cons x l ih =>
              intro m as bs hl hk hr
              cases m with
              | nil => simp at hl
              | cons y m =>
                simp only [List.foldl_cons]
                refine ih m _ _ (by simpa using hl) (fun k hk' => by simpa using hk (k + 1) (by simpa using hk')) ?_
                have h0 := hk 0 (by simp)
                simp only [List.getD_cons_zero] at h0
                rw [h0.1]
                exact hr.set _ h0.2
          have e1 : ∀ (as : Array Value) (u : Value), Array.foldl (fun cs (x : Value × Nat) => cs.setIfInBounds (off + x.2) x.1) as u.cells.zipIdx = u.cells.toList.zipIdx.foldl (fun cs (x : Value × Nat) => cs.setIfInBounds (off + x.2) x.1) as := by
            intro as u
            rw [← Array.foldl_toList]; simp
          have e2 := e1 xs v
          have e3 := e1 ys v'
          refine (show RelAll ρ (Array.foldl (fun cs (x : Value × Nat) => cs.setIfInBounds (off + x.2) x.1) xs v.cells.zipIdx) (Array.foldl (fun cs (x : Value × Nat) => cs.setIfInBounds (off + x.2) x.1) ys v'.cells.zipIdx) from ?_)
          rw [e2, e3]
          refine key _ _ _ _ (by simp [c1]) (fun k hk => ?_) hr
          have hk1 : k < v.cells.size := by simpa using hk
          have hk2 : k < v'.cells.size := by omega
          have := c2 k
          simp [List.getD, hk1, hk2] at this ⊢
          exact this

section
variable {P : Program} {T : Nat → Prop} {env : Env} {n : Nat} {g : AH}
variable {dst : Option Tmp} {ty : TypeId} {pos : String} {after : Array Edge} {gd : Option (Nat × Bool)}

theorem flatAll {ρ : Ren} {z : Array Value} (h : z.all (flat 8) = true) : RelAll ρ z z := ⟨rfl, fun i => by
  by_cases hi : i < z.size
  · have := flat_rel ρ 8 _ (Array.all_eq_true.1 h i hi)
    simpa [Array.getD, hi] using this
  · have : z.getD i (.tuple #[]) = .tuple #[] := by simp [Array.getD, hi]
    rw [this]; exact .unk _⟩

/-- A struct is built. -/
theorem op_build {t : TypeId} {parts : Array (Nat × Operand)} {fs : Array Field} {z by_ : Nat} {zv : Value} {places : Array (Nat × Nat)} {cs : Array Value} (hz : TI P t (.struct fs) z by_ zv) (hf : zv.cells.all (flat 8) = true)
    (hpl : ∀ w, (fs.mapM fun f => (do pure (f.offset, ← sizeOf f.type) : Sem (Nat × Nat))).run P w = .ok places w)
    (hok : parts.toList.all (fun p => okV (ev env p.2)) = true) (hc : Instr.fill (places[·]?) zv.cells (parts.toList.map fun p => (p.1, ev env p.2)) = some cs) :
    OpEv P T ⟨dst, .build t parts, ty, pos, after, gd⟩ env n g (.agg cs) n .nil :=
  .calc fun ρ w ce h => by
    have hall : ∀ (l : List (Nat × Operand)), l.all (fun p => okV (ev env p.2)) = true → (∀ p, p ∈ l → VRel ρ (ev env p.2) (ce p.2)) →
        All2 (fun p q : Nat × Value => p.1 = q.1 ∧ VRel ρ p.2 q.2 ∧ okV p.2 = true) (l.map fun p => (p.1, ev env p.2)) (l.map fun p => (p.1, ce p.2)) := by
      intro l
      induction l with
      | nil => intros; exact .nil
      | cons p l ih =>
        intro h1 h2
        simp only [List.all_cons, Bool.and_eq_true] at h1
        exact .cons ⟨rfl, h2 p (by simp), h1.1⟩ (ih h1.2 fun q hq => h2 q (by simp [hq]))
    obtain ⟨ds, h1, h2⟩ := fill_rel (ρ := ρ) (places[·]?) _ _ _ _ cs (flatAll hf) (hall parts.toList hok fun p hp => h p.2 (by
      simp only [Op.operands]; simp; exact ⟨p.1, by simpa using hp⟩)) hc
    refine ⟨.agg ds, ?_, .agg h2.size h2.at_⟩
    have e : (parts.map fun (p : Nat × Operand) => (p.1, ce p.2)).toList = parts.toList.map fun p => (p.1, ce p.2) := by simp
    have e' : (parts.map fun (x : Nat × Operand) => match x with | (i, x) => (i, ce x)) = parts.map fun (p : Nat × Operand) => (p.1, ce p.2) := rfl
    simp only [execOp, Instr.build, Sem.run_bind, hz.run_zeroValue, hz.run_underlying, Result.andThen_ok, hpl w, e', e, h1, Sem.run_pure]

/-- A part of a struct that is no variable. -/
theorem op_field {t : TypeId} {x : Operand} {i : Nat} {fs : Array Field} {f : Field} {cs : Array Value} {d : TypeDesc} {z by_ : Nat} {zv v : Value} (hu : P.underlying t = some (.struct fs)) (hf : fs[i]? = some f)
    (hz : TI P f.type d z by_ zv) (hx : ev env x = .agg cs) (ha : isAggD d = false) (hv : cs[f.offset]? = some v) :
    OpEv P T ⟨dst, .field t x i, ty, pos, after, gd⟩ env n g v n .nil :=
  .calc fun ρ w ce h => by
    have h1 := h x (by simp [Op.operands]); rw [hx] at h1
    have hr : (underlying t).run P w = .ok (.struct fs) w := by simp [underlying, hu]
    generalize hc : ce x = c at h1
    cases h1 with
    | @agg _ ys hs hh =>
      have hi : f.offset < cs.size := (Array.getElem?_eq_some_iff.1 hv).1
      have hi2 : f.offset < ys.size := by omega
      refine ⟨ys.getD f.offset (.tuple #[]), ?_, ?_⟩
      · simp [execOp, Instr.field, hr, hf, hc, asAgg, part, hz.run_isAgg, ha, hi2, Array.getD]
      · have := hh f.offset
        rw [Array.getD_eq_getD_getElem?, hv] at this
        exact this
theorem op_fieldAgg {t : TypeId} {x : Operand} {i : Nat} {fs : Array Field} {f : Field} {cs : Array Value} {d : TypeDesc} {z by_ : Nat} {zv : Value} (hu : P.underlying t = some (.struct fs)) (hf : fs[i]? = some f)
    (hz : TI P f.type d z by_ zv) (hx : ev env x = .agg cs) (ha : isAggD d = true) :
    OpEv P T ⟨dst, .field t x i, ty, pos, after, gd⟩ env n g (.agg (cs.extract f.offset (f.offset + z))) n .nil :=
  .calc fun ρ w ce h => by
    have h1 := h x (by simp [Op.operands]); rw [hx] at h1
    have hr : (underlying t).run P w = .ok (.struct fs) w := by simp [underlying, hu]
    generalize hc : ce x = c at h1
    cases h1 with
    | @agg _ ys hs hh =>
      refine ⟨.agg (ys.extract f.offset (f.offset + z)), ?_, .agg (by simp [hs]) fun j => ?_⟩
      · simp [execOp, Instr.field, hr, hf, hc, asAgg, part, hz.run_isAgg, ha, hz.run_sizeOf]
      · have := hh (f.offset + j)
        simp only [Array.getD_eq_getD_getElem?, Array.getElem?_extract] at *
        rw [hs]
        split
        · exact this
        · exact .unk _

/-- A byte of a string. -/
theorem op_indexS {t : TypeId} {x y : Operand} {s : ByteArray} {k : IntKind} {i : Int} {b : UInt8} (hu : P.underlying t = some .string) (hx : ev env x = .string s) (hy : ev env y = .int k i) (h0 : 0 ≤ i) (hb : s[i.toNat]? = some b) :
    OpEv P T ⟨dst, .index t x y, ty, pos, after, gd⟩ env n g (.int .u8 b.toNat) n .nil :=
  .calc fun ρ w ce h => by
    have h1 := h x (by simp [Op.operands]); rw [hx] at h1
    have h2 := h y (by simp [Op.operands]); rw [hy] at h2
    have hr : (underlying t).run P w = .ok .string w := by simp [underlying, hu]
    exact ⟨_, by simp [execOp, Instr.index, hr, h1.string_inv, h2.int_inv, asIntOf, h0, hb], .int _ _⟩

/-- What zeros a row is made of. -/
def zrow (z : List Value) (m : Nat) : List Value := (List.range (m * z.length)).map fun i => z.getD (i % z.length) (.tuple #[])
theorem zrow_length (z : List Value) (m : Nat) : (zrow z m).length = m * z.length := by simp [zrow]
theorem zrow_one (v : Value) (m : Nat) : zrow [v] m = List.replicate m v := by
  apply List.ext_getElem
  · simp [zrow]
  · intro i h1 h2
    simp [zrow, Nat.mod_one]
theorem zrow_rel {ρ : Ren} {zv : Array Value} (hf : zv.all (flat 8) = true) (m M : Nat) (hm : m ≤ M) (i : Nat) (hi : i < (zrow zv.toList m).length) :
    VRel ρ ((zrow zv.toList m).getD i (.tuple #[])) (((Array.range (M * zv.size)).map (zv[· % zv.size]!)).getD i (.tuple #[])) := by
  rw [zrow_length] at hi
  have hlen : zv.toList.length = zv.size := by simp
  rw [hlen] at hi
  have hpos : 0 < zv.size := by
    rcases Nat.eq_zero_or_pos zv.size with h | h
    · rw [h] at hi; omega
    · exact h
  have hi2 : i < M * zv.size := Nat.lt_of_lt_of_le hi (Nat.mul_le_mul_right _ hm)
  have hmod : i % zv.size < zv.size := Nat.mod_lt _ hpos
  have e1 : (zrow zv.toList m).getD i (.tuple #[]) = zv[i % zv.size] := by
    simp [zrow, List.getD, hi, hmod]
  have e2 : ((Array.range (M * zv.size)).map (zv[· % zv.size]!)).getD i (.tuple #[]) = zv[i % zv.size] := by
    simp [Array.getD, hi2, hmod]
  rw [e1, e2]
  exact flat_rel ρ 8 _ (Array.all_eq_true.1 hf _ hmod)

theorem op_makeSlice {t e : TypeId} {x y : Operand} {m M : Nat} {d : TypeDesc} {z by_ : Nat} {zv : Value} (hu : P.underlying t = some (.slice e)) (hz : TI P e d z by_ zv) (hf : zv.cells.all (flat 8) = true) (hzz : zv.cells.size = z) (hz0 : z ≠ 0)
    (hx : ev env x = .int .i64 m) (hy : ev env y = .int .i64 M) (hm : m ≤ M) (hb : M * by_ ≤ 281474976710656) (hM : M ≤ 9223372036854775807) :
    OpEv P T ⟨dst, .makeSlice t x y, ty, pos, after, gd⟩ env n g (.slice (some ⟨n, 0, none⟩) m m) (n + 1) (.new n ⟨(zrow zv.cells.toList m).length, 0, true, z⟩ (zrow zv.cells.toList m)) :=
  op_new fun w0 ρ w H ce hl hs hop => by
    subst hzz
    have h1 := hop x (by simp [Op.operands]); rw [hx] at h1
    have h2 := hop y (by simp [Op.operands]); rw [hy] at h2
    have hr : (underlying t).run P w = .ok (.slice e) w := by simp [underlying, hu]
    obtain ⟨i, hi1, hi2, hi3, hi4⟩ := hz.run_typeInfo w
    have wm : IntKind.i64.wrap (m : Int) = m := by simp only [IntKind.wrap, IntKind.signed]; simp [IntKind.bits]; omega
    have wM : IntKind.i64.wrap (M : Int) = M := by simp only [IntKind.wrap, IntKind.signed]; simp [IntKind.bits]; omega
    have hzr := hz.run_zeroValue w
    let conc : Array Value := (Array.range (M * zv.cells.size)).map (zv.cells[· % zv.cells.size]!)
    have hcs : conc.size = M * zv.cells.size := by simp [conc]
    refine ⟨w, conc, e, .slice (some ⟨w.heap.size, 0, none⟩) m M, hs, ?_, fun i hi => zrow_rel (ρ := ρ) hf m M hm i hi, ?_, ?_⟩
    · rw [zrow_length, hcs]; simp only [Array.length_toList]; exact Nat.mul_le_mul_right _ hm
    · have c1 : ¬ ((by_ : Int) * (M : Int) > 2 ^ 48) := by
        have e : (by_ : Int) * (M : Int) = ((M * by_ : Nat) : Int) := by push_cast; exact Int.mul_comm _ _
        rw [e]
        generalize M * by_ = p at hb
        omega
      have c2 : ¬ ((m : Int) < 0) := by omega
      have c3 : ¬ ((M : Int) < 0) := by omega
      have c4 : ¬ ((m : Int) > M) := by omega
      simp only [execOp, Instr.makeSlice, Sem.run_bind, hr, Result.andThen_ok, h1.int_inv, h2.int_inv, asInt, asIntOf, Sem.run_pure, hi1, wm, wM]
      simp only [hi3, c1, c2, c3, c4, decide_false, Bool.or_false, Bool.false_eq_true, if_false, Sem.run_bind, run_askRoom, Result.andThen_ok, hz.run_sizeOf, Int.toNat_natCast]
      by_cases h0 : M * zv.cells.size = 0
      · have e0 : conc = #[] := by simp [conc, h0]
        rw [e0]
        simp only [h0, if_true, Sem.run_bind, Sem.run_pure, Result.andThen_ok, newRow, run_newObj, Array.range_zero', Array.map_empty]
        rfl
      · simp only [if_neg h0, Sem.run_bind, Sem.run_pure, Result.andThen_ok, newRow, run_newObj, hzr]
        rfl
    · refine .slice (L := ⟨w.heap.size, 0, conc.size, zv.cells.size⟩) M (Ren.set_self _ _ _) hm fun _ => ?_
      simp only [hcs]; omega

end
end Go.Abs
