/- Operations over the abstract heap: rows that are made, appended to, copied, converted. -/
import Derived.Test.YtflhhipemmlgpaaDoorAbsExact
import Derived.Laws.IdiomStrings
import Derived.Laws.BytesArg
set_option linter.unusedSimpArgs false
set_option linter.unusedVariables false
namespace Go.Abs
open Go.RowKit

theorem World.cell?_alloc_fz (w : World) (c : Array Value) (e : TypeId) (fz : Nat × Nat) (a : Addr) : (w.alloc (.cells c e fz)).cell? a = (w.alloc (.cells c e)).cell? a := by
  simp only [World.alloc, World.cell?, Array.getElem?_push]
  split <;> rename_i h <;> split at h <;> first | (cases h; simp_all) | simp_all
theorem KeepsObjs.refz (w : World) (c : Array Value) (e : TypeId) (f g : Nat × Nat) : KeepsObjs (w.alloc (.cells c e f)) (w.alloc (.cells c e g)) := fun l o h hc => by
  have h1 : (w.heap.push (.cells c e f))[l]? = some o := h
  show (w.heap.push (.cells c e g))[l]? = some o
  rw [Array.getElem?_push] at h1 ⊢
  by_cases hl : l = w.heap.size
  · rw [if_pos hl] at h1; cases h1; exact absurd rfl (hc _ _ _)
  · rw [if_neg hl] at h1 ⊢; exact h1
theorem Sim.fz {w0 : Base} {w : World} {ρ : Ren} {h : AH} {c : Array Value} {e : TypeId} {fz : Nat × Nat} (s : Sim w0 ρ h (w.alloc (.cells c e))) (hw : w0.w.heap.size ≤ w.heap.size) (hb : Below w0.w.heap.size w0.w w) (hf : c.size ≤ fz.1) : Sim w0 ρ h (w.alloc (.cells c e fz)) := by
  refine s.move (hb.alloc hw _) (.refz w _ _ _ _) (fun b L i v _ h => by rw [World.cell?_alloc_fz]; exact h) fun b L i v _ hc hz => ?_
  by_cases hb : L.blk = w.heap.size
  · rw [hb] at hc ⊢
    intro c' t lo hi hh
    have hg : (w.heap.push (Obj.cells c e fz))[w.heap.size]? = some (.cells c e fz) := by simp
    have hh : (w.heap.push (Obj.cells c e fz))[w.heap.size]? = some (.cells c' t (lo, hi)) := hh
    rw [hg] at hh; cases hh; exact .inr hf
  · refine hz.of ?_
    show (w.heap.push _)[L.blk]? = (w.heap.push _)[L.blk]?
    rw [Array.getElem?_push, Array.getElem?_push, if_neg hb, if_neg hb]

inductive All2 {α : Type} (R : α → α → Prop) : List α → List α → Prop
  | nil : All2 R [] []
  | cons {a b l m} (h : R a b) (t : All2 R l m) : All2 R (a :: l) (b :: m)

theorem RelAll.set {ρ : Ren} {xs ys : Array Value} (h : RelAll ρ xs ys) (i : Nat) {a c : Value} (hv : VRel ρ a c) : RelAll ρ (xs.setIfInBounds i a) (ys.setIfInBounds i c) := by
  refine ⟨by simp [h.size], fun j => ?_⟩
  have hj := h.at_ j
  have hs := h.size
  simp only [Array.getD_eq_getD_getElem?, Array.getElem?_setIfInBounds] at *
  by_cases e : i = j
  · subst e
    by_cases hi : i < xs.size
    · rw [if_pos rfl, if_pos hi, if_pos rfl, if_pos (by omega)]; exact hv
    · rw [if_pos rfl, if_neg hi, if_pos rfl, if_neg (by omega)]; exact .unk _
  · rw [if_neg e, if_neg e]; exact hj

theorem fill_rel {ρ : Ren} (place : Nat → Option (Nat × Nat)) : ∀ (ps qs : List (Nat × Value)) (xs ys cs : Array Value), RelAll ρ xs ys →
    All2 (fun p q => p.1 = q.1 ∧ VRel ρ p.2 q.2 ∧ okV p.2 = true) ps qs → Instr.fill place xs ps = some cs → ∃ ds, Instr.fill place ys qs = some ds ∧ RelAll ρ cs ds
  | [], [], xs, ys, cs, hr, _, h => by simp only [Instr.fill, Option.some.injEq] at h ⊢; subst h; exact ⟨ys, rfl, hr⟩
  | p :: ps, q :: qs, xs, ys, cs, hr, ha, h => by
    cases ha with
    | cons h1 h2 =>
      obtain ⟨hi, hv, hok⟩ := h1
      obtain ⟨i, v⟩ := p
      obtain ⟨i', v'⟩ := q
      simp only at hi hv hok
      subst hi
      simp only [Instr.fill] at h ⊢
      cases hp : place i with
      | none => rw [hp] at h; cases h
      | some os =>
        obtain ⟨off, size⟩ := os
        rw [hp] at h
        simp only at h ⊢
        obtain ⟨c1, c2, c3⟩ := hv.cells hok
        have hsz := hr.size
        split at h
        · cases h
        · rename_i hn
          rw [← c1, ← hsz, if_neg hn]
          refine fill_rel place ps qs _ _ cs ?_ h2 h
          -- the cells laid one by one
          have key : ∀ (l m : List (Value × Nat)) (as bs : Array Value), l.length = m.length → (∀ k, k < l.length → (l.getD k (.tuple #[], 0)).2 = (m.getD k (.tuple #[], 0)).2 ∧ VRel ρ (l.getD k (.tuple #[], 0)).1 (m.getD k (.tuple #[], 0)).1) →
              RelAll ρ as bs → RelAll ρ (l.foldl (fun cs (x : Value × Nat) => cs.setIfInBounds (off + x.2) x.1) as) (m.foldl (fun cs (x : Value × Nat) => cs.setIfInBounds (off + x.2) x.1) bs) := by
            intro l
            induction l with
            | nil => intro m as bs hl _ hr; cases m with | nil => exact hr | cons => simp at hl
            | cons x l ih =>
              intro m as bs hl hk hr
              cases m with
              | nil => simp at hl
              | cons y m =>
                simp only [List.foldl_cons]
                refine ih m _ _ (by simpa using hl) (fun k hk' => by simpa using hk (k + 1) (by simpa using hk')) ?_
                have h0 := hk 0 (by simp)
                simp only [List.getD_cons_zero] at h0
                rw [h0.1]
                exact hr.set _ h0.2
          have e1 : ∀ (as : Array Value) (u : Value), Array.foldl (fun cs (x : Value × Nat) => cs.setIfInBounds (off + x.2) x.1) as u.cells.zipIdx = u.cells.toList.zipIdx.foldl (fun cs (x : Value × Nat) => cs.setIfInBounds (off + x.2) x.1) as := by
            intro as u
            rw [← Array.foldl_toList]; simp
          have e2 := e1 xs v
          have e3 := e1 ys v'
          refine (show RelAll ρ (Array.foldl (fun cs (x : Value × Nat) => cs.setIfInBounds (off + x.2) x.1) xs v.cells.zipIdx) (Array.foldl (fun cs (x : Value × Nat) => cs.setIfInBounds (off + x.2) x.1) ys v'.cells.zipIdx) from ?_)
          rw [e2, e3]
          refine key _ _ _ _ (by simp [c1]) (fun k hk => ?_) hr
          have hk1 : k < v.cells.size := by simpa using hk
          have hk2 : k < v'.cells.size := by omega
          have := c2 k
          simp [List.getD, hk1, hk2] at this ⊢
          exact this

section
variable {P : Program} {T : Nat → Prop} {env : Env} {n : Nat} {g : AH}
variable {dst : Option Tmp} {ty : TypeId} {pos : String} {after : Array Edge} {gd : Option (Nat × Bool)}

theorem flatAll {ρ : Ren} {z : Array Value} (h : z.all (flat 8) = true) : RelAll ρ z z := ⟨rfl, fun i => by
  by_cases hi : i < z.size
  · have := flat_rel ρ 8 _ (Array.all_eq_true.1 h i hi)
    simpa [Array.getD, hi] using this
  · have : z.getD i (.tuple #[]) = .tuple #[] := by simp [Array.getD, hi]
    rw [this]; exact .unk _⟩

/-- A struct is built. -/
theorem op_build {t : TypeId} {parts : Array (Nat × Operand)} {fs : Array Field} {z by_ : Nat} {zv : Value} {places : Array (Nat × Nat)} {cs : Array Value} (hz : TI P t (.struct fs) z by_ zv) (hf : zv.cells.all (flat 8) = true)
    (hpl : ∀ w, (fs.mapM fun f => (do pure (f.offset, ← sizeOf f.type) : Sem (Nat × Nat))).run P w = .ok places w)
    (hok : parts.toList.all (fun p => okV (ev env p.2)) = true) (hc : Instr.fill (places[·]?) zv.cells (parts.toList.map fun p => (p.1, ev env p.2)) = some cs) :
    OpEv P T ⟨dst, .build t parts, ty, pos, after, gd⟩ env n g (.agg cs) n .nil :=
  .calc fun ρ w ce h => by
    have hall : ∀ (l : List (Nat × Operand)), l.all (fun p => okV (ev env p.2)) = true → (∀ p, p ∈ l → VRel ρ (ev env p.2) (ce p.2)) →
        All2 (fun p q : Nat × Value => p.1 = q.1 ∧ VRel ρ p.2 q.2 ∧ okV p.2 = true) (l.map fun p => (p.1, ev env p.2)) (l.map fun p => (p.1, ce p.2)) := by
      intro l
      induction l with
      | nil => intros; exact .nil
      | cons p l ih =>
        intro h1 h2
        simp only [List.all_cons, Bool.and_eq_true] at h1
        exact .cons ⟨rfl, h2 p (by simp), h1.1⟩ (ih h1.2 fun q hq => h2 q (by simp [hq]))
    obtain ⟨ds, h1, h2⟩ := fill_rel (ρ := ρ) (places[·]?) _ _ _ _ cs (flatAll hf) (hall parts.toList hok fun p hp => h p.2 (by
      simp only [Op.operands]; simp; exact ⟨p.1, by simpa using hp⟩)) hc
    refine ⟨.agg ds, ?_, .agg h2.size h2.at_⟩
    have e : (parts.map fun (p : Nat × Operand) => (p.1, ce p.2)).toList = parts.toList.map fun p => (p.1, ce p.2) := by simp
    have e' : (parts.map fun (x : Nat × Operand) => match x with | (i, x) => (i, ce x)) = parts.map fun (p : Nat × Operand) => (p.1, ce p.2) := rfl
    simp only [execOp, Instr.build, Sem.run_bind, hz.run_zeroValue, hz.run_underlying, Result.andThen_ok, hpl w, e', e, h1, Sem.run_pure]

/-- A part of a struct that is no variable. -/
theorem op_field {t : TypeId} {x : Operand} {i : Nat} {fs : Array Field} {f : Field} {cs : Array Value} {d : TypeDesc} {z by_ : Nat} {zv v : Value} (hu : P.underlying t = some (.struct fs)) (hf : fs[i]? = some f)
    (hz : TI P f.type d z by_ zv) (hx : ev env x = .agg cs) (ha : isAggD d = false) (hv : cs[f.offset]? = some v) :
    OpEv P T ⟨dst, .field t x i, ty, pos, after, gd⟩ env n g v n .nil :=
  .calc fun ρ w ce h => by
    have h1 := h x (by simp [Op.operands]); rw [hx] at h1
    have hr : (underlying t).run P w = .ok (.struct fs) w := by simp [underlying, hu]
    generalize hc : ce x = c at h1
    cases h1 with
    | @agg _ ys hs hh =>
      have hi : f.offset < cs.size := (Array.getElem?_eq_some_iff.1 hv).1
      have hi2 : f.offset < ys.size := by omega
      refine ⟨ys.getD f.offset (.tuple #[]), ?_, ?_⟩
      · simp [execOp, Instr.field, hr, hf, hc, asAgg, part, hz.run_isAgg, ha, hi2, Array.getD]
      · have := hh f.offset
        rw [Array.getD_eq_getD_getElem?, hv] at this
        exact this
theorem op_fieldAgg {t : TypeId} {x : Operand} {i : Nat} {fs : Array Field} {f : Field} {cs : Array Value} {d : TypeDesc} {z by_ : Nat} {zv : Value} (hu : P.underlying t = some (.struct fs)) (hf : fs[i]? = some f)
    (hz : TI P f.type d z by_ zv) (hx : ev env x = .agg cs) (ha : isAggD d = true) :
    OpEv P T ⟨dst, .field t x i, ty, pos, after, gd⟩ env n g (.agg (cs.extract f.offset (f.offset + z))) n .nil :=
  .calc fun ρ w ce h => by
    have h1 := h x (by simp [Op.operands]); rw [hx] at h1
    have hr : (underlying t).run P w = .ok (.struct fs) w := by simp [underlying, hu]
    generalize hc : ce x = c at h1
    cases h1 with
    | @agg _ ys hs hh =>
      refine ⟨.agg (ys.extract f.offset (f.offset + z)), ?_, .agg (by simp [hs]) fun j => ?_⟩
      · simp [execOp, Instr.field, hr, hf, hc, asAgg, part, hz.run_isAgg, ha, hz.run_sizeOf]
      · have := hh (f.offset + j)
        simp only [Array.getD_eq_getD_getElem?, Array.getElem?_extract] at *
        rw [hs]
        split
        · exact this
        · exact .unk _

/-- A byte of a string. -/
theorem op_indexS {t : TypeId} {x y : Operand} {s : ByteArray} {k : IntKind} {i : Int} {b : UInt8} (hu : P.underlying t = some .string) (hx : ev env x = .string s) (hy : ev env y = .int k i) (h0 : 0 ≤ i) (hb : s[i.toNat]? = some b) :
    OpEv P T ⟨dst, .index t x y, ty, pos, after, gd⟩ env n g (.int .u8 b.toNat) n .nil :=
  .calc fun ρ w ce h => by
    have h1 := h x (by simp [Op.operands]); rw [hx] at h1
    have h2 := h y (by simp [Op.operands]); rw [hy] at h2
    have hr : (underlying t).run P w = .ok .string w := by simp [underlying, hu]
    exact ⟨_, by simp [execOp, Instr.index, hr, h1.string_inv, h2.int_inv, asIntOf, h0, hb], .int _ _⟩

/-- What zeros a row is made of. -/
def zrow (z : List Value) (m : Nat) : List Value := (List.range (m * z.length)).map fun i => z.getD (i % z.length) (.tuple #[])
theorem zrow_length (z : List Value) (m : Nat) : (zrow z m).length = m * z.length := by simp [zrow]
theorem zrow_one (v : Value) (m : Nat) : zrow [v] m = List.replicate m v := by
  apply List.ext_getElem
  · simp [zrow]
  · intro i h1 h2
    simp [zrow, Nat.mod_one]
theorem zrow_rel {ρ : Ren} {zv : Array Value} (hf : zv.all (flat 8) = true) (m M : Nat) (hm : m ≤ M) (i : Nat) (hi : i < (zrow zv.toList m).length) :
    VRel ρ ((zrow zv.toList m).getD i (.tuple #[])) (((Array.range (M * zv.size)).map (zv[· % zv.size]!)).getD i (.tuple #[])) := by
  rw [zrow_length] at hi
  have hlen : zv.toList.length = zv.size := by simp
  rw [hlen] at hi
  have hpos : 0 < zv.size := by
    rcases Nat.eq_zero_or_pos zv.size with h | h
    · rw [h] at hi; omega
    · exact h
  have hi2 : i < M * zv.size := Nat.lt_of_lt_of_le hi (Nat.mul_le_mul_right _ hm)
  have hmod : i % zv.size < zv.size := Nat.mod_lt _ hpos
  have e1 : (zrow zv.toList m).getD i (.tuple #[]) = zv[i % zv.size] := by
    simp [zrow, List.getD, hi, hmod]
  have e2 : ((Array.range (M * zv.size)).map (zv[· % zv.size]!)).getD i (.tuple #[]) = zv[i % zv.size] := by
    simp [Array.getD, hi2, hmod]
  rw [e1, e2]
  exact flat_rel ρ 8 _ (Array.all_eq_true.1 hf _ hmod)

theorem op_makeSlice {t e : TypeId} {x y : Operand} {m M : Nat} {d : TypeDesc} {z by_ : Nat} {zv : Value} (hu : P.underlying t = some (.slice e)) (hz : TI P e d z by_ zv) (hf : zv.cells.all (flat 8) = true) (hzz : zv.cells.size = z) (hz0 : z ≠ 0)
    (hx : ev env x = .int .i64 m) (hy : ev env y = .int .i64 M) (hm : m ≤ M) (hb : M * by_ ≤ 281474976710656) (hM : M ≤ 9223372036854775807) :
    OpEv P T ⟨dst, .makeSlice t x y, ty, pos, after, gd⟩ env n g (.slice (some ⟨n, 0, none⟩) m m) (n + 1) (.new n ⟨(zrow zv.cells.toList m).length, 0, true, z⟩ (zrow zv.cells.toList m)) :=
  op_new fun w0 ρ w H ce hl hs hop => by
    subst hzz
    have h1 := hop x (by simp [Op.operands]); rw [hx] at h1
    have h2 := hop y (by simp [Op.operands]); rw [hy] at h2
    have hr : (underlying t).run P w = .ok (.slice e) w := by simp [underlying, hu]
    obtain ⟨i, hi1, hi2, hi3, hi4⟩ := hz.run_typeInfo w
    have wm : IntKind.i64.wrap (m : Int) = m := by simp only [IntKind.wrap, IntKind.signed]; simp [IntKind.bits]; omega
    have wM : IntKind.i64.wrap (M : Int) = M := by simp only [IntKind.wrap, IntKind.signed]; simp [IntKind.bits]; omega
    have hzr := hz.run_zeroValue w
    let conc : Array Value := (Array.range (M * zv.cells.size)).map (zv.cells[· % zv.cells.size]!)
    have hcs : conc.size = M * zv.cells.size := by simp [conc]
    refine ⟨w, conc, e, .slice (some ⟨w.heap.size, 0, none⟩) m M, hs, ?_, fun i hi => zrow_rel (ρ := ρ) hf m M hm i hi, ?_, ?_⟩
    · rw [zrow_length, hcs]; simp only [Array.length_toList]; exact Nat.mul_le_mul_right _ hm
    · have c1 : ¬ ((by_ : Int) * (M : Int) > 2 ^ 48) := by
        have e : (by_ : Int) * (M : Int) = ((M * by_ : Nat) : Int) := by push_cast; exact Int.mul_comm _ _
        rw [e]
        generalize M * by_ = p at hb
        omega
      have c2 : ¬ ((m : Int) < 0) := by omega
      have c3 : ¬ ((M : Int) < 0) := by omega
      have c4 : ¬ ((m : Int) > M) := by omega
      simp only [execOp, Instr.makeSlice, Sem.run_bind, hr, Result.andThen_ok, h1.int_inv, h2.int_inv, asInt, asIntOf, Sem.run_pure, hi1, wm, wM]
      simp only [hi3, c1, c2, c3, c4, decide_false, Bool.or_false, Bool.false_eq_true, if_false, Sem.run_bind, run_askRoom, Result.andThen_ok, hz.run_sizeOf, Int.toNat_natCast]
      by_cases h0 : M * zv.cells.size = 0
      · have e0 : conc = #[] := by simp [conc, h0]
        rw [e0]
        simp only [h0, if_true, Sem.run_bind, Sem.run_pure, Result.andThen_ok, newRow, run_newObj, Array.range_zero', Array.map_empty]
        rfl
      · simp only [if_neg h0, Sem.run_bind, Sem.run_pure, Result.andThen_ok, newRow, run_newObj, hzr]
        rfl
    · refine .slice (L := ⟨w.heap.size, 0, conc.size, zv.cells.size⟩) M (Ren.set_self _ _ _) hm fun _ => ?_
      simp only [hcs]; omega

end
end Go.Abs

/- append and copy over the abstract heap. -/
namespace Go.Abs
open Go.RowKit

section
variable {P : Program} {T : Nat → Prop} {env : Env} {n : Nat} {g : AH}
variable {dst : Option Tmp} {ty : TypeId} {pos : String} {after : Array Edge} {gd : Option (Nat × Bool)}

/-- What append and copy read: k elements of z cells each, the cells xs. -/
inductive Src (g : AH) (z : Nat) : Value → Nat → List Value → Prop
  | slice {b o m k : Nat} (hk : k ≤ m) (hkn : known (rd g b o (k * z)) = true) : Src g z (.slice (some ⟨b, o, none⟩) m m) k (rd g b o (k * z))
  | nil : Src g z (.slice none 0 0) 0 []
  | str {s : ByteArray} {k : Nat} (hz : z = 1) (hk : k ≤ s.size) : Src g z (.string s) k ((s.data.toList.take k).map fun b => .int .u8 b.toNat)

theorem Src.length {g : AH} {z : Nat} {v : Value} {k : Nat} {xs : List Value} (h : Src g z v k xs) : xs.length = k * z := by
  cases h with
  | slice hk hkn => exact rd_length _ _ _ _
  | nil => simp
  | @str s k hz hk =>
    subst hz
    have e : s.data.toList.length = s.size := rfl
    rw [List.length_map, List.length_take, e]; omega
theorem Src.known {g : AH} {z : Nat} {v : Value} {k : Nat} {xs : List Value} (h : Src g z v k xs) : known xs = true := by
  cases h with
  | slice hk hkn => exact hkn
  | nil => rfl
  | str hz hk =>
    rename_i s
    generalize s.data.toList.take k = l
    induction l with
    | nil => rfl
    | cons a l ih => simpa [Abs.known] using ih

theorem Src.run {H : AH} {w0 : Base} {w : World} {ρ : Ren} {z : Nat} {v c : Value} {k : Nat} {xs : List Value} (h : Src g z v k xs) (hl : g.le H) (hs : Sim w0 ρ H w) (hv : VRel ρ v c) (hz : z ≠ 0) :
    ∃ cs : List Value, cs.length = k * z ∧ (∀ i, i < k * z → VRel ρ (xs.getD i (.tuple #[])) (cs.getD i (.tuple #[]))) ∧ (Builtin.firstCells z k c).run P w = .ok cs.toArray w := by
  cases h with
  | @slice b o m k hk hkn =>
    cases hv with
    | @slice _ _ _ L c' hL hn hc =>
      obtain ⟨cs, k1, k2, k3⟩ := hs.rd (P := P) hl hL hkn
      exact ⟨cs, k1, fun i hi => (k2 i hi).2, by simpa [Builtin.firstCells] using k3⟩
    | slice0 a hL =>
      have : k = 0 := by omega
      subst this
      exact ⟨[], by simp, fun i hi => by omega, by simp [Builtin.firstCells, loadCells, loadCellsFrom]⟩
  | nil => cases hv; exact ⟨[], by simp, fun i hi => by omega, by simp [Builtin.firstCells]⟩
  | @str s k hz1 hk =>
    have := hv.string_inv; subst this
    subst hz1
    refine ⟨(s.data.toList.take k).map fun b => .int .u8 b.toNat, by
      have e : s.data.toList.length = s.size := rfl
      rw [List.length_map, List.length_take, e]; omega, fun i hi => ?_, ?_⟩
    · generalize s.data.toList.take k = l
      by_cases hi : i < l.length
      · simp [List.getD, hi]; exact .int _ _
      · simp [List.getD, List.getElem?_eq_none (Nat.le_of_not_lt hi)]; exact .unk _
    · simp only [Builtin.firstCells, Sem.run_pure]
      congr 1
      apply Array.ext'
      rw [ByteArray.data_extract]; simp
/-- It is no int. -/
def notIntD : TypeDesc → Bool
  | .int _ => false
  | _ => true

/-- All of a value's elements. -/
def full (v : Value) (k : Nat) : Prop := match v with | .slice _ m _ => m = k | .string s => s.size = k | _ => True

theorem Src.len {ρ : Ren} {z : Nat} {v c : Value} {k : Nat} {xs : List Value} (h : Src g z v k xs) (hv : VRel ρ v c) (w : World) (hfull : full v k) : (Builtin.lenOf c).run P w = .ok k w := by
  cases h with
  | slice hk hkn => simp only [full] at hfull; subst hfull; cases hv <;> simp [Builtin.lenOf]
  | nil => cases hv; simp [Builtin.lenOf]
  | str hz hk => simp only [full] at hfull; have := hv.string_inv; subst this; simp [Builtin.lenOf, hfull]

theorem World.drew_drawn (w : World) : ({ w with drawn := w.drawn + 1 } : World) = w.drew := rfl

/-- Nothing is appended. -/
theorem op_append0 {t t2 e : TypeId} {x y : Operand} {d d2 : TypeDesc} {z by_ : Nat} {zv : Value} {a : Option Addr} {m c : Nat} (hu : P.underlying t = some (.slice e)) (hz : TI P e d z by_ zv) (hz0 : z ≠ 0)
    (ht2 : P.underlying t2 = some d2) (hd2 : notIntD d2 = true) (hx : ev env x = .slice a m c) (hy : Src g z (ev env y) 0 []) (hfl : full (ev env y) 0) :
    OpEv P T ⟨dst, .call { callee := .builtin .append, args := #[x, y], argTypes := #[t, t2] }, ty, pos, after, gd⟩ env n g (ev env x) n .nil :=
  .look fun w0 ρ w H ce hl hs hop => by
    have h1 := hop x (by simp [Op.operands, Call.operands])
    have h2 := hop y (by simp [Op.operands, Call.operands])
    have hr : (underlying t).run P w = .ok (.slice e) w := by simp [underlying, hu]
    have hr2 : (underlying t2).run P w = .ok d2 w := by simp [underlying, ht2]
    have hnz : ((match (generalizing := false) d2 with | .int _ => true | _ => false) : Bool) = false := by cases d2 <;> simp_all [notIntD]
    obtain ⟨cs, k1, k2, k3⟩ := hy.run (P := P) hl hs h2 hz0
    have hcs : cs = [] := List.eq_nil_of_length_eq_zero (by simpa using k1)
    subst hcs
    have hlen := hy.len (P := P) h2 w hfl
    refine ⟨ce x, ?_, h1⟩
    rw [hx] at h1
    have key : ∀ (A : Option Addr) (C : Nat), m ≤ C → ce x = .slice A m C → (Builtin.append_ #[t, t2] ty #[ce x, ce y]).run P w = .ok (ce x) w := by
      intro A C hC hcx
      rw [hcx]
      have e0 : (#[t, t2] : Array TypeId)[0]? = some t := rfl
      have e1 : (#[t, t2] : Array TypeId)[1]? = some t2 := rfl
      have e2 : (#[Value.slice A m C, ce y] : Array Value)[0]? = some (.slice A m C) := rfl
      have e3 : (#[Value.slice A m C, ce y] : Array Value)[1]? = some (ce y) := rfl
      simp only [Builtin.append_, e0, e1, e2, e3]
      simp only [Sem.run_bind, hr, hr2, Result.andThen_ok, hz.run_sizeOf, Sem.run_pure, Sem.run_map]
      rw [if_neg (by intro h; cases d2 <;> simp_all [notIntD])]
      simp only [Sem.run_bind, hlen, Result.andThen_ok, Nat.add_zero, if_pos hC]
      rw [if_pos (by cases d2 <;> simp_all [notIntD])]
      simp only [Sem.run_bind, k3, Result.andThen_ok]
      cases A with
      | none => rfl
      | some A => simp [storeCells]
    have : (Builtin.append_ #[t, t2] ty #[ce x, ce y]).run P w = .ok (ce x) w := by
      generalize hcx : ce x = q at h1
      rw [← hcx]
      cases h1 with
      | slice C h hn hc => exact key _ C hn hcx
      | slice0 A h => exact key _ 0 (Nat.le_refl _) hcx
      | nilSlice => exact key _ 0 (Nat.le_refl _) hcx
    simp [execOp, resolve, invoke, builtin, this]

theorem append_fit {t t2 e : TypeId} {d d2 : TypeDesc} {z by_ : Nat} {zv : Value} (hu : P.underlying t = some (.slice e)) (hz : TI P e d z by_ zv)
    (ht2 : P.underlying t2 = some d2) (hd2 : notIntD d2 = true) {a : Addr} {m C k : Nat} {y : Value} {cs : List Value} {w w' : World} (hC : m + k ≤ C)
    (hlen : (Builtin.lenOf y).run P w = .ok k w) (hcs : (Builtin.firstCells z k y).run P w = .ok cs.toArray w) (hst : (storeCells (a.add (m * z)) cs).run P w = .ok () w') :
    (Builtin.append_ #[t, t2] ty #[.slice (some a) m C, y]).run P w = .ok (.slice (some a) (m + k) C) w' := by
  have hr : (underlying t).run P w = .ok (.slice e) w := by simp [underlying, hu]
  have hr2 : (underlying t2).run P w = .ok d2 w := by simp [underlying, ht2]
  have e0 : (#[t, t2] : Array TypeId)[0]? = some t := rfl
  have e1 : (#[t, t2] : Array TypeId)[1]? = some t2 := rfl
  have e2 : (#[Value.slice (some a) m C, y] : Array Value)[0]? = some (.slice (some a) m C) := rfl
  have e3 : (#[Value.slice (some a) m C, y] : Array Value)[1]? = some y := rfl
  simp only [Builtin.append_, e0, e1, e2, e3]
  simp only [Sem.run_bind, hr, hr2, Result.andThen_ok, hz.run_sizeOf, Sem.run_pure, Sem.run_map]
  rw [if_neg (by intro h; cases d2 <;> simp_all [notIntD])]
  simp only [Sem.run_bind, hlen, Result.andThen_ok, if_pos hC]
  rw [if_pos (by cases d2 <;> simp_all [notIntD])]
  simp only [Sem.run_bind, hcs, Result.andThen_ok, hst, Sem.run_pure]

theorem append_grow {t t2 e : TypeId} {d d2 : TypeDesc} {z by_ : Nat} {zv : Value} (hu : P.underlying t = some (.slice e)) (hz : TI P e d z by_ zv)
    (ht2 : P.underlying t2 = some d2) (hd2 : notIntD d2 = true) {A : Option Addr} {m C k : Nat} {y : Value} {olds cs : List Value} {w : World} (hC : C < m + k)
    (hb0 : by_ ≠ 0) (hbig : (m + k) * by_ ≤ 140737488355328)
    (hlen : (Builtin.lenOf y).run P w = .ok k w) (hcs : ∀ w1, w1 = w.drew → (Builtin.firstCells z k y).run P w1 = .ok cs.toArray w1) (hold : ∀ w1, w1 = w.drew → (Builtin.firstCells z m (.slice A m C)).run P w1 = .ok olds.toArray w1) :
    ∃ (N : Nat), m + k ≤ N ∧ (Builtin.append_ #[t, t2] ty #[.slice A m C, y]).run P w = .ok (.slice (some ⟨w.heap.size, 0, none⟩) (m + k) N) (w.drew.alloc (.cells (olds.toArray ++ cs.toArray ++ Builtin.zeroCells zv.cells (N - (m + k))) e)) := by
  have hr : ∀ w1, (underlying t).run P w1 = .ok (.slice e) w1 := fun w1 => by simp [underlying, hu]
  have hr2 : ∀ w1, (underlying t2).run P w1 = .ok d2 w1 := fun w1 => by simp [underlying, ht2]
  have e0 : (#[t, t2] : Array TypeId)[0]? = some t := rfl
  have e1 : (#[t, t2] : Array TypeId)[1]? = some t2 := rfl
  have e2 : (#[Value.slice A m C, y] : Array Value)[0]? = some (.slice A m C) := rfl
  have e3 : (#[Value.slice A m C, y] : Array Value)[1]? = some y := rfl
  obtain ⟨i, hi1, hi2⟩ := hz.info
  have hti : ∀ w1, (typeInfo e).run P w1 = .ok i w1 := fun w1 => by simp [typeInfo, hi1]
  have hib : i.bytes = by_ := hi2.2.1
  refine ⟨m + k + w.tape w.drawn (.appendCap (m + k) C e) % (2 ^ 63 - (m + k)), by omega, ?_⟩
  have hfits := growslice_fits hC hbig
  simp only [Builtin.append_, e0, e1, e2, e3]
  simp only [Sem.run_bind, hr, hr2, Result.andThen_ok, hz.run_sizeOf, Sem.run_pure, Sem.run_map]
  rw [if_neg (by intro h; cases d2 <;> simp_all [notIntD])]
  simp only [Sem.run_bind, hlen, Result.andThen_ok]
  rw [if_neg (by omega)]
  simp only [Sem.run_bind, hti, Result.andThen_ok, hib]
  rw [if_neg (by
    rintro ⟨_, h1 | h1⟩
    · cases d2 <;> simp_all [notIntD]
    · exact hb0 h1)]
  simp only [Sem.run_bind, hti, Result.andThen_ok, hib]
  rw [if_neg (show ¬ (Builtin.nextslicecap (m + k) C * by_ > 2 ^ 48) by
    have : (2 : Nat) ^ 48 = 281474976710656 := by decide
    omega)]
  simp only [Sem.run_bind, run_choose, Question.forced, Bool.false_eq_true, if_false, Result.andThen_ok, Question.cut, hti, hib, run_askRoom]
  rw [World.drew_drawn, hold _ rfl]
  simp only [Result.andThen_ok]
  rw [if_pos (by cases d2 <;> simp_all [notIntD]), hcs _ rfl]
  simp only [Result.andThen_ok, hz.run_zeroValue, newRow, Sem.run_bind, run_newObj, Sem.run_pure]
  rfl

end
end Go.Abs

/- append over the abstract heap: the operation. -/
namespace Go.Abs
open Go.RowKit

theorem Sim.drew {w0 : Base} {w : World} {ρ : Ren} {h : AH} (s : Sim w0 ρ h w) : Sim w0 ρ h w.drew := s.drawn _

section
variable {P : Program} {T : Nat → Prop} {env : Env} {n : Nat} {g : AH}
variable {dst : Option Tmp} {ty : TypeId} {pos : String} {after : Array Edge} {gd : Option (Nat × Bool)}

theorem op_appendNil {t t2 e : TypeId} {x y : Operand} {d d2 : TypeDesc} {z by_ k : Nat} {zv : Value} {xs : List Value} (hu : P.underlying t = some (.slice e)) (hz : TI P e d z by_ zv) (hz0 : z ≠ 0) (hzz : zv.cells.size = z)
    (hb0 : by_ ≠ 0) (ht2 : P.underlying t2 = some d2) (hd2 : notIntD d2 = true) (hx : ev env x = .slice none 0 0) (hy : Src g z (ev env y) k xs) (hfl : full (ev env y) k)
    (hk0 : k ≠ 0) (hbig : k * by_ ≤ 140737488355328) :
    OpEv P T ⟨dst, .call { callee := .builtin .append, args := #[x, y], argTypes := #[t, t2] }, ty, pos, after, gd⟩ env n g (.slice (some ⟨n, 0, none⟩) k k) (n + 1) (.new n ⟨xs.length, 0, true, z⟩ xs) :=
  op_new fun w0 ρ w H ce hl hs hop => by
    have h1 := hop x (by simp [Op.operands, Call.operands])
    have h2 := hop y (by simp [Op.operands, Call.operands])
    rw [hx] at h1
    have hcx : ce x = .slice none 0 0 := by generalize ce x = q at h1; cases h1; rfl
    obtain ⟨cs, k1, k2, k3⟩ := hy.run (P := P) hl hs.drew h2 hz0
    have hlen := hy.len (P := P) h2 w hfl
    obtain ⟨N, hN, hrun⟩ := append_grow (P := P) (ty := ty) hu hz ht2 hd2 (A := none) (m := 0) (C := 0) (k := k) (y := ce y) (olds := []) (cs := cs) (w := w) (by omega) hb0 (by simpa using hbig) hlen
      (fun w1 e => by subst e; exact k3) (fun w1 e => by simp [Builtin.firstCells])
    have hxl := hy.length
    refine ⟨w.drew, #[] ++ cs.toArray ++ Builtin.zeroCells zv.cells (N - (0 + k)), e, .slice (some ⟨w.heap.size, 0, none⟩) (0 + k) N, hs.drew, ?_, fun i hi => ?_, ?_, ?_⟩
    · simp [k1, hxl]
    · have hi' : i < k * z := by omega
      have := k2 i hi'
      have e : (#[] ++ cs.toArray ++ Builtin.zeroCells zv.cells (N - (0 + k))).getD i (.tuple #[]) = cs.getD i (.tuple #[]) := by
        simp [Array.getD_eq_getD_getElem?, List.getD, Array.getElem?_append, k1, hi']
      rw [e]; exact this
    · simp [execOp, resolve, invoke, builtin, hcx, hrun]
    · rw [Nat.zero_add]
      refine .slice (L := ⟨w.drew.heap.size, 0, _, z⟩) N (Ren.set_self _ _ _) (by omega) fun _ => ?_
      have hsz : (#[] ++ cs.toArray ++ Builtin.zeroCells zv.cells (N - k)).size = k * z + (N - k) * z := by simp [Builtin.zeroCells, k1, hzz]
      show 0 + N * z ≤ (#[] ++ cs.toArray ++ Builtin.zeroCells zv.cells (N - k)).size
      have : k * z + (N - k) * z = N * z := by rw [← Nat.add_mul]; congr 1; omega
      omega

theorem within_takeover {T : Nat → Prop} {b n : Nat} {keep : Bool} {sz lk ez : Nat} {cs : List Value} (hT : T b ∨ n ≤ b) (hb : b < n) : Within T n (n + 1) (.takeover b n keep sz lk ez cs) := by
  intro x hx
  have : x = n ∨ x = b := by
    rcases hx with h | ⟨i, h⟩
    · simp only [Dl.takeover] at h
      split at h
      · left; assumption
      · split at h
        · right; assumption
        · exact absurd rfl h
    · simp only [Dl.takeover] at h
      split at h
      · left; assumption
      · split at h
        · right; assumption
        · exact absurd rfl h
  rcases this with rfl | rfl
  · exact ⟨.inr (Nat.le_refl _), Nat.lt_succ_self _⟩
  · exact ⟨hT, by omega⟩

theorem op_append {t t2 e : TypeId} {x y : Operand} {d d2 : TypeDesc} {z by_ k b m : Nat} {zv : Value} {xs : List Value} {mm : Meta} (keep : Bool) (hu : P.underlying t = some (.slice e)) (hz : TI P e d z by_ zv) (hz0 : z ≠ 0) (hzz : zv.cells.size = z)
    (hb0 : by_ ≠ 0) (ht2 : P.underlying t2 = some d2) (hd2 : notIntD d2 = true) (hx : ev env x = .slice (some ⟨b, 0, none⟩) m m) (hy : Src g z (ev env y) k xs) (hfl : full (ev env y) k)
    (hi : g.info b = some mm) (hms : mm.size = m * z) (hmt : mm.tail = true) (hmz : mm.sz = z) (hkn : known (rd g b 0 (m * z)) = true) (hT : T b ∨ n ≤ b) (hbn : b < n)
    (hk0 : k ≠ 0) (hbig : (m + k) * by_ ≤ 140737488355328) :
    OpEv P T ⟨dst, .call { callee := .builtin .append, args := #[x, y], argTypes := #[t, t2] }, ty, pos, after, gd⟩ env n g (.slice (some ⟨n, 0, none⟩) (m + k) (m + k)) (n + 1)
      (.takeover b n keep mm.size (if keep then mm.size else mm.lock) z (rd g b 0 (m * z) ++ xs)) where
  le := Nat.le_succ _
  within := within_takeover hT hbn
  run := fun rq w0 ρ w H a next Q hl hf hs hop K => by
    have hn := hf n (Nat.le_refl _) (Nat.lt_succ_self _)
    have h1 := hop x (by simp [Op.operands, Call.operands])
    have h2 := hop y (by simp [Op.operands, Call.operands])
    rw [hx] at h1
    have hI := hl.info b mm hi
    have hxl := hy.length
    have hcl : (rd g b 0 (m * z) ++ xs).length = (m + k) * z := by rw [List.length_append, rd_length, hxl, Nat.add_mul]
    have hlen := hy.len (P := P) h2 w hfl
    obtain ⟨L, hL, hLz, hLe, hlk, hown⟩ := hs.info b mm hI
    -- what grows
    have grow : ∀ (A : Option Addr) (C : Nat), C < m + k → a.eval x = .slice A m C → (∃ olds : List Value, olds.length = m * z ∧ (∀ i, i < m * z → VRel ρ ((rd g b 0 (m * z)).getD i (.tuple #[])) (olds.getD i (.tuple #[]))) ∧
        (Builtin.firstCells z m (.slice A m C)).run P w.drew = .ok olds.toArray w.drew) → (Oper.wpIn (FW rq) 0 P ⟨dst, .call { callee := .builtin .append, args := #[x, y], argTypes := #[t, t2] }, ty, pos, after, gd⟩ a w next Q) := by
      intro A C hC hcx ⟨olds, o1, o2, o3⟩
      obtain ⟨cs, k1, k2, k3⟩ := hy.run (P := P) hl hs.drew h2 hz0
      obtain ⟨N, hN, hrun⟩ := append_grow (P := P) (ty := ty) hu hz ht2 hd2 (A := A) (m := m) (C := C) (k := k) (y := a.eval y) (olds := olds) (cs := cs) (w := w) hC hb0 hbig hlen
        (fun w1 e => by subst e; exact k3) (fun w1 e => by subst e; exact o3)
      have hrel : ∀ i, i < (rd g b 0 (m * z) ++ xs).length → VRel ρ ((rd g b 0 (m * z) ++ xs).getD i (.tuple #[])) ((olds.toArray ++ cs.toArray ++ Builtin.zeroCells zv.cells (N - (m + k))).getD i (.tuple #[])) := by
        intro i hi'
        rw [hcl] at hi'
        have e2 : (olds.toArray ++ cs.toArray ++ Builtin.zeroCells zv.cells (N - (m + k))).getD i (.tuple #[]) = (olds ++ cs).getD i (.tuple #[]) := by
          have : i < (olds ++ cs).length := by rw [List.length_append, o1, k1, ← Nat.add_mul]; exact hi'
          have h3 : i < (olds.toArray ++ cs.toArray).size := by simpa using this
          rw [Array.getD_eq_getD_getElem?, Array.getElem?_append_left h3]
          simp [List.getD]
        rw [e2]
        by_cases hlt : i < m * z
        · have := o2 i hlt
          rw [List.getD, List.getD, List.getElem?_append_left (by rw [rd_length]; exact hlt), List.getElem?_append_left (by rw [o1]; exact hlt)]
          exact this
        · have hj : i - m * z < k * z := by rw [Nat.add_mul] at hi'; omega
          have := k2 (i - m * z) hj
          rw [List.getD, List.getD, List.getElem?_append_right (by rw [rd_length]; omega), List.getElem?_append_right (by rw [o1]; omega), rd_length, o1]
          exact this
      have hcsz : (olds.toArray ++ cs.toArray ++ Builtin.zeroCells zv.cells (N - (m + k))).size = N * z := by
        simp only [Array.size_append, List.size_toArray, o1, k1, Builtin.zeroCells, Array.size_map, Array.size_range, hzz]
        rw [← Nat.add_mul, ← Nat.add_mul]; congr 1; omega
      have hs1 := hs.drew.new hn (rd g b 0 (m * z) ++ xs) _ e z (by rw [hcl, hcsz]; exact Nat.mul_le_mul_right _ hN) hrel
      -- the old block gives up
      have hs2 : Sim w0 (ρ.set n ⟨w.heap.size, 0, (olds.toArray ++ cs.toArray ++ Builtin.zeroCells zv.cells (N - (m + k))).size, z⟩)
          (H.app (.takeover b n keep mm.size (if keep then mm.size else mm.lock) z (rd g b 0 (m * z) ++ xs))) (w.drew.alloc (.cells (olds.toArray ++ cs.toArray ++ Builtin.zeroCells zv.cells (N - (m + k))) e)) := by
        have hbn' : b ≠ n := by omega
        refine hs1.shrink ?_ ?_ ?_
        · intro q mq hq
          by_cases e1 : q = n
          · subst e1
            simp only [AH.app, Dl.takeover, Dl.new, if_true, Option.getD_some, Option.some.injEq] at hq ⊢
            subst hq
            refine ⟨_, rfl, rfl, Nat.le_refl _, ?_, fun K i _ ho => ⟨Nat.zero_le _, by simpa using ho.2⟩⟩
            simp only [hcl]
            have : m * z ≤ (m + k) * z := Nat.mul_le_mul_right _ (by omega)
            cases keep <;> simp <;> omega
          · by_cases e2 : q = b
            · subst e2
              simp only [AH.app, Dl.takeover, Dl.new, if_neg e1, if_true, Option.getD_some, Option.getD_none] at hq ⊢
              cases keep
              · simp at hq
              · simp at hq; subst hq
                exact ⟨mm, hI, hmz.symm, Nat.le_refl _, Nat.le_refl _, fun K i _ ho => by
                  obtain ⟨p1, p2⟩ := ho
                  simp only [Tail.isExt_of, Bool.false_eq_true, if_false] at p1 p2; omega⟩
            · simp only [AH.app, Dl.takeover, Dl.new, if_neg e1, if_neg e2, Option.getD_none] at hq ⊢
              have hqs := hs.info q mq hq
              obtain ⟨Lq, _, _, _, q4, _⟩ := hqs
              exact ⟨mq, hq, rfl, Nat.le_refl _, q4, fun K i _ ho => ho⟩
        · intro q mq o hq ho
          by_cases e1 : q = n
          · subst e1
            simp only [AH.app, Dl.takeover, Dl.new, if_true, Option.getD_some, Option.some.injEq] at hq
            subst hq; cases ho
          · by_cases e2 : q = b
            · subst e2
              simp only [AH.app, Dl.takeover, Dl.new, if_neg e1, if_true, Option.getD_some, Option.getD_none] at hq
              cases keep
              · simp at hq
              · simp at hq; subst hq; cases ho
            · simp only [AH.app, Dl.takeover, Dl.new, if_neg e1, if_neg e2, Option.getD_none] at hq ⊢
              exact hq
        · intro q i
          by_cases e1 : q = n
          · subst e1; right; simp [AH.app, Dl.takeover, Dl.new]
          · by_cases e2 : q = b
            · subst e2
              by_cases e3 : (keep && decide (i < mm.size)) = true
              · right; simp only [AH.app, Dl.takeover, Dl.new, if_neg e1, if_true]; rw [if_pos e3]
              · left; simp only [AH.app, Dl.takeover, Dl.new, if_neg e1, if_true]; rw [if_neg e3]; rfl
            · right; simp [AH.app, Dl.takeover, Dl.new, e1, e2]
      have hexec : (execOp a.eval ⟨dst, .call { callee := .builtin .append, args := #[x, y], argTypes := #[t, t2] }, ty, pos, after, gd⟩).run P w =
          .ok (.value (.slice (some ⟨w.heap.size, 0, none⟩) (m + k) N)) (w.drew.alloc (.cells (olds.toArray ++ cs.toArray ++ Builtin.zeroCells zv.cells (N - (m + k))) e)) := by
        simp [execOp, resolve, invoke, builtin, hcx, hrun]
      refine wpA_value hexec ?_
      refine K _ _ _ (.one hn _) (.slice N (Ren.set_self _ _ _) hN fun _ => ?_) hs2
      simp only [hcsz]; omega
    generalize hcx : a.eval x = q at h1
    cases h1 with
    | @slice _ _ _ L' C hL' hmC hcc =>
      rw [hL] at hL'; cases hL'
      by_cases hfit : m + k ≤ C
      · -- it fits: the slack is taken
        obtain ⟨cs, k1, k2, k3⟩ := hy.run (P := P) hl hs h2 hz0
        have hCe : 0 + C * z ≤ L.ext := by have := hcc (by omega); rw [hLz, hmz] at this; exact this
        have hfz : (m + k) * z ≤ C * z := Nat.mul_le_mul_right _ hfit
        obtain ⟨e1, e2⟩ := hs.storeCells (P := P) (o := m * z) hI hL xs cs (by omega) (fun j hj => ⟨by omega, by rw [hmt, if_pos (Tail.isExt_of _)]; rw [Nat.add_mul] at hfz; omega⟩)
          (fun j hj => k2 j (by omega)) hy.known
        have hrun := append_fit (P := P) (ty := ty) hu hz ht2 hd2 (a := ⟨L.blk, L.off + 0, none⟩) hfit hlen k3 (w' := w.setCells L.blk (L.off + m * z) cs) (by rw [addr_add, Nat.add_zero]; exact e1)
        have hexec : (execOp a.eval ⟨dst, .call { callee := .builtin .append, args := #[x, y], argTypes := #[t, t2] }, ty, pos, after, gd⟩).run P w =
            .ok (.value (.slice (some ⟨L.blk, L.off + 0, none⟩) (m + k) C)) (w.setCells L.blk (L.off + m * z) cs) := by
          simp only [Nat.add_zero] at hrun
          simp [execOp, resolve, invoke, builtin, hcx, hrun]
        have hs2 := e2.takeover (b := b) (n := n) (m := mm) (L := L) (by rw [sets_info]; exact hI) hL hmt hn keep (rd g b 0 (m * z) ++ xs) (if keep then mm.size else mm.lock) rfl (by rw [hcl, hms]; exact Nat.mul_le_mul_right _ (by omega)) (by rw [hcl]; omega)
          (fun i hi' => by
            rw [hcl] at hi'
            by_cases hlt : i < m * z
            · have e3 : (rd g b 0 (m * z) ++ xs).getD i (.tuple #[]) = g.cell b i := by
                rw [List.getD, List.getElem?_append_left (by rw [rd_length]; exact hlt)]
                have := rd_getD g b (m * z) 0 i hlt
                rw [Nat.zero_add] at this; exact this
              rw [e3]
              have e4 : (H.app (.sets b (m * z) xs)).cell b i = H.cell b i := by
                simp only [AH.app, Dl.sets]; rw [if_neg (by omega)]; rfl
              rw [e4]
              rcases hl.cell b i with h5 | h5
              · exact .inr h5
              · exact .inl h5
            · left
              have e3 : (rd g b 0 (m * z) ++ xs).getD i (.tuple #[]) = xs.getD (i - m * z) (.tuple #[]) := by
                rw [List.getD, List.getElem?_append_right (by rw [rd_length]; omega), rd_length]; rfl
              rw [e3]
              simp only [AH.app, Dl.sets]
              rw [if_pos (by refine ⟨by trivial, by omega, ?_⟩; rw [hxl]; rw [Nat.add_mul] at hi'; omega)]; rfl)
        rw [hmz, ← AH.app_comp] at hs2
        have hd : (Dl.sets b (m * z) xs).comp (.takeover b n keep mm.size (if keep then mm.size else mm.lock) z (rd g b 0 (m * z) ++ xs)) =
            .takeover b n keep mm.size (if keep then mm.size else mm.lock) z (rd g b 0 (m * z) ++ xs) := by
          simp only [Dl.comp, Dl.takeover, Dl.sets, Dl.mk.injEq]
          constructor
          · funext q; simp
          · funext q i
            by_cases e1 : q = n
            · simp [e1]
            · by_cases e2 : q = b
              · subst e2
                by_cases e3 : (keep && decide (i < mm.size)) = true
                · have : ¬ (m * z ≤ i ∧ i < m * z + xs.length) := by simp at e3; omega
                  simp only [if_neg e1, if_true, true_and]
                  rw [if_pos e3, if_neg this]; rfl
                · simp only [if_neg e1, if_true]
                  rw [if_neg e3]; rfl
              · simp [e1, e2]
        rw [hd] at hs2
        refine wpA_value hexec ?_
        refine K _ _ _ (.one hn L) ?_ hs2
        exact .slice (L := L) C (Ren.set_self _ _ _) hfit (fun _ => by rw [hLz, hmz]; exact hCe)
      · exact grow _ C (by omega) hcx (by
          obtain ⟨cs, k1, k2, k3⟩ := hs.drew.rd (P := P) (o := 0) hl hL hkn
          exact ⟨cs, k1, fun i hi' => (k2 i hi').2, by simpa [Builtin.firstCells] using k3⟩)
    | slice0 A hL' =>
      exact grow _ 0 (by omega) hcx ⟨[], by simp, fun i hi' => by omega, by simp [Builtin.firstCells, loadCells, loadCellsFrom]⟩

end
end Go.Abs

/- append over the abstract heap, whatever is appended: elements, or so many zeros. -/
namespace Go.Abs
open Go.RowKit

section
variable {P : Program} {T : Nat → Prop} {env : Env} {n : Nat} {g : AH}
variable {dst : Option Tmp} {ty : TypeId} {pos : String} {after : Array Edge} {gd : Option (Nat × Bool)}

/-- What is appended: k elements of z cells each, the cells xs. -/
structure AppY (P : Program) (t t2 ty e : TypeId) (z by_ : Nat) (zv : Value) (g : AH) (v : Value) (k : Nat) (xs : List Value) : Prop where
  len : xs.length = k * z
  kn : known xs = true
  run : ∀ (w0 : Base) (ρ : Ren) (w : World) (H : AH) (c : Value), g.le H → Sim w0 ρ H w → VRel ρ v c → ∃ cs : List Value, cs.length = k * z ∧ (∀ i, i < k * z → VRel ρ (xs.getD i (.tuple #[])) (cs.getD i (.tuple #[]))) ∧
    (∀ (A : Addr) (m C : Nat) (w' : World), m + k ≤ C → (storeCells (A.add (m * z)) cs).run P w = .ok () w' → (Builtin.append_ #[t, t2] ty #[.slice (some A) m C, c]).run P w = .ok (.slice (some A) (m + k) C) w') ∧
    (∀ (A : Option Addr) (m C : Nat) (olds : List Value), C < m + k → (m + k) * by_ ≤ 140737488355328 → (Builtin.firstCells z m (.slice A m C)).run P w.drew = .ok olds.toArray w.drew →
      ∃ N : Nat, m + k ≤ N ∧ (Builtin.append_ #[t, t2] ty #[.slice A m C, c]).run P w = .ok (.slice (some ⟨w.heap.size, 0, none⟩) (m + k) N) (w.drew.alloc (.cells (olds.toArray ++ cs.toArray ++ Builtin.zeroCells zv.cells (N - (m + k))) e)))

theorem AppY.src {t t2 e : TypeId} {d d2 : TypeDesc} {z by_ k : Nat} {zv v : Value} {xs : List Value} (hu : P.underlying t = some (.slice e)) (hz : TI P e d z by_ zv) (hz0 : z ≠ 0) (hb0 : by_ ≠ 0) (ht2 : P.underlying t2 = some d2) (hd2 : notIntD d2 = true)
    (hy : Src g z v k xs) (hfl : full v k) : AppY P t t2 ty e z by_ zv g v k xs where
  len := hy.length
  kn := hy.known
  run := fun w0 ρ w H c hl hs hv => by
    obtain ⟨cs, k1, k2, k3⟩ := hy.run (P := P) hl hs.drew hv hz0
    have hlen := hy.len (P := P) hv w hfl
    obtain ⟨cs', k1', k2', k3'⟩ := hy.run (P := P) hl hs hv hz0
    have hsame : cs' = cs := by
      have hfc : ∀ (l l' : List Value), (Builtin.firstCells z k c).run P w = .ok l.toArray w → (Builtin.firstCells z k c).run P w.drew = .ok l'.toArray w.drew → l = l' := by
        intro l l' h1 h2
        have : (Builtin.firstCells z k c).run P w.drew = .ok l.toArray w.drew := by
          cases hy with
          | @slice b o m k hk hkn =>
            cases hv with
            | @slice _ _ _ L c' hL hn hc =>
              obtain ⟨q, q1, q2, q3⟩ := hs.rd (P := P) hl hL hkn
              obtain ⟨q', p1, p2, p3⟩ := hs.drew.rd (P := P) hl hL hkn
              have e : q = q' := by
                apply List.ext_getElem (by omega)
                intro i i1 i2
                have a1 := (q2 i (by omega)).1
                have a2 := (p2 i (by omega)).1
                have a3 : some (q.getD i (.tuple #[])) = some (q'.getD i (.tuple #[])) := a1.symm.trans a2
                simpa [List.getD, i1, i2] using a3
              subst e
              have h3 : (Builtin.firstCells z k (.slice (some ⟨L.blk, L.off + o, none⟩) m c')).run P w = .ok q.toArray w := by simpa [Builtin.firstCells] using q3
              rw [h3] at h1
              have e2 : q.toArray = l.toArray := by injection h1
              rw [← e2]
              simpa [Builtin.firstCells] using p3
            | slice0 a hL =>
              have : k = 0 := by omega
              subst this
              have h3 : (Builtin.firstCells z 0 (.slice (some a) 0 0)).run P w = .ok #[] w := by simp [Builtin.firstCells, loadCells, loadCellsFrom]
              rw [h3] at h1
              have e2 : #[] = l.toArray := by injection h1
              rw [← e2]; simp [Builtin.firstCells, loadCells, loadCellsFrom]
          | nil =>
            cases hv
            have h3 : (Builtin.firstCells z 0 (.slice none 0 0)).run P w = .ok #[] w := by simp [Builtin.firstCells]
            rw [h3] at h1
            have e2 : #[] = l.toArray := by injection h1
            rw [← e2]; simp [Builtin.firstCells]
          | @str s k hz1 hk =>
            have := hv.string_inv; subst this
            simp only [Builtin.firstCells, Sem.run_pure] at h1 ⊢
            injection h1 with h1
            rw [h1]
        rw [this] at h2
        injection h2 with h2
        simpa using h2
      exact hfc _ _ k3' k3
    subst hsame
    refine ⟨cs', k1, k2, fun A m C w' hC hst => append_fit (P := P) (ty := ty) hu hz ht2 hd2 hC hlen k3' hst, fun A m C olds hC hbig ho => ?_⟩
    exact append_grow (P := P) (ty := ty) hu hz ht2 hd2 hC hb0 hbig hlen (fun w1 e => by subst e; exact k3) (fun w1 e => by subst e; exact ho)

theorem wrap64' {a : Int} (h1 : 0 ≤ a) (h2 : a ≤ 140737488355328) : IntKind.i64.wrap a = a := by
  simp only [IntKind.wrap, IntKind.signed]; simp [IntKind.bits]; omega
/-- So many zeros. -/
theorem AppY.zeros {t t2 e : TypeId} {d : TypeDesc} {q kk : IntKind} {z by_ : Nat} {zv : Value} {l : Int} (hu : P.underlying t = some (.slice e)) (hz : TI P e d z by_ zv) (hz0 : z ≠ 0) (hb0 : by_ ≠ 0) (hzz : zv.cells.size = z) (hf : zv.cells.all (flat 8) = true)
    (ht2 : P.underlying t2 = some (.int q)) (h0 : 0 ≤ l) (hlim : l.toNat * by_ ≤ 140737488355328) (hkn : known (zrow zv.cells.toList l.toNat) = true) :
    AppY P t t2 ty e z by_ zv g (.int kk l) l.toNat (zrow zv.cells.toList l.toNat) where
  len := by rw [zrow_length, Array.length_toList, hzz]
  kn := hkn
  run := fun w0 ρ w H c hl hs hv => by
    have hc : c = .int kk l := hv.int_inv
    subst hc
    have hr : ∀ w1, (underlying t).run P w1 = .ok (.slice e) w1 := fun w1 => by simp [underlying, hu]
    have hr2 : ∀ w1, (underlying t2).run P w1 = .ok (.int q) w1 := fun w1 => by simp [underlying, ht2]
    obtain ⟨i, hi1, hi2⟩ := hz.info
    have hti : ∀ w1, (typeInfo e).run P w1 = .ok i w1 := fun w1 => by simp [typeInfo, hi1]
    have hib : i.bytes = by_ := hi2.2.1
    have hby : 1 ≤ by_ := Nat.pos_of_ne_zero hb0
    have hl47 : l.toNat ≤ 140737488355328 := Nat.le_trans (Nat.le_mul_of_pos_right _ hby) hlim
    have hwr : IntKind.i64.wrap l = l := wrap64' h0 (by omega)
    have e0 : (#[t, t2] : Array TypeId)[0]? = some t := rfl
    have e1 : (#[t, t2] : Array TypeId)[1]? = some t2 := rfl
    have hmul : l * (by_ : Int) = ((l.toNat * by_ : Nat) : Int) := by rw [Int.natCast_mul, Int.toNat_of_nonneg h0]
    have hlim2 : ¬ (l * (by_ : Int) > 2 ^ 48) := by
      rw [hmul]
      have : (2 : Int) ^ 48 = 281474976710656 := by decide
      omega
    have hcl : (Builtin.zeroCells zv.cells l.toNat).toList.length = l.toNat * z := by simp [Builtin.zeroCells, hzz]
    have happ : ∀ w1, ((if l.toNat * z = 0 then pure #[] else (do pure (Builtin.zeroCells (← zeroValue e).cells l.toNat) : Sem (Array Value))) : Sem (Array Value)).run P w1 = .ok (Builtin.zeroCells zv.cells l.toNat) w1 := by
      intro w1
      by_cases hk : l.toNat * z = 0
      · rw [if_pos hk]
        have : Builtin.zeroCells zv.cells l.toNat = #[] := Array.eq_empty_of_size_eq_zero (by simp [Builtin.zeroCells, hzz, hk])
        rw [this]; rfl
      · rw [if_neg hk]; simp [Sem.run_bind, hz.run_zeroValue, Sem.run_pure]
    refine ⟨(Builtin.zeroCells zv.cells l.toNat).toList, hcl, fun j hj => ?_, fun A m C w' hC hst => ?_, fun A m C olds hC hbig ho => ?_⟩
    · have := zrow_rel (ρ := ρ) hf l.toNat l.toNat (Nat.le_refl _) j (by rw [zrow_length, Array.length_toList, hzz]; exact hj)
      have e9 : (Builtin.zeroCells zv.cells l.toNat).toList.getD j (.tuple #[]) = (Builtin.zeroCells zv.cells l.toNat).getD j (.tuple #[]) := by simp [Array.getD_eq_getD_getElem?, List.getD]
      rw [e9]; exact this
    · have e2 : (#[Value.slice (some A) m C, .int kk l] : Array Value)[0]? = some (.slice (some A) m C) := rfl
      have e3 : (#[Value.slice (some A) m C, .int kk l] : Array Value)[1]? = some (.int kk l) := rfl
      simp only [Builtin.append_, e0, e1, e2, e3]
      simp only [Sem.run_bind, hr, hr2, Result.andThen_ok, hz.run_sizeOf, Sem.run_pure, Sem.run_map, asInt, asIntOf, if_true, hwr, if_neg (Int.not_lt.2 h0), hti, hib, if_neg hlim2]
      simp only [if_pos hC, Sem.run_bind, Bool.not_true, Bool.false_eq_true, if_false, Sem.run_pure, Result.andThen_ok]
      rw [happ w]
      simp only [Result.andThen_ok, hst]
    · obtain e2 : (#[Value.slice A m C, .int kk l] : Array Value)[0]? = some (.slice A m C) := rfl
      have e3 : (#[Value.slice A m C, .int kk l] : Array Value)[1]? = some (.int kk l) := rfl
      have hfits := growslice_fits hC hbig
      refine ⟨m + l.toNat + w.tape w.drawn (.appendCap (m + l.toNat) C e) % (2 ^ 63 - (m + l.toNat)), by omega, ?_⟩
      simp only [Builtin.append_, e0, e1, e2, e3]
      simp only [Sem.run_bind, hr, hr2, Result.andThen_ok, hz.run_sizeOf, Sem.run_pure, Sem.run_map, asInt, asIntOf, if_true, hwr, if_neg (Int.not_lt.2 h0), hti, hib, if_neg hlim2]
      rw [if_neg (by omega)]
      simp only [Sem.run_bind, hti, Result.andThen_ok, hib]
      have hneed : m + l.toNat ≤ 140737488355328 := Nat.le_trans (Nat.le_mul_of_pos_right _ hby) hbig
      have hmax : IntKind.i64.max = 9223372036854775807 := by decide
      rw [if_neg (by rintro ⟨h1, _⟩; rw [hmax] at h1; omega)]
      simp only [Sem.run_bind, hti, Result.andThen_ok, hib]
      rw [if_neg (show ¬ (Builtin.nextslicecap (m + l.toNat) C * by_ > 2 ^ 48) by
        have : (2 : Nat) ^ 48 = 281474976710656 := by decide
        omega)]
      simp only [Sem.run_bind, run_choose, Question.forced, Bool.false_eq_true, if_false, Result.andThen_ok, Question.cut, hti, hib, run_askRoom]
      rw [World.drew_drawn, ho]
      simp only [Result.andThen_ok, Bool.not_true, Bool.false_eq_true, if_false]
      rw [happ w.drew]
      simp only [Result.andThen_ok, hz.run_zeroValue, newRow, Sem.run_bind, run_newObj, Sem.run_pure]
      rfl

theorem op_appendNilY {t t2 e : TypeId} {x y : Operand} {d : TypeDesc} {z by_ k : Nat} {zv : Value} {xs : List Value} (hu : P.underlying t = some (.slice e)) (hz : TI P e d z by_ zv) (hz0 : z ≠ 0) (hzz : zv.cells.size = z)
    (hx : ev env x = .slice none 0 0) (hy : AppY P t t2 ty e z by_ zv g (ev env y) k xs)
    (hk0 : k ≠ 0) (hbig : k * by_ ≤ 140737488355328) :
    OpEv P T ⟨dst, .call { callee := .builtin .append, args := #[x, y], argTypes := #[t, t2] }, ty, pos, after, gd⟩ env n g (.slice (some ⟨n, 0, none⟩) k k) (n + 1) (.new n ⟨xs.length, 0, true, z⟩ xs) :=
  op_new fun w0 ρ w H ce hl hs hop => by
    have h1 := hop x (by simp [Op.operands, Call.operands])
    have h2 := hop y (by simp [Op.operands, Call.operands])
    rw [hx] at h1
    have hcx : ce x = .slice none 0 0 := by generalize ce x = q at h1; cases h1; rfl
    obtain ⟨cs, k1, k2, -, kg⟩ := hy.run w0 ρ w H (ce y) hl hs h2
    obtain ⟨N, hN, hrun⟩ := kg none 0 0 [] (by omega) (by simpa using hbig) (by simp [Builtin.firstCells])
    have hxl := hy.len
    refine ⟨w.drew, #[] ++ cs.toArray ++ Builtin.zeroCells zv.cells (N - (0 + k)), e, .slice (some ⟨w.heap.size, 0, none⟩) (0 + k) N, hs.drew, ?_, fun i hi => ?_, ?_, ?_⟩
    · simp [k1, hxl]
    · have hi' : i < k * z := by omega
      have := k2 i hi'
      have e : (#[] ++ cs.toArray ++ Builtin.zeroCells zv.cells (N - (0 + k))).getD i (.tuple #[]) = cs.getD i (.tuple #[]) := by
        simp [Array.getD_eq_getD_getElem?, List.getD, Array.getElem?_append, k1, hi']
      rw [e]; exact this
    · simp [execOp, resolve, invoke, builtin, hcx, hrun]
    · rw [Nat.zero_add]
      refine .slice (L := ⟨w.drew.heap.size, 0, _, z⟩) N (Ren.set_self _ _ _) (by omega) fun _ => ?_
      have hsz : (#[] ++ cs.toArray ++ Builtin.zeroCells zv.cells (N - k)).size = k * z + (N - k) * z := by simp [Builtin.zeroCells, k1, hzz]
      show 0 + N * z ≤ (#[] ++ cs.toArray ++ Builtin.zeroCells zv.cells (N - k)).size
      have : k * z + (N - k) * z = N * z := by rw [← Nat.add_mul]; congr 1; omega
      omega

theorem op_appendY {t t2 e : TypeId} {x y : Operand} {d : TypeDesc} {z by_ k b m : Nat} {zv : Value} {xs : List Value} {mm : Meta} (keep : Bool) (hu : P.underlying t = some (.slice e)) (hz : TI P e d z by_ zv) (hz0 : z ≠ 0) (hzz : zv.cells.size = z)
    (hx : ev env x = .slice (some ⟨b, 0, none⟩) m m) (hy : AppY P t t2 ty e z by_ zv g (ev env y) k xs)
    (hi : g.info b = some mm) (hms : mm.size = m * z) (hmt : mm.tail = true) (hmz : mm.sz = z) (hkn : known (rd g b 0 (m * z)) = true) (hT : T b ∨ n ≤ b) (hbn : b < n)
    (hk0 : k ≠ 0) (hbig : (m + k) * by_ ≤ 140737488355328) :
    OpEv P T ⟨dst, .call { callee := .builtin .append, args := #[x, y], argTypes := #[t, t2] }, ty, pos, after, gd⟩ env n g (.slice (some ⟨n, 0, none⟩) (m + k) (m + k)) (n + 1)
      (.takeover b n keep mm.size (if keep then mm.size else mm.lock) z (rd g b 0 (m * z) ++ xs)) where
  le := Nat.le_succ _
  within := within_takeover hT hbn
  run := fun rq w0 ρ w H a next Q hl hf hs hop K => by
    have hn := hf n (Nat.le_refl _) (Nat.lt_succ_self _)
    have h1 := hop x (by simp [Op.operands, Call.operands])
    have h2 := hop y (by simp [Op.operands, Call.operands])
    rw [hx] at h1
    have hI := hl.info b mm hi
    have hxl := hy.len
    have hcl : (rd g b 0 (m * z) ++ xs).length = (m + k) * z := by rw [List.length_append, rd_length, hxl, Nat.add_mul]
    obtain ⟨L, hL, hLz, hLe, hlk, hown⟩ := hs.info b mm hI
    -- what grows
    have grow : ∀ (A : Option Addr) (C : Nat), C < m + k → a.eval x = .slice A m C → (∃ olds : List Value, olds.length = m * z ∧ (∀ i, i < m * z → VRel ρ ((rd g b 0 (m * z)).getD i (.tuple #[])) (olds.getD i (.tuple #[]))) ∧
        (Builtin.firstCells z m (.slice A m C)).run P w.drew = .ok olds.toArray w.drew) → (Oper.wpIn (FW rq) 0 P ⟨dst, .call { callee := .builtin .append, args := #[x, y], argTypes := #[t, t2] }, ty, pos, after, gd⟩ a w next Q) := by
      intro A C hC hcx ⟨olds, o1, o2, o3⟩
      obtain ⟨cs, k1, k2, -, kg⟩ := hy.run w0 ρ w H (a.eval y) hl hs h2
      obtain ⟨N, hN, hrun⟩ := kg A m C olds hC hbig o3
      have hrel : ∀ i, i < (rd g b 0 (m * z) ++ xs).length → VRel ρ ((rd g b 0 (m * z) ++ xs).getD i (.tuple #[])) ((olds.toArray ++ cs.toArray ++ Builtin.zeroCells zv.cells (N - (m + k))).getD i (.tuple #[])) := by
        intro i hi'
        rw [hcl] at hi'
        have e2 : (olds.toArray ++ cs.toArray ++ Builtin.zeroCells zv.cells (N - (m + k))).getD i (.tuple #[]) = (olds ++ cs).getD i (.tuple #[]) := by
          have : i < (olds ++ cs).length := by rw [List.length_append, o1, k1, ← Nat.add_mul]; exact hi'
          have h3 : i < (olds.toArray ++ cs.toArray).size := by simpa using this
          rw [Array.getD_eq_getD_getElem?, Array.getElem?_append_left h3]
          simp [List.getD]
        rw [e2]
        by_cases hlt : i < m * z
        · have := o2 i hlt
          rw [List.getD, List.getD, List.getElem?_append_left (by rw [rd_length]; exact hlt), List.getElem?_append_left (by rw [o1]; exact hlt)]
          exact this
        · have hj : i - m * z < k * z := by rw [Nat.add_mul] at hi'; omega
          have := k2 (i - m * z) hj
          rw [List.getD, List.getD, List.getElem?_append_right (by rw [rd_length]; omega), List.getElem?_append_right (by rw [o1]; omega), rd_length, o1]
          exact this
      have hcsz : (olds.toArray ++ cs.toArray ++ Builtin.zeroCells zv.cells (N - (m + k))).size = N * z := by
        simp only [Array.size_append, List.size_toArray, o1, k1, Builtin.zeroCells, Array.size_map, Array.size_range, hzz]
        rw [← Nat.add_mul, ← Nat.add_mul]; congr 1; omega
      have hs1 := hs.drew.new hn (rd g b 0 (m * z) ++ xs) _ e z (by rw [hcl, hcsz]; exact Nat.mul_le_mul_right _ hN) hrel
      -- the old block gives up
      have hs2 : Sim w0 (ρ.set n ⟨w.heap.size, 0, (olds.toArray ++ cs.toArray ++ Builtin.zeroCells zv.cells (N - (m + k))).size, z⟩)
          (H.app (.takeover b n keep mm.size (if keep then mm.size else mm.lock) z (rd g b 0 (m * z) ++ xs))) (w.drew.alloc (.cells (olds.toArray ++ cs.toArray ++ Builtin.zeroCells zv.cells (N - (m + k))) e)) := by
        have hbn' : b ≠ n := by omega
        refine hs1.shrink ?_ ?_ ?_
        · intro q mq hq
          by_cases e1 : q = n
          · subst e1
            simp only [AH.app, Dl.takeover, Dl.new, if_true, Option.getD_some, Option.some.injEq] at hq ⊢
            subst hq
            refine ⟨_, rfl, rfl, Nat.le_refl _, ?_, fun K i _ ho => ⟨Nat.zero_le _, by simpa using ho.2⟩⟩
            simp only [hcl]
            have : m * z ≤ (m + k) * z := Nat.mul_le_mul_right _ (by omega)
            cases keep <;> simp <;> omega
          · by_cases e2 : q = b
            · subst e2
              simp only [AH.app, Dl.takeover, Dl.new, if_neg e1, if_true, Option.getD_some, Option.getD_none] at hq ⊢
              cases keep
              · simp at hq
              · simp at hq; subst hq
                exact ⟨mm, hI, hmz.symm, Nat.le_refl _, Nat.le_refl _, fun K i _ ho => by
                  obtain ⟨p1, p2⟩ := ho
                  simp only [Tail.isExt_of, Bool.false_eq_true, if_false] at p1 p2; omega⟩
            · simp only [AH.app, Dl.takeover, Dl.new, if_neg e1, if_neg e2, Option.getD_none] at hq ⊢
              have hqs := hs.info q mq hq
              obtain ⟨Lq, _, _, _, q4, _⟩ := hqs
              exact ⟨mq, hq, rfl, Nat.le_refl _, q4, fun K i _ ho => ho⟩
        · intro q mq o hq ho
          by_cases e1 : q = n
          · subst e1
            simp only [AH.app, Dl.takeover, Dl.new, if_true, Option.getD_some, Option.some.injEq] at hq
            subst hq; cases ho
          · by_cases e2 : q = b
            · subst e2
              simp only [AH.app, Dl.takeover, Dl.new, if_neg e1, if_true, Option.getD_some, Option.getD_none] at hq
              cases keep
              · simp at hq
              · simp at hq; subst hq; cases ho
            · simp only [AH.app, Dl.takeover, Dl.new, if_neg e1, if_neg e2, Option.getD_none] at hq ⊢
              exact hq
        · intro q i
          by_cases e1 : q = n
          · subst e1; right; simp [AH.app, Dl.takeover, Dl.new]
          · by_cases e2 : q = b
            · subst e2
              by_cases e3 : (keep && decide (i < mm.size)) = true
              · right; simp only [AH.app, Dl.takeover, Dl.new, if_neg e1, if_true]; rw [if_pos e3]
              · left; simp only [AH.app, Dl.takeover, Dl.new, if_neg e1, if_true]; rw [if_neg e3]; rfl
            · right; simp [AH.app, Dl.takeover, Dl.new, e1, e2]
      have hexec : (execOp a.eval ⟨dst, .call { callee := .builtin .append, args := #[x, y], argTypes := #[t, t2] }, ty, pos, after, gd⟩).run P w =
          .ok (.value (.slice (some ⟨w.heap.size, 0, none⟩) (m + k) N)) (w.drew.alloc (.cells (olds.toArray ++ cs.toArray ++ Builtin.zeroCells zv.cells (N - (m + k))) e)) := by
        simp [execOp, resolve, invoke, builtin, hcx, hrun]
      refine wpA_value hexec ?_
      refine K _ _ _ (.one hn _) (.slice N (Ren.set_self _ _ _) hN fun _ => ?_) hs2
      simp only [hcsz]; omega
    generalize hcx : a.eval x = q at h1
    cases h1 with
    | @slice _ _ _ L' C hL' hmC hcc =>
      rw [hL] at hL'; cases hL'
      by_cases hfit : m + k ≤ C
      · -- it fits: the slack is taken
        obtain ⟨cs, k1, k2, k3, -⟩ := hy.run w0 ρ w H (a.eval y) hl hs h2
        have hCe : 0 + C * z ≤ L.ext := by have := hcc (by omega); rw [hLz, hmz] at this; exact this
        have hfz : (m + k) * z ≤ C * z := Nat.mul_le_mul_right _ hfit
        obtain ⟨e1, e2⟩ := hs.storeCells (P := P) (o := m * z) hI hL xs cs (by omega) (fun j hj => ⟨by omega, by rw [hmt, if_pos (Tail.isExt_of _)]; rw [Nat.add_mul] at hfz; omega⟩)
          (fun j hj => k2 j (by omega)) hy.kn
        have hrun := k3 ⟨L.blk, L.off + 0, none⟩ m C (w.setCells L.blk (L.off + m * z) cs) hfit (by rw [addr_add, Nat.add_zero]; exact e1)
        have hexec : (execOp a.eval ⟨dst, .call { callee := .builtin .append, args := #[x, y], argTypes := #[t, t2] }, ty, pos, after, gd⟩).run P w =
            .ok (.value (.slice (some ⟨L.blk, L.off + 0, none⟩) (m + k) C)) (w.setCells L.blk (L.off + m * z) cs) := by
          simp only [Nat.add_zero] at hrun
          simp [execOp, resolve, invoke, builtin, hcx, hrun]
        have hs2 := e2.takeover (b := b) (n := n) (m := mm) (L := L) (by rw [sets_info]; exact hI) hL hmt hn keep (rd g b 0 (m * z) ++ xs) (if keep then mm.size else mm.lock) rfl (by rw [hcl, hms]; exact Nat.mul_le_mul_right _ (by omega)) (by rw [hcl]; omega)
          (fun i hi' => by
            rw [hcl] at hi'
            by_cases hlt : i < m * z
            · have e3 : (rd g b 0 (m * z) ++ xs).getD i (.tuple #[]) = g.cell b i := by
                rw [List.getD, List.getElem?_append_left (by rw [rd_length]; exact hlt)]
                have := rd_getD g b (m * z) 0 i hlt
                rw [Nat.zero_add] at this; exact this
              rw [e3]
              have e4 : (H.app (.sets b (m * z) xs)).cell b i = H.cell b i := by
                simp only [AH.app, Dl.sets]; rw [if_neg (by omega)]; rfl
              rw [e4]
              rcases hl.cell b i with h5 | h5
              · exact .inr h5
              · exact .inl h5
            · left
              have e3 : (rd g b 0 (m * z) ++ xs).getD i (.tuple #[]) = xs.getD (i - m * z) (.tuple #[]) := by
                rw [List.getD, List.getElem?_append_right (by rw [rd_length]; omega), rd_length]; rfl
              rw [e3]
              simp only [AH.app, Dl.sets]
              rw [if_pos (by refine ⟨by trivial, by omega, ?_⟩; rw [hxl]; rw [Nat.add_mul] at hi'; omega)]; rfl)
        rw [hmz, ← AH.app_comp] at hs2
        have hd : (Dl.sets b (m * z) xs).comp (.takeover b n keep mm.size (if keep then mm.size else mm.lock) z (rd g b 0 (m * z) ++ xs)) =
            .takeover b n keep mm.size (if keep then mm.size else mm.lock) z (rd g b 0 (m * z) ++ xs) := by
          simp only [Dl.comp, Dl.takeover, Dl.sets, Dl.mk.injEq]
          constructor
          · funext q; simp
          · funext q i
            by_cases e1 : q = n
            · simp [e1]
            · by_cases e2 : q = b
              · subst e2
                by_cases e3 : (keep && decide (i < mm.size)) = true
                · have : ¬ (m * z ≤ i ∧ i < m * z + xs.length) := by simp at e3; omega
                  simp only [if_neg e1, if_true, true_and]
                  rw [if_pos e3, if_neg this]; rfl
                · simp only [if_neg e1, if_true]
                  rw [if_neg e3]; rfl
              · simp [e1, e2]
        rw [hd] at hs2
        refine wpA_value hexec ?_
        refine K _ _ _ (.one hn L) ?_ hs2
        exact .slice (L := L) C (Ren.set_self _ _ _) hfit (fun _ => by rw [hLz, hmz]; exact hCe)
      · exact grow _ C (by omega) hcx (by
          obtain ⟨cs, k1, k2, k3⟩ := hs.drew.rd (P := P) (o := 0) hl hL hkn
          exact ⟨cs, k1, fun i hi' => (k2 i hi').2, by simpa [Builtin.firstCells] using k3⟩)
    | slice0 A hL' =>
      exact grow _ 0 (by omega) hcx ⟨[], by simp, fun i hi' => by omega, by simp [Builtin.firstCells, loadCells, loadCellsFrom]⟩



end
end Go.Abs

/- copy and clear over the abstract heap; what they and append look like to the stepping. -/
namespace Go.Abs
open Go.RowKit

section
variable {P : Program} {T : Nat → Prop} {env : Env} {n : Nat} {g : AH}
variable {dst : Option Tmp} {ty : TypeId} {pos : String} {after : Array Edge} {gd : Option (Nat × Bool)}

theorem app_sets_nil (h : AH) (b o : Nat) : h.app (.sets b o []) = h := by
  have : ∀ (x i : Nat), (if x = b ∧ o ≤ i ∧ i < o + ([] : List Value).length then some (([] : List Value).getD (i - o) (.tuple #[])) else none) = none := fun x i => by
    rw [if_neg]; simp only [List.length_nil]; omega
  unfold Dl.sets
  show AH.mk _ _ = h
  cases h
  simp only [Dl.sets, this, Option.getD_none]
theorem within_sets {T : Nat → Prop} {n b o : Nat} {vs : List Value} (hT : T b ∨ n ≤ b) (hb : b < n) : Within T n n (.sets b o vs) := fun x hx => by
  have := sets_touches hx
  subst this; exact ⟨hT, hb⟩

/-- copy to a row of one's own. -/
theorem op_copy {t t2 e : TypeId} {x y : Operand} {d : TypeDesc} {z by_ b o m k kk : Nat} {zv v : Value} {xs : List Value} {mm : Meta} (hu : P.underlying t = some (.slice e)) (hz : TI P e d z by_ zv) (hz0 : z ≠ 0)
    (hx : ev env x = .slice (some ⟨b, o, none⟩) m m) (hy : ev env y = v) (hs : Src g z v k xs) (hfl : full v kk) (hsl : ∀ c w, (∃ ρ, VRel ρ v c) → (Builtin.lenOf c).run P w = .ok kk w) (hk : k = min kk m)
    (hm : g.info b = some mm) (hlk : mm.lock ≤ o) (hin : o + k * z ≤ mm.size) (hT : T b ∨ n ≤ b) (hb : b < n) :
    OpEv P T ⟨dst, .call { callee := .builtin .copy, args := #[x, y], argTypes := #[t, t2] }, ty, pos, after, gd⟩ env n g (.int .i64 k) n (.sets b o xs) where
  le := Nat.le_refl _
  within := within_sets hT hb
  run := fun rq w0 ρ w H a next Q hl hf hsim hop K => by
    have h1 := hop x (by simp [Op.operands, Call.operands]); rw [hx] at h1
    have h2 := hop y (by simp [Op.operands, Call.operands]); rw [hy] at h2
    have hM := hl.info b mm hm
    obtain ⟨L, hL, kz, k2, k3, k4⟩ := hsim.info b mm hM
    obtain ⟨cs, c1, c2, c3⟩ := hs.run (P := P) hl hsim h2 hz0
    have hlen := hsl (a.eval y) w ⟨ρ, h2⟩
    have hr : (underlying t).run P w = .ok (.slice e) w := by simp [underlying, hu]
    have hxl := hs.length
    have e0 : (#[t, t2] : Array TypeId)[0]? = some t := rfl
    have key : ∀ (A : Addr) (C : Nat), a.eval x = .slice (some A) m C → (k = 0 ∨ A = ⟨L.blk, L.off + o, none⟩) →
        (Oper.wpIn (FW rq) 0 P ⟨dst, .call { callee := .builtin .copy, args := #[x, y], argTypes := #[t, t2] }, ty, pos, after, gd⟩ a w next Q) := by
      intro A C hcx hA
      have e2 : (#[Value.slice (some A) m C, a.eval y] : Array Value)[0]? = some (.slice (some A) m C) := rfl
      have e3 : (#[Value.slice (some A) m C, a.eval y] : Array Value)[1]? = some (a.eval y) := rfl
      by_cases hk0 : k = 0
      · have hxs : xs = [] := List.eq_nil_of_length_eq_zero (by rw [hxl, hk0, Nat.zero_mul])
        have hcs : cs = [] := List.eq_nil_of_length_eq_zero (by rw [c1, hk0, Nat.zero_mul])
        subst hxs; subst hcs
        have hrun : (Builtin.copy_ #[t, t2] ty #[.slice (some A) m C, a.eval y]).run P w = .ok (.int .i64 k) w := by
          simp only [Builtin.copy_, e0, e2, e3]
          simp only [Sem.run_bind, hr, Result.andThen_ok, hlen, hz.run_sizeOf]
          rw [show Nat.min kk m = k from hk.symm, c3]
          simp [storeCells, Sem.run_pure, goInt]
        have hexec : (execOp a.eval ⟨dst, .call { callee := .builtin .copy, args := #[x, y], argTypes := #[t, t2] }, ty, pos, after, gd⟩).run P w = .ok (.value (.int .i64 k)) w := by
          simp [execOp, resolve, invoke, builtin, hcx, hrun]
        refine wpA_value hexec ?_
        exact K ρ _ _ (.refl _ _ _) (.int _ _) (by rw [app_sets_nil]; exact hsim)
      · have hA := hA.resolve_left hk0
        subst hA
        obtain ⟨e4, e5⟩ := hsim.storeCells (P := P) (o := o) hM hL xs cs (by omega) (fun j hj => ⟨by omega, by split <;> omega⟩) (fun j hj => c2 j (by omega)) hs.known
        have hrun : (Builtin.copy_ #[t, t2] ty #[.slice (some ⟨L.blk, L.off + o, none⟩) m C, a.eval y]).run P w = .ok (.int .i64 k) (w.setCells L.blk (L.off + o) cs) := by
          simp only [Builtin.copy_, e0, e2, e3]
          simp only [Sem.run_bind, hr, Result.andThen_ok, hlen, hz.run_sizeOf]
          rw [show Nat.min kk m = k from hk.symm, c3]
          simp only [Result.andThen_ok, e4, Sem.run_bind, Sem.run_pure, goInt]
        have hexec : (execOp a.eval ⟨dst, .call { callee := .builtin .copy, args := #[x, y], argTypes := #[t, t2] }, ty, pos, after, gd⟩).run P w = .ok (.value (.int .i64 k)) (w.setCells L.blk (L.off + o) cs) := by
          simp [execOp, resolve, invoke, builtin, hcx, hrun]
        refine wpA_value hexec ?_
        exact K ρ _ _ (.refl _ _ _) (.int _ _) e5
    generalize hcx : a.eval x = q at h1
    cases h1 with
    | @slice _ _ _ L' C hL' hmC hcc =>
      rw [hL] at hL'; cases hL'
      exact key _ C hcx (.inr rfl)
    | slice0 A hL' => exact key A 0 hcx (.inl (by omega))
/-- A method's value, of any value. -/
theorem op_meth {nm : String} {x : Operand} {v : Value} (hx : ev env x = v) : OpEv P T ⟨dst, .makeFunc (.method nm) #[x] #[], ty, pos, after, gd⟩ env n g (.func (.method nm) #[v] #[]) n .nil :=
  .calc fun ρ w ce h => by
    have h1 := h x (by simp [Op.operands]); rw [hx] at h1
    exact ⟨.func (.method nm) #[ce x] #[], by simp [execOp, Instr.makeFunc], .meth h1⟩
/-- Type t, no pointer, has method nm of its own: function f. -/
class Mc (P : Program) (t : TypeId) (nm : String) (f : outParam FuncId) : Prop where
  out : ∃ i m d, P.info? t = some i ∧ i.methods.find? (·.name == nm) = some m ∧ m.path = #[] ∧ m.func = some (f, false) ∧ P.underlying t = some d ∧ isPtrD d = false
theorem Mc.of {P : Program} {t : TypeId} {nm : String} {f : FuncId} {d : TypeDesc} (h : ((P.info? t).bind fun i => (i.methods.find? (·.name == nm)).map fun m => (m.path.isEmpty, m.func)) = some (true, some (f, false))) (hu : P.underlying t = some d) (hd : isPtrD d = false) : Mc P t nm f := by
  cases hi : P.info? t with
  | none => rw [hi] at h; cases h
  | some i =>
    rw [hi] at h
    simp only [Option.bind_some] at h
    cases hm : i.methods.find? (·.name == nm) with
    | none => rw [hm] at h; cases h
    | some m =>
      rw [hm] at h
      simp only [Option.map_some, Option.some.injEq, Prod.mk.injEq] at h
      exact ⟨i, m, d, hi, hm, by simpa using h.1, h.2, hu, hd⟩
theorem op_nilCheckM {x : Operand} {nm : String} {t : TypeId} {v : Value} {f : FuncId} [hM : Mc P t nm f] (hx : ev env x = .func (.method nm) #[.iface t v] #[]) :
    OpEv P T ⟨dst, .nilCheck x, ty, pos, after, gd⟩ env n g (.func (.method nm) #[.iface t v] #[]) n .nil :=
  .calc fun ρ w ce h => by
    have h1 := h x (by simp [Op.operands]); rw [hx] at h1
    generalize hc : ce x = c at h1
    cases h1 with
    | meth h' =>
      cases h' with
      | @iface _ _ y hv =>
        obtain ⟨i, m, d, a1, a2, a3, a4, a5, a6⟩ := hM.out
        have hti : (typeInfo t).run P w = .ok i w := by simp [typeInfo, a1]
        have hr : (underlying t).run P w = .ok d w := by simp [underlying, a5]
        have hnil : (nilAhead (P.types.size + Made.depth) t y nm).run P w = .ok (some false) w := by
          have hpos : 0 < Made.depth := by decide
          obtain ⟨k, hk⟩ : ∃ k, P.types.size + Made.depth = k + 1 := ⟨P.types.size + Made.depth - 1, by omega⟩
          rw [hk]
          unfold nilAhead
          simp only [Sem.run_bind, hti, Result.andThen_ok, a2, a3, followBlind, Sem.run_pure, a4, hr]
          revert a6; cases d <;> intro a6 <;> first | (cases a6; done) | rfl
        exact ⟨_, by simp [execOp, hc, Sem.run_bind, run_program, hnil], .meth (.iface hv)⟩
theorem op_invokeC {f : FuncId} {W : Nat → Prop} {n' : Nat} {h' : AH} {x : Operand} {t : TypeId} {v : Value} {name : String} {xs : Array Operand} {ts : Array TypeId} {r : Value} [hM : Mc P t name f] (hx : ev env x = .iface t v)
    (hev : Ev P W f (#[v] ++ xs.map (ev env)) n g r n' h') (hW : ∀ b, W b → T b) :
    ∃ d, h'.le (g.app d) ∧ Within W n n' d ∧ OpEv P T ⟨dst, .call { callee := .invoke x name, args := xs, argTypes := ts }, ty, pos, after, gd⟩ env n g r n' d := by
  obtain ⟨i, m, d, a1, a2, a3, a4, a5, a6⟩ := hM.out
  exact op_invoke hx a1 a2 a3 a4 a5 a6 hev hW
end
end Go.Abs

/- Rows written out, strings of bytes and bytes of strings, over the abstract heap. -/
namespace Go.Abs
open Go.RowKit

theorem foldl_set : ∀ (l : List Value) (k off : Nat) (pre mid post : List Value), pre.length = off + k → mid.length = l.length →
    (l.zipIdx k).foldl (fun (cs : Array Value) (x : Value × Nat) => cs.setIfInBounds (off + x.2) x.1) (pre ++ mid ++ post).toArray = (pre ++ l ++ post).toArray
  | [], k, off, pre, mid, post, _, hm => by
    have : mid = [] := List.eq_nil_of_length_eq_zero (by simpa using hm)
    subst this; rfl
  | v :: l, k, off, pre, mid, post, hp, hm => by
    cases mid with
    | nil => simp at hm
    | cons m mid =>
      simp only [List.zipIdx_cons, List.foldl_cons]
      have e : (pre ++ m :: mid ++ post).toArray.setIfInBounds (off + k) v = (pre ++ [v] ++ mid ++ post).toArray := by
        rw [← hp]
        apply Array.ext'
        simp
      rw [e]
      have := foldl_set l (k + 1) off (pre ++ [v]) mid post (by simp; omega) (by simpa using hm)
      rw [this]
      simp

/-- The cells of some, one behind the other. -/
def cellsOf (vs : List Value) : List Value := vs.flatMap fun v => v.cells.toList

theorem fill_all {z : Nat} : ∀ (vs : List Value) (i : Nat) (pre rest : List Value), pre.length = i * z → rest.length = vs.length * z → (∀ v, v ∈ vs → v.cells.size = z) →
    Instr.fill (fun i => some (i * z, z)) (pre ++ rest).toArray ((vs.zipIdx i).map fun p => (p.2, p.1)) = some (pre ++ cellsOf vs).toArray
  | [], i, pre, rest, _, hr, _ => by
    have : rest = [] := List.eq_nil_of_length_eq_zero (by simpa using hr)
    subst this; simp [Instr.fill, cellsOf]
  | v :: vs, i, pre, rest, hp, hr, hv => by
    have hz := hv v (by simp)
    simp only [List.zipIdx_cons, List.map_cons, Instr.fill]
    have hl : (vs.length + 1) * z = z + vs.length * z := by rw [Nat.add_mul]; omega
    rw [if_neg (by simp [hz, hp, hr, hl])]
    have hr' : rest.length = z + vs.length * z := by rw [hr, List.length_cons, hl]
    obtain ⟨a, b, rfl, ha, hb⟩ : ∃ a b, rest = a ++ b ∧ a.length = z ∧ b.length = vs.length * z := ⟨rest.take z, rest.drop z, (List.take_append_drop z rest).symm, by simp; omega, by simp; omega⟩
    have e1 : Array.foldl (fun cs (x : Value × Nat) => cs.setIfInBounds (i * z + x.2) x.1) (pre ++ (a ++ b)).toArray v.cells.zipIdx = (pre ++ v.cells.toList ++ b).toArray := by
      rw [← Array.foldl_toList]
      have := foldl_set v.cells.toList 0 (i * z) pre a b (by simpa using hp) (by simp [ha, hz])
      simpa using this
    refine (congrArg (fun q => Instr.fill _ q _) e1).trans ?_
    have := fill_all vs (i + 1) (pre ++ v.cells.toList) b (by simp [hp, hz, Nat.add_mul]) hb (fun u hu => hv u (by simp [hu]))
    rw [this]
    simp [cellsOf]

section
variable {P : Program} {T : Nat → Prop} {env : Env} {n : Nat} {g : AH}
variable {dst : Option Tmp} {ty : TypeId} {pos : String} {after : Array Edge} {gd : Option (Nat × Bool)}

/-- A row is written out. -/
theorem op_buildSlice {t e : TypeId} {len : Nat} {xs : List Operand} {d : TypeDesc} {z by_ : Nat} {zv : Value} (hu : P.underlying t = some (.slice e)) (hz : TI P e d z by_ zv) (hf : zv.cells.all (flat 8) = true) (hzz : zv.cells.size = z) (hz0 : z ≠ 0)
    (hlen : xs.length = len) (hbig : len * z ≤ 16777216) (hok : ∀ x, x ∈ xs → okV (ev env x) = true ∧ (ev env x).cells.size = z) :
    OpEv P T ⟨dst, .buildSlice t len ((xs.zipIdx.map fun p => (p.2, p.1)).toArray), ty, pos, after, gd⟩ env n g (.slice (some ⟨n, 0, none⟩) len len) (n + 1)
      (.new n ⟨(cellsOf (xs.map (ev env))).length, 0, true, z⟩ (cellsOf (xs.map (ev env)))) :=
  op_new fun w0 ρ w H ce hl hs hop => by
    subst hzz
    have hr : (underlying t).run P w = .ok (.slice e) w := by simp [underlying, hu]
    let conc : Array Value := (Array.range (len * zv.cells.size)).map (zv.cells[· % zv.cells.size]!)
    have hcsz : conc.size = len * zv.cells.size := by simp [conc]
    have hbase : RelAll ρ (zrow zv.cells.toList len).toArray conc := by
      refine ⟨by rw [hcsz, List.size_toArray, zrow_length, Array.length_toList], fun i => ?_⟩
      by_cases hi : i < (zrow zv.cells.toList len).length
      · have := zrow_rel (ρ := ρ) hf len len (Nat.le_refl _) i hi
        rw [show (zrow zv.cells.toList len).toArray.getD i (.tuple #[]) = (zrow zv.cells.toList len).getD i (.tuple #[]) by simp [Array.getD_eq_getD_getElem?, List.getD]]
        exact this
      · have : (zrow zv.cells.toList len).toArray.getD i (.tuple #[]) = .tuple #[] := by simp [Array.getD, hi]
        rw [this]; exact .unk _
    have hparts : ∀ (l : List Operand) (k : Nat), (∀ x, x ∈ l → okV (ev env x) = true ∧ VRel ρ (ev env x) (ce x)) →
        All2 (fun p q : Nat × Value => p.1 = q.1 ∧ VRel ρ p.2 q.2 ∧ okV p.2 = true) (((l.map (ev env)).zipIdx k).map fun p => (p.2, p.1)) (((l.map ce).zipIdx k).map fun p => (p.2, p.1)) := by
      intro l
      induction l with
      | nil => intros; exact .nil
      | cons x l ih =>
        intro k h
        obtain ⟨h1, h2⟩ := h x (by simp)
        exact .cons ⟨rfl, h2, h1⟩ (ih (k + 1) fun y hy => h y (by simp [hy]))
    have hmem : ∀ x, x ∈ xs → VRel ρ (ev env x) (ce x) := fun x hx => hop x (by
      simp only [Op.operands]
      simp only [List.mem_toArray, List.map_map, List.mem_map, Function.comp]
      obtain ⟨i, hi⟩ := List.getElem?_of_mem hx
      exact ⟨(x, i), by rw [List.mem_zipIdx_iff_getElem?]; simpa using hi, rfl⟩)
    have hfill := fill_all (z := zv.cells.size) (xs.map (ev env)) 0 [] (zrow zv.cells.toList len) (by simp) (by rw [zrow_length, List.length_map, hlen, Array.length_toList]) (by
      intro v hv; obtain ⟨x, hx, rfl⟩ := List.mem_map.1 hv; exact (hok x hx).2)
    simp only [List.nil_append] at hfill
    obtain ⟨ds, h1, h2⟩ := fill_rel (ρ := ρ) _ _ _ _ _ _ hbase (hparts xs 0 fun x hx => ⟨(hok x hx).1, hmem x hx⟩) hfill
    have hsz : ds.size = (cellsOf (xs.map (ev env))).length := by have := h2.size; simpa using this.symm
    refine ⟨w, ds, e, .slice (some ⟨w.heap.size, 0, none⟩) len len, hs, by omega, fun i hi => ?_, ?_, ?_⟩
    · have := h2.at_ i
      simpa [Array.getD_eq_getD_getElem?, List.getD] using this
    · have e1 : (((xs.zipIdx.map fun p => (p.2, p.1)).toArray).map fun (x : Nat × Operand) => (x.1, ce x.2)).toList = ((xs.map ce).zipIdx 0).map fun p => (p.2, p.1) := by
        simp [List.zipIdx_map, Function.comp_def]
      have e' : (((xs.zipIdx.map fun p => (p.2, p.1)).toArray).map fun (x : Nat × Operand) => match x with | (i, x) => (i, ce x)) = (((xs.zipIdx.map fun p => (p.2, p.1)).toArray).map fun (x : Nat × Operand) => (x.1, ce x.2)) := rfl
      have c1 : ¬ (len * zv.cells.size > 2 ^ 24) := by omega
      simp only [execOp, Instr.buildSlice, Sem.run_bind, hr, Result.andThen_ok, hz.run_sizeOf, if_neg c1, e', e1]
      by_cases h0 : len * zv.cells.size = 0
      · have e0 : conc = #[] := by simp [conc, h0]
        rw [e0] at h1
        have e2 : ∀ (f : Nat → Value), (Array.range 0).map f = #[] := fun f => Array.eq_empty_of_size_eq_zero (by simp)
        simp only [h0, if_true, Sem.run_bind, Sem.run_pure, Result.andThen_ok, e2, h1, newRow, run_newObj]; rfl
      · simp only [if_neg h0, Sem.run_bind, hz.run_zeroValue, Sem.run_pure, Result.andThen_ok]
        rw [show (Array.map (fun x => zv.cells[x % zv.cells.size]!) (Array.range (len * zv.cells.size))) = conc from rfl, h1]
        simp only [Sem.run_bind, newRow, run_newObj, Result.andThen_ok, Sem.run_pure]; rfl
    · have hcl : (cellsOf (xs.map (ev env))).length = len * zv.cells.size := by
        have key : ∀ (l : List Operand), (∀ x, x ∈ l → (ev env x).cells.size = zv.cells.size) → (cellsOf (l.map (ev env))).length = l.length * zv.cells.size := by
          intro l
          induction l with
          | nil => intro _; simp [cellsOf]
          | cons x l ih =>
            intro h
            have := ih fun y hy => h y (by simp [hy])
            simp only [cellsOf, List.map_cons, List.flatMap_cons, List.length_append, Array.length_toList, List.length_cons] at this ⊢
            rw [this, h x (by simp), Nat.add_mul]; omega
        rw [key xs fun x hx => (hok x hx).2, hlen]
      refine .slice (L := ⟨w.heap.size, 0, ds.size, zv.cells.size⟩) len (Ren.set_self _ _ _) (Nat.le_refl _) fun _ => ?_
      simp only [hsz, hcl]; omega

/-- Bytes as cells. -/
def bytesV (l : List UInt8) : List Value := l.map fun b => .int .u8 b.toNat
theorem bytesV_known : ∀ l, known (bytesV l) = true
  | [] => rfl
  | b :: l => bytesV_known l
theorem bytesV_length (l : List UInt8) : (bytesV l).length = l.length := by simp [bytesV]
theorem bytesV_inj : ∀ {l m : List UInt8}, bytesV l = bytesV m → l = m
  | [], [], _ => rfl
  | [], _ :: _, h => by simp [bytesV] at h
  | _ :: _, [], h => by simp [bytesV] at h
  | a :: l, b :: m, h => by
    simp only [bytesV, List.map_cons, List.cons.injEq, Value.int.injEq, true_and] at h
    have h1 : a.toNat = b.toNat := by have := h.1; omega
    rw [UInt8.toNat_inj.1 h1, bytesV_inj (l := l) (m := m) h.2]

/-- The string of bytes. -/
theorem op_b2s {s t e : TypeId} {x : Operand} {b o m : Nat} {l : List UInt8} (hs : P.underlying s = some (.slice e)) (he : P.underlying e = some (.int .u8)) (ht : P.underlying t = some .string)
    (hx : ev env x = .slice (some ⟨b, o, none⟩) m m) (hr : rd g b o m = bytesV l) : OpEv P T ⟨dst, .convert s t x, ty, pos, after, gd⟩ env n g (.string ⟨l.toArray⟩) n .nil :=
  .look fun w0 ρ w H ce hl hsim hop => by
    have h1 := hop x (by simp [Op.operands]); rw [hx] at h1
    refine ⟨.string ⟨l.toArray⟩, ?_, .string _⟩
    have hm : m = l.length := by rw [← rd_length g b m o, hr, bytesV_length]
    generalize hc : ce x = c at h1
    cases h1 with
    | @slice _ _ _ L C h hn hcap =>
      obtain ⟨cs, c1, c2, c3⟩ := hsim.rd (P := P) hl h (k := m) (o := o) (by rw [hr]; exact bytesV_known l)
      have hcs : cs = l.map fun b => Value.int .u8 b.toNat := by
        apply List.ext_getElem
        · simp [c1, hm]
        · intro i h1 h2
          have k := (c2 i (by omega)).2
          rw [hr] at k
          have hi : i < l.length := by simpa using h2
          have e1 : (bytesV l).getD i (.tuple #[]) = .int .u8 (l[i]).toNat := by simp [bytesV, List.getD, hi]
          have e2 : cs.getD i (.tuple #[]) = cs[i] := by simp [List.getD, h1]
          rw [e1, e2] at k
          rw [k.int_inv]; simp
      have e3 : (l.map fun b => Value.int .u8 b.toNat) = (l.map fun b => (b.toNat : Int)).map (Value.int .u8) := by simp
      rw [hcs, e3] at c3
      simp only [execOp, hc]
      have := run_convert_bytes_string (P := P) w s t e (some ⟨L.blk, L.off + o, none⟩) m C hs he ht
      rw [run_bytesToString w _ m C _ c3, foldl_push_bytes] at this
      simp only [Sem.run_bind, Sem.run_pure, this, Result.andThen_ok]
      simp [ByteArray.empty, ByteArray.emptyWithCapacity, Function.comp_def]
      rfl
    | slice0 a h =>
      have : l = [] := List.eq_nil_of_length_eq_zero hm.symm
      subst this
      simp only [execOp, hc]
      have := run_convert_bytes_string (P := P) w s t e (some a) 0 0 hs he ht
      rw [run_bytesToString w a 0 0 [] (by simp [loadCells, loadCellsFrom, Sem.run_pure])] at this
      simp only [Sem.run_bind, Sem.run_pure, this, Result.andThen_ok]
      rfl
theorem op_b2sNil {s t e : TypeId} {x : Operand} (hs : P.underlying s = some (.slice e)) (he : P.underlying e = some (.int .u8)) (ht : P.underlying t = some .string)
    (hx : ev env x = .slice none 0 0) : OpEv P T ⟨dst, .convert s t x, ty, pos, after, gd⟩ env n g (.string ⟨#[]⟩) n .nil :=
  .look fun w0 ρ w H ce hl hsim hop => by
    have h1 := hop x (by simp [Op.operands]); rw [hx] at h1
    refine ⟨.string ⟨#[]⟩, ?_, .string _⟩
    have hc : ce x = .slice none 0 0 := by generalize ce x = c at h1; cases h1; rfl
    have := run_convert_bytes_string (P := P) w s t e none 0 0 hs he ht
    simp only [execOp, hc, Sem.run_bind, Sem.run_pure, this, Result.andThen_ok]
    simp [Conv.bytesToString, Sem.run_pure]
    rfl

/-- The bytes of a string. -/
theorem op_s2b {s t e : TypeId} {x : Operand} {u : ByteArray} (hs : P.underlying s = some .string) (ht : P.underlying t = some (.slice e)) (he : P.underlying e = some (.int .u8)) (hx : ev env x = .string u) :
    OpEv P T ⟨dst, .convert s t x, ty, pos, after, gd⟩ env n g (.slice (some ⟨n, 0, none⟩) u.size u.size) (n + 1) (.new n ⟨(bytesV u.data.toList).length, 0, true, 1⟩ (bytesV u.data.toList)) where
  le := Nat.le_succ _
  within := within_new
  run := fun rq w0 ρ w H a next Q hl hf hsim hop K => by
    have hn := hf n (Nat.le_refl _) (Nat.lt_succ_self _)
    have h1 := hop x (by simp [Op.operands]); rw [hx] at h1
    have hc : a.eval x = .string u := h1.string_inv
    have hrun := run_bytes_of_string (P := P) w s t e u hs ht he
    generalize hC : grownCap w u.size 0 e = C at hrun
    have hCge : u.size ≤ C := by rw [← hC]; exact grownCap_ge _ _ _ _
    have hud : u.data.size = u.size := rfl
    have hsz : (bytesRow u C).size = C := by simp only [bytesRow, Array.size_append, Array.size_map, Array.size_replicate, hud]; omega
    have hd : Sim w0 ρ H w.drew := hsim.drawn _
    have hbl : (bytesV u.data.toList).length = u.size := by simp [bytesV, hud]
    have hsim' := hd.new hn (bytesV u.data.toList) (bytesRow u C) e 1 (by omega) (fun i hi => by
      have hi' : i < u.data.size := by rw [hbl] at hi; exact hi
      have e1 : (bytesV u.data.toList).getD i (.tuple #[]) = .int .u8 (u.data[i]).toNat := by simp [bytesV, List.getD, Array.getElem?_eq_getElem hi']
      have e2 : (bytesRow u C).getD i (.tuple #[]) = .int .u8 (u.data[i]).toNat := by
        simp only [bytesRow, Array.getD_eq_getD_getElem?, Array.getElem?_append, Array.size_map, hi', if_true]
        simp [Array.getElem?_eq_getElem hi']
      rw [e1, e2]; exact .int _ _)
    have hsim2 := hsim'.fz (fz := ((bytesRow u C).size, (bytesRow u C).size + 1)) (by have := hsim.base.size; exact this) (hd.base) (Nat.le_refl _)
    have hex : (execOp a.eval ⟨dst, .convert s t x, ty, pos, after, gd⟩).run P w = .ok (.value (.slice (some ⟨w.heap.size, 0, none⟩) u.size C)) (w.drew.alloc (.cells (bytesRow u C) e ((bytesRow u C).size, (bytesRow u C).size + 1))) := by
      simp only [execOp, hc, Sem.run_bind, Sem.run_pure, hrun, Result.andThen_ok]
    refine wpA_value hex ?_
    refine K _ _ _ (.one hn _) ?_ hsim2
    refine .slice (L := ⟨w.heap.size, 0, (bytesRow u C).size, 1⟩) C (Ren.set_self _ _ _) hCge fun _ => ?_
    simp only [hsz]; omega

end
end Go.Abs
