/- Rows written out, strings of bytes and bytes of strings, over the abstract heap. -/
import Derived.Test.YtchfnjfmlhacfaaAbsRows
import Derived.Laws.IdiomStrings
import Derived.Laws.BytesArg
namespace Go.Abs
open Go.RowKit

theorem foldl_set : ∀ (l : List Value) (k off : Nat) (pre mid post : List Value), pre.length = off + k → mid.length = l.length →
    (l.zipIdx k).foldl (fun (cs : Array Value) (x : Value × Nat) => cs.setIfInBounds (off + x.2) x.1) (pre ++ mid ++ post).toArray = (pre ++ l ++ post).toArray
  | [], k, off, pre, mid, post, _, hm => by
    have : mid = [] := List.eq_nil_of_length_eq_zero (by simpa using hm)
    subst this; rfl
  | v :: l, k, off, pre, mid, post, hp, hm => by
    cases mid with
    | nil => simp at hm
    | cons m mid =>
      simp only [List.zipIdx_cons, List.foldl_cons]
      have e : (pre ++ m :: mid ++ post).toArray.setIfInBounds (off + k) v = (pre ++ [v] ++ mid ++ post).toArray := by
        rw [← hp]
        apply Array.ext'
        simp
      rw [e]
      have := foldl_set l (k + 1) off (pre ++ [v]) mid post (by simp; omega) (by simpa using hm)
      rw [this]
      simp

/-- The cells of some, one behind the other. -/
def cellsOf (vs : List Value) : List Value := vs.flatMap fun v => v.cells.toList

theorem fill_all {z : Nat} : ∀ (vs : List Value) (i : Nat) (pre rest : List Value), pre.length = i * z → rest.length = vs.length * z → (∀ v, v ∈ vs → v.cells.size = z) →
    Instr.fill (fun i => some (i * z, z)) (pre ++ rest).toArray ((vs.zipIdx i).map fun p => (p.2, p.1)) = some (pre ++ cellsOf vs).toArray
  | [], i, pre, rest, _, hr, _ => by
    have : rest = [] := List.eq_nil_of_length_eq_zero (by simpa using hr)
    subst this; simp [Instr.fill, cellsOf]
  | v :: vs, i, pre, rest, hp, hr, hv => by
    have hz := hv v (by simp)
    simp only [List.zipIdx_cons, List.map_cons, Instr.fill]
    have hl : (vs.length + 1) * z = z + vs.length * z := by rw [Nat.add_mul]; omega
    rw [if_neg (by simp [hz, hp, hr, hl])]
    have hr' : rest.length = z + vs.length * z := by rw [hr, List.length_cons, hl]
    obtain ⟨a, b, rfl, ha, hb⟩ : ∃ a b, rest = a ++ b ∧ a.length = z ∧ b.length = vs.length * z := ⟨rest.take z, rest.drop z, (List.take_append_drop z rest).symm, by simp; omega, by simp; omega⟩
    have e1 : Array.foldl (fun cs (x : Value × Nat) => cs.setIfInBounds (i * z + x.2) x.1) (pre ++ (a ++ b)).toArray v.cells.zipIdx = (pre ++ v.cells.toList ++ b).toArray := by
      rw [← Array.foldl_toList]
      have := foldl_set v.cells.toList 0 (i * z) pre a b (by simpa using hp) (by simp [ha, hz])
      simpa using this
    refine (congrArg (fun q => Instr.fill _ q _) e1).trans ?_
    have := fill_all vs (i + 1) (pre ++ v.cells.toList) b (by simp [hp, hz, Nat.add_mul]) hb (fun u hu => hv u (by simp [hu]))
    rw [this]
    simp [cellsOf]

section
variable {P : Program} {T : Nat → Prop} {env : Env} {n : Nat} {g : AH}
variable {dst : Option Tmp} {ty : TypeId} {pos : String} {after : Array Edge} {gd : Option (Nat × Bool)}

/-- A row is written out. -/
theorem op_buildSlice {t e : TypeId} {len : Nat} {xs : List Operand} {d : TypeDesc} {z by_ : Nat} {zv : Value} (hu : P.underlying t = some (.slice e)) (hz : TI P e d z by_ zv) (hf : zv.cells.all (flat 8) = true) (hzz : zv.cells.size = z) (hz0 : z ≠ 0)
    (hlen : xs.length = len) (hbig : len * z ≤ 16777216) (hok : ∀ x, x ∈ xs → okV (ev env x) = true ∧ (ev env x).cells.size = z) :
    OpEv P T ⟨dst, .buildSlice t len ((xs.zipIdx.map fun p => (p.2, p.1)).toArray), ty, pos, after, gd⟩ env n g (.slice (some ⟨n, 0, none⟩) len len) (n + 1)
      (.new n ⟨(cellsOf (xs.map (ev env))).length, 0, true, z⟩ (cellsOf (xs.map (ev env)))) :=
  op_new fun w0 ρ w H ce hl hs hop => by
    subst hzz
    have hr : (underlying t).run P w = .ok (.slice e) w := by simp [underlying, hu]
    let conc : Array Value := (Array.range (len * zv.cells.size)).map (zv.cells[· % zv.cells.size]!)
    have hcsz : conc.size = len * zv.cells.size := by simp [conc]
    have hbase : RelAll ρ (zrow zv.cells.toList len).toArray conc := by
      refine ⟨by rw [hcsz, List.size_toArray, zrow_length, Array.length_toList], fun i => ?_⟩
      by_cases hi : i < (zrow zv.cells.toList len).length
      · have := zrow_rel (ρ := ρ) hf len len (Nat.le_refl _) i hi
        rw [show (zrow zv.cells.toList len).toArray.getD i (.tuple #[]) = (zrow zv.cells.toList len).getD i (.tuple #[]) by simp [Array.getD_eq_getD_getElem?, List.getD]]
        exact this
      · have : (zrow zv.cells.toList len).toArray.getD i (.tuple #[]) = .tuple #[] := by simp [Array.getD, hi]
        rw [this]; exact .unk _
    have hparts : ∀ (l : List Operand) (k : Nat), (∀ x, x ∈ l → okV (ev env x) = true ∧ VRel ρ (ev env x) (ce x)) →
        All2 (fun p q : Nat × Value => p.1 = q.1 ∧ VRel ρ p.2 q.2 ∧ okV p.2 = true) (((l.map (ev env)).zipIdx k).map fun p => (p.2, p.1)) (((l.map ce).zipIdx k).map fun p => (p.2, p.1)) := by
      intro l
      induction l with
      | nil => intros; exact .nil
      | cons x l ih =>
        intro k h
        obtain ⟨h1, h2⟩ := h x (by simp)
        exact .cons ⟨rfl, h2, h1⟩ (ih (k + 1) fun y hy => h y (by simp [hy]))
    have hmem : ∀ x, x ∈ xs → VRel ρ (ev env x) (ce x) := fun x hx => hop x (by
      simp only [Op.operands]
      simp only [List.mem_toArray, List.map_map, List.mem_map, Function.comp]
      obtain ⟨i, hi⟩ := List.getElem?_of_mem hx
      exact ⟨(x, i), by rw [List.mem_zipIdx_iff_getElem?]; simpa using hi, rfl⟩)
    have hfill := fill_all (z := zv.cells.size) (xs.map (ev env)) 0 [] (zrow zv.cells.toList len) (by simp) (by rw [zrow_length, List.length_map, hlen, Array.length_toList]) (by
      intro v hv; obtain ⟨x, hx, rfl⟩ := List.mem_map.1 hv; exact (hok x hx).2)
    simp only [List.nil_append] at hfill
    obtain ⟨ds, h1, h2⟩ := fill_rel (ρ := ρ) _ _ _ _ _ _ hbase (hparts xs 0 fun x hx => ⟨(hok x hx).1, hmem x hx⟩) hfill
    have hsz : ds.size = (cellsOf (xs.map (ev env))).length := by have := h2.size; simpa using this.symm
    refine ⟨w, ds, e, .slice (some ⟨w.heap.size, 0, none⟩) len len, hs, by omega, fun i hi => ?_, ?_, ?_⟩
    · have := h2.at_ i
      simpa [Array.getD_eq_getD_getElem?, List.getD] using this
    · have e1 : (((xs.zipIdx.map fun p => (p.2, p.1)).toArray).map fun (x : Nat × Operand) => (x.1, ce x.2)).toList = ((xs.map ce).zipIdx 0).map fun p => (p.2, p.1) := by
        simp [List.zipIdx_map, Function.comp_def]
      have e' : (((xs.zipIdx.map fun p => (p.2, p.1)).toArray).map fun (x : Nat × Operand) => match x with | (i, x) => (i, ce x)) = (((xs.zipIdx.map fun p => (p.2, p.1)).toArray).map fun (x : Nat × Operand) => (x.1, ce x.2)) := rfl
      have c1 : ¬ (len * zv.cells.size > 2 ^ 24) := by omega
      simp only [execOp, Instr.buildSlice, Sem.run_bind, hr, Result.andThen_ok, hz.run_sizeOf, if_neg c1, e', e1]
      by_cases h0 : len * zv.cells.size = 0
      · have e0 : conc = #[] := by simp [conc, h0]
        rw [e0] at h1
        have e2 : ∀ (f : Nat → Value), (Array.range 0).map f = #[] := fun f => Array.eq_empty_of_size_eq_zero (by simp)
        simp only [h0, if_true, Sem.run_bind, Sem.run_pure, Result.andThen_ok, e2, h1, newRow, run_newObj]; rfl
      · simp only [if_neg h0, Sem.run_bind, hz.run_zeroValue, Sem.run_pure, Result.andThen_ok]
        rw [show (Array.map (fun x => zv.cells[x % zv.cells.size]!) (Array.range (len * zv.cells.size))) = conc from rfl, h1]
        simp only [Sem.run_bind, newRow, run_newObj, Result.andThen_ok, Sem.run_pure]; rfl
    · have hcl : (cellsOf (xs.map (ev env))).length = len * zv.cells.size := by
        have key : ∀ (l : List Operand), (∀ x, x ∈ l → (ev env x).cells.size = zv.cells.size) → (cellsOf (l.map (ev env))).length = l.length * zv.cells.size := by
          intro l
          induction l with
          | nil => intro _; simp [cellsOf]
          | cons x l ih =>
            intro h
            have := ih fun y hy => h y (by simp [hy])
            simp only [cellsOf, List.map_cons, List.flatMap_cons, List.length_append, Array.length_toList, List.length_cons] at this ⊢
            rw [this, h x (by simp), Nat.add_mul]; omega
        rw [key xs fun x hx => (hok x hx).2, hlen]
      refine .slice (L := ⟨w.heap.size, 0, ds.size, zv.cells.size⟩) len (Ren.set_self _ _ _) (Nat.le_refl _) fun _ => ?_
      simp only [hsz, hcl]; omega

/-- Bytes as cells. -/
def bytesV (l : List UInt8) : List Value := l.map fun b => .int .u8 b.toNat
theorem bytesV_known : ∀ l, known (bytesV l) = true
  | [] => rfl
  | b :: l => bytesV_known l
theorem bytesV_length (l : List UInt8) : (bytesV l).length = l.length := by simp [bytesV]
theorem bytesV_inj : ∀ {l m : List UInt8}, bytesV l = bytesV m → l = m
  | [], [], _ => rfl
  | [], _ :: _, h => by simp [bytesV] at h
  | _ :: _, [], h => by simp [bytesV] at h
  | a :: l, b :: m, h => by
    simp only [bytesV, List.map_cons, List.cons.injEq, Value.int.injEq, true_and] at h
    have h1 : a.toNat = b.toNat := by have := h.1; omega
    rw [UInt8.toNat_inj.1 h1, bytesV_inj (l := l) (m := m) h.2]

/-- The string of bytes. -/
theorem op_b2s {s t e : TypeId} {x : Operand} {b o m : Nat} {l : List UInt8} (hs : P.underlying s = some (.slice e)) (he : P.underlying e = some (.int .u8)) (ht : P.underlying t = some .string)
    (hx : ev env x = .slice (some ⟨b, o, none⟩) m m) (hr : rd g b o m = bytesV l) : OpEv P T ⟨dst, .convert s t x, ty, pos, after, gd⟩ env n g (.string ⟨l.toArray⟩) n .nil :=
  .look fun w0 ρ w H ce hl hsim hop => by
    have h1 := hop x (by simp [Op.operands]); rw [hx] at h1
    refine ⟨.string ⟨l.toArray⟩, ?_, .string _⟩
    have hm : m = l.length := by rw [← rd_length g b m o, hr, bytesV_length]
    generalize hc : ce x = c at h1
    cases h1 with
    | @slice _ _ _ L C h hn hcap =>
      obtain ⟨cs, c1, c2, c3⟩ := hsim.rd (P := P) hl h (k := m) (o := o) (by rw [hr]; exact bytesV_known l)
      have hcs : cs = l.map fun b => Value.int .u8 b.toNat := by
        apply List.ext_getElem
        · simp [c1, hm]
        · intro i h1 h2
          have k := (c2 i (by omega)).2
          rw [hr] at k
          have hi : i < l.length := by simpa using h2
          have e1 : (bytesV l).getD i (.tuple #[]) = .int .u8 (l[i]).toNat := by simp [bytesV, List.getD, hi]
          have e2 : cs.getD i (.tuple #[]) = cs[i] := by simp [List.getD, h1]
          rw [e1, e2] at k
          rw [k.int_inv]; simp
      have e3 : (l.map fun b => Value.int .u8 b.toNat) = (l.map fun b => (b.toNat : Int)).map (Value.int .u8) := by simp
      rw [hcs, e3] at c3
      simp only [execOp, hc]
      have := run_convert_bytes_string (P := P) w s t e (some ⟨L.blk, L.off + o, none⟩) m C hs he ht
      rw [run_bytesToString w _ m C _ c3, foldl_push_bytes] at this
      simp only [Sem.run_bind, Sem.run_pure, this, Result.andThen_ok]
      simp [ByteArray.empty, ByteArray.emptyWithCapacity, Function.comp_def]
      rfl
    | slice0 a h =>
      have : l = [] := List.eq_nil_of_length_eq_zero hm.symm
      subst this
      simp only [execOp, hc]
      have := run_convert_bytes_string (P := P) w s t e (some a) 0 0 hs he ht
      rw [run_bytesToString w a 0 0 [] (by simp [loadCells, loadCellsFrom, Sem.run_pure])] at this
      simp only [Sem.run_bind, Sem.run_pure, this, Result.andThen_ok]
      rfl
theorem op_b2sNil {s t e : TypeId} {x : Operand} (hs : P.underlying s = some (.slice e)) (he : P.underlying e = some (.int .u8)) (ht : P.underlying t = some .string)
    (hx : ev env x = .slice none 0 0) : OpEv P T ⟨dst, .convert s t x, ty, pos, after, gd⟩ env n g (.string ⟨#[]⟩) n .nil :=
  .look fun w0 ρ w H ce hl hsim hop => by
    have h1 := hop x (by simp [Op.operands]); rw [hx] at h1
    refine ⟨.string ⟨#[]⟩, ?_, .string _⟩
    have hc : ce x = .slice none 0 0 := by generalize ce x = c at h1; cases h1; rfl
    have := run_convert_bytes_string (P := P) w s t e none 0 0 hs he ht
    simp only [execOp, hc, Sem.run_bind, Sem.run_pure, this, Result.andThen_ok]
    simp [Conv.bytesToString, Sem.run_pure]
    rfl

/-- The bytes of a string. -/
theorem op_s2b {s t e : TypeId} {x : Operand} {u : ByteArray} (hs : P.underlying s = some .string) (ht : P.underlying t = some (.slice e)) (he : P.underlying e = some (.int .u8)) (hx : ev env x = .string u) :
    OpEv P T ⟨dst, .convert s t x, ty, pos, after, gd⟩ env n g (.slice (some ⟨n, 0, none⟩) u.size u.size) (n + 1) (.new n ⟨(bytesV u.data.toList).length, 0, true, 1⟩ (bytesV u.data.toList)) where
  le := Nat.le_succ _
  within := within_new
  run := fun rq w0 ρ w H a next Q hl hf hsim hop K => by
    have hn := hf n (Nat.le_refl _) (Nat.lt_succ_self _)
    have h1 := hop x (by simp [Op.operands]); rw [hx] at h1
    have hc : a.eval x = .string u := h1.string_inv
    have hrun := run_bytes_of_string (P := P) w s t e u hs ht he
    generalize hC : grownCap w u.size 0 e = C at hrun
    have hCge : u.size ≤ C := by rw [← hC]; exact grownCap_ge _ _ _ _
    have hud : u.data.size = u.size := rfl
    have hsz : (bytesRow u C).size = C := by simp only [bytesRow, Array.size_append, Array.size_map, Array.size_replicate, hud]; omega
    have hd : Sim w0 ρ H w.drew := hsim.drawn _
    have hbl : (bytesV u.data.toList).length = u.size := by simp [bytesV, hud]
    have hsim' := hd.new hn (bytesV u.data.toList) (bytesRow u C) e 1 (by omega) (fun i hi => by
      have hi' : i < u.data.size := by rw [hbl] at hi; exact hi
      have e1 : (bytesV u.data.toList).getD i (.tuple #[]) = .int .u8 (u.data[i]).toNat := by simp [bytesV, List.getD, Array.getElem?_eq_getElem hi']
      have e2 : (bytesRow u C).getD i (.tuple #[]) = .int .u8 (u.data[i]).toNat := by
        simp only [bytesRow, Array.getD_eq_getD_getElem?, Array.getElem?_append, Array.size_map, hi', if_true]
        simp [Array.getElem?_eq_getElem hi']
      rw [e1, e2]; exact .int _ _)
    have hsim2 := hsim'.fz (fz := ((bytesRow u C).size, (bytesRow u C).size + 1)) (by have := hsim.base.size; exact this) (hd.base) (Nat.le_refl _)
    have hex : (execOp a.eval ⟨dst, .convert s t x, ty, pos, after, gd⟩).run P w = .ok (.value (.slice (some ⟨w.heap.size, 0, none⟩) u.size C)) (w.drew.alloc (.cells (bytesRow u C) e ((bytesRow u C).size, (bytesRow u C).size + 1))) := by
      simp only [execOp, hc, Sem.run_bind, Sem.run_pure, hrun, Result.andThen_ok]
    refine wpA_value hex ?_
    refine K _ _ _ (.one hn _) ?_ hsim2
    refine .slice (L := ⟨w.heap.size, 0, (bytesRow u C).size, 1⟩) C (Ren.set_self _ _ _) hCge fun _ => ?_
    simp only [hsz]; omega

end
end Go.Abs
