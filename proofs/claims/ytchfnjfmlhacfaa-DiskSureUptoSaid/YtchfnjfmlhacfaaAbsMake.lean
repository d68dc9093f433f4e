/- New blocks, strings, rows: the operations' laws as the stepping takes them. -/
import Derived.Test.YtchfnjfmlhacfaaAbsNum
import Derived.Test.YtchfnjfmlhacfaaAbsCopy
namespace Go.Abs
open Go.RowKit

/-- Parts written out, their values looked up. -/
inductive Prts (env : Env) : List (Nat × Operand) → List (Nat × Value) → Prop
  | nil : Prts env [] []
  | cons {i x v r s} (h : Opd env x v) (t : Prts env r s) : Prts env ((i, x) :: r) ((i, v) :: s)
theorem Prts.map {env : Env} {ps vs} (h : Prts env ps vs) : ps.map (fun p => (p.1, ev env p.2)) = vs := by
  induction h with
  | nil => rfl
  | cons h _ ih => simp [h.ev, ih]
theorem Prts.fst {env : Env} {ps vs} (h : Prts env ps vs) : ps.map (·.1) = vs.map (·.1) := by
  induction h with
  | nil => rfl
  | cons h _ ih => simp [ih]
theorem Prts.snd {env : Env} {ps vs} (h : Prts env ps vs) : (ps.map (·.2)).map (ev env) = vs.map (·.2) := by
  induction h with
  | nil => rfl
  | cons h _ ih => simp [h.ev, ih]
/-- Values of z cells each, their cells one behind the other. -/
inductive Cs (z : Nat) : List (Nat × Value) → List Value → Prop
  | nil : Cs z [] []
  | one {i v r cs} (hz : z = 1) (ho : v.cells = #[v]) (hk : okV v = true) (t : Cs z r cs) : Cs z ((i, v) :: r) (v :: cs)
  | agg {i l r cs cs'} (hz : l.length = z) (hk : known l = true) (t : Cs z r cs) (hcs : l ++ cs = cs') : Cs z ((i, .agg l.toArray) :: r) cs'
theorem Cs.spec {z : Nat} {ps cs} (h : Cs z ps cs) : cellsOf (ps.map (·.2)) = cs ∧ ∀ p, p ∈ ps → okV p.2 = true ∧ p.2.cells.size = z := by
  induction h with
  | nil => exact ⟨rfl, fun _ h => by simp at h⟩
  | one hz ho hk t ih =>
    refine ⟨by simp [cellsOf, ho] at ih ⊢; exact ih.1, fun p hp => ?_⟩
    rcases List.mem_cons.1 hp with rfl | hp
    · exact ⟨hk, by simp [ho, hz]⟩
    · exact ih.2 p hp
  | agg hz hk t hcs ih =>
    subst hcs
    refine ⟨by simp only [cellsOf, List.map_cons, List.flatMap_cons] at ih ⊢; rw [ih.1]; rfl, fun p hp => ?_⟩
    rcases List.mem_cons.1 hp with rfl | hp
    · exact ⟨by simpa [okV] using hk, by simpa [Value.cells] using hz⟩
    · exact ih.2 p hp

section
variable {P : Program} {T : Nat → Prop} {env : Env} {n : Nat} {g : AH}
variable {dst : Option Tmp} {ty : TypeId} {pos : String} {after : Array Edge} {gd : Option (Nat × Bool)}

theorem o_buildP {t : TypeId} {ps : List (Nat × Operand)} {vs : List (Nat × Value)} {places : List (Nat × Nat)} {zero cs : List Value} [s : Sc P t places zero] (hx : Prts env ps vs) (hok : vs.all (fun p => okV p.2) = true) (hb : Bl places zero vs cs) :
    OpEv P T ⟨dst, .build t ps.toArray, ty, pos, after, gd⟩ env n g (.agg cs.toArray) n .nil := by
  obtain ⟨fs, z, by_, zv, h1, h2, h3, h4⟩ := s.out
  have hm := hx.map
  refine op_build h1 h2 h4 ?_ ?_
  · rw [← hm, List.all_map] at hok
    simpa [Function.comp_def] using hok
  · have := hb.fill
    rw [← h3] at this
    rw [show ps.toArray.toList = ps from rfl, hm]
    simpa using this

theorem o_buildSliceP {t e : TypeId} {len : Nat} {ps : List (Nat × Operand)} {vs : List (Nat × Value)} {cs : List Value} {d : TypeDesc} {z by_ : Nat} {zv : Value} [hu : Uc P t (.slice e)] [hz : Tc P e d z by_ zv] (hf : zv.cells.toList.all (flat 8) = true)
    (hzz : zv.cells.size = z) (hz0 : z ≠ 0) (hx : Prts env ps vs) (hi : vs.map (·.1) = List.range len) (hbig : Nat.ble (len * z) 16777216 = true) (hc : Cs z vs cs) :
    OpEv P T ⟨dst, .buildSlice t len ps.toArray, ty, pos, after, gd⟩ env n g (.slice (some ⟨n, 0, none⟩) len len) (n + 1) (.new n ⟨cs.length, 0, true, z⟩ cs) := by
  obtain ⟨c1, c2⟩ := hc.spec
  have hlen : ps.length = len := by have := congrArg List.length (hx.fst.trans hi); simpa using this
  have e : ps = ((ps.map (·.2)).zipIdx.map fun p => (p.2, p.1)) := by
    apply List.ext_getElem
    · simp
    · intro i h1 h2
      have e1 : (ps.map (·.1))[i]'(by simpa using h1) = i := by
        have : ps.map (·.1) = List.range len := hx.fst.trans hi
        simp [this]
      simp at e1 ⊢
      exact Prod.ext e1 rfl
  have := op_buildSlice (P := P) (T := T) (n := n) (g := g) (env := env) (dst := dst) (ty := ty) (pos := pos) (after := after) (gd := gd) (t := t) (len := len) (xs := ps.map (·.2)) hu.out hz.out (by simpa using hf) hzz hz0 (by simpa using hlen) (Nat.le_of_ble_eq_true hbig) (fun x hx' => by
    have h1 : ev env x ∈ (ps.map (·.2)).map (ev env) := List.mem_map_of_mem hx'
    rw [hx.snd] at h1
    obtain ⟨p, hp, he⟩ := List.mem_map.1 h1
    rw [← he]; exact c2 p hp)
  rw [hx.snd, c1, ← e] at this
  exact this

theorem o_alloc1 {e : TypeId} {d : TypeDesc} {by_ : Nat} {zv : Value} [hz : Tc P e d 1 by_ zv] (hc : zv.cells = #[zv]) (hf : flat 8 zv = true) :
    OpEv P T ⟨dst, .alloc e, ty, pos, after, gd⟩ env n g (.pointer (some ⟨n, 0, none⟩)) (n + 1) (.new n ⟨1, 0, true, 0⟩ [zv]) := by
  have := op_alloc (P := P) (T := T) (n := n) (g := g) (e := e) (env := env) (dst := dst) (ty := ty) (pos := pos) (after := after) (gd := gd) hz.out (by rw [hc]; simpa using hf)
  rw [hc] at this; exact this
theorem o_allocAgg {e : TypeId} {d : TypeDesc} {z by_ : Nat} {l : List Value} [hz : Tc P e d z by_ (.agg l.toArray)] (hl : l.length = z) (hf : l.all (flat 8) = true) :
    OpEv P T ⟨dst, .alloc e, ty, pos, after, gd⟩ env n g (.pointer (some ⟨n, 0, none⟩)) (n + 1) (.new n ⟨z, 0, true, 0⟩ l) := by
  have := op_alloc (P := P) (T := T) (n := n) (g := g) (e := e) (env := env) (dst := dst) (ty := ty) (pos := pos) (after := after) (gd := gd) hz.out (by simpa [Value.cells] using hf)
  simp only [Value.cells, hl] at this; exact this
theorem o_box1 {e : TypeId} {x : Operand} {v : Value} (hx : Opd env x v) (hc : v.cells = #[v]) (hy : okV v = true) :
    OpEv P T ⟨dst, .box e x, ty, pos, after, gd⟩ env n g (.pointer (some ⟨n, 0, none⟩)) (n + 1) (.new n ⟨1, 0, true, 0⟩ [v]) := by
  have := o_box (P := P) (T := T) (n := n) (g := g) (e := e) (env := env) (dst := dst) (ty := ty) (pos := pos) (after := after) (gd := gd) hx hy
  rw [hc] at this; exact this
theorem o_boxAgg {e : TypeId} {x : Operand} {l : List Value} (hx : Opd env x (.agg l.toArray)) (hy : known l = true) :
    OpEv P T ⟨dst, .box e x, ty, pos, after, gd⟩ env n g (.pointer (some ⟨n, 0, none⟩)) (n + 1) (.new n ⟨l.length, 0, true, 0⟩ l) := by
  have := o_box (P := P) (T := T) (n := n) (g := g) (e := e) (env := env) (dst := dst) (ty := ty) (pos := pos) (after := after) (gd := gd) hx hy
  exact this
theorem o_makeSlice1 {t e : TypeId} {x y : Operand} {a c : Int} {d : TypeDesc} {by_ : Nat} {zv : Value} [hu : Uc P t (.slice e)] [hz : Tc P e d 1 by_ zv] (hx : Opd env x (.int .i64 a)) (hy : Opd env y (.int .i64 c)) (hc : zv.cells = #[zv]) (hf : flat 8 zv = true)
    (h0 : 0 ≤ a) (hac : a ≤ c) (hb : c.toNat * by_ ≤ 281474976710656) (hM : c ≤ 9223372036854775807) :
    OpEv P T ⟨dst, .makeSlice t x y, ty, pos, after, gd⟩ env n g (.slice (some ⟨n, 0, none⟩) a.toNat a.toNat) (n + 1) (.new n ⟨a.toNat, 0, true, 1⟩ (List.replicate a.toNat zv)) := by
  have hx' := hx.ev
  have hy' := hy.ev
  rw [← Int.toNat_of_nonneg h0] at hx'
  rw [← Int.toNat_of_nonneg (Int.le_trans h0 hac)] at hy'
  have := op_makeSlice (P := P) (T := T) (n := n) (g := g) (dst := dst) (ty := ty) (pos := pos) (after := after) (gd := gd) hu.out hz.out (by rw [hc]; simpa using hf) (by rw [hc]; rfl) (by decide) hx' hy' (by omega) hb (by omega)
  rw [hc, zrow_one, List.length_replicate] at this
  exact this
theorem o_makeSliceZ {t e : TypeId} {x y : Operand} {a c : Int} {d : TypeDesc} {z by_ : Nat} {l : List Value} [hu : Uc P t (.slice e)] [hz : Tc P e d z by_ (.agg l.toArray)] (hx : Opd env x (.int .i64 a)) (hy : Opd env y (.int .i64 c)) (hl : l.length = z) (hz0 : z ≠ 0) (hf : l.all (flat 8) = true)
    (h0 : 0 ≤ a) (hac : a ≤ c) (hb : c.toNat * by_ ≤ 281474976710656) (hM : c ≤ 9223372036854775807) :
    OpEv P T ⟨dst, .makeSlice t x y, ty, pos, after, gd⟩ env n g (.slice (some ⟨n, 0, none⟩) a.toNat a.toNat) (n + 1) (.new n ⟨a.toNat * z, 0, true, z⟩ (zrow l a.toNat)) := by
  have hx' := hx.ev
  have hy' := hy.ev
  rw [← Int.toNat_of_nonneg h0] at hx'
  rw [← Int.toNat_of_nonneg (Int.le_trans h0 hac)] at hy'
  have := op_makeSlice (P := P) (T := T) (n := n) (g := g) (dst := dst) (ty := ty) (pos := pos) (after := after) (gd := gd) hu.out hz.out (by simpa [Value.cells] using hf) (by simpa [Value.cells] using hl) hz0 hx' hy' (by omega) hb (by omega)
  rw [show (Value.agg l.toArray).cells.toList = l from rfl, zrow_length, hl] at this
  exact this

/-! Strings. -/
theorem baList {a b : ByteArray} : a.toList = b.toList ↔ a = b := by
  rw [ByteArray.toList_eq, ByteArray.toList_eq]
  constructor
  · intro h
    cases a; cases b
    simp only [ByteArray.mk.injEq]
    exact Array.ext' h
  · intro h; rw [h]
theorem o_eqS {t t' : TypeId} {x y : Operand} {a b : ByteArray} (hx : Opd env x (.string a)) (hy : Opd env y (.string b)) :
    OpEv P T ⟨dst, .binOp .eql t x y t', ty, pos, after, gd⟩ env n g (.bool (decide (a = b))) n .nil :=
  op_str hx.ev hy.ev (fun w => by simp only [Op.stringOp, Sem.run_pure]; congr 2; by_cases h : a = b <;> simp [h, baList]) (fun _ => .bool _) (by decide)
theorem o_neS {t t' : TypeId} {x y : Operand} {a b : ByteArray} (hx : Opd env x (.string a)) (hy : Opd env y (.string b)) :
    OpEv P T ⟨dst, .binOp .neq t x y t', ty, pos, after, gd⟩ env n g (.bool (decide (a ≠ b))) n .nil :=
  op_str hx.ev hy.ev (fun w => by simp only [Op.stringOp, Sem.run_pure]; congr 2; by_cases h : a = b <;> simp [h, bne, baList]) (fun _ => .bool _) (by decide)
theorem o_s2b {s t e : TypeId} {x : Operand} {u : ByteArray} [hs : Uc P s .string] [ht : Uc P t (.slice e)] [he : Uc P e (.int .u8)] (hx : Opd env x (.string u)) :
    OpEv P T ⟨dst, .convert s t x, ty, pos, after, gd⟩ env n g (.slice (some ⟨n, 0, none⟩) u.size u.size) (n + 1) (.new n ⟨(bytesV u.data.toList).length, 0, true, 1⟩ (bytesV u.data.toList)) := op_s2b hs.out ht.out he.out hx.ev
/-- A byte's cell. -/
def bytesF (l : List UInt8) : Nat → Value := fun j => .int .u8 ((l.getD j 0).toNat : Nat)
abbrev SlB (h : AH) (n : Nat) (a : Option Addr) (l : List UInt8) : Prop := SlR h n a 1 l.length (bytesF l)
theorem SlB.rd {h h' : AH} {n : Nat} {a : Option Addr} {l : List UInt8} (s : SlB h n a l) (e : Ext n h h') : rd h' (sb a) (so a) l.length = bytesV l := by
  have := SlR.rd s e (i := 0) (k := l.length) (by omega)
  rw [Nat.add_zero] at this
  rw [this]
  apply List.ext_getElem
  · simp [bytesV]
  · intro i h1 h2
    have hi : i < l.length := by simpa using h1
    simp [bytesV, bytesF, List.getD, hi]
theorem o_b2s {s t e : TypeId} {x : Operand} {a : Option Addr} {m : Nat} {l : List UInt8} {n0 : Nat} {h0 : AH} [hs : Uc P s (.slice e)] [he : Uc P e (.int .u8)] [ht : Uc P t .string] (hx : Opd env x (.slice a m m)) (S : SlB h0 n0 a l) (E : Ext n0 h0 g) (hm : m = l.length) :
    OpEv P T ⟨dst, .convert s t x, ty, pos, after, gd⟩ env n g (.string ⟨l.toArray⟩) n .nil := by
  subst hm
  rcases S.shape with ⟨k1, k2⟩ | ⟨k1, _⟩
  · have : l = [] := List.eq_nil_of_length_eq_zero k2
    subst this; subst k1
    exact op_b2sNil hs.out he.out ht.out hx.ev
  · have hx' := hx.ev
    rw [k1] at hx'
    exact op_b2s hs.out he.out ht.out hx' (S.rd E)
theorem o_func {f : FuncId} {caps : List Operand} {vs : List Value} (hx : Opds env caps vs) : OpEv P T ⟨dst, .makeFunc (.func f) #[] caps.toArray, ty, pos, after, gd⟩ env n g (.func (.func f) #[] vs.toArray) n .nil := by
  have := op_func (P := P) (T := T) (n := n) (g := g) (env := env) (f := f) (caps := caps.toArray) (dst := dst) (ty := ty) (pos := pos) (after := after) (gd := gd)
  rw [hx.mapA] at this; exact this
end
end Go.Abs
