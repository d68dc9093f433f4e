/- Stepping: the operations' laws with looked-up operands, comparisons that part the way, cells found through updates. -/
import Derived.Test.YtchfnjfmlhacfaaAbsStep
namespace Go.Abs
open Go.RowKit

section
variable {P : Program} {T W : Nat → Prop} {ops : Array Oper} {os : List Oper} {env : Env} {n n1 : Nat} {h h1 g : AH} {Q : Env → Nat → AH → Prop}
variable {dst : Option Tmp} {ty : TypeId} {pos : String} {after : Array Edge} {gd : Option (Nat × Bool)}

theorem o_move {x : Operand} {v : Value} (hx : Opd env x v) : OpEv P T ⟨dst, .move x, ty, pos, after, gd⟩ env n g v n .nil := hx.ev ▸ op_move
theorem o_assign {x : Operand} {v : Value} (hx : Opd env x v) : OpEv P T ⟨dst, .assign x, ty, pos, after, gd⟩ env n g v n .nil := hx.ev ▸ op_assign
theorem o_pickT {c x y : Operand} {v : Value} (hc : Opd env c (.bool true)) (hx : Opd env x v) : OpEv P T ⟨dst, .pick c x y, ty, pos, after, gd⟩ env n g v n .nil := by
  have := op_pick (P := P) (T := T) (n := n) (g := g) (x := x) (y := y) (dst := dst) (ty := ty) (pos := pos) (after := after) (gd := gd) hc.ev
  simp only [if_true, hx.ev] at this; exact this
theorem o_pickF {c x y : Operand} {v : Value} (hc : Opd env c (.bool false)) (hy : Opd env y v) : OpEv P T ⟨dst, .pick c x y, ty, pos, after, gd⟩ env n g v n .nil := by
  have := op_pick (P := P) (T := T) (n := n) (g := g) (x := x) (y := y) (dst := dst) (ty := ty) (pos := pos) (after := after) (gd := gd) hc.ev
  simp only [Bool.false_eq_true, if_false, hy.ev] at this; exact this
theorem o_bin {op : BinOp} {t t' : TypeId} {x y : Operand} {k : IntKind} {a b : Int} {v : Value} (hx : Opd env x (.int k a)) (hy : Opd env y (.int k b)) (hv : binI op k a b = some v) :
    OpEv P T ⟨dst, .binOp op t x y t', ty, pos, after, gd⟩ env n g v n .nil := op_bin hx.ev hy.ev hv

theorem wrap64 {a : Int} (h1 : -9223372036854775808 ≤ a) (h2 : a ≤ 9223372036854775807) : IntKind.i64.wrap a = a := by
  simp only [IntKind.wrap, IntKind.signed]; simp [IntKind.bits]; omega
theorem o_add64 {t t' : TypeId} {x y : Operand} {a b : Int} (hx : Opd env x (.int .i64 a)) (hy : Opd env y (.int .i64 b)) (h1 : -9223372036854775808 ≤ a + b) (h2 : a + b ≤ 9223372036854775807) :
    OpEv P T ⟨dst, .binOp .add t x y t', ty, pos, after, gd⟩ env n g (.int .i64 (a + b)) n .nil := op_bin hx.ev hy.ev (by simp only [binI, wrap64 h1 h2])
theorem o_sub64 {t t' : TypeId} {x y : Operand} {a b : Int} (hx : Opd env x (.int .i64 a)) (hy : Opd env y (.int .i64 b)) (h1 : -9223372036854775808 ≤ a - b) (h2 : a - b ≤ 9223372036854775807) :
    OpEv P T ⟨dst, .binOp .sub t x y t', ty, pos, after, gd⟩ env n g (.int .i64 (a - b)) n .nil := op_bin hx.ev hy.ev (by simp only [binI, wrap64 h1 h2])
theorem o_mul64 {t t' : TypeId} {x y : Operand} {a b : Int} (hx : Opd env x (.int .i64 a)) (hy : Opd env y (.int .i64 b)) (h1 : -9223372036854775808 ≤ a * b) (h2 : a * b ≤ 9223372036854775807) :
    OpEv P T ⟨dst, .binOp .mul t x y t', ty, pos, after, gd⟩ env n g (.int .i64 (a * b)) n .nil := op_bin hx.ev hy.ev (by simp only [binI, wrap64 h1 h2])
theorem o_quo64 {t t' : TypeId} {x y : Operand} {a b : Int} (hx : Opd env x (.int .i64 a)) (hy : Opd env y (.int .i64 b)) (ha : 0 ≤ a) (hb : 0 < b) (h2 : a ≤ 9223372036854775807) :
    OpEv P T ⟨dst, .binOp .quo t x y t', ty, pos, after, gd⟩ env n g (.int .i64 (a / b)) n .nil := op_bin hx.ev hy.ev (by
      have hb' : b ≠ 0 := by omega
      have h3 : a / b ≤ a := Int.ediv_le_self b ha
      have h4 : 0 ≤ a / b := Int.ediv_nonneg ha (by omega)
      simp only [binI, if_neg hb', Int.tdiv_eq_ediv_of_nonneg ha]
      rw [wrap64 (by omega) (by omega)])
theorem o_rem64 {t t' : TypeId} {k : IntKind} {x y : Operand} {a b : Int} (hx : Opd env x (.int k a)) (hy : Opd env y (.int k b)) (ha : 0 ≤ a) (hb : 0 < b) :
    OpEv P T ⟨dst, .binOp .rem t x y t', ty, pos, after, gd⟩ env n g (.int k (a % b)) n .nil := op_bin hx.ev hy.ev (by
      have hb' : b ≠ 0 := by omega
      simp only [binI, if_neg hb', Int.tmod_eq_emod_of_nonneg ha])
theorem o_eql {t t' : TypeId} {x y : Operand} {k : IntKind} {a b : Int} (hx : Opd env x (.int k a)) (hy : Opd env y (.int k b)) :
    OpEv P T ⟨dst, .binOp .eql t x y t', ty, pos, after, gd⟩ env n g (.bool (decide (a = b))) n .nil := op_bin hx.ev hy.ev rfl
theorem o_neq {t t' : TypeId} {x y : Operand} {k : IntKind} {a b : Int} (hx : Opd env x (.int k a)) (hy : Opd env y (.int k b)) :
    OpEv P T ⟨dst, .binOp .neq t x y t', ty, pos, after, gd⟩ env n g (.bool (decide (a ≠ b))) n .nil := op_bin hx.ev hy.ev (by
      simp only [binI]; congr 2
      by_cases h : a = b
      · subst h; simp
      · simp [h, bne])
theorem o_lss {t t' : TypeId} {x y : Operand} {k : IntKind} {a b : Int} (hx : Opd env x (.int k a)) (hy : Opd env y (.int k b)) :
    OpEv P T ⟨dst, .binOp .lss t x y t', ty, pos, after, gd⟩ env n g (.bool (decide (a < b))) n .nil := op_bin hx.ev hy.ev rfl
theorem o_leq {t t' : TypeId} {x y : Operand} {k : IntKind} {a b : Int} (hx : Opd env x (.int k a)) (hy : Opd env y (.int k b)) :
    OpEv P T ⟨dst, .binOp .leq t x y t', ty, pos, after, gd⟩ env n g (.bool (decide (a ≤ b))) n .nil := op_bin hx.ev hy.ev rfl
theorem o_gtr {t t' : TypeId} {x y : Operand} {k : IntKind} {a b : Int} (hx : Opd env x (.int k a)) (hy : Opd env y (.int k b)) :
    OpEv P T ⟨dst, .binOp .gtr t x y t', ty, pos, after, gd⟩ env n g (.bool (decide (b < a))) n .nil := op_bin hx.ev hy.ev rfl
theorem o_geq {t t' : TypeId} {x y : Operand} {k : IntKind} {a b : Int} (hx : Opd env x (.int k a)) (hy : Opd env y (.int k b)) :
    OpEv P T ⟨dst, .binOp .geq t x y t', ty, pos, after, gd⟩ env n g (.bool (decide (b ≤ a))) n .nil := op_bin hx.ev hy.ev rfl
theorem o_shl {t t' : TypeId} {x y : Operand} {k yk : IntKind} {a b : Int} (hx : Opd env x (.int k a)) (hy : Opd env y (.int yk b)) (hb : 0 ≤ b) :
    OpEv P T ⟨dst, .binOp .shl t x y t', ty, pos, after, gd⟩ env n g (.int k (k.wrap (a * 2 ^ (min b.toNat k.bits)))) n .nil := op_shl hx.ev hy.ev hb
theorem o_shr {t t' : TypeId} {x y : Operand} {k yk : IntKind} {a b : Int} (hx : Opd env x (.int k a)) (hy : Opd env y (.int yk b)) (hb : 0 ≤ b) :
    OpEv P T ⟨dst, .binOp .shr t x y t', ty, pos, after, gd⟩ env n g (.int k (a.fdiv (2 ^ (min b.toNat k.bits)))) n .nil := op_shr hx.ev hy.ev hb
theorem o_eqb {t t' : TypeId} {x y : Operand} {a b : Bool} (hu : P.underlying t = some .bool) (hx : Opd env x (.bool a)) (hy : Opd env y (.bool b)) :
    OpEv P T ⟨dst, .binOp .eql t x y t', ty, pos, after, gd⟩ env n g (.bool (a == b)) n .nil := op_eqb hu hx.ev hy.ev
theorem o_neb {t t' : TypeId} {x y : Operand} {a b : Bool} (hu : P.underlying t = some .bool) (hx : Opd env x (.bool a)) (hy : Opd env y (.bool b)) :
    OpEv P T ⟨dst, .binOp .neq t x y t', ty, pos, after, gd⟩ env n g (.bool (!(a == b))) n .nil := op_neb hu hx.ev hy.ev
theorem o_not {t : TypeId} {x : Operand} {b : Bool} (hx : Opd env x (.bool b)) : OpEv P T ⟨dst, .unOp .not t x, ty, pos, after, gd⟩ env n g (.bool (!b)) n .nil := op_not hx.ev
theorem o_notT {t : TypeId} {x : Operand} (hx : Opd env x (.bool true)) : OpEv P T ⟨dst, .unOp .not t x, ty, pos, after, gd⟩ env n g (.bool false) n .nil := op_not hx.ev
theorem o_notF {t : TypeId} {x : Operand} (hx : Opd env x (.bool false)) : OpEv P T ⟨dst, .unOp .not t x, ty, pos, after, gd⟩ env n g (.bool true) n .nil := op_not hx.ev
theorem o_neg {t : TypeId} {x : Operand} {k : IntKind} {a : Int} (hx : Opd env x (.int k a)) : OpEv P T ⟨dst, .unOp .neg t x, ty, pos, after, gd⟩ env n g (.int k (k.wrap (0 - a))) n .nil := op_neg hx.ev
theorem o_compl {t : TypeId} {x : Operand} {k : IntKind} {a : Int} (hx : Opd env x (.int k a)) :
    OpEv P T ⟨dst, .unOp .xor t x, ty, pos, after, gd⟩ env n g (.int k (k.wrap (BitVec.ofInt k.bits (if k.signed then -1 else k.max) ^^^ BitVec.ofInt k.bits a).toNat)) n .nil := op_compl hx.ev
theorem o_conv {s t : TypeId} {x : Operand} {k k' : IntKind} {a : Int} {d : TypeDesc} (hs : P.underlying s = some d) (ht : P.underlying t = some (.int k')) (hx : Opd env x (.int k a)) :
    OpEv P T ⟨dst, .convert s t x, ty, pos, after, gd⟩ env n g (.int k' (k'.wrap a)) n .nil := op_conv hs ht hx.ev
theorem o_extract {x : Operand} {i : Nat} {vs : Array Value} {v : Value} (hx : Opd env x (.tuple vs)) (hv : vs[i]? = some v) : OpEv P T ⟨dst, .extract x i, ty, pos, after, gd⟩ env n g v n .nil := op_extract hx.ev hv
theorem o_iface {t : TypeId} {x : Operand} {v : Value} {d : TypeDesc} (hx : Opd env x v) (hu : P.underlying t = some d) (hd : (match d with | .interface _ => false | _ => true) = true) :
    OpEv P T ⟨dst, .makeInterface t x, ty, pos, after, gd⟩ env n g (.iface t v) n .nil := hx.ev ▸ op_iface hu hd
/-- Field i of struct type s begins at cell off. -/
def FA (P : Program) (s : TypeId) (i off : Nat) : Prop := ∃ fs f d z by_ zv, P.underlying s = some (.struct fs) ∧ fs[i]? = some f ∧ f.offset = off ∧ TI P f.type d z by_ zv ∧ z ≠ 0
theorem FA.of {P : Program} {s i off : Nat} {fs : Array Field} {f : Field} {d : TypeDesc} {z by_ : Nat} {zv : Value} (hu : P.underlying s = some (.struct fs)) (hf : fs[i]? = some f) (ho : f.offset = off) (hz : TI P f.type d z by_ zv) (h0 : z ≠ 0) : FA P s i off :=
  ⟨fs, f, d, z, by_, zv, hu, hf, ho, hz, h0⟩
theorem o_fieldAddr {s : TypeId} {x : Operand} {i b o off : Nat} (hx : Opd env x (.pointer (some ⟨b, o, none⟩))) (hf : FA P s i off) :
    OpEv P T ⟨dst, .fieldAddr s x i, ty, pos, after, gd⟩ env n g (.pointer (some ⟨b, o + off, none⟩)) n .nil := by
  obtain ⟨fs, f, d, z, by_, zv, hu, hf, rfl, hz, h0⟩ := hf
  exact op_fieldAddr hu hf hz h0 hx.ev
theorem o_index {t e : TypeId} {x y : Operand} {b o m : Nat} {k : IntKind} {i : Int} {d : TypeDesc} {z by_ : Nat} {zv : Value} (hx : Opd env x (.slice (some ⟨b, o, none⟩) m m)) (hy : Opd env y (.int k i)) (hu : P.underlying t = some (.slice e))
    (hz : TI P e d z by_ zv) (h0 : 0 ≤ i) (hi : i < m) :
    OpEv P T ⟨dst, .indexAddr t x y, ty, pos, after, gd⟩ env n g (.pointer (some ⟨b, o + i.toNat * z, none⟩)) n .nil := op_indexAddr hu hz hx.ev hy.ev h0 hi
theorem o_arrayAddr {t e : TypeId} {x y : Operand} {b o m : Nat} {k : IntKind} {i : Int} {d : TypeDesc} {z by_ : Nat} {zv : Value} (hx : Opd env x (.pointer (some ⟨b, o, none⟩))) (hy : Opd env y (.int k i)) (hu : P.underlying t = some (.array m e))
    (hz : TI P e d z by_ zv) (h0 : 0 ≤ i) (hi : i < m) :
    OpEv P T ⟨dst, .indexAddr t x y, ty, pos, after, gd⟩ env n g (.pointer (some ⟨b, o + i.toNat * z, none⟩)) n .nil := op_arrayAddr hu hz hx.ev hy.ev h0 hi
theorem o_nilCheck {x : Operand} {b o : Nat} (hx : Opd env x (.pointer (some ⟨b, o, none⟩))) : OpEv P T ⟨dst, .nilCheck x, ty, pos, after, gd⟩ env n g (.pointer (some ⟨b, o, none⟩)) n .nil := op_nilCheck hx.ev
theorem o_nilCheckI {x : Operand} {t : TypeId} {v : Value} (hx : Opd env x (.iface t v)) : OpEv P T ⟨dst, .nilCheck x, ty, pos, after, gd⟩ env n g (.iface t v) n .nil := op_nilCheckI hx.ev
theorem o_nilCheckF {x : Operand} {f : FuncId} {caps : Array Value} (hx : Opd env x (.func (.func f) #[] caps)) : OpEv P T ⟨dst, .nilCheck x, ty, pos, after, gd⟩ env n g (.func (.func f) #[] caps) n .nil := op_nilCheckF hx.ev
theorem o_len {x : Operand} {t e : TypeId} {a : Option Addr} {m c : Nat} (hx : Opd env x (.slice a m c)) (hu : P.underlying t = some (.slice e)) :
    OpEv P T ⟨dst, .call { callee := .builtin .len, args := #[x], argTypes := #[t] }, ty, pos, after, gd⟩ env n g (.int .i64 m) n .nil := op_len hu hx.ev
theorem o_lenS {x : Operand} {t : TypeId} {s : ByteArray} (hx : Opd env x (.string s)) (hu : P.underlying t = some .string) :
    OpEv P T ⟨dst, .call { callee := .builtin .len, args := #[x], argTypes := #[t] }, ty, pos, after, gd⟩ env n g (.int .i64 s.size) n .nil := op_lenS hu hx.ev
theorem o_min {x y : Operand} {ts : Array TypeId} {k : IntKind} {a b : Int} (hx : Opd env x (.int k a)) (hy : Opd env y (.int k b)) :
    OpEv P T ⟨dst, .call { callee := .builtin .min, args := #[x, y], argTypes := ts }, ty, pos, after, gd⟩ env n g (.int k (min a b)) n .nil := op_min hx.ev hy.ev
theorem o_max {x y : Operand} {ts : Array TypeId} {k : IntKind} {a b : Int} (hx : Opd env x (.int k a)) (hy : Opd env y (.int k b)) :
    OpEv P T ⟨dst, .call { callee := .builtin .max, args := #[x, y], argTypes := ts }, ty, pos, after, gd⟩ env n g (.int k (max a b)) n .nil := op_max hx.ev hy.ev
theorem o_eqnil {t t' : TypeId} {x : Operand} {v z : Value} {d : TypeDesc} {b : Bool} (hx : Opd env x v) (hu : P.underlying t = some d) (hd : nilFits d v z = true) (hb : isNilV v = some b) :
    OpEv P T ⟨dst, .binOp .eql t x (.const z) t', ty, pos, after, gd⟩ env n g (.bool b) n .nil := op_eqnil hu (hx.ev ▸ hd) (hx.ev ▸ hb)
theorem o_nenil {t t' : TypeId} {x : Operand} {v z : Value} {d : TypeDesc} {b : Bool} (hx : Opd env x v) (hu : P.underlying t = some d) (hd : nilFits d v z = true) (hb : isNilV v = some b) :
    OpEv P T ⟨dst, .binOp .neq t x (.const z) t', ty, pos, after, gd⟩ env n g (.bool (!b)) n .nil := op_nenil hu (hx.ev ▸ hd) (hx.ev ▸ hb)
theorem o_load {t : TypeId} {x : Operand} {b o : Nat} {d : TypeDesc} {z by_ : Nat} {zv : Value} {v : Value} (hx : Opd env x (.pointer (some ⟨b, o, none⟩))) (hz : TI P t d z by_ zv) (ha : isAggD d = false)
    (hv : g.cell b o = v) (hk : v ≠ .tuple #[]) : OpEv P T ⟨dst, .load t x, ty, pos, after, gd⟩ env n g v n .nil := op_load hz hx.ev ha hv hk
theorem o_loadAgg {t : TypeId} {x : Operand} {b o : Nat} {d : TypeDesc} {z by_ : Nat} {zv : Value} {vs : List Value} (hx : Opd env x (.pointer (some ⟨b, o, none⟩))) (hz : TI P t d z by_ zv) (ha : isAggD d = true) (hz0 : z ≠ 0)
    (hv : rd g b o z = vs) (hk : known vs = true) : OpEv P T ⟨dst, .load t x, ty, pos, after, gd⟩ env n g (.agg vs.toArray) n .nil := by
  subst hv; exact op_loadAgg hz hx.ev ha hk hz0
theorem o_box {e : TypeId} {x : Operand} {v : Value} (hx : Opd env x v) (hy : okV v = true) :
    OpEv P T ⟨dst, .box e x, ty, pos, after, gd⟩ env n g (.pointer (some ⟨n, 0, none⟩)) (n + 1) (.new n ⟨v.cells.toList.length, 0, true, 0⟩ v.cells.toList) := by
  have := op_box (P := P) (T := T) (n := n) (g := g) (e := e) (x := x) (env := env) (dst := dst) (ty := ty) (pos := pos) (after := after) (gd := gd) (by rw [hx.ev]; exact hy)
  rw [hx.ev] at this; exact this
theorem o_store1 {t : TypeId} {x y : Operand} {b o : Nat} {d : TypeDesc} {by_ : Nat} {zv v : Value} {m : Meta} (hx : Opd env x (.pointer (some ⟨b, o, none⟩))) (hv : Opd env y v) (hz : TI P t d 1 by_ zv)
    (hy : okV v = true) (hs : v.cells = #[v]) (hm : g.info b = some m) (hlk : m.lock ≤ o) (hin : o + 1 ≤ m.size) (hT : T b ∨ n ≤ b) (hb : b < n) :
    OpEv P T ⟨dst, .store t x y, ty, pos, after, gd⟩ env n g (.tuple #[]) n (.sets b o [v]) := by
  have := op_store (P := P) (T := T) (n := n) (g := g) (env := env) (t := t) (x := x) (y := y) (dst := dst) (ty := ty) (pos := pos) (after := after) (gd := gd) hz hx.ev (by rw [hv.ev]; exact hy) (by rw [hv.ev, hs]; rfl) hm hlk hin hT hb
  rw [hv.ev, hs] at this; exact this
theorem o_storeAgg {t : TypeId} {x y : Operand} {b o : Nat} {d : TypeDesc} {z by_ : Nat} {zv : Value} {l : List Value} {m : Meta} (hx : Opd env x (.pointer (some ⟨b, o, none⟩))) (hv : Opd env y (.agg l.toArray)) (hz : TI P t d z by_ zv)
    (hy : known l = true) (hs : l.length = z) (hm : g.info b = some m) (hlk : m.lock ≤ o) (hin : o + z ≤ m.size) (hT : T b ∨ n ≤ b) (hb : b < n) :
    OpEv P T ⟨dst, .store t x y, ty, pos, after, gd⟩ env n g (.tuple #[]) n (.sets b o l) := by
  have := op_store (P := P) (T := T) (n := n) (g := g) (env := env) (t := t) (x := x) (y := y) (dst := dst) (ty := ty) (pos := pos) (after := after) (gd := gd) hz hx.ev (by rw [hv.ev]; exact hy) (by rw [hv.ev]; simpa [Value.cells] using hs) hm hlk hin hT hb
  rw [hv.ev] at this; exact this

/-- A comparison that is decided. -/
theorem RS.decT {o : Oper} {d : Tmp} {p : Prop} [Decidable p] (hw : wants ops o env = some true) (hd : o.dst = some d) (ho : OpEv P T o env n h (.bool (decide p)) n .nil) (hp : p) (k : RS P T ops os ((d, .bool true) :: env) n h Q) : RS P T ops (o :: os) env n h Q :=
  RS.calc hw ho (by rw [decide_eq_true hp, hd]; exact k)
theorem RS.decF {o : Oper} {d : Tmp} {p : Prop} [Decidable p] (hw : wants ops o env = some true) (hd : o.dst = some d) (ho : OpEv P T o env n h (.bool (decide p)) n .nil) (hp : ¬ p) (k : RS P T ops os ((d, .bool false) :: env) n h Q) : RS P T ops (o :: os) env n h Q :=
  RS.calc hw ho (by rw [decide_eq_false hp, hd]; exact k)
theorem RS.dec {o : Oper} {d : Tmp} {p : Prop} [Decidable p] (hw : wants ops o env = some true) (hd : o.dst = some d) (ho : OpEv P T o env n h (.bool (decide p)) n .nil) (kt : p → RS P T ops os ((d, .bool true) :: env) n h Q)
    (kf : ¬ p → RS P T ops os ((d, .bool false) :: env) n h Q) : RS P T ops (o :: os) env n h Q := by
  by_cases hp : p
  · exact RS.decT hw hd ho hp (kt hp)
  · exact RS.decF hw hd ho hp (kf hp)
/-- With its value put. -/
theorem RS.put {o : Oper} {d : Tmp} {v : Value} (hw : wants ops o env = some true) (hd : o.dst = some d) (ho : OpEv P T o env n h v n .nil) (k : RS P T ops os ((d, v) :: env) n h Q) : RS P T ops (o :: os) env n h Q :=
  RS.calc hw ho (by rw [hd]; exact k)
theorem RS.omit {o : Oper} {d : Tmp} (hw : wants ops o env = some false) (hd : o.dst = some d) (k : RS P T ops os ((d, skipV) :: env) n h Q) : RS P T ops (o :: os) env n h Q :=
  RS.skip hw (by rw [hd]; exact k)
theorem RS.omit0 {o : Oper} (hw : wants ops o env = some false) (hd : o.dst = none) (k : RS P T ops os env n h Q) : RS P T ops (o :: os) env n h Q :=
  RS.skip hw (by rw [hd]; exact k)
theorem RS.mem {o : Oper} {d : Tmp} {v : Value} {dl : Dl} (hw : wants ops o env = some true) (hd : o.dst = some d) (ho : OpEv P T o env n h v n1 dl) (k : RS P T ops os ((d, v) :: env) n1 (h.app dl) Q) : RS P T ops (o :: os) env n h Q :=
  RS.op hw ho (.refl _) (by rw [hd]; exact k)
theorem RS.mem0 {o : Oper} {v : Value} {dl : Dl} (hw : wants ops o env = some true) (hd : o.dst = none) (ho : OpEv P T o env n h v n1 dl) (k : RS P T ops os env n1 (h.app dl) Q) : RS P T ops (o :: os) env n h Q :=
  RS.op hw ho (.refl _) (by rw [hd]; exact k)
theorem RS.alloc1 {e : TypeId} {t : Tmp} {d : TypeDesc} {by_ : Nat} {zv : Value} (hw : wants ops ⟨some t, .alloc e, ty, pos, after, gd⟩ env = some true) (hz : TI P e d 1 by_ zv) (hc : zv.cells = #[zv]) (hf : flat 8 zv = true)
    (k : RS P T ops os ((t, .pointer (some ⟨n, 0, none⟩)) :: env) (n + 1) (h.app (.new n ⟨1, 0, true, 0⟩ [zv])) Q) : RS P T ops (⟨some t, .alloc e, ty, pos, after, gd⟩ :: os) env n h Q := by
  have := op_alloc (P := P) (T := T) (n := n) (g := h) (e := e) (env := env) (dst := some t) (ty := ty) (pos := pos) (after := after) (gd := gd) hz (by rw [hc]; simpa using hf)
  rw [hc] at this
  exact RS.mem hw rfl this k
theorem RS.allocAgg {e : TypeId} {t : Tmp} {d : TypeDesc} {z by_ : Nat} {l : List Value} (hw : wants ops ⟨some t, .alloc e, ty, pos, after, gd⟩ env = some true) (hz : TI P e d z by_ (.agg l.toArray)) (hl : l.length = z) (hf : l.all (flat 8) = true)
    (k : RS P T ops os ((t, .pointer (some ⟨n, 0, none⟩)) :: env) (n + 1) (h.app (.new n ⟨z, 0, true, 0⟩ l)) Q) : RS P T ops (⟨some t, .alloc e, ty, pos, after, gd⟩ :: os) env n h Q := by
  have := op_alloc (P := P) (T := T) (n := n) (g := h) (e := e) (env := env) (dst := some t) (ty := ty) (pos := pos) (after := after) (gd := gd) hz (by simpa [Value.cells] using hf)
  simp only [Value.cells, hl] at this
  exact RS.mem hw rfl this k
theorem RS.box1 {e : TypeId} {t : Tmp} {x : Operand} {v : Value} (hw : wants ops ⟨some t, .box e x, ty, pos, after, gd⟩ env = some true) (hx : Opd env x v) (hc : v.cells = #[v]) (hy : okV v = true)
    (k : RS P T ops os ((t, .pointer (some ⟨n, 0, none⟩)) :: env) (n + 1) (h.app (.new n ⟨1, 0, true, 0⟩ [v])) Q) : RS P T ops (⟨some t, .box e x, ty, pos, after, gd⟩ :: os) env n h Q := by
  have := o_box (P := P) (T := T) (n := n) (g := h) (e := e) (env := env) (dst := some t) (ty := ty) (pos := pos) (after := after) (gd := gd) hx hy
  rw [hc] at this
  exact RS.mem hw rfl this k
theorem RS.boxAgg {e : TypeId} {t : Tmp} {x : Operand} {d : TypeDesc} {z by_ : Nat} {zv : Value} {l : List Value} (hw : wants ops ⟨some t, .box e x, ty, pos, after, gd⟩ env = some true) (hz : TI P e d z by_ zv) (hx : Opd env x (.agg l.toArray)) (hl : l.length = z) (hy : known l = true)
    (k : RS P T ops os ((t, .pointer (some ⟨n, 0, none⟩)) :: env) (n + 1) (h.app (.new n ⟨z, 0, true, 0⟩ l)) Q) : RS P T ops (⟨some t, .box e x, ty, pos, after, gd⟩ :: os) env n h Q := by
  have := o_box (P := P) (T := T) (n := n) (g := h) (e := e) (env := env) (dst := some t) (ty := ty) (pos := pos) (after := after) (gd := gd) hx hy
  simp only [Value.cells, hl] at this
  exact RS.mem hw rfl this k

/-! Cells, found through updates. -/
theorem c_new {h : AH} {n i : Nat} {m : Meta} {cs : List Value} {v : Value} (hv : cs[i]? = some v) : (h.app (.new n m cs)).cell n i = v := by simp [AH.app, Dl.new, List.getD, hv]
theorem c_new_ne {h : AH} {n b i : Nat} {m : Meta} {cs : List Value} {v : Value} (hb : b ≠ n) (k : h.cell b i = v) : (h.app (.new n m cs)).cell b i = v := by simp [AH.app, Dl.new, hb, k]
theorem c_in {h : AH} {b o i : Nat} {vs : List Value} {v : Value} (ho : o ≤ i) (hv : vs[i - o]? = some v) : (h.app (.sets b o vs)).cell b i = v := by
  have : i - o < vs.length := (List.getElem?_eq_some_iff.1 hv).1
  simp only [AH.app, Dl.sets]
  rw [if_pos (by first | exact ⟨rfl, ho, by omega⟩ | exact ⟨trivial, ho, by omega⟩)]; simp [List.getD, hv]
theorem c_out {h : AH} {b b' o i : Nat} {vs : List Value} {v : Value} (hb : b' ≠ b ∨ i < o ∨ o + vs.length ≤ i) (k : h.cell b' i = v) : (h.app (.sets b o vs)).cell b' i = v := by
  simp only [AH.app, Dl.sets]
  rw [if_neg (by omega)]; exact k
theorem i_new {h : AH} {n : Nat} {m : Meta} {cs : List Value} : (h.app (.new n m cs)).info n = some m := by simp [AH.app, Dl.new]
theorem i_new_ne {h : AH} {n b : Nat} {m : Meta} {cs : List Value} {q : Option Meta} (hb : b ≠ n) (k : h.info b = q) : (h.app (.new n m cs)).info b = q := by simp [AH.app, Dl.new, hb, k]
theorem i_sets {h : AH} {b b' o : Nat} {vs : List Value} {q : Option Meta} (k : h.info b' = q) : (h.app (.sets b o vs)).info b' = q := (sets_info h b o vs b').trans k
theorem rd_nil {h : AH} {b o : Nat} : rd h b o 0 = [] := rfl
theorem rd_cons {h : AH} {b o k : Nat} {v : Value} {vs : List Value} (hv : h.cell b o = v) (hr : rd h b (o + 1) k = vs) : rd h b o (k + 1) = v :: vs := by simp [rd, hv, hr]

end
end Go.Abs
