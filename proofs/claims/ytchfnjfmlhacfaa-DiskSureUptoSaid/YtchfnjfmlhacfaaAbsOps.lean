/- Operations over the abstract heap: those that only compute. -/
import Derived.Test.YtchfnjfmlhacfaaAbsCall
import Derived.Laws.Entries
namespace Go.Abs
open Go.RowKit

/-- What a program tells of a type. -/
structure TI (P : Program) (t : TypeId) (d : TypeDesc) (size bytes : Nat) (zero : Value) : Prop where
  und : P.underlying t = some d
  info : ∃ i, P.info? t = some i ∧ i.size = size ∧ i.bytes = bytes ∧ i.zero = some zero
theorem TI.of {P : Program} {t : TypeId} {d : TypeDesc} {size bytes : Nat} {zero : Value} (hu : P.underlying t = some d)
    (hi : (P.info? t).map (fun i => (i.size, i.bytes, i.zero)) = some (size, bytes, some zero)) : TI P t d size bytes zero := by
  refine ⟨hu, ?_⟩
  cases h : P.info? t with
  | none => rw [h] at hi; cases hi
  | some i =>
    rw [h] at hi
    simp only [Option.map_some, Option.some.injEq, Prod.mk.injEq] at hi
    exact ⟨i, rfl, hi.1, hi.2.1, hi.2.2⟩

section
variable {P : Program} {t : TypeId} {d : TypeDesc} {size bytes : Nat} {zero : Value} (w : World)
theorem TI.run_underlying (h : TI P t d size bytes zero) : (underlying t).run P w = .ok d w := by
  simp [underlying, h.und]
theorem TI.run_sizeOf (h : TI P t d size bytes zero) : (sizeOf t).run P w = .ok size w := by
  obtain ⟨i, h1, h2, h3, h4⟩ := h.info
  simp [sizeOf, typeInfo, h1, h2]
theorem TI.run_typeInfo (h : TI P t d size bytes zero) : ∃ i, (typeInfo t).run P w = .ok i w ∧ i.size = size ∧ i.bytes = bytes ∧ i.zero = some zero := by
  obtain ⟨i, h1, h2⟩ := h.info
  exact ⟨i, by simp [typeInfo, h1], h2⟩
theorem TI.run_zeroValue (h : TI P t d size bytes zero) : (zeroValue t).run P w = .ok zero w := by
  obtain ⟨i, h1, h2, h3, h4⟩ := h.info
  simp [zeroValue, typeInfo, h1, h4]
end

def isAggD : TypeDesc → Bool
  | .struct _ | .array _ _ => true
  | _ => false
theorem TI.run_isAgg {P : Program} {t : TypeId} {d : TypeDesc} {size bytes : Nat} {zero : Value} (w : World) (h : TI P t d size bytes zero) : (isAgg t).run P w = .ok (isAggD d) w := by
  simp only [isAgg, Sem.run_bind, h.run_underlying, Result.andThen_ok]
  cases d <;> rfl

section
variable {P : Program} {T : Nat → Prop} {env : Env} {n : Nat} {g : AH}

/-- An operation that computes, whatever the world. -/
theorem OpEv.calc {o : Oper} {v : Value}
    (h : ∀ ρ w (ce : Operand → Value), (∀ x, x ∈ o.op.operands → VRel ρ (ev env x) (ce x)) → ∃ c, (execOp ce o).run P w = .ok (.value c) w ∧ VRel ρ v c) : OpEv P T o env n g v n .nil :=
  ⟨Nat.le_refl _, .nil _ _ _, fun _ w0 ρ w H a next Q _ _ hs hr K => by
    obtain ⟨c, h1, h2⟩ := h ρ w a.eval hr
    refine wpA_value h1 ?_
    exact K ρ c w (.refl _ _ _) h2 hs⟩

theorem VRel.int_inv {ρ : Ren} {k : IntKind} {x : Int} {c : Value} (h : VRel ρ (.int k x) c) : c = .int k x := by cases h; rfl
theorem VRel.bool_inv {ρ : Ren} {x : Bool} {c : Value} (h : VRel ρ (.bool x) c) : c = .bool x := by cases h; rfl
theorem VRel.string_inv {ρ : Ren} {x : ByteArray} {c : Value} (h : VRel ρ (.string x) c) : c = .string x := by cases h; rfl

variable {dst : Option Tmp} {ty : TypeId} {pos : String} {after : Array Edge} {gd : Option (Nat × Bool)}

theorem op_move {x : Operand} : OpEv P T ⟨dst, .move x, ty, pos, after, gd⟩ env n g (ev env x) n .nil :=
  .calc fun ρ w ce h => ⟨ce x, by simp [execOp], h x (by simp [Op.operands])⟩
theorem op_assign {x : Operand} : OpEv P T ⟨dst, .assign x, ty, pos, after, gd⟩ env n g (ev env x) n .nil :=
  .calc fun ρ w ce h => ⟨ce x, by simp [execOp], h x (by simp [Op.operands])⟩
theorem op_pick {c x y : Operand} {b : Bool} (hc : ev env c = .bool b) : OpEv P T ⟨dst, .pick c x y, ty, pos, after, gd⟩ env n g (if b then ev env x else ev env y) n .nil :=
  .calc fun ρ w ce h => by
    have h1 := h c (by simp [Op.operands]); rw [hc] at h1
    refine ⟨if b then ce x else ce y, by simp [execOp, h1.bool_inv, asBool], ?_⟩
    cases b
    · exact h y (by simp [Op.operands])
    · exact h x (by simp [Op.operands])

/-- Whole numbers, two of them. -/
def binI : BinOp → IntKind → Int → Int → Option Value
  | .add, k, a, b => some (.int k (k.wrap (a + b)))
  | .sub, k, a, b => some (.int k (k.wrap (a - b)))
  | .mul, k, a, b => some (.int k (k.wrap (a * b)))
  | .quo, k, a, b => if b = 0 then none else some (.int k (k.wrap (a.tdiv b)))
  | .rem, k, a, b => if b = 0 then none else some (.int k (a.tmod b))
  | .and, k, a, b => some (.int k (k.wrap (BitVec.ofInt k.bits a &&& BitVec.ofInt k.bits b).toNat))
  | .or, k, a, b => some (.int k (k.wrap (BitVec.ofInt k.bits a ||| BitVec.ofInt k.bits b).toNat))
  | .xor, k, a, b => some (.int k (k.wrap (BitVec.ofInt k.bits a ^^^ BitVec.ofInt k.bits b).toNat))
  | .andNot, k, a, b => some (.int k (k.wrap (BitVec.ofInt k.bits a &&& ~~~BitVec.ofInt k.bits b).toNat))
  | .eql, _, a, b => some (.bool (a == b))
  | .neq, _, a, b => some (.bool (a != b))
  | .lss, _, a, b => some (.bool (decide (a < b)))
  | .leq, _, a, b => some (.bool (decide (a ≤ b)))
  | .gtr, _, a, b => some (.bool (decide (a > b)))
  | .geq, _, a, b => some (.bool (decide (a ≥ b)))
  | _, _, _, _ => none
theorem binI_run {op : BinOp} {k : IntKind} {a b : Int} {v : Value} (h : binI op k a b = some v) (t : TypeId) (w : World) : (binOp op t (.int k a) (.int k b)).run P w = .ok v w := by
  cases op <;> simp only [binI] at h <;> first
    | contradiction
    | (injection h with h; subst h; simp [binOp, Op.intArith, Op.intBits, Op.intCmp]; done)
    | (split at h
       · contradiction
       · rename_i hb; injection h with h; subst h; simp [binOp, Op.intDiv, hb])
theorem eqGuard_int (op : BinOp) (t : TypeId) (x y : Operand) (k : IntKind) (a : Int) (v : Value) : eqGuard op t x y (.int k a) v = pure () := by cases op <;> rfl

theorem op_bin {op : BinOp} {t t' : TypeId} {x y : Operand} {k : IntKind} {a b : Int} {v : Value} (hx : ev env x = .int k a) (hy : ev env y = .int k b) (hv : binI op k a b = some v) :
    OpEv P T ⟨dst, .binOp op t x y t', ty, pos, after, gd⟩ env n g v n .nil :=
  .calc fun ρ w ce h => by
    have h1 := h x (by simp [Op.operands]); rw [hx] at h1
    have h2 := h y (by simp [Op.operands]); rw [hy] at h2
    have h1 := h1.int_inv; have h2 := h2.int_inv
    have hvv : VRel ρ v v := by
      cases op <;> simp only [binI] at hv <;> first
        | contradiction
        | (injection hv with hv; subst hv; constructor; done)
        | (split at hv
           · contradiction
           · injection hv with hv; subst hv; constructor)
    refine ⟨v, ?_, hvv⟩
    simp only [execOp, h1, h2, eqGuard_int, pure_bind, Sem.run_bind, binI_run hv, Result.andThen_ok, Sem.run_pure]

/-- Shifts. -/
theorem op_shl {t t' : TypeId} {x y : Operand} {k yk : IntKind} {a b : Int} (hx : ev env x = .int k a) (hy : ev env y = .int yk b) (hb : 0 ≤ b) :
    OpEv P T ⟨dst, .binOp .shl t x y t', ty, pos, after, gd⟩ env n g (.int k (k.wrap (a * 2 ^ (min b.toNat k.bits)))) n .nil :=
  .calc fun ρ w ce h => by
    have h1 := h x (by simp [Op.operands]); rw [hx] at h1
    have h2 := h y (by simp [Op.operands]); rw [hy] at h2
    refine ⟨_, ?_, .int _ _⟩
    have : ¬ b < 0 := by omega
    simp [execOp, h1.int_inv, h2.int_inv, eqGuard_int, binOp, Op.shift, this]
theorem op_shr {t t' : TypeId} {x y : Operand} {k yk : IntKind} {a b : Int} (hx : ev env x = .int k a) (hy : ev env y = .int yk b) (hb : 0 ≤ b) :
    OpEv P T ⟨dst, .binOp .shr t x y t', ty, pos, after, gd⟩ env n g (.int k (a.fdiv (2 ^ (min b.toNat k.bits)))) n .nil :=
  .calc fun ρ w ce h => by
    have h1 := h x (by simp [Op.operands]); rw [hx] at h1
    have h2 := h y (by simp [Op.operands]); rw [hy] at h2
    refine ⟨_, ?_, .int _ _⟩
    have : ¬ b < 0 := by omega
    simp [execOp, h1.int_inv, h2.int_inv, eqGuard_int, binOp, Op.shift, this]

theorem eqb_run {t : TypeId} (hu : P.underlying t = some .bool) (a b : Bool) (w : World) : (Op.equal t (.bool a) (.bool b)).run P w = .ok (a == b) w := by
  unfold Op.equal Op.maxDepth
  rw [Op.equalIn]
  simp only [Sem.run_bind, show (underlying t).run P w = .ok .bool w by simp [underlying, hu], Result.andThen_ok]
  rfl
theorem eqnil_run {t : TypeId} {d : TypeDesc} (hu : P.underlying t = some d) {x z : Value} (w : World) (b : Bool)
    (h : (match d, x, z with
      | .pointer _, .pointer a, .pointer none => b = a.isNone
      | .slice _, .slice a _ _, .slice none _ _ => b = a.isNone
      | .interface _, .nilIface, .nilIface => b = true
      | .interface _, .iface _ _, .nilIface => b = false
      | .func _ _ _, .nilFunc, .nilFunc => b = true
      | .func _ _ _, .func _ _ _, .nilFunc => b = false
      | _, _, _ => False)) : (Op.equal t x z).run P w = .ok b w := by
  unfold Op.equal Op.maxDepth
  rw [Op.equalIn]
  simp only [Sem.run_bind, show (underlying t).run P w = .ok d w by simp [underlying, hu], Result.andThen_ok]
  split at h <;> first | contradiction | skip
  all_goals
    subst h
    first
      | rfl
      | (rename Option Addr => a; cases a <;> rfl)

/-- Bools, strings: equal or not. -/
theorem op_eqb {t t' : TypeId} {x y : Operand} {a b : Bool} (hu : P.underlying t = some .bool) (hx : ev env x = .bool a) (hy : ev env y = .bool b) :
    OpEv P T ⟨dst, .binOp .eql t x y t', ty, pos, after, gd⟩ env n g (.bool (a == b)) n .nil :=
  .calc fun ρ w ce h => by
    have h1 := h x (by simp [Op.operands]); rw [hx] at h1
    have h2 := h y (by simp [Op.operands]); rw [hy] at h2
    refine ⟨_, ?_, .bool _⟩
    have e : eqGuard .eql t x y (.bool a) (.bool b) = pure () := rfl
    have e2 : binOp .eql t (.bool a) (.bool b) = (do pure (.bool (← Op.equal t (.bool a) (.bool b)))) := rfl
    simp only [execOp, h1.bool_inv, h2.bool_inv, e, e2, pure_bind, Sem.run_bind, eqb_run hu, Result.andThen_ok, Sem.run_pure]
theorem op_neb {t t' : TypeId} {x y : Operand} {a b : Bool} (hu : P.underlying t = some .bool) (hx : ev env x = .bool a) (hy : ev env y = .bool b) :
    OpEv P T ⟨dst, .binOp .neq t x y t', ty, pos, after, gd⟩ env n g (.bool (!(a == b))) n .nil :=
  .calc fun ρ w ce h => by
    have h1 := h x (by simp [Op.operands]); rw [hx] at h1
    have h2 := h y (by simp [Op.operands]); rw [hy] at h2
    refine ⟨_, ?_, .bool _⟩
    have e : eqGuard .neq t x y (.bool a) (.bool b) = pure () := rfl
    have e2 : binOp .neq t (.bool a) (.bool b) = (do pure (.bool (!(← Op.equal t (.bool a) (.bool b))))) := rfl
    simp only [execOp, h1.bool_inv, h2.bool_inv, e, e2, pure_bind, Sem.run_bind, eqb_run hu, Result.andThen_ok, Sem.run_pure]
theorem op_str {op : BinOp} {t t' : TypeId} {x y : Operand} {a b : ByteArray} {v : Value} (hx : ev env x = .string a) (hy : ev env y = .string b)
    (hv : ∀ w, (Op.stringOp op a b).run P w = .ok v w) (hf : ∀ ρ, VRel ρ v v) (hop : op ≠ .shl ∧ op ≠ .shr) :
    OpEv P T ⟨dst, .binOp op t x y t', ty, pos, after, gd⟩ env n g v n .nil :=
  .calc fun ρ w ce h => by
    have h1 := h x (by simp [Op.operands]); rw [hx] at h1
    have h2 := h y (by simp [Op.operands]); rw [hy] at h2
    refine ⟨v, ?_, hf ρ⟩
    have e : eqGuard op t x y (.string a) (.string b) = pure () := by cases op <;> rfl
    have e2 : binOp op t (.string a) (.string b) = Op.stringOp op a b := by cases op <;> first | rfl | simp_all
    simp [execOp, h1.string_inv, h2.string_inv, e, e2, hv w]

/-- A value against nil. -/
def isNilV : Value → Option Bool
  | .pointer none | .slice none 0 0 | .nilIface | .nilFunc => some true
  | .pointer (some _) | .slice (some _) _ _ | .iface _ _ | .func (.func _) _ _ => some false
  | _ => none
def nilFits : TypeDesc → Value → Value → Bool
  | .pointer _, .pointer _, .pointer none => true
  | .slice _, .slice _ _ _, .slice none 0 0 => true
  | .interface _, .nilIface, .nilIface => true
  | .interface _, .iface _ _, .nilIface => true
  | .func _ _ _, .nilFunc, .nilFunc => true
  | .func _ _ _, .func _ _ _, .nilFunc => true
  | _, _, _ => false
theorem nil_case {t : TypeId} {x : Operand} {z : Value} {d : TypeDesc} {b : Bool} (hu : P.underlying t = some d) (hd : nilFits d (ev env x) z = true) (hb : isNilV (ev env x) = some b)
    {ρ : Ren} {w : World} {ce : Operand → Value} (h1 : VRel ρ (ev env x) (ce x)) (h2 : VRel ρ (ev env (.const z)) (ce (.const z))) :
    ce (.const z) = z ∧ (∀ op y, eqGuard op t y (.const z) (ce x) z = pure ()) ∧ (binOp .eql t (ce x) z = (do pure (.bool (← Op.equal t (ce x) z)))) ∧
      (binOp .neq t (ce x) z = (do pure (.bool (!(← Op.equal t (ce x) z))))) ∧ (Op.equal t (ce x) z).run P w = .ok b w := by
  have hz : ce (.const z) = z := by
    have : flat 8 z = true := by
      unfold nilFits at hd; split at hd <;> first | rfl | contradiction
    simp only [ev, this, if_true] at h2
    generalize ce (.const z) = q at h2
    unfold nilFits at hd; split at hd <;> first | contradiction | (cases h2; rfl)
  refine ⟨hz, ?_⟩
  clear h2 hz
  generalize ce x = xc at h1
  generalize ev env x = xv at h1 hd hb
  unfold nilFits at hd
  split at hd <;> first | contradiction | skip
  all_goals
    cases h1 <;> simp only [isNilV, Option.some.injEq, reduceCtorEq] at hb <;> subst hb <;>
      exact ⟨fun op y => by cases op <;> cases y <;> rfl, rfl, rfl, eqnil_run hu w _ (by simp)⟩
theorem op_eqnil {t t' : TypeId} {x : Operand} {z : Value} {d : TypeDesc} {b : Bool} (hu : P.underlying t = some d) (hd : nilFits d (ev env x) z = true) (hb : isNilV (ev env x) = some b) :
    OpEv P T ⟨dst, .binOp .eql t x (.const z) t', ty, pos, after, gd⟩ env n g (.bool b) n .nil :=
  .calc fun ρ w ce h => by
    obtain ⟨hz, e1, e2, e3, hr⟩ := nil_case (w := w) hu hd hb (h x (by simp [Op.operands])) (h (.const z) (by simp [Op.operands]))
    refine ⟨_, ?_, .bool _⟩
    simp only [execOp, hz, e1, e2, pure_bind, Sem.run_bind, hr, Result.andThen_ok, Sem.run_pure]
theorem op_nenil {t t' : TypeId} {x : Operand} {z : Value} {d : TypeDesc} {b : Bool} (hu : P.underlying t = some d) (hd : nilFits d (ev env x) z = true) (hb : isNilV (ev env x) = some b) :
    OpEv P T ⟨dst, .binOp .neq t x (.const z) t', ty, pos, after, gd⟩ env n g (.bool (!b)) n .nil :=
  .calc fun ρ w ce h => by
    obtain ⟨hz, e1, e2, e3, hr⟩ := nil_case (w := w) hu hd hb (h x (by simp [Op.operands])) (h (.const z) (by simp [Op.operands]))
    refine ⟨_, ?_, .bool _⟩
    simp only [execOp, hz, e1, e3, pure_bind, Sem.run_bind, hr, Result.andThen_ok, Sem.run_pure]

theorem op_not {t : TypeId} {x : Operand} {b : Bool} (hx : ev env x = .bool b) : OpEv P T ⟨dst, .unOp .not t x, ty, pos, after, gd⟩ env n g (.bool (!b)) n .nil :=
  .calc fun ρ w ce h => by
    have h1 := h x (by simp [Op.operands]); rw [hx] at h1
    exact ⟨_, by simp [execOp, h1.bool_inv, Op.unary], .bool _⟩
theorem op_neg {t : TypeId} {x : Operand} {k : IntKind} {a : Int} (hx : ev env x = .int k a) : OpEv P T ⟨dst, .unOp .neg t x, ty, pos, after, gd⟩ env n g (.int k (k.wrap (0 - a))) n .nil :=
  .calc fun ρ w ce h => by
    have h1 := h x (by simp [Op.operands]); rw [hx] at h1
    exact ⟨_, by simp [execOp, h1.int_inv, Op.unary, Op.intArith], .int _ _⟩
theorem op_compl {t : TypeId} {x : Operand} {k : IntKind} {a : Int} (hx : ev env x = .int k a) :
    OpEv P T ⟨dst, .unOp .xor t x, ty, pos, after, gd⟩ env n g (.int k (k.wrap (BitVec.ofInt k.bits (if k.signed then -1 else k.max) ^^^ BitVec.ofInt k.bits a).toNat)) n .nil :=
  .calc fun ρ w ce h => by
    have h1 := h x (by simp [Op.operands]); rw [hx] at h1
    exact ⟨_, by simp [execOp, h1.int_inv, Op.unary, Op.intBits], .int _ _⟩

theorem op_conv {s t : TypeId} {x : Operand} {k k' : IntKind} {a : Int} {d : TypeDesc} (hs : P.underlying s = some d) (ht : P.underlying t = some (.int k')) (hx : ev env x = .int k a) :
    OpEv P T ⟨dst, .convert s t x, ty, pos, after, gd⟩ env n g (.int k' (k'.wrap a)) n .nil :=
  .calc fun ρ w ce h => by
    have h1 := h x (by simp [Op.operands]); rw [hx] at h1
    have hr : (underlying s).run P w = .ok d w := by simp [underlying, hs]
    have hr' : (underlying t).run P w = .ok (.int k') w := by simp [underlying, ht]
    refine ⟨_, ?_, .int _ _⟩
    simp [execOp, h1.int_inv, convert, hr, hr', Conv.intToInt]

theorem op_extract {x : Operand} {i : Nat} {vs : Array Value} {v : Value} (hx : ev env x = .tuple vs) (hv : vs[i]? = some v) :
    OpEv P T ⟨dst, .extract x i, ty, pos, after, gd⟩ env n g v n .nil :=
  .calc fun ρ w ce h => by
    have h1 := h x (by simp [Op.operands]); rw [hx] at h1
    generalize hc : ce x = c at h1
    have hi : i < vs.size := by
      rcases Nat.lt_or_ge i vs.size with h | h
      · exact h
      · simp [Array.getElem?_eq_none h] at hv
    cases h1 with
    | unk => simp at hi
    | @tuple _ ys hs hh =>
      have hi2 : i < ys.size := by omega
      refine ⟨ys.getD i (.tuple #[]), by simp [execOp, hc, Instr.extract, hi2, Array.getD], ?_⟩
      have := hh i
      have e : vs.getD i (.tuple #[]) = v := by rw [Array.getD_eq_getD_getElem?, hv]; rfl
      rwa [e] at this

theorem op_iface {t : TypeId} {x : Operand} {d : TypeDesc} (hu : P.underlying t = some d) (hd : (match d with | .interface _ => false | _ => true) = true) :
    OpEv P T ⟨dst, .makeInterface t x, ty, pos, after, gd⟩ env n g (.iface t (ev env x)) n .nil :=
  .calc fun ρ w ce h => by
    have hr : (underlying t).run P w = .ok d w := by simp [underlying, hu]
    refine ⟨.iface t (ce x), ?_, .iface (h x (by simp [Op.operands]))⟩
    simp only [execOp, Instr.makeInterface, Sem.run_bind, hr, Result.andThen_ok]
    cases d <;> first | rfl | simp at hd

theorem op_func {f : FuncId} {caps : Array Operand} : OpEv P T ⟨dst, .makeFunc (.func f) #[] caps, ty, pos, after, gd⟩ env n g (.func (.func f) #[] (caps.map (ev env))) n .nil :=
  .calc fun ρ w ce h => by
    refine ⟨.func (.func f) #[] (caps.map ce), by simp [execOp, Instr.makeFunc], .func (by simp) fun i => ?_⟩
    by_cases hi : i < caps.size
    · simp [Array.getD, hi]; exact h _ (by simp [Op.operands])
    · simp [Array.getD, hi]; exact .unk _

theorem VRel.ptr_inv {ρ : Ren} {b o : Nat} {c : Value} (h : VRel ρ (.pointer (some ⟨b, o, none⟩)) c) : ∃ L, ρ b = some L ∧ c = .pointer (some ⟨L.blk, L.off + o, none⟩) := by
  cases h with | ptr h => exact ⟨_, h, rfl⟩

theorem op_fieldAddr {s : TypeId} {x : Operand} {i b o : Nat} {fs : Array Field} {f : Field} {d : TypeDesc} {z by_ : Nat} {zv : Value} (hu : P.underlying s = some (.struct fs)) (hf : fs[i]? = some f)
    (hz : TI P f.type d z by_ zv) (hz0 : z ≠ 0) (hx : ev env x = .pointer (some ⟨b, o, none⟩)) :
    OpEv P T ⟨dst, .fieldAddr s x i, ty, pos, after, gd⟩ env n g (.pointer (some ⟨b, o + f.offset, none⟩)) n .nil :=
  .calc fun ρ w ce h => by
    have h1 := h x (by simp [Op.operands]); rw [hx] at h1
    obtain ⟨L, hL, hc⟩ := h1.ptr_inv
    have hr : (underlying s).run P w = .ok (.struct fs) w := by simp [underlying, hu]
    refine ⟨.pointer (some ⟨L.blk, L.off + (o + f.offset), none⟩), ?_, .ptr hL⟩
    simp [execOp, Instr.fieldAt, hr, hf, hc, Instr.sureAddr, fieldPlace, hz.run_sizeOf, hz0, addr_add, Nat.add_assoc]

/-- An element of a slice. -/
theorem op_indexAddr {t e : TypeId} {x y : Operand} {b o m : Nat} {k : IntKind} {i : Int} {d : TypeDesc} {z by_ : Nat} {zv : Value} (hu : P.underlying t = some (.slice e))
    (hz : TI P e d z by_ zv) (hx : ev env x = .slice (some ⟨b, o, none⟩) m m) (hy : ev env y = .int k i) (h0 : 0 ≤ i) (hi : i < m) :
    OpEv P T ⟨dst, .indexAddr t x y, ty, pos, after, gd⟩ env n g (.pointer (some ⟨b, o + i.toNat * z, none⟩)) n .nil :=
  .calc fun ρ w ce h => by
    have h1 := h x (by simp [Op.operands]); rw [hx] at h1
    have h2 := h y (by simp [Op.operands]); rw [hy] at h2
    have hr : (underlying t).run P w = .ok (.slice e) w := by simp [underlying, hu]
    generalize hc : ce x = c at h1
    cases h1 with
    | @slice _ _ _ L c' hL hn hcc =>
      refine ⟨.pointer (some ⟨L.blk, L.off + (o + i.toNat * z), none⟩), ?_, .ptr hL⟩
      simp [execOp, Instr.indexAt, hr, hc, h2.int_inv, asIntOf, h0, hi, hz.run_sizeOf, addr_add, Nat.add_assoc]
    | slice0 => omega

/-- An element of an array. -/
theorem op_arrayAddr {t e : TypeId} {x y : Operand} {b o m : Nat} {k : IntKind} {i : Int} {d : TypeDesc} {z by_ : Nat} {zv : Value} (hu : P.underlying t = some (.array m e))
    (hz : TI P e d z by_ zv) (hx : ev env x = .pointer (some ⟨b, o, none⟩)) (hy : ev env y = .int k i) (h0 : 0 ≤ i) (hi : i < m) :
    OpEv P T ⟨dst, .indexAddr t x y, ty, pos, after, gd⟩ env n g (.pointer (some ⟨b, o + i.toNat * z, none⟩)) n .nil :=
  .calc fun ρ w ce h => by
    have h1 := h x (by simp [Op.operands]); rw [hx] at h1
    have h2 := h y (by simp [Op.operands]); rw [hy] at h2
    have hr : (underlying t).run P w = .ok (.array m e) w := by simp [underlying, hu]
    obtain ⟨L, hL, hc⟩ := h1.ptr_inv
    refine ⟨.pointer (some ⟨L.blk, L.off + (o + i.toNat * z), none⟩), ?_, .ptr hL⟩
    simp [execOp, Instr.indexAt, hr, hc, h2.int_inv, asIntOf, h0, hi, hz.run_sizeOf, addr_add, Nat.add_assoc, Instr.sureAddr]

theorem op_nilCheck {x : Operand} {b o : Nat} (hx : ev env x = .pointer (some ⟨b, o, none⟩)) :
    OpEv P T ⟨dst, .nilCheck x, ty, pos, after, gd⟩ env n g (.pointer (some ⟨b, o, none⟩)) n .nil :=
  .calc fun ρ w ce h => by
    have h1 := h x (by simp [Op.operands]); rw [hx] at h1
    obtain ⟨L, hL, hc⟩ := h1.ptr_inv
    exact ⟨_, by simp [execOp, hc], .ptr hL⟩
theorem op_nilCheckI {x : Operand} {t : TypeId} {v : Value} (hx : ev env x = .iface t v) : OpEv P T ⟨dst, .nilCheck x, ty, pos, after, gd⟩ env n g (.iface t v) n .nil :=
  .calc fun ρ w ce h => by
    have h1 := h x (by simp [Op.operands]); rw [hx] at h1
    generalize hc : ce x = c at h1
    cases h1 with | iface h' => exact ⟨_, by simp [execOp, hc], .iface h'⟩
theorem op_nilCheckF {x : Operand} {f : FuncId} {caps : Array Value} (hx : ev env x = .func (.func f) #[] caps) : OpEv P T ⟨dst, .nilCheck x, ty, pos, after, gd⟩ env n g (.func (.func f) #[] caps) n .nil :=
  .calc fun ρ w ce h => by
    have h1 := h x (by simp [Op.operands]); rw [hx] at h1
    generalize hc : ce x = c at h1
    cases h1 with | func hs h' => exact ⟨_, by simp [execOp, hc], .func hs h'⟩

theorem op_len {x : Operand} {t e : TypeId} {a : Option Addr} {m c : Nat} (hu : P.underlying t = some (.slice e)) (hx : ev env x = .slice a m c) :
    OpEv P T ⟨dst, .call { callee := .builtin .len, args := #[x], argTypes := #[t] }, ty, pos, after, gd⟩ env n g (.int .i64 m) n .nil :=
  .calc fun ρ w ce h => by
    have h1 := h x (by simp [Op.operands, Call.operands]); rw [hx] at h1
    have hr : (underlying t).run P w = .ok (.slice e) w := by simp [underlying, hu]
    generalize hc : ce x = cc at h1
    refine ⟨_, ?_, .int _ _⟩
    cases h1 <;> simp [execOp, resolve, invoke, builtin, Builtin.len_, hr, hc, goInt]
theorem op_lenS {x : Operand} {t : TypeId} {s : ByteArray} (hu : P.underlying t = some .string) (hx : ev env x = .string s) :
    OpEv P T ⟨dst, .call { callee := .builtin .len, args := #[x], argTypes := #[t] }, ty, pos, after, gd⟩ env n g (.int .i64 s.size) n .nil :=
  .calc fun ρ w ce h => by
    have h1 := h x (by simp [Op.operands, Call.operands]); rw [hx] at h1
    have hr : (underlying t).run P w = .ok .string w := by simp [underlying, hu]
    exact ⟨_, by simp [execOp, resolve, invoke, builtin, Builtin.len_, hr, h1.string_inv, goInt], .int _ _⟩
theorem op_min {x y : Operand} {ts : Array TypeId} {k : IntKind} {a b : Int} (hx : ev env x = .int k a) (hy : ev env y = .int k b) :
    OpEv P T ⟨dst, .call { callee := .builtin .min, args := #[x, y], argTypes := ts }, ty, pos, after, gd⟩ env n g (.int k (min a b)) n .nil :=
  .calc fun ρ w ce h => by
    have h1 := h x (by simp [Op.operands, Call.operands]); rw [hx] at h1
    have h2 := h y (by simp [Op.operands, Call.operands]); rw [hy] at h2
    refine ⟨_, ?_, .int _ _⟩
    have : (if b < a then b else a) = min a b := by omega
    simp [execOp, resolve, invoke, builtin, Builtin.min_, Builtin.min2, h1.int_inv, h2.int_inv, this]
theorem op_max {x y : Operand} {ts : Array TypeId} {k : IntKind} {a b : Int} (hx : ev env x = .int k a) (hy : ev env y = .int k b) :
    OpEv P T ⟨dst, .call { callee := .builtin .max, args := #[x, y], argTypes := ts }, ty, pos, after, gd⟩ env n g (.int k (max a b)) n .nil :=
  .calc fun ρ w ce h => by
    have h1 := h x (by simp [Op.operands, Call.operands]); rw [hx] at h1
    have h2 := h y (by simp [Op.operands, Call.operands]); rw [hy] at h2
    refine ⟨_, ?_, .int _ _⟩
    have : (if b > a then b else a) = max a b := by omega
    simp [execOp, resolve, invoke, builtin, Builtin.max_, Builtin.max2, h1.int_inv, h2.int_inv, this]

end
end Go.Abs
