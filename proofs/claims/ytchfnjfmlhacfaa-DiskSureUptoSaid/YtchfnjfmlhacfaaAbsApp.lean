/- append and copy over the abstract heap. -/
import Derived.Test.YtchfnjfmlhacfaaAbsRows
namespace Go.Abs
open Go.RowKit

section
variable {P : Program} {T : Nat → Prop} {env : Env} {n : Nat} {g : AH}
variable {dst : Option Tmp} {ty : TypeId} {pos : String} {after : Array Edge} {gd : Option (Nat × Bool)}

/-- What append and copy read: k elements of z cells each, the cells xs. -/
inductive Src (g : AH) (z : Nat) : Value → Nat → List Value → Prop
  | slice {b o m k : Nat} (hk : k ≤ m) (hkn : known (rd g b o (k * z)) = true) : Src g z (.slice (some ⟨b, o, none⟩) m m) k (rd g b o (k * z))
  | nil : Src g z (.slice none 0 0) 0 []
  | str {s : ByteArray} {k : Nat} (hz : z = 1) (hk : k ≤ s.size) : Src g z (.string s) k ((s.data.toList.take k).map fun b => .int .u8 b.toNat)

theorem Src.length {g : AH} {z : Nat} {v : Value} {k : Nat} {xs : List Value} (h : Src g z v k xs) : xs.length = k * z := by
  cases h with
  | slice hk hkn => exact rd_length _ _ _ _
  | nil => simp
  | @str s k hz hk =>
    subst hz
    have e : s.data.toList.length = s.size := rfl
    rw [List.length_map, List.length_take, e]; omega
theorem Src.known {g : AH} {z : Nat} {v : Value} {k : Nat} {xs : List Value} (h : Src g z v k xs) : known xs = true := by
  cases h with
  | slice hk hkn => exact hkn
  | nil => rfl
  | str hz hk =>
    rename_i s
    generalize s.data.toList.take k = l
    induction l with
    | nil => rfl
    | cons a l ih => simpa [Abs.known] using ih

theorem Src.run {H : AH} {w0 : Base} {w : World} {ρ : Ren} {z : Nat} {v c : Value} {k : Nat} {xs : List Value} (h : Src g z v k xs) (hl : g.le H) (hs : Sim w0 ρ H w) (hv : VRel ρ v c) (hz : z ≠ 0) :
    ∃ cs : List Value, cs.length = k * z ∧ (∀ i, i < k * z → VRel ρ (xs.getD i (.tuple #[])) (cs.getD i (.tuple #[]))) ∧ (Builtin.firstCells z k c).run P w = .ok cs.toArray w := by
  cases h with
  | @slice b o m k hk hkn =>
    cases hv with
    | @slice _ _ _ L c' hL hn hc =>
      obtain ⟨cs, k1, k2, k3⟩ := hs.rd (P := P) hl hL hkn
      exact ⟨cs, k1, fun i hi => (k2 i hi).2, by simpa [Builtin.firstCells] using k3⟩
    | slice0 a hL =>
      have : k = 0 := by omega
      subst this
      exact ⟨[], by simp, fun i hi => by omega, by simp [Builtin.firstCells, loadCells, loadCellsFrom]⟩
  | nil => cases hv; exact ⟨[], by simp, fun i hi => by omega, by simp [Builtin.firstCells]⟩
  | @str s k hz1 hk =>
    have := hv.string_inv; subst this
    subst hz1
    refine ⟨(s.data.toList.take k).map fun b => .int .u8 b.toNat, by
      have e : s.data.toList.length = s.size := rfl
      rw [List.length_map, List.length_take, e]; omega, fun i hi => ?_, ?_⟩
    · generalize s.data.toList.take k = l
      by_cases hi : i < l.length
      · simp [List.getD, hi]; exact .int _ _
      · simp [List.getD, List.getElem?_eq_none (Nat.le_of_not_lt hi)]; exact .unk _
    · simp only [Builtin.firstCells, Sem.run_pure]
      congr 1
      apply Array.ext'
      rw [ByteArray.data_extract]; simp
/-- It is no int. -/
def notIntD : TypeDesc → Bool
  | .int _ => false
  | _ => true

/-- All of a value's elements. -/
def full (v : Value) (k : Nat) : Prop := match v with | .slice _ m _ => m = k | .string s => s.size = k | _ => True

theorem Src.len {ρ : Ren} {z : Nat} {v c : Value} {k : Nat} {xs : List Value} (h : Src g z v k xs) (hv : VRel ρ v c) (w : World) (hfull : full v k) : (Builtin.lenOf c).run P w = .ok k w := by
  cases h with
  | slice hk hkn => simp only [full] at hfull; subst hfull; cases hv <;> simp [Builtin.lenOf]
  | nil => cases hv; simp [Builtin.lenOf]
  | str hz hk => simp only [full] at hfull; have := hv.string_inv; subst this; simp [Builtin.lenOf, hfull]

theorem World.drew_drawn (w : World) : ({ w with drawn := w.drawn + 1 } : World) = w.drew := rfl

/-- Nothing is appended. -/
theorem op_append0 {t t2 e : TypeId} {x y : Operand} {d d2 : TypeDesc} {z by_ : Nat} {zv : Value} {a : Option Addr} {m c : Nat} (hu : P.underlying t = some (.slice e)) (hz : TI P e d z by_ zv) (hz0 : z ≠ 0)
    (ht2 : P.underlying t2 = some d2) (hd2 : notIntD d2 = true) (hx : ev env x = .slice a m c) (hy : Src g z (ev env y) 0 []) (hfl : full (ev env y) 0) :
    OpEv P T ⟨dst, .call { callee := .builtin .append, args := #[x, y], argTypes := #[t, t2] }, ty, pos, after, gd⟩ env n g (ev env x) n .nil :=
  .look fun w0 ρ w H ce hl hs hop => by
    have h1 := hop x (by simp [Op.operands, Call.operands])
    have h2 := hop y (by simp [Op.operands, Call.operands])
    have hr : (underlying t).run P w = .ok (.slice e) w := by simp [underlying, hu]
    have hr2 : (underlying t2).run P w = .ok d2 w := by simp [underlying, ht2]
    have hnz : ((match (generalizing := false) d2 with | .int _ => true | _ => false) : Bool) = false := by cases d2 <;> simp_all [notIntD]
    obtain ⟨cs, k1, k2, k3⟩ := hy.run (P := P) hl hs h2 hz0
    have hcs : cs = [] := List.eq_nil_of_length_eq_zero (by simpa using k1)
    subst hcs
    have hlen := hy.len (P := P) h2 w hfl
    refine ⟨ce x, ?_, h1⟩
    rw [hx] at h1
    have key : ∀ (A : Option Addr) (C : Nat), m ≤ C → ce x = .slice A m C → (Builtin.append_ #[t, t2] ty #[ce x, ce y]).run P w = .ok (ce x) w := by
      intro A C hC hcx
      rw [hcx]
      have e0 : (#[t, t2] : Array TypeId)[0]? = some t := rfl
      have e1 : (#[t, t2] : Array TypeId)[1]? = some t2 := rfl
      have e2 : (#[Value.slice A m C, ce y] : Array Value)[0]? = some (.slice A m C) := rfl
      have e3 : (#[Value.slice A m C, ce y] : Array Value)[1]? = some (ce y) := rfl
      simp only [Builtin.append_, e0, e1, e2, e3]
      simp only [Sem.run_bind, hr, hr2, Result.andThen_ok, hz.run_sizeOf, Sem.run_pure, Sem.run_map]
      rw [if_neg (by intro h; cases d2 <;> simp_all [notIntD])]
      simp only [Sem.run_bind, hlen, Result.andThen_ok, Nat.add_zero, if_pos hC]
      rw [if_pos (by cases d2 <;> simp_all [notIntD])]
      simp only [Sem.run_bind, k3, Result.andThen_ok]
      cases A with
      | none => rfl
      | some A => simp [storeCells]
    have : (Builtin.append_ #[t, t2] ty #[ce x, ce y]).run P w = .ok (ce x) w := by
      generalize hcx : ce x = q at h1
      rw [← hcx]
      cases h1 with
      | slice C h hn hc => exact key _ C hn hcx
      | slice0 A h => exact key _ 0 (Nat.le_refl _) hcx
      | nilSlice => exact key _ 0 (Nat.le_refl _) hcx
    simp [execOp, resolve, invoke, builtin, this]

theorem append_fit {t t2 e : TypeId} {d d2 : TypeDesc} {z by_ : Nat} {zv : Value} (hu : P.underlying t = some (.slice e)) (hz : TI P e d z by_ zv)
    (ht2 : P.underlying t2 = some d2) (hd2 : notIntD d2 = true) {a : Addr} {m C k : Nat} {y : Value} {cs : List Value} {w w' : World} (hC : m + k ≤ C)
    (hlen : (Builtin.lenOf y).run P w = .ok k w) (hcs : (Builtin.firstCells z k y).run P w = .ok cs.toArray w) (hst : (storeCells (a.add (m * z)) cs).run P w = .ok () w') :
    (Builtin.append_ #[t, t2] ty #[.slice (some a) m C, y]).run P w = .ok (.slice (some a) (m + k) C) w' := by
  have hr : (underlying t).run P w = .ok (.slice e) w := by simp [underlying, hu]
  have hr2 : (underlying t2).run P w = .ok d2 w := by simp [underlying, ht2]
  have e0 : (#[t, t2] : Array TypeId)[0]? = some t := rfl
  have e1 : (#[t, t2] : Array TypeId)[1]? = some t2 := rfl
  have e2 : (#[Value.slice (some a) m C, y] : Array Value)[0]? = some (.slice (some a) m C) := rfl
  have e3 : (#[Value.slice (some a) m C, y] : Array Value)[1]? = some y := rfl
  simp only [Builtin.append_, e0, e1, e2, e3]
  simp only [Sem.run_bind, hr, hr2, Result.andThen_ok, hz.run_sizeOf, Sem.run_pure, Sem.run_map]
  rw [if_neg (by intro h; cases d2 <;> simp_all [notIntD])]
  simp only [Sem.run_bind, hlen, Result.andThen_ok, if_pos hC]
  rw [if_pos (by cases d2 <;> simp_all [notIntD])]
  simp only [Sem.run_bind, hcs, Result.andThen_ok, hst, Sem.run_pure]

theorem append_grow {t t2 e : TypeId} {d d2 : TypeDesc} {z by_ : Nat} {zv : Value} (hu : P.underlying t = some (.slice e)) (hz : TI P e d z by_ zv)
    (ht2 : P.underlying t2 = some d2) (hd2 : notIntD d2 = true) {A : Option Addr} {m C k : Nat} {y : Value} {olds cs : List Value} {w : World} (hC : C < m + k)
    (hb0 : by_ ≠ 0) (hbig : (m + k) * by_ ≤ 140737488355328)
    (hlen : (Builtin.lenOf y).run P w = .ok k w) (hcs : ∀ w1, w1 = w.drew → (Builtin.firstCells z k y).run P w1 = .ok cs.toArray w1) (hold : ∀ w1, w1 = w.drew → (Builtin.firstCells z m (.slice A m C)).run P w1 = .ok olds.toArray w1) :
    ∃ (N : Nat), m + k ≤ N ∧ (Builtin.append_ #[t, t2] ty #[.slice A m C, y]).run P w = .ok (.slice (some ⟨w.heap.size, 0, none⟩) (m + k) N) (w.drew.alloc (.cells (olds.toArray ++ cs.toArray ++ Builtin.zeroCells zv.cells (N - (m + k))) e)) := by
  have hr : ∀ w1, (underlying t).run P w1 = .ok (.slice e) w1 := fun w1 => by simp [underlying, hu]
  have hr2 : ∀ w1, (underlying t2).run P w1 = .ok d2 w1 := fun w1 => by simp [underlying, ht2]
  have e0 : (#[t, t2] : Array TypeId)[0]? = some t := rfl
  have e1 : (#[t, t2] : Array TypeId)[1]? = some t2 := rfl
  have e2 : (#[Value.slice A m C, y] : Array Value)[0]? = some (.slice A m C) := rfl
  have e3 : (#[Value.slice A m C, y] : Array Value)[1]? = some y := rfl
  obtain ⟨i, hi1, hi2⟩ := hz.info
  have hti : ∀ w1, (typeInfo e).run P w1 = .ok i w1 := fun w1 => by simp [typeInfo, hi1]
  have hib : i.bytes = by_ := hi2.2.1
  refine ⟨m + k + w.tape w.drawn (.appendCap (m + k) C e) % (2 ^ 63 - (m + k)), by omega, ?_⟩
  have hfits := growslice_fits hC hbig
  simp only [Builtin.append_, e0, e1, e2, e3]
  simp only [Sem.run_bind, hr, hr2, Result.andThen_ok, hz.run_sizeOf, Sem.run_pure, Sem.run_map]
  rw [if_neg (by intro h; cases d2 <;> simp_all [notIntD])]
  simp only [Sem.run_bind, hlen, Result.andThen_ok]
  rw [if_neg (by omega)]
  simp only [Sem.run_bind, hti, Result.andThen_ok, hib]
  rw [if_neg (by
    rintro ⟨_, h1 | h1⟩
    · cases d2 <;> simp_all [notIntD]
    · exact hb0 h1)]
  simp only [Sem.run_bind, hti, Result.andThen_ok, hib]
  rw [if_neg (show ¬ (Builtin.nextslicecap (m + k) C * by_ > 2 ^ 48) by
    have : (2 : Nat) ^ 48 = 281474976710656 := by decide
    omega)]
  simp only [Sem.run_bind, run_choose, Question.forced, Bool.false_eq_true, if_false, Result.andThen_ok, Question.cut, hti, hib, run_askRoom]
  rw [World.drew_drawn, hold _ rfl]
  simp only [Result.andThen_ok]
  rw [if_pos (by cases d2 <;> simp_all [notIntD]), hcs _ rfl]
  simp only [Result.andThen_ok, hz.run_zeroValue, newRow, Sem.run_bind, run_newObj, Sem.run_pure]
  rfl

end
end Go.Abs
