/- copy and clear over the abstract heap; what they and append look like to the stepping. -/
import Derived.Test.YtchfnjfmlhacfaaAbsApp3
import Derived.Test.YtchfnjfmlhacfaaAbsFn
namespace Go.Abs
open Go.RowKit

section
variable {P : Program} {T : Nat → Prop} {env : Env} {n : Nat} {g : AH}
variable {dst : Option Tmp} {ty : TypeId} {pos : String} {after : Array Edge} {gd : Option (Nat × Bool)}

theorem app_sets_nil (h : AH) (b o : Nat) : h.app (.sets b o []) = h := by
  have : ∀ (x i : Nat), (if x = b ∧ o ≤ i ∧ i < o + ([] : List Value).length then some (([] : List Value).getD (i - o) (.tuple #[])) else none) = none := fun x i => by
    rw [if_neg]; simp only [List.length_nil]; omega
  unfold Dl.sets
  show AH.mk _ _ = h
  cases h
  simp only [Dl.sets, this, Option.getD_none]
theorem within_sets {T : Nat → Prop} {n b o : Nat} {vs : List Value} (hT : T b ∨ n ≤ b) (hb : b < n) : Within T n n (.sets b o vs) := fun x hx => by
  have := sets_touches hx
  subst this; exact ⟨hT, hb⟩

/-- copy to a row of one's own. -/
theorem op_copy {t t2 e : TypeId} {x y : Operand} {d : TypeDesc} {z by_ b o m k kk : Nat} {zv v : Value} {xs : List Value} {mm : Meta} (hu : P.underlying t = some (.slice e)) (hz : TI P e d z by_ zv) (hz0 : z ≠ 0)
    (hx : ev env x = .slice (some ⟨b, o, none⟩) m m) (hy : ev env y = v) (hs : Src g z v k xs) (hfl : full v kk) (hsl : ∀ c w, (∃ ρ, VRel ρ v c) → (Builtin.lenOf c).run P w = .ok kk w) (hk : k = min kk m)
    (hm : g.info b = some mm) (hlk : mm.lock ≤ o) (hin : o + k * z ≤ mm.size) (hT : T b ∨ n ≤ b) (hb : b < n) :
    OpEv P T ⟨dst, .call { callee := .builtin .copy, args := #[x, y], argTypes := #[t, t2] }, ty, pos, after, gd⟩ env n g (.int .i64 k) n (.sets b o xs) where
  le := Nat.le_refl _
  within := within_sets hT hb
  run := fun rq w0 ρ w H a next Q hl hf hsim hop K => by
    have h1 := hop x (by simp [Op.operands, Call.operands]); rw [hx] at h1
    have h2 := hop y (by simp [Op.operands, Call.operands]); rw [hy] at h2
    have hM := hl.info b mm hm
    obtain ⟨L, hL, kz, k2, k3, k4⟩ := hsim.info b mm hM
    obtain ⟨cs, c1, c2, c3⟩ := hs.run (P := P) hl hsim h2 hz0
    have hlen := hsl (a.eval y) w ⟨ρ, h2⟩
    have hr : (underlying t).run P w = .ok (.slice e) w := by simp [underlying, hu]
    have hxl := hs.length
    have e0 : (#[t, t2] : Array TypeId)[0]? = some t := rfl
    have key : ∀ (A : Addr) (C : Nat), a.eval x = .slice (some A) m C → (k = 0 ∨ A = ⟨L.blk, L.off + o, none⟩) →
        (Oper.wpIn (FW rq) 0 P ⟨dst, .call { callee := .builtin .copy, args := #[x, y], argTypes := #[t, t2] }, ty, pos, after, gd⟩ a w next Q) := by
      intro A C hcx hA
      have e2 : (#[Value.slice (some A) m C, a.eval y] : Array Value)[0]? = some (.slice (some A) m C) := rfl
      have e3 : (#[Value.slice (some A) m C, a.eval y] : Array Value)[1]? = some (a.eval y) := rfl
      by_cases hk0 : k = 0
      · have hxs : xs = [] := List.eq_nil_of_length_eq_zero (by rw [hxl, hk0, Nat.zero_mul])
        have hcs : cs = [] := List.eq_nil_of_length_eq_zero (by rw [c1, hk0, Nat.zero_mul])
        subst hxs; subst hcs
        have hrun : (Builtin.copy_ #[t, t2] ty #[.slice (some A) m C, a.eval y]).run P w = .ok (.int .i64 k) w := by
          simp only [Builtin.copy_, e0, e2, e3]
          simp only [Sem.run_bind, hr, Result.andThen_ok, hlen, hz.run_sizeOf]
          rw [show Nat.min kk m = k from hk.symm, c3]
          simp [storeCells, Sem.run_pure, goInt]
        have hexec : (execOp a.eval ⟨dst, .call { callee := .builtin .copy, args := #[x, y], argTypes := #[t, t2] }, ty, pos, after, gd⟩).run P w = .ok (.value (.int .i64 k)) w := by
          simp [execOp, resolve, invoke, builtin, hcx, hrun]
        refine wpA_value hexec ?_
        exact K ρ _ _ (.refl _ _ _) (.int _ _) (by rw [app_sets_nil]; exact hsim)
      · have hA := hA.resolve_left hk0
        subst hA
        obtain ⟨e4, e5⟩ := hsim.storeCells (P := P) (o := o) hM hL xs cs (by omega) (fun j hj => ⟨by omega, by split <;> omega⟩) (fun j hj => c2 j (by omega)) hs.known
        have hrun : (Builtin.copy_ #[t, t2] ty #[.slice (some ⟨L.blk, L.off + o, none⟩) m C, a.eval y]).run P w = .ok (.int .i64 k) (w.setCells L.blk (L.off + o) cs) := by
          simp only [Builtin.copy_, e0, e2, e3]
          simp only [Sem.run_bind, hr, Result.andThen_ok, hlen, hz.run_sizeOf]
          rw [show Nat.min kk m = k from hk.symm, c3]
          simp only [Result.andThen_ok, e4, Sem.run_bind, Sem.run_pure, goInt]
        have hexec : (execOp a.eval ⟨dst, .call { callee := .builtin .copy, args := #[x, y], argTypes := #[t, t2] }, ty, pos, after, gd⟩).run P w = .ok (.value (.int .i64 k)) (w.setCells L.blk (L.off + o) cs) := by
          simp [execOp, resolve, invoke, builtin, hcx, hrun]
        refine wpA_value hexec ?_
        exact K ρ _ _ (.refl _ _ _) (.int _ _) e5
    generalize hcx : a.eval x = q at h1
    cases h1 with
    | @slice _ _ _ L' C hL' hmC hcc =>
      rw [hL] at hL'; cases hL'
      exact key _ C hcx (.inr rfl)
    | slice0 A hL' => exact key A 0 hcx (.inl (by omega))
/-- A method's value, of any value. -/
theorem op_meth {nm : String} {x : Operand} {v : Value} (hx : ev env x = v) : OpEv P T ⟨dst, .makeFunc (.method nm) #[x] #[], ty, pos, after, gd⟩ env n g (.func (.method nm) #[v] #[]) n .nil :=
  .calc fun ρ w ce h => by
    have h1 := h x (by simp [Op.operands]); rw [hx] at h1
    exact ⟨.func (.method nm) #[ce x] #[], by simp [execOp, Instr.makeFunc], .meth h1⟩
/-- Type t, no pointer, has method nm of its own: function f. -/
class Mc (P : Program) (t : TypeId) (nm : String) (f : outParam FuncId) : Prop where
  out : ∃ i m d, P.info? t = some i ∧ i.methods.find? (·.name == nm) = some m ∧ m.path = #[] ∧ m.func = some (f, false) ∧ P.underlying t = some d ∧ isPtrD d = false
theorem Mc.of {P : Program} {t : TypeId} {nm : String} {f : FuncId} {d : TypeDesc} (h : ((P.info? t).bind fun i => (i.methods.find? (·.name == nm)).map fun m => (m.path.isEmpty, m.func)) = some (true, some (f, false))) (hu : P.underlying t = some d) (hd : isPtrD d = false) : Mc P t nm f := by
  cases hi : P.info? t with
  | none => rw [hi] at h; cases h
  | some i =>
    rw [hi] at h
    simp only [Option.bind_some] at h
    cases hm : i.methods.find? (·.name == nm) with
    | none => rw [hm] at h; cases h
    | some m =>
      rw [hm] at h
      simp only [Option.map_some, Option.some.injEq, Prod.mk.injEq] at h
      exact ⟨i, m, d, hi, hm, by simpa using h.1, h.2, hu, hd⟩
theorem op_nilCheckM {x : Operand} {nm : String} {t : TypeId} {v : Value} {f : FuncId} [hM : Mc P t nm f] (hx : ev env x = .func (.method nm) #[.iface t v] #[]) :
    OpEv P T ⟨dst, .nilCheck x, ty, pos, after, gd⟩ env n g (.func (.method nm) #[.iface t v] #[]) n .nil :=
  .calc fun ρ w ce h => by
    have h1 := h x (by simp [Op.operands]); rw [hx] at h1
    generalize hc : ce x = c at h1
    cases h1 with
    | meth h' =>
      cases h' with
      | @iface _ _ y hv =>
        obtain ⟨i, m, d, a1, a2, a3, a4, a5, a6⟩ := hM.out
        have hti : (typeInfo t).run P w = .ok i w := by simp [typeInfo, a1]
        have hr : (underlying t).run P w = .ok d w := by simp [underlying, a5]
        have hnil : (nilAhead (P.types.size + Made.depth) t y nm).run P w = .ok (some false) w := by
          have hpos : 0 < Made.depth := by decide
          obtain ⟨k, hk⟩ : ∃ k, P.types.size + Made.depth = k + 1 := ⟨P.types.size + Made.depth - 1, by omega⟩
          rw [hk]
          unfold nilAhead
          simp only [Sem.run_bind, hti, Result.andThen_ok, a2, a3, followBlind, Sem.run_pure, a4, hr]
          revert a6; cases d <;> intro a6 <;> first | (cases a6; done) | rfl
        exact ⟨_, by simp [execOp, hc, Sem.run_bind, run_program, hnil], .meth (.iface hv)⟩
theorem op_invokeC {f : FuncId} {W : Nat → Prop} {n' : Nat} {h' : AH} {x : Operand} {t : TypeId} {v : Value} {name : String} {xs : Array Operand} {ts : Array TypeId} {r : Value} [hM : Mc P t name f] (hx : ev env x = .iface t v)
    (hev : Ev P W f (#[v] ++ xs.map (ev env)) n g r n' h') (hW : ∀ b, W b → T b) :
    ∃ d, h'.le (g.app d) ∧ Within W n n' d ∧ OpEv P T ⟨dst, .call { callee := .invoke x name, args := xs, argTypes := ts }, ty, pos, after, gd⟩ env n g r n' d := by
  obtain ⟨i, m, d, a1, a2, a3, a4, a5, a6⟩ := hM.out
  exact op_invoke hx a1 a2 a3 a4 a5 a6 hev hW
end
end Go.Abs
