/- A row of bytes that nobody wrote (bytealg.MakeNoZero); a cut with a limit. -/
import Derived.Test.YtchfnjfmlhacfaaA
import Derived.Lib.MakeNoZero
import Derived.Laws.Externs
namespace Go.Proofs.Ytchfnjfmlhacfaa
open Go.Abs

variable {P : Program} {T : Nat → Prop} {ops : Array Oper} {os : List Oper} {env : Env} {n : Nat} {g h : AH} {Q : Env → Nat → AH → Prop} {dst : Option Tmp} {ty : TypeId} {pos : String} {after : Array Edge} {gd : Option (Nat × Bool)}
theorem op_makeNoZero {f : FuncId} {fn : Func} {ps ts : Array TypeId} {t e : TypeId} {x : Operand} {k : Nat} {d : TypeDesc} {by_ : Nat} {zv : Value} (hf : P.funcs[f]? = some fn) (hname : (fn.name == "runtime.NumGoroutine") = false) (hb : fn.body.isNone = true) (hn : Extern.findNext fn = none)
    (he : Extern.find fn = some (Extern.BytealgMakeNoZero.makeNoZero ps #[t])) (ht : P.underlying t = some (.slice e)) (hz : TI P e d 1 by_ zv) (hx : ev env x = .int .i64 (k : Nat)) (hk : k ≤ 281474976710656) :
    OpEv P T ⟨dst, .call { callee := .value (.func f), args := #[x], argTypes := ts }, ty, pos, after, gd⟩ env n g (.slice (some ⟨n, 0, none⟩) k k) (n + 1) (.new n ⟨k, 0, true, 1⟩ (List.replicate k (.tuple #[]))) := by
  have := op_new (P := P) (T := T) (env := env) (n := n) (g := g) (o := ⟨dst, .call { callee := .value (.func f), args := #[x], argTypes := ts }, ty, pos, after, gd⟩) (v := .slice (some ⟨n, 0, none⟩) k k) (cs := List.replicate k (.tuple #[])) (x := 1) fun w0 ρ w H ce hl hs hop => by
    have h1 := hop x (by simp [Op.operands, Call.operands])
    rw [hx] at h1
    have hcx : ce x = .int .i64 (k : Nat) := h1.int_inv
    have h2 := hop (.func f) (by simp [Op.operands, Call.operands])
    have hcf0 : ce (.func f) = .func (.func f) #[] #[] := by
      have e0 : ev env (.func f) = .func (.func f) #[] #[] := rfl
      rw [e0] at h2
      generalize ce (.func f) = q at h2
      cases h2 with
      | @func _ _ ys hs _ =>
        have : ys = #[] := Array.eq_empty_of_size_eq_zero (by simpa using hs.symm)
        rw [this]
    obtain ⟨cs, hrun, hle, _⟩ := Lib.run_makeNoZero (P := P) w ps t e ht k hk
    refine ⟨w.drew.drew, cs, e, .slice (some ⟨w.heap.size, 0, none⟩) k cs.size, hs.drew.drew, by simpa using hle, fun i hi => ?_, ?_, ?_⟩
    · have : (List.replicate k (Value.tuple #[])).getD i (.tuple #[]) = .tuple #[] := by
        simp only [List.getD, List.getElem?_replicate]; split <;> rfl
      rw [this]; exact .unk _
    · have hcf := run_callFunc_extern hf hname hb hn he #[.int .i64 (k : Nat)] w
      rw [hrun] at hcf
      simp [execOp, resolve, invoke, hcx, hcf, hcf0, Deferred.ofValue]
    · exact .slice (L := ⟨w.drew.drew.heap.size, 0, cs.size, 1⟩) cs.size (Ren.set_self _ _ _) hle fun _ => by show 0 + cs.size * 1 ≤ cs.size; omega
  rwa [List.length_replicate] at this
theorem op_slice3 {t e : TypeId} {x y q : Operand} {b o m : Nat} {mm : Meta} {k1 k2 : IntKind} {d : TypeDesc} {z by_ : Nat} {zv : Value} (hu : P.underlying t = some (.slice e)) (hz : TI P e d z by_ zv) (hx : ev env x = .slice (some ⟨b, o, none⟩) m m)
    (hhi : ev env y = .int k1 (m : Nat)) (hmx : ev env q = .int k2 (m : Nat)) (hm : g.info b = some mm) (hsz : mm.sz = 0 ∨ mm.sz = z) :
    OpEv P T ⟨dst, .slice t x none (some y) (some q), ty, pos, after, gd⟩ env n g (.slice (some ⟨b, o, none⟩) m m) n .nil :=
  .look fun w0 ρ w H ce hl hs hop => by
    have h1 := hop x (by simp [Op.operands]); rw [hx] at h1
    have h2 := hop y (by simp [Op.operands]); rw [hhi] at h2
    have h3 := hop q (by simp [Op.operands]); rw [hmx] at h3
    have hr : (underlying t).run P w = .ok (.slice e) w := by simp [underlying, hu]
    have key : ∀ (a : Addr) (c : Nat), m ≤ c → (Instr.sliceAt t (.slice (some a) m c) none (some (ce y)) (some (ce q))).run P w = .ok (.slice (if m = 0 then some a else some (a.add 0)) m m) w := by
      intro a c hmc
      have hb : (Instr.sliceBounds true m c none (some (ce y)) (some (ce q))).run P w = .ok (0, m, m) w := by
        simp [Instr.sliceBounds, Instr.sliceBound, h2.int_inv, h3.int_inv, asIntOf, hmc]
      simp only [Instr.sliceAt, Instr.slice, Sem.run_bind, hr, Result.andThen_ok, hb, hz.run_sizeOf, Sem.run_pure, Option.map_some]
      simp
    generalize hc : ce x = c at h1
    cases h1 with
    | @slice _ _ _ L c' hL hn hcc =>
      refine ⟨.slice (if m = 0 then some ⟨L.blk, L.off + o, none⟩ else some ((⟨L.blk, L.off + o, none⟩ : Addr).add 0)) m m, ?_, ?_⟩
      · simp only [execOp, hc, Option.map_none, Option.map_some, Sem.run_bind, key _ _ hn, Result.andThen_ok, Sem.run_pure]
      · by_cases hcl : m = 0
        · rw [if_pos hcl]; subst hcl; exact .slice0 _ hL
        · rw [if_neg hcl, addr_add, Nat.add_zero]
          refine .slice _ hL (Nat.le_refl _) fun h0 => ?_
          obtain ⟨L', k1, k2, _⟩ := hs.info b mm (hl.info b mm hm)
          rw [hL] at k1; cases k1
          have h5 := hcc (by omega)
          have : m * L.sz ≤ c' * L.sz := Nat.mul_le_mul_right _ hn
          omega
    | @slice0 _ _ L a hL =>
      refine ⟨.slice (some a) 0 0, ?_, ?_⟩
      · simp only [execOp, hc, Option.map_none, Option.map_some, Sem.run_bind, key _ _ (Nat.le_refl _), Result.andThen_ok, Sem.run_pure]
        simp
      · exact .slice0 _ hL
end Go.Proofs.Ytchfnjfmlhacfaa
