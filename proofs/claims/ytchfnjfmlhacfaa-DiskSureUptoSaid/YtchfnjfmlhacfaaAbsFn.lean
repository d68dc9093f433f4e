/- A function's results, its contract out of its body, and the operations that call. -/
import Derived.Test.YtchfnjfmlhacfaaAbsMemOps
namespace Go.Abs
open Go.RowKit

/-- What a result variable holds at the end. -/
inductive ResV (P : Program) (env : Env) (h : AH) : ResultVar → Value → Prop
  | tmp {t : Nat} : ResV P env h (.tmp t) (env.get t)
  | cell {a b o : Nat} {t : TypeId} {d : TypeDesc} {z by_ : Nat} {zv v : Value} (hz : TI P t d z by_ zv) (hx : env.get a = .pointer (some ⟨b, o, none⟩)) (ha : isAggD d = false)
      (hv : h.cell b o = v) (hk : v ≠ .tuple #[]) : ResV P env h (.cell a t) v
  | agg {a b o : Nat} {t : TypeId} {d : TypeDesc} {z by_ : Nat} {zv : Value} (hz : TI P t d z by_ zv) (hx : env.get a = .pointer (some ⟨b, o, none⟩)) (ha : isAggD d = true)
      (hk : known (rd h b o z) = true) : ResV P env h (.cell a t) (.agg (rd h b o z).toArray)

def resRun (tmps : Array Value) : ResultVar → Sem Value
  | .tmp t => pure (tmps.getD t (.tuple #[]))
  | .cell a t => do loadVar t (← asAddr (tmps.getD a (.tuple #[])))

theorem ResV.run {P : Program} {env : Env} {h H : AH} {rv : ResultVar} {v : Value} (r : ResV P env h rv v) {w0 : Base} {w : World} {ρ : Ren} {N : Nat} {tmps : Array Value} (hs : Sim w0 ρ H w) (hl : h.le H) (he : EnvRel ρ N env tmps) :
    ∃ c, (resRun tmps rv).run P w = .ok c w ∧ VRel ρ v c := by
  cases r with
  | tmp => exact ⟨_, rfl, he.at_ _⟩
  | @cell a b o t d z by_ zv v hz hx ha hv hk =>
    have h1 := he.at_ a; rw [hx] at h1
    obtain ⟨L, hL, hc⟩ := h1.ptr_inv
    have h2 : H.cell b o = h.cell b o := (hl.cell b o).resolve_left (by rw [hv]; exact hk)
    obtain ⟨L', c, k1, k2, k3⟩ := hs.cell b o (by rw [h2, hv]; exact hk)
    rw [hL] at k1; cases k1
    rw [h2, hv] at k3
    refine ⟨c, ?_, k3⟩
    simp only [resRun, hc]
    simp [asAddr, loadVar, hz.run_isAgg, ha, k2]
  | @agg a b o t d z by_ zv hz hx ha hk =>
    have h1 := he.at_ a; rw [hx] at h1
    obtain ⟨L, hL, hc⟩ := h1.ptr_inv
    obtain ⟨cs, k1, k2, k3⟩ := hs.rd (P := P) hl hL hk
    refine ⟨.agg cs.toArray, ?_, .agg (by simp [rd_length, k1]) fun i => ?_⟩
    · simp only [resRun, hc]
      simp [asAddr, loadVar, hz.run_isAgg, ha, hz.run_sizeOf, k3]
    · by_cases hi : i < z
      · have := (k2 i hi).2
        simpa [Array.getD_eq_getD_getElem?, List.getD] using this
      · have : (rd h b o z).toArray.getD i (.tuple #[]) = .tuple #[] := by
          simp [Array.getD, rd_length]; omega
        rw [this]; exact .unk _

/-- All results together. -/
inductive ResA (P : Program) (env : Env) (h : AH) : List ResultVar → List Value → Prop
  | nil : ResA P env h [] []
  | cons {rv v rs vs} (x : ResV P env h rv v) (r : ResA P env h rs vs) : ResA P env h (rv :: rs) (v :: vs)

def packed : List Value → Value
  | [v] => v
  | vs => .tuple vs.toArray

theorem ResA.run {P : Program} {env : Env} {h H : AH} {w0 : Base} {w : World} {ρ : Ren} {N : Nat} {tmps : Array Value} (hs : Sim w0 ρ H w) (hl : h.le H) (he : EnvRel ρ N env tmps) :
    ∀ {rs : List ResultVar} {vs : List Value}, ResA P env h rs vs → ∃ cs : List Value, cs.length = vs.length ∧ (∀ i, VRel ρ (vs.getD i (.tuple #[])) (cs.getD i (.tuple #[]))) ∧
      (rs.mapM (resRun tmps)).run P w = .ok cs w := by
  intro rs vs r
  induction r with
  | nil => exact ⟨[], rfl, fun i => by simp; exact .unk _, rfl⟩
  | @cons rv v rs vs x r ih =>
    obtain ⟨cs, k1, k2, k3⟩ := ih
    obtain ⟨c, c1, c2⟩ := x.run hs hl he
    refine ⟨c :: cs, by simp [k1], fun i => ?_, ?_⟩
    · cases i with
      | zero => exact c2
      | succ i => simpa using k2 i
    · rw [List.mapM_cons]
      simp only [Sem.run_bind, c1, Result.andThen_ok, k3, Sem.run_pure]

theorem ResA.results {P : Program} {env : Env} {h H : AH} {w0 : Base} {w : World} {ρ : Ren} {N : Nat} {tmps : Array Value} {fn : Func} (hs : Sim w0 ρ H w) (hl : h.le H) (he : EnvRel ρ N env tmps)
    {vs : List Value} (r : ResA P env h fn.results.toList vs) : ∃ c, (results fn tmps).run P w = .ok c w ∧ VRel ρ (packed vs) c := by
  obtain ⟨cs, k1, k2, k3⟩ := r.run hs hl he
  refine ⟨packed cs, ?_, ?_⟩
  · unfold Go.results
    have e : (fun x : ResultVar => (resRun tmps x)) = resRun tmps := rfl
    have e2 : Go.results fn tmps = (do let vs ← fn.results.mapM (resRun tmps); pure (if h : vs.size = 1 then vs[0] else .tuple vs)) := by
      unfold Go.results
      congr 2
    unfold Go.results at e2
    rw [e2]
    rw [Array.mapM_eq_mapM_toList]
    simp only [Sem.run_bind, Sem.run_map, k3, Result.andThen_ok]
    cases cs with
    | nil => rfl
    | cons c cs =>
      cases cs with
      | nil => rfl
      | cons c' cs => rfl
  · cases vs with
    | nil => simp only [packed]; exact .unk _
    | cons v vs =>
      cases cs with
      | nil => simp at k1
      | cons c cs =>
        cases vs with
        | nil =>
          cases cs with
          | nil => simpa [packed] using k2 0
          | cons c' cs => simp at k1
        | cons v' vs =>
          cases cs with
          | nil => simp at k1
          | cons c' cs =>
            simp only [packed]
            refine .tuple (by simpa using k1.symm) fun i => ?_
            have := k2 i
            simpa [Array.getD_eq_getD_getElem?, List.getD] using this

/-- The marks are come to, one by one. -/
theorem leavesM {P : Program} {fn : Func} {tmps : Array Value} {R : Ending → World → Prop} {w0 : Base} {ρ : Ren} {H : AH} : ∀ (ms : List Nat) (w : World), Sim (w0.keep ms) ρ H w →
    (∀ w', Sim w0 ρ H w' → ∃ v, (results fn tmps).run P w' = .ok v w' ∧ R (.returned v) w') → LeavesInM (FW none) 0 P fn tmps R (markOf ms) .returning w
  | [], w, s, K => K w s
  | r :: ms, w, s, K => by
    obtain ⟨w', h1, h2⟩ := s.taken (P := P)
    exact ⟨by simp, .inl ⟨r, w', rfl, h1, leavesM ms w' h2 K⟩⟩

/-- A function's contract out of its body. -/
theorem Ev.of {P : Program} {W : Nat → Prop} {f : FuncId} {fn : Func} {c : Code} {args : Array Value} {n n' : Nat} {h h' : AH} {e : Exit} {env' : Env} {vs : List Value}
    (hf : P.funcs[f]? = some fn) (hb : fn.body = some c) (hnm : (fn.name == "runtime.NumGoroutine") = false) (ha : args.size ≤ fn.ntmps)
    (hx : Ex P (fun b => W b ∨ n ≤ b) fn.ntmps c (argEnv 0 args.toList) n h e env' n' h') (he : e = .normal ∨ e = .ret) (hr : ResA P env' h' fn.results.toList vs) :
    Ev P W f args n h (packed vs) n' h' := by
  obtain ⟨d, hle, hn, hw, hx⟩ := hx
  refine ⟨⟨fn, hf, by rw [hb]; rfl, hnm⟩, d, hle, hn, fun b hb => ⟨?_, (hw b hb).2⟩, fun w0 ρ w H cargs hl hfr hs hr' => ?_⟩
  · rcases (hw b hb).1 with (h | h) | h
    · exact .inl h
    · exact .inr h
    · exact .inr h
  refine callsIn_of_wp_marks hf hb (FW.fn none f) ?_
  refine wpIn_mono (hx none w0 ρ w H _ [] .none hl hfr hs (EnvRel.start hr' ha)) ?_
  rintro e2 a w' ⟨rfl, ms, hd, ρ', hg, he', hs'⟩
  have key := leavesM (P := P) (fn := fn) (tmps := a.tmps) (R := fun e w' => ∃ ρ' c, e = .returned c ∧ Grow n n' ρ ρ' ∧ VRel ρ' (packed vs) c ∧ Sim w0 ρ' (H.app d) w') ms w' hs' fun w2 hs2 => by
    obtain ⟨v, r1, r2⟩ := hr.results hs2 (hle.trans (hl.app d)) he'
    exact ⟨v, r1, ρ', v, rfl, hg, r2, hs2⟩
  rw [List.append_nil] at hd
  rcases he with rfl | rfl
  · show LeavesInM _ _ _ _ _ _ a.defers _ _
    rw [hd]; exact key
  · show LeavesInM _ _ _ _ _ _ a.defers _ _
    rw [hd]; exact key

section
variable {P : Program} {T W : Nat → Prop} {env : Env} {n n' : Nat} {g h' : AH}
variable {dst : Option Tmp} {ty : TypeId} {pos : String} {after : Array Edge} {gd : Option (Nat × Bool)}

theorem callFunc_run {f : FuncId} {fn : Func} (hf : P.funcs[f]? = some fn) (hb : fn.body.isSome = true) (hn : (fn.name == "runtime.NumGoroutine") = false) (args : Array Value) (w : World) :
    (callFunc f args).run P w = .ok (.enter f args) w := by
  have hb' : fn.body.isNone = false := by cases h : fn.body <;> simp_all
  simp only [callFunc, Sem.run_bind, run_program, Result.andThen_ok, hf, hn, hb', Bool.false_eq_true, if_false, Sem.run_pure]

/-- What the contract of a call says of the operation. -/
theorem op_enter {o : Oper} {f : FuncId} {args : Array Value} {r : Value} (hev : Ev P W f args n g r n' h') (hW : ∀ b, W b → T b)
    (hrun : ∀ ρ w (ce : Operand → Value), (∀ x, x ∈ o.op.operands → VRel ρ (ev env x) (ce x)) → ∃ cargs, (execOp ce o).run P w = .ok (.enter f cargs) w ∧ RelAll ρ args cargs) :
    ∃ d, h'.le (g.app d) ∧ Within W n n' d ∧ OpEv P T o env n g r n' d := by
  obtain ⟨_, d, e, hn, hw, hc⟩ := hev
  refine ⟨d, e, hw, hn, fun b hb => ⟨(hw b hb).1.imp (hW b) id, (hw b hb).2⟩, fun rd w0 ρ w H a next Q hl hf hs hop K => ?_⟩
  obtain ⟨cargs, h1, h2⟩ := hrun ρ w a.eval hop
  refine wpA_enter h1 ?_
  refine CallsIn.mono (hc w0 ρ w H cargs hl hf hs h2) ?_
  rintro e w' ⟨ρ', c, rfl, hg, hv, hs'⟩
  exact K ρ' c w' hg hv hs'

theorem op_call {f : FuncId} {xs : Array Operand} {ts : Array TypeId} {r : Value}
    (hev : Ev P W f (xs.map (ev env)) n g r n' h') (hW : ∀ b, W b → T b) :
    ∃ d, h'.le (g.app d) ∧ Within W n n' d ∧ OpEv P T ⟨dst, .call { callee := .value (.func f), args := xs, argTypes := ts }, ty, pos, after, gd⟩ env n g r n' d :=
  have ⟨⟨fn, hf, hb, hn⟩, _⟩ := hev
  op_enter hev hW fun ρ w ce hop => by
    have h1 := hop (.func f) (by simp [Op.operands, Call.operands])
    have hfc : ∃ ys, ce (.func f) = .func (.func f) #[] ys ∧ ys = #[] := by
      simp only [ev] at h1
      generalize ce (.func f) = q at h1
      cases h1 with
      | func hs _ => exact ⟨_, rfl, by simpa using hs.symm⟩
    obtain ⟨ys, hfc, rfl⟩ := hfc
    refine ⟨xs.map ce, ?_, by simp, fun i => ?_⟩
    · simp [execOp, resolve, hfc, Deferred.ofValue, invoke, callFunc_run hf hb hn]
    · by_cases hi : i < xs.size
      · simp [Array.getD, hi]; exact hop _ (by simp [Op.operands, Call.operands])
      · simp [Array.getD, hi]; exact .unk _

/-- A function value is called. -/
theorem op_callv {f : FuncId} {x : Operand} {caps : Array Value} {xs : Array Operand} {ts : Array TypeId} {r : Value} (hx : ev env x = .func (.func f) #[] caps)
    (hev : Ev P W f (xs.map (ev env) ++ caps) n g r n' h') (hW : ∀ b, W b → T b) :
    ∃ d, h'.le (g.app d) ∧ Within W n n' d ∧ OpEv P T ⟨dst, .call { callee := .value x, args := xs, argTypes := ts }, ty, pos, after, gd⟩ env n g r n' d :=
  have ⟨⟨fn, hf, hb, hn⟩, _⟩ := hev
  op_enter hev hW fun ρ w ce hop => by
    have h1 := hop x (by simp [Op.operands, Call.operands]); rw [hx] at h1
    generalize hc : ce x = q at h1
    cases h1 with
    | @func _ _ ys hs hh =>
      refine ⟨xs.map ce ++ ys, ?_, RelAll.append ⟨by simp, fun i => ?_⟩ ⟨hs, hh⟩⟩
      · simp [execOp, resolve, hc, Deferred.ofValue, invoke, callFunc_run hf hb hn]
      · by_cases hi : i < xs.size
        · simp [Array.getD, hi]; exact hop _ (by simp [Op.operands, Call.operands])
        · simp [Array.getD, hi]; exact .unk _

def isPtrD : TypeDesc → Bool
  | .pointer _ => true
  | _ => false
/-- A method is called through an interface, whose value is a struct or the like. -/
theorem op_invoke {f : FuncId} {x : Operand} {t : TypeId} {v : Value} {name : String} {m : Method} {i : TypeInfo} {d : TypeDesc} {xs : Array Operand} {ts : Array TypeId} {r : Value} (hx : ev env x = .iface t v)
    (hi : P.info? t = some i) (hm : i.methods.find? (·.name == name) = some m) (hp : m.path = #[]) (hmf : m.func = some (f, false)) (hu : P.underlying t = some d) (hd : isPtrD d = false)
    (hev : Ev P W f (#[v] ++ xs.map (ev env)) n g r n' h') (hW : ∀ b, W b → T b) :
    ∃ d, h'.le (g.app d) ∧ Within W n n' d ∧ OpEv P T ⟨dst, .call { callee := .invoke x name, args := xs, argTypes := ts }, ty, pos, after, gd⟩ env n g r n' d :=
  have ⟨⟨fn, hf, hb, hn⟩, _⟩ := hev
  op_enter hev hW fun ρ w ce hop => by
    have h1 := hop x (by simp [Op.operands, Call.operands]); rw [hx] at h1
    generalize hc : ce x = q at h1
    cases h1 with
    | @iface _ _ y hv =>
      refine ⟨#[y] ++ xs.map ce, ?_, RelAll.append ⟨rfl, fun i => ?_⟩ ⟨by simp, fun i => ?_⟩⟩
      · have hti : (typeInfo t).run P w = .ok i w := by simp [typeInfo, hi]
        have hr : (underlying t).run P w = .ok d w := by simp [underlying, hu]
        have hmeth : (method (P.types.size + Made.depth) t y name).run P w = .ok (f, y) w := by
          have hpos : 0 < Made.depth := by decide
          obtain ⟨k, hk⟩ : ∃ k, P.types.size + Made.depth = k + 1 := ⟨P.types.size + Made.depth - 1, by omega⟩
          rw [hk]
          unfold method
          simp only [Sem.run_bind, hti, Result.andThen_ok, hm, hp, follow, Sem.run_pure, hmf]
          unfold receiverAt
          simp only [Sem.run_bind, hr, Result.andThen_ok]
          revert hd; cases d <;> intro hd <;> first | (cases hd; done) | rfl
        simp only [execOp, resolve, hc, Sem.run_bind, Sem.run_pure, Result.andThen_ok, invoke]
        have e0 : (#[Value.iface t y] ++ xs.map ce)[0]? = some (.iface t y) := by
          rw [Array.getElem?_append_left (by simp)]; rfl
        simp only [e0]
        unfold callMethod
        simp only [Sem.run_bind, run_program, Result.andThen_ok, hmeth]
        have e1 : (#[Value.iface t y] ++ xs.map ce).extract 1 (#[Value.iface t y] ++ xs.map ce).size = xs.map ce := by
          apply Array.ext'
          simp
          exact List.take_of_length_le (by simp)
        rw [e1]
        exact callFunc_run hf hb hn _ _
      · cases i with
        | zero => exact hv
        | succ i => simp [Array.getD]; exact .unk _
      · by_cases hi : i < xs.size
        · simp [Array.getD, hi]; exact hop _ (by simp [Op.operands, Call.operands])
        · simp [Array.getD, hi]; exact .unk _

end
end Go.Abs
