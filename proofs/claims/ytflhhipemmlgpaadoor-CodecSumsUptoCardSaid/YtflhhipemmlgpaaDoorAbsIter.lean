/- A range over a function: the statement, its rounds, and calls of function values of whatever kind. -/
import Derived.Test.YtflhhipemmlgpaaDoorAbsStep5
set_option linter.unusedSimpArgs false
set_option linter.unusedVariables false
namespace Go.Abs
open Go.RowKit

/-- The environment with some more. -/
def Env.puts : Env → List (Nat × Value) → Env
  | env, [] => env
  | env, (t, v) :: r => Env.puts ((t, v) :: env) r
theorem EnvRel.puts {ρ : Ren} {N : Nat} : ∀ {ps : List Nat} {vs cs : List Value} {env : Env} {tmps : Array Value}, EnvRel ρ N env tmps → (∀ p ∈ ps, p < N) → (∀ i, VRel ρ (vs.getD i (.tuple #[])) (cs.getD i (.tuple #[]))) → vs.length = cs.length →
    EnvRel ρ N (env.puts (ps.zip vs)) ((ps.zip cs).foldl (fun tmps (t, a) => tmps.setIfInBounds t a) tmps)
  | [], _, _, _, _, he, _, _, _ => by simpa [Env.puts] using he
  | _ :: _, [], [], _, _, he, _, _, _ => by simpa [Env.puts] using he
  | p :: ps, v :: vs, c :: cs, env, tmps, he, hp, hv, hl => by
    have h1 : EnvRel ρ N ((p, v) :: env) (tmps.setIfInBounds p c) :=
      EnvRel.put (a := ⟨tmps, []⟩) he (some p) (fun t ht => by cases ht; exact hp _ (by simp)) (v := v) (c := c) (by simpa using hv 0)
    simp only [List.zip_cons_cons, Env.puts, List.foldl_cons]
    exact EnvRel.puts h1 (fun q hq => hp q (by simp [hq])) (fun i => by simpa using hv (i + 1)) (by simpa using hl)
  | _ :: _, [], _ :: _, _, _, _, _, _, hl => by simp at hl
  | _ :: _, _ :: _, [], _, _, _, _, _, hl => by simp at hl

/-- A call of what a range over a function hands to that function: one round. -/
def YEv (P : Program) (W : Nat → Prop) (b : Nat) (args : Array Value) (n : Nat) (h : AH) (r : Value) (n' : Nat) (h' : AH) : Prop :=
  ∃ d : Dl, h'.le (h.app d) ∧ n ≤ n' ∧ Within W n n' d ∧
    ∀ (rd : Option Nat) (w0 : Base) (ρ : Ren) (w : World) (H : AH) (cargs : Array Value) (L : Loc), h.le H → Fresh n n' ρ → Sim w0 ρ H w → RelAll ρ args cargs → ρ b = some L →
      ∃ l f tmps assign body, (Instr.yield L.blk cargs).run P w = .ok (.round l f tmps assign body) w ∧
        RoundIn (FW rd) 0 P l f tmps assign body w fun e w' => ∃ ρ' c, e = .returned c ∧ Grow n n' ρ ρ' ∧ VRel ρ' r c ∧ Sim w0 ρ' (H.app d) w'

/-- How a round is left, as the loop notes it. -/
def jumpOf : Exit → Option (Option Code)
  | .normal => some none
  | .ret => some (some .ret)
  | .exit id => some (some (.exit id))
  | .goto l => some (some (.goto l))
  | _ => none
def ALoop.at (A : ALoop) : Option Code → ALoop
  | none => A
  | some c => { A with state := .done, pending := some c }
def ALoop.busy (A : ALoop) : ALoop := { A with state := .busy }
def ALoop.over (A : ALoop) : ALoop := { A with state := .exhausted }

theorem le_info {h H : AH} {b : Nat} {m : Meta} (hl : h.le H) (hm : h.info b = some m) : H.info b = some m := hl.info b m hm
theorem Within.obj {W : Nat → Prop} {b n n' : Nat} {o : AObj} (hW : W b ∨ n ≤ b) (hb : b < n') : Within W n n' (.obj b o) := by
  intro x hx
  unfold Dl.obj at hx
  rcases hx with h | ⟨i, h⟩
  · simp only at h
    split at h
    · rename_i e; subst e; exact ⟨hW, hb⟩
    · exact absurd rfl h
  · exact absurd rfl h

theorem YEv.of {P : Program} {W : Nat → Prop} {b : Nat} {A : ALoop} {args : Array Value} {n n1 n2 : Nat} {h h1 h2 : AH} {env1 env2 : Env} {e : Exit} {j : Option Code}
    (hA : h.info b = some (AObj.loop A).m) (hst : A.state = .ready) (hp : A.pending = none) (hsz : args.size = A.params.size) (hps : ∀ p ∈ A.params.toList, p < A.N) (hW : W b) (hbn : b < n)
    (ha : Ex P (fun x => W x ∨ n ≤ x) A.N A.assign (A.env.puts (A.params.toList.zip args.toList)) n h .normal env1 n1 h1) (hA1 : h1.info b = some (AObj.loop A).m)
    (hb : Ex P (fun x => W x ∨ n ≤ x) A.N A.body env1 n1 (h1.app (.obj b (.loop A.busy))) e env2 n2 h2) (hA2 : h2.info b = some (AObj.loop A.busy).m) (hj : jumpOf e = some j) :
    YEv P W b args n h (.bool j.isNone) n2 (h2.app (.obj b (.loop (A.at j)))) := by
  obtain ⟨d1, hle1, hn1, hw1, run1⟩ := ha
  obtain ⟨d2, hle2, hn2, hw2, run2⟩ := hb
  have hwb := Within.obj (n := n1) (n' := n1) (o := .loop A.busy) (W := fun x => W x ∨ n ≤ x) (b := b) (.inl (.inl hW)) (by omega)
  have hwe := Within.obj (n := n2) (n' := n2) (o := .loop (A.at j)) (W := fun x => W x ∨ n ≤ x) (b := b) (.inl (.inl hW)) (by omega)
  refine ⟨d1.comp ((Dl.obj b (.loop A.busy)).comp (d2.comp (.obj b (.loop (A.at j))))), ?_, by omega, ?_, fun rd w0 ρ w H cargs L hl hf hs hr hL => ?_⟩
  · rw [AH.app_comp, AH.app_comp, AH.app_comp]
    exact (hle2.trans ((hle1.app _).app _)).app _
  · have hh := hw1.two hn1 hn2 (hwb.two (Nat.le_refl _) hn2 (hw2.two hn2 (Nat.le_refl _) hwe))
    intro x hx
    obtain ⟨k1, k2⟩ := hh x hx
    refine ⟨?_, k2⟩
    rcases k1 with (k | k) | k
    · exact .inl k
    · exact .inr k
    · exact .inr k
  obtain ⟨L', c, k1, k2, k3, k4, k5⟩ := hs.obj b _ (.loop A) (le_info hl hA) rfl
  rw [hL] at k1; cases k1
  cases k5 with
  | @loop _ r hrel =>
  have hsz' : cargs.size = r.params.size := by rw [hrel.params, ← hsz, hr.size]
  refine ⟨_, _, _, _, _, run_yield k4 hsz', ?_⟩
  refine roundIn_of_wpIn (F := FW rd) (n := 0) (FW.fn rd _) ?_
  have hin : (FW rd).inRound L.blk = FW (some L.blk) := rfl
  rw [hin, hrel.assign, hrel.body]
  have s0 : Sim (w0.round L.blk) ρ H w := hs.round k4
  have hrd : ∀ ms, RdOk ((w0.round L.blk).keep ms) (some L.blk) := fun ms l hl => by cases hl; exact List.mem_cons_self
  have henv : EnvRel ρ A.N (A.env.puts (A.params.toList.zip args.toList)) ((r.params.zip cargs).foldl (fun tmps (t, a) => tmps.setIfInBounds t a) r.tmps) := by
    have := EnvRel.puts (ps := A.params.toList) (vs := args.toList) (cs := cargs.toList) hrel.env hps (fun i => by
      have := hr.at_ i
      simpa [Array.getD_eq_getD_getElem?, List.getD] using this) (by simpa using hr.size)
    rw [hrel.params, ← Array.foldl_toList, Array.toList_zip]
    exact this
  refine wpIn_mono (run1 (some L.blk) (w0.round L.blk) ρ w H _ [] (hrd []) hl (hf.left (by omega)) s0 henv) ?_
  rintro e1 a1 w1 ⟨rfl, ms1, hd1, ρ1, hg1, he1, hs1⟩
  have hH1 : (H.app d1).info b = some (AObj.loop A).m := le_info (hle1.trans (hl.app d1)) hA1
  have hL1 := hg1.le _ _ hL
  obtain ⟨L1, c1, p1, p2, p3, p4, p5⟩ := hs1.obj b _ (.loop A) hH1 rfl
  rw [hL1] at p1; cases p1
  cases p5 with
  | @loop _ r1 hrel1 =>
  refine ⟨_, run_beginRound p4 (hrel1.state.trans hst), ?_⟩
  have hs1' : Sim ((w0.round L.blk).keep ms1) ρ1 ((H.app d1).app (.obj b (.loop A.busy))) (w1.putObj L.blk (.loop { r1 with state := .busy })) :=
    hs1.putObj hH1 hL1 p4 (.loop hrel1) (.loop ⟨hrel1.params, hrel1.assign, hrel1.body, rfl, hrel1.pending, hrel1.env⟩) (fun r' _ => ⟨_, rfl⟩)
  obtain ⟨tm, df⟩ := a1
  refine wpIn_mono (run2 (some L.blk) ((w0.round L.blk).keep ms1) ρ1 _ ((H.app d1).app (.obj b (.loop A.busy))) tm df (hrd ms1) ((hle1.trans (hl.app d1)).app _) ((hf.right hn1 hg1).left (Nat.le_refl _)) hs1' he1) ?_
  rintro e2 a2 w2 ⟨rfl, ms2, hd2, ρ2, hg2, he2, hs2⟩
  have hH2 : (((H.app d1).app (.obj b (.loop A.busy))).app d2).info b = some (AObj.loop A.busy).m := le_info (hle2.trans (((hle1.trans (hl.app d1)).app _).app d2)) hA2
  have hL2 := hg2.le _ _ hL1
  obtain ⟨L2, c2, q1, q2, q3, q4, q5⟩ := hs2.obj b _ (.loop A.busy) hH2 rfl
  rw [hL2] at q1; cases q1
  cases q5 with
  | @loop _ r2 hrel2 =>
  have hs3 : Sim (((w0.round L.blk).keep ms1).keep ms2) ρ2 ((((H.app d1).app (.obj b (.loop A.busy))).app d2).app (.obj b (.loop (A.at j)))) (w2.putObj L.blk (.loop { r2 with state := if j.isNone then .ready else .done, pending := j })) :=
    hs2.putObj hH2 hL2 q4 (.loop hrel2) (.loop (by
      cases j with
      | none => exact ⟨hrel2.params, hrel2.assign, hrel2.body, hst.symm, hp.symm, hrel2.env⟩
      | some c => exact ⟨hrel2.params, hrel2.assign, hrel2.body, rfl, rfl, hrel2.env⟩)) (fun r' _ => ⟨_, rfl⟩)
  have hs4 := hs3.unkeep.unkeep.unround
  rw [← AH.app_comp, ← AH.app_comp, ← AH.app_comp, ← Dl.comp_assoc, ← Dl.comp_assoc] at hs4
  have fin : ∃ v w', (Instr.endRound L.blk j).run P w2 = .ok v w' ∧ ∃ ρ' c, Ending.returned v = .returned c ∧ Grow n n2 ρ ρ' ∧ VRel ρ' (.bool j.isNone) c ∧ Sim w0 ρ' (H.app (d1.comp ((Dl.obj b (.loop A.busy)).comp (d2.comp (.obj b (.loop (A.at j))))))) w' :=
    ⟨_, _, run_endRound j q4, ρ2, _, rfl, hg1.trans hn1 hn2 hg2, .bool _, by simpa only [AH.app_comp] using hs4⟩
  cases e2 with
  | normal => cases hj; exact fin
  | ret => cases hj; exact fin
  | exit id => cases hj; exact fin
  | goto t => cases hj; exact fin
  | _ => cases hj

section
variable {P : Program} {T W : Nat → Prop} {N : Nat} {env : Env} {n n' : Nat} {g h h' : AH}
variable {dst : Option Tmp} {ty : TypeId} {pos : String} {after : Array Edge} {gd : Option (Nat × Bool)}

theorem op_yield {x : Operand} {b : Nat} {xs : Array Operand} {ts : Array TypeId} {r : Value} (hx : ev env x = .func (.yield b) #[] #[]) (hev : YEv P W b (xs.map (ev env)) n g r n' h') (hW : ∀ b, W b → T b) :
    ∃ d, h'.le (g.app d) ∧ Within W n n' d ∧ OpEv P T ⟨dst, .call { callee := .value x, args := xs, argTypes := ts }, ty, pos, after, gd⟩ env n g r n' d := by
  obtain ⟨d, hle, hn, hw, run⟩ := hev
  refine ⟨d, hle, hw, hn, fun b hb => ⟨(hw b hb).1.imp (hW b) id, (hw b hb).2⟩, fun rd w0 ρ w H a next Q hl hf hs hop K => ?_⟩
  have h1 := hop x (by simp [Op.operands, Call.operands])
  rw [hx] at h1
  generalize hc : a.eval x = q at h1
  cases h1 with
  | @yield _ L hL =>
  have hra : RelAll ρ (xs.map (ev env)) (xs.map a.eval) := by
    refine ⟨by simp, fun i => ?_⟩
    by_cases hi : i < xs.size
    · simp [Array.getD, hi]; exact hop _ (by simp [Op.operands, Call.operands])
    · simp [Array.getD, hi]; exact .unk _
  obtain ⟨l, f, tmps, assign, body, hy, hround⟩ := run rd w0 ρ w H _ L hl hf hs hra hL
  have hex : (execOp a.eval (⟨dst, .call { callee := .value x, args := xs, argTypes := ts }, ty, pos, after, gd⟩ : Oper)).run P w = .ok (.round l f tmps assign body) w := by
    simpa [execOp, resolve, hc, Deferred.ofValue, invoke] using hy
  refine ⟨fun f _ => FW.fn rd f, ?_⟩
  rw [show (FW rd).round = rd from rfl, semAt_run rd hex (fun d e => by cases e)]
  refine ⟨FW.depth rd, RoundIn.mono hround ?_⟩
  rintro e w' ⟨ρ', c, rfl, hg, hv, hs'⟩
  exact K ρ' c w' hg hv hs'

/-- The call of a function value, whatever it is. -/
inductive VEv (P : Program) (W : Nat → Prop) : Value → Array Value → Nat → AH → Value → Nat → AH → Prop
  | func {f caps args n h r n' h'} (k : Ev P W f (args ++ caps) n h r n' h') : VEv P W (.func (.func f) #[] caps) args n h r n' h'
  | yield {b args n h r n' h'} (k : YEv P W b args n h r n' h') : VEv P W (.func (.yield b) #[] #[]) args n h r n' h'
theorem op_callV {x : Operand} {xs : Array Operand} {ts : Array TypeId} {fv r : Value} (hx : ev env x = fv) (hev : VEv P W fv (xs.map (ev env)) n g r n' h') (hW : ∀ b, W b → T b) :
    ∃ d, h'.le (g.app d) ∧ Within W n n' d ∧ OpEv P T ⟨dst, .call { callee := .value x, args := xs, argTypes := ts }, ty, pos, after, gd⟩ env n g r n' d := by
  cases hev with
  | func k => exact op_callv hx k hW
  | yield k => exact op_yield hx k hW

/-- What the statement does behind the function's return. -/
def jumpEnd : Option Code → Exit
  | some .ret => .ret
  | some (.exit id) => .exit id
  | some (.goto l) => .goto l
  | _ => .normal
def jumpOk (j : Option Code) : Prop := j = none ∨ j = some .ret ∨ (∃ id, j = some (.exit id)) ∨ ∃ l, j = some (.goto l)
theorem jumpOf_ok {e : Exit} {j : Option Code} (h : jumpOf e = some j) : jumpOk j ∧ jumpEnd j = e := by
  cases e <;> cases h
  · exact ⟨.inl rfl, rfl⟩
  · exact ⟨.inr (.inr (.inl ⟨_, rfl⟩)), rfl⟩
  · exact ⟨.inr (.inr (.inr ⟨_, rfl⟩)), rfl⟩
  · exact ⟨.inr (.inl rfl), rfl⟩

theorem run_enterLoop_inner {w : World} {l : Nat} {r0 : Loop} (fn : FuncId) (tmps : Array Value) (ps : Array Tmp) (assign body : Code) (hl : w.heap[l]? = some (.loop r0)) :
    (Instr.enterLoop fn tmps ps assign body (some l)).run P w = .ok (w.heap.size, []) (w.alloc (.loop { state := .ready, pending := none, fn, tmps, params := ps, assign, body, defers := r0.defers })) := by
  unfold Instr.enterLoop
  simp only [Sem.run_bind, run_getLoop hl, run_newObj_alloc, Result.andThen, Sem.run_pure]

theorem Ex.rangeFunc {gx : Operand} {ps : Array Tmp} {assign body : Code} {f : FuncId} {caps : Array Value} {env0 : Env} {A : ALoop} {r : Value}
    (hg : ev env gx = .func (.func f) #[] caps) (h0 : env0.le env)
    (hev : Ev P W f (#[.func (.yield n) #[] #[]] ++ caps) (n + 1) (h.app (.obj n (.loop ⟨ps, assign, body, N, env0, .ready, none⟩))) r n' h') (hW : ∀ b, W b → T b ∨ b = n)
    (hA : h'.info n = some (AObj.loop A).m) (hb : A.state ≠ .busy) (hj : jumpOk A.pending) :
    Ex P T N (.rangeFunc gx ps assign body) env n h (jumpEnd A.pending) env n' (h'.app (.obj n (.loop A.over))) := by
  obtain ⟨⟨fn, hf1, hf2, hf3⟩, d, hle, hn, hw, run⟩ := hev
  refine ⟨(Dl.obj n (.loop ⟨ps, assign, body, N, env0, .ready, none⟩)).comp (d.comp (.obj n (.loop A.over))), ?_, by omega, ?_, fun rd w0 ρ w H tmps dfs hrd hl hfr hs he => ?_⟩
  · rw [AH.app_comp, AH.app_comp]; exact hle.app _
  · have w1 := Within.obj (W := T) (n := n) (n' := n + 1) (b := n) (o := .loop ⟨ps, assign, body, N, env0, .ready, none⟩) (.inr (Nat.le_refl _)) (by omega)
    have w2 : Within T n n' d := fun x hx => by
      obtain ⟨k1, k2⟩ := hw x hx
      refine ⟨?_, k2⟩
      rcases k1 with k | k
      · rcases hW x k with q | q
        · exact .inl q
        · exact .inr (by omega)
      · exact .inr (by omega)
    have w3 := Within.obj (W := T) (n := n) (n' := n') (b := n) (o := .loop A.over) (.inr (Nat.le_refl _)) (by omega)
    intro x hx
    rcases Dl.touches_comp hx with k | k
    · have := w1 x k; exact ⟨this.1, by omega⟩
    · rcases Dl.touches_comp k with k | k
      · exact w2 x k
      · exact w3 x k
  have hn0 : ρ n = none := hfr n (Nat.le_refl _) (by omega)
  refine wpIn_rangeFunc fun fid _ => ?_
  obtain ⟨ms, w1, df, hent, hs1⟩ : ∃ ms w1 df, (Instr.enterLoop fid tmps ps assign body rd).run P w = .ok (w1.heap.size, markOf ms) (w1.alloc (.loop { state := .ready, pending := none, fn := fid, tmps := tmps, params := ps, assign := assign, body := body, defers := df })) ∧
      Sim (w0.keep ms) ρ H w1 := by
    cases rd with
    | none => exact ⟨[w.heap.size], w.alloc (.deferred (some [])), w.heap.size, by rw [run_enterLoop_outer, World.size_alloc]; rfl, hs.mark⟩
    | some l =>
      obtain ⟨r0, hr0⟩ := hs.keep.rounds l (hrd l rfl)
      exact ⟨[], w, r0.defers, run_enterLoop_inner _ _ _ _ _ hr0, hs⟩
  have hle0 := Ren.le_set hn0 ⟨w1.heap.size, 0, 0, 0⟩
  have hs2 := hs1.newObj hn0 (o := .loop ⟨ps, assign, body, N, env0, .ready, none⟩) (c := .loop { state := .ready, pending := none, fn := fid, tmps := tmps, params := ps, assign := assign, body := body, defers := df })
    (.loop ⟨rfl, rfl, rfl, rfl, rfl, (he.anti h0).mono hle0⟩)
  have hgv := he.ev (a := ⟨tmps, dfs⟩) gx
  rw [hg] at hgv
  generalize hc : Act.eval ⟨tmps, dfs⟩ gx = q at hgv
  cases hgv with
  | @func _ _ ys hys hyr =>
  generalize hw2 : (w1.alloc (.loop { state := .ready, pending := none, fn := fid, tmps := tmps, params := ps, assign := assign, body := body, defers := df })) = w2 at hent hs2
  refine ⟨w1.heap.size, markOf ms, w2, ⟨.fn (.func f) ys, #[.func (.yield w1.heap.size) #[] #[]]⟩, w2, f, #[.func (.yield w1.heap.size) #[] #[]] ++ ys, w2, hent, ?_, fun _ _ => FW.fn rd _, ?_, FW.depth rd, ?_⟩
  · simp [resolve, rangeCall, hc, Deferred.ofValue]; rfl
  · simp only [invoke]; exact callFunc_run hf1 hf2 hf3 _ _
  have hra : RelAll (ρ.set n ⟨w1.heap.size, 0, 0, 0⟩) (#[.func (.yield n) #[] #[]] ++ caps) (#[.func (.yield w1.heap.size) #[] #[]] ++ ys) := by
    refine RelAll.append ⟨rfl, fun i => ?_⟩ ⟨hys, fun i => (hyr i).mono hle0⟩
    cases i with
    | zero => exact .yield (L := ⟨w1.heap.size, 0, 0, 0⟩) (Ren.set_self _ _ _)
    | succ i => simp [Array.getD]; exact .unk _
  have hfr2 : Fresh (n + 1) n' (ρ.set n ⟨w1.heap.size, 0, 0, 0⟩) := fun x h1 h2 => by
    rw [Ren.set_ne _ _ (by omega)]; exact hfr x (by omega) h2
  refine CallsIn.mono (run (w0.keep ms) _ _ _ _ (hl.app _) hfr2 hs2 hra) ?_
  rintro e w3 ⟨ρ', c, rfl, hg', hv, hs3⟩
  have hH3 : ((H.app (.obj n (.loop ⟨ps, assign, body, N, env0, .ready, none⟩))).app d).info n = some (AObj.loop A).m := le_info (hle.trans ((hl.app _).app d)) hA
  have hL3 := hg'.le _ _ (Ren.set_self ρ n ⟨w1.heap.size, 0, 0, 0⟩)
  obtain ⟨L3, c3, p1, p2, p3, p4, p5⟩ := hs3.obj n _ (.loop A) hH3 rfl
  rw [hL3] at p1; cases p1
  cases p5 with
  | @loop _ r3 hrel =>
  have hs4 : Sim (w0.keep ms) ρ' (((H.app (.obj n (.loop ⟨ps, assign, body, N, env0, .ready, none⟩))).app d).app (.obj n (.loop A.over))) (w3.putObj w1.heap.size (.loop { r3 with state := .exhausted })) :=
    hs3.putObj hH3 hL3 p4 (.loop hrel) (.loop ⟨hrel.params, hrel.assign, hrel.body, rfl, hrel.pending, hrel.env⟩) (fun r' _ => ⟨_, rfl⟩)
  have hend := run_endLoop (P := P) p4 (by rw [hrel.state]; exact hb)
  refine ⟨_, _, hend, ?_⟩
  have hpost : ExPost N w0 ρ n n' env (H.app ((Dl.obj n (.loop ⟨ps, assign, body, N, env0, .ready, none⟩)).comp (d.comp (.obj n (.loop A.over))))) dfs ⟨tmps, markOf ms ++ dfs⟩ (w3.putObj w1.heap.size (.loop { r3 with state := .exhausted })) :=
    ⟨ms, rfl, ρ', (Grow.one hn0 _).trans (by omega) (by omega) hg', he.mono (hle0.trans hg'.le), by rw [AH.app_comp, AH.app_comp]; exact hs4⟩
  rw [hrel.pending] at hpost ⊢
  rcases hj with hj | hj | ⟨id, hj⟩ | ⟨l, hj⟩
  · rw [hj] at hpost ⊢; exact ⟨rfl, hpost⟩
  · rw [hj] at hpost ⊢; exact wpIn_ret ⟨rfl, hpost⟩
  · rw [hj] at hpost ⊢; exact wpIn_exit ⟨rfl, hpost⟩
  · rw [hj] at hpost ⊢; exact wpIn_goto ⟨rfl, hpost⟩
end

/-- What is known of a call of a function value. -/
structure VF (P : Program) (W : Nat → Prop) (fv : Value) (args : Array Value) (n : Nat) (h : AH) (Q : Value → Nat → AH → Prop) : Prop where
  out : ∃ r n' h', VEv P W fv args n h r n' h' ∧ Q r n' h'

section
variable {P : Program} {T W : Nat → Prop} {N : Nat} {env : Env} {n : Nat} {h : AH} {Q : Exit → Env → Nat → AH → Prop}
/-- What is asked of the end of the function that is ranged over. -/
structure rangeC (n : Nat) (A : ALoop) (env : Env) (Q : Exit → Env → Nat → AH → Prop) (n' : Nat) (h' : AH) : Prop where
  out : ∃ j, jumpOk j ∧ h'.info n = some (AObj.loop (A.at j)).m ∧ Q (jumpEnd j) env n' (h'.app (.obj n (.loop (A.at j).over)))
theorem rangeC.normal {A : ALoop} {h' : AH} {n' : Nat} (hi : h'.info n = some (AObj.loop A).m) (k : Q .normal env n' (h'.app (.obj n (.loop A.over)))) : rangeC n A env Q n' h' := ⟨none, .inl rfl, hi, k⟩
theorem rangeC.ret {A : ALoop} {h' : AH} {n' : Nat} (hi : h'.info n = some (AObj.loop (A.at (some .ret))).m) (k : Q .ret env n' (h'.app (.obj n (.loop (A.at (some .ret)).over)))) : rangeC n A env Q n' h' := ⟨_, .inr (.inl rfl), hi, k⟩
theorem rangeC.exit {A : ALoop} {h' : AH} {n' id : Nat} (hi : h'.info n = some (AObj.loop (A.at (some (.exit id)))).m) (k : Q (.exit id) env n' (h'.app (.obj n (.loop (A.at (some (.exit id))).over)))) : rangeC n A env Q n' h' := ⟨_, .inr (.inr (.inl ⟨id, rfl⟩)), hi, k⟩
theorem RC.rangeFunc {gx : Operand} {ps : Array Tmp} {assign body : Code} {f : FuncId} {caps : List Value} {env0 : Env} (hg : Opd env gx (.func (.func f) #[] caps.toArray)) (h0 : Envs env env0) (hW : ∀ b, W b → T b ∨ b = n)
    (k : ∀ A : ALoop, A = ⟨ps, assign, body, N, env0, .ready, none⟩ → RF P W f (.func (.yield n) #[] #[] :: caps).toArray (n + 1) (h.app (.obj n (.loop A))) fun _ n' h' => rangeC n A env Q n' h') : RC P T N (.rangeFunc gx ps assign body) env n h Q := by
  obtain ⟨r, n', h', hev, ⟨j, hj, hA, hq⟩⟩ := k _ rfl
  have e : (.func (.yield n) #[] #[] :: caps).toArray = #[.func (.yield n) #[] #[]] ++ caps.toArray := by simp
  rw [e] at hev
  have := Ex.rangeFunc hg.ev h0.le hev hW hA (by cases j <;> simp [ALoop.at]) (by cases j <;> simpa [ALoop.at] using hj)
  have e2 : (ALoop.at ⟨ps, assign, body, N, env0, .ready, none⟩ j).pending = j := by cases j <;> rfl
  rw [e2] at this
  exact ⟨_, _, _, _, this, hq⟩
/-- A round. -/
structure roundC (b : Nat) (A : ALoop) (Q : Value → Nat → AH → Prop) (e : Exit) (n' : Nat) (h' : AH) : Prop where
  out : h'.info b = some (AObj.loop A.busy).m ∧ ∃ j, jumpOf e = some j ∧ Q (.bool j.isNone) n' (h'.app (.obj b (.loop (A.at j))))
theorem roundC.normal {b : Nat} {A : ALoop} {Q : Value → Nat → AH → Prop} {h' : AH} {n' : Nat} (hi : h'.info b = some (AObj.loop A.busy).m) (k : Q (.bool true) n' (h'.app (.obj b (.loop A)))) : roundC b A Q .normal n' h' := ⟨hi, none, rfl, k⟩
theorem roundC.ret {b : Nat} {A : ALoop} {Q : Value → Nat → AH → Prop} {h' : AH} {n' : Nat} (hi : h'.info b = some (AObj.loop A.busy).m) (k : Q (.bool false) n' (h'.app (.obj b (.loop (A.at (some .ret)))))) : roundC b A Q .ret n' h' := ⟨hi, _, rfl, k⟩
theorem roundC.exit {b id : Nat} {A : ALoop} {Q : Value → Nat → AH → Prop} {h' : AH} {n' : Nat} (hi : h'.info b = some (AObj.loop A.busy).m) (k : Q (.bool false) n' (h'.app (.obj b (.loop (A.at (some (.exit id))))))) : roundC b A Q (.exit id) n' h' := ⟨hi, _, rfl, k⟩
structure roundE (b : Nat) (A : ALoop) (Q : Value → Nat → AH → Prop) (e : Exit) (env : Env) (n' : Nat) (h' : AH) : Prop where
  out : roundC b A Q e n' h'
theorem roundE.mk' {b : Nat} {A : ALoop} {Q : Value → Nat → AH → Prop} {e : Exit} {h' : AH} {n' : Nat} (k : roundC b A Q e n' h') : roundE b A Q e env n' h' := ⟨k⟩
structure assignC (P : Program) (W : Nat → Prop) (b : Nat) (A : ALoop) (N : Nat) (body : Code) (Q : Value → Nat → AH → Prop) (e : Exit) (env : Env) (n : Nat) (h : AH) : Prop where
  out : e = .normal ∧ h.info b = some (AObj.loop A).m ∧ RC P W N body env n (h.app (.obj b (.loop A.busy))) (roundE b A Q)
theorem assignC.normal {b N : Nat} {A : ALoop} {body : Code} {Q : Value → Nat → AH → Prop} (hi : h.info b = some (AObj.loop A).m) (k : RC P W N body env n (h.app (.obj b (.loop A.busy))) (roundE b A Q)) : assignC P W b A N body Q .normal env n h := ⟨rfl, hi, k⟩
theorem VF.yield {b : Nat} {A : ALoop} {args : Array Value} {Q : Value → Nat → AH → Prop} (hA : h.info b = some (AObj.loop A).m) (hst : A.state = .ready) (hp : A.pending = none) (hsz : args.size = A.params.size) (hps : ∀ p ∈ A.params.toList, p < A.N) (hW : W b) (hbn : b < n)
    (k : RC P (fun x => W x ∨ n ≤ x) A.N A.assign (A.env.puts (A.params.toList.zip args.toList)) n h (assignC P (fun x => W x ∨ n ≤ x) b A A.N A.body Q)) : VF P W (.func (.yield b) #[] #[]) args n h Q := by
  obtain ⟨e, env1, n1, h1, hx, ⟨rfl, hA1, e2, env2, n2, h2, hy, ⟨hA2, j, hj, hq⟩⟩⟩ := k
  exact ⟨_, _, _, .yield (YEv.of hA hst hp hsz hps hW hbn hx hA1 hy hA2 hj), hq⟩
theorem VF.yield1 {b p N : Nat} {A : ALoop} {assign body : Code} {env0 : Env} {v : Value} {Q : Value → Nat → AH → Prop} (hA : A = ⟨#[p], assign, body, N, env0, .ready, none⟩) (hi : h.info b = some (AObj.loop A).m) (hp : Nat.blt p N = true) (hW : W b) (hbn : b < n)
    (k : RC P (fun x => W x ∨ n ≤ x) N assign ((p, v) :: env0) n h (assignC P (fun x => W x ∨ n ≤ x) b A N body Q)) : VF P W (.func (.yield b) #[] #[]) #[v] n h Q := by
  subst hA
  exact VF.yield hi rfl rfl rfl (fun q hq => by simp at hq; subst hq; simpa using hp) hW hbn k
theorem VF.yield2 {b p p2 N : Nat} {A : ALoop} {assign body : Code} {env0 : Env} {v v2 : Value} {Q : Value → Nat → AH → Prop} (hA : A = ⟨#[p, p2], assign, body, N, env0, .ready, none⟩) (hi : h.info b = some (AObj.loop A).m) (hp : Nat.blt p N = true) (hp2 : Nat.blt p2 N = true) (hW : W b) (hbn : b < n)
    (k : RC P (fun x => W x ∨ n ≤ x) N assign ((p2, v2) :: (p, v) :: env0) n h (assignC P (fun x => W x ∨ n ≤ x) b A N body Q)) : VF P W (.func (.yield b) #[] #[]) #[v, v2] n h Q := by
  subst hA
  exact VF.yield hi rfl rfl rfl (fun q hq => by
    simp at hq
    rcases hq with rfl | rfl
    · simpa using hp
    · simpa using hp2) hW hbn k
theorem VF.func {f : FuncId} {caps args : Array Value} {Q : Value → Nat → AH → Prop} (k : RF P W f (args ++ caps) n h Q) : VF P W (.func (.func f) #[] caps) args n h Q := by
  obtain ⟨r, n', h', hev, hq⟩ := k
  exact ⟨r, n', h', .func hev, hq⟩
end
end Go.Abs

/- Iterators: what is asked of the function that is handed in, and what is told of the one that calls it; memory that stays but for some blocks. -/

namespace Go.Abs
open Go.RowKit

/-- Below n all is as it was, but for blocks of W. -/
structure ExtW (W : Nat → Prop) (n : Nat) (h h1 : AH) : Prop where
  info : ∀ b, b < n → ¬ W b → h1.info b = h.info b
  cell : ∀ b i, b < n → ¬ W b → h1.cell b i = h.cell b i
section
variable {W W' : Nat → Prop} {n n1 : Nat} {h h1 h2 : AH}
theorem ExtW.refl (W : Nat → Prop) (n : Nat) (h : AH) : ExtW W n h h := ⟨fun _ _ _ => rfl, fun _ _ _ _ => rfl⟩
theorem ExtW.of (e : Ext n1 h h1) (hn : n ≤ n1) : ExtW W n h h1 := ⟨fun b hb _ => e.info b (by omega), fun b i hb _ => e.cell b i (by omega)⟩
theorem ExtW.ext (e : ExtW W n h h1) (hW : ∀ b, b < n → ¬ W b) : Ext n h h1 := ⟨fun b hb => e.info b hb (hW b hb), fun b i hb => e.cell b i hb (hW b hb)⟩
theorem ExtW.extM {m : Nat} (e : ExtW W n h h1) (hm : m ≤ n) (hW : ∀ b, W b → m ≤ b) : Ext m h h1 :=
  ⟨fun b hb => e.info b (by omega) (fun k => by have := hW b k; omega), fun b i hb => e.cell b i (by omega) (fun k => by have := hW b k; omega)⟩
theorem ExtW.trans (a : ExtW W n h h1) (b : ExtW W' n1 h1 h2) (hn : n ≤ n1) (hW : ∀ x, x < n → W' x → W x) : ExtW W n h h2 :=
  ⟨fun x hx hw => (b.info x (by omega) (fun k => hw (hW x hx k))).trans (a.info x hx hw), fun x i hx hw => (b.cell x i (by omega) (fun k => hw (hW x hx k))).trans (a.cell x i hx hw)⟩
theorem ExtW.then (a : ExtW W n h h1) (b : Ext n1 h1 h2) (hn : n ≤ n1) : ExtW W n h h2 :=
  ⟨fun x hx hw => (b.info x (by omega)).trans (a.info x hx hw), fun x i hx hw => (b.cell x i (by omega)).trans (a.cell x i hx hw)⟩
theorem ExtW.mono (a : ExtW W n1 h h1) (hn : n ≤ n1) (hW : ∀ x, x < n → W x → W' x) : ExtW W' n h h1 :=
  ⟨fun x hx hw => a.info x (by omega) (fun k => hw (hW x hx k)), fun x i hx hw => a.cell x i (by omega) (fun k => hw (hW x hx k))⟩
theorem ExtW.via (b : ExtW W' n1 h1 h2) (hn : n ≤ n1) (hW : ∀ x, x < n → W' x → W x) (a : ExtW W n h h1) : ExtW W n h h2 := a.trans b hn hW
theorem ExtW.viaE (b : Ext n1 h1 h2) (hn : n ≤ n1) (a : ExtW W n h h1) : ExtW W n h h2 := a.then b hn
theorem ExtW.appNew {b : Nat} {m : Meta} {cs : List Value} (hb : n ≤ b) (e : ExtW W n h h1) : ExtW W n h (h1.app (.new b m cs)) := e.then (Ext.appNew (Nat.le_refl _) (Ext.refl b h1)) hb
theorem ExtW.appSets {b o : Nat} {vs : List Value} (hb : W b ∨ n ≤ b) (e : ExtW W n h h1) : ExtW W n h (h1.app (.sets b o vs)) :=
  ⟨fun x hx hw => (sets_info _ _ _ _ _).trans (e.info x hx hw), fun x i hx hw => by
    have hne : x ≠ b := fun q => by subst q; rcases hb with k | k <;> first | exact hw k | omega
    rw [← e.cell x i hx hw]; simp [AH.app, Dl.sets, hne]⟩
theorem ExtW.appObj {b : Nat} {o : AObj} (hb : W b ∨ n ≤ b) (e : ExtW W n h h1) : ExtW W n h (h1.app (.obj b o)) :=
  ⟨fun x hx hw => by
    have hne : x ≠ b := fun q => by subst q; rcases hb with k | k <;> first | exact hw k | omega
    rw [← e.info x hx hw, obj_info, if_neg hne], fun x i hx hw => by rw [← e.cell x i hx hw, obj_cell]⟩
theorem ExtW.appTake {b c sz lk ez : Nat} {keep : Bool} {cs : List Value} (hb : W b ∨ n ≤ b) (hc : n ≤ c) (e : ExtW W n h h1) : ExtW W n h (h1.app (.takeover b c keep sz lk ez cs)) :=
  ⟨fun x hx hw => by
    have hne : x ≠ b := fun q => by subst q; rcases hb with k | k <;> first | exact hw k | omega
    have hnc : x ≠ c := by omega
    rw [← e.info x hx hw]; simp [AH.app, Dl.takeover, hne, hnc], fun x i hx hw => by
    have hne : x ≠ b := fun q => by subst q; rcases hb with k | k <;> first | exact hw k | omega
    have hnc : x ≠ c := by omega
    rw [← e.cell x i hx hw]; simp [AH.app, Dl.takeover, hne, hnc]⟩
theorem ExtW.below {m : Nat} (hb : n ≤ m) (e : ExtW W n h h1) : ExtW W n h (h1.below m) := e.then (Ext.below (Nat.le_refl _) (Ext.refl _ _)) hb
theorem Ext.appObj {b : Nat} {o : AObj} (hb : n ≤ b) (e : Ext n h h1) : Ext n h (h1.app (.obj b o)) :=
  ⟨fun x hx => by rw [← e.info x hx, obj_info, if_neg (by omega)], fun x i hx => by rw [← e.cell x i hx, obj_cell]⟩
theorem Ext.viaW (b : ExtW W n1 h1 h2) (hn : n ≤ n1) (hW : ∀ x, W x → n ≤ x) (a : Ext n h h1) : Ext n h h2 := a.then (b.extM hn hW)
theorem c_obj {b x i : Nat} {o : AObj} {v : Value} (k : h.cell x i = v) : (h.app (.obj b o)).cell x i = v := by rw [obj_cell]; exact k
theorem i_obj {b : Nat} {o : AObj} : (h.app (.obj b o)).info b = some o.m := by rw [obj_info, if_pos rfl]
theorem i_obj_ne {b x : Nat} {o : AObj} {q : Option Meta} (hb : x ≠ b) (k : h.info x = q) : (h.app (.obj b o)).info x = q := by rw [obj_info, if_neg hb]; exact k
theorem c_extW {x i : Nat} {v : Value} (e : ExtW W n h h1) (hx : x < n) (hw : ¬ W x) (k : h.cell x i = v) : h1.cell x i = v := (e.cell x i hx hw).trans k
theorem i_extW {x : Nat} {v : Option Meta} (e : ExtW W n h h1) (hx : x < n) (hw : ¬ W x) (k : h.info x = v) : h1.info x = v := (e.info x hx hw).trans k
end

theorem SlR.ltA {h : AH} {n z m : Nat} {a : Option Addr} {f : Nat → Value} (s : SlR h n a z m f) (ha : a ≠ none) : sb a < n := by
  rcases s.shape with k | k
  · exact absurd k.1 ha
  · exact k.2.1
theorem SlR.extW {W : Nat → Prop} {h h' : AH} {n n' z m : Nat} {a : Option Addr} {f : Nat → Value} (s : SlR h n a z m f) (e : ExtW W n h h') (hn : n ≤ n') (hW : a ≠ none → ¬ W (sb a)) : SlR h' n' a z m f where
  shape := by
    rcases s.shape with k | ⟨k1, k2, mm, k3, k4⟩
    · exact .inl k
    · exact .inr ⟨k1, by omega, mm, by rw [e.info _ k2 (hW (by rw [k1]; simp))]; exact k3, k4⟩
  cell := fun j hj => by
    have hm : 0 < m := Nat.pos_of_ne_zero fun h0 => by subst h0; simp at hj
    rcases s.shape with k | k
    · omega
    · rw [e.cell _ _ (s.lt hm) (hW (by rw [k.1]; simp))]; exact s.cell j hj
section
variable {P : Program} {T W : Nat → Prop} {ops : Array Oper} {os : List Oper} {env : Env} {n n1 : Nat} {h h1 g : AH} {Q : Env → Nat → AH → Prop} {ps : List Ft}
variable {dst : Option Tmp} {ty : TypeId} {pos : String} {after : Array Edge} {gd : Option (Nat × Bool)}
/-- A function value is called. -/
theorem RS.callV {d : Tmp} {x : Operand} {fv : Value} {xs : List Operand} {vs : List Value} {ts : Array TypeId} {QC : Value → Nat → AH → Prop} (hw : wants ops ⟨some d, .call { callee := .value x, args := xs.toArray, argTypes := ts }, ty, pos, after, gd⟩ env = some true)
    (hf : Opd env x fv) (hx : Opds env xs vs) (hev : VF P W fv vs.toArray n h QC) (hW : ∀ b, W b → T b) (k : ∀ r n1 h1, n ≤ n1 → QC r n1 h1 → RS P T ops os ((d, r) :: env) n1 h1 Q) :
    RS P T ops (⟨some d, .call { callee := .value x, args := xs.toArray, argTypes := ts }, ty, pos, after, gd⟩ :: os) env n h Q := by
  obtain ⟨r, n1, h1, hev, hq⟩ := hev
  rw [← hx.mapA] at hev
  obtain ⟨dl, hle, _, ho⟩ := op_callV (T := T) (ty := ty) (dst := some d) (pos := pos) (after := after) (gd := gd) (ts := ts) hf.ev hev hW
  exact RS.op hw ho hle (k r n1 h1 ho.le hq)
/-- The same in a region that draws its order. It looks at all below nb, and turns blocks of W, which lie below nb. -/
theorem CF.clW {W : Nat → Prop} {k nb j : Nat} {y : Ft} {ys : List Ft} (h : ∀ b, b < nb → ¬ (y.W b ∨ (y.n ≤ b ∧ b < y.n'))) (h2 : ∀ b, y.R b → ¬ W b) (hW : ∀ b, W b → b < nb) (t : CF ops k (· < nb) W j ys) : CF ops k (· < nb) W (j + 1) (y :: ys) :=
  .free (fun b e => h b e) h2 (fun b e => h b (hW b e)) t
theorem RD.callV {d : Tmp} {x : Operand} {fv : Value} {xs : List Operand} {vs : List Value} {ts : Array TypeId} {QC : Value → Nat → AH → Prop} (nb : Nat) (hw : wants ops ⟨some d, .call { callee := .value x, args := xs.toArray, argTypes := ts }, ty, pos, after, gd⟩ env = some true)
    (hf : Opd env x fv) (hx : Opds env xs vs) (hev : VF P W fv vs.toArray n (h.below nb) QC) (hW : ∀ b, W b → T b) (hnb : nb ≤ n) (hc : CF ops ps.length (· < nb) W ps.length ps)
    (k : ∀ r n1 h1, n ≤ n1 → QC r n1 h1 → RD P T ops (⟨(· < nb), W, n, n1⟩ :: ps) os ((d, r) :: env) n1 h1 Q) :
    RD P T ops ps (⟨some d, .call { callee := .value x, args := xs.toArray, argTypes := ts }, ty, pos, after, gd⟩ :: os) env n h Q := by
  obtain ⟨r, n1, h1, hev, hq⟩ := hev
  rw [← hx.mapA] at hev
  obtain ⟨dl, hle, hwi, ho⟩ := op_callV (T := T) (ty := ty) (dst := some d) (pos := pos) (after := after) (gd := gd) (ts := ts) hf.ev hev hW
  exact RD.op (· < nb) W hw ho (AH.below_le _ _) (fun _ hx => AH.below_looks hx) (fun _ e => Nat.lt_of_lt_of_le e hnb) (fun b hb => (hwi b hb).1) hc (hle.trans ((AH.below_le h nb).app dl)) (k r n1 h1 ho.le hq)
theorem RD.callW {d : Tmp} {f : FuncId} {xs : List Operand} {vs : List Value} {ts : Array TypeId} {QC : Value → Nat → AH → Prop} (nb : Nat) (hw : wants ops ⟨some d, .call { callee := .value (.func f), args := xs.toArray, argTypes := ts }, ty, pos, after, gd⟩ env = some true)
    (hx : Opds env xs vs) (hev : RF P W f vs.toArray n (h.below nb) QC) (hW : ∀ b, W b → T b) (hnb : nb ≤ n) (hc : CF ops ps.length (· < nb) W ps.length ps)
    (k : ∀ r n1 h1, n ≤ n1 → QC r n1 h1 → RD P T ops (⟨(· < nb), W, n, n1⟩ :: ps) os ((d, r) :: env) n1 h1 Q) :
    RD P T ops ps (⟨some d, .call { callee := .value (.func f), args := xs.toArray, argTypes := ts }, ty, pos, after, gd⟩ :: os) env n h Q := by
  obtain ⟨r, n1, h1, hev, hq⟩ := hev
  rw [← hx.mapA] at hev
  obtain ⟨dl, hle, hwi, ho⟩ := op_call (T := T) (ty := ty) (dst := some d) (pos := pos) (after := after) (gd := gd) (ts := ts) hev hW
  exact RD.op (· < nb) W hw ho (AH.below_le _ _) (fun _ hx => AH.below_looks hx) (fun _ e => Nat.lt_of_lt_of_le e hnb) (fun b hb => (hwi b hb).1) hc (hle.trans ((AH.below_le h nb).app dl)) (k r n1 h1 ho.le hq)
end

/-- fv takes the values, one after the other; each time it says whether it wants more. I: what holds ahead of the i-th; D: what holds once it wants no more. -/
structure Iter (P : Program) (W : Nat → Prop) (fv : Value) (vals : List (List Value)) (I : Nat → Nat → AH → Prop) (D : Nat → AH → Prop) : Prop where
  mono : ∀ i n h n' h', I i n h → n ≤ n' → Ext n h h' → I i n' h'
  step : ∀ (i : Nat) (vs : List Value) n h, vals[i]? = some vs → I i n h → VF P W fv vs.toArray n h fun r n' h' => (r = .bool true ∧ I (i + 1) n' h') ∨ (r = .bool false ∧ D n' h')
/-- f, with what it captured, tells a function the values; K: what it needs of memory. -/
def IterF (P : Program) (f : FuncId) (caps : List Value) (vals : List (List Value)) (K : Nat → AH → Prop) : Prop :=
  ∀ (W : Nat → Prop) (fv : Value) (I : Nat → Nat → AH → Prop) (D : Nat → AH → Prop) (n : Nat) (h : AH), Iter P W fv vals I D → (∀ i n h, I i n h → K n h) → I 0 n h → 0 < n →
    RF P W f (fv :: caps).toArray n h fun _ n' h' => I vals.length n' h' ∨ D n' h'
end Go.Abs
