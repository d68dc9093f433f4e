/- Stepping through code: one law a kind of operation, for the text's order. -/
import Derived.Test.YtchfnjfmlhacfaaAbsExact
import Derived.Test.YtchfnjfmlhacfaaAbsApp2
import Derived.Test.YtchfnjfmlhacfaaAbsDraw2
namespace Go.Abs
open Go.RowKit

inductive Look : Env → Nat → Value → Prop
  | here {k v r} : Look ((k, v) :: r) k v
  | there {k k' v v' r} (hk : Nat.beq k k' = false) (h : Look r k' v') : Look ((k, v) :: r) k' v'
theorem Look.get {env : Env} {t : Nat} {v : Value} (h : Look env t v) : env.get t = v := by
  induction h with
  | here => simp [Env.get]
  | there hk _ ih => simp only [Env.get, hk]; exact ih

/-- The value of an operand, looked up. -/
inductive Opd (env : Env) : Operand → Value → Prop
  | tmp {t v} (h : Look env t v) : Opd env (.tmp t) v
  | const {v} (h : flat 8 v = true) : Opd env (.const v) v
  | func {f} : Opd env (.func f) (.func (.func f) #[] #[])
theorem Opd.ev {env : Env} {x : Operand} {v : Value} (h : Opd env x v) : ev env x = v := by
  cases h with
  | tmp h => exact h.get
  | const h => simp [Abs.ev, h]
  | func => rfl
inductive Opds (env : Env) : List Operand → List Value → Prop
  | nil : Opds env [] []
  | cons {x v xs vs} (h : Opd env x v) (t : Opds env xs vs) : Opds env (x :: xs) (v :: vs)
theorem Opds.map {env : Env} {xs : List Operand} {vs : List Value} (h : Opds env xs vs) : xs.map (ev env) = vs := by
  induction h with
  | nil => rfl
  | cons h _ ih => simp [h.ev, ih]
theorem Opds.mapA {env : Env} {xs : List Operand} {vs : List Value} (h : Opds env xs vs) : xs.toArray.map (ev env) = vs.toArray := by
  rw [List.map_toArray, h.map]

/-- Operations are carried out, and then Q. -/
structure RS (P : Program) (T : Nat → Prop) (ops : Array Oper) (os : List Oper) (env : Env) (n : Nat) (h : AH) (Q : Env → Nat → AH → Prop) : Prop where
  out : ∃ env' n' h' d, Seq P T ops os env n h env' n' h' d ∧ Q env' n' h'
structure RC (P : Program) (T : Nat → Prop) (N : Nat) (c : Code) (env : Env) (n : Nat) (h : AH) (Q : Exit → Env → Nat → AH → Prop) : Prop where
  out : ∃ e env' n' h', Ex P T N c env n h e env' n' h' ∧ Q e env' n' h'
structure RL (P : Program) (T : Nat → Prop) (N : Nat) (c : Code) (env : Env) (n : Nat) (h : AH) (Q : Exit → Env → Nat → AH → Prop) : Prop where
  out : ∃ e env' n' h', ExL P T N c env n h e env' n' h' ∧ Q e env' n' h'
structure RF (P : Program) (W : Nat → Prop) (f : FuncId) (args : Array Value) (n : Nat) (h : AH) (Q : Value → Nat → AH → Prop) : Prop where
  out : ∃ r n' h', Ev P W f args n h r n' h' ∧ Q r n' h'

structure thenC (P : Program) (T : Nat → Prop) (N : Nat) (y : Code) (Q : Exit → Env → Nat → AH → Prop) (e : Exit) (env : Env) (n : Nat) (h : AH) : Prop where
  out : match e with
    | .normal => RC P T N y env n h Q
    | e => Q e env n h
structure loopC (P : Program) (T : Nat → Prop) (N : Nat) (c : Code) (Q : Exit → Env → Nat → AH → Prop) (e : Exit) (env : Env) (n : Nat) (h : AH) : Prop where
  out : match e with
    | .normal => RL P T N c env n h Q
    | e => Q e env n h

section
variable {P : Program} {T : Nat → Prop} {N : Nat} {Q : Exit → Env → Nat → AH → Prop} {env : Env} {n : Nat} {h : AH}

theorem RC.seq {x y : Code} (k : RC P T N x env n h (thenC P T N y Q)) : RC P T N (.seq x y) env n h Q := by
  obtain ⟨e, env', n', h', hx, hq⟩ := k
  obtain ⟨hq⟩ := hq
  by_cases he : e = .normal
  · subst he
    obtain ⟨e2, env2, n2, h2, hy, hq2⟩ := hq
    exact ⟨e2, env2, n2, h2, hx.seq hy, hq2⟩
  · refine ⟨e, env', n', h', hx.seq_out he, ?_⟩
    cases e <;> first | exact absurd rfl he | exact hq
theorem thenC.normal {y : Code} (k : RC P T N y env n h Q) : thenC P T N y Q .normal env n h := ⟨k⟩
theorem thenC.ret {y : Code} (k : Q .ret env n h) : thenC P T N y Q .ret env n h := ⟨k⟩
theorem thenC.exit {y : Code} {id : Nat} (k : Q (.exit id) env n h) : thenC P T N y Q (.exit id) env n h := ⟨k⟩
theorem loopC.normal {c : Code} (k : RL P T N c env n h Q) : loopC P T N c Q .normal env n h := ⟨k⟩
theorem loopC.ret {c : Code} (k : Q .ret env n h) : loopC P T N c Q .ret env n h := ⟨k⟩
theorem loopC.exit {c : Code} {id : Nat} (k : Q (.exit id) env n h) : loopC P T N c Q (.exit id) env n h := ⟨k⟩
theorem RC.skip (k : Q .normal env n h) : RC P T N .skip env n h Q := ⟨⟨_, _, _, _, Ex.skip, k⟩⟩
theorem RC.ret (k : Q .ret env n h) : RC P T N .ret env n h Q := ⟨_, _, _, _, Ex.ret, k⟩
theorem RC.exit {id : Nat} (k : Q (.exit id) env n h) : RC P T N (.exit id) env n h Q := ⟨_, _, _, _, Ex.exit, k⟩
theorem RC.cond {c : Operand} {x y : Code} {b : Bool} (hc : Opd env c (.bool b)) (k : RC P T N (if b then x else y) env n h Q) : RC P T N (.cond c x y) env n h Q := by
  obtain ⟨e, env', n', h', hx, hq⟩ := k
  exact ⟨e, env', n', h', Ex.cond hc.ev hx, hq⟩
theorem RC.condT {c : Operand} {x y : Code} (hc : Opd env c (.bool true)) (k : RC P T N x env n h Q) : RC P T N (.cond c x y) env n h Q := RC.cond hc k
theorem RC.condF {c : Operand} {x y : Code} (hc : Opd env c (.bool false)) (k : RC P T N y env n h Q) : RC P T N (.cond c x y) env n h Q := RC.cond hc k
theorem RC.block {id : Nat} {c : Code} (k : RC P T N c env n h (fun e => Q (outOf id e))) : RC P T N (.block id c) env n h Q := by
  obtain ⟨e, env', n', h', hx, hq⟩ := k
  exact ⟨_, env', n', h', Ex.block hx, hq⟩
theorem RC.region {ops : List Oper} {id : Nat} (hd : dstOk N ops = true) (k : RS P T ops.toArray ops env n h (fun env n h => Q .normal env n h)) : RC P T N (.region id ops.toArray false) env n h Q := by
  obtain ⟨env', n', h', d, hs, hq⟩ := k
  exact ⟨_, _, _, _, Ex.region (d := d) (by simpa using hs) (by simpa using hd), hq⟩
theorem RC.loop {c : Code} (k : RL P T N c env n h Q) : RC P T N (.loop c) env n h Q := by
  obtain ⟨e, env', n', h', hx, hq⟩ := k
  exact ⟨_, _, _, _, Ex.loop hx, hq⟩
/-- A round: left normally, the loop goes on. -/
theorem RL.round {c : Code} (k : RC P T N c env n h (loopC P T N c Q)) : RL P T N c env n h Q := by
  obtain ⟨e, env', n', h', hx, hq⟩ := k
  obtain ⟨hq⟩ := hq
  by_cases he : e = .normal
  · subst he
    obtain ⟨e2, env2, n2, h2, hy, hq2⟩ := hq
    exact ⟨e2, env2, n2, h2, ExL.round hx hy, hq2⟩
  · refine ⟨e, env', n', h', ExL.out hx he, ?_⟩
    cases e <;> first | exact absurd rfl he | exact hq
theorem RL.weak {c : Code} {env0 : Env} (h0 : env0.le env) (k : RL P T N c env0 n h Q) : RL P T N c env n h Q := by
  obtain ⟨e, env', n', h', hx, hq⟩ := k
  exact ⟨e, env', n', h', hx.weaken h0 (.refl _), hq⟩
theorem RC.mono {c : Code} {Q' : Exit → Env → Nat → AH → Prop} (k : RC P T N c env n h Q) (hq : ∀ e env n h, Q e env n h → Q' e env n h) : RC P T N c env n h Q' := by
  obtain ⟨e, env', n', h', hx, hk⟩ := k
  exact ⟨e, env', n', h', hx, hq _ _ _ _ hk⟩
theorem RL.mono {c : Code} {Q' : Exit → Env → Nat → AH → Prop} (k : RL P T N c env n h Q) (hq : ∀ e env n h, Q e env n h → Q' e env n h) : RL P T N c env n h Q' := by
  obtain ⟨e, env', n', h', hx, hk⟩ := k
  exact ⟨e, env', n', h', hx, hq _ _ _ _ hk⟩
end

/-- The environment known by a list of its slots is told by another that has them. -/
def envLe (e f : Env) : Prop := ∀ p ∈ e, f.get p.1 = p.2
theorem Env.le_of {e f : Env} (h : ∀ p ∈ e, f.get p.1 = p.2) : e.le f := by
  intro t
  induction e with
  | nil => exact .inl rfl
  | cons p r ih =>
    obtain ⟨k, v⟩ := p
    by_cases hk : k = t
    · subst hk
      right
      have := h (k, v) (by simp)
      simp only [Env.get]
      rw [if_pos (by simp)]; exact this
    · have := ih fun p hp => h p (by simp [hp])
      simp only [Env.get]
      rw [if_neg (by simpa using hk)]; exact this
inductive Envs (f : Env) : Env → Prop
  | nil : Envs f []
  | cons {k v r} (h : Look f k v) (t : Envs f r) : Envs f ((k, v) :: r)
theorem Envs.le {e f : Env} (h : Envs f e) : e.le f := by
  refine Env.le_of ?_
  induction h with
  | nil => intro p hp; simp at hp
  | cons h t ih =>
    intro p hp
    rcases List.mem_cons.1 hp with rfl | hp
    · exact h.get
    · exact ih p hp

/-- A function's contract out of its body. -/
structure endC (P : Program) (fn : Func) (Q : Value → Nat → AH → Prop) (e : Exit) (env : Env) (n : Nat) (h : AH) : Prop where
  out : (e = .normal ∨ e = .ret) ∧ ∃ vs, ResA P env h fn.results.toList vs ∧ Q (packed vs) n h
theorem RF.of {P : Program} {W : Nat → Prop} {f : FuncId} {fn : Func} {c : Code} {args : Array Value} {n : Nat} {h : AH} {Q : Value → Nat → AH → Prop} (hf : P.funcs[f]? = some fn) (hb : fn.body = some c)
    (hnm : (fn.name == "runtime.NumGoroutine") = false) (ha : args.size ≤ fn.ntmps) (k : RC P (fun b => W b ∨ n ≤ b) fn.ntmps c (argEnv 0 args.toList) n h (endC P fn Q)) : RF P W f args n h Q := by
  obtain ⟨e, env', n', h', hx, ⟨he, vs, hr, hq⟩⟩ := k
  exact ⟨packed vs, n', h', Ev.of hf hb hnm ha hx he hr, hq⟩
theorem RF.mono {P : Program} {W : Nat → Prop} {f : FuncId} {args : Array Value} {n : Nat} {h : AH} {Q Q' : Value → Nat → AH → Prop} (k : RF P W f args n h Q) (hq : ∀ r n h, Q r n h → Q' r n h) : RF P W f args n h Q' := by
  obtain ⟨r, n', h', hx, hk⟩ := k
  exact ⟨r, n', h', hx, hq _ _ _ hk⟩
theorem RF.ev {P : Program} {W : Nat → Prop} {f : FuncId} {args : Array Value} {n : Nat} {h : AH} {r : Value} {n' : Nat} {h' : AH} (k : Ev P W f args n h r n' h') {Q : Value → Nat → AH → Prop} (hq : Q r n' h') : RF P W f args n h Q := ⟨r, n', h', k, hq⟩

section
variable {P : Program} {T W : Nat → Prop} {ops : Array Oper} {os : List Oper} {env : Env} {n n1 : Nat} {h h1 : AH} {Q : Env → Nat → AH → Prop}
variable {dst : Option Tmp} {ty : TypeId} {pos : String} {after : Array Edge} {gd : Option (Nat × Bool)}

theorem RS.nil (k : Q env n h) : RS P T ops [] env n h Q := ⟨_, _, _, _, .nil, k⟩
theorem RS.op {o : Oper} {v : Value} {d : Dl} (hw : wants ops o env = some true) (ho : OpEv P T o env n h v n1 d) (hh : h1.le (h.app d)) (k : RS P T ops os (env.put o.dst v) n1 h1 Q) : RS P T ops (o :: os) env n h Q := by
  obtain ⟨env', n', h', e, hs, hq⟩ := k
  exact ⟨env', n', h', _, .op hw ho hh hs, hq⟩
theorem RS.skip {o : Oper} (hw : wants ops o env = some false) (k : RS P T ops os (env.put o.dst skipV) n h Q) : RS P T ops (o :: os) env n h Q := by
  obtain ⟨env', n', h', e, hs, hq⟩ := k
  exact ⟨env', n', h', _, .skip hw hs, hq⟩
/-- An operation that changes no memory. -/
theorem RS.calc {o : Oper} {v : Value} (hw : wants ops o env = some true) (ho : OpEv P T o env n h v n .nil) (k : RS P T ops os (env.put o.dst v) n h Q) : RS P T ops (o :: os) env n h Q :=
  RS.op hw ho (by rw [AH.app_nil]; exact .refl _) k

theorem RS.call {d : Tmp} {f : FuncId} {xs : List Operand} {vs : List Value} {ts : Array TypeId} {QC : Value → Nat → AH → Prop} (hw : wants ops ⟨some d, .call { callee := .value (.func f), args := xs.toArray, argTypes := ts }, ty, pos, after, gd⟩ env = some true)
    (hx : Opds env xs vs) (hev : RF P W f vs.toArray n h QC) (hW : ∀ b, W b → T b) (k : ∀ r n1 h1, n ≤ n1 → QC r n1 h1 → RS P T ops os ((d, r) :: env) n1 h1 Q) :
    RS P T ops (⟨some d, .call { callee := .value (.func f), args := xs.toArray, argTypes := ts }, ty, pos, after, gd⟩ :: os) env n h Q := by
  obtain ⟨r, n1, h1, hev, hq⟩ := hev
  rw [← hx.mapA] at hev
  obtain ⟨dl, hle, _, ho⟩ := op_call (T := T) (ty := ty) (dst := some d) (pos := pos) (after := after) (gd := gd) (ts := ts) hev hW
  exact RS.op hw ho hle (k r n1 h1 ho.le hq)
theorem RS.call1 {d : Tmp} {f : FuncId} {xs : List Operand} {vs : List Value} {ts : Array TypeId} {r : Value} (hw : wants ops ⟨some d, .call { callee := .value (.func f), args := xs.toArray, argTypes := ts }, ty, pos, after, gd⟩ env = some true)
    (hx : Opds env xs vs) (hev : Ev P W f vs.toArray n h r n1 h1) (hW : ∀ b, W b → T b) (k : RS P T ops os ((d, r) :: env) n1 h1 Q) :
    RS P T ops (⟨some d, .call { callee := .value (.func f), args := xs.toArray, argTypes := ts }, ty, pos, after, gd⟩ :: os) env n h Q := by
  rw [← hx.mapA] at hev
  obtain ⟨dl, hle, _, ho⟩ := op_call (T := T) (ty := ty) (dst := some d) (pos := pos) (after := after) (gd := gd) (ts := ts) hev hW
  exact RS.op hw ho hle k

end
end Go.Abs
