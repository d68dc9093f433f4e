/- Stepping through code: one law a kind of operation, for the text's order. -/
import Derived.Test.YtflhhipemmlgpaaDoorAbsExact
import Derived.Test.YtflhhipemmlgpaaDoorAbsRows2
import Derived.Test.YtflhhipemmlgpaaDoorAbsDraw2
import Derived.Test.YtflhhipemmlgpaaDoorAbsLaw
set_option linter.unusedSimpArgs false
set_option linter.unusedVariables false
namespace Go.Abs
open Go.RowKit

inductive Look : Env → Nat → Value → Prop
  | here {k v r} : Look ((k, v) :: r) k v
  | there {k k' v v' r} (hk : Nat.beq k k' = false) (h : Look r k' v') : Look ((k, v) :: r) k' v'
theorem Look.get {env : Env} {t : Nat} {v : Value} (h : Look env t v) : env.get t = v := by
  induction h with
  | here => simp [Env.get]
  | there hk _ ih => simp only [Env.get, hk]; exact ih

/-- The value of an operand, looked up. -/
inductive Opd (env : Env) : Operand → Value → Prop
  | tmp {t v} (h : Look env t v) : Opd env (.tmp t) v
  | const {v} (h : flat 8 v = true) : Opd env (.const v) v
  | func {f} : Opd env (.func f) (.func (.func f) #[] #[])
theorem Opd.ev {env : Env} {x : Operand} {v : Value} (h : Opd env x v) : ev env x = v := by
  cases h with
  | tmp h => exact h.get
  | const h => simp [Abs.ev, h]
  | func => rfl
inductive Opds (env : Env) : List Operand → List Value → Prop
  | nil : Opds env [] []
  | cons {x v xs vs} (h : Opd env x v) (t : Opds env xs vs) : Opds env (x :: xs) (v :: vs)
theorem Opds.map {env : Env} {xs : List Operand} {vs : List Value} (h : Opds env xs vs) : xs.map (ev env) = vs := by
  induction h with
  | nil => rfl
  | cons h _ ih => simp [h.ev, ih]
theorem Opds.mapA {env : Env} {xs : List Operand} {vs : List Value} (h : Opds env xs vs) : xs.toArray.map (ev env) = vs.toArray := by
  rw [List.map_toArray, h.map]

/-- Operations are carried out, and then Q. -/
structure RS (P : Program) (T : Nat → Prop) (ops : Array Oper) (os : List Oper) (env : Env) (n : Nat) (h : AH) (Q : Env → Nat → AH → Prop) : Prop where
  out : ∃ env' n' h' d, Seq P T ops os env n h env' n' h' d ∧ Q env' n' h'
structure RC (P : Program) (T : Nat → Prop) (N : Nat) (c : Code) (env : Env) (n : Nat) (h : AH) (Q : Exit → Env → Nat → AH → Prop) : Prop where
  out : ∃ e env' n' h', Ex P T N c env n h e env' n' h' ∧ Q e env' n' h'
structure RL (P : Program) (T : Nat → Prop) (N : Nat) (c : Code) (env : Env) (n : Nat) (h : AH) (Q : Exit → Env → Nat → AH → Prop) : Prop where
  out : ∃ e env' n' h', ExL P T N c env n h e env' n' h' ∧ Q e env' n' h'
structure RF (P : Program) (W : Nat → Prop) (f : FuncId) (args : Array Value) (n : Nat) (h : AH) (Q : Value → Nat → AH → Prop) : Prop where
  out : ∃ r n' h', Ev P W f args n h r n' h' ∧ Q r n' h'

structure thenC (P : Program) (T : Nat → Prop) (N : Nat) (y : Code) (Q : Exit → Env → Nat → AH → Prop) (e : Exit) (env : Env) (n : Nat) (h : AH) : Prop where
  out : match e with
    | .normal => RC P T N y env n h Q
    | e => Q e env n h
structure loopC (P : Program) (T : Nat → Prop) (N : Nat) (c : Code) (Q : Exit → Env → Nat → AH → Prop) (e : Exit) (env : Env) (n : Nat) (h : AH) : Prop where
  out : match e with
    | .normal => RL P T N c env n h Q
    | e => Q e env n h

section
variable {P : Program} {T : Nat → Prop} {N : Nat} {Q : Exit → Env → Nat → AH → Prop} {env : Env} {n : Nat} {h : AH}

theorem RC.seq {x y : Code} (k : RC P T N x env n h (thenC P T N y Q)) : RC P T N (.seq x y) env n h Q := by
  obtain ⟨e, env', n', h', hx, hq⟩ := k
  obtain ⟨hq⟩ := hq
  by_cases he : e = .normal
  · subst he
    obtain ⟨e2, env2, n2, h2, hy, hq2⟩ := hq
    exact ⟨e2, env2, n2, h2, hx.seq hy, hq2⟩
  · refine ⟨e, env', n', h', hx.seq_out he, ?_⟩
    cases e <;> first | exact absurd rfl he | exact hq
theorem thenC.normal {y : Code} (k : RC P T N y env n h Q) : thenC P T N y Q .normal env n h := ⟨k⟩
theorem thenC.ret {y : Code} (k : Q .ret env n h) : thenC P T N y Q .ret env n h := ⟨k⟩
theorem thenC.exit {y : Code} {id : Nat} (k : Q (.exit id) env n h) : thenC P T N y Q (.exit id) env n h := ⟨k⟩
theorem loopC.normal {c : Code} (k : RL P T N c env n h Q) : loopC P T N c Q .normal env n h := ⟨k⟩
theorem loopC.ret {c : Code} (k : Q .ret env n h) : loopC P T N c Q .ret env n h := ⟨k⟩
theorem loopC.exit {c : Code} {id : Nat} (k : Q (.exit id) env n h) : loopC P T N c Q (.exit id) env n h := ⟨k⟩
theorem RC.skip (k : Q .normal env n h) : RC P T N .skip env n h Q := ⟨⟨_, _, _, _, Ex.skip, k⟩⟩
theorem RC.ret (k : Q .ret env n h) : RC P T N .ret env n h Q := ⟨_, _, _, _, Ex.ret, k⟩
theorem RC.exit {id : Nat} (k : Q (.exit id) env n h) : RC P T N (.exit id) env n h Q := ⟨_, _, _, _, Ex.exit, k⟩
theorem RC.cond {c : Operand} {x y : Code} {b : Bool} (hc : Opd env c (.bool b)) (k : RC P T N (if b then x else y) env n h Q) : RC P T N (.cond c x y) env n h Q := by
  obtain ⟨e, env', n', h', hx, hq⟩ := k
  exact ⟨e, env', n', h', Ex.cond hc.ev hx, hq⟩
theorem RC.condT {c : Operand} {x y : Code} (hc : Opd env c (.bool true)) (k : RC P T N x env n h Q) : RC P T N (.cond c x y) env n h Q := RC.cond hc k
theorem RC.condF {c : Operand} {x y : Code} (hc : Opd env c (.bool false)) (k : RC P T N y env n h Q) : RC P T N (.cond c x y) env n h Q := RC.cond hc k
theorem RC.block {id : Nat} {c : Code} (k : RC P T N c env n h (fun e => Q (outOf id e))) : RC P T N (.block id c) env n h Q := by
  obtain ⟨e, env', n', h', hx, hq⟩ := k
  exact ⟨_, env', n', h', Ex.block hx, hq⟩
theorem RC.region {ops : List Oper} {id : Nat} (hd : dstOk N ops = true) (k : RS P T ops.toArray ops env n h (fun env n h => Q .normal env n h)) : RC P T N (.region id ops.toArray false) env n h Q := by
  obtain ⟨env', n', h', d, hs, hq⟩ := k
  exact ⟨_, _, _, _, Ex.region (d := d) (by simpa using hs) (by simpa using hd), hq⟩
theorem RC.loop {c : Code} (k : RL P T N c env n h Q) : RC P T N (.loop c) env n h Q := by
  obtain ⟨e, env', n', h', hx, hq⟩ := k
  exact ⟨_, _, _, _, Ex.loop hx, hq⟩
/-- A round: left normally, the loop goes on. -/
theorem RL.round {c : Code} (k : RC P T N c env n h (loopC P T N c Q)) : RL P T N c env n h Q := by
  obtain ⟨e, env', n', h', hx, hq⟩ := k
  obtain ⟨hq⟩ := hq
  by_cases he : e = .normal
  · subst he
    obtain ⟨e2, env2, n2, h2, hy, hq2⟩ := hq
    exact ⟨e2, env2, n2, h2, ExL.round hx hy, hq2⟩
  · refine ⟨e, env', n', h', ExL.out hx he, ?_⟩
    cases e <;> first | exact absurd rfl he | exact hq
theorem RL.weak {c : Code} {env0 : Env} (h0 : env0.le env) (k : RL P T N c env0 n h Q) : RL P T N c env n h Q := by
  obtain ⟨e, env', n', h', hx, hq⟩ := k
  exact ⟨e, env', n', h', hx.weaken h0 (.refl _), hq⟩
theorem RC.mono {c : Code} {Q' : Exit → Env → Nat → AH → Prop} (k : RC P T N c env n h Q) (hq : ∀ e env n h, Q e env n h → Q' e env n h) : RC P T N c env n h Q' := by
  obtain ⟨e, env', n', h', hx, hk⟩ := k
  exact ⟨e, env', n', h', hx, hq _ _ _ _ hk⟩
theorem RL.mono {c : Code} {Q' : Exit → Env → Nat → AH → Prop} (k : RL P T N c env n h Q) (hq : ∀ e env n h, Q e env n h → Q' e env n h) : RL P T N c env n h Q' := by
  obtain ⟨e, env', n', h', hx, hk⟩ := k
  exact ⟨e, env', n', h', hx, hq _ _ _ _ hk⟩
end

/-- The environment known by a list of its slots is told by another that has them. -/
def envLe (e f : Env) : Prop := ∀ p ∈ e, f.get p.1 = p.2
theorem Env.le_of {e f : Env} (h : ∀ p ∈ e, f.get p.1 = p.2) : e.le f := by
  intro t
  induction e with
  | nil => exact .inl rfl
  | cons p r ih =>
    obtain ⟨k, v⟩ := p
    by_cases hk : k = t
    · subst hk
      right
      have := h (k, v) (by simp)
      simp only [Env.get]
      rw [if_pos (by simp)]; exact this
    · have := ih fun p hp => h p (by simp [hp])
      simp only [Env.get]
      rw [if_neg (by simpa using hk)]; exact this
inductive Envs (f : Env) : Env → Prop
  | nil : Envs f []
  | cons {k v r} (h : Look f k v) (t : Envs f r) : Envs f ((k, v) :: r)
theorem Envs.le {e f : Env} (h : Envs f e) : e.le f := by
  refine Env.le_of ?_
  induction h with
  | nil => intro p hp; simp at hp
  | cons h t ih =>
    intro p hp
    rcases List.mem_cons.1 hp with rfl | hp
    · exact h.get
    · exact ih p hp

/-- A function's contract out of its body. -/
structure endC (P : Program) (fn : Func) (Q : Value → Nat → AH → Prop) (e : Exit) (env : Env) (n : Nat) (h : AH) : Prop where
  out : (e = .normal ∨ e = .ret) ∧ ∃ vs, ResA P env h fn.results.toList vs ∧ Q (packed vs) n h
theorem RF.of {P : Program} {W : Nat → Prop} {f : FuncId} {fn : Func} {c : Code} {args : Array Value} {n : Nat} {h : AH} {Q : Value → Nat → AH → Prop} (hf : P.funcs[f]? = some fn) (hb : fn.body = some c)
    (hnm : (fn.name == "runtime.NumGoroutine") = false) (ha : args.size ≤ fn.ntmps) (k : RC P (fun b => W b ∨ n ≤ b) fn.ntmps c (argEnv 0 args.toList) n h (endC P fn Q)) : RF P W f args n h Q := by
  obtain ⟨e, env', n', h', hx, ⟨he, vs, hr, hq⟩⟩ := k
  exact ⟨packed vs, n', h', Ev.of hf hb hnm ha hx he hr, hq⟩
theorem RF.mono {P : Program} {W : Nat → Prop} {f : FuncId} {args : Array Value} {n : Nat} {h : AH} {Q Q' : Value → Nat → AH → Prop} (k : RF P W f args n h Q) (hq : ∀ r n h, Q r n h → Q' r n h) : RF P W f args n h Q' := by
  obtain ⟨r, n', h', hx, hk⟩ := k
  exact ⟨r, n', h', hx, hq _ _ _ hk⟩
theorem RF.ev {P : Program} {W : Nat → Prop} {f : FuncId} {args : Array Value} {n : Nat} {h : AH} {r : Value} {n' : Nat} {h' : AH} (k : Ev P W f args n h r n' h') {Q : Value → Nat → AH → Prop} (hq : Q r n' h') : RF P W f args n h Q := ⟨r, n', h', k, hq⟩

section
variable {P : Program} {T W : Nat → Prop} {ops : Array Oper} {os : List Oper} {env : Env} {n n1 : Nat} {h h1 : AH} {Q : Env → Nat → AH → Prop}
variable {dst : Option Tmp} {ty : TypeId} {pos : String} {after : Array Edge} {gd : Option (Nat × Bool)}

theorem RS.nil (k : Q env n h) : RS P T ops [] env n h Q := ⟨_, _, _, _, .nil, k⟩
theorem RS.op {o : Oper} {v : Value} {d : Dl} (hw : wants ops o env = some true) (ho : OpEv P T o env n h v n1 d) (hh : h1.le (h.app d)) (k : RS P T ops os (env.put o.dst v) n1 h1 Q) : RS P T ops (o :: os) env n h Q := by
  obtain ⟨env', n', h', e, hs, hq⟩ := k
  exact ⟨env', n', h', _, .op hw ho hh hs, hq⟩
theorem RS.skip {o : Oper} (hw : wants ops o env = some false) (k : RS P T ops os (env.put o.dst skipV) n h Q) : RS P T ops (o :: os) env n h Q := by
  obtain ⟨env', n', h', e, hs, hq⟩ := k
  exact ⟨env', n', h', _, .skip hw hs, hq⟩
/-- An operation that changes no memory. -/
theorem RS.calc {o : Oper} {v : Value} (hw : wants ops o env = some true) (ho : OpEv P T o env n h v n .nil) (k : RS P T ops os (env.put o.dst v) n h Q) : RS P T ops (o :: os) env n h Q :=
  RS.op hw ho (by rw [AH.app_nil]; exact .refl _) k

theorem RS.call {d : Tmp} {f : FuncId} {xs : List Operand} {vs : List Value} {ts : Array TypeId} {QC : Value → Nat → AH → Prop} (hw : wants ops ⟨some d, .call { callee := .value (.func f), args := xs.toArray, argTypes := ts }, ty, pos, after, gd⟩ env = some true)
    (hx : Opds env xs vs) (hev : RF P W f vs.toArray n h QC) (hW : ∀ b, W b → T b) (k : ∀ r n1 h1, n ≤ n1 → QC r n1 h1 → RS P T ops os ((d, r) :: env) n1 h1 Q) :
    RS P T ops (⟨some d, .call { callee := .value (.func f), args := xs.toArray, argTypes := ts }, ty, pos, after, gd⟩ :: os) env n h Q := by
  obtain ⟨r, n1, h1, hev, hq⟩ := hev
  rw [← hx.mapA] at hev
  obtain ⟨dl, hle, _, ho⟩ := op_call (T := T) (ty := ty) (dst := some d) (pos := pos) (after := after) (gd := gd) (ts := ts) hev hW
  exact RS.op hw ho hle (k r n1 h1 ho.le hq)
theorem RS.call1 {d : Tmp} {f : FuncId} {xs : List Operand} {vs : List Value} {ts : Array TypeId} {r : Value} (hw : wants ops ⟨some d, .call { callee := .value (.func f), args := xs.toArray, argTypes := ts }, ty, pos, after, gd⟩ env = some true)
    (hx : Opds env xs vs) (hev : Ev P W f vs.toArray n h r n1 h1) (hW : ∀ b, W b → T b) (k : RS P T ops os ((d, r) :: env) n1 h1 Q) :
    RS P T ops (⟨some d, .call { callee := .value (.func f), args := xs.toArray, argTypes := ts }, ty, pos, after, gd⟩ :: os) env n h Q := by
  rw [← hx.mapA] at hev
  obtain ⟨dl, hle, _, ho⟩ := op_call (T := T) (ty := ty) (dst := some d) (pos := pos) (after := after) (gd := gd) (ts := ts) hev hW
  exact RS.op hw ho hle k

end
end Go.Abs

/- Stepping: the operations' laws with looked-up operands, comparisons that part the way, cells found through updates. -/
namespace Go.Abs
open Go.RowKit

section
variable {P : Program} {T W : Nat → Prop} {ops : Array Oper} {os : List Oper} {env : Env} {n n1 : Nat} {h h1 g : AH} {Q : Env → Nat → AH → Prop}
variable {dst : Option Tmp} {ty : TypeId} {pos : String} {after : Array Edge} {gd : Option (Nat × Bool)}

theorem o_move {x : Operand} {v : Value} (hx : Opd env x v) : OpEv P T ⟨dst, .move x, ty, pos, after, gd⟩ env n g v n .nil := hx.ev ▸ op_move
theorem o_assign {x : Operand} {v : Value} (hx : Opd env x v) : OpEv P T ⟨dst, .assign x, ty, pos, after, gd⟩ env n g v n .nil := hx.ev ▸ op_assign
theorem o_pickT {c x y : Operand} {v : Value} (hc : Opd env c (.bool true)) (hx : Opd env x v) : OpEv P T ⟨dst, .pick c x y, ty, pos, after, gd⟩ env n g v n .nil := by
  have := op_pick (P := P) (T := T) (n := n) (g := g) (x := x) (y := y) (dst := dst) (ty := ty) (pos := pos) (after := after) (gd := gd) hc.ev
  simp only [if_true, hx.ev] at this; exact this
theorem o_pickF {c x y : Operand} {v : Value} (hc : Opd env c (.bool false)) (hy : Opd env y v) : OpEv P T ⟨dst, .pick c x y, ty, pos, after, gd⟩ env n g v n .nil := by
  have := op_pick (P := P) (T := T) (n := n) (g := g) (x := x) (y := y) (dst := dst) (ty := ty) (pos := pos) (after := after) (gd := gd) hc.ev
  simp only [Bool.false_eq_true, if_false, hy.ev] at this; exact this
theorem o_bin {op : BinOp} {t t' : TypeId} {x y : Operand} {k : IntKind} {a b : Int} {v : Value} (hx : Opd env x (.int k a)) (hy : Opd env y (.int k b)) (hv : binI op k a b = some v) :
    OpEv P T ⟨dst, .binOp op t x y t', ty, pos, after, gd⟩ env n g v n .nil := op_bin hx.ev hy.ev hv

theorem wrap64 {a : Int} (h1 : -9223372036854775808 ≤ a) (h2 : a ≤ 9223372036854775807) : IntKind.i64.wrap a = a := by
  simp only [IntKind.wrap, IntKind.signed]; simp [IntKind.bits]; omega
theorem o_add64 {t t' : TypeId} {x y : Operand} {a b : Int} (hx : Opd env x (.int .i64 a)) (hy : Opd env y (.int .i64 b)) (h1 : -9223372036854775808 ≤ a + b) (h2 : a + b ≤ 9223372036854775807) :
    OpEv P T ⟨dst, .binOp .add t x y t', ty, pos, after, gd⟩ env n g (.int .i64 (a + b)) n .nil := op_bin hx.ev hy.ev (by simp only [binI, wrap64 h1 h2])
theorem o_sub64 {t t' : TypeId} {x y : Operand} {a b : Int} (hx : Opd env x (.int .i64 a)) (hy : Opd env y (.int .i64 b)) (h1 : -9223372036854775808 ≤ a - b) (h2 : a - b ≤ 9223372036854775807) :
    OpEv P T ⟨dst, .binOp .sub t x y t', ty, pos, after, gd⟩ env n g (.int .i64 (a - b)) n .nil := op_bin hx.ev hy.ev (by simp only [binI, wrap64 h1 h2])
theorem o_mul64 {t t' : TypeId} {x y : Operand} {a b : Int} (hx : Opd env x (.int .i64 a)) (hy : Opd env y (.int .i64 b)) (h1 : -9223372036854775808 ≤ a * b) (h2 : a * b ≤ 9223372036854775807) :
    OpEv P T ⟨dst, .binOp .mul t x y t', ty, pos, after, gd⟩ env n g (.int .i64 (a * b)) n .nil := op_bin hx.ev hy.ev (by simp only [binI, wrap64 h1 h2])
theorem o_quo64 {t t' : TypeId} {x y : Operand} {a b : Int} (hx : Opd env x (.int .i64 a)) (hy : Opd env y (.int .i64 b)) (ha : 0 ≤ a) (hb : 0 < b) (h2 : a ≤ 9223372036854775807) :
    OpEv P T ⟨dst, .binOp .quo t x y t', ty, pos, after, gd⟩ env n g (.int .i64 (a / b)) n .nil := op_bin hx.ev hy.ev (by
      have hb' : b ≠ 0 := by omega
      have h3 : a / b ≤ a := Int.ediv_le_self b ha
      have h4 : 0 ≤ a / b := Int.ediv_nonneg ha (by omega)
      simp only [binI, if_neg hb', Int.tdiv_eq_ediv_of_nonneg ha]
      rw [wrap64 (by omega) (by omega)])
theorem o_rem64 {t t' : TypeId} {k : IntKind} {x y : Operand} {a b : Int} (hx : Opd env x (.int k a)) (hy : Opd env y (.int k b)) (ha : 0 ≤ a) (hb : 0 < b) :
    OpEv P T ⟨dst, .binOp .rem t x y t', ty, pos, after, gd⟩ env n g (.int k (a % b)) n .nil := op_bin hx.ev hy.ev (by
      have hb' : b ≠ 0 := by omega
      simp only [binI, if_neg hb', Int.tmod_eq_emod_of_nonneg ha])
theorem o_eql {t t' : TypeId} {x y : Operand} {k : IntKind} {a b : Int} (hx : Opd env x (.int k a)) (hy : Opd env y (.int k b)) :
    OpEv P T ⟨dst, .binOp .eql t x y t', ty, pos, after, gd⟩ env n g (.bool (decide (a = b))) n .nil := op_bin hx.ev hy.ev rfl
theorem o_neq {t t' : TypeId} {x y : Operand} {k : IntKind} {a b : Int} (hx : Opd env x (.int k a)) (hy : Opd env y (.int k b)) :
    OpEv P T ⟨dst, .binOp .neq t x y t', ty, pos, after, gd⟩ env n g (.bool (decide (a ≠ b))) n .nil := op_bin hx.ev hy.ev (by
      simp only [binI]; congr 2
      by_cases h : a = b
      · subst h; simp
      · simp [h, bne])
theorem o_lss {t t' : TypeId} {x y : Operand} {k : IntKind} {a b : Int} (hx : Opd env x (.int k a)) (hy : Opd env y (.int k b)) :
    OpEv P T ⟨dst, .binOp .lss t x y t', ty, pos, after, gd⟩ env n g (.bool (decide (a < b))) n .nil := op_bin hx.ev hy.ev rfl
theorem o_leq {t t' : TypeId} {x y : Operand} {k : IntKind} {a b : Int} (hx : Opd env x (.int k a)) (hy : Opd env y (.int k b)) :
    OpEv P T ⟨dst, .binOp .leq t x y t', ty, pos, after, gd⟩ env n g (.bool (decide (a ≤ b))) n .nil := op_bin hx.ev hy.ev rfl
theorem o_gtr {t t' : TypeId} {x y : Operand} {k : IntKind} {a b : Int} (hx : Opd env x (.int k a)) (hy : Opd env y (.int k b)) :
    OpEv P T ⟨dst, .binOp .gtr t x y t', ty, pos, after, gd⟩ env n g (.bool (decide (b < a))) n .nil := op_bin hx.ev hy.ev rfl
theorem o_geq {t t' : TypeId} {x y : Operand} {k : IntKind} {a b : Int} (hx : Opd env x (.int k a)) (hy : Opd env y (.int k b)) :
    OpEv P T ⟨dst, .binOp .geq t x y t', ty, pos, after, gd⟩ env n g (.bool (decide (b ≤ a))) n .nil := op_bin hx.ev hy.ev rfl
theorem o_shl {t t' : TypeId} {x y : Operand} {k yk : IntKind} {a b : Int} (hx : Opd env x (.int k a)) (hy : Opd env y (.int yk b)) (hb : 0 ≤ b) :
    OpEv P T ⟨dst, .binOp .shl t x y t', ty, pos, after, gd⟩ env n g (.int k (k.wrap (a * 2 ^ (min b.toNat k.bits)))) n .nil := op_shl hx.ev hy.ev hb
theorem o_shr {t t' : TypeId} {x y : Operand} {k yk : IntKind} {a b : Int} (hx : Opd env x (.int k a)) (hy : Opd env y (.int yk b)) (hb : 0 ≤ b) :
    OpEv P T ⟨dst, .binOp .shr t x y t', ty, pos, after, gd⟩ env n g (.int k (a.fdiv (2 ^ (min b.toNat k.bits)))) n .nil := op_shr hx.ev hy.ev hb
theorem o_eqb {t t' : TypeId} {x y : Operand} {a b : Bool} (hu : P.underlying t = some .bool) (hx : Opd env x (.bool a)) (hy : Opd env y (.bool b)) :
    OpEv P T ⟨dst, .binOp .eql t x y t', ty, pos, after, gd⟩ env n g (.bool (a == b)) n .nil := op_eqb hu hx.ev hy.ev
theorem o_neb {t t' : TypeId} {x y : Operand} {a b : Bool} (hu : P.underlying t = some .bool) (hx : Opd env x (.bool a)) (hy : Opd env y (.bool b)) :
    OpEv P T ⟨dst, .binOp .neq t x y t', ty, pos, after, gd⟩ env n g (.bool (!(a == b))) n .nil := op_neb hu hx.ev hy.ev
theorem o_not {t : TypeId} {x : Operand} {b : Bool} (hx : Opd env x (.bool b)) : OpEv P T ⟨dst, .unOp .not t x, ty, pos, after, gd⟩ env n g (.bool (!b)) n .nil := op_not hx.ev
theorem o_notT {t : TypeId} {x : Operand} (hx : Opd env x (.bool true)) : OpEv P T ⟨dst, .unOp .not t x, ty, pos, after, gd⟩ env n g (.bool false) n .nil := op_not hx.ev
theorem o_notF {t : TypeId} {x : Operand} (hx : Opd env x (.bool false)) : OpEv P T ⟨dst, .unOp .not t x, ty, pos, after, gd⟩ env n g (.bool true) n .nil := op_not hx.ev
theorem o_neg {t : TypeId} {x : Operand} {k : IntKind} {a : Int} (hx : Opd env x (.int k a)) : OpEv P T ⟨dst, .unOp .neg t x, ty, pos, after, gd⟩ env n g (.int k (k.wrap (0 - a))) n .nil := op_neg hx.ev
theorem o_compl {t : TypeId} {x : Operand} {k : IntKind} {a : Int} (hx : Opd env x (.int k a)) :
    OpEv P T ⟨dst, .unOp .xor t x, ty, pos, after, gd⟩ env n g (.int k (k.wrap (BitVec.ofInt k.bits (if k.signed then -1 else k.max) ^^^ BitVec.ofInt k.bits a).toNat)) n .nil := op_compl hx.ev
theorem o_conv {s t : TypeId} {x : Operand} {k k' : IntKind} {a : Int} {d : TypeDesc} (hs : P.underlying s = some d) (ht : P.underlying t = some (.int k')) (hx : Opd env x (.int k a)) :
    OpEv P T ⟨dst, .convert s t x, ty, pos, after, gd⟩ env n g (.int k' (k'.wrap a)) n .nil := op_conv hs ht hx.ev
theorem o_extract {x : Operand} {i : Nat} {vs : Array Value} {v : Value} (hx : Opd env x (.tuple vs)) (hv : vs[i]? = some v) : OpEv P T ⟨dst, .extract x i, ty, pos, after, gd⟩ env n g v n .nil := op_extract hx.ev hv
theorem o_iface {t : TypeId} {x : Operand} {v : Value} {d : TypeDesc} (hx : Opd env x v) (hu : P.underlying t = some d) (hd : (match d with | .interface _ => false | _ => true) = true) :
    OpEv P T ⟨dst, .makeInterface t x, ty, pos, after, gd⟩ env n g (.iface t v) n .nil := hx.ev ▸ op_iface hu hd
/-- Field i of struct type s begins at cell off. -/
def FA (P : Program) (s : TypeId) (i off : Nat) : Prop := ∃ fs f d z by_ zv, P.underlying s = some (.struct fs) ∧ fs[i]? = some f ∧ f.offset = off ∧ TI P f.type d z by_ zv ∧ z ≠ 0
theorem FA.of {P : Program} {s i off : Nat} {fs : Array Field} {f : Field} {d : TypeDesc} {z by_ : Nat} {zv : Value} (hu : P.underlying s = some (.struct fs)) (hf : fs[i]? = some f) (ho : f.offset = off) (hz : TI P f.type d z by_ zv) (h0 : z ≠ 0) : FA P s i off :=
  ⟨fs, f, d, z, by_, zv, hu, hf, ho, hz, h0⟩
theorem o_fieldAddr {s : TypeId} {x : Operand} {i b o off : Nat} (hx : Opd env x (.pointer (some ⟨b, o, none⟩))) (hf : FA P s i off) :
    OpEv P T ⟨dst, .fieldAddr s x i, ty, pos, after, gd⟩ env n g (.pointer (some ⟨b, o + off, none⟩)) n .nil := by
  obtain ⟨fs, f, d, z, by_, zv, hu, hf, rfl, hz, h0⟩ := hf
  exact op_fieldAddr hu hf hz h0 hx.ev
theorem o_index {t e : TypeId} {x y : Operand} {b o m : Nat} {k : IntKind} {i : Int} {d : TypeDesc} {z by_ : Nat} {zv : Value} (hx : Opd env x (.slice (some ⟨b, o, none⟩) m m)) (hy : Opd env y (.int k i)) (hu : P.underlying t = some (.slice e))
    (hz : TI P e d z by_ zv) (h0 : 0 ≤ i) (hi : i < m) :
    OpEv P T ⟨dst, .indexAddr t x y, ty, pos, after, gd⟩ env n g (.pointer (some ⟨b, o + i.toNat * z, none⟩)) n .nil := op_indexAddr hu hz hx.ev hy.ev h0 hi
theorem o_arrayAddr {t e : TypeId} {x y : Operand} {b o m : Nat} {k : IntKind} {i : Int} {d : TypeDesc} {z by_ : Nat} {zv : Value} (hx : Opd env x (.pointer (some ⟨b, o, none⟩))) (hy : Opd env y (.int k i)) (hu : P.underlying t = some (.array m e))
    (hz : TI P e d z by_ zv) (h0 : 0 ≤ i) (hi : i < m) :
    OpEv P T ⟨dst, .indexAddr t x y, ty, pos, after, gd⟩ env n g (.pointer (some ⟨b, o + i.toNat * z, none⟩)) n .nil := op_arrayAddr hu hz hx.ev hy.ev h0 hi
theorem o_nilCheck {x : Operand} {b o : Nat} (hx : Opd env x (.pointer (some ⟨b, o, none⟩))) : OpEv P T ⟨dst, .nilCheck x, ty, pos, after, gd⟩ env n g (.pointer (some ⟨b, o, none⟩)) n .nil := op_nilCheck hx.ev
theorem o_nilCheckI {x : Operand} {t : TypeId} {v : Value} (hx : Opd env x (.iface t v)) : OpEv P T ⟨dst, .nilCheck x, ty, pos, after, gd⟩ env n g (.iface t v) n .nil := op_nilCheckI hx.ev
theorem o_nilCheckF {x : Operand} {f : FuncId} {caps : Array Value} (hx : Opd env x (.func (.func f) #[] caps)) : OpEv P T ⟨dst, .nilCheck x, ty, pos, after, gd⟩ env n g (.func (.func f) #[] caps) n .nil := op_nilCheckF hx.ev
theorem o_len {x : Operand} {t e : TypeId} {a : Option Addr} {m c : Nat} (hx : Opd env x (.slice a m c)) (hu : P.underlying t = some (.slice e)) :
    OpEv P T ⟨dst, .call { callee := .builtin .len, args := #[x], argTypes := #[t] }, ty, pos, after, gd⟩ env n g (.int .i64 m) n .nil := op_len hu hx.ev
theorem o_lenS {x : Operand} {t : TypeId} {s : ByteArray} (hx : Opd env x (.string s)) (hu : P.underlying t = some .string) :
    OpEv P T ⟨dst, .call { callee := .builtin .len, args := #[x], argTypes := #[t] }, ty, pos, after, gd⟩ env n g (.int .i64 s.size) n .nil := op_lenS hu hx.ev
theorem o_min {x y : Operand} {ts : Array TypeId} {k : IntKind} {a b : Int} (hx : Opd env x (.int k a)) (hy : Opd env y (.int k b)) :
    OpEv P T ⟨dst, .call { callee := .builtin .min, args := #[x, y], argTypes := ts }, ty, pos, after, gd⟩ env n g (.int k (min a b)) n .nil := op_min hx.ev hy.ev
theorem o_max {x y : Operand} {ts : Array TypeId} {k : IntKind} {a b : Int} (hx : Opd env x (.int k a)) (hy : Opd env y (.int k b)) :
    OpEv P T ⟨dst, .call { callee := .builtin .max, args := #[x, y], argTypes := ts }, ty, pos, after, gd⟩ env n g (.int k (max a b)) n .nil := op_max hx.ev hy.ev
theorem o_eqnil {t t' : TypeId} {x : Operand} {v z : Value} {d : TypeDesc} {b : Bool} (hx : Opd env x v) (hu : P.underlying t = some d) (hd : nilFits d v z = true) (hb : isNilV v = some b) :
    OpEv P T ⟨dst, .binOp .eql t x (.const z) t', ty, pos, after, gd⟩ env n g (.bool b) n .nil := op_eqnil hu (hx.ev ▸ hd) (hx.ev ▸ hb)
theorem o_nenil {t t' : TypeId} {x : Operand} {v z : Value} {d : TypeDesc} {b : Bool} (hx : Opd env x v) (hu : P.underlying t = some d) (hd : nilFits d v z = true) (hb : isNilV v = some b) :
    OpEv P T ⟨dst, .binOp .neq t x (.const z) t', ty, pos, after, gd⟩ env n g (.bool (!b)) n .nil := op_nenil hu (hx.ev ▸ hd) (hx.ev ▸ hb)
theorem o_load {t : TypeId} {x : Operand} {b o : Nat} {d : TypeDesc} {z by_ : Nat} {zv : Value} {v : Value} (hx : Opd env x (.pointer (some ⟨b, o, none⟩))) (hz : TI P t d z by_ zv) (ha : isAggD d = false)
    (hv : g.cell b o = v) (hk : v ≠ .tuple #[]) : OpEv P T ⟨dst, .load t x, ty, pos, after, gd⟩ env n g v n .nil := op_load hz hx.ev ha hv hk
theorem o_loadAgg {t : TypeId} {x : Operand} {b o : Nat} {d : TypeDesc} {z by_ : Nat} {zv : Value} {vs : List Value} (hx : Opd env x (.pointer (some ⟨b, o, none⟩))) (hz : TI P t d z by_ zv) (ha : isAggD d = true) (hz0 : z ≠ 0)
    (hv : rd g b o z = vs) (hk : known vs = true) : OpEv P T ⟨dst, .load t x, ty, pos, after, gd⟩ env n g (.agg vs.toArray) n .nil := by
  subst hv; exact op_loadAgg hz hx.ev ha hk hz0
theorem o_box {e : TypeId} {x : Operand} {v : Value} (hx : Opd env x v) (hy : okV v = true) :
    OpEv P T ⟨dst, .box e x, ty, pos, after, gd⟩ env n g (.pointer (some ⟨n, 0, none⟩)) (n + 1) (.new n ⟨v.cells.toList.length, 0, true, 0⟩ v.cells.toList) := by
  have := op_box (P := P) (T := T) (n := n) (g := g) (e := e) (x := x) (env := env) (dst := dst) (ty := ty) (pos := pos) (after := after) (gd := gd) (by rw [hx.ev]; exact hy)
  rw [hx.ev] at this; exact this
theorem o_store1 {t : TypeId} {x y : Operand} {b o : Nat} {d : TypeDesc} {by_ : Nat} {zv v : Value} {m : Meta} (hx : Opd env x (.pointer (some ⟨b, o, none⟩))) (hv : Opd env y v) (hz : TI P t d 1 by_ zv)
    (hy : okV v = true) (hs : v.cells = #[v]) (hm : g.info b = some m) (hlk : m.lock ≤ o) (hin : o + 1 ≤ m.size) (hT : T b ∨ n ≤ b) (hb : b < n) :
    OpEv P T ⟨dst, .store t x y, ty, pos, after, gd⟩ env n g (.tuple #[]) n (.sets b o [v]) := by
  have := op_store (P := P) (T := T) (n := n) (g := g) (env := env) (t := t) (x := x) (y := y) (dst := dst) (ty := ty) (pos := pos) (after := after) (gd := gd) hz hx.ev (by rw [hv.ev]; exact hy) (by rw [hv.ev, hs]; rfl) hm hlk hin hT hb
  rw [hv.ev, hs] at this; exact this
theorem o_storeAgg {t : TypeId} {x y : Operand} {b o : Nat} {d : TypeDesc} {z by_ : Nat} {zv : Value} {l : List Value} {m : Meta} (hx : Opd env x (.pointer (some ⟨b, o, none⟩))) (hv : Opd env y (.agg l.toArray)) (hz : TI P t d z by_ zv)
    (hy : known l = true) (hs : l.length = z) (hm : g.info b = some m) (hlk : m.lock ≤ o) (hin : o + z ≤ m.size) (hT : T b ∨ n ≤ b) (hb : b < n) :
    OpEv P T ⟨dst, .store t x y, ty, pos, after, gd⟩ env n g (.tuple #[]) n (.sets b o l) := by
  have := op_store (P := P) (T := T) (n := n) (g := g) (env := env) (t := t) (x := x) (y := y) (dst := dst) (ty := ty) (pos := pos) (after := after) (gd := gd) hz hx.ev (by rw [hv.ev]; exact hy) (by rw [hv.ev]; simpa [Value.cells] using hs) hm hlk hin hT hb
  rw [hv.ev] at this; exact this

/-- A comparison that is decided. -/
theorem RS.decT {o : Oper} {d : Tmp} {p : Prop} [Decidable p] (hw : wants ops o env = some true) (hd : o.dst = some d) (ho : OpEv P T o env n h (.bool (decide p)) n .nil) (hp : p) (k : RS P T ops os ((d, .bool true) :: env) n h Q) : RS P T ops (o :: os) env n h Q :=
  RS.calc hw ho (by rw [decide_eq_true hp, hd]; exact k)
theorem RS.decF {o : Oper} {d : Tmp} {p : Prop} [Decidable p] (hw : wants ops o env = some true) (hd : o.dst = some d) (ho : OpEv P T o env n h (.bool (decide p)) n .nil) (hp : ¬ p) (k : RS P T ops os ((d, .bool false) :: env) n h Q) : RS P T ops (o :: os) env n h Q :=
  RS.calc hw ho (by rw [decide_eq_false hp, hd]; exact k)
theorem RS.dec {o : Oper} {d : Tmp} {p : Prop} [Decidable p] (hw : wants ops o env = some true) (hd : o.dst = some d) (ho : OpEv P T o env n h (.bool (decide p)) n .nil) (kt : p → RS P T ops os ((d, .bool true) :: env) n h Q)
    (kf : ¬ p → RS P T ops os ((d, .bool false) :: env) n h Q) : RS P T ops (o :: os) env n h Q := by
  by_cases hp : p
  · exact RS.decT hw hd ho hp (kt hp)
  · exact RS.decF hw hd ho hp (kf hp)
/-- With its value put. -/
theorem RS.put {o : Oper} {d : Tmp} {v : Value} (hw : wants ops o env = some true) (hd : o.dst = some d) (ho : OpEv P T o env n h v n .nil) (k : RS P T ops os ((d, v) :: env) n h Q) : RS P T ops (o :: os) env n h Q :=
  RS.calc hw ho (by rw [hd]; exact k)
theorem RS.omit {o : Oper} {d : Tmp} (hw : wants ops o env = some false) (hd : o.dst = some d) (k : RS P T ops os ((d, skipV) :: env) n h Q) : RS P T ops (o :: os) env n h Q :=
  RS.skip hw (by rw [hd]; exact k)
theorem RS.omit0 {o : Oper} (hw : wants ops o env = some false) (hd : o.dst = none) (k : RS P T ops os env n h Q) : RS P T ops (o :: os) env n h Q :=
  RS.skip hw (by rw [hd]; exact k)
theorem RS.mem {o : Oper} {d : Tmp} {v : Value} {dl : Dl} (hw : wants ops o env = some true) (hd : o.dst = some d) (ho : OpEv P T o env n h v n1 dl) (k : RS P T ops os ((d, v) :: env) n1 (h.app dl) Q) : RS P T ops (o :: os) env n h Q :=
  RS.op hw ho (.refl _) (by rw [hd]; exact k)
theorem RS.mem0 {o : Oper} {v : Value} {dl : Dl} (hw : wants ops o env = some true) (hd : o.dst = none) (ho : OpEv P T o env n h v n1 dl) (k : RS P T ops os env n1 (h.app dl) Q) : RS P T ops (o :: os) env n h Q :=
  RS.op hw ho (.refl _) (by rw [hd]; exact k)
theorem RS.alloc1 {e : TypeId} {t : Tmp} {d : TypeDesc} {by_ : Nat} {zv : Value} (hw : wants ops ⟨some t, .alloc e, ty, pos, after, gd⟩ env = some true) (hz : TI P e d 1 by_ zv) (hc : zv.cells = #[zv]) (hf : flat 8 zv = true)
    (k : RS P T ops os ((t, .pointer (some ⟨n, 0, none⟩)) :: env) (n + 1) (h.app (.new n ⟨1, 0, true, 0⟩ [zv])) Q) : RS P T ops (⟨some t, .alloc e, ty, pos, after, gd⟩ :: os) env n h Q := by
  have := op_alloc (P := P) (T := T) (n := n) (g := h) (e := e) (env := env) (dst := some t) (ty := ty) (pos := pos) (after := after) (gd := gd) hz (by rw [hc]; simpa using hf)
  rw [hc] at this
  exact RS.mem hw rfl this k
theorem RS.allocAgg {e : TypeId} {t : Tmp} {d : TypeDesc} {z by_ : Nat} {l : List Value} (hw : wants ops ⟨some t, .alloc e, ty, pos, after, gd⟩ env = some true) (hz : TI P e d z by_ (.agg l.toArray)) (hl : l.length = z) (hf : l.all (flat 8) = true)
    (k : RS P T ops os ((t, .pointer (some ⟨n, 0, none⟩)) :: env) (n + 1) (h.app (.new n ⟨z, 0, true, 0⟩ l)) Q) : RS P T ops (⟨some t, .alloc e, ty, pos, after, gd⟩ :: os) env n h Q := by
  have := op_alloc (P := P) (T := T) (n := n) (g := h) (e := e) (env := env) (dst := some t) (ty := ty) (pos := pos) (after := after) (gd := gd) hz (by simpa [Value.cells] using hf)
  simp only [Value.cells, hl] at this
  exact RS.mem hw rfl this k
theorem RS.box1 {e : TypeId} {t : Tmp} {x : Operand} {v : Value} (hw : wants ops ⟨some t, .box e x, ty, pos, after, gd⟩ env = some true) (hx : Opd env x v) (hc : v.cells = #[v]) (hy : okV v = true)
    (k : RS P T ops os ((t, .pointer (some ⟨n, 0, none⟩)) :: env) (n + 1) (h.app (.new n ⟨1, 0, true, 0⟩ [v])) Q) : RS P T ops (⟨some t, .box e x, ty, pos, after, gd⟩ :: os) env n h Q := by
  have := o_box (P := P) (T := T) (n := n) (g := h) (e := e) (env := env) (dst := some t) (ty := ty) (pos := pos) (after := after) (gd := gd) hx hy
  rw [hc] at this
  exact RS.mem hw rfl this k
theorem RS.boxAgg {e : TypeId} {t : Tmp} {x : Operand} {d : TypeDesc} {z by_ : Nat} {zv : Value} {l : List Value} (hw : wants ops ⟨some t, .box e x, ty, pos, after, gd⟩ env = some true) (hz : TI P e d z by_ zv) (hx : Opd env x (.agg l.toArray)) (hl : l.length = z) (hy : known l = true)
    (k : RS P T ops os ((t, .pointer (some ⟨n, 0, none⟩)) :: env) (n + 1) (h.app (.new n ⟨z, 0, true, 0⟩ l)) Q) : RS P T ops (⟨some t, .box e x, ty, pos, after, gd⟩ :: os) env n h Q := by
  have := o_box (P := P) (T := T) (n := n) (g := h) (e := e) (env := env) (dst := some t) (ty := ty) (pos := pos) (after := after) (gd := gd) hx hy
  simp only [Value.cells, hl] at this
  exact RS.mem hw rfl this k

/-! Cells, found through updates. -/
theorem c_new {h : AH} {n i : Nat} {m : Meta} {cs : List Value} {v : Value} (hv : cs[i]? = some v) : (h.app (.new n m cs)).cell n i = v := by simp [AH.app, Dl.new, List.getD, hv]
theorem c_new_ne {h : AH} {n b i : Nat} {m : Meta} {cs : List Value} {v : Value} (hb : b ≠ n) (k : h.cell b i = v) : (h.app (.new n m cs)).cell b i = v := by simp [AH.app, Dl.new, hb, k]
theorem c_in {h : AH} {b o i : Nat} {vs : List Value} {v : Value} (ho : o ≤ i) (hv : vs[i - o]? = some v) : (h.app (.sets b o vs)).cell b i = v := by
  have : i - o < vs.length := (List.getElem?_eq_some_iff.1 hv).1
  simp only [AH.app, Dl.sets]
  rw [if_pos (by first | exact ⟨rfl, ho, by omega⟩ | exact ⟨trivial, ho, by omega⟩)]; simp [List.getD, hv]
theorem c_out {h : AH} {b b' o i : Nat} {vs : List Value} {v : Value} (hb : b' ≠ b ∨ i < o ∨ o + vs.length ≤ i) (k : h.cell b' i = v) : (h.app (.sets b o vs)).cell b' i = v := by
  simp only [AH.app, Dl.sets]
  rw [if_neg (by omega)]; exact k
theorem i_new {h : AH} {n : Nat} {m : Meta} {cs : List Value} : (h.app (.new n m cs)).info n = some m := by simp [AH.app, Dl.new]
theorem i_new_ne {h : AH} {n b : Nat} {m : Meta} {cs : List Value} {q : Option Meta} (hb : b ≠ n) (k : h.info b = q) : (h.app (.new n m cs)).info b = q := by simp [AH.app, Dl.new, hb, k]
theorem i_sets {h : AH} {b b' o : Nat} {vs : List Value} {q : Option Meta} (k : h.info b' = q) : (h.app (.sets b o vs)).info b' = q := (sets_info h b o vs b').trans k
theorem rd_nil {h : AH} {b o : Nat} : rd h b o 0 = [] := rfl
theorem rd_cons {h : AH} {b o k : Nat} {v : Value} {vs : List Value} (hv : h.cell b o = v) (hr : rd h b (o + 1) k = vs) : rd h b o (k + 1) = v :: vs := by simp [rd, hv, hr]

end
end Go.Abs

/- Stepping: the end of a function; rows that are made, cut, appended to. -/
namespace Go.Abs
open Go.RowKit

/-- What a result variable holds, looked up. -/
inductive RV (P : Program) (env : Env) (h : AH) : ResultVar → Value → Prop
  | tmp {t v} (hl : Look env t v) : RV P env h (.tmp t) v
  | cell {a b o : Nat} {t : TypeId} {d : TypeDesc} {by_ : Nat} {zv v : Value} (hl : Look env a (.pointer (some ⟨b, o, none⟩))) (hz : TI P t d 1 by_ zv) (ha : isAggD d = false) (hv : h.cell b o = v) (hk : v ≠ .tuple #[]) : RV P env h (.cell a t) v
  | agg {a b o : Nat} {t : TypeId} {d : TypeDesc} {z by_ : Nat} {zv : Value} {vs : List Value} (hl : Look env a (.pointer (some ⟨b, o, none⟩))) (hz : TI P t d z by_ zv) (ha : isAggD d = true) (hv : rd h b o z = vs) (hk : known vs = true) : RV P env h (.cell a t) (.agg vs.toArray)
theorem RV.res {P : Program} {env : Env} {h : AH} {rv : ResultVar} {v : Value} (r : RV P env h rv v) : ResV P env h rv v := by
  cases r with
  | tmp hl => rw [← hl.get]; exact .tmp
  | cell hl hz ha hv hk => exact .cell hz hl.get ha hv hk
  | agg hl hz ha hv hk => subst hv; exact .agg hz hl.get ha hk

section
variable {P : Program} {fn : Func} {Q : Value → Nat → AH → Prop} {env : Env} {n : Nat} {h : AH}
theorem endC.one {rv : ResultVar} {v : Value} (hr : fn.results.toList = [rv]) (x : RV P env h rv v) (k : Q v n h) : endC P fn Q .ret env n h :=
  ⟨.inr rfl, [v], by rw [hr]; exact .cons x.res .nil, k⟩
theorem endC.two {r1 r2 : ResultVar} {v1 v2 : Value} (hr : fn.results.toList = [r1, r2]) (x : RV P env h r1 v1) (y : RV P env h r2 v2) (k : Q (.tuple #[v1, v2]) n h) : endC P fn Q .ret env n h :=
  ⟨.inr rfl, [v1, v2], by rw [hr]; exact .cons x.res (.cons y.res .nil), k⟩
theorem endC.three {r1 r2 r3 : ResultVar} {v1 v2 v3 : Value} (hr : fn.results.toList = [r1, r2, r3]) (x : RV P env h r1 v1) (y : RV P env h r2 v2) (z : RV P env h r3 v3) (k : Q (.tuple #[v1, v2, v3]) n h) : endC P fn Q .ret env n h :=
  ⟨.inr rfl, [v1, v2, v3], by rw [hr]; exact .cons x.res (.cons y.res (.cons z.res .nil)), k⟩
theorem endC.none0 (hr : fn.results.toList = []) (k : Q (.tuple #[]) n h) : endC P fn Q .ret env n h :=
  ⟨.inr rfl, [], by rw [hr]; exact .nil, k⟩
theorem endC.noneN (hr : fn.results.toList = []) (k : Q (.tuple #[]) n h) : endC P fn Q .normal env n h :=
  ⟨.inl rfl, [], by rw [hr]; exact .nil, k⟩
end

/-- A row of known cells. -/
def Row (h : AH) (b o : Nat) (cs : List Value) : Prop := rd h b o cs.length = cs

section
variable {P : Program} {T W : Nat → Prop} {ops : Array Oper} {os : List Oper} {env : Env} {n n1 : Nat} {h h1 g : AH} {Q : Env → Nat → AH → Prop}
variable {dst : Option Tmp} {ty : TypeId} {pos : String} {after : Array Edge} {gd : Option (Nat × Bool)}

theorem op_buildSlice0 {t e : TypeId} {d : TypeDesc} {z by_ : Nat} {zv : Value} (hu : P.underlying t = some (.slice e)) (hz : TI P e d z by_ zv) :
    OpEv P T ⟨dst, .buildSlice t 0 #[], ty, pos, after, gd⟩ env n g (.slice (some ⟨n, 0, none⟩) 0 0) (n + 1) (.new n ⟨0, 0, true, z⟩ []) :=
  op_new (cs := []) (x := z) fun w0 ρ w H ce hl hs hop => by
    have hr : (underlying t).run P w = .ok (.slice e) w := by simp [underlying, hu]
    refine ⟨w, #[], e, .slice (some ⟨w.heap.size, 0, none⟩) 0 0, hs, by simp, fun i hi => by simp at hi, ?_, ?_⟩
    · simp [execOp, Instr.buildSlice, hr, hz.run_sizeOf, newRow, Instr.fill]; congr 2; exact Array.eq_empty_of_size_eq_zero (by simp)
    · exact .slice0 (L := ⟨w.heap.size, 0, 0, z⟩) _ (Ren.set_self _ _ _)

theorem RS.build0 {t e : TypeId} {s : Tmp} {d : TypeDesc} {z by_ : Nat} {zv : Value} (hw : wants ops ⟨some s, .buildSlice t 0 #[], ty, pos, after, gd⟩ env = some true) (hu : P.underlying t = some (.slice e)) (hz : TI P e d z by_ zv)
    (k : RS P T ops os ((s, .slice (some ⟨n, 0, none⟩) 0 0) :: env) (n + 1) (h.app (.new n ⟨0, 0, true, z⟩ [])) Q) : RS P T ops (⟨some s, .buildSlice t 0 #[], ty, pos, after, gd⟩ :: os) env n h Q :=
  RS.mem hw rfl (op_buildSlice0 hu hz) k

/-- What an append's element type is like. -/
structure EL (P : Program) (t t2 : TypeId) (z by_ : Nat) : Prop where
  out : ∃ e d zv d2, P.underlying t = some (.slice e) ∧ TI P e d z by_ zv ∧ z ≠ 0 ∧ zv.cells.size = z ∧ by_ ≠ 0 ∧ P.underlying t2 = some d2 ∧ notIntD d2 = true

/-- append(x, y...): nothing is appended. -/
theorem o_append0 {t t2 : TypeId} {x y : Operand} {a : Option Addr} {m c z by_ : Nat} {v : Value} (he : EL P t t2 z by_) (hx : Opd env x (.slice a m c)) (hy : Opd env y v) (hs : Src g z v 0 []) (hf : full v 0) :
    OpEv P T ⟨dst, .call { callee := .builtin .append, args := #[x, y], argTypes := #[t, t2] }, ty, pos, after, gd⟩ env n g (.slice a m c) n .nil := by
  obtain ⟨e, d, zv, d2, h1, h2, h3, h4, h5, h6, h7⟩ := he
  have := op_append0 (P := P) (T := T) (n := n) (g := g) (env := env) (dst := dst) (ty := ty) (pos := pos) (after := after) (gd := gd) h1 h2 h3 h6 h7 hx.ev (hy.ev.symm ▸ hs) (hy.ev.symm ▸ hf)
  rw [hx.ev] at this; exact this
theorem o_appendNil {t t2 : TypeId} {x y : Operand} {z by_ k : Nat} {v : Value} {xs : List Value} (he : EL P t t2 z by_) (hx : Opd env x (.slice none 0 0)) (hy : Opd env y v) (hs : Src g z v k xs) (hf : full v k) (hk0 : k ≠ 0) (hbig : k * by_ ≤ 140737488355328) :
    OpEv P T ⟨dst, .call { callee := .builtin .append, args := #[x, y], argTypes := #[t, t2] }, ty, pos, after, gd⟩ env n g (.slice (some ⟨n, 0, none⟩) k k) (n + 1) (.new n ⟨xs.length, 0, true, z⟩ xs) := by
  obtain ⟨e, d, zv, d2, h1, h2, h3, h4, h5, h6, h7⟩ := he
  exact op_appendNil h1 h2 h3 h4 h5 h6 h7 hx.ev (hy.ev.symm ▸ hs) (hy.ev.symm ▸ hf) hk0 hbig
theorem o_append {t t2 : TypeId} {x y : Operand} {z by_ k b m lk : Nat} {v : Value} {xs cs : List Value} (keep : Bool) (he : EL P t t2 z by_) (hx : Opd env x (.slice (some ⟨b, 0, none⟩) m m)) (hy : Opd env y v) (hs : Src g z v k xs) (hf : full v k)
    (hi : g.info b = some ⟨m * z, lk, true, z⟩) (hr : rd g b 0 (m * z) = cs) (hkn : known cs = true) (hT : T b ∨ n ≤ b) (hbn : b < n) (hk0 : k ≠ 0) (hbig : (m + k) * by_ ≤ 140737488355328) :
    OpEv P T ⟨dst, .call { callee := .builtin .append, args := #[x, y], argTypes := #[t, t2] }, ty, pos, after, gd⟩ env n g (.slice (some ⟨n, 0, none⟩) (m + k) (m + k)) (n + 1)
      (.takeover b n keep (m * z) (if keep then m * z else lk) z (cs ++ xs)) := by
  obtain ⟨e, d, zv, d2, h1, h2, h3, h4, h5, h6, h7⟩ := he
  subst hr
  exact op_append (mm := ⟨m * z, lk, true, z⟩) keep h1 h2 h3 h4 h5 h6 h7 hx.ev (hy.ev.symm ▸ hs) (hy.ev.symm ▸ hf) hi rfl rfl rfl hkn hT hbn hk0 hbig

theorem o_slice {t e : TypeId} {x : Operand} {lo hi : Option Operand} {b o m : Nat} {l u : Nat} {mm : Meta} {d : TypeDesc} {z by_ : Nat} {zv : Value} (hx : Opd env x (.slice (some ⟨b, o, none⟩) m m)) (hu : P.underlying t = some (.slice e))
    (hz : TI P e d z by_ zv) (hlo : bound env lo 0 l) (hhi : bound env hi m u) (hlh : l ≤ u) (hhm : u ≤ m) (hm : g.info b = some mm) (hsz : mm.sz = 0 ∨ mm.sz = z) :
    OpEv P T ⟨dst, .slice t x lo hi none, ty, pos, after, gd⟩ env n g (.slice (some ⟨b, o + l * z, none⟩) (u - l) (u - l)) n .nil := op_slice hu hz hx.ev hlo hhi hlh hhm hm hsz
theorem bound.none {dflt : Int} : bound env none dflt dflt := rfl
theorem bound.some {y : Operand} {dflt v : Int} {k : IntKind} (h : Opd env y (.int k v)) : bound env (Option.some y) dflt v := ⟨k, h.ev⟩
theorem bound.someN {y : Operand} {dflt v : Int} {k : IntKind} {w : Nat} (h : Opd env y (.int k v)) (e : v = w) : bound env (Option.some y) dflt w := ⟨k, e ▸ h.ev⟩

/-! The heap behind an append. -/
theorem c_take {h : AH} {b n sz lk ez i : Nat} {keep : Bool} {cs : List Value} {v : Value} (hv : cs[i]? = some v) : (h.app (.takeover b n keep sz lk ez cs)).cell n i = v := by simp [AH.app, Dl.takeover, List.getD, hv]
theorem c_take_ne {h : AH} {b n sz lk ez i x : Nat} {keep : Bool} {cs : List Value} {v : Value} (h1 : x ≠ n) (h2 : x ≠ b) (k : h.cell x i = v) : (h.app (.takeover b n keep sz lk ez cs)).cell x i = v := by simp [AH.app, Dl.takeover, h1, h2, k]
theorem i_take {h : AH} {b n sz lk ez : Nat} {keep : Bool} {cs : List Value} : (h.app (.takeover b n keep sz lk ez cs)).info n = some ⟨cs.length, lk, true, ez⟩ := by simp [AH.app, Dl.takeover]
theorem i_take_ne {h : AH} {b n sz lk ez x : Nat} {keep : Bool} {cs : List Value} {q : Option Meta} (h1 : x ≠ n) (h2 : x ≠ b) (k : h.info x = q) : (h.app (.takeover b n keep sz lk ez cs)).info x = q := by simp [AH.app, Dl.takeover, h1, h2, k]
theorem c_ext {h h1 : AH} {m b i : Nat} {v : Value} (e : Ext m h h1) (hb : b < m) (k : h.cell b i = v) : h1.cell b i = v := (e.cell b i hb).trans k
theorem i_ext {h h1 : AH} {m b : Nat} {q : Option Meta} (e : Ext m h h1) (hb : b < m) (k : h.info b = q) : h1.info b = q := (e.info b hb).trans k

theorem rd_congr {h h1 : AH} {b : Nat} (e : ∀ i, h1.cell b i = h.cell b i) : ∀ (k o : Nat), rd h1 b o k = rd h b o k
  | 0, _ => rfl
  | k + 1, o => by simp only [rd, e o, rd_congr e k (o + 1)]
theorem r_new_ne {h : AH} {n b o k : Nat} {m : Meta} {cs vs : List Value} (hb : b ≠ n) (q : rd h b o k = vs) : rd (h.app (.new n m cs)) b o k = vs := by
  rw [rd_congr (h := h) (fun i => by simp [AH.app, Dl.new, hb])]; exact q
theorem r_take_ne {h : AH} {b n sz lk ez x o k : Nat} {keep : Bool} {cs vs : List Value} (h1 : x ≠ n) (h2 : x ≠ b) (q : rd h x o k = vs) : rd (h.app (.takeover b n keep sz lk ez cs)) x o k = vs := by
  rw [rd_congr (h := h) (fun i => by simp [AH.app, Dl.takeover, h1, h2])]; exact q
theorem r_sets_ne {h : AH} {b x o o2 k : Nat} {cs vs : List Value} (h1 : x ≠ b) (q : rd h x o k = vs) : rd (h.app (.sets b o2 cs)) x o k = vs := by
  rw [rd_congr (h := h) (fun i => by simp [AH.app, Dl.sets, h1])]; exact q
theorem r_ext {h h1 : AH} {m b o k : Nat} {vs : List Value} (e : Ext m h h1) (hb : b < m) (q : rd h b o k = vs) : rd h1 b o k = vs := by rw [rd_ext e hb]; exact q
theorem r_new {h : AH} {n k : Nat} {m : Meta} {cs : List Value} (hk : k = cs.length) : rd (h.app (.new n m cs)) n 0 k = cs := by
  rw [rd_new _ _ _ _ _ _ (by omega), List.drop_zero, List.take_of_length_le (by omega)]
theorem r_take {h : AH} {b n sz lk ez k : Nat} {keep : Bool} {cs : List Value} (hk : k = cs.length) : rd (h.app (.takeover b n keep sz lk ez cs)) n 0 k = cs := by
  have : rd (h.app (.takeover b n keep sz lk ez cs)) n 0 k = rd (h.app (.new n ⟨0, 0, true, 0⟩ cs)) n 0 k := rd_congr (fun i => by simp [AH.app, Dl.takeover, Dl.new]) _ _
  rw [this]; exact r_new hk
theorem cell_of_rd {h : AH} {b o k i : Nat} {vs : List Value} {v : Value} (q : rd h b o k = vs) (hv : vs[i]? = some v) : h.cell b (o + i) = v := by
  have hi : i < vs.length := (List.getElem?_eq_some_iff.1 hv).1
  rw [← q, rd_length] at hi
  have := rd_getD h b k o i hi
  rw [q] at this
  rw [← this]; simp [List.getD, hv]
theorem rd_sub {h : AH} {b o k i j : Nat} {vs : List Value} (q : rd h b o k = vs) (hi : i + j ≤ k) : rd h b (o + i) j = (vs.drop i).take j := by
  subst q
  apply List.ext_getElem
  · simp [rd_length]; omega
  · intro x h1 h2
    rw [rd_length] at h1
    have e1 := rd_getD h b j (o + i) x h1
    have e2 := rd_getD h b k o (i + x) (by omega)
    have e3 : (rd h b (o + i) j).getD x (.tuple #[]) = (rd h b (o + i) j)[x]'(by rw [rd_length]; exact h1) := by simp [List.getD, rd_length, h1]
    have e4 : (rd h b o k).getD (i + x) (.tuple #[]) = (rd h b o k)[i + x]'(by rw [rd_length]; omega) := by
      have : i + x < (rd h b o k).length := by rw [rd_length]; omega
      simp [List.getD, this]
    rw [← e3, e1]
    simp only [List.getElem_take, List.getElem_drop]
    rw [← e4, e2]; congr 1; omega

end
end Go.Abs

/- Stepping through a region that draws its order: what each operation looks at and turns is noted, and what clashes must wait. -/
namespace Go.Abs
open Go.RowKit

/-- What an operation looked at and turned; the numbers of the new blocks. -/
structure Ft where
  R : Nat → Prop
  W : Nat → Prop
  n : Nat
  n' : Nat
def Ft.of (x : Step) : Ft := ⟨x.R, x.W, x.e.n, x.e.n'⟩
/-- It looked at nothing and turned nothing. -/
abbrev Ft.no (n n' : Nat) : Ft := ⟨none', none', n, n'⟩

def masksL (ops : Array Oper) : List Nat := masksOf ops.toList []

/-- Those behind (the last first, j of them) that the k-th operation does not wait for do not clash with what looks at R and turns W. -/
inductive CF (ops : Array Oper) (k : Nat) (R W : Nat → Prop) : Nat → List Ft → Prop
  | nil {j} : CF ops k R W j []
  | wait {j y ys} (h : ((masksL ops).getD k 0).testBit j = true) (t : CF ops k R W j ys) : CF ops k R W (j + 1) (y :: ys)
  | free {j y ys} (h1 : ∀ b, R b → ¬ (y.W b ∨ (y.n ≤ b ∧ b < y.n'))) (h2 : ∀ b, y.R b → ¬ W b) (h3 : ∀ b, W b → ¬ (y.W b ∨ (y.n ≤ b ∧ b < y.n'))) (t : CF ops k R W j ys) : CF ops k R W (j + 1) (y :: ys)

theorem CF.pure {ops : Array Oper} {k : Nat} : ∀ (ps : List Ft), CF ops k none' none' ps.length ps
  | [] => .nil
  | _ :: ps => .free (fun _ h => h.elim) (fun _ _ h => h) (fun _ h => h.elim) (CF.pure ps)
/-- A look at block b alone. -/
theorem CF.ld {ops : Array Oper} {k b j : Nat} {y : Ft} {ys : List Ft} (h : ¬ (y.W b ∨ (y.n ≤ b ∧ b < y.n'))) (t : CF ops k (· = b) none' j ys) : CF ops k (· = b) none' (j + 1) (y :: ys) :=
  .free (fun _ e => by subst e; exact h) (fun _ _ h => h) (fun _ h => h.elim) t
theorem CF.st {ops : Array Oper} {k b j : Nat} {y : Ft} {ys : List Ft} (h : ¬ (y.W b ∨ (y.n ≤ b ∧ b < y.n'))) (h2 : ¬ y.R b) (t : CF ops k (· = b) (· = b) j ys) : CF ops k (· = b) (· = b) (j + 1) (y :: ys) :=
  .free (fun _ e => by subst e; exact h) (fun _ k e => by subst e; exact h2 k) (fun _ e => by subst e; exact h) t
/-- A call that looks at all below nb and turns nothing. -/
theorem CF.cl {ops : Array Oper} {k nb j : Nat} {y : Ft} {ys : List Ft} (h : ∀ b, b < nb → ¬ (y.W b ∨ (y.n ≤ b ∧ b < y.n'))) (t : CF ops k (· < nb) none' j ys) : CF ops k (· < nb) none' (j + 1) (y :: ys) :=
  .free (fun b e => h b e) (fun _ _ h => h) (fun _ h => h.elim) t

theorem CF.free_at {ops : Array Oper} {k : Nat} {x : Step} : ∀ (past : List Step), CF ops k x.R x.W past.length (past.map Ft.of) → clashFree ((masksL ops).getD k 0) x past.length past
  | [], _ => trivial
  | y :: ys, h => by
    simp only [List.length_cons, List.map_cons] at h
    cases h with
    | wait h t => exact ⟨.inl h, CF.free_at ys t⟩
    | free h1 h2 h3 t => exact ⟨.inr ⟨h1, h2, h3⟩, CF.free_at ys t⟩

/-- What is told of block b alone; of those below m alone. -/
def AH.only (h : AH) (b : Nat) : AH := ⟨fun x => if x = b then h.info x else none, fun x i => if x = b then h.cell x i else .tuple #[]⟩
def AH.below (h : AH) (m : Nat) : AH := ⟨fun x => if x < m then h.info x else none, fun x i => if x < m then h.cell x i else .tuple #[]⟩
theorem AH.only_le (h : AH) (b : Nat) : (h.only b).le h where
  info := fun x m hx => by
    simp only [AH.only] at hx
    split at hx
    · exact hx
    · cases hx
  cell := fun x i => by
    by_cases e : x = b
    · right; simp [AH.only, e]
    · left; simp [AH.only, e]
theorem AH.below_le (h : AH) (m : Nat) : (h.below m).le h where
  info := fun x m hx => by
    simp only [AH.below] at hx
    split at hx
    · exact hx
    · cases hx
  cell := fun x i => by
    by_cases e : x < m
    · right; simp [AH.below, e]
    · left; simp [AH.below, e]
theorem AH.empty_le (h : AH) : AH.empty.le h := ⟨fun _ _ hx => (by cases hx), fun _ _ => .inl rfl⟩
theorem AH.only_looks {h : AH} {b x : Nat} (hx : (h.only b).info x ≠ none ∨ ∃ k, (h.only b).cell x k ≠ .tuple #[]) : x = b := by
  rcases Nat.decEq x b with e | e
  · rcases hx with h1 | ⟨k, h1⟩ <;> simp [AH.only, e] at h1
  · exact e
theorem AH.below_looks {h : AH} {m x : Nat} (hx : (h.below m).info x ≠ none ∨ ∃ k, (h.below m).cell x k ≠ .tuple #[]) : x < m := by
  rcases Nat.lt_or_ge x m with e | e
  · exact e
  · rcases hx with h1 | ⟨k, h1⟩ <;> simp [AH.below, Nat.not_lt.2 e] at h1
theorem c_only {h : AH} {b i : Nat} {v : Value} (k : h.cell b i = v) : (h.only b).cell b i = v := by simp [AH.only, k]
theorem i_only {h : AH} {b : Nat} {q : Option Meta} (k : h.info b = q) : (h.only b).info b = q := by simp [AH.only, k]
theorem r_only {h : AH} {b o k : Nat} {vs : List Value} (q : rd h b o k = vs) : rd (h.only b) b o k = vs := by
  have : ∀ (k o : Nat), rd (h.only b) b o k = rd h b o k := by
    intro k
    induction k with
    | zero => intro; rfl
    | succ k ih => intro o; simp only [rd, ih]; simp [AH.only]
  rw [this]; exact q
theorem c_below {h : AH} {m b i : Nat} {v : Value} (hb : b < m) (k : h.cell b i = v) : (h.below m).cell b i = v := by simp [AH.below, hb, k]
theorem i_below {h : AH} {m b : Nat} {q : Option Meta} (hb : b < m) (k : h.info b = q) : (h.below m).info b = q := by simp [AH.below, hb, k]
theorem r_below {h : AH} {m b o k : Nat} {vs : List Value} (hb : b < m) (q : rd h b o k = vs) : rd (h.below m) b o k = vs := by
  have : ∀ (k o : Nat), rd (h.below m) b o k = rd h b o k := by
    intro k
    induction k with
    | zero => intro; rfl
    | succ k ih => intro o; simp only [rd, ih]; simp [AH.below, hb]
  rw [this]; exact q
theorem AH.below_ext (h : AH) (m : Nat) : Ext m h (h.below m) := ⟨fun b hb => by simp [AH.below, hb], fun b i hb => by simp [AH.below, hb]⟩

/-- The operations of a region that draws its order, from here on; ps: what those behind looked at and turned. -/
structure RD (P : Program) (T : Nat → Prop) (ops : Array Oper) (ps : List Ft) (os : List Oper) (env : Env) (n : Nat) (h : AH) (Q : Env → Nat → AH → Prop) : Prop where
  out : ∀ past : List Step, past.map Ft.of = ps → ∃ env' n' h' rest, Txt P T ops (masksL ops) past os env n h env' n' h' rest ∧ Q env' n' h'

class Mixed (P : Program) : Prop where
  out : P.follows .mixedOrders = true

section
variable {P : Program} {T W : Nat → Prop} {ops : Array Oper} {os : List Oper} {env : Env} {n n1 : Nat} {h h1 g : AH} {Q : Env → Nat → AH → Prop} {ps : List Ft}
variable {dst : Option Tmp} {ty : TypeId} {pos : String} {after : Array Edge} {gd : Option (Nat × Bool)}

theorem RC.draw {N : Nat} {ops : List Oper} {id : Nat} {Q : Exit → Env → Nat → AH → Prop} [Mixed P] (hst : staticOk ops.toArray (masksL ops.toArray) = true) (hbk : backOk ops.toArray = true) (hd : dstOk N ops = true)
    (k : RD P T ops.toArray [] ops env n h (fun env n h => Q .normal env n h)) : RC P T N (.region id ops.toArray true) env n h Q := by
  obtain ⟨env', n', h', rest, ht, hq⟩ := k.out [] rfl
  exact ⟨_, _, _, _, Ex.draw (masks := masksL ops.toArray) (xs := rest) Mixed.out rfl hst hbk (by simpa using hd) (by simpa using ht), hq⟩
theorem RD.nil (k : Q env n h) : RD P T ops ps [] env n h Q := ⟨fun _ _ => ⟨_, _, _, _, .nil, k⟩⟩
theorem RD.op {o : Oper} {v : Value} {d : Dl} (R W : Nat → Prop) (hw : wants ops o env = some true) (ho : OpEv P T o env n g v n1 d) (hg : g.le h) (hlook : ∀ b, (g.info b ≠ none ∨ ∃ k, g.cell b k ≠ .tuple #[]) → R b)
    (hold : ∀ b, R b → b < n) (hturn : ∀ b, d.touches b → W b ∨ n ≤ b) (hc : CF ops ps.length R W ps.length ps) (hh : h1.le (h.app d)) (k : RD P T ops (⟨R, W, n, n1⟩ :: ps) os (env.put o.dst v) n1 h1 Q) : RD P T ops ps (o :: os) env n h Q := by
  refine ⟨fun past hp => ?_⟩
  subst hp
  let x : Step := { e := ⟨o, n, n1, v, d⟩, env := env, g := g, R := R, W := W, yes := true }
  obtain ⟨env', n', h', rest, ht, hq⟩ := k.out (x :: past) rfl
  have hc' : CF ops past.length x.R x.W past.length (past.map Ft.of) := by simpa using hc
  refine ⟨env', n', h', x :: rest, .cons x rfl rfl rfl hg ?_ (CF.free_at past hc') hh ht, hq⟩
  exact { le := ho.le, want := hw, run := fun _ => ho, skip := (fun h => by cases h), look := hlook, turn := fun b hb => ⟨hturn b hb, (ho.within b hb).2⟩, old := hold, within := ho.within }
theorem RD.skip {o : Oper} (hw : wants ops o env = some false) (k : RD P T ops (.no n n :: ps) os (env.put o.dst skipV) n h Q) : RD P T ops ps (o :: os) env n h Q := by
  refine ⟨fun past hp => ?_⟩
  subst hp
  let x : Step := { e := ⟨o, n, n, skipV, .nil⟩, env := env, g := .empty, R := none', W := none', yes := false }
  obtain ⟨env', n', h', rest, ht, hq⟩ := k.out (x :: past) rfl
  have hc' : CF ops past.length x.R x.W past.length (past.map Ft.of) := by simpa using CF.pure (past.map Ft.of)
  refine ⟨env', n', h', x :: rest, .cons x rfl rfl rfl (AH.empty_le _) ?_ (CF.free_at past hc') (by show h.le (h.app .nil); rw [AH.app_nil]; exact .refl _) ht, hq⟩
  exact { le := Nat.le_refl _, want := hw, run := (fun h => by cases h), skip := fun _ => ⟨rfl, rfl, rfl⟩, look := (fun b hb => by rcases hb with h1 | ⟨k, h1⟩ <;> exact h1 rfl), turn := fun b hb => (Dl.touches_nil hb).elim, old := fun _ h => h.elim, within := .nil _ _ _ }
theorem RD.omit {o : Oper} {d : Tmp} (hw : wants ops o env = some false) (hd : o.dst = some d) (k : RD P T ops (.no n n :: ps) os ((d, skipV) :: env) n h Q) : RD P T ops ps (o :: os) env n h Q :=
  RD.skip hw (by rw [hd]; exact k)
theorem RD.omit0 {o : Oper} (hw : wants ops o env = some false) (hd : o.dst = none) (k : RD P T ops (.no n n :: ps) os env n h Q) : RD P T ops ps (o :: os) env n h Q :=
  RD.skip hw (by rw [hd]; exact k)
theorem empty_looks {R : Nat → Prop} (b : Nat) (hb : AH.empty.info b ≠ none ∨ ∃ k, AH.empty.cell b k ≠ .tuple #[]) : R b := by rcases hb with h1 | ⟨k, h1⟩ <;> exact (h1 rfl).elim
/-- What looks at no memory. -/
theorem RD.calc {o : Oper} {v : Value} (hw : wants ops o env = some true) (ho : OpEv P T o env n .empty v n .nil) (k : RD P T ops (.no n n :: ps) os (env.put o.dst v) n h Q) : RD P T ops ps (o :: os) env n h Q :=
  RD.op none' none' hw ho (AH.empty_le _) empty_looks (fun _ h => h.elim) (fun _ hb => (Dl.touches_nil hb).elim) (CF.pure ps) (by rw [AH.app_nil]; exact .refl _) k
theorem RD.put {o : Oper} {d : Tmp} {v : Value} (hw : wants ops o env = some true) (hd : o.dst = some d) (ho : OpEv P T o env n .empty v n .nil) (k : RD P T ops (.no n n :: ps) os ((d, v) :: env) n h Q) : RD P T ops ps (o :: os) env n h Q :=
  RD.calc hw ho (by rw [hd]; exact k)
theorem RD.decT {o : Oper} {d : Tmp} {p : Prop} [Decidable p] (hw : wants ops o env = some true) (hd : o.dst = some d) (ho : OpEv P T o env n .empty (.bool (decide p)) n .nil) (hp : p) (k : RD P T ops (.no n n :: ps) os ((d, .bool true) :: env) n h Q) : RD P T ops ps (o :: os) env n h Q :=
  RD.calc hw ho (by rw [decide_eq_true hp, hd]; exact k)
theorem RD.decF {o : Oper} {d : Tmp} {p : Prop} [Decidable p] (hw : wants ops o env = some true) (hd : o.dst = some d) (ho : OpEv P T o env n .empty (.bool (decide p)) n .nil) (hp : ¬ p) (k : RD P T ops (.no n n :: ps) os ((d, .bool false) :: env) n h Q) : RD P T ops ps (o :: os) env n h Q :=
  RD.calc hw ho (by rw [decide_eq_false hp, hd]; exact k)
theorem RD.dec {o : Oper} {d : Tmp} {p : Prop} [Decidable p] (hw : wants ops o env = some true) (hd : o.dst = some d) (ho : OpEv P T o env n .empty (.bool (decide p)) n .nil) (kt : p → RD P T ops (.no n n :: ps) os ((d, .bool true) :: env) n h Q)
    (kf : ¬ p → RD P T ops (.no n n :: ps) os ((d, .bool false) :: env) n h Q) : RD P T ops ps (o :: os) env n h Q := by
  by_cases hp : p
  · exact RD.decT hw hd ho hp (kt hp)
  · exact RD.decF hw hd ho hp (kf hp)
/-- What looks at block b alone. -/
theorem RD.look {o : Oper} {d : Tmp} {v : Value} {b : Nat} (hw : wants ops o env = some true) (hd : o.dst = some d) (ho : OpEv P T o env n (h.only b) v n .nil) (hb : b < n) (hc : CF ops ps.length (· = b) none' ps.length ps)
    (k : RD P T ops (⟨(· = b), none', n, n⟩ :: ps) os ((d, v) :: env) n h Q) : RD P T ops ps (o :: os) env n h Q :=
  RD.op (· = b) none' hw ho (AH.only_le _ _) (fun _ hx => AH.only_looks hx) (fun _ e => by subst e; exact hb) (fun _ hb => (Dl.touches_nil hb).elim) hc (by rw [AH.app_nil]; exact .refl _) (by rw [hd]; exact k)
/-- What turns block b. -/
theorem RD.turn0 {o : Oper} {v : Value} {b o' : Nat} {vs : List Value} (hw : wants ops o env = some true) (hd : o.dst = none) (ho : OpEv P T o env n (h.only b) v n (.sets b o' vs)) (hb : b < n) (hc : CF ops ps.length (· = b) (· = b) ps.length ps)
    (k : RD P T ops (⟨(· = b), (· = b), n, n⟩ :: ps) os env n (h.app (.sets b o' vs)) Q) : RD P T ops ps (o :: os) env n h Q :=
  RD.op (· = b) (· = b) hw ho (AH.only_le _ _) (fun _ hx => AH.only_looks hx) (fun _ e => by subst e; exact hb) (fun x hx => by
    exact .inl (sets_touches hx)) hc (.refl _) (by rw [hd]; exact k)
/-- What makes a new block and looks at no memory. -/
theorem RD.make {o : Oper} {d : Tmp} {v : Value} {m : Meta} {cs : List Value} (hw : wants ops o env = some true) (hd : o.dst = some d) (ho : OpEv P T o env n .empty v (n + 1) (.new n m cs))
    (k : RD P T ops (.no n (n + 1) :: ps) os ((d, v) :: env) (n + 1) (h.app (.new n m cs)) Q) : RD P T ops ps (o :: os) env n h Q :=
  RD.op none' none' hw ho (AH.empty_le _) empty_looks (fun _ h => h.elim) (fun x hx => by
    right
    rcases hx with h1 | ⟨i, h1⟩ <;> (simp only [Dl.new] at h1; split at h1) <;> first | omega | exact absurd rfl h1) (CF.pure ps) (.refl _) (by rw [hd]; exact k)
/-- A call that turns nothing, of what lies below nb. -/
theorem RD.call1 {d : Tmp} {f : FuncId} {xs : List Operand} {vs : List Value} {ts : Array TypeId} {r : Value} (nb : Nat) (hw : wants ops ⟨some d, .call { callee := .value (.func f), args := xs.toArray, argTypes := ts }, ty, pos, after, gd⟩ env = some true)
    (hx : Opds env xs vs) (hev : Ev P none' f vs.toArray n (h.below nb) r n1 h1) (hnb : nb ≤ n) (hc : CF ops ps.length (· < nb) none' ps.length ps) (k : n ≤ n1 → RD P T ops (⟨(· < nb), none', n, n1⟩ :: ps) os ((d, r) :: env) n1 h1 Q) :
    RD P T ops ps (⟨some d, .call { callee := .value (.func f), args := xs.toArray, argTypes := ts }, ty, pos, after, gd⟩ :: os) env n h Q := by
  rw [← hx.mapA] at hev
  obtain ⟨dl, hle, hwi, ho⟩ := op_call (T := T) (ty := ty) (dst := some d) (pos := pos) (after := after) (gd := gd) (ts := ts) hev (fun _ h => h.elim)
  refine RD.op (· < nb) none' hw ho (AH.below_le _ _) (fun _ hx => AH.below_looks hx) (fun _ e => Nat.lt_of_lt_of_le e hnb) (fun b hb => ?_) hc (hle.trans ((AH.below_le h nb).app dl)) (k ho.le)
  rcases (hwi b hb).1 with h1 | h1
  · exact h1.elim
  · exact .inr h1
/-- The same, of a contract that tells less. -/
theorem RD.call {d : Tmp} {f : FuncId} {xs : List Operand} {vs : List Value} {ts : Array TypeId} {QC : Value → Nat → AH → Prop} (nb : Nat) (hw : wants ops ⟨some d, .call { callee := .value (.func f), args := xs.toArray, argTypes := ts }, ty, pos, after, gd⟩ env = some true)
    (hx : Opds env xs vs) (hev : RF P none' f vs.toArray n (h.below nb) QC) (hnb : nb ≤ n) (hc : CF ops ps.length (· < nb) none' ps.length ps) (k : ∀ r n1 h1, n ≤ n1 → QC r n1 h1 → RD P T ops (⟨(· < nb), none', n, n1⟩ :: ps) os ((d, r) :: env) n1 h1 Q) :
    RD P T ops ps (⟨some d, .call { callee := .value (.func f), args := xs.toArray, argTypes := ts }, ty, pos, after, gd⟩ :: os) env n h Q := by
  obtain ⟨r, n1, h1, hev, hq⟩ := hev
  exact RD.call1 nb hw hx hev hnb hc fun hle => k r n1 h1 hle hq
end
end Go.Abs

/- Slices, nil or not; loops by invariants; whole numbers' operations on bits; structs built and parted. -/
namespace Go.Abs
open Go.RowKit

/-! Slices. -/
def sb (a : Option Addr) : Nat := (a.map (·.block)).getD 0
def so (a : Option Addr) : Nat := (a.map (·.off)).getD 0
def sub (a : Option Addr) (k : Nat) : Option Addr := a.map fun x => ⟨x.block, x.off + k, none⟩

/-- A slice of m elements of z cells, whose cells are told by f; its block has a number below n. -/
structure SlR (h : AH) (n : Nat) (a : Option Addr) (z m : Nat) (f : Nat → Value) : Prop where
  shape : (a = none ∧ m = 0) ∨ (a = some ⟨sb a, so a, none⟩ ∧ sb a < n ∧ ∃ mm, h.info (sb a) = some mm ∧ mm.sz = z)
  cell : ∀ j, j < m * z → h.cell (sb a) (so a + j) = f j

/-- Its address, where it has elements. -/
def SlA (a : Option Addr) (m : Nat) : Prop := (a = none ∧ m = 0) ∨ a = some ⟨sb a, so a, none⟩

section
variable {h h' : AH} {n n' : Nat} {a : Option Addr} {z m : Nat} {f : Nat → Value}
theorem SlR.sla (s : SlR h n a z m f) : SlA a m := by
  rcases s.shape with h | h
  · exact .inl h
  · exact .inr h.1
theorem SlA.eq (s : SlA a m) (hm : 0 < m) : a = some ⟨sb a, so a, none⟩ := by
  rcases s with h | h
  · omega
  · exact h
theorem SlR.lt (s : SlR h n a z m f) (hm : 0 < m) : sb a < n := by
  rcases s.shape with h | h
  · omega
  · exact h.2.1
theorem SlR.ext (s : SlR h n a z m f) (e : Ext n h h') (hn : n ≤ n') : SlR h' n' a z m f where
  shape := by
    rcases s.shape with k | ⟨k1, k2, mm, k3, k4⟩
    · exact .inl k
    · exact .inr ⟨k1, by omega, mm, by rw [e.info _ k2]; exact k3, k4⟩
  cell := fun j hj => by
    have hm : 0 < m := Nat.pos_of_ne_zero fun h0 => by subst h0; simp at hj
    rw [e.cell _ _ (s.lt hm)]; exact s.cell j hj
theorem SlR.at (s : SlR h n a z m f) (e : Ext n h h') {j : Nat} (hj : j < m * z) : h'.cell (sb a) (so a + j) = f j := by
  have hm : 0 < m := Nat.pos_of_ne_zero fun h0 => by subst h0; simp at hj
  rw [e.cell _ _ (s.lt hm)]; exact s.cell j hj
theorem SlR.rd (s : SlR h n a z m f) (e : Ext n h h') {i k : Nat} (hk : i + k ≤ m * z) : rd h' (sb a) (so a + i) k = (List.range k).map fun j => f (i + j) := by
  apply List.ext_getElem
  · simp [rd_length]
  · intro j h1 h2
    rw [rd_length] at h1
    have e1 := rd_getD h' (sb a) k (so a + i) j h1
    have e2 : (Abs.rd h' (sb a) (so a + i) k).getD j (.tuple #[]) = (Abs.rd h' (sb a) (so a + i) k)[j]'(by rw [rd_length]; exact h1) := by simp [List.getD, rd_length, h1]
    rw [← e2, e1, Nat.add_assoc, s.at e (by omega)]
    simp
theorem SlR.congr {g : Nat → Value} (s : SlR h n a z m f) (e : ∀ j, j < m * z → f j = g j) : SlR h n a z m g := ⟨s.shape, fun j hj => (s.cell j hj).trans (e j hj)⟩
theorem SlR.nil : SlR h n none z 0 f := ⟨.inl ⟨rfl, rfl⟩, fun j hj => by simp at hj⟩
theorem SlR.new {b : Nat} {mm : Meta} (hb : b < n) (hi : h.info b = some mm) (hz : mm.sz = z) (hc : ∀ j, j < m * z → h.cell b j = f j) : SlR h n (some ⟨b, 0, none⟩) z m f :=
  ⟨.inr ⟨rfl, hb, mm, hi, hz⟩, fun j hj => by show h.cell b (0 + j) = f j; rw [Nat.zero_add]; exact hc j hj⟩
theorem sb_sub (a : Option Addr) (k : Nat) : sb (sub a k) = sb a := by cases a <;> rfl
theorem so_sub (x : Addr) (k : Nat) : so (sub (some x) k) = so (some x) + k := rfl
theorem SlR.sub {l u : Nat} (s : SlR h n a z m f) (hl : l ≤ u) (hu : u ≤ m) : SlR h n (Abs.sub a (l * z)) z (u - l) (fun j => f (l * z + j)) where
  shape := by
    rcases s.shape with ⟨k1, k2⟩ | ⟨k1, k2, k3⟩
    · subst k1; exact .inl ⟨rfl, by omega⟩
    · right
      rw [sb_sub]
      refine ⟨?_, k2, k3⟩
      rw [k1]; rfl
  cell := fun j hj => by
    have hlt : l * z + j < m * z := by
      have : (u - l) * z + l * z = u * z := by rw [← Nat.add_mul]; congr 1; omega
      have : u * z ≤ m * z := Nat.mul_le_mul_right _ hu
      omega
    have hm : 0 < m := Nat.pos_of_ne_zero fun h0 => by subst h0; simp at hlt
    rcases s.shape with ⟨k1, k2⟩ | ⟨k1, k2, k3⟩
    · omega
    · have := s.cell (l * z + j) hlt
      rw [sb_sub]
      rw [show so (Abs.sub a (l * z)) = so a + l * z by rw [k1]; rfl]
      rw [Nat.add_assoc]; exact this
end

theorem Ext.mono {n n1 : Nat} {h h' : AH} (e : Ext n1 h h') (hn : n ≤ n1) : Ext n h h' := ⟨fun b hb => e.info b (by omega), fun b i hb => e.cell b i (by omega)⟩
theorem Ext.then {n : Nat} {h h1 h2 : AH} (a : Ext n h h1) (b : Ext n h1 h2) : Ext n h h2 := a.trans (Nat.le_refl _) b
theorem Ext.appNew {n b : Nat} {h h1 : AH} {m : Meta} {cs : List Value} (hb : n ≤ b) (e : Ext n h h1) : Ext n h (h1.app (.new b m cs)) :=
  e.then ⟨fun x hx => by simp [AH.app, Dl.new, show x ≠ b by omega], fun x i hx => by simp [AH.app, Dl.new, show x ≠ b by omega]⟩
theorem Ext.appSets {n b o : Nat} {h h1 : AH} {vs : List Value} (hb : n ≤ b) (e : Ext n h h1) : Ext n h (h1.app (.sets b o vs)) :=
  e.then ⟨fun x hx => sets_info _ _ _ _ _, fun x i hx => by simp [AH.app, Dl.sets, show x ≠ b by omega]⟩
theorem Ext.appTake {n b c sz lk ez : Nat} {keep : Bool} {h h1 : AH} {cs : List Value} (hb : n ≤ b) (hc : n ≤ c) (e : Ext n h h1) : Ext n h (h1.app (.takeover b c keep sz lk ez cs)) :=
  e.then ⟨fun x hx => by simp [AH.app, Dl.takeover, show x ≠ b by omega, show x ≠ c by omega], fun x i hx => by simp [AH.app, Dl.takeover, show x ≠ b by omega, show x ≠ c by omega]⟩
theorem Ext.below {n m : Nat} {h h1 : AH} (hb : n ≤ m) (e : Ext n h h1) : Ext n h (h1.below m) := e.then ((AH.below_ext h1 m).mono hb)

/-! Blocks left, loops by invariants. -/
structure outC (id : Nat) (Q : Exit → Env → Nat → AH → Prop) (e : Exit) (env : Env) (n : Nat) (h : AH) : Prop where
  out : Q (outOf id e) env n h
structure nextC (I : Env → Nat → AH → Prop) (Q : Exit → Env → Nat → AH → Prop) (e : Exit) (env : Env) (n : Nat) (h : AH) : Prop where
  out : match e with
    | .normal => I env n h
    | e => Q e env n h

section
variable {P : Program} {T : Nat → Prop} {N : Nat} {Q : Exit → Env → Nat → AH → Prop} {env : Env} {n : Nat} {h : AH}
theorem RC.blk {id : Nat} {c : Code} (k : RC P T N c env n h (outC id Q)) : RC P T N (.block id c) env n h Q := RC.block (k.mono fun _ _ _ _ q => q.out)
theorem outC.normal {id : Nat} (k : Q .normal env n h) : outC id Q .normal env n h := ⟨k⟩
theorem outC.ret {id : Nat} (k : Q .ret env n h) : outC id Q .ret env n h := ⟨k⟩
theorem outC.same {id : Nat} (k : Q .normal env n h) : outC id Q (.exit id) env n h := ⟨by simp only [outOf, if_true]; exact k⟩
theorem outC.other {id id' : Nat} (hne : Nat.beq id' id = false) (k : Q (.exit id') env n h) : outC id Q (.exit id') env n h := ⟨by
  have : id' ≠ id := fun h => by subst h; simp at hne
  simp only [outOf, if_neg this]; exact k⟩
theorem nextC.normal {I : Env → Nat → AH → Prop} (k : I env n h) : nextC I Q .normal env n h := ⟨k⟩
theorem nextC.ret {I : Env → Nat → AH → Prop} (k : Q .ret env n h) : nextC I Q .ret env n h := ⟨k⟩
theorem nextC.exit {I : Env → Nat → AH → Prop} {id : Nat} (k : Q (.exit id) env n h) : nextC I Q (.exit id) env n h := ⟨k⟩

/-- A loop, by an invariant I over states a; μ falls each round. -/
theorem RL.inv {α : Type} {c : Code} (E : α → Env) (I : α → Nat → AH → Prop) (μ : α → Nat) (a : α) (h0 : Envs env (E a)) (h1 : I a n h)
    (step : ∀ a n h, I a n h → RC P T N c (E a) n h (nextC (fun env' n' h' => ∃ a', μ a' < μ a ∧ Envs env' (E a') ∧ I a' n' h') Q)) : RL P T N c env n h Q := by
  suffices key : ∀ (k : Nat) (a : α) (env : Env) (n : Nat) (h : AH), μ a = k → Envs env (E a) → I a n h → RL P T N c env n h Q from key _ a env n h rfl h0 h1
  intro k
  induction k using Nat.strongRecOn with
  | ind k ih =>
    intro a env n h hk he hI
    refine RL.weak he.le (RL.round ((step a n h hI).mono fun e env' n' h' q => ?_))
    obtain ⟨q⟩ := q
    cases e with
    | normal =>
      obtain ⟨a', k1, k2, k3⟩ := q
      exact .normal (ih (μ a') (by omega) a' env' n' h' rfl k2 k3)
    | _ => exact ⟨q⟩
/-- What follows, of the environment only what is needed. -/
theorem RC.keep {c : Code} {env0 : Env} (h0 : Envs env env0) (k : RC P T N c env0 n h Q) : RC P T N c env n h Q := by
  obtain ⟨e, env', n', h', hx, hq⟩ := k
  exact ⟨e, env', n', h', hx.weaken h0.le (.refl _) (.refl _), hq⟩
end

/-! What the program tells of its types, found by the type's number. -/
class Tc (P : Program) (t : TypeId) (d : outParam TypeDesc) (z by_ : outParam Nat) (zv : outParam Value) : Prop where
  out : TI P t d z by_ zv
class Uc (P : Program) (t : TypeId) (d : outParam TypeDesc) : Prop where
  out : P.underlying t = some d
/-- Field i of struct type s lies at cell off, takes z cells; is it an aggregate? -/
class Fc (P : Program) (s : TypeId) (i : Nat) (off z : outParam Nat) (agg : outParam Bool) : Prop where
  out : ∃ fs f d by_ zv, P.underlying s = some (.struct fs) ∧ fs[i]? = some f ∧ f.offset = off ∧ TI P f.type d z by_ zv ∧ isAggD d = agg ∧ z ≠ 0
/-- A struct type's fields' places and its zero's cells. -/
class Sc (P : Program) (s : TypeId) (places : outParam (List (Nat × Nat))) (zero : outParam (List Value)) : Prop where
  out : ∃ fs z by_ zv, TI P s (.struct fs) z by_ zv ∧ zv.cells.all (flat 8) = true ∧ zv.cells.toList = zero ∧ ∀ w, (fs.mapM fun f => (do pure (f.offset, ← sizeOf f.type) : Sem (Nat × Nat))).run P w = .ok places.toArray w

/-- A struct's parts laid into its cells. -/
inductive Bl (places : List (Nat × Nat)) : List Value → List (Nat × Value) → List Value → Prop
  | nil {cs} : Bl places cs [] cs
  | one {cs cs1 cs2 i v off rest} (hp : places[i]? = some (off, 1)) (ho : v.cells = #[v]) (hl : Nat.ble (off + 1) cs.length = true) (hs : cs.set off v = cs1) (t : Bl places cs1 rest cs2) : Bl places cs ((i, v) :: rest) cs2
  | agg {cs cs1 cs2 i l z off rest} (hp : places[i]? = some (off, z)) (hz : l.length = z) (hl : Nat.ble (off + z) cs.length = true) (hs : cs.take off ++ (l ++ cs.drop (off + z)) = cs1) (t : Bl places cs1 rest cs2) :
      Bl places cs ((i, Value.agg l.toArray) :: rest) cs2
theorem Bl.fill {places : List (Nat × Nat)} {cs ps cs'} (b : Bl places cs ps cs') : Instr.fill (places.toArray[·]?) cs.toArray ps = some cs'.toArray := by
  induction b with
  | nil => rfl
  | @one cs cs1 cs2 i v off rest hp ho hl hs t ih =>
    have hp' : places.toArray[i]? = some (off, 1) := by simpa using hp
    have hl' := Nat.le_of_ble_eq_true hl
    simp only [Instr.fill, hp', ho]
    rw [if_neg (by simp; omega)]
    subst hs
    rw [← ih]
    refine congrArg (fun q => Instr.fill _ q rest) ?_
    rw [← Array.foldl_toList]
    simp
  | @agg cs cs1 cs2 i l z off rest hp hz hl hs t ih =>
    have hp' : places.toArray[i]? = some (off, z) := by simpa using hp
    have hl' := Nat.le_of_ble_eq_true hl
    have hc : (Value.agg l.toArray).cells.size = z := by simpa [Value.cells] using hz
    simp only [Instr.fill, hp']
    rw [if_neg (by rw [hc]; simp; omega)]
    subst hs
    rw [← ih]
    refine congrArg (fun q => Instr.fill _ q rest) ?_
    have := foldl_set l 0 off (cs.take off) ((cs.drop off).take z) (cs.drop (off + z)) (by simp; omega) (by simp; omega)
    have e1 : cs.take off ++ (cs.drop off).take z ++ cs.drop (off + z) = cs := by
      rw [List.append_assoc, ← List.drop_drop, List.take_append_drop, List.take_append_drop]
    rw [e1] at this
    rw [← Array.foldl_toList]
    have e2 : (Value.agg l.toArray).cells.toList = l := rfl
    rw [Array.toList_zipIdx, e2]
    simpa using this

section
variable {P : Program} {T : Nat → Prop} {env : Env} {n : Nat} {g : AH}
variable {dst : Option Tmp} {ty : TypeId} {pos : String} {after : Array Edge} {gd : Option (Nat × Bool)}

theorem o_build {t : TypeId} {ks : List Nat} {xs : List Operand} {vs : List Value} {places : List (Nat × Nat)} {zero cs : List Value} [s : Sc P t places zero] (hx : Opds env xs vs) (hk : ks.length = xs.length) (hok : vs.all okV = true) (hb : Bl places zero (ks.zip vs) cs) :
    OpEv P T ⟨dst, .build t (ks.zip xs).toArray, ty, pos, after, gd⟩ env n g (.agg cs.toArray) n .nil := by
  obtain ⟨fs, z, by_, zv, h1, h2, h3, h4⟩ := s.out
  have hm := hx.map
  have e1 : ((ks.zip xs).toArray.toList.map fun p => (p.1, ev env p.2)) = ks.zip vs := by
    rw [← hm]; simp only [List.zip_map_right]
    rfl
  refine op_build h1 h2 h4 ?_ ?_
  · rw [List.all_eq_true]
    intro p hp
    have hp2 : p.2 ∈ xs := (List.of_mem_zip (a := p.1) (b := p.2) (by simpa using hp)).2
    rw [List.all_eq_true] at hok
    exact hok _ (by rw [← hm]; exact List.mem_map_of_mem hp2)
  · rw [e1]
    have := hb.fill
    rw [← h3] at this
    simpa using this
theorem o_field {t : TypeId} {x : Operand} {i off z : Nat} {l : List Value} {v : Value} [s : Fc P t i off z false] (hx : Opd env x (.agg l.toArray)) (hv : l[off]? = some v) : OpEv P T ⟨dst, .field t x i, ty, pos, after, gd⟩ env n g v n .nil := by
  obtain ⟨fs, f, d, by_, zv, h1, h2, h3, h4, h5, h6⟩ := s.out
  exact op_field h1 h2 h4 hx.ev h5 (by rw [h3]; simpa using hv)
theorem o_fieldAgg {t : TypeId} {x : Operand} {i off z : Nat} {l m : List Value} [s : Fc P t i off z true] (hx : Opd env x (.agg l.toArray)) (hv : (l.drop off).take z = m) : OpEv P T ⟨dst, .field t x i, ty, pos, after, gd⟩ env n g (.agg m.toArray) n .nil := by
  obtain ⟨fs, f, d, by_, zv, h1, h2, h3, h4, h5, h6⟩ := s.out
  have := op_fieldAgg (P := P) (T := T) (n := n) (g := g) (dst := dst) (ty := ty) (pos := pos) (after := after) (gd := gd) h1 h2 h4 hx.ev h5
  rw [h3] at this
  have e : l.toArray.extract off (off + z) = m.toArray := by
    rw [← hv]; simp [List.extract_toArray, List.extract_eq_take_drop]
  rw [e] at this; exact this
theorem o_fieldAddrC {s : TypeId} {x : Operand} {i b o off z : Nat} {ag : Bool} [q : Fc P s i off z ag] (hx : Opd env x (.pointer (some ⟨b, o, none⟩))) :
    OpEv P T ⟨dst, .fieldAddr s x i, ty, pos, after, gd⟩ env n g (.pointer (some ⟨b, o + off, none⟩)) n .nil := by
  obtain ⟨fs, f, d, by_, zv, h1, h2, h3, h4, h5, h6⟩ := q.out
  exact o_fieldAddr hx ⟨fs, f, d, z, by_, zv, h1, h2, h3, h4, h6⟩
theorem o_indexU {t e : TypeId} {x y : Operand} {a : Option Addr} {m : Nat} {k : IntKind} {i : Int} {d : TypeDesc} {z by_ : Nat} {zv : Value} [hu : Uc P t (.slice e)] [hz : Tc P e d z by_ zv] (hx : Opd env x (.slice a m m)) (hy : Opd env y (.int k i)) (hA : SlA a m)
    (h0 : 0 ≤ i) (hi : i < m) : OpEv P T ⟨dst, .indexAddr t x y, ty, pos, after, gd⟩ env n g (.pointer (some ⟨sb a, so a + i.toNat * z, none⟩)) n .nil := by
  have hx' := hx
  rw [hA.eq (by omega)] at hx'
  exact o_index hx' hy hu.out hz.out h0 hi
theorem o_indexU1 {t e : TypeId} {x y : Operand} {a : Option Addr} {m : Nat} {k : IntKind} {i : Int} {d : TypeDesc} {by_ : Nat} {zv : Value} [hu : Uc P t (.slice e)] [hz : Tc P e d 1 by_ zv] (hx : Opd env x (.slice a m m)) (hy : Opd env y (.int k i)) (hA : SlA a m)
    (h0 : 0 ≤ i) (hi : i < m) : OpEv P T ⟨dst, .indexAddr t x y, ty, pos, after, gd⟩ env n g (.pointer (some ⟨sb a, so a + i.toNat, none⟩)) n .nil := by
  have := o_indexU (P := P) (T := T) (n := n) (g := g) (dst := dst) (ty := ty) (pos := pos) (after := after) (gd := gd) (t := t) hx hy hA h0 hi
  rwa [Nat.mul_one] at this
/-- Cutting: nil or not. -/
theorem o_sliceU {t e : TypeId} {x : Operand} {lo hi : Option Operand} {a : Option Addr} {m : Nat} {l u : Nat} {d : TypeDesc} {z by_ : Nat} {zv : Value} {f : Nat → Value} {n0 : Nat} {h0 : AH} [hu : Uc P t (.slice e)] [hz : Tc P e d z by_ zv] (hx : Opd env x (.slice a m m))
    (hS : SlR h0 n0 a z m f) (hE : Ext n0 h0 g) (hlo : bound env lo 0 l) (hhi : bound env hi m u) (hlh : l ≤ u) (hhm : u ≤ m) :
    OpEv P T ⟨dst, .slice t x lo hi none, ty, pos, after, gd⟩ env n g (.slice (sub a (l * z)) (u - l) (u - l)) n .nil := by
  rcases hS.shape with ⟨k1, k2⟩ | ⟨k1, k2, mm, k3, k4⟩
  · subst k1 k2
    obtain rfl : u = 0 := by omega
    obtain rfl : l = 0 := by omega
    have := op_sliceNil (P := P) (T := T) (n := n) (g := g) (dst := dst) (ty := ty) (pos := pos) (after := after) (gd := gd) hu.out hz.out hx.ev hlo hhi
    simpa [sub] using this
  · have hx' := hx
    rw [k1] at hx'
    have := o_slice (P := P) (T := T) (n := n) (g := g) (dst := dst) (ty := ty) (pos := pos) (after := after) (gd := gd) hx' hu.out hz.out hlo hhi hlh hhm (by rw [hE.info _ k2]; exact k3) (.inr k4)
    have e : sub a (l * z) = some ⟨sb a, so a + l * z, none⟩ := by rw [k1]; rfl
    rw [e]; exact this

/-! Whole numbers. -/
theorem bv_and (w : Nat) {a b : Int} (ha : 0 ≤ a) (hb : 0 ≤ b) (ha2 : a < 2 ^ w) (hb2 : b < 2 ^ w) : (BitVec.ofInt w a &&& BitVec.ofInt w b).toNat = a.toNat &&& b.toNat := by
  obtain ⟨x, rfl⟩ := Int.eq_ofNat_of_zero_le ha
  obtain ⟨y, rfl⟩ := Int.eq_ofNat_of_zero_le hb
  have hx : x < 2 ^ w := by exact_mod_cast ha2
  have hy : y < 2 ^ w := by exact_mod_cast hb2
  simp [BitVec.toNat_and, BitVec.ofInt_natCast, Nat.mod_eq_of_lt hx, Nat.mod_eq_of_lt hy]
theorem bv_or (w : Nat) {a b : Int} (ha : 0 ≤ a) (hb : 0 ≤ b) (ha2 : a < 2 ^ w) (hb2 : b < 2 ^ w) : (BitVec.ofInt w a ||| BitVec.ofInt w b).toNat = a.toNat ||| b.toNat := by
  obtain ⟨x, rfl⟩ := Int.eq_ofNat_of_zero_le ha
  obtain ⟨y, rfl⟩ := Int.eq_ofNat_of_zero_le hb
  have hx : x < 2 ^ w := by exact_mod_cast ha2
  have hy : y < 2 ^ w := by exact_mod_cast hb2
  simp [BitVec.toNat_or, BitVec.ofInt_natCast, Nat.mod_eq_of_lt hx, Nat.mod_eq_of_lt hy]
theorem bv_xor (w : Nat) {a b : Int} (ha : 0 ≤ a) (hb : 0 ≤ b) (ha2 : a < 2 ^ w) (hb2 : b < 2 ^ w) : (BitVec.ofInt w a ^^^ BitVec.ofInt w b).toNat = a.toNat ^^^ b.toNat := by
  obtain ⟨x, rfl⟩ := Int.eq_ofNat_of_zero_le ha
  obtain ⟨y, rfl⟩ := Int.eq_ofNat_of_zero_le hb
  have hx : x < 2 ^ w := by exact_mod_cast ha2
  have hy : y < 2 ^ w := by exact_mod_cast hb2
  simp [BitVec.toNat_xor, BitVec.ofInt_natCast, Nat.mod_eq_of_lt hx, Nat.mod_eq_of_lt hy]
theorem bv_andNot (w : Nat) {a b : Int} (ha : 0 ≤ a) (hb : 0 ≤ b) (ha2 : a < 2 ^ w) (hb2 : b < 2 ^ w) : (BitVec.ofInt w a &&& ~~~BitVec.ofInt w b).toNat = a.toNat &&& (2 ^ w - 1 - b.toNat) := by
  obtain ⟨x, rfl⟩ := Int.eq_ofNat_of_zero_le ha
  obtain ⟨y, rfl⟩ := Int.eq_ofNat_of_zero_le hb
  have hx : x < 2 ^ w := by exact_mod_cast ha2
  have hy : y < 2 ^ w := by exact_mod_cast hb2
  simp [BitVec.toNat_and, BitVec.toNat_not, BitVec.ofInt_natCast, Nat.mod_eq_of_lt hx, Nat.mod_eq_of_lt hy]

theorem wrap_id {k : IntKind} {a : Int} (h0 : 0 ≤ a) (h1 : a < 2 ^ (k.bits - 1)) : k.wrap a = a := by
  cases k <;> simp [IntKind.wrap, IntKind.signed, IntKind.bits] at * <;> omega
theorem wrapU {k : IntKind} {a : Int} (hk : k.signed = false) (h0 : 0 ≤ a) (h1 : a < 2 ^ k.bits) : k.wrap a = a := by
  cases k <;> simp [IntKind.wrap, IntKind.signed, IntKind.bits] at * <;> omega
end
end Go.Abs
