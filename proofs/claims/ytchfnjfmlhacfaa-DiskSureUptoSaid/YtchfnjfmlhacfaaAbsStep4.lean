/- Stepping through a region that draws its order: what each operation looks at and turns is noted, and what clashes must wait. -/
import Derived.Test.YtchfnjfmlhacfaaAbsStep3
import Derived.Test.YtchfnjfmlhacfaaAbsRows2
import Derived.Test.YtchfnjfmlhacfaaAbsLaw
namespace Go.Abs
open Go.RowKit

/-- What an operation looked at and turned; the numbers of the new blocks. -/
structure Ft where
  R : Nat → Prop
  W : Nat → Prop
  n : Nat
  n' : Nat
def Ft.of (x : Step) : Ft := ⟨x.R, x.W, x.e.n, x.e.n'⟩
/-- It looked at nothing and turned nothing. -/
abbrev Ft.no (n n' : Nat) : Ft := ⟨none', none', n, n'⟩

def masksL (ops : Array Oper) : List Nat := masksOf ops.toList []

/-- Those behind (the last first, j of them) that the k-th operation does not wait for do not clash with what looks at R and turns W. -/
inductive CF (ops : Array Oper) (k : Nat) (R W : Nat → Prop) : Nat → List Ft → Prop
  | nil {j} : CF ops k R W j []
  | wait {j y ys} (h : ((masksL ops).getD k 0).testBit j = true) (t : CF ops k R W j ys) : CF ops k R W (j + 1) (y :: ys)
  | free {j y ys} (h1 : ∀ b, R b → ¬ (y.W b ∨ (y.n ≤ b ∧ b < y.n'))) (h2 : ∀ b, y.R b → ¬ W b) (h3 : ∀ b, W b → ¬ (y.W b ∨ (y.n ≤ b ∧ b < y.n'))) (t : CF ops k R W j ys) : CF ops k R W (j + 1) (y :: ys)

theorem CF.pure {ops : Array Oper} {k : Nat} : ∀ (ps : List Ft), CF ops k none' none' ps.length ps
  | [] => .nil
  | _ :: ps => .free (fun _ h => h.elim) (fun _ _ h => h) (fun _ h => h.elim) (CF.pure ps)
/-- A look at block b alone. -/
theorem CF.ld {ops : Array Oper} {k b j : Nat} {y : Ft} {ys : List Ft} (h : ¬ (y.W b ∨ (y.n ≤ b ∧ b < y.n'))) (t : CF ops k (· = b) none' j ys) : CF ops k (· = b) none' (j + 1) (y :: ys) :=
  .free (fun _ e => by subst e; exact h) (fun _ _ h => h) (fun _ h => h.elim) t
theorem CF.st {ops : Array Oper} {k b j : Nat} {y : Ft} {ys : List Ft} (h : ¬ (y.W b ∨ (y.n ≤ b ∧ b < y.n'))) (h2 : ¬ y.R b) (t : CF ops k (· = b) (· = b) j ys) : CF ops k (· = b) (· = b) (j + 1) (y :: ys) :=
  .free (fun _ e => by subst e; exact h) (fun _ k e => by subst e; exact h2 k) (fun _ e => by subst e; exact h) t
/-- A call that looks at all below nb and turns nothing. -/
theorem CF.cl {ops : Array Oper} {k nb j : Nat} {y : Ft} {ys : List Ft} (h : ∀ b, b < nb → ¬ (y.W b ∨ (y.n ≤ b ∧ b < y.n'))) (t : CF ops k (· < nb) none' j ys) : CF ops k (· < nb) none' (j + 1) (y :: ys) :=
  .free (fun b e => h b e) (fun _ _ h => h) (fun _ h => h.elim) t

theorem CF.free_at {ops : Array Oper} {k : Nat} {x : Step} : ∀ (past : List Step), CF ops k x.R x.W past.length (past.map Ft.of) → clashFree ((masksL ops).getD k 0) x past.length past
  | [], _ => trivial
  | y :: ys, h => by
    simp only [List.length_cons, List.map_cons] at h
    cases h with
    | wait h t => exact ⟨.inl h, CF.free_at ys t⟩
    | free h1 h2 h3 t => exact ⟨.inr ⟨h1, h2, h3⟩, CF.free_at ys t⟩

/-- What is told of block b alone; of those below m alone. -/
def AH.only (h : AH) (b : Nat) : AH := ⟨fun x => if x = b then h.info x else none, fun x i => if x = b then h.cell x i else .tuple #[]⟩
def AH.below (h : AH) (m : Nat) : AH := ⟨fun x => if x < m then h.info x else none, fun x i => if x < m then h.cell x i else .tuple #[]⟩
theorem AH.only_le (h : AH) (b : Nat) : (h.only b).le h where
  info := fun x m hx => by
    simp only [AH.only] at hx
    split at hx
    · exact hx
    · cases hx
  cell := fun x i => by
    by_cases e : x = b
    · right; simp [AH.only, e]
    · left; simp [AH.only, e]
theorem AH.below_le (h : AH) (m : Nat) : (h.below m).le h where
  info := fun x m hx => by
    simp only [AH.below] at hx
    split at hx
    · exact hx
    · cases hx
  cell := fun x i => by
    by_cases e : x < m
    · right; simp [AH.below, e]
    · left; simp [AH.below, e]
theorem AH.empty_le (h : AH) : AH.empty.le h := ⟨fun _ _ hx => (by cases hx), fun _ _ => .inl rfl⟩
theorem AH.only_looks {h : AH} {b x : Nat} (hx : (h.only b).info x ≠ none ∨ ∃ k, (h.only b).cell x k ≠ .tuple #[]) : x = b := by
  rcases Nat.decEq x b with e | e
  · rcases hx with h1 | ⟨k, h1⟩ <;> simp [AH.only, e] at h1
  · exact e
theorem AH.below_looks {h : AH} {m x : Nat} (hx : (h.below m).info x ≠ none ∨ ∃ k, (h.below m).cell x k ≠ .tuple #[]) : x < m := by
  rcases Nat.lt_or_ge x m with e | e
  · exact e
  · rcases hx with h1 | ⟨k, h1⟩ <;> simp [AH.below, Nat.not_lt.2 e] at h1
theorem c_only {h : AH} {b i : Nat} {v : Value} (k : h.cell b i = v) : (h.only b).cell b i = v := by simp [AH.only, k]
theorem i_only {h : AH} {b : Nat} {q : Option Meta} (k : h.info b = q) : (h.only b).info b = q := by simp [AH.only, k]
theorem r_only {h : AH} {b o k : Nat} {vs : List Value} (q : rd h b o k = vs) : rd (h.only b) b o k = vs := by
  have : ∀ (k o : Nat), rd (h.only b) b o k = rd h b o k := by
    intro k
    induction k with
    | zero => intro; rfl
    | succ k ih => intro o; simp only [rd, ih]; simp [AH.only]
  rw [this]; exact q
theorem c_below {h : AH} {m b i : Nat} {v : Value} (hb : b < m) (k : h.cell b i = v) : (h.below m).cell b i = v := by simp [AH.below, hb, k]
theorem i_below {h : AH} {m b : Nat} {q : Option Meta} (hb : b < m) (k : h.info b = q) : (h.below m).info b = q := by simp [AH.below, hb, k]
theorem r_below {h : AH} {m b o k : Nat} {vs : List Value} (hb : b < m) (q : rd h b o k = vs) : rd (h.below m) b o k = vs := by
  have : ∀ (k o : Nat), rd (h.below m) b o k = rd h b o k := by
    intro k
    induction k with
    | zero => intro; rfl
    | succ k ih => intro o; simp only [rd, ih]; simp [AH.below, hb]
  rw [this]; exact q
theorem AH.below_ext (h : AH) (m : Nat) : Ext m h (h.below m) := ⟨fun b hb => by simp [AH.below, hb], fun b i hb => by simp [AH.below, hb]⟩

/-- The operations of a region that draws its order, from here on; ps: what those behind looked at and turned. -/
structure RD (P : Program) (T : Nat → Prop) (ops : Array Oper) (ps : List Ft) (os : List Oper) (env : Env) (n : Nat) (h : AH) (Q : Env → Nat → AH → Prop) : Prop where
  out : ∀ past : List Step, past.map Ft.of = ps → ∃ env' n' h' rest, Txt P T ops (masksL ops) past os env n h env' n' h' rest ∧ Q env' n' h'

class Mixed (P : Program) : Prop where
  out : P.follows .mixedOrders = true

section
variable {P : Program} {T W : Nat → Prop} {ops : Array Oper} {os : List Oper} {env : Env} {n n1 : Nat} {h h1 g : AH} {Q : Env → Nat → AH → Prop} {ps : List Ft}
variable {dst : Option Tmp} {ty : TypeId} {pos : String} {after : Array Edge} {gd : Option (Nat × Bool)}

theorem RC.draw {N : Nat} {ops : List Oper} {id : Nat} {Q : Exit → Env → Nat → AH → Prop} [Mixed P] (hst : staticOk ops.toArray (masksL ops.toArray) = true) (hbk : backOk ops.toArray = true) (hd : dstOk N ops = true)
    (k : RD P T ops.toArray [] ops env n h (fun env n h => Q .normal env n h)) : RC P T N (.region id ops.toArray true) env n h Q := by
  obtain ⟨env', n', h', rest, ht, hq⟩ := k.out [] rfl
  exact ⟨_, _, _, _, Ex.draw (masks := masksL ops.toArray) (xs := rest) Mixed.out rfl hst hbk (by simpa using hd) (by simpa using ht), hq⟩
theorem RD.nil (k : Q env n h) : RD P T ops ps [] env n h Q := ⟨fun _ _ => ⟨_, _, _, _, .nil, k⟩⟩
theorem RD.op {o : Oper} {v : Value} {d : Dl} (R W : Nat → Prop) (hw : wants ops o env = some true) (ho : OpEv P T o env n g v n1 d) (hg : g.le h) (hlook : ∀ b, (g.info b ≠ none ∨ ∃ k, g.cell b k ≠ .tuple #[]) → R b)
    (hold : ∀ b, R b → b < n) (hturn : ∀ b, d.touches b → W b ∨ n ≤ b) (hc : CF ops ps.length R W ps.length ps) (hh : h1.le (h.app d)) (k : RD P T ops (⟨R, W, n, n1⟩ :: ps) os (env.put o.dst v) n1 h1 Q) : RD P T ops ps (o :: os) env n h Q := by
  refine ⟨fun past hp => ?_⟩
  subst hp
  let x : Step := { e := ⟨o, n, n1, v, d⟩, env := env, g := g, R := R, W := W, yes := true }
  obtain ⟨env', n', h', rest, ht, hq⟩ := k.out (x :: past) rfl
  have hc' : CF ops past.length x.R x.W past.length (past.map Ft.of) := by simpa using hc
  refine ⟨env', n', h', x :: rest, .cons x rfl rfl rfl hg ?_ (CF.free_at past hc') hh ht, hq⟩
  exact { le := ho.le, want := hw, run := fun _ => ho, skip := (fun h => by cases h), look := hlook, turn := fun b hb => ⟨hturn b hb, (ho.within b hb).2⟩, old := hold, within := ho.within }
theorem RD.skip {o : Oper} (hw : wants ops o env = some false) (k : RD P T ops (.no n n :: ps) os (env.put o.dst skipV) n h Q) : RD P T ops ps (o :: os) env n h Q := by
  refine ⟨fun past hp => ?_⟩
  subst hp
  let x : Step := { e := ⟨o, n, n, skipV, .nil⟩, env := env, g := .empty, R := none', W := none', yes := false }
  obtain ⟨env', n', h', rest, ht, hq⟩ := k.out (x :: past) rfl
  have hc' : CF ops past.length x.R x.W past.length (past.map Ft.of) := by simpa using CF.pure (past.map Ft.of)
  refine ⟨env', n', h', x :: rest, .cons x rfl rfl rfl (AH.empty_le _) ?_ (CF.free_at past hc') (by show h.le (h.app .nil); rw [AH.app_nil]; exact .refl _) ht, hq⟩
  exact { le := Nat.le_refl _, want := hw, run := (fun h => by cases h), skip := fun _ => ⟨rfl, rfl, rfl⟩, look := (fun b hb => by rcases hb with h1 | ⟨k, h1⟩ <;> exact h1 rfl), turn := fun b hb => (Dl.touches_nil hb).elim, old := fun _ h => h.elim, within := .nil _ _ _ }
theorem RD.omit {o : Oper} {d : Tmp} (hw : wants ops o env = some false) (hd : o.dst = some d) (k : RD P T ops (.no n n :: ps) os ((d, skipV) :: env) n h Q) : RD P T ops ps (o :: os) env n h Q :=
  RD.skip hw (by rw [hd]; exact k)
theorem RD.omit0 {o : Oper} (hw : wants ops o env = some false) (hd : o.dst = none) (k : RD P T ops (.no n n :: ps) os env n h Q) : RD P T ops ps (o :: os) env n h Q :=
  RD.skip hw (by rw [hd]; exact k)
theorem empty_looks {R : Nat → Prop} (b : Nat) (hb : AH.empty.info b ≠ none ∨ ∃ k, AH.empty.cell b k ≠ .tuple #[]) : R b := by rcases hb with h1 | ⟨k, h1⟩ <;> exact (h1 rfl).elim
/-- What looks at no memory. -/
theorem RD.calc {o : Oper} {v : Value} (hw : wants ops o env = some true) (ho : OpEv P T o env n .empty v n .nil) (k : RD P T ops (.no n n :: ps) os (env.put o.dst v) n h Q) : RD P T ops ps (o :: os) env n h Q :=
  RD.op none' none' hw ho (AH.empty_le _) empty_looks (fun _ h => h.elim) (fun _ hb => (Dl.touches_nil hb).elim) (CF.pure ps) (by rw [AH.app_nil]; exact .refl _) k
theorem RD.put {o : Oper} {d : Tmp} {v : Value} (hw : wants ops o env = some true) (hd : o.dst = some d) (ho : OpEv P T o env n .empty v n .nil) (k : RD P T ops (.no n n :: ps) os ((d, v) :: env) n h Q) : RD P T ops ps (o :: os) env n h Q :=
  RD.calc hw ho (by rw [hd]; exact k)
theorem RD.decT {o : Oper} {d : Tmp} {p : Prop} [Decidable p] (hw : wants ops o env = some true) (hd : o.dst = some d) (ho : OpEv P T o env n .empty (.bool (decide p)) n .nil) (hp : p) (k : RD P T ops (.no n n :: ps) os ((d, .bool true) :: env) n h Q) : RD P T ops ps (o :: os) env n h Q :=
  RD.calc hw ho (by rw [decide_eq_true hp, hd]; exact k)
theorem RD.decF {o : Oper} {d : Tmp} {p : Prop} [Decidable p] (hw : wants ops o env = some true) (hd : o.dst = some d) (ho : OpEv P T o env n .empty (.bool (decide p)) n .nil) (hp : ¬ p) (k : RD P T ops (.no n n :: ps) os ((d, .bool false) :: env) n h Q) : RD P T ops ps (o :: os) env n h Q :=
  RD.calc hw ho (by rw [decide_eq_false hp, hd]; exact k)
theorem RD.dec {o : Oper} {d : Tmp} {p : Prop} [Decidable p] (hw : wants ops o env = some true) (hd : o.dst = some d) (ho : OpEv P T o env n .empty (.bool (decide p)) n .nil) (kt : p → RD P T ops (.no n n :: ps) os ((d, .bool true) :: env) n h Q)
    (kf : ¬ p → RD P T ops (.no n n :: ps) os ((d, .bool false) :: env) n h Q) : RD P T ops ps (o :: os) env n h Q := by
  by_cases hp : p
  · exact RD.decT hw hd ho hp (kt hp)
  · exact RD.decF hw hd ho hp (kf hp)
/-- What looks at block b alone. -/
theorem RD.look {o : Oper} {d : Tmp} {v : Value} {b : Nat} (hw : wants ops o env = some true) (hd : o.dst = some d) (ho : OpEv P T o env n (h.only b) v n .nil) (hb : b < n) (hc : CF ops ps.length (· = b) none' ps.length ps)
    (k : RD P T ops (⟨(· = b), none', n, n⟩ :: ps) os ((d, v) :: env) n h Q) : RD P T ops ps (o :: os) env n h Q :=
  RD.op (· = b) none' hw ho (AH.only_le _ _) (fun _ hx => AH.only_looks hx) (fun _ e => by subst e; exact hb) (fun _ hb => (Dl.touches_nil hb).elim) hc (by rw [AH.app_nil]; exact .refl _) (by rw [hd]; exact k)
/-- What turns block b. -/
theorem RD.turn0 {o : Oper} {v : Value} {b o' : Nat} {vs : List Value} (hw : wants ops o env = some true) (hd : o.dst = none) (ho : OpEv P T o env n (h.only b) v n (.sets b o' vs)) (hb : b < n) (hc : CF ops ps.length (· = b) (· = b) ps.length ps)
    (k : RD P T ops (⟨(· = b), (· = b), n, n⟩ :: ps) os env n (h.app (.sets b o' vs)) Q) : RD P T ops ps (o :: os) env n h Q :=
  RD.op (· = b) (· = b) hw ho (AH.only_le _ _) (fun _ hx => AH.only_looks hx) (fun _ e => by subst e; exact hb) (fun x hx => by
    exact .inl (sets_touches hx)) hc (.refl _) (by rw [hd]; exact k)
/-- What makes a new block and looks at no memory. -/
theorem RD.make {o : Oper} {d : Tmp} {v : Value} {m : Meta} {cs : List Value} (hw : wants ops o env = some true) (hd : o.dst = some d) (ho : OpEv P T o env n .empty v (n + 1) (.new n m cs))
    (k : RD P T ops (.no n (n + 1) :: ps) os ((d, v) :: env) (n + 1) (h.app (.new n m cs)) Q) : RD P T ops ps (o :: os) env n h Q :=
  RD.op none' none' hw ho (AH.empty_le _) empty_looks (fun _ h => h.elim) (fun x hx => by
    right
    rcases hx with h1 | ⟨i, h1⟩ <;> (simp only [Dl.new] at h1; split at h1) <;> first | omega | exact absurd rfl h1) (CF.pure ps) (.refl _) (by rw [hd]; exact k)
/-- A call that turns nothing, of what lies below nb. -/
theorem RD.call1 {d : Tmp} {f : FuncId} {xs : List Operand} {vs : List Value} {ts : Array TypeId} {r : Value} (nb : Nat) (hw : wants ops ⟨some d, .call { callee := .value (.func f), args := xs.toArray, argTypes := ts }, ty, pos, after, gd⟩ env = some true)
    (hx : Opds env xs vs) (hev : Ev P none' f vs.toArray n (h.below nb) r n1 h1) (hnb : nb ≤ n) (hc : CF ops ps.length (· < nb) none' ps.length ps) (k : n ≤ n1 → RD P T ops (⟨(· < nb), none', n, n1⟩ :: ps) os ((d, r) :: env) n1 h1 Q) :
    RD P T ops ps (⟨some d, .call { callee := .value (.func f), args := xs.toArray, argTypes := ts }, ty, pos, after, gd⟩ :: os) env n h Q := by
  rw [← hx.mapA] at hev
  obtain ⟨dl, hle, hwi, ho⟩ := op_call (T := T) (ty := ty) (dst := some d) (pos := pos) (after := after) (gd := gd) (ts := ts) hev (fun _ h => h.elim)
  refine RD.op (· < nb) none' hw ho (AH.below_le _ _) (fun _ hx => AH.below_looks hx) (fun _ e => Nat.lt_of_lt_of_le e hnb) (fun b hb => ?_) hc (hle.trans ((AH.below_le h nb).app dl)) (k ho.le)
  rcases (hwi b hb).1 with h1 | h1
  · exact h1.elim
  · exact .inr h1
/-- The same, of a contract that tells less. -/
theorem RD.call {d : Tmp} {f : FuncId} {xs : List Operand} {vs : List Value} {ts : Array TypeId} {QC : Value → Nat → AH → Prop} (nb : Nat) (hw : wants ops ⟨some d, .call { callee := .value (.func f), args := xs.toArray, argTypes := ts }, ty, pos, after, gd⟩ env = some true)
    (hx : Opds env xs vs) (hev : RF P none' f vs.toArray n (h.below nb) QC) (hnb : nb ≤ n) (hc : CF ops ps.length (· < nb) none' ps.length ps) (k : ∀ r n1 h1, n ≤ n1 → QC r n1 h1 → RD P T ops (⟨(· < nb), none', n, n1⟩ :: ps) os ((d, r) :: env) n1 h1 Q) :
    RD P T ops ps (⟨some d, .call { callee := .value (.func f), args := xs.toArray, argTypes := ts }, ty, pos, after, gd⟩ :: os) env n h Q := by
  obtain ⟨r, n1, h1, hev, hq⟩ := hev
  exact RD.call1 nb hw hx hev hnb hc fun hle => k r n1 h1 hle hq
end
end Go.Abs
