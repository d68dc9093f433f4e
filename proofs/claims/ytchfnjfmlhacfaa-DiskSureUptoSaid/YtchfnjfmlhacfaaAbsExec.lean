/- Judgements over the abstract heap: of an operation, of code, of a function; and their rules. -/
import Derived.Test.YtchfnjfmlhacfaaAbsObj
import Derived.RangeFuncIn
namespace Go.Abs
open Go.RowKit

/-- No fence, in a frame of round r, or in a whole function's. -/
def FW (r : Option Nat) : Fence := { Fence.wide with round := r }
theorem FW.fn (r : Option Nat) (f : FuncId) : (FW r).fn f := trivial
theorem FW.room (r : Option Nat) (m : Nat) : (FW r).room m := fun d h => by cases h
theorem FW.depth (r : Option Nat) {q : Prop} (h : (FW r).depth.isSome = true) : q := by cases h
theorem semAt_run {P : Program} {o : Oper} {ev : Operand → Value} {w w' : World} {nx : Next} (r : Option Nat) (h : (execOp ev o).run P w = .ok nx w') (hd : ∀ d, nx ≠ .defer d) : (o.semAt r ev).run P w = .ok nx w' := by
  cases hc : o.op with
  | defer c =>
    exfalso
    simp only [execOp, hc, Sem.run_bind] at h
    cases hr : (resolve ev c o.type).run P w with
    | ok d w1 =>
      rw [hr] at h
      simp only [Result.andThen_ok, Sem.run_pure] at h
      injection h with h1 h2
      exact hd _ h1.symm
    | halt x w1 => rw [hr] at h; cases h
  | _ => rw [Oper.semAt_eq r ev o (fun c e => by rw [hc] at e; cases e)]; exact h
section
variable {P : Program} {o : Oper} {a : Act} {w w' : World} {next : Act → World → Prop} {Q : Exit → Act → World → Prop} {r : Option Nat}
theorem wpA_value {v : Value} (h : (execOp a.eval o).run P w = .ok (.value v) w') (k : next (a.put o.dst v) w') : o.wpIn (FW r) 0 P a w next Q :=
  ⟨fun f _ => FW.fn r f, by rw [show (FW r).round = r from rfl, semAt_run r h (fun d e => by cases e)]; exact k⟩
theorem wpA_skip (h : (execOp a.eval o).run P w = .ok .skip w') (k : next (a.put o.dst undef) w') : o.wpIn (FW r) 0 P a w next Q :=
  ⟨fun f _ => FW.fn r f, by rw [show (FW r).round = r from rfl, semAt_run r h (fun d e => by cases e)]; exact k⟩
theorem wpA_enter {f : FuncId} {args : Array Value} (h : (execOp a.eval o).run P w = .ok (.enter f args) w') (k : CallsIn (FW none) 0 P f args w' fun
      | .returned v, w'' => next (a.put o.dst v) w''
      | .panicked chain, w'' => Q (.panic chain) a w''
      | .outgrown, _ => LetsOut Q) : o.wpIn (FW r) 0 P a w next Q :=
  ⟨fun f _ => FW.fn r f, by rw [show (FW r).round = r from rfl, semAt_run r h (fun d e => by cases e)]; exact ⟨FW.depth r, k⟩⟩
end


/-- No address stands in it. -/
def flat : Nat → Value → Bool
  | _, .bool _ | _, .int .. | _, .string _ | _, .pointer none | _, .slice none 0 0 | _, .map none | _, .nilFunc | _, .nilIface => true
  | d + 1, .agg xs => xs.all (flat d)
  | d + 1, .iface _ x => flat d x
  | d + 1, .tuple xs => !xs.isEmpty && xs.all (flat d)
  | _, _ => false

theorem flat_rel (ρ : Ren) : ∀ (d : Nat) (v : Value), flat d v = true → VRel ρ v v := by
  intro d
  induction d with
  | zero =>
    intro v h
    unfold flat at h
    split at h <;> first | contradiction | (constructor; done) | (exfalso; simp at *; done)
  | succ d ih =>
    intro v h
    unfold flat at h
    split at h
    all_goals first
      | contradiction
      | (constructor; done)
      | skip
    · rename_i d1 xs hd
      cases hd
      refine .agg rfl fun i => ?_
      by_cases hi : i < xs.size
      · have e : xs.getD i (.tuple #[]) = xs[i] := by simp [Array.getD, hi]
        rw [e]
        exact ih _ (by simpa using (Array.all_eq_true.1 h) i hi)
      · have e : xs.getD i (.tuple #[]) = .tuple #[] := by simp [Array.getD, hi]
        rw [e]; exact .unk _
    · rename_i hd
      cases hd
      exact .iface (ih _ h)
    · rename_i d1 xs hd
      cases hd
      simp only [Bool.and_eq_true] at h
      refine .tuple rfl fun i => ?_
      by_cases hi : i < xs.size
      · have e : xs.getD i (.tuple #[]) = xs[i] := by simp [Array.getD, hi]
        rw [e]
        exact ih _ (by simpa using (Array.all_eq_true.1 h.2) i hi)
      · have e : xs.getD i (.tuple #[]) = .tuple #[] := by simp [Array.getD, hi]
        rw [e]; exact .unk _

/-- The value of an operand. -/
def ev (env : Env) : Operand → Value
  | .tmp t => env.get t
  | .const v => if flat 8 v then v else .tuple #[]
  | .func f => .func (.func f) #[] #[]
  | .global _ => .tuple #[]

theorem EnvRel.ev {ρ : Ren} {N : Nat} {env : Env} {a : Act} (h : EnvRel ρ N env a.tmps) (x : Operand) : VRel ρ (ev env x) (a.eval x) := by
  cases x with
  | tmp t => exact h.at_ t
  | const v =>
    unfold Abs.ev
    by_cases hf : flat 8 v = true
    · simp only [hf, if_true]; exact flat_rel ρ 8 v hf
    · simp only [hf]; exact .unk _
  | global g => exact .unk _
  | func f => exact .func rfl fun i => by simp; exact .unk _

theorem EnvRel.put {ρ : Ren} {N : Nat} {env : Env} {a : Act} (h : EnvRel ρ N env a.tmps) (d : Option Tmp) (hd : ∀ t, d = some t → t < N) {v c : Value} (hv : VRel ρ v c) :
    EnvRel ρ N (env.put d v) (a.put d c).tmps := by
  cases d with
  | none => exact h
  | some t =>
    have ht := hd t rfl
    refine ⟨by simp [Act.put, h.size], fun s => ?_⟩
    simp only [Act.put, Env.put, Env.get]
    by_cases e : t = s
    · subst e
      rw [if_pos (by simp)]
      have : t < a.tmps.size := by rw [h.size]; exact ht
      simp [Array.getD, this]; exact hv
    · rw [if_neg (by simpa using e)]
      have := h.at_ s
      simp only [Array.getD_eq_getD_getElem?] at this ⊢
      rw [Array.getElem?_setIfInBounds_ne e]; exact this

def Env.le (e f : Env) : Prop := ∀ t, e.get t = .tuple #[] ∨ f.get t = e.get t
theorem EnvRel.anti {ρ : Ren} {N : Nat} {e f : Env} {tmps : Array Value} (hl : e.le f) (h : EnvRel ρ N f tmps) : EnvRel ρ N e tmps :=
  ⟨h.size, fun t => by
    rcases hl t with h1 | h1
    · rw [h1]; exact .unk _
    · rw [← h1]; exact h.at_ t⟩
theorem Env.le.refl (e : Env) : e.le e := fun _ => .inr rfl

def none' : Nat → Prop := fun _ => False

def Fresh (n n' : Nat) (ρ : Ren) : Prop := ∀ b, n ≤ b → b < n' → ρ b = none
structure Grow (n n' : Nat) (ρ ρ' : Ren) : Prop where
  le : ρ.le ρ'
  out : ∀ b, ¬ (n ≤ b ∧ b < n') → ρ' b = ρ b

theorem Grow.refl (n n' : Nat) (ρ : Ren) : Grow n n' ρ ρ := ⟨.refl _, fun _ _ => rfl⟩
theorem Grow.trans {a b c : Nat} {ρ ρ' ρ'' : Ren} (hab : a ≤ b) (hbc : b ≤ c) (h : Grow a b ρ ρ') (k : Grow b c ρ' ρ'') : Grow a c ρ ρ'' :=
  ⟨h.le.trans k.le, fun x hx => by rw [k.out x (by omega), h.out x (by omega)]⟩
theorem Grow.one {n : Nat} {ρ : Ren} (hn : ρ n = none) (L : Loc) : Grow n (n + 1) ρ (ρ.set n L) :=
  ⟨Ren.le_set hn L, fun b hb => Ren.set_ne ρ L (by omega)⟩
theorem Fresh.left {a b c : Nat} {ρ : Ren} (h : Fresh a c ρ) (hbc : b ≤ c) : Fresh a b ρ := fun x h1 h2 => h x h1 (by omega)
theorem Fresh.right {a b c : Nat} {ρ ρ' : Ren} (h : Fresh a c ρ) (hab : a ≤ b) (g : Grow a b ρ ρ') : Fresh b c ρ' :=
  fun x h1 h2 => by rw [g.out x (by omega)]; exact h x (by omega) h2

/-- Block b is turned by d. -/
def Dl.touches (d : Dl) (b : Nat) : Prop := d.info b ≠ none ∨ ∃ i, d.cell b i ≠ none
theorem Dl.touches_comp {d e : Dl} {b : Nat} (h : (d.comp e).touches b) : d.touches b ∨ e.touches b := by
  rcases h with h | ⟨i, h⟩
  · cases he : e.info b with
    | none => simp only [Dl.comp, he, Option.none_or] at h; exact .inl (.inl h)
    | some x => exact .inr (.inl (by rw [he]; simp))
  · cases he : e.cell b i with
    | none => simp only [Dl.comp, he, Option.none_or] at h; exact .inl (.inr ⟨i, h⟩)
    | some x => exact .inr (.inr ⟨i, by rw [he]; simp⟩)
theorem Dl.touches_nil {b : Nat} (h : Dl.nil.touches b) : False := by
  rcases h with h | ⟨i, h⟩ <;> exact h rfl

theorem sets_touches {b o x : Nat} {vs : List Value} (h : (Dl.sets b o vs).touches x) : x = b := by
  unfold Dl.sets at h
  rcases h with h | ⟨i, h⟩
  · exact absurd rfl h
  · simp only at h
    split at h
    · rename_i h1; exact h1.1
    · exact absurd rfl h
/-- What is turned is allowed, or new. -/
def Within (T : Nat → Prop) (n n' : Nat) (d : Dl) : Prop := ∀ b, d.touches b → (T b ∨ n ≤ b) ∧ b < n'
theorem Within.nil (T : Nat → Prop) (n n' : Nat) : Within T n n' .nil := fun _ h => (Dl.touches_nil h).elim

/-- An operation, in the state (env, n, g), gives the value v and the update d. -/
structure OpEv (P : Program) (T : Nat → Prop) (o : Oper) (env : Env) (n : Nat) (g : AH) (v : Value) (n' : Nat) (d : Dl) : Prop where
  le : n ≤ n'
  within : Within T n n' d
  run : ∀ (r : Option Nat) (w0 : Base) (ρ : Ren) (w : World) (H : AH) (a : Act) (next : Act → World → Prop) (Q : Exit → Act → World → Prop),
    g.le H → Fresh n n' ρ → Sim w0 ρ H w → (∀ x, x ∈ o.op.operands → VRel ρ (ev env x) (a.eval x)) →
    (∀ ρ' c w', Grow n n' ρ ρ' → VRel ρ' v c → Sim w0 ρ' (H.app d) w' → next (a.put o.dst c) w') → o.wpIn (FW r) 0 P a w next Q

/-- What it yielded, as the guards see it. -/
def yields (ops : Array Oper) (env : Env) (j : Nat) : Option (Option Bool) :=
  match ((ops[j]?).bind (·.dst)).map env.get with
  | some (.bool b) => some (some b)
  | some (.chan (some 0)) => some none
  | _ => none
/-- Is it to be carried out? none: it isn't known. -/
def wants (ops : Array Oper) (o : Oper) (env : Env) : Option Bool :=
  match o.guard with
  | none => some true
  | some (j, want) => (yields ops env j).map (· == some want)

theorem wants_spec {ρ : Ren} {ops : Array Oper} {o : Oper} {env : Env} {a : Act} {b : Bool}
    (h : ∀ t, (∃ j w, o.guard = some (j, w) ∧ (ops[j]?).bind (·.dst) = some t) → VRel ρ (env.get t) (a.tmps.getD t (.tuple #[])))
    (hw : wants ops o env = some b) : Region.wanted o (yielded ops a.tmps) = b := by
  unfold wants at hw
  unfold Region.wanted
  cases hg : o.guard with
  | none => rw [hg] at hw; simpa using hw
  | some jw =>
    obtain ⟨j, want⟩ := jw
    rw [hg] at hw
    simp only at hw ⊢
    unfold yields at hw
    unfold yielded
    cases hd : (ops[j]?).bind (·.dst) with
    | none => rw [hd] at hw; simp at hw
    | some t =>
      rw [hd] at hw
      have hr := h t ⟨j, want, hg, hd⟩
      simp only [Option.map_some, Option.bind_some] at hw ⊢
      cases hv : env.get t with
      | bool x =>
        rw [hv] at hw hr
        simp only [Option.map_some, Option.some.injEq] at hw
        generalize hc : a.tmps.getD t (.tuple #[]) = c at hr
        cases hr
        have : a.tmps[t]? = some (.bool x) := by
          rw [Array.getD_eq_getD_getElem?] at hc
          cases hq : a.tmps[t]? with
          | none => rw [hq] at hc; simp at hc
          | some y => rw [hq] at hc; simp at hc; rw [hc]
        simp only [this]
        cases x <;> cases want <;> cases b <;> simp_all
      | chan r =>
        rw [hv] at hw hr
        generalize hc : a.tmps.getD t (.tuple #[]) = c at hr
        cases hr
        simp only [Option.map_some, Option.some.injEq] at hw
        have : ∀ b, a.tmps[t]? ≠ some (.bool b) := fun b q => by
          rw [Array.getD_eq_getD_getElem?, q] at hc; simp at hc
        have hn : (match a.tmps[t]? with | some (.bool b) => some b | _ => none) = (none : Option Bool) := by
          cases hq : a.tmps[t]? with
          | none => rfl
          | some y => cases y <;> first | rfl | exact absurd hq (this _)
        simp only [hn]
        rw [← hw]
      | _ => rw [hv] at hw; simp at hw

/-- The operations one behind the other, in the text's order. -/
inductive Seq (P : Program) (T : Nat → Prop) (ops : Array Oper) : List Oper → Env → Nat → AH → Env → Nat → AH → Dl → Prop
  | nil {env n h} : Seq P T ops [] env n h env n h .nil
  | op {o os env n h v n1 d h1 env' n' h' e} (hw : wants ops o env = some true) (ho : OpEv P T o env n h v n1 d) (hh : h1.le (h.app d)) (hr : Seq P T ops os (env.put o.dst v) n1 h1 env' n' h' e) :
      Seq P T ops (o :: os) env n h env' n' h' (d.comp e)
  | skip {o os env n h env' n' h' e} (hw : wants ops o env = some false) (hr : Seq P T ops os (env.put o.dst skipV) n h env' n' h' e) :
      Seq P T ops (o :: os) env n h env' n' h' e

theorem Seq.app {P : Program} {T : Nat → Prop} {ops : Array Oper} {os : List Oper} {env n h env' n' h' e} (s : Seq P T ops os env n h env' n' h' e) : h'.le (h.app e) := by
  induction s with
  | nil => exact .refl _
  | @op _ _ _ _ _ _ _ _ _ _ _ _ e _ _ hh _ ih => rw [AH.app_comp]; exact ih.trans (hh.app e)
  | skip _ _ ih => exact ih

theorem Seq.le {P : Program} {T : Nat → Prop} {ops : Array Oper} {os : List Oper} {env n h env' n' h' e} (s : Seq P T ops os env n h env' n' h' e) : n ≤ n' := by
  induction s with
  | nil => exact Nat.le_refl _
  | op _ ho _ _ ih => exact Nat.le_trans ho.le ih
  | skip _ _ ih => exact ih

theorem Seq.within {P : Program} {T : Nat → Prop} {ops : Array Oper} {os : List Oper} {env n h env' n' h' e} (s : Seq P T ops os env n h env' n' h' e) : Within T n n' e := by
  induction s with
  | nil => exact .nil _ _ _
  | op _ ho _ hr ih =>
    intro b hb
    have h1 := ho.le; have h2 := hr.le
    rcases Dl.touches_comp hb with h | h
    · have k := ho.within b h
      exact ⟨k.1, by omega⟩
    · have k := ih b h
      exact ⟨k.1.imp id (by omega), k.2⟩
  | skip _ _ ih => exact ih

/-- Every temporary that is written is one of the frame's. -/
def dstOk (N : Nat) (os : List Oper) : Bool := os.all fun o => match o.dst with | some d => decide (d < N) | none => true

theorem Seq.sound {P : Program} {T : Nat → Prop} {ops : Array Oper} {N : Nat} {os : List Oper} {env n h env' n' h' e} (s : Seq P T ops os env n h env' n' h' e) :
    ∀ (is : List Nat), is.map (ops[·]?) = os.map some → dstOk N os = true →
    ∀ (rd : Option Nat) (w0 : Base) (ρ : Ren) (w : World) (H : AH) (a : Act) (Q : Exit → Act → World → Prop), h.le H → Fresh n n' ρ → Sim w0 ρ H w → EnvRel ρ N env a.tmps →
      (∀ ρ' a' w', Grow n n' ρ ρ' → EnvRel ρ' N env' a'.tmps → a'.defers = a.defers → Sim w0 ρ' (H.app e) w' → Q .normal a' w') → wpOpsIn (FW rd) 0 P ops Q is a w := by
  induction s with
  | nil =>
    intro is his _ rd w0 ρ w H a Q hl hf hs he K
    cases is with
    | nil => exact K ρ a w (.refl _ _ _) he rfl hs
    | cons i r => simp at his
  | @op o os env n h v n1 d h1 env' n' h' e hw ho hh hr ih =>
    intro is his hdst rd w0 ρ w H a Q hl hf hs he K
    cases is with
    | nil => simp at his
    | cons i r =>
      simp only [List.map_cons, List.cons.injEq] at his
      obtain ⟨hi, his⟩ := his
      simp only [dstOk, List.all_cons, Bool.and_eq_true] at hdst
      have hd : ∀ t, o.dst = some t → t < N := by
        intro t ht
        have := hdst.1
        rw [ht] at this; simpa using this
      have hwant := wants_spec (ρ := ρ) (a := a) (fun t _ => he.at_ t) hw
      simp only [wpOpsIn, hi, hwant, if_true]
      have hn1 := ho.le
      have hn2 := hr.le
      refine ho.run rd w0 ρ w H a _ Q hl (hf.left hn2) hs (fun x _ => he.ev x) ?_
      intro ρ1 c w1 hg hv hs1
      refine ih r his (by simpa [dstOk] using hdst.2) rd w0 ρ1 w1 (H.app d) (a.put o.dst c) Q (hh.trans (hl.app d)) (hf.right hn1 hg) hs1 ((he.mono hg.le).put o.dst hd hv) ?_
      intro ρ2 a2 w2 hg2 he2 hd2 hs2
      rw [← AH.app_comp] at hs2
      exact K ρ2 a2 w2 (hg.trans hn1 hn2 hg2) he2 (by rw [hd2]; cases o.dst <;> rfl) hs2
  | @skip o os env n h env' n' h' e hw hr ih =>
    intro is his hdst rd w0 ρ w H a Q hl hf hs he K
    cases is with
    | nil => simp at his
    | cons i r =>
      simp only [List.map_cons, List.cons.injEq] at his
      obtain ⟨hi, his⟩ := his
      simp only [dstOk, List.all_cons, Bool.and_eq_true] at hdst
      have hd : ∀ t, o.dst = some t → t < N := by
        intro t ht
        have := hdst.1
        rw [ht] at this; simpa using this
      have hwant := wants_spec (ρ := ρ) (a := a) (fun t _ => he.at_ t) hw
      simp only [wpOpsIn, hi, hwant, Bool.false_eq_true, if_false]
      refine ⟨fun f _ => FW.fn rd f, ?_⟩
      refine ih r his (by simpa [dstOk] using hdst.2) rd w0 ρ w H (a.put o.dst undef) Q hl hf hs (he.put o.dst hd .skip) ?_
      intro ρ2 a2 w2 hg2 he2 hd2 hs2
      exact K ρ2 a2 w2 hg2 he2 (by rw [hd2]; cases o.dst <;> rfl) hs2

/-- The deferred calls that blocks are marked by. -/
def markOf (ms : List Nat) : List Deferred := ms.map fun r => { target := .collected r, args := #[] }
/-- The round's frame is a kept loop's. -/
def RdOk (w0 : Base) (rd : Option Nat) : Prop := ∀ l, rd = some l → l ∈ w0.rounds
theorem RdOk.mono {w0 : Base} {rd : Option Nat} (h : RdOk w0 rd) (ms : List Nat) : RdOk (w0.keep ms) rd := h
theorem RdOk.none {w0 : Base} : RdOk w0 none := fun _ h => by cases h
/-- What is asked of the end. -/
def ExPost (N : Nat) (w0 : Base) (ρ : Ren) (n n' : Nat) (env' : Env) (H' : AH) (dfs : List Deferred) (a : Act) (w' : World) : Prop :=
  ∃ ms, a.defers = markOf ms ++ dfs ∧ ∃ ρ', Grow n n' ρ ρ' ∧ EnvRel ρ' N env' a.tmps ∧ Sim (w0.keep ms) ρ' H' w'
theorem ExPost.nil {N : Nat} {w0 : Base} {ρ ρ' : Ren} {n n' : Nat} {env' : Env} {H' : AH} {dfs : List Deferred} {a : Act} {w' : World} (hd : a.defers = dfs) (hg : Grow n n' ρ ρ') (he : EnvRel ρ' N env' a.tmps) (hs : Sim w0 ρ' H' w') :
    ExPost N w0 ρ n n' env' H' dfs a w' := ⟨[], hd, ρ', hg, he, hs⟩
theorem markOf_append (ms ms' : List Nat) : markOf (ms' ++ ms) = markOf ms' ++ markOf ms := by simp [markOf]
theorem ExPost.trans {N : Nat} {w0 : Base} {ρ ρ' : Ren} {n n1 n' : Nat} {env' : Env} {H' : AH} {dfs : List Deferred} {ms : List Nat} {a : Act} {w' : World} (h1 : n ≤ n1) (h2 : n1 ≤ n') (hg : Grow n n1 ρ ρ')
    (k : ExPost N (w0.keep ms) ρ' n1 n' env' H' (markOf ms ++ dfs) a w') : ExPost N w0 ρ n n' env' H' dfs a w' := by
  obtain ⟨ms', hd, ρ2, hg2, he, hs⟩ := k
  exact ⟨ms' ++ ms, by rw [hd, markOf_append, List.append_assoc], ρ2, hg.trans h1 h2 hg2, he, by rw [← Base.keep_keep]; exact hs⟩
theorem ExPost.anti {N : Nat} {w0 : Base} {ρ : Ren} {n n' : Nat} {env' env1 : Env} {H' : AH} {dfs : List Deferred} {a : Act} {w' : World} (h : env1.le env') (k : ExPost N w0 ρ n n' env' H' dfs a w') : ExPost N w0 ρ n n' env1 H' dfs a w' := by
  obtain ⟨ms, hd, ρ2, hg2, he, hs⟩ := k
  exact ⟨ms, hd, ρ2, hg2, he.anti h, hs⟩

/-- Code c, from (env, n, h), is left by e in the state (env', n', h'). -/
def Ex (P : Program) (T : Nat → Prop) (N : Nat) (c : Code) (env : Env) (n : Nat) (h : AH) (e : Exit) (env' : Env) (n' : Nat) (h' : AH) : Prop :=
  ∃ d : Dl, h'.le (h.app d) ∧ n ≤ n' ∧ Within T n n' d ∧
    ∀ (rd : Option Nat) (w0 : Base) (ρ : Ren) (w : World) (H : AH) (tmps : Array Value) (dfs : List Deferred), RdOk w0 rd → h.le H → Fresh n n' ρ → Sim w0 ρ H w → EnvRel ρ N env tmps →
      c.wpIn (FW rd) 0 P (fun e2 a w' => e2 = e ∧ ExPost N w0 ρ n n' env' (H.app d) dfs a w') ⟨tmps, dfs⟩ w

section
variable {P : Program} {T : Nat → Prop} {N : Nat}

theorem Ex.region {ops : Array Oper} {id : Nat} {env n h env' n' h' d} (s : Seq P T ops ops.toList env n h env' n' h' d) (hd : dstOk N ops.toList = true) :
    Ex P T N (.region id ops false) env n h .normal env' n' h' :=
  ⟨d, s.app, s.le, s.within, fun rd w0 ρ w H tmps dfs _ hl hf hs he => wpIn_region (s.sound (List.range ops.size) (by
      apply List.ext_getElem?; intro i
      by_cases hi : i < ops.size
      · simp [hi]
      · simp [hi]) hd rd w0 ρ w H ⟨tmps, dfs⟩ _ hl hf hs he
    (fun ρ' a' w' hg he' hdf hs' => ⟨rfl, .nil hdf hg he' hs'⟩))⟩

theorem Ex.skip {env n h} : Ex P T N .skip env n h .normal env n h :=
  ⟨.nil, .refl _, Nat.le_refl _, .nil _ _ _, fun _ _ ρ _ _ _ _ _ _ _ hs he => wpIn_skip ⟨rfl, .nil rfl (.refl _ _ _) he hs⟩⟩
theorem Ex.ret {env n h} : Ex P T N .ret env n h .ret env n h :=
  ⟨.nil, .refl _, Nat.le_refl _, .nil _ _ _, fun _ _ ρ _ _ _ _ _ _ _ hs he => wpIn_ret ⟨rfl, .nil rfl (.refl _ _ _) he hs⟩⟩
theorem Ex.exit {id env n h} : Ex P T N (.exit id) env n h (.exit id) env n h :=
  ⟨.nil, .refl _, Nat.le_refl _, .nil _ _ _, fun _ _ ρ _ _ _ _ _ _ _ hs he => wpIn_exit ⟨rfl, .nil rfl (.refl _ _ _) he hs⟩⟩
theorem Ex.goto {l env n h} : Ex P T N (.goto l) env n h (.goto l) env n h :=
  ⟨.nil, .refl _, Nat.le_refl _, .nil _ _ _, fun _ _ ρ _ _ _ _ _ _ _ hs he => wpIn_goto ⟨rfl, .nil rfl (.refl _ _ _) he hs⟩⟩

theorem Within.two {n n1 n' : Nat} {d e : Dl} (h1 : n ≤ n1) (h2 : n1 ≤ n') (hd : Within T n n1 d) (he : Within T n1 n' e) : Within T n n' (d.comp e) := by
  intro b hb
  rcases Dl.touches_comp hb with h | h
  · have k := hd b h
    exact ⟨k.1, by omega⟩
  · have k := he b h
    exact ⟨k.1.imp id (by omega), k.2⟩

/-- x, left normally, then y. -/
theorem Ex.seq {x y : Code} {env n h env1 n1 h1 e env' n' h'} (hx : Ex P T N x env n h .normal env1 n1 h1) (hy : Ex P T N y env1 n1 h1 e env' n' h') :
    Ex P T N (.seq x y) env n h e env' n' h' := by
  obtain ⟨d, hle, hn, hw, hx⟩ := hx
  obtain ⟨d', hle', hn', hw', hy⟩ := hy
  refine ⟨d.comp d', AH.app_comp h d d' ▸ hle'.trans (hle.app d'), Nat.le_trans hn hn', hw.two hn hn' hw', fun rd w0 ρ w H tmps dfs hr hl hf hs he => wpIn_seq (wpIn_mono (hx rd w0 ρ w H tmps dfs hr hl (hf.left hn') hs he) ?_)⟩
  rintro e2 a w' ⟨rfl, ms, hd, ρ', hg, he', hs'⟩
  obtain ⟨tm, df⟩ := a
  simp only at hd he'
  subst hd
  refine wpIn_mono (hy rd (w0.keep ms) ρ' w' (H.app d) tm _ (hr.mono ms) (hle.trans (hl.app d)) (hf.right hn hg) hs' he') ?_
  rintro e3 a3 w3 ⟨rfl, k⟩
  exact ⟨rfl, by rw [AH.app_comp]; exact k.trans hn hn' hg⟩

/-- x, left otherwise. -/
theorem Ex.seq_out {x y : Code} {env n h e env' n' h'} (hx : Ex P T N x env n h e env' n' h') (hne : e ≠ .normal) :
    Ex P T N (.seq x y) env n h e env' n' h' := by
  obtain ⟨d, hle, hn, hw, hx⟩ := hx
  refine ⟨d, hle, hn, hw, fun rd w0 ρ w H tmps dfs hr hl hf hs he => wpIn_seq (wpIn_mono (hx rd w0 ρ w H tmps dfs hr hl hf hs he) ?_)⟩
  rintro e2 a w' ⟨rfl, rest⟩
  cases e2 <;> first | exact absurd rfl hne | exact ⟨rfl, rest⟩

theorem Ex.cond {c : Operand} {x y : Code} {b : Bool} {env n h e env' n' h'} (hc : ev env c = .bool b) (hx : Ex P T N (if b then x else y) env n h e env' n' h') :
    Ex P T N (.cond c x y) env n h e env' n' h' := by
  obtain ⟨d, hle, hn, hw, hx⟩ := hx
  refine ⟨d, hle, hn, hw, fun rd w0 ρ w H tmps dfs hr hl hf hs he => ?_⟩
  have := EnvRel.ev (a := ⟨tmps, dfs⟩) he c
  rw [hc] at this
  have hv : Act.eval ⟨tmps, dfs⟩ c = .bool b := by
    generalize Act.eval ⟨tmps, dfs⟩ c = q at this
    cases this; rfl
  exact wpIn_cond hv (hx rd w0 ρ w H tmps dfs hr hl hf hs he)

def outOf (id : Nat) : Exit → Exit
  | .exit id' => if id' = id then .normal else .exit id'
  | e => e
theorem Ex.block {id : Nat} {c : Code} {env n h e env' n' h'} (hx : Ex P T N c env n h e env' n' h') : Ex P T N (.block id c) env n h (outOf id e) env' n' h' := by
  obtain ⟨d, hle, hn, hw, hx⟩ := hx
  refine ⟨d, hle, hn, hw, fun rd w0 ρ w H tmps dfs hr hl hf hs he => wpIn_block (wpIn_mono (hx rd w0 ρ w H tmps dfs hr hl hf hs he) ?_)⟩
  rintro e2 a w' ⟨rfl, rest⟩
  cases e2 with
  | exit id' =>
    simp only [Exit.inBlock, outOf]
    by_cases h : id' = id
    · rw [if_pos h, if_pos h]; exact ⟨rfl, rest⟩
    · rw [if_neg h, if_neg h]; exact ⟨rfl, rest⟩
  | _ => exact ⟨rfl, rest⟩

/-- A loop from its round's begin on. -/
def ExL (P : Program) (T : Nat → Prop) (N : Nat) (c : Code) (env : Env) (n : Nat) (h : AH) (e : Exit) (env' : Env) (n' : Nat) (h' : AH) : Prop :=
  ∃ d : Dl, h'.le (h.app d) ∧ n ≤ n' ∧ Within T n n' d ∧
    ∀ (rd : Option Nat) (w0 : Base) (ρ : Ren) (w : World) (H : AH) (tmps : Array Value) (dfs : List Deferred), RdOk w0 rd → h.le H → Fresh n n' ρ → Sim w0 ρ H w → EnvRel ρ N env tmps →
      ∀ (b : Frame) (k : List Item) (cs : List Frame), b.roundOf = rd → ∃ a w', ExPost N w0 ρ n n' env' (H.app d) dfs a w' ∧
        ArrivesIn (Machine.fenced P (FW rd)) P (lone (b.atR ⟨tmps, dfs⟩ (.code c :: .inLoop c :: k)) cs w) b k cs e a w'

/-- A loop: its rounds are told one by one. -/
theorem ExL.out {c : Code} {env n h e env' n' h'} (hx : Ex P T N c env n h e env' n' h') (hne : e ≠ .normal) : ExL P T N c env n h e env' n' h' := by
  obtain ⟨d, hle, hn, hw, hx⟩ := hx
  refine ⟨d, hle, hn, hw, fun rd w0 ρ w H tmps dfs hr hl hf hs he b k cs hb => ?_⟩
  obtain ⟨e2, a', w', ⟨rfl, rest⟩, harr⟩ := hx rd w0 ρ w H tmps dfs hr hl hf hs he b (.inLoop c :: k) cs hb (FW.fn rd _) (FW.room rd _)
  exact ⟨a', w', rest, .pass (x := .inLoop c) rfl (fun _ _ => .inl hne) harr⟩
theorem ExL.round {c : Code} {env n h env1 n1 h1 e env' n' h'} (hx : Ex P T N c env n h .normal env1 n1 h1) (hy : ExL P T N c env1 n1 h1 e env' n' h') :
    ExL P T N c env n h e env' n' h' := by
  obtain ⟨d, hle, hn, hw, hx⟩ := hx
  obtain ⟨d', hle', hn', hw', hy⟩ := hy
  refine ⟨d.comp d', AH.app_comp h d d' ▸ hle'.trans (hle.app d'), Nat.le_trans hn hn', hw.two hn hn' hw', fun rd w0 ρ w H tmps dfs hr hl hf hs he b k cs hb => ?_⟩
  obtain ⟨e1, a1, w1, ⟨rfl, ms, hd, ρ', hg, he', hs'⟩, harr⟩ := hx rd w0 ρ w H tmps dfs hr hl (hf.left hn') hs he b (.inLoop c :: k) cs hb (FW.fn rd _) (FW.room rd _)
  obtain ⟨tm, df⟩ := a1
  simp only at hd he'
  subst hd
  obtain ⟨a2, w2, kk, harr2⟩ := hy rd (w0.keep ms) ρ' w1 (H.app d) tm _ (hr.mono ms) (hle.trans (hl.app d)) (hf.right hn hg) hs' he' b k cs hb
  exact ⟨a2, w2, (by rw [AH.app_comp]; exact kk.trans hn hn' hg), .of_steps (StepsIn.trans harr (.one (fenced_calm (FW.fn rd _) (n := 0) (FW.room rd _) rfl) stepR_inLoop)) harr2⟩
theorem Ex.loop {c : Code} {env n h e env' n' h'} (hx : ExL P T N c env n h e env' n' h') : Ex P T N (.loop c) env n h e env' n' h' := by
  obtain ⟨d, hle, hn, hw, hx⟩ := hx
  refine ⟨d, hle, hn, hw, fun rd w0 ρ w H tmps dfs hr hl hf hs he b k cs hb _ _ => ?_⟩
  obtain ⟨a, w', hq, harr⟩ := hx rd w0 ρ w H tmps dfs hr hl hf hs he b k cs hb
  exact ⟨e, a, w', ⟨rfl, hq⟩, .of_steps (.one (fenced_calm (FW.fn rd _) (n := 0) (FW.room rd _) rfl) stepR_loop) harr⟩
theorem ExL.weaken {c : Code} {env env0 n h e env' env1 n' h'} (hx : ExL P T N c env n h e env' n' h') (h0 : env.le env0) (h1 : env1.le env') : ExL P T N c env0 n h e env1 n' h' := by
  obtain ⟨d, hle, hn, hw, hx⟩ := hx
  refine ⟨d, hle, hn, hw, fun rd w0 ρ w H tmps dfs hr hl hf hs he b k cs hb => ?_⟩
  obtain ⟨a, w', kk, harr⟩ := hx rd w0 ρ w H tmps dfs hr hl hf hs (he.anti h0) b k cs hb
  exact ⟨a, w', kk.anti h1, harr⟩

/-- Less may be known of the state in front, and told of the state behind. -/
theorem Ex.weaken {c : Code} {env env0 n h e env' env1 n' h' h1'} (hx : Ex P T N c env n h e env' n' h') (h0 : env.le env0) (h1 : env1.le env') (h2 : h1'.le h') : Ex P T N c env0 n h e env1 n' h1' := by
  obtain ⟨d, hle, hn, hw, hx⟩ := hx
  refine ⟨d, h2.trans hle, hn, hw, fun rd w0 ρ w H tmps dfs hr hl hf hs he => wpIn_mono (hx rd w0 ρ w H tmps dfs hr hl hf hs (he.anti h0)) ?_⟩
  rintro e2 a w' ⟨rfl, k⟩
  exact ⟨rfl, k.anti h1⟩
end
end Go.Abs
