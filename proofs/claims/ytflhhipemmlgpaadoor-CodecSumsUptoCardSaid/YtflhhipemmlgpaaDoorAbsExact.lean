/- Judgements over the abstract heap: of an operation, of code, of a function; and their rules. -/
import Derived.Test.YtflhhipemmlgpaaDoorAbsObj
import Derived.RangeFuncIn
import Derived.Laws.Entries
import Derived.Laws.Append
import Derived.Laws.BytesString
set_option linter.unusedSimpArgs false
set_option linter.unusedVariables false
namespace Go.Abs
open Go.RowKit

/-- No fence, in a frame of round r, or in a whole function's. -/
def FW (r : Option Nat) : Fence := { Fence.wide with round := r }
theorem FW.fn (r : Option Nat) (f : FuncId) : (FW r).fn f := trivial
theorem FW.room (r : Option Nat) (m : Nat) : (FW r).room m := fun d h => by cases h
theorem FW.depth (r : Option Nat) {q : Prop} (h : (FW r).depth.isSome = true) : q := by cases h
theorem semAt_run {P : Program} {o : Oper} {ev : Operand → Value} {w w' : World} {nx : Next} (r : Option Nat) (h : (execOp ev o).run P w = .ok nx w') (hd : ∀ d, nx ≠ .defer d) : (o.semAt r ev).run P w = .ok nx w' := by
  cases hc : o.op with
  | defer c =>
    exfalso
    simp only [execOp, hc, Sem.run_bind] at h
    cases hr : (resolve ev c o.type).run P w with
    | ok d w1 =>
      rw [hr] at h
      simp only [Result.andThen_ok, Sem.run_pure] at h
      injection h with h1 h2
      exact hd _ h1.symm
    | halt x w1 => rw [hr] at h; cases h
  | _ => rw [Oper.semAt_eq r ev o (fun c e => by rw [hc] at e; cases e)]; exact h
section
variable {P : Program} {o : Oper} {a : Act} {w w' : World} {next : Act → World → Prop} {Q : Exit → Act → World → Prop} {r : Option Nat}
theorem wpA_value {v : Value} (h : (execOp a.eval o).run P w = .ok (.value v) w') (k : next (a.put o.dst v) w') : o.wpIn (FW r) 0 P a w next Q :=
  ⟨fun f _ => FW.fn r f, by rw [show (FW r).round = r from rfl, semAt_run r h (fun d e => by cases e)]; exact k⟩
theorem wpA_skip (h : (execOp a.eval o).run P w = .ok .skip w') (k : next (a.put o.dst undef) w') : o.wpIn (FW r) 0 P a w next Q :=
  ⟨fun f _ => FW.fn r f, by rw [show (FW r).round = r from rfl, semAt_run r h (fun d e => by cases e)]; exact k⟩
theorem wpA_enter {f : FuncId} {args : Array Value} (h : (execOp a.eval o).run P w = .ok (.enter f args) w') (k : CallsIn (FW none) 0 P f args w' fun
      | .returned v, w'' => next (a.put o.dst v) w''
      | .panicked chain, w'' => Q (.panic chain) a w''
      | .outgrown, _ => LetsOut Q) : o.wpIn (FW r) 0 P a w next Q :=
  ⟨fun f _ => FW.fn r f, by rw [show (FW r).round = r from rfl, semAt_run r h (fun d e => by cases e)]; exact ⟨FW.depth r, k⟩⟩
end


/-- No address stands in it. -/
def flat : Nat → Value → Bool
  | _, .bool _ | _, .int .. | _, .string _ | _, .pointer none | _, .slice none 0 0 | _, .map none | _, .nilFunc | _, .nilIface => true
  | d + 1, .agg xs => xs.all (flat d)
  | d + 1, .iface _ x => flat d x
  | d + 1, .tuple xs => !xs.isEmpty && xs.all (flat d)
  | _, _ => false

theorem flat_rel (ρ : Ren) : ∀ (d : Nat) (v : Value), flat d v = true → VRel ρ v v := by
  intro d
  induction d with
  | zero =>
    intro v h
    unfold flat at h
    split at h <;> first | contradiction | (constructor; done) | (exfalso; simp at *; done)
  | succ d ih =>
    intro v h
    unfold flat at h
    split at h
    all_goals first
      | contradiction
      | (constructor; done)
      | skip
    · rename_i d1 xs hd
      cases hd
      refine .agg rfl fun i => ?_
      by_cases hi : i < xs.size
      · have e : xs.getD i (.tuple #[]) = xs[i] := by simp [Array.getD, hi]
        rw [e]
        exact ih _ (by simpa using (Array.all_eq_true.1 h) i hi)
      · have e : xs.getD i (.tuple #[]) = .tuple #[] := by simp [Array.getD, hi]
        rw [e]; exact .unk _
    · rename_i hd
      cases hd
      exact .iface (ih _ h)
    · rename_i d1 xs hd
      cases hd
      simp only [Bool.and_eq_true] at h
      refine .tuple rfl fun i => ?_
      by_cases hi : i < xs.size
      · have e : xs.getD i (.tuple #[]) = xs[i] := by simp [Array.getD, hi]
        rw [e]
        exact ih _ (by simpa using (Array.all_eq_true.1 h.2) i hi)
      · have e : xs.getD i (.tuple #[]) = .tuple #[] := by simp [Array.getD, hi]
        rw [e]; exact .unk _

/-- The value of an operand. -/
def ev (env : Env) : Operand → Value
  | .tmp t => env.get t
  | .const v => if flat 8 v then v else .tuple #[]
  | .func f => .func (.func f) #[] #[]
  | .global _ => .tuple #[]

theorem EnvRel.ev {ρ : Ren} {N : Nat} {env : Env} {a : Act} (h : EnvRel ρ N env a.tmps) (x : Operand) : VRel ρ (ev env x) (a.eval x) := by
  cases x with
  | tmp t => exact h.at_ t
  | const v =>
    unfold Abs.ev
    by_cases hf : flat 8 v = true
    · simp only [hf, if_true]; exact flat_rel ρ 8 v hf
    · simp only [hf]; exact .unk _
  | global g => exact .unk _
  | func f => exact .func rfl fun i => by simp; exact .unk _

theorem EnvRel.put {ρ : Ren} {N : Nat} {env : Env} {a : Act} (h : EnvRel ρ N env a.tmps) (d : Option Tmp) (hd : ∀ t, d = some t → t < N) {v c : Value} (hv : VRel ρ v c) :
    EnvRel ρ N (env.put d v) (a.put d c).tmps := by
  cases d with
  | none => exact h
  | some t =>
    have ht := hd t rfl
    refine ⟨by simp [Act.put, h.size], fun s => ?_⟩
    simp only [Act.put, Env.put, Env.get]
    by_cases e : t = s
    · subst e
      rw [if_pos (by simp)]
      have : t < a.tmps.size := by rw [h.size]; exact ht
      simp [Array.getD, this]; exact hv
    · rw [if_neg (by simpa using e)]
      have := h.at_ s
      simp only [Array.getD_eq_getD_getElem?] at this ⊢
      rw [Array.getElem?_setIfInBounds_ne e]; exact this

def Env.le (e f : Env) : Prop := ∀ t, e.get t = .tuple #[] ∨ f.get t = e.get t
theorem EnvRel.anti {ρ : Ren} {N : Nat} {e f : Env} {tmps : Array Value} (hl : e.le f) (h : EnvRel ρ N f tmps) : EnvRel ρ N e tmps :=
  ⟨h.size, fun t => by
    rcases hl t with h1 | h1
    · rw [h1]; exact .unk _
    · rw [← h1]; exact h.at_ t⟩
theorem Env.le.refl (e : Env) : e.le e := fun _ => .inr rfl

def none' : Nat → Prop := fun _ => False

def Fresh (n n' : Nat) (ρ : Ren) : Prop := ∀ b, n ≤ b → b < n' → ρ b = none
structure Grow (n n' : Nat) (ρ ρ' : Ren) : Prop where
  le : ρ.le ρ'
  out : ∀ b, ¬ (n ≤ b ∧ b < n') → ρ' b = ρ b

theorem Grow.refl (n n' : Nat) (ρ : Ren) : Grow n n' ρ ρ := ⟨.refl _, fun _ _ => rfl⟩
theorem Grow.trans {a b c : Nat} {ρ ρ' ρ'' : Ren} (hab : a ≤ b) (hbc : b ≤ c) (h : Grow a b ρ ρ') (k : Grow b c ρ' ρ'') : Grow a c ρ ρ'' :=
  ⟨h.le.trans k.le, fun x hx => by rw [k.out x (by omega), h.out x (by omega)]⟩
theorem Grow.one {n : Nat} {ρ : Ren} (hn : ρ n = none) (L : Loc) : Grow n (n + 1) ρ (ρ.set n L) :=
  ⟨Ren.le_set hn L, fun b hb => Ren.set_ne ρ L (by omega)⟩
theorem Fresh.left {a b c : Nat} {ρ : Ren} (h : Fresh a c ρ) (hbc : b ≤ c) : Fresh a b ρ := fun x h1 h2 => h x h1 (by omega)
theorem Fresh.right {a b c : Nat} {ρ ρ' : Ren} (h : Fresh a c ρ) (hab : a ≤ b) (g : Grow a b ρ ρ') : Fresh b c ρ' :=
  fun x h1 h2 => by rw [g.out x (by omega)]; exact h x (by omega) h2

/-- Block b is turned by d. -/
def Dl.touches (d : Dl) (b : Nat) : Prop := d.info b ≠ none ∨ ∃ i, d.cell b i ≠ none
theorem Dl.touches_comp {d e : Dl} {b : Nat} (h : (d.comp e).touches b) : d.touches b ∨ e.touches b := by
  rcases h with h | ⟨i, h⟩
  · cases he : e.info b with
    | none => simp only [Dl.comp, he, Option.none_or] at h; exact .inl (.inl h)
    | some x => exact .inr (.inl (by rw [he]; simp))
  · cases he : e.cell b i with
    | none => simp only [Dl.comp, he, Option.none_or] at h; exact .inl (.inr ⟨i, h⟩)
    | some x => exact .inr (.inr ⟨i, by rw [he]; simp⟩)
theorem Dl.touches_nil {b : Nat} (h : Dl.nil.touches b) : False := by
  rcases h with h | ⟨i, h⟩ <;> exact h rfl

theorem sets_touches {b o x : Nat} {vs : List Value} (h : (Dl.sets b o vs).touches x) : x = b := by
  unfold Dl.sets at h
  rcases h with h | ⟨i, h⟩
  · exact absurd rfl h
  · simp only at h
    split at h
    · rename_i h1; exact h1.1
    · exact absurd rfl h
/-- What is turned is allowed, or new. -/
def Within (T : Nat → Prop) (n n' : Nat) (d : Dl) : Prop := ∀ b, d.touches b → (T b ∨ n ≤ b) ∧ b < n'
theorem Within.nil (T : Nat → Prop) (n n' : Nat) : Within T n n' .nil := fun _ h => (Dl.touches_nil h).elim

/-- An operation, in the state (env, n, g), gives the value v and the update d. -/
structure OpEv (P : Program) (T : Nat → Prop) (o : Oper) (env : Env) (n : Nat) (g : AH) (v : Value) (n' : Nat) (d : Dl) : Prop where
  le : n ≤ n'
  within : Within T n n' d
  run : ∀ (r : Option Nat) (w0 : Base) (ρ : Ren) (w : World) (H : AH) (a : Act) (next : Act → World → Prop) (Q : Exit → Act → World → Prop),
    g.le H → Fresh n n' ρ → Sim w0 ρ H w → (∀ x, x ∈ o.op.operands → VRel ρ (ev env x) (a.eval x)) →
    (∀ ρ' c w', Grow n n' ρ ρ' → VRel ρ' v c → Sim w0 ρ' (H.app d) w' → next (a.put o.dst c) w') → o.wpIn (FW r) 0 P a w next Q

/-- What it yielded, as the guards see it. -/
def yields (ops : Array Oper) (env : Env) (j : Nat) : Option (Option Bool) :=
  match ((ops[j]?).bind (·.dst)).map env.get with
  | some (.bool b) => some (some b)
  | some (.chan (some 0)) => some none
  | _ => none
/-- Is it to be carried out? none: it isn't known. -/
def wants (ops : Array Oper) (o : Oper) (env : Env) : Option Bool :=
  match o.guard with
  | none => some true
  | some (j, want) => (yields ops env j).map (· == some want)

theorem wants_spec {ρ : Ren} {ops : Array Oper} {o : Oper} {env : Env} {a : Act} {b : Bool}
    (h : ∀ t, (∃ j w, o.guard = some (j, w) ∧ (ops[j]?).bind (·.dst) = some t) → VRel ρ (env.get t) (a.tmps.getD t (.tuple #[])))
    (hw : wants ops o env = some b) : Region.wanted o (yielded ops a.tmps) = b := by
  unfold wants at hw
  unfold Region.wanted
  cases hg : o.guard with
  | none => rw [hg] at hw; simpa using hw
  | some jw =>
    obtain ⟨j, want⟩ := jw
    rw [hg] at hw
    simp only at hw ⊢
    unfold yields at hw
    unfold yielded
    cases hd : (ops[j]?).bind (·.dst) with
    | none => rw [hd] at hw; simp at hw
    | some t =>
      rw [hd] at hw
      have hr := h t ⟨j, want, hg, hd⟩
      simp only [Option.map_some, Option.bind_some] at hw ⊢
      cases hv : env.get t with
      | bool x =>
        rw [hv] at hw hr
        simp only [Option.map_some, Option.some.injEq] at hw
        generalize hc : a.tmps.getD t (.tuple #[]) = c at hr
        cases hr
        have : a.tmps[t]? = some (.bool x) := by
          rw [Array.getD_eq_getD_getElem?] at hc
          cases hq : a.tmps[t]? with
          | none => rw [hq] at hc; simp at hc
          | some y => rw [hq] at hc; simp at hc; rw [hc]
        simp only [this]
        cases x <;> cases want <;> cases b <;> simp_all
      | chan r =>
        rw [hv] at hw hr
        generalize hc : a.tmps.getD t (.tuple #[]) = c at hr
        cases hr
        simp only [Option.map_some, Option.some.injEq] at hw
        have : ∀ b, a.tmps[t]? ≠ some (.bool b) := fun b q => by
          rw [Array.getD_eq_getD_getElem?, q] at hc; simp at hc
        have hn : (match a.tmps[t]? with | some (.bool b) => some b | _ => none) = (none : Option Bool) := by
          cases hq : a.tmps[t]? with
          | none => rfl
          | some y => cases y <;> first | rfl | exact absurd hq (this _)
        simp only [hn]
        rw [← hw]
      | _ => rw [hv] at hw; simp at hw

/-- The operations one behind the other, in the text's order. -/
inductive Seq (P : Program) (T : Nat → Prop) (ops : Array Oper) : List Oper → Env → Nat → AH → Env → Nat → AH → Dl → Prop
  | nil {env n h} : Seq P T ops [] env n h env n h .nil
  | op {o os env n h v n1 d h1 env' n' h' e} (hw : wants ops o env = some true) (ho : OpEv P T o env n h v n1 d) (hh : h1.le (h.app d)) (hr : Seq P T ops os (env.put o.dst v) n1 h1 env' n' h' e) :
      Seq P T ops (o :: os) env n h env' n' h' (d.comp e)
  | skip {o os env n h env' n' h' e} (hw : wants ops o env = some false) (hr : Seq P T ops os (env.put o.dst skipV) n h env' n' h' e) :
      Seq P T ops (o :: os) env n h env' n' h' e

theorem Seq.app {P : Program} {T : Nat → Prop} {ops : Array Oper} {os : List Oper} {env n h env' n' h' e} (s : Seq P T ops os env n h env' n' h' e) : h'.le (h.app e) := by
  induction s with
  | nil => exact .refl _
  | @op _ _ _ _ _ _ _ _ _ _ _ _ e _ _ hh _ ih => rw [AH.app_comp]; exact ih.trans (hh.app e)
  | skip _ _ ih => exact ih

theorem Seq.le {P : Program} {T : Nat → Prop} {ops : Array Oper} {os : List Oper} {env n h env' n' h' e} (s : Seq P T ops os env n h env' n' h' e) : n ≤ n' := by
  induction s with
  | nil => exact Nat.le_refl _
  | op _ ho _ _ ih => exact Nat.le_trans ho.le ih
  | skip _ _ ih => exact ih

theorem Seq.within {P : Program} {T : Nat → Prop} {ops : Array Oper} {os : List Oper} {env n h env' n' h' e} (s : Seq P T ops os env n h env' n' h' e) : Within T n n' e := by
  induction s with
  | nil => exact .nil _ _ _
  | op _ ho _ hr ih =>
    intro b hb
    have h1 := ho.le; have h2 := hr.le
    rcases Dl.touches_comp hb with h | h
    · have k := ho.within b h
      exact ⟨k.1, by omega⟩
    · have k := ih b h
      exact ⟨k.1.imp id (by omega), k.2⟩
  | skip _ _ ih => exact ih

/-- Every temporary that is written is one of the frame's. -/
def dstOk (N : Nat) (os : List Oper) : Bool := os.all fun o => match o.dst with | some d => decide (d < N) | none => true

theorem Seq.sound {P : Program} {T : Nat → Prop} {ops : Array Oper} {N : Nat} {os : List Oper} {env n h env' n' h' e} (s : Seq P T ops os env n h env' n' h' e) :
    ∀ (is : List Nat), is.map (ops[·]?) = os.map some → dstOk N os = true →
    ∀ (rd : Option Nat) (w0 : Base) (ρ : Ren) (w : World) (H : AH) (a : Act) (Q : Exit → Act → World → Prop), h.le H → Fresh n n' ρ → Sim w0 ρ H w → EnvRel ρ N env a.tmps →
      (∀ ρ' a' w', Grow n n' ρ ρ' → EnvRel ρ' N env' a'.tmps → a'.defers = a.defers → Sim w0 ρ' (H.app e) w' → Q .normal a' w') → wpOpsIn (FW rd) 0 P ops Q is a w := by
  induction s with
  | nil =>
    intro is his _ rd w0 ρ w H a Q hl hf hs he K
    cases is with
    | nil => exact K ρ a w (.refl _ _ _) he rfl hs
    | cons i r => simp at his
  | @op o os env n h v n1 d h1 env' n' h' e hw ho hh hr ih =>
    intro is his hdst rd w0 ρ w H a Q hl hf hs he K
    cases is with
    | nil => simp at his
    | cons i r =>
      simp only [List.map_cons, List.cons.injEq] at his
      obtain ⟨hi, his⟩ := his
      simp only [dstOk, List.all_cons, Bool.and_eq_true] at hdst
      have hd : ∀ t, o.dst = some t → t < N := by
        intro t ht
        have := hdst.1
        rw [ht] at this; simpa using this
      have hwant := wants_spec (ρ := ρ) (a := a) (fun t _ => he.at_ t) hw
      simp only [wpOpsIn, hi, hwant, if_true]
      have hn1 := ho.le
      have hn2 := hr.le
      refine ho.run rd w0 ρ w H a _ Q hl (hf.left hn2) hs (fun x _ => he.ev x) ?_
      intro ρ1 c w1 hg hv hs1
      refine ih r his (by simpa [dstOk] using hdst.2) rd w0 ρ1 w1 (H.app d) (a.put o.dst c) Q (hh.trans (hl.app d)) (hf.right hn1 hg) hs1 ((he.mono hg.le).put o.dst hd hv) ?_
      intro ρ2 a2 w2 hg2 he2 hd2 hs2
      rw [← AH.app_comp] at hs2
      exact K ρ2 a2 w2 (hg.trans hn1 hn2 hg2) he2 (by rw [hd2]; cases o.dst <;> rfl) hs2
  | @skip o os env n h env' n' h' e hw hr ih =>
    intro is his hdst rd w0 ρ w H a Q hl hf hs he K
    cases is with
    | nil => simp at his
    | cons i r =>
      simp only [List.map_cons, List.cons.injEq] at his
      obtain ⟨hi, his⟩ := his
      simp only [dstOk, List.all_cons, Bool.and_eq_true] at hdst
      have hd : ∀ t, o.dst = some t → t < N := by
        intro t ht
        have := hdst.1
        rw [ht] at this; simpa using this
      have hwant := wants_spec (ρ := ρ) (a := a) (fun t _ => he.at_ t) hw
      simp only [wpOpsIn, hi, hwant, Bool.false_eq_true, if_false]
      refine ⟨fun f _ => FW.fn rd f, ?_⟩
      refine ih r his (by simpa [dstOk] using hdst.2) rd w0 ρ w H (a.put o.dst undef) Q hl hf hs (he.put o.dst hd .skip) ?_
      intro ρ2 a2 w2 hg2 he2 hd2 hs2
      exact K ρ2 a2 w2 hg2 he2 (by rw [hd2]; cases o.dst <;> rfl) hs2

/-- The deferred calls that blocks are marked by. -/
def markOf (ms : List Nat) : List Deferred := ms.map fun r => { target := .collected r, args := #[] }
/-- The round's frame is a kept loop's. -/
def RdOk (w0 : Base) (rd : Option Nat) : Prop := ∀ l, rd = some l → l ∈ w0.rounds
theorem RdOk.mono {w0 : Base} {rd : Option Nat} (h : RdOk w0 rd) (ms : List Nat) : RdOk (w0.keep ms) rd := h
theorem RdOk.none {w0 : Base} : RdOk w0 none := fun _ h => by cases h
/-- What is asked of the end. -/
def ExPost (N : Nat) (w0 : Base) (ρ : Ren) (n n' : Nat) (env' : Env) (H' : AH) (dfs : List Deferred) (a : Act) (w' : World) : Prop :=
  ∃ ms, a.defers = markOf ms ++ dfs ∧ ∃ ρ', Grow n n' ρ ρ' ∧ EnvRel ρ' N env' a.tmps ∧ Sim (w0.keep ms) ρ' H' w'
theorem ExPost.nil {N : Nat} {w0 : Base} {ρ ρ' : Ren} {n n' : Nat} {env' : Env} {H' : AH} {dfs : List Deferred} {a : Act} {w' : World} (hd : a.defers = dfs) (hg : Grow n n' ρ ρ') (he : EnvRel ρ' N env' a.tmps) (hs : Sim w0 ρ' H' w') :
    ExPost N w0 ρ n n' env' H' dfs a w' := ⟨[], hd, ρ', hg, he, hs⟩
theorem markOf_append (ms ms' : List Nat) : markOf (ms' ++ ms) = markOf ms' ++ markOf ms := by simp [markOf]
theorem ExPost.trans {N : Nat} {w0 : Base} {ρ ρ' : Ren} {n n1 n' : Nat} {env' : Env} {H' : AH} {dfs : List Deferred} {ms : List Nat} {a : Act} {w' : World} (h1 : n ≤ n1) (h2 : n1 ≤ n') (hg : Grow n n1 ρ ρ')
    (k : ExPost N (w0.keep ms) ρ' n1 n' env' H' (markOf ms ++ dfs) a w') : ExPost N w0 ρ n n' env' H' dfs a w' := by
  obtain ⟨ms', hd, ρ2, hg2, he, hs⟩ := k
  exact ⟨ms' ++ ms, by rw [hd, markOf_append, List.append_assoc], ρ2, hg.trans h1 h2 hg2, he, by rw [← Base.keep_keep]; exact hs⟩
theorem ExPost.anti {N : Nat} {w0 : Base} {ρ : Ren} {n n' : Nat} {env' env1 : Env} {H' : AH} {dfs : List Deferred} {a : Act} {w' : World} (h : env1.le env') (k : ExPost N w0 ρ n n' env' H' dfs a w') : ExPost N w0 ρ n n' env1 H' dfs a w' := by
  obtain ⟨ms, hd, ρ2, hg2, he, hs⟩ := k
  exact ⟨ms, hd, ρ2, hg2, he.anti h, hs⟩

/-- Code c, from (env, n, h), is left by e in the state (env', n', h'). -/
def Ex (P : Program) (T : Nat → Prop) (N : Nat) (c : Code) (env : Env) (n : Nat) (h : AH) (e : Exit) (env' : Env) (n' : Nat) (h' : AH) : Prop :=
  ∃ d : Dl, h'.le (h.app d) ∧ n ≤ n' ∧ Within T n n' d ∧
    ∀ (rd : Option Nat) (w0 : Base) (ρ : Ren) (w : World) (H : AH) (tmps : Array Value) (dfs : List Deferred), RdOk w0 rd → h.le H → Fresh n n' ρ → Sim w0 ρ H w → EnvRel ρ N env tmps →
      c.wpIn (FW rd) 0 P (fun e2 a w' => e2 = e ∧ ExPost N w0 ρ n n' env' (H.app d) dfs a w') ⟨tmps, dfs⟩ w

section
variable {P : Program} {T : Nat → Prop} {N : Nat}

theorem Ex.region {ops : Array Oper} {id : Nat} {env n h env' n' h' d} (s : Seq P T ops ops.toList env n h env' n' h' d) (hd : dstOk N ops.toList = true) :
    Ex P T N (.region id ops false) env n h .normal env' n' h' :=
  ⟨d, s.app, s.le, s.within, fun rd w0 ρ w H tmps dfs _ hl hf hs he => wpIn_region (s.sound (List.range ops.size) (by
      apply List.ext_getElem?; intro i
      by_cases hi : i < ops.size
      · simp [hi]
      · simp [hi]) hd rd w0 ρ w H ⟨tmps, dfs⟩ _ hl hf hs he
    (fun ρ' a' w' hg he' hdf hs' => ⟨rfl, .nil hdf hg he' hs'⟩))⟩

theorem Ex.skip {env n h} : Ex P T N .skip env n h .normal env n h :=
  ⟨.nil, .refl _, Nat.le_refl _, .nil _ _ _, fun _ _ ρ _ _ _ _ _ _ _ hs he => wpIn_skip ⟨rfl, .nil rfl (.refl _ _ _) he hs⟩⟩
theorem Ex.ret {env n h} : Ex P T N .ret env n h .ret env n h :=
  ⟨.nil, .refl _, Nat.le_refl _, .nil _ _ _, fun _ _ ρ _ _ _ _ _ _ _ hs he => wpIn_ret ⟨rfl, .nil rfl (.refl _ _ _) he hs⟩⟩
theorem Ex.exit {id env n h} : Ex P T N (.exit id) env n h (.exit id) env n h :=
  ⟨.nil, .refl _, Nat.le_refl _, .nil _ _ _, fun _ _ ρ _ _ _ _ _ _ _ hs he => wpIn_exit ⟨rfl, .nil rfl (.refl _ _ _) he hs⟩⟩
theorem Ex.goto {l env n h} : Ex P T N (.goto l) env n h (.goto l) env n h :=
  ⟨.nil, .refl _, Nat.le_refl _, .nil _ _ _, fun _ _ ρ _ _ _ _ _ _ _ hs he => wpIn_goto ⟨rfl, .nil rfl (.refl _ _ _) he hs⟩⟩

theorem Within.two {n n1 n' : Nat} {d e : Dl} (h1 : n ≤ n1) (h2 : n1 ≤ n') (hd : Within T n n1 d) (he : Within T n1 n' e) : Within T n n' (d.comp e) := by
  intro b hb
  rcases Dl.touches_comp hb with h | h
  · have k := hd b h
    exact ⟨k.1, by omega⟩
  · have k := he b h
    exact ⟨k.1.imp id (by omega), k.2⟩

/-- x, left normally, then y. -/
theorem Ex.seq {x y : Code} {env n h env1 n1 h1 e env' n' h'} (hx : Ex P T N x env n h .normal env1 n1 h1) (hy : Ex P T N y env1 n1 h1 e env' n' h') :
    Ex P T N (.seq x y) env n h e env' n' h' := by
  obtain ⟨d, hle, hn, hw, hx⟩ := hx
  obtain ⟨d', hle', hn', hw', hy⟩ := hy
  refine ⟨d.comp d', AH.app_comp h d d' ▸ hle'.trans (hle.app d'), Nat.le_trans hn hn', hw.two hn hn' hw', fun rd w0 ρ w H tmps dfs hr hl hf hs he => wpIn_seq (wpIn_mono (hx rd w0 ρ w H tmps dfs hr hl (hf.left hn') hs he) ?_)⟩
  rintro e2 a w' ⟨rfl, ms, hd, ρ', hg, he', hs'⟩
  obtain ⟨tm, df⟩ := a
  simp only at hd he'
  subst hd
  refine wpIn_mono (hy rd (w0.keep ms) ρ' w' (H.app d) tm _ (hr.mono ms) (hle.trans (hl.app d)) (hf.right hn hg) hs' he') ?_
  rintro e3 a3 w3 ⟨rfl, k⟩
  exact ⟨rfl, by rw [AH.app_comp]; exact k.trans hn hn' hg⟩

/-- x, left otherwise. -/
theorem Ex.seq_out {x y : Code} {env n h e env' n' h'} (hx : Ex P T N x env n h e env' n' h') (hne : e ≠ .normal) :
    Ex P T N (.seq x y) env n h e env' n' h' := by
  obtain ⟨d, hle, hn, hw, hx⟩ := hx
  refine ⟨d, hle, hn, hw, fun rd w0 ρ w H tmps dfs hr hl hf hs he => wpIn_seq (wpIn_mono (hx rd w0 ρ w H tmps dfs hr hl hf hs he) ?_)⟩
  rintro e2 a w' ⟨rfl, rest⟩
  cases e2 <;> first | exact absurd rfl hne | exact ⟨rfl, rest⟩

theorem Ex.cond {c : Operand} {x y : Code} {b : Bool} {env n h e env' n' h'} (hc : ev env c = .bool b) (hx : Ex P T N (if b then x else y) env n h e env' n' h') :
    Ex P T N (.cond c x y) env n h e env' n' h' := by
  obtain ⟨d, hle, hn, hw, hx⟩ := hx
  refine ⟨d, hle, hn, hw, fun rd w0 ρ w H tmps dfs hr hl hf hs he => ?_⟩
  have := EnvRel.ev (a := ⟨tmps, dfs⟩) he c
  rw [hc] at this
  have hv : Act.eval ⟨tmps, dfs⟩ c = .bool b := by
    generalize Act.eval ⟨tmps, dfs⟩ c = q at this
    cases this; rfl
  exact wpIn_cond hv (hx rd w0 ρ w H tmps dfs hr hl hf hs he)

def outOf (id : Nat) : Exit → Exit
  | .exit id' => if id' = id then .normal else .exit id'
  | e => e
theorem Ex.block {id : Nat} {c : Code} {env n h e env' n' h'} (hx : Ex P T N c env n h e env' n' h') : Ex P T N (.block id c) env n h (outOf id e) env' n' h' := by
  obtain ⟨d, hle, hn, hw, hx⟩ := hx
  refine ⟨d, hle, hn, hw, fun rd w0 ρ w H tmps dfs hr hl hf hs he => wpIn_block (wpIn_mono (hx rd w0 ρ w H tmps dfs hr hl hf hs he) ?_)⟩
  rintro e2 a w' ⟨rfl, rest⟩
  cases e2 with
  | exit id' =>
    simp only [Exit.inBlock, outOf]
    by_cases h : id' = id
    · rw [if_pos h, if_pos h]; exact ⟨rfl, rest⟩
    · rw [if_neg h, if_neg h]; exact ⟨rfl, rest⟩
  | _ => exact ⟨rfl, rest⟩

/-- A loop from its round's begin on. -/
def ExL (P : Program) (T : Nat → Prop) (N : Nat) (c : Code) (env : Env) (n : Nat) (h : AH) (e : Exit) (env' : Env) (n' : Nat) (h' : AH) : Prop :=
  ∃ d : Dl, h'.le (h.app d) ∧ n ≤ n' ∧ Within T n n' d ∧
    ∀ (rd : Option Nat) (w0 : Base) (ρ : Ren) (w : World) (H : AH) (tmps : Array Value) (dfs : List Deferred), RdOk w0 rd → h.le H → Fresh n n' ρ → Sim w0 ρ H w → EnvRel ρ N env tmps →
      ∀ (b : Frame) (k : List Item) (cs : List Frame), b.roundOf = rd → ∃ a w', ExPost N w0 ρ n n' env' (H.app d) dfs a w' ∧
        ArrivesIn (Machine.fenced P (FW rd)) P (lone (b.atR ⟨tmps, dfs⟩ (.code c :: .inLoop c :: k)) cs w) b k cs e a w'

/-- A loop: its rounds are told one by one. -/
theorem ExL.out {c : Code} {env n h e env' n' h'} (hx : Ex P T N c env n h e env' n' h') (hne : e ≠ .normal) : ExL P T N c env n h e env' n' h' := by
  obtain ⟨d, hle, hn, hw, hx⟩ := hx
  refine ⟨d, hle, hn, hw, fun rd w0 ρ w H tmps dfs hr hl hf hs he b k cs hb => ?_⟩
  obtain ⟨e2, a', w', ⟨rfl, rest⟩, harr⟩ := hx rd w0 ρ w H tmps dfs hr hl hf hs he b (.inLoop c :: k) cs hb (FW.fn rd _) (FW.room rd _)
  exact ⟨a', w', rest, .pass (x := .inLoop c) rfl (fun _ _ => .inl hne) harr⟩
theorem ExL.round {c : Code} {env n h env1 n1 h1 e env' n' h'} (hx : Ex P T N c env n h .normal env1 n1 h1) (hy : ExL P T N c env1 n1 h1 e env' n' h') :
    ExL P T N c env n h e env' n' h' := by
  obtain ⟨d, hle, hn, hw, hx⟩ := hx
  obtain ⟨d', hle', hn', hw', hy⟩ := hy
  refine ⟨d.comp d', AH.app_comp h d d' ▸ hle'.trans (hle.app d'), Nat.le_trans hn hn', hw.two hn hn' hw', fun rd w0 ρ w H tmps dfs hr hl hf hs he b k cs hb => ?_⟩
  obtain ⟨e1, a1, w1, ⟨rfl, ms, hd, ρ', hg, he', hs'⟩, harr⟩ := hx rd w0 ρ w H tmps dfs hr hl (hf.left hn') hs he b (.inLoop c :: k) cs hb (FW.fn rd _) (FW.room rd _)
  obtain ⟨tm, df⟩ := a1
  simp only at hd he'
  subst hd
  obtain ⟨a2, w2, kk, harr2⟩ := hy rd (w0.keep ms) ρ' w1 (H.app d) tm _ (hr.mono ms) (hle.trans (hl.app d)) (hf.right hn hg) hs' he' b k cs hb
  exact ⟨a2, w2, (by rw [AH.app_comp]; exact kk.trans hn hn' hg), .of_steps (StepsIn.trans harr (.one (fenced_calm (FW.fn rd _) (n := 0) (FW.room rd _) rfl) stepR_inLoop)) harr2⟩
theorem Ex.loop {c : Code} {env n h e env' n' h'} (hx : ExL P T N c env n h e env' n' h') : Ex P T N (.loop c) env n h e env' n' h' := by
  obtain ⟨d, hle, hn, hw, hx⟩ := hx
  refine ⟨d, hle, hn, hw, fun rd w0 ρ w H tmps dfs hr hl hf hs he b k cs hb _ _ => ?_⟩
  obtain ⟨a, w', hq, harr⟩ := hx rd w0 ρ w H tmps dfs hr hl hf hs he b k cs hb
  exact ⟨e, a, w', ⟨rfl, hq⟩, .of_steps (.one (fenced_calm (FW.fn rd _) (n := 0) (FW.room rd _) rfl) stepR_loop) harr⟩
theorem ExL.weaken {c : Code} {env env0 n h e env' env1 n' h'} (hx : ExL P T N c env n h e env' n' h') (h0 : env.le env0) (h1 : env1.le env') : ExL P T N c env0 n h e env1 n' h' := by
  obtain ⟨d, hle, hn, hw, hx⟩ := hx
  refine ⟨d, hle, hn, hw, fun rd w0 ρ w H tmps dfs hr hl hf hs he b k cs hb => ?_⟩
  obtain ⟨a, w', kk, harr⟩ := hx rd w0 ρ w H tmps dfs hr hl hf hs (he.anti h0) b k cs hb
  exact ⟨a, w', kk.anti h1, harr⟩

/-- Less may be known of the state in front, and told of the state behind. -/
theorem Ex.weaken {c : Code} {env env0 n h e env' env1 n' h' h1'} (hx : Ex P T N c env n h e env' n' h') (h0 : env.le env0) (h1 : env1.le env') (h2 : h1'.le h') : Ex P T N c env0 n h e env1 n' h1' := by
  obtain ⟨d, hle, hn, hw, hx⟩ := hx
  refine ⟨d, h2.trans hle, hn, hw, fun rd w0 ρ w H tmps dfs hr hl hf hs he => wpIn_mono (hx rd w0 ρ w H tmps dfs hr hl hf hs (he.anti h0)) ?_⟩
  rintro e2 a w' ⟨rfl, k⟩
  exact ⟨rfl, k.anti h1⟩
end
end Go.Abs

/- Functions over the abstract heap, and calls of them. -/
namespace Go.Abs
open Go.RowKit

structure RelAll (ρ : Ren) (xs ys : Array Value) : Prop where
  size : xs.size = ys.size
  at_ : ∀ i, VRel ρ (xs.getD i (.tuple #[])) (ys.getD i (.tuple #[]))

theorem RelAll.mono {ρ ρ' : Ren} (hl : ρ.le ρ') {xs ys : Array Value} (h : RelAll ρ xs ys) : RelAll ρ' xs ys := ⟨h.size, fun i => (h.at_ i).mono hl⟩

theorem RelAll.append {ρ : Ren} {xs ys zs ws : Array Value} (h : RelAll ρ xs ys) (k : RelAll ρ zs ws) : RelAll ρ (xs ++ zs) (ys ++ ws) := by
  refine ⟨by simp [h.size, k.size], fun i => ?_⟩
  have h1 := h.at_ i
  have k1 := k.at_ (i - xs.size)
  have hs := h.size
  simp only [Array.getD_eq_getD_getElem?, Array.getElem?_append] at *
  by_cases hi : i < xs.size
  · rw [if_pos hi, if_pos (by omega)]; exact h1
  · rw [if_neg hi, if_neg (by omega), ← hs]; exact k1

theorem RelAll.map {ρ : Ren} {xs : Array Operand} {env : Env} {a : Act} (h : ∀ x, x ∈ xs → VRel ρ (ev env x) (a.eval x)) : RelAll ρ (xs.map (ev env)) (xs.map a.eval) := by
  refine ⟨by simp, fun i => ?_⟩
  by_cases hi : i < xs.size
  · simp [Array.getD, hi]; exact h _ (by simp)
  · simp [Array.getD, hi]; exact .unk _

/-- It has a body, and is none of the run-time's. -/
def Callable (P : Program) (f : FuncId) : Prop := ∃ fn, P.funcs[f]? = some fn ∧ fn.body.isSome = true ∧ (fn.name == "runtime.NumGoroutine") = false

/-- The function f, called with args in the state (n, h), returns r and leaves (n', h'); of what was there it turns W alone. -/
def Ev (P : Program) (W : Nat → Prop) (f : FuncId) (args : Array Value) (n : Nat) (h : AH) (r : Value) (n' : Nat) (h' : AH) : Prop :=
  Callable P f ∧ ∃ d : Dl, h'.le (h.app d) ∧ n ≤ n' ∧ Within W n n' d ∧
    ∀ (w0 : Base) (ρ : Ren) (w : World) (H : AH) (cargs : Array Value), h.le H → Fresh n n' ρ → Sim w0 ρ H w → RelAll ρ args cargs →
      CallsIn (FW none) 0 P f cargs w fun e w' => ∃ ρ' c, e = .returned c ∧ Grow n n' ρ ρ' ∧ VRel ρ' r c ∧ Sim w0 ρ' (H.app d) w'

/-- The frame's environment at the start. -/
def argEnv : Nat → List Value → Env
  | _, [] => []
  | i, v :: r => (i, v) :: argEnv (i + 1) r
theorem argEnv_get : ∀ (l : List Value) (i t : Nat), (argEnv i l).get t = if i ≤ t then l.getD (t - i) (.tuple #[]) else .tuple #[]
  | [], i, t => by simp [argEnv, Env.get]
  | v :: r, i, t => by
    simp only [argEnv, Env.get]
    by_cases e : i = t
    · subst e; simp
    · rw [if_neg (by simpa using e), argEnv_get r (i + 1) t]
      by_cases h : i ≤ t
      · rw [if_pos h, if_pos (by omega), show t - i = (t - (i + 1)) + 1 by omega]; simp
      · rw [if_neg h, if_neg (by omega)]

theorem EnvRel.start {ρ : Ren} {args cargs : Array Value} {N : Nat} (h : RelAll ρ args cargs) (hN : args.size ≤ N) :
    EnvRel ρ N (argEnv 0 args.toList) (cargs ++ Array.replicate (N - cargs.size) undef) := by
  refine ⟨by simp; have := h.size; omega, fun t => ?_⟩
  rw [argEnv_get]
  simp only [Nat.zero_le, if_true, Nat.sub_zero]
  by_cases ht : t < args.size
  · have h1 := h.at_ t
    have h2 : t < cargs.size := by rw [← h.size]; exact ht
    simp only [Array.getD_eq_getD_getElem?, Array.getElem?_append, if_pos h2] at *
    simpa [List.getD] using h1
  · have : args.toList.getD t (.tuple #[]) = .tuple #[] := by
      rw [List.getD, List.getElem?_eq_none (by simpa using Nat.le_of_not_lt ht)]; rfl
    rw [this]; exact .unk _

/-- A row of cells, read. -/
def rd (h : AH) (b o : Nat) : Nat → List Value
  | 0 => []
  | k + 1 => h.cell b o :: rd h b (o + 1) k

theorem rd_length (h : AH) (b : Nat) : ∀ (k o : Nat), (rd h b o k).length = k
  | 0, _ => rfl
  | k + 1, o => by simp [rd, rd_length h b k]
theorem rd_getD (h : AH) (b : Nat) : ∀ (k o i : Nat), i < k → (rd h b o k).getD i (.tuple #[]) = h.cell b (o + i)
  | 0, _, _, hi => by omega
  | k + 1, o, 0, _ => by simp [rd]
  | k + 1, o, i + 1, hi => by
    have := rd_getD h b k (o + 1) i (by omega)
    simp only [rd, List.getD_cons_succ, this]; congr 1; omega

theorem addr_add (b o n : Nat) : (⟨b, o, none⟩ : Addr).add n = ⟨b, o + n, none⟩ := by unfold Addr.add; split <;> simp_all

/-- All of a row of cells is known. -/
def known : List Value → Bool
  | [] => true
  | .tuple _ :: _ => false
  | .agg _ :: _ => false
  | .chan _ :: _ => false
  | _ :: r => known r
theorem known_at : ∀ (l : List Value), known l = true → ∀ i, i < l.length → l.getD i (.tuple #[]) ≠ .tuple #[] ∧ (l.getD i (.tuple #[])).oneCell' = true ∧ l.getD i (.tuple #[]) ≠ skipV
  | [], _, i, hi => by simp at hi
  | v :: r, h, 0, _ => by cases v <;> simp_all [known, Value.oneCell']
  | v :: r, h, i + 1, hi => by
    have : known r = true := by cases v <;> simp_all [known]
    simpa using known_at r this i (by simpa using hi)

theorem VRel.oneCell {ρ : Ren} {a c : Value} (h : VRel ρ a c) (ha : a.oneCell' = true ∧ a ≠ skipV) : c.oneCell' = true := by
  cases h <;> simp_all [Value.oneCell', skipV]

/-- Cells that are known read, in the world, as a row that is related. -/
theorem Sim.rd {P : Program} {w0 : Base} {w : World} {ρ : Ren} {h H : AH} (s : Sim w0 ρ H w) (hl : h.le H) {b o k : Nat} {L : Loc} (hL : ρ b = some L) (hk : known (rd h b o k) = true) :
    ∃ cs : List Value, cs.length = k ∧ (∀ i, i < k → w.cell? ⟨L.blk, L.off + o + i, none⟩ = some (cs.getD i (.tuple #[])) ∧ VRel ρ ((rd h b o k).getD i (.tuple #[])) (cs.getD i (.tuple #[]))) ∧
      (loadCells ⟨L.blk, L.off + o, none⟩ k).run P w = .ok cs.toArray w := by
  have key : ∀ i, i < k → ∃ v, w.cell? ⟨L.blk, L.off + o + i, none⟩ = some v ∧ VRel ρ ((Abs.rd h b o k).getD i (.tuple #[])) v := by
    intro i hi
    have h1 := known_at _ hk i (by rw [rd_length]; exact hi)
    rw [rd_getD h b k o i hi] at h1 ⊢
    have h2 : H.cell b (o + i) = h.cell b (o + i) := (hl.cell b (o + i)).resolve_left h1.1
    obtain ⟨L', v, k1, k2, k3⟩ := s.cell b (o + i) (by rw [h2]; exact h1.1)
    rw [hL] at k1; cases k1
    rw [h2] at k3
    exact ⟨v, by rw [Nat.add_assoc]; exact k2, k3⟩
  let f : Nat → Value := fun i => if hi : i < k then (key i hi).choose else undef
  have hf : ∀ i (hi : i < k), w.cell? ⟨L.blk, L.off + o + i, none⟩ = some (f i) ∧ VRel ρ ((Abs.rd h b o k).getD i (.tuple #[])) (f i) := by
    intro i hi
    simp only [f, hi, dite_true]
    exact (key i hi).choose_spec
  have hg : ∀ i, i < k → ((List.range k).map f).getD i (.tuple #[]) = f i := by
    intro i hi; simp [List.getD, hi]
  refine ⟨(List.range k).map f, by simp, fun i hi => ?_, ?_⟩
  · rw [hg i hi]; exact hf i hi
  · exact run_loadCells w _ k f fun j hj => by rw [addr_add]; exact (hf j hj).1

end Go.Abs

/- Operations over the abstract heap: those that only compute. -/
namespace Go.Abs
open Go.RowKit

/-- What a program tells of a type. -/
structure TI (P : Program) (t : TypeId) (d : TypeDesc) (size bytes : Nat) (zero : Value) : Prop where
  und : P.underlying t = some d
  info : ∃ i, P.info? t = some i ∧ i.size = size ∧ i.bytes = bytes ∧ i.zero = some zero
theorem TI.of {P : Program} {t : TypeId} {d : TypeDesc} {size bytes : Nat} {zero : Value} (hu : P.underlying t = some d)
    (hi : (P.info? t).map (fun i => (i.size, i.bytes, i.zero)) = some (size, bytes, some zero)) : TI P t d size bytes zero := by
  refine ⟨hu, ?_⟩
  cases h : P.info? t with
  | none => rw [h] at hi; cases hi
  | some i =>
    rw [h] at hi
    simp only [Option.map_some, Option.some.injEq, Prod.mk.injEq] at hi
    exact ⟨i, rfl, hi.1, hi.2.1, hi.2.2⟩

section
variable {P : Program} {t : TypeId} {d : TypeDesc} {size bytes : Nat} {zero : Value} (w : World)
theorem TI.run_underlying (h : TI P t d size bytes zero) : (underlying t).run P w = .ok d w := by
  simp [underlying, h.und]
theorem TI.run_sizeOf (h : TI P t d size bytes zero) : (sizeOf t).run P w = .ok size w := by
  obtain ⟨i, h1, h2, h3, h4⟩ := h.info
  simp [sizeOf, typeInfo, h1, h2]
theorem TI.run_typeInfo (h : TI P t d size bytes zero) : ∃ i, (typeInfo t).run P w = .ok i w ∧ i.size = size ∧ i.bytes = bytes ∧ i.zero = some zero := by
  obtain ⟨i, h1, h2⟩ := h.info
  exact ⟨i, by simp [typeInfo, h1], h2⟩
theorem TI.run_zeroValue (h : TI P t d size bytes zero) : (zeroValue t).run P w = .ok zero w := by
  obtain ⟨i, h1, h2, h3, h4⟩ := h.info
  simp [zeroValue, typeInfo, h1, h4]
end

def isAggD : TypeDesc → Bool
  | .struct _ | .array _ _ => true
  | _ => false
theorem TI.run_isAgg {P : Program} {t : TypeId} {d : TypeDesc} {size bytes : Nat} {zero : Value} (w : World) (h : TI P t d size bytes zero) : (isAgg t).run P w = .ok (isAggD d) w := by
  simp only [isAgg, Sem.run_bind, h.run_underlying, Result.andThen_ok]
  cases d <;> rfl

section
variable {P : Program} {T : Nat → Prop} {env : Env} {n : Nat} {g : AH}

/-- An operation that computes, whatever the world. -/
theorem OpEv.calc {o : Oper} {v : Value}
    (h : ∀ ρ w (ce : Operand → Value), (∀ x, x ∈ o.op.operands → VRel ρ (ev env x) (ce x)) → ∃ c, (execOp ce o).run P w = .ok (.value c) w ∧ VRel ρ v c) : OpEv P T o env n g v n .nil :=
  ⟨Nat.le_refl _, .nil _ _ _, fun _ w0 ρ w H a next Q _ _ hs hr K => by
    obtain ⟨c, h1, h2⟩ := h ρ w a.eval hr
    refine wpA_value h1 ?_
    exact K ρ c w (.refl _ _ _) h2 hs⟩

theorem VRel.int_inv {ρ : Ren} {k : IntKind} {x : Int} {c : Value} (h : VRel ρ (.int k x) c) : c = .int k x := by cases h; rfl
theorem VRel.bool_inv {ρ : Ren} {x : Bool} {c : Value} (h : VRel ρ (.bool x) c) : c = .bool x := by cases h; rfl
theorem VRel.string_inv {ρ : Ren} {x : ByteArray} {c : Value} (h : VRel ρ (.string x) c) : c = .string x := by cases h; rfl

variable {dst : Option Tmp} {ty : TypeId} {pos : String} {after : Array Edge} {gd : Option (Nat × Bool)}

theorem op_move {x : Operand} : OpEv P T ⟨dst, .move x, ty, pos, after, gd⟩ env n g (ev env x) n .nil :=
  .calc fun ρ w ce h => ⟨ce x, by simp [execOp], h x (by simp [Op.operands])⟩
theorem op_assign {x : Operand} : OpEv P T ⟨dst, .assign x, ty, pos, after, gd⟩ env n g (ev env x) n .nil :=
  .calc fun ρ w ce h => ⟨ce x, by simp [execOp], h x (by simp [Op.operands])⟩
theorem op_pick {c x y : Operand} {b : Bool} (hc : ev env c = .bool b) : OpEv P T ⟨dst, .pick c x y, ty, pos, after, gd⟩ env n g (if b then ev env x else ev env y) n .nil :=
  .calc fun ρ w ce h => by
    have h1 := h c (by simp [Op.operands]); rw [hc] at h1
    refine ⟨if b then ce x else ce y, by simp [execOp, h1.bool_inv, asBool], ?_⟩
    cases b
    · exact h y (by simp [Op.operands])
    · exact h x (by simp [Op.operands])

/-- Whole numbers, two of them. -/
def binI : BinOp → IntKind → Int → Int → Option Value
  | .add, k, a, b => some (.int k (k.wrap (a + b)))
  | .sub, k, a, b => some (.int k (k.wrap (a - b)))
  | .mul, k, a, b => some (.int k (k.wrap (a * b)))
  | .quo, k, a, b => if b = 0 then none else some (.int k (k.wrap (a.tdiv b)))
  | .rem, k, a, b => if b = 0 then none else some (.int k (a.tmod b))
  | .and, k, a, b => some (.int k (k.wrap (BitVec.ofInt k.bits a &&& BitVec.ofInt k.bits b).toNat))
  | .or, k, a, b => some (.int k (k.wrap (BitVec.ofInt k.bits a ||| BitVec.ofInt k.bits b).toNat))
  | .xor, k, a, b => some (.int k (k.wrap (BitVec.ofInt k.bits a ^^^ BitVec.ofInt k.bits b).toNat))
  | .andNot, k, a, b => some (.int k (k.wrap (BitVec.ofInt k.bits a &&& ~~~BitVec.ofInt k.bits b).toNat))
  | .eql, _, a, b => some (.bool (a == b))
  | .neq, _, a, b => some (.bool (a != b))
  | .lss, _, a, b => some (.bool (decide (a < b)))
  | .leq, _, a, b => some (.bool (decide (a ≤ b)))
  | .gtr, _, a, b => some (.bool (decide (a > b)))
  | .geq, _, a, b => some (.bool (decide (a ≥ b)))
  | _, _, _, _ => none
theorem binI_run {op : BinOp} {k : IntKind} {a b : Int} {v : Value} (h : binI op k a b = some v) (t : TypeId) (w : World) : (binOp op t (.int k a) (.int k b)).run P w = .ok v w := by
  cases op <;> simp only [binI] at h <;> first
    | contradiction
    | (injection h with h; subst h; simp [binOp, Op.intArith, Op.intBits, Op.intCmp]; done)
    | (split at h
       · contradiction
       · rename_i hb; injection h with h; subst h; simp [binOp, Op.intDiv, hb])
theorem eqGuard_int (op : BinOp) (t : TypeId) (x y : Operand) (k : IntKind) (a : Int) (v : Value) : eqGuard op t x y (.int k a) v = pure () := by cases op <;> rfl

theorem op_bin {op : BinOp} {t t' : TypeId} {x y : Operand} {k : IntKind} {a b : Int} {v : Value} (hx : ev env x = .int k a) (hy : ev env y = .int k b) (hv : binI op k a b = some v) :
    OpEv P T ⟨dst, .binOp op t x y t', ty, pos, after, gd⟩ env n g v n .nil :=
  .calc fun ρ w ce h => by
    have h1 := h x (by simp [Op.operands]); rw [hx] at h1
    have h2 := h y (by simp [Op.operands]); rw [hy] at h2
    have h1 := h1.int_inv; have h2 := h2.int_inv
    have hvv : VRel ρ v v := by
      cases op <;> simp only [binI] at hv <;> first
        | contradiction
        | (injection hv with hv; subst hv; constructor; done)
        | (split at hv
           · contradiction
           · injection hv with hv; subst hv; constructor)
    refine ⟨v, ?_, hvv⟩
    simp only [execOp, h1, h2, eqGuard_int, pure_bind, Sem.run_bind, binI_run hv, Result.andThen_ok, Sem.run_pure]

/-- Shifts. -/
theorem op_shl {t t' : TypeId} {x y : Operand} {k yk : IntKind} {a b : Int} (hx : ev env x = .int k a) (hy : ev env y = .int yk b) (hb : 0 ≤ b) :
    OpEv P T ⟨dst, .binOp .shl t x y t', ty, pos, after, gd⟩ env n g (.int k (k.wrap (a * 2 ^ (min b.toNat k.bits)))) n .nil :=
  .calc fun ρ w ce h => by
    have h1 := h x (by simp [Op.operands]); rw [hx] at h1
    have h2 := h y (by simp [Op.operands]); rw [hy] at h2
    refine ⟨_, ?_, .int _ _⟩
    have : ¬ b < 0 := by omega
    simp [execOp, h1.int_inv, h2.int_inv, eqGuard_int, binOp, Op.shift, this]
theorem op_shr {t t' : TypeId} {x y : Operand} {k yk : IntKind} {a b : Int} (hx : ev env x = .int k a) (hy : ev env y = .int yk b) (hb : 0 ≤ b) :
    OpEv P T ⟨dst, .binOp .shr t x y t', ty, pos, after, gd⟩ env n g (.int k (a.fdiv (2 ^ (min b.toNat k.bits)))) n .nil :=
  .calc fun ρ w ce h => by
    have h1 := h x (by simp [Op.operands]); rw [hx] at h1
    have h2 := h y (by simp [Op.operands]); rw [hy] at h2
    refine ⟨_, ?_, .int _ _⟩
    have : ¬ b < 0 := by omega
    simp [execOp, h1.int_inv, h2.int_inv, eqGuard_int, binOp, Op.shift, this]

theorem eqb_run {t : TypeId} (hu : P.underlying t = some .bool) (a b : Bool) (w : World) : (Op.equal t (.bool a) (.bool b)).run P w = .ok (a == b) w := by
  unfold Op.equal Op.maxDepth
  rw [Op.equalIn]
  simp only [Sem.run_bind, show (underlying t).run P w = .ok .bool w by simp [underlying, hu], Result.andThen_ok]
  rfl
theorem eqnil_run {t : TypeId} {d : TypeDesc} (hu : P.underlying t = some d) {x z : Value} (w : World) (b : Bool)
    (h : (match d, x, z with
      | .pointer _, .pointer a, .pointer none => b = a.isNone
      | .slice _, .slice a _ _, .slice none _ _ => b = a.isNone
      | .interface _, .nilIface, .nilIface => b = true
      | .interface _, .iface _ _, .nilIface => b = false
      | .func _ _ _, .nilFunc, .nilFunc => b = true
      | .func _ _ _, .func _ _ _, .nilFunc => b = false
      | _, _, _ => False)) : (Op.equal t x z).run P w = .ok b w := by
  unfold Op.equal Op.maxDepth
  rw [Op.equalIn]
  simp only [Sem.run_bind, show (underlying t).run P w = .ok d w by simp [underlying, hu], Result.andThen_ok]
  split at h <;> first | contradiction | skip
  all_goals
    subst h
    first
      | rfl
      | (rename Option Addr => a; cases a <;> rfl)

/-- Bools, strings: equal or not. -/
theorem op_eqb {t t' : TypeId} {x y : Operand} {a b : Bool} (hu : P.underlying t = some .bool) (hx : ev env x = .bool a) (hy : ev env y = .bool b) :
    OpEv P T ⟨dst, .binOp .eql t x y t', ty, pos, after, gd⟩ env n g (.bool (a == b)) n .nil :=
  .calc fun ρ w ce h => by
    have h1 := h x (by simp [Op.operands]); rw [hx] at h1
    have h2 := h y (by simp [Op.operands]); rw [hy] at h2
    refine ⟨_, ?_, .bool _⟩
    have e : eqGuard .eql t x y (.bool a) (.bool b) = pure () := rfl
    have e2 : binOp .eql t (.bool a) (.bool b) = (do pure (.bool (← Op.equal t (.bool a) (.bool b)))) := rfl
    simp only [execOp, h1.bool_inv, h2.bool_inv, e, e2, pure_bind, Sem.run_bind, eqb_run hu, Result.andThen_ok, Sem.run_pure]
theorem op_neb {t t' : TypeId} {x y : Operand} {a b : Bool} (hu : P.underlying t = some .bool) (hx : ev env x = .bool a) (hy : ev env y = .bool b) :
    OpEv P T ⟨dst, .binOp .neq t x y t', ty, pos, after, gd⟩ env n g (.bool (!(a == b))) n .nil :=
  .calc fun ρ w ce h => by
    have h1 := h x (by simp [Op.operands]); rw [hx] at h1
    have h2 := h y (by simp [Op.operands]); rw [hy] at h2
    refine ⟨_, ?_, .bool _⟩
    have e : eqGuard .neq t x y (.bool a) (.bool b) = pure () := rfl
    have e2 : binOp .neq t (.bool a) (.bool b) = (do pure (.bool (!(← Op.equal t (.bool a) (.bool b))))) := rfl
    simp only [execOp, h1.bool_inv, h2.bool_inv, e, e2, pure_bind, Sem.run_bind, eqb_run hu, Result.andThen_ok, Sem.run_pure]
theorem op_str {op : BinOp} {t t' : TypeId} {x y : Operand} {a b : ByteArray} {v : Value} (hx : ev env x = .string a) (hy : ev env y = .string b)
    (hv : ∀ w, (Op.stringOp op a b).run P w = .ok v w) (hf : ∀ ρ, VRel ρ v v) (hop : op ≠ .shl ∧ op ≠ .shr) :
    OpEv P T ⟨dst, .binOp op t x y t', ty, pos, after, gd⟩ env n g v n .nil :=
  .calc fun ρ w ce h => by
    have h1 := h x (by simp [Op.operands]); rw [hx] at h1
    have h2 := h y (by simp [Op.operands]); rw [hy] at h2
    refine ⟨v, ?_, hf ρ⟩
    have e : eqGuard op t x y (.string a) (.string b) = pure () := by cases op <;> rfl
    have e2 : binOp op t (.string a) (.string b) = Op.stringOp op a b := by cases op <;> first | rfl | simp_all
    simp [execOp, h1.string_inv, h2.string_inv, e, e2, hv w]

/-- A value against nil. -/
def isNilV : Value → Option Bool
  | .pointer none | .slice none 0 0 | .nilIface | .nilFunc => some true
  | .pointer (some _) | .slice (some _) _ _ | .iface _ _ | .func (.func _) _ _ => some false
  | _ => none
def nilFits : TypeDesc → Value → Value → Bool
  | .pointer _, .pointer _, .pointer none => true
  | .slice _, .slice _ _ _, .slice none 0 0 => true
  | .interface _, .nilIface, .nilIface => true
  | .interface _, .iface _ _, .nilIface => true
  | .func _ _ _, .nilFunc, .nilFunc => true
  | .func _ _ _, .func _ _ _, .nilFunc => true
  | _, _, _ => false
theorem nil_case {t : TypeId} {x : Operand} {z : Value} {d : TypeDesc} {b : Bool} (hu : P.underlying t = some d) (hd : nilFits d (ev env x) z = true) (hb : isNilV (ev env x) = some b)
    {ρ : Ren} {w : World} {ce : Operand → Value} (h1 : VRel ρ (ev env x) (ce x)) (h2 : VRel ρ (ev env (.const z)) (ce (.const z))) :
    ce (.const z) = z ∧ (∀ op y, eqGuard op t y (.const z) (ce x) z = pure ()) ∧ (binOp .eql t (ce x) z = (do pure (.bool (← Op.equal t (ce x) z)))) ∧
      (binOp .neq t (ce x) z = (do pure (.bool (!(← Op.equal t (ce x) z))))) ∧ (Op.equal t (ce x) z).run P w = .ok b w := by
  have hz : ce (.const z) = z := by
    have : flat 8 z = true := by
      unfold nilFits at hd; split at hd <;> first | rfl | contradiction
    simp only [ev, this, if_true] at h2
    generalize ce (.const z) = q at h2
    unfold nilFits at hd; split at hd <;> first | contradiction | (cases h2; rfl)
  refine ⟨hz, ?_⟩
  clear h2 hz
  generalize ce x = xc at h1
  generalize ev env x = xv at h1 hd hb
  unfold nilFits at hd
  split at hd <;> first | contradiction | skip
  all_goals
    cases h1 <;> simp only [isNilV, Option.some.injEq, reduceCtorEq] at hb <;> subst hb <;>
      exact ⟨fun op y => by cases op <;> cases y <;> rfl, rfl, rfl, eqnil_run hu w _ (by simp)⟩
theorem op_eqnil {t t' : TypeId} {x : Operand} {z : Value} {d : TypeDesc} {b : Bool} (hu : P.underlying t = some d) (hd : nilFits d (ev env x) z = true) (hb : isNilV (ev env x) = some b) :
    OpEv P T ⟨dst, .binOp .eql t x (.const z) t', ty, pos, after, gd⟩ env n g (.bool b) n .nil :=
  .calc fun ρ w ce h => by
    obtain ⟨hz, e1, e2, e3, hr⟩ := nil_case (w := w) hu hd hb (h x (by simp [Op.operands])) (h (.const z) (by simp [Op.operands]))
    refine ⟨_, ?_, .bool _⟩
    simp only [execOp, hz, e1, e2, pure_bind, Sem.run_bind, hr, Result.andThen_ok, Sem.run_pure]
theorem op_nenil {t t' : TypeId} {x : Operand} {z : Value} {d : TypeDesc} {b : Bool} (hu : P.underlying t = some d) (hd : nilFits d (ev env x) z = true) (hb : isNilV (ev env x) = some b) :
    OpEv P T ⟨dst, .binOp .neq t x (.const z) t', ty, pos, after, gd⟩ env n g (.bool (!b)) n .nil :=
  .calc fun ρ w ce h => by
    obtain ⟨hz, e1, e2, e3, hr⟩ := nil_case (w := w) hu hd hb (h x (by simp [Op.operands])) (h (.const z) (by simp [Op.operands]))
    refine ⟨_, ?_, .bool _⟩
    simp only [execOp, hz, e1, e3, pure_bind, Sem.run_bind, hr, Result.andThen_ok, Sem.run_pure]

theorem op_not {t : TypeId} {x : Operand} {b : Bool} (hx : ev env x = .bool b) : OpEv P T ⟨dst, .unOp .not t x, ty, pos, after, gd⟩ env n g (.bool (!b)) n .nil :=
  .calc fun ρ w ce h => by
    have h1 := h x (by simp [Op.operands]); rw [hx] at h1
    exact ⟨_, by simp [execOp, h1.bool_inv, Op.unary], .bool _⟩
theorem op_neg {t : TypeId} {x : Operand} {k : IntKind} {a : Int} (hx : ev env x = .int k a) : OpEv P T ⟨dst, .unOp .neg t x, ty, pos, after, gd⟩ env n g (.int k (k.wrap (0 - a))) n .nil :=
  .calc fun ρ w ce h => by
    have h1 := h x (by simp [Op.operands]); rw [hx] at h1
    exact ⟨_, by simp [execOp, h1.int_inv, Op.unary, Op.intArith], .int _ _⟩
theorem op_compl {t : TypeId} {x : Operand} {k : IntKind} {a : Int} (hx : ev env x = .int k a) :
    OpEv P T ⟨dst, .unOp .xor t x, ty, pos, after, gd⟩ env n g (.int k (k.wrap (BitVec.ofInt k.bits (if k.signed then -1 else k.max) ^^^ BitVec.ofInt k.bits a).toNat)) n .nil :=
  .calc fun ρ w ce h => by
    have h1 := h x (by simp [Op.operands]); rw [hx] at h1
    exact ⟨_, by simp [execOp, h1.int_inv, Op.unary, Op.intBits], .int _ _⟩

theorem op_conv {s t : TypeId} {x : Operand} {k k' : IntKind} {a : Int} {d : TypeDesc} (hs : P.underlying s = some d) (ht : P.underlying t = some (.int k')) (hx : ev env x = .int k a) :
    OpEv P T ⟨dst, .convert s t x, ty, pos, after, gd⟩ env n g (.int k' (k'.wrap a)) n .nil :=
  .calc fun ρ w ce h => by
    have h1 := h x (by simp [Op.operands]); rw [hx] at h1
    have hr : (underlying s).run P w = .ok d w := by simp [underlying, hs]
    have hr' : (underlying t).run P w = .ok (.int k') w := by simp [underlying, ht]
    refine ⟨_, ?_, .int _ _⟩
    simp [execOp, h1.int_inv, convert, hr, hr', Conv.intToInt]

theorem op_extract {x : Operand} {i : Nat} {vs : Array Value} {v : Value} (hx : ev env x = .tuple vs) (hv : vs[i]? = some v) :
    OpEv P T ⟨dst, .extract x i, ty, pos, after, gd⟩ env n g v n .nil :=
  .calc fun ρ w ce h => by
    have h1 := h x (by simp [Op.operands]); rw [hx] at h1
    generalize hc : ce x = c at h1
    have hi : i < vs.size := by
      rcases Nat.lt_or_ge i vs.size with h | h
      · exact h
      · simp [Array.getElem?_eq_none h] at hv
    cases h1 with
    | unk => simp at hi
    | @tuple _ ys hs hh =>
      have hi2 : i < ys.size := by omega
      refine ⟨ys.getD i (.tuple #[]), by simp [execOp, hc, Instr.extract, hi2, Array.getD], ?_⟩
      have := hh i
      have e : vs.getD i (.tuple #[]) = v := by rw [Array.getD_eq_getD_getElem?, hv]; rfl
      rwa [e] at this

theorem op_iface {t : TypeId} {x : Operand} {d : TypeDesc} (hu : P.underlying t = some d) (hd : (match d with | .interface _ => false | _ => true) = true) :
    OpEv P T ⟨dst, .makeInterface t x, ty, pos, after, gd⟩ env n g (.iface t (ev env x)) n .nil :=
  .calc fun ρ w ce h => by
    have hr : (underlying t).run P w = .ok d w := by simp [underlying, hu]
    refine ⟨.iface t (ce x), ?_, .iface (h x (by simp [Op.operands]))⟩
    simp only [execOp, Instr.makeInterface, Sem.run_bind, hr, Result.andThen_ok]
    cases d <;> first | rfl | simp at hd

theorem op_func {f : FuncId} {caps : Array Operand} : OpEv P T ⟨dst, .makeFunc (.func f) #[] caps, ty, pos, after, gd⟩ env n g (.func (.func f) #[] (caps.map (ev env))) n .nil :=
  .calc fun ρ w ce h => by
    refine ⟨.func (.func f) #[] (caps.map ce), by simp [execOp, Instr.makeFunc], .func (by simp) fun i => ?_⟩
    by_cases hi : i < caps.size
    · simp [Array.getD, hi]; exact h _ (by simp [Op.operands])
    · simp [Array.getD, hi]; exact .unk _

theorem VRel.ptr_inv {ρ : Ren} {b o : Nat} {c : Value} (h : VRel ρ (.pointer (some ⟨b, o, none⟩)) c) : ∃ L, ρ b = some L ∧ c = .pointer (some ⟨L.blk, L.off + o, none⟩) := by
  cases h with | ptr h => exact ⟨_, h, rfl⟩

theorem op_fieldAddr {s : TypeId} {x : Operand} {i b o : Nat} {fs : Array Field} {f : Field} {d : TypeDesc} {z by_ : Nat} {zv : Value} (hu : P.underlying s = some (.struct fs)) (hf : fs[i]? = some f)
    (hz : TI P f.type d z by_ zv) (hz0 : z ≠ 0) (hx : ev env x = .pointer (some ⟨b, o, none⟩)) :
    OpEv P T ⟨dst, .fieldAddr s x i, ty, pos, after, gd⟩ env n g (.pointer (some ⟨b, o + f.offset, none⟩)) n .nil :=
  .calc fun ρ w ce h => by
    have h1 := h x (by simp [Op.operands]); rw [hx] at h1
    obtain ⟨L, hL, hc⟩ := h1.ptr_inv
    have hr : (underlying s).run P w = .ok (.struct fs) w := by simp [underlying, hu]
    refine ⟨.pointer (some ⟨L.blk, L.off + (o + f.offset), none⟩), ?_, .ptr hL⟩
    simp [execOp, Instr.fieldAt, hr, hf, hc, Instr.sureAddr, fieldPlace, hz.run_sizeOf, hz0, addr_add, Nat.add_assoc]

/-- An element of a slice. -/
theorem op_indexAddr {t e : TypeId} {x y : Operand} {b o m : Nat} {k : IntKind} {i : Int} {d : TypeDesc} {z by_ : Nat} {zv : Value} (hu : P.underlying t = some (.slice e))
    (hz : TI P e d z by_ zv) (hx : ev env x = .slice (some ⟨b, o, none⟩) m m) (hy : ev env y = .int k i) (h0 : 0 ≤ i) (hi : i < m) :
    OpEv P T ⟨dst, .indexAddr t x y, ty, pos, after, gd⟩ env n g (.pointer (some ⟨b, o + i.toNat * z, none⟩)) n .nil :=
  .calc fun ρ w ce h => by
    have h1 := h x (by simp [Op.operands]); rw [hx] at h1
    have h2 := h y (by simp [Op.operands]); rw [hy] at h2
    have hr : (underlying t).run P w = .ok (.slice e) w := by simp [underlying, hu]
    generalize hc : ce x = c at h1
    cases h1 with
    | @slice _ _ _ L c' hL hn hcc =>
      refine ⟨.pointer (some ⟨L.blk, L.off + (o + i.toNat * z), none⟩), ?_, .ptr hL⟩
      simp [execOp, Instr.indexAt, hr, hc, h2.int_inv, asIntOf, h0, hi, hz.run_sizeOf, addr_add, Nat.add_assoc]
    | slice0 => omega

/-- An element of an array. -/
theorem op_arrayAddr {t e : TypeId} {x y : Operand} {b o m : Nat} {k : IntKind} {i : Int} {d : TypeDesc} {z by_ : Nat} {zv : Value} (hu : P.underlying t = some (.array m e))
    (hz : TI P e d z by_ zv) (hx : ev env x = .pointer (some ⟨b, o, none⟩)) (hy : ev env y = .int k i) (h0 : 0 ≤ i) (hi : i < m) :
    OpEv P T ⟨dst, .indexAddr t x y, ty, pos, after, gd⟩ env n g (.pointer (some ⟨b, o + i.toNat * z, none⟩)) n .nil :=
  .calc fun ρ w ce h => by
    have h1 := h x (by simp [Op.operands]); rw [hx] at h1
    have h2 := h y (by simp [Op.operands]); rw [hy] at h2
    have hr : (underlying t).run P w = .ok (.array m e) w := by simp [underlying, hu]
    obtain ⟨L, hL, hc⟩ := h1.ptr_inv
    refine ⟨.pointer (some ⟨L.blk, L.off + (o + i.toNat * z), none⟩), ?_, .ptr hL⟩
    simp [execOp, Instr.indexAt, hr, hc, h2.int_inv, asIntOf, h0, hi, hz.run_sizeOf, addr_add, Nat.add_assoc, Instr.sureAddr]

theorem op_nilCheck {x : Operand} {b o : Nat} (hx : ev env x = .pointer (some ⟨b, o, none⟩)) :
    OpEv P T ⟨dst, .nilCheck x, ty, pos, after, gd⟩ env n g (.pointer (some ⟨b, o, none⟩)) n .nil :=
  .calc fun ρ w ce h => by
    have h1 := h x (by simp [Op.operands]); rw [hx] at h1
    obtain ⟨L, hL, hc⟩ := h1.ptr_inv
    exact ⟨_, by simp [execOp, hc], .ptr hL⟩
theorem op_nilCheckI {x : Operand} {t : TypeId} {v : Value} (hx : ev env x = .iface t v) : OpEv P T ⟨dst, .nilCheck x, ty, pos, after, gd⟩ env n g (.iface t v) n .nil :=
  .calc fun ρ w ce h => by
    have h1 := h x (by simp [Op.operands]); rw [hx] at h1
    generalize hc : ce x = c at h1
    cases h1 with | iface h' => exact ⟨_, by simp [execOp, hc], .iface h'⟩
theorem op_nilCheckF {x : Operand} {f : FuncId} {caps : Array Value} (hx : ev env x = .func (.func f) #[] caps) : OpEv P T ⟨dst, .nilCheck x, ty, pos, after, gd⟩ env n g (.func (.func f) #[] caps) n .nil :=
  .calc fun ρ w ce h => by
    have h1 := h x (by simp [Op.operands]); rw [hx] at h1
    generalize hc : ce x = c at h1
    cases h1 with | func hs h' => exact ⟨_, by simp [execOp, hc], .func hs h'⟩

theorem op_len {x : Operand} {t e : TypeId} {a : Option Addr} {m c : Nat} (hu : P.underlying t = some (.slice e)) (hx : ev env x = .slice a m c) :
    OpEv P T ⟨dst, .call { callee := .builtin .len, args := #[x], argTypes := #[t] }, ty, pos, after, gd⟩ env n g (.int .i64 m) n .nil :=
  .calc fun ρ w ce h => by
    have h1 := h x (by simp [Op.operands, Call.operands]); rw [hx] at h1
    have hr : (underlying t).run P w = .ok (.slice e) w := by simp [underlying, hu]
    generalize hc : ce x = cc at h1
    refine ⟨_, ?_, .int _ _⟩
    cases h1 <;> simp [execOp, resolve, invoke, builtin, Builtin.len_, hr, hc, goInt]
theorem op_lenS {x : Operand} {t : TypeId} {s : ByteArray} (hu : P.underlying t = some .string) (hx : ev env x = .string s) :
    OpEv P T ⟨dst, .call { callee := .builtin .len, args := #[x], argTypes := #[t] }, ty, pos, after, gd⟩ env n g (.int .i64 s.size) n .nil :=
  .calc fun ρ w ce h => by
    have h1 := h x (by simp [Op.operands, Call.operands]); rw [hx] at h1
    have hr : (underlying t).run P w = .ok .string w := by simp [underlying, hu]
    exact ⟨_, by simp [execOp, resolve, invoke, builtin, Builtin.len_, hr, h1.string_inv, goInt], .int _ _⟩
theorem op_min {x y : Operand} {ts : Array TypeId} {k : IntKind} {a b : Int} (hx : ev env x = .int k a) (hy : ev env y = .int k b) :
    OpEv P T ⟨dst, .call { callee := .builtin .min, args := #[x, y], argTypes := ts }, ty, pos, after, gd⟩ env n g (.int k (min a b)) n .nil :=
  .calc fun ρ w ce h => by
    have h1 := h x (by simp [Op.operands, Call.operands]); rw [hx] at h1
    have h2 := h y (by simp [Op.operands, Call.operands]); rw [hy] at h2
    refine ⟨_, ?_, .int _ _⟩
    have : (if b < a then b else a) = min a b := by omega
    simp [execOp, resolve, invoke, builtin, Builtin.min_, Builtin.min2, h1.int_inv, h2.int_inv, this]
theorem op_max {x y : Operand} {ts : Array TypeId} {k : IntKind} {a b : Int} (hx : ev env x = .int k a) (hy : ev env y = .int k b) :
    OpEv P T ⟨dst, .call { callee := .builtin .max, args := #[x, y], argTypes := ts }, ty, pos, after, gd⟩ env n g (.int k (max a b)) n .nil :=
  .calc fun ρ w ce h => by
    have h1 := h x (by simp [Op.operands, Call.operands]); rw [hx] at h1
    have h2 := h y (by simp [Op.operands, Call.operands]); rw [hy] at h2
    refine ⟨_, ?_, .int _ _⟩
    have : (if b > a then b else a) = max a b := by omega
    simp [execOp, resolve, invoke, builtin, Builtin.max_, Builtin.max2, h1.int_inv, h2.int_inv, this]

end
end Go.Abs

/- Operations over the abstract heap: those that read, write or make memory. -/
namespace Go.Abs
open Go.RowKit

section
variable {P : Program} {T : Nat → Prop} {env : Env} {n : Nat} {g : AH}

/-- An operation that looks at memory. -/
theorem OpEv.look {o : Oper} {v : Value}
    (h : ∀ w0 ρ w H (ce : Operand → Value), g.le H → Sim w0 ρ H w → (∀ x, x ∈ o.op.operands → VRel ρ (ev env x) (ce x)) → ∃ c, (execOp ce o).run P w = .ok (.value c) w ∧ VRel ρ v c) : OpEv P T o env n g v n .nil :=
  ⟨Nat.le_refl _, .nil _ _ _, fun _ w0 ρ w H a next Q hl _ hs hr K => by
    obtain ⟨c, h1, h2⟩ := h w0 ρ w H a.eval hl hs hr
    refine wpA_value h1 ?_
    exact K ρ c w (.refl _ _ _) h2 hs⟩

variable {dst : Option Tmp} {ty : TypeId} {pos : String} {after : Array Edge} {gd : Option (Nat × Bool)}

/-- A slice's bound. -/
def bound (env : Env) (x : Option Operand) (dflt v : Int) : Prop :=
  match x with
  | none => v = dflt
  | some y => ∃ k, ev env y = .int k v

theorem op_slice {t e : TypeId} {x : Operand} {lo hi : Option Operand} {b o m : Nat} {l h : Nat} {mm : Meta} {d : TypeDesc} {z by_ : Nat} {zv : Value} (hu : P.underlying t = some (.slice e))
    (hz : TI P e d z by_ zv) (hx : ev env x = .slice (some ⟨b, o, none⟩) m m) (hlo : bound env lo 0 l) (hhi : bound env hi m h) (hlh : l ≤ h) (hhm : h ≤ m)
    (hm : g.info b = some mm) (hsz : mm.sz = 0 ∨ mm.sz = z) :
    OpEv P T ⟨dst, .slice t x lo hi none, ty, pos, after, gd⟩ env n g (.slice (some ⟨b, o + l * z, none⟩) (h - l) (h - l)) n .nil :=
  .look fun w0 ρ w H ce hl hs hop => by
    have h1 := hop x (by simp [Op.operands]); rw [hx] at h1
    have hr : (underlying t).run P w = .ok (.slice e) w := by simp [underlying, hu]
    have hlo' : ∀ y, lo = some y → ∃ k, ce y = .int k l := fun y hy => by
      subst hy; obtain ⟨k, hk⟩ := hlo
      have := hop y (by simp [Op.operands]); rw [hk] at this
      exact ⟨k, this.int_inv⟩
    have hhi' : ∀ y, hi = some y → ∃ k, ce y = .int k h := fun y hy => by
      subst hy; obtain ⟨k, hk⟩ := hhi
      have := hop y (by simp [Op.operands]); rw [hk] at this
      exact ⟨k, this.int_inv⟩
    have hh0 : hi = none → h = m := fun e => by subst e; simp only [bound] at hhi; omega
    have hl0 : lo = none → l = 0 := fun e => by subst e; simp only [bound] at hlo; omega
    have key : ∀ (a : Addr) (c : Nat), m ≤ c → (Instr.sliceAt t (.slice (some a) m c) (lo.map ce) (hi.map ce) none).run P w = .ok (.slice (if c = l then some a else some (a.add (l * z))) (h - l) (c - l)) w := by
      intro a c hmc
      have hb : (Instr.sliceBounds true m c (lo.map ce) (hi.map ce) none).run P w = .ok (l, h, c) w := by
        cases lo with
        | none =>
          have := hl0 rfl; subst this
          cases hi with
          | none => have := hh0 rfl; subst this; simp [Instr.sliceBounds]
          | some y =>
            obtain ⟨k, hk⟩ := hhi' y rfl
            have : h ≤ c := by omega
            simp [Instr.sliceBounds, Instr.sliceBound, hk, asIntOf, this]
        | some q =>
          obtain ⟨k1, hk1⟩ := hlo' q rfl
          cases hi with
          | none =>
            have := hh0 rfl; subst this
            have : l ≤ h := by omega
            simp [Instr.sliceBounds, Instr.sliceBound, hk1, asIntOf, this]
          | some y =>
            obtain ⟨k, hk⟩ := hhi' y rfl
            have e1 : h ≤ c := by omega
            have e2 : l ≤ h := by omega
            simp [Instr.sliceBounds, Instr.sliceBound, hk, hk1, asIntOf, e1, e2]
      simp only [Instr.sliceAt, Instr.slice, Sem.run_bind, hr, Result.andThen_ok, hb, hz.run_sizeOf, Sem.run_pure, Option.map_some]
    generalize hc : ce x = c at h1
    cases h1 with
    | @slice _ _ _ L c' hL hn hcc =>
      refine ⟨.slice (if c' = l then some ⟨L.blk, L.off + o, none⟩ else some ((⟨L.blk, L.off + o, none⟩ : Addr).add (l * z))) (h - l) (c' - l), ?_, ?_⟩
      · simp only [execOp, hc, Option.map_none, Sem.run_bind, key _ _ hn, Result.andThen_ok, Sem.run_pure]
      · by_cases hcl : c' = l
        · rw [if_pos hcl]
          have : h - l = 0 := by omega
          rw [this, show c' - l = 0 by omega]
          exact .slice0 _ hL
        · rw [if_neg hcl, addr_add, Nat.add_assoc]
          refine .slice _ hL (by omega) fun h0 => ?_
          obtain ⟨L', k1, k2, _⟩ := hs.info b mm (hl.info b mm hm)
          rw [hL] at k1; cases k1
          have h5 := hcc h0
          have : L.sz = z := by rcases hsz with h6 | h6 <;> omega
          rw [this] at h5 ⊢
          have h7 : l ≤ c' := by omega
          have : l * z + (c' - l) * z = c' * z := by rw [← Nat.add_mul]; congr 1; omega
          omega
    | @slice0 _ _ L a hL =>
      have e1 : l = 0 := by omega
      have e2 : h = 0 := by omega
      subst e1; subst e2
      refine ⟨.slice (some a) 0 0, ?_, ?_⟩
      · simp only [execOp, hc, Option.map_none, Sem.run_bind, key _ _ (Nat.le_refl _), Result.andThen_ok, Sem.run_pure]
        simp
      · simp; exact .slice0 _ hL

theorem op_sliceNil {t e : TypeId} {x : Operand} {lo hi : Option Operand} {d : TypeDesc} {z by_ : Nat} {zv : Value} (hu : P.underlying t = some (.slice e))
    (hz : TI P e d z by_ zv) (hx : ev env x = .slice none 0 0) (hlo : bound env lo 0 0) (hhi : bound env hi 0 0) :
    OpEv P T ⟨dst, .slice t x lo hi none, ty, pos, after, gd⟩ env n g (.slice none 0 0) n .nil :=
  .look fun w0 ρ w H ce hl hs hop => by
    have h1 := hop x (by simp [Op.operands]); rw [hx] at h1
    have hr : (underlying t).run P w = .ok (.slice e) w := by simp [underlying, hu]
    generalize hc : ce x = c at h1
    cases h1
    refine ⟨_, ?_, .nilSlice⟩
    have hb : (Instr.sliceBounds true 0 0 (lo.map ce) (hi.map ce) none).run P w = .ok (0, 0, 0) w := by
      have hlo' : ∀ y, lo = some y → ∃ k, ce y = .int k 0 := fun y hy => by
        subst hy; obtain ⟨k, hk⟩ := hlo
        have := hop y (by simp [Op.operands]); rw [hk] at this
        exact ⟨k, this.int_inv⟩
      have hhi' : ∀ y, hi = some y → ∃ k, ce y = .int k 0 := fun y hy => by
        subst hy; obtain ⟨k, hk⟩ := hhi
        have := hop y (by simp [Op.operands]); rw [hk] at this
        exact ⟨k, this.int_inv⟩
      cases lo with
      | none =>
        cases hi with
        | none => simp [Instr.sliceBounds]
        | some y => obtain ⟨k, hk⟩ := hhi' y rfl; simp [Instr.sliceBounds, Instr.sliceBound, hk, asIntOf]
      | some q =>
        obtain ⟨k1, hk1⟩ := hlo' q rfl
        cases hi with
        | none => simp [Instr.sliceBounds, Instr.sliceBound, hk1, asIntOf]
        | some y => obtain ⟨k, hk⟩ := hhi' y rfl; simp [Instr.sliceBounds, Instr.sliceBound, hk, hk1, asIntOf]
    simp only [execOp, hc, Option.map_none, Instr.sliceAt, Instr.slice, Sem.run_bind, hr, Result.andThen_ok, hb, hz.run_sizeOf, Sem.run_pure, if_true, Nat.sub_self]

/-- A variable is read. -/
theorem op_load {t : TypeId} {x : Operand} {b o : Nat} {d : TypeDesc} {z by_ : Nat} {zv : Value} {v : Value} (hz : TI P t d z by_ zv) (hx : ev env x = .pointer (some ⟨b, o, none⟩)) (ha : isAggD d = false)
    (hv : g.cell b o = v) (hk : v ≠ .tuple #[]) : OpEv P T ⟨dst, .load t x, ty, pos, after, gd⟩ env n g v n .nil :=
  .look fun w0 ρ w H ce hl hs hop => by
    have h1 := hop x (by simp [Op.operands]); rw [hx] at h1
    obtain ⟨L, hL, hc⟩ := h1.ptr_inv
    have h2 : H.cell b o = g.cell b o := (hl.cell b o).resolve_left (by rw [hv]; exact hk)
    obtain ⟨L', c, k1, k2, k3⟩ := hs.cell b o (by rw [h2, hv]; exact hk)
    rw [hL] at k1; cases k1
    rw [h2, hv] at k3
    refine ⟨c, ?_, k3⟩
    simp [execOp, Instr.loadAt, hc, Instr.sureAddr, loadVar, hz.run_isAgg, ha, k2]
theorem op_loadAgg {t : TypeId} {x : Operand} {b o : Nat} {d : TypeDesc} {z by_ : Nat} {zv : Value} (hz : TI P t d z by_ zv) (hx : ev env x = .pointer (some ⟨b, o, none⟩)) (ha : isAggD d = true)
    (hk : known (rd g b o z) = true) (hL0 : z ≠ 0) : OpEv P T ⟨dst, .load t x, ty, pos, after, gd⟩ env n g (.agg (rd g b o z).toArray) n .nil :=
  .look fun w0 ρ w H ce hl hs hop => by
    have h1 := hop x (by simp [Op.operands]); rw [hx] at h1
    obtain ⟨L, hL, hc⟩ := h1.ptr_inv
    obtain ⟨cs, k1, k2, k3⟩ := hs.rd (P := P) hl hL hk
    refine ⟨.agg cs.toArray, ?_, .agg (by simp [rd_length, k1]) fun i => ?_⟩
    · simp [execOp, Instr.loadAt, hc, Instr.sureAddr, loadVar, hz.run_isAgg, ha, hz.run_sizeOf, k3]
    · by_cases hi : i < z
      · have := (k2 i hi).2
        simpa [Array.getD_eq_getD_getElem?, List.getD] using this
      · have : (rd g b o z).toArray.getD i (.tuple #[]) = .tuple #[] := by
          simp [Array.getD, rd_length]; omega
        rw [this]; exact .unk _

/-- A value that can be laid into cells. -/
def okV : Value → Bool
  | .tuple _ => false
  | .chan _ => false
  | .agg cs => known cs.toList
  | _ => true
theorem VRel.cells {ρ : Ren} {a c : Value} (h : VRel ρ a c) (ha : okV a = true) :
    a.cells.size = c.cells.size ∧ (∀ i, VRel ρ (a.cells.toList.getD i (.tuple #[])) (c.cells.toList.getD i (.tuple #[]))) ∧ known a.cells.toList = true := by
  have one : ∀ {x y : Value}, VRel ρ x y → (∀ i, VRel ρ ([x].getD i (.tuple #[])) ([y].getD i (.tuple #[]))) := by
    intro x y h i
    cases i with
    | zero => exact h
    | succ i => simp; exact .unk _
  cases h with
  | unk => simp [okV] at ha
  | agg hs hh =>
    refine ⟨hs, fun i => ?_, ha⟩
    have := hh i
    simpa [Value.cells, Array.getD_eq_getD_getElem?, List.getD] using this
  | tuple hs hh => simp [okV] at ha
  | bool b => exact ⟨rfl, one (.bool b), rfl⟩
  | int k x => exact ⟨rfl, one (.int k x), rfl⟩
  | string s => exact ⟨rfl, one (.string s), rfl⟩
  | nilPtr => exact ⟨rfl, one .nilPtr, rfl⟩
  | nilSlice => exact ⟨rfl, one .nilSlice, rfl⟩
  | nilMap => exact ⟨rfl, one .nilMap, rfl⟩
  | nilFunc => exact ⟨rfl, one .nilFunc, rfl⟩
  | map h => exact ⟨rfl, one (.map h), rfl⟩
  | nilIface => exact ⟨rfl, one .nilIface, rfl⟩
  | ptr h => exact ⟨rfl, one (.ptr h), rfl⟩
  | slice c h hn hc => exact ⟨rfl, one (.slice c h hn hc), rfl⟩
  | slice0 a h => exact ⟨rfl, one (.slice0 a h), rfl⟩
  | iface h => exact ⟨rfl, one (.iface h), rfl⟩
  | func hs h => exact ⟨rfl, one (.func hs h), rfl⟩
  | meth h => exact ⟨rfl, one (.meth h), rfl⟩
  | yield h => exact ⟨rfl, one (.yield h), rfl⟩
  | skip => simp [okV] at ha

/-- A row of cells that are a block's own is stored to. -/
theorem Sim.storeCells {P : Program} {w0 : Base} {w : World} {ρ : Ren} {H : AH} (s : Sim w0 ρ H w) {b o : Nat} {m : Meta} {L : Loc} (hm : H.info b = some m) (hL : ρ b = some L) (vs cs : List Value)
    (hlen : vs.length = cs.length) (hown : ∀ j, j < vs.length → Own m L (o + j)) (hv : ∀ j, j < vs.length → VRel ρ (vs.getD j (.tuple #[])) (cs.getD j (.tuple #[]))) (hk : known vs = true) :
    (Go.storeCells ⟨L.blk, L.off + o, none⟩ cs).run P w = .ok () (w.setCells L.blk (L.off + o) cs) ∧ Sim w0 ρ (H.app (.sets b o vs)) (w.setCells L.blk (L.off + o) cs) := by
  obtain ⟨L', k1, kz, k2, k3, k4⟩ := s.info b m hm
  rw [hL] at k1; cases k1
  refine ⟨?_, s.stores hL vs cs o hm hlen hown hv⟩
  have := run_storeCells_cells (P := P) L.blk (L.off + o) cs 0 w ?_ ?_ ?_
  · simpa using this
  · intro j hj
    obtain ⟨_, ⟨v, h2⟩, _⟩ := k4 (o + j) (hown j (by omega))
    rw [Nat.add_zero, Nat.add_assoc, h2]; rfl
  · intro j hj
    obtain ⟨_, ⟨v, h2⟩, h3⟩ := k4 (o + j) (hown j (by omega))
    rw [Nat.add_zero, Nat.add_assoc]; exact h3.frozen h2
  · intro v hv'
    obtain ⟨j, hj, rfl⟩ := List.getElem_of_mem hv'
    have h1 := hv j (by omega)
    have h2 := (known_at vs hk j (by omega)).2
    have := h1.oneCell h2
    simpa [List.getD, hj] using this

theorem op_store {t : TypeId} {x y : Operand} {b o : Nat} {d : TypeDesc} {z by_ : Nat} {zv : Value} {m : Meta} (hz : TI P t d z by_ zv) (hx : ev env x = .pointer (some ⟨b, o, none⟩))
    (hy : okV (ev env y) = true) (hs : (ev env y).cells.size = z) (hm : g.info b = some m) (hlk : m.lock ≤ o) (hin : o + z ≤ m.size) (hT : T b ∨ n ≤ b) (hb : b < n) :
    OpEv P T ⟨dst, .store t x y, ty, pos, after, gd⟩ env n g (.tuple #[]) n (.sets b o (ev env y).cells.toList) where
  le := Nat.le_refl _
  within := fun x hx => by
    have := sets_touches hx
    subst this; exact ⟨hT, hb⟩
  run := fun rq w0 ρ w H a next Q hl hf hsim hop K => by
    have h1 := hop x (by simp [Op.operands]); rw [hx] at h1
    obtain ⟨L, hL, hc⟩ := h1.ptr_inv
    have h2 := hop y (by simp [Op.operands])
    obtain ⟨c1, c2, c3⟩ := h2.cells hy
    have hM := hl.info b m hm
    obtain ⟨L', k1, kz, k2, k3, k4⟩ := hsim.info b m hM
    rw [hL] at k1; cases k1
    have hlen : (ev env y).cells.toList.length = z := by simpa using hs
    obtain ⟨e1, e2⟩ := hsim.storeCells (P := P) (o := o) hM hL (ev env y).cells.toList (a.eval y).cells.toList (by simpa using c1)
      (fun j hj => ⟨by omega, by split <;> omega⟩) (fun j _ => c2 j) c3
    have hrun : (execOp a.eval ⟨dst, .store t x y, ty, pos, after, gd⟩).run P w = .ok .skip (w.setCells L.blk (L.off + o) (a.eval y).cells.toList) := by
      have hsz : ¬ ((a.eval y).cells.size ≠ z) := by rw [← c1]; simpa using hs
      simp only [execOp, Instr.storeAt, hc, Instr.sureAddr, storeVar, Sem.run_bind, Sem.run_pure, Result.andThen_ok, hz.run_sizeOf, if_neg hsz]
      rw [e1]; rfl
    refine wpA_skip hrun ?_
    exact K ρ _ _ (.refl _ _ _) (.unk _) e2

theorem within_new {T : Nat → Prop} {n : Nat} {m : Meta} {cs : List Value} : Within T n (n + 1) (.new n m cs) := by
  intro b hb
  have : b = n := by
    rcases hb with h | ⟨i, h⟩
    · simp only [Dl.new] at h; split at h
      · assumption
      · exact absurd rfl h
    · simp only [Dl.new] at h; split at h
      · assumption
      · exact absurd rfl h
  subst this; exact ⟨.inr (Nat.le_refl _), Nat.lt_succ_self _⟩

/-- A new variable. -/
theorem op_new {o : Oper} {v : Value} {cs : List Value} {x : Nat} (h : ∀ w0 ρ w H (ce : Operand → Value), g.le H → Sim w0 ρ H w → (∀ y, y ∈ o.op.operands → VRel ρ (ev env y) (ce y)) →
      ∃ (w1 : World) (conc : Array Value) (e : TypeId) (c : Value), Sim w0 ρ H w1 ∧ cs.length ≤ conc.size ∧ (∀ i, i < cs.length → VRel ρ (cs.getD i (.tuple #[])) (conc.getD i (.tuple #[]))) ∧
        (execOp ce o).run P w = .ok (.value c) (w1.alloc (.cells conc e)) ∧ VRel (ρ.set n ⟨w1.heap.size, 0, conc.size, x⟩) v c) :
    OpEv P T o env n g v (n + 1) (.new n ⟨cs.length, 0, true, x⟩ cs) where
  le := Nat.le_succ _
  within := within_new
  run := fun rq w0 ρ w H a next Q hl hf hsim hop K => by
    have hn := hf n (Nat.le_refl _) (Nat.lt_succ_self _)
    obtain ⟨w1, conc, e, c, h1, h2, h3, h4, h5⟩ := h w0 ρ w H a.eval hl hsim hop
    have hs := h1.new hn cs conc e x h2 h3
    refine wpA_value h4 ?_
    exact K _ c _ (.one hn _) h5 hs

theorem op_box {e : TypeId} {x : Operand} (hy : okV (ev env x) = true) :
    OpEv P T ⟨dst, .box e x, ty, pos, after, gd⟩ env n g (.pointer (some ⟨n, 0, none⟩)) (n + 1) (.new n ⟨(ev env x).cells.toList.length, 0, true, 0⟩ (ev env x).cells.toList) :=
  op_new fun w0 ρ w H ce hl hs hop => by
    obtain ⟨c1, c2, c3⟩ := (hop x (by simp [Op.operands])).cells hy
    refine ⟨w, (ce x).cells, e, .pointer (some ⟨w.heap.size, 0, none⟩), hs, by simp [c1], fun i hi => ?_, ?_, ?_⟩
    · have := c2 i; simpa [Array.getD_eq_getD_getElem?, List.getD] using this
    · simp [execOp, Instr.box, newVar, newRow]
    · exact .ptr (L := ⟨w.heap.size, 0, (ce x).cells.size, 0⟩) (Ren.set_self _ _ _)

theorem op_alloc {e : TypeId} {d : TypeDesc} {z by_ : Nat} {zv : Value} (hz : TI P e d z by_ zv) (hf : zv.cells.all (flat 8) = true) :
    OpEv P T ⟨dst, .alloc e, ty, pos, after, gd⟩ env n g (.pointer (some ⟨n, 0, none⟩)) (n + 1) (.new n ⟨zv.cells.toList.length, 0, true, 0⟩ zv.cells.toList) :=
  op_new fun w0 ρ w H ce hl hs hop => by
    refine ⟨w, zv.cells, e, .pointer (some ⟨w.heap.size, 0, none⟩), hs, by simp, fun i hi => ?_, ?_, ?_⟩
    · have hi' : i < zv.cells.size := by simpa using hi
      have := flat_rel ρ 8 _ (Array.all_eq_true.1 hf i hi')
      simpa [Array.getD, List.getD, hi'] using this
    · simp [execOp, Instr.alloc, hz.run_zeroValue, newVar, newRow]
    · exact .ptr (L := ⟨w.heap.size, 0, zv.cells.size, 0⟩) (Ren.set_self _ _ _)

end
end Go.Abs

/- A function's results, its contract out of its body, and the operations that call. -/
namespace Go.Abs
open Go.RowKit

/-- What a result variable holds at the end. -/
inductive ResV (P : Program) (env : Env) (h : AH) : ResultVar → Value → Prop
  | tmp {t : Nat} : ResV P env h (.tmp t) (env.get t)
  | cell {a b o : Nat} {t : TypeId} {d : TypeDesc} {z by_ : Nat} {zv v : Value} (hz : TI P t d z by_ zv) (hx : env.get a = .pointer (some ⟨b, o, none⟩)) (ha : isAggD d = false)
      (hv : h.cell b o = v) (hk : v ≠ .tuple #[]) : ResV P env h (.cell a t) v
  | agg {a b o : Nat} {t : TypeId} {d : TypeDesc} {z by_ : Nat} {zv : Value} (hz : TI P t d z by_ zv) (hx : env.get a = .pointer (some ⟨b, o, none⟩)) (ha : isAggD d = true)
      (hk : known (rd h b o z) = true) : ResV P env h (.cell a t) (.agg (rd h b o z).toArray)

def resRun (tmps : Array Value) : ResultVar → Sem Value
  | .tmp t => pure (tmps.getD t (.tuple #[]))
  | .cell a t => do loadVar t (← asAddr (tmps.getD a (.tuple #[])))

theorem ResV.run {P : Program} {env : Env} {h H : AH} {rv : ResultVar} {v : Value} (r : ResV P env h rv v) {w0 : Base} {w : World} {ρ : Ren} {N : Nat} {tmps : Array Value} (hs : Sim w0 ρ H w) (hl : h.le H) (he : EnvRel ρ N env tmps) :
    ∃ c, (resRun tmps rv).run P w = .ok c w ∧ VRel ρ v c := by
  cases r with
  | tmp => exact ⟨_, rfl, he.at_ _⟩
  | @cell a b o t d z by_ zv v hz hx ha hv hk =>
    have h1 := he.at_ a; rw [hx] at h1
    obtain ⟨L, hL, hc⟩ := h1.ptr_inv
    have h2 : H.cell b o = h.cell b o := (hl.cell b o).resolve_left (by rw [hv]; exact hk)
    obtain ⟨L', c, k1, k2, k3⟩ := hs.cell b o (by rw [h2, hv]; exact hk)
    rw [hL] at k1; cases k1
    rw [h2, hv] at k3
    refine ⟨c, ?_, k3⟩
    simp only [resRun, hc]
    simp [asAddr, loadVar, hz.run_isAgg, ha, k2]
  | @agg a b o t d z by_ zv hz hx ha hk =>
    have h1 := he.at_ a; rw [hx] at h1
    obtain ⟨L, hL, hc⟩ := h1.ptr_inv
    obtain ⟨cs, k1, k2, k3⟩ := hs.rd (P := P) hl hL hk
    refine ⟨.agg cs.toArray, ?_, .agg (by simp [rd_length, k1]) fun i => ?_⟩
    · simp only [resRun, hc]
      simp [asAddr, loadVar, hz.run_isAgg, ha, hz.run_sizeOf, k3]
    · by_cases hi : i < z
      · have := (k2 i hi).2
        simpa [Array.getD_eq_getD_getElem?, List.getD] using this
      · have : (rd h b o z).toArray.getD i (.tuple #[]) = .tuple #[] := by
          simp [Array.getD, rd_length]; omega
        rw [this]; exact .unk _

/-- All results together. -/
inductive ResA (P : Program) (env : Env) (h : AH) : List ResultVar → List Value → Prop
  | nil : ResA P env h [] []
  | cons {rv v rs vs} (x : ResV P env h rv v) (r : ResA P env h rs vs) : ResA P env h (rv :: rs) (v :: vs)

def packed : List Value → Value
  | [v] => v
  | vs => .tuple vs.toArray

theorem ResA.run {P : Program} {env : Env} {h H : AH} {w0 : Base} {w : World} {ρ : Ren} {N : Nat} {tmps : Array Value} (hs : Sim w0 ρ H w) (hl : h.le H) (he : EnvRel ρ N env tmps) :
    ∀ {rs : List ResultVar} {vs : List Value}, ResA P env h rs vs → ∃ cs : List Value, cs.length = vs.length ∧ (∀ i, VRel ρ (vs.getD i (.tuple #[])) (cs.getD i (.tuple #[]))) ∧
      (rs.mapM (resRun tmps)).run P w = .ok cs w := by
  intro rs vs r
  induction r with
  | nil => exact ⟨[], rfl, fun i => by simp; exact .unk _, rfl⟩
  | @cons rv v rs vs x r ih =>
    obtain ⟨cs, k1, k2, k3⟩ := ih
    obtain ⟨c, c1, c2⟩ := x.run hs hl he
    refine ⟨c :: cs, by simp [k1], fun i => ?_, ?_⟩
    · cases i with
      | zero => exact c2
      | succ i => simpa using k2 i
    · rw [List.mapM_cons]
      simp only [Sem.run_bind, c1, Result.andThen_ok, k3, Sem.run_pure]

theorem ResA.results {P : Program} {env : Env} {h H : AH} {w0 : Base} {w : World} {ρ : Ren} {N : Nat} {tmps : Array Value} {fn : Func} (hs : Sim w0 ρ H w) (hl : h.le H) (he : EnvRel ρ N env tmps)
    {vs : List Value} (r : ResA P env h fn.results.toList vs) : ∃ c, (results fn tmps).run P w = .ok c w ∧ VRel ρ (packed vs) c := by
  obtain ⟨cs, k1, k2, k3⟩ := r.run hs hl he
  refine ⟨packed cs, ?_, ?_⟩
  · unfold Go.results
    have e : (fun x : ResultVar => (resRun tmps x)) = resRun tmps := rfl
    have e2 : Go.results fn tmps = (do let vs ← fn.results.mapM (resRun tmps); pure (if h : vs.size = 1 then vs[0] else .tuple vs)) := by
      unfold Go.results
      congr 2
    unfold Go.results at e2
    rw [e2]
    rw [Array.mapM_eq_mapM_toList]
    simp only [Sem.run_bind, Sem.run_map, k3, Result.andThen_ok]
    cases cs with
    | nil => rfl
    | cons c cs =>
      cases cs with
      | nil => rfl
      | cons c' cs => rfl
  · cases vs with
    | nil => simp only [packed]; exact .unk _
    | cons v vs =>
      cases cs with
      | nil => simp at k1
      | cons c cs =>
        cases vs with
        | nil =>
          cases cs with
          | nil => simpa [packed] using k2 0
          | cons c' cs => simp at k1
        | cons v' vs =>
          cases cs with
          | nil => simp at k1
          | cons c' cs =>
            simp only [packed]
            refine .tuple (by simpa using k1.symm) fun i => ?_
            have := k2 i
            simpa [Array.getD_eq_getD_getElem?, List.getD] using this

/-- The marks are come to, one by one. -/
theorem leavesM {P : Program} {fn : Func} {tmps : Array Value} {R : Ending → World → Prop} {w0 : Base} {ρ : Ren} {H : AH} : ∀ (ms : List Nat) (w : World), Sim (w0.keep ms) ρ H w →
    (∀ w', Sim w0 ρ H w' → ∃ v, (results fn tmps).run P w' = .ok v w' ∧ R (.returned v) w') → LeavesInM (FW none) 0 P fn tmps R (markOf ms) .returning w
  | [], w, s, K => K w s
  | r :: ms, w, s, K => by
    obtain ⟨w', h1, h2⟩ := s.taken (P := P)
    exact ⟨by simp, .inl ⟨r, w', rfl, h1, leavesM ms w' h2 K⟩⟩

/-- A function's contract out of its body. -/
theorem Ev.of {P : Program} {W : Nat → Prop} {f : FuncId} {fn : Func} {c : Code} {args : Array Value} {n n' : Nat} {h h' : AH} {e : Exit} {env' : Env} {vs : List Value}
    (hf : P.funcs[f]? = some fn) (hb : fn.body = some c) (hnm : (fn.name == "runtime.NumGoroutine") = false) (ha : args.size ≤ fn.ntmps)
    (hx : Ex P (fun b => W b ∨ n ≤ b) fn.ntmps c (argEnv 0 args.toList) n h e env' n' h') (he : e = .normal ∨ e = .ret) (hr : ResA P env' h' fn.results.toList vs) :
    Ev P W f args n h (packed vs) n' h' := by
  obtain ⟨d, hle, hn, hw, hx⟩ := hx
  refine ⟨⟨fn, hf, by rw [hb]; rfl, hnm⟩, d, hle, hn, fun b hb => ⟨?_, (hw b hb).2⟩, fun w0 ρ w H cargs hl hfr hs hr' => ?_⟩
  · rcases (hw b hb).1 with (h | h) | h
    · exact .inl h
    · exact .inr h
    · exact .inr h
  refine callsIn_of_wp_marks hf hb (FW.fn none f) ?_
  refine wpIn_mono (hx none w0 ρ w H _ [] .none hl hfr hs (EnvRel.start hr' ha)) ?_
  rintro e2 a w' ⟨rfl, ms, hd, ρ', hg, he', hs'⟩
  have key := leavesM (P := P) (fn := fn) (tmps := a.tmps) (R := fun e w' => ∃ ρ' c, e = .returned c ∧ Grow n n' ρ ρ' ∧ VRel ρ' (packed vs) c ∧ Sim w0 ρ' (H.app d) w') ms w' hs' fun w2 hs2 => by
    obtain ⟨v, r1, r2⟩ := hr.results hs2 (hle.trans (hl.app d)) he'
    exact ⟨v, r1, ρ', v, rfl, hg, r2, hs2⟩
  rw [List.append_nil] at hd
  rcases he with rfl | rfl
  · show LeavesInM _ _ _ _ _ _ a.defers _ _
    rw [hd]; exact key
  · show LeavesInM _ _ _ _ _ _ a.defers _ _
    rw [hd]; exact key

section
variable {P : Program} {T W : Nat → Prop} {env : Env} {n n' : Nat} {g h' : AH}
variable {dst : Option Tmp} {ty : TypeId} {pos : String} {after : Array Edge} {gd : Option (Nat × Bool)}

theorem callFunc_run {f : FuncId} {fn : Func} (hf : P.funcs[f]? = some fn) (hb : fn.body.isSome = true) (hn : (fn.name == "runtime.NumGoroutine") = false) (args : Array Value) (w : World) :
    (callFunc f args).run P w = .ok (.enter f args) w := by
  have hb' : fn.body.isNone = false := by cases h : fn.body <;> simp_all
  simp only [callFunc, Sem.run_bind, run_program, Result.andThen_ok, hf, hn, hb', Bool.false_eq_true, if_false, Sem.run_pure]

/-- What the contract of a call says of the operation. -/
theorem op_enter {o : Oper} {f : FuncId} {args : Array Value} {r : Value} (hev : Ev P W f args n g r n' h') (hW : ∀ b, W b → T b)
    (hrun : ∀ ρ w (ce : Operand → Value), (∀ x, x ∈ o.op.operands → VRel ρ (ev env x) (ce x)) → ∃ cargs, (execOp ce o).run P w = .ok (.enter f cargs) w ∧ RelAll ρ args cargs) :
    ∃ d, h'.le (g.app d) ∧ Within W n n' d ∧ OpEv P T o env n g r n' d := by
  obtain ⟨_, d, e, hn, hw, hc⟩ := hev
  refine ⟨d, e, hw, hn, fun b hb => ⟨(hw b hb).1.imp (hW b) id, (hw b hb).2⟩, fun rd w0 ρ w H a next Q hl hf hs hop K => ?_⟩
  obtain ⟨cargs, h1, h2⟩ := hrun ρ w a.eval hop
  refine wpA_enter h1 ?_
  refine CallsIn.mono (hc w0 ρ w H cargs hl hf hs h2) ?_
  rintro e w' ⟨ρ', c, rfl, hg, hv, hs'⟩
  exact K ρ' c w' hg hv hs'

theorem op_call {f : FuncId} {xs : Array Operand} {ts : Array TypeId} {r : Value}
    (hev : Ev P W f (xs.map (ev env)) n g r n' h') (hW : ∀ b, W b → T b) :
    ∃ d, h'.le (g.app d) ∧ Within W n n' d ∧ OpEv P T ⟨dst, .call { callee := .value (.func f), args := xs, argTypes := ts }, ty, pos, after, gd⟩ env n g r n' d :=
  have ⟨⟨fn, hf, hb, hn⟩, _⟩ := hev
  op_enter hev hW fun ρ w ce hop => by
    have h1 := hop (.func f) (by simp [Op.operands, Call.operands])
    have hfc : ∃ ys, ce (.func f) = .func (.func f) #[] ys ∧ ys = #[] := by
      simp only [ev] at h1
      generalize ce (.func f) = q at h1
      cases h1 with
      | func hs _ => exact ⟨_, rfl, by simpa using hs.symm⟩
    obtain ⟨ys, hfc, rfl⟩ := hfc
    refine ⟨xs.map ce, ?_, by simp, fun i => ?_⟩
    · simp [execOp, resolve, hfc, Deferred.ofValue, invoke, callFunc_run hf hb hn]
    · by_cases hi : i < xs.size
      · simp [Array.getD, hi]; exact hop _ (by simp [Op.operands, Call.operands])
      · simp [Array.getD, hi]; exact .unk _

/-- A function value is called. -/
theorem op_callv {f : FuncId} {x : Operand} {caps : Array Value} {xs : Array Operand} {ts : Array TypeId} {r : Value} (hx : ev env x = .func (.func f) #[] caps)
    (hev : Ev P W f (xs.map (ev env) ++ caps) n g r n' h') (hW : ∀ b, W b → T b) :
    ∃ d, h'.le (g.app d) ∧ Within W n n' d ∧ OpEv P T ⟨dst, .call { callee := .value x, args := xs, argTypes := ts }, ty, pos, after, gd⟩ env n g r n' d :=
  have ⟨⟨fn, hf, hb, hn⟩, _⟩ := hev
  op_enter hev hW fun ρ w ce hop => by
    have h1 := hop x (by simp [Op.operands, Call.operands]); rw [hx] at h1
    generalize hc : ce x = q at h1
    cases h1 with
    | @func _ _ ys hs hh =>
      refine ⟨xs.map ce ++ ys, ?_, RelAll.append ⟨by simp, fun i => ?_⟩ ⟨hs, hh⟩⟩
      · simp [execOp, resolve, hc, Deferred.ofValue, invoke, callFunc_run hf hb hn]
      · by_cases hi : i < xs.size
        · simp [Array.getD, hi]; exact hop _ (by simp [Op.operands, Call.operands])
        · simp [Array.getD, hi]; exact .unk _

def isPtrD : TypeDesc → Bool
  | .pointer _ => true
  | _ => false
/-- A method is called through an interface, whose value is a struct or the like. -/
theorem op_invoke {f : FuncId} {x : Operand} {t : TypeId} {v : Value} {name : String} {m : Method} {i : TypeInfo} {d : TypeDesc} {xs : Array Operand} {ts : Array TypeId} {r : Value} (hx : ev env x = .iface t v)
    (hi : P.info? t = some i) (hm : i.methods.find? (·.name == name) = some m) (hp : m.path = #[]) (hmf : m.func = some (f, false)) (hu : P.underlying t = some d) (hd : isPtrD d = false)
    (hev : Ev P W f (#[v] ++ xs.map (ev env)) n g r n' h') (hW : ∀ b, W b → T b) :
    ∃ d, h'.le (g.app d) ∧ Within W n n' d ∧ OpEv P T ⟨dst, .call { callee := .invoke x name, args := xs, argTypes := ts }, ty, pos, after, gd⟩ env n g r n' d :=
  have ⟨⟨fn, hf, hb, hn⟩, _⟩ := hev
  op_enter hev hW fun ρ w ce hop => by
    have h1 := hop x (by simp [Op.operands, Call.operands]); rw [hx] at h1
    generalize hc : ce x = q at h1
    cases h1 with
    | @iface _ _ y hv =>
      refine ⟨#[y] ++ xs.map ce, ?_, RelAll.append ⟨rfl, fun i => ?_⟩ ⟨by simp, fun i => ?_⟩⟩
      · have hti : (typeInfo t).run P w = .ok i w := by simp [typeInfo, hi]
        have hr : (underlying t).run P w = .ok d w := by simp [underlying, hu]
        have hmeth : (method (P.types.size + Made.depth) t y name).run P w = .ok (f, y) w := by
          have hpos : 0 < Made.depth := by decide
          obtain ⟨k, hk⟩ : ∃ k, P.types.size + Made.depth = k + 1 := ⟨P.types.size + Made.depth - 1, by omega⟩
          rw [hk]
          unfold method
          simp only [Sem.run_bind, hti, Result.andThen_ok, hm, hp, follow, Sem.run_pure, hmf]
          unfold receiverAt
          simp only [Sem.run_bind, hr, Result.andThen_ok]
          revert hd; cases d <;> intro hd <;> first | (cases hd; done) | rfl
        simp only [execOp, resolve, hc, Sem.run_bind, Sem.run_pure, Result.andThen_ok, invoke]
        have e0 : (#[Value.iface t y] ++ xs.map ce)[0]? = some (.iface t y) := by
          rw [Array.getElem?_append_left (by simp)]; rfl
        simp only [e0]
        unfold callMethod
        simp only [Sem.run_bind, run_program, Result.andThen_ok, hmeth]
        have e1 : (#[Value.iface t y] ++ xs.map ce).extract 1 (#[Value.iface t y] ++ xs.map ce).size = xs.map ce := by
          apply Array.ext'
          simp
          exact List.take_of_length_le (by simp)
        rw [e1]
        exact callFunc_run hf hb hn _ _
      · cases i with
        | zero => exact hv
        | succ i => simp [Array.getD]; exact .unk _
      · by_cases hi : i < xs.size
        · simp [Array.getD, hi]; exact hop _ (by simp [Op.operands, Call.operands])
        · simp [Array.getD, hi]; exact .unk _

end
end Go.Abs

/- Contracts made exact: what a call left behind and nobody names is dropped; the one new block that is named gets the next number. -/
namespace Go.Abs
open Go.RowKit

theorem flat_eq {ρ : Ren} : ∀ (d : Nat) (v c : Value), flat d v = true → VRel ρ v c → c = v := by
  intro d
  induction d with
  | zero =>
    intro v c h hv
    unfold flat at h
    split at h <;> first | contradiction | (cases hv; rfl) | (exfalso; simp at *; done)
  | succ d ih =>
    intro v c h hv
    unfold flat at h
    split at h
    all_goals first
      | contradiction
      | (cases hv; rfl; done)
      | skip
    · rename_i d1 xs hd
      cases hd
      cases hv with
      | @agg _ ys hs hh =>
        congr 1
        apply Array.ext
        · exact hs.symm
        · intro i h1 h2
          have h3 := hh i
          have e1 : xs.getD i (.tuple #[]) = xs[i] := by simp [Array.getD, h2]
          have e2 : ys.getD i (.tuple #[]) = ys[i] := by simp [Array.getD, h1]
          rw [e1, e2] at h3
          exact ih _ _ (by simpa using (Array.all_eq_true.1 h) i h2) h3
    · rename_i hd
      cases hd
      cases hv with
      | iface hx => rw [ih _ _ h hx]
    · rename_i d1 xs hd
      cases hd
      simp only [Bool.and_eq_true] at h
      cases hv with
      | unk => simp at h
      | @tuple _ ys hs hh =>
        congr 1
        apply Array.ext
        · exact hs.symm
        · intro i h1 h2
          have h3 := hh i
          have e1 : xs.getD i (.tuple #[]) = xs[i] := by simp [Array.getD, h2]
          have e2 : ys.getD i (.tuple #[]) = ys[i] := by simp [Array.getD, h1]
          rw [e1, e2] at h3
          exact ih _ _ (by simpa using (Array.all_eq_true.1 h.2) i h2) h3

theorem flat_any {ρ ρ' : Ren} {d : Nat} {v c : Value} (h : flat d v = true) (hv : VRel ρ v c) : VRel ρ' v c := by
  rw [flat_eq d v c h hv]; exact flat_rel ρ' d v h

/-- The smaller naming is good enough for what it named. -/
theorem Sim.back {w0 : Base} {w w' : World} {ρ ρ' : Ren} {h : AH} (s : Sim w0 ρ h w) (s' : Sim w0 ρ' h w') (hl : ρ.le ρ') : Sim w0 ρ h w' where
  base := s'.base
  keep := s'.keep
  fin := s.fin
  info := fun b m hm => by
    obtain ⟨L, h1, _⟩ := s.info b m hm
    obtain ⟨L', k1, k2⟩ := s'.info b m hm
    rw [hl _ _ h1] at k1; cases k1
    exact ⟨L, h1, k2⟩
  cell := fun b i hb => by
    obtain ⟨L, v, h1, h2, h3⟩ := s.cell b i hb
    obtain ⟨L', v', k1, k2, k3⟩ := s'.cell b i hb
    rw [hl _ _ h1] at k1; cases k1
    exact ⟨L, v', h1, k2, h3.back hl v' k3⟩
  sep := fun b m L i hm hL hi b' L' i' hne hL' hor => s'.sep b m L i hm (hl _ _ hL) hi b' L' i' hne (hl _ _ hL') hor
  obj := fun b m o hb ho => by
    obtain ⟨L, c, h1, h2, h3, h4, h5⟩ := s.obj b m o hb ho
    obtain ⟨L', c', k1, k2, k3, k4, k5⟩ := s'.obj b m o hb ho
    rw [hl _ _ h1] at k1; cases k1
    exact ⟨L, c', h1, h2, h3, k4, h5.back hl k5⟩
  osep := fun b m o b' m' o' L L' hb ho hb' ho' hL hL' => s'.osep b m o b' m' o' L L' hb ho hb' ho' (hl _ _ hL) (hl _ _ hL')

theorem le_app_new {w0 : Base} {w : World} {ρ : Ren} {H : AH} {m n' : Nat} {d : Dl} {W : Nat → Prop} (s : Sim w0 ρ H w) (hW : ∀ b, ¬ W b) (hw : Within W m n' d) (hf : ∀ b, m ≤ b → ρ b = none) : H.le (H.app d) := by
  have key : ∀ b, ρ b ≠ none → ¬ d.touches b := by
    intro b hb ht
    rcases (hw b ht).1 with h1 | h1
    · exact hW b h1
    · exact hb (hf b h1)
  refine ⟨fun b mt hb => ?_, fun b i => ?_⟩
  · have h1 : ¬ d.touches b := key b (fun h => by have := (s.named b h).1; rw [hb] at this; cases this)
    have : d.info b = none := Classical.byContradiction fun h => h1 (.inl h)
    simp [AH.app, this, hb]
  · by_cases hc : H.cell b i = .tuple #[]
    · exact .inl hc
    · have h1 : ¬ d.touches b := key b (fun h => hc ((s.named b h).2 i))
      have : d.cell b i = none := Classical.byContradiction fun h => h1 (.inr ⟨i, h⟩)
      right; simp [AH.app, this]

/-- A function that turns nothing and returns what holds no address: as if it had made nothing. -/
theorem Ev.pure {P : Program} {W : Nat → Prop} {f : FuncId} {args : Array Value} {n : Nat} {h : AH} {r : Value} (hW : ∀ b, ¬ W b) (hr : flat 8 r = true)
    (hall : ∀ m, n ≤ m → ∃ n' h', Ev P W f args m h r n' h') : Ev P W f args n h r n h := by
  obtain ⟨_, _, hc, _⟩ := hall n (Nat.le_refl _)
  refine ⟨hc, .nil, .refl _, Nat.le_refl _, .nil _ _ _, fun w0 ρ w H cargs hl hf hs hra => ?_⟩
  obtain ⟨N, hN⟩ := hs.fin
  obtain ⟨n', h', _, d, hle, hn, hwi, run⟩ := hall (max n N) (by omega)
  refine CallsIn.mono (run w0 ρ w H cargs hl (fun b h1 _ => hN b (by omega)) hs hra) ?_
  rintro e w' ⟨ρ', c, rfl, hg, hv, hs'⟩
  have hle2 := le_app_new hs hW hwi (fun b hb => hN b (by omega))
  exact ⟨ρ, c, rfl, .refl _ _ _, flat_any hr hv, hs.back (hs'.anti hle2) hg.le⟩

/-- A call without arguments whose answer the empty heap gives. -/
theorem Ev.closed {P : Program} {f : FuncId} {W : Nat → Prop} {n n' m : Nat} {h h' : AH} {r : Value} (hW : ∀ b, ¬ W b) (hr : flat 8 r = true) (hev : Ev P W f #[] m .empty r n' h') : Ev P W f #[] n h r n h := by
  obtain ⟨hc, d, hle, hn, hwi, run⟩ := hev
  refine ⟨hc, .nil, .refl _, Nat.le_refl _, .nil _ _ _, fun w0 ρ w H cargs hl hf hs hra => ?_⟩
  refine CallsIn.mono (run (.start w) (fun _ => none) w .empty cargs (.refl _) (fun _ _ _ => rfl) (Sim.start w) ⟨hra.size, fun i => by simp [Array.getD]; exact .unk _⟩) ?_
  rintro e w' ⟨ρ', c, rfl, hg, hv, hs'⟩
  refine ⟨ρ, c, rfl, .refl _ _ _, flat_any hr hv, hs.move ?_ ?_ ?_ ?_⟩
  · exact hs.base.trans (hs'.base.mono hs.base.size)
  · intro l o ho _
    rw [hs'.base.block l (Array.getElem?_eq_some_iff.1 ho).1]; exact ho
  · intro b L i v _ hc
    rw [hs'.base.cell (World.block_lt_of_cell? _ _ hc)]; exact hc
  · intro b L i v _ hc hz
    exact hz.of (hs'.base.block _ (World.block_lt_of_cell? _ _ hc))

end Go.Abs
