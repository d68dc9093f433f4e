/- Contracts and laws that a statement of this seat is proved by (part 2). -/
import Derived.Test.YtfbddbpbifnhfaaGreatDoorC01
import Derived.OrdersIn
import Derived.ChangeArms
import Derived.WideShapes
import Derived.ChangeShapes
import Derived.OpenShut
import Derived.Carry
set_option linter.unusedSimpArgs false
set_option linter.unusedVariables false
/- A region that draws its order: told in the text's order; whatever order is drawn, it comes to the same. -/
namespace Go.Abs
open Go.RowKit

structure Ent where
  o : Oper
  n : Nat
  n' : Nat
  v : Value
  d : Dl

def envS (S : Nat → Bool) : Nat → List Ent → Env → Env
  | _, [], e => e
  | i, x :: xs, e => envS S (i + 1) xs (if S i then e.put x.o.dst x.v else e)
def heapS (S : Nat → Bool) : Nat → List Ent → AH → AH
  | _, [], h => h
  | i, x :: xs, h => heapS S (i + 1) xs (if S i then h.app x.d else h)

theorem Env.get_put (e : Env) (d : Option Tmp) (v : Value) (t : Nat) : (e.put d v).get t = if d = some t then v else e.get t := by
  cases d with
  | none => simp [Env.put]
  | some k =>
    simp only [Env.put, Env.get, Option.some.injEq]
    by_cases h : k = t
    · subst h; simp
    · rw [if_neg (by simpa using h), if_neg h]

theorem envS_congr {S S' : Nat → Bool} {t : Nat} : ∀ (xs : List Ent) (i : Nat) (e e' : Env), e.get t = e'.get t →
    (∀ j x, xs[j]? = some x → x.o.dst = some t → S (i + j) = S' (i + j)) → (envS S i xs e).get t = (envS S' i xs e').get t
  | [], _, _, _, h, _ => h
  | x :: xs, i, e, e', h, hh => by
    refine envS_congr xs (i + 1) _ _ ?_ fun j y hy hd => by have := hh (j + 1) y (by simpa using hy) hd; rwa [show i + (j + 1) = i + 1 + j by omega] at this
    by_cases hd : x.o.dst = some t
    · have := hh 0 x rfl hd
      simp only [Nat.add_zero] at this
      rw [← this]
      cases S i
      · exact h
      · simp [Env.get_put, hd]
    · have key : ∀ (b : Bool) (q : Env), (if b then q.put x.o.dst x.v else q).get t = q.get t := by
        intro b q; cases b
        · rfl
        · simp [Env.get_put, hd]
      rw [key, key]; exact h

theorem heapS_congr {S S' : Nat → Bool} {b : Nat} : ∀ (xs : List Ent) (i : Nat) (h h' : AH), (h.info b = h'.info b ∧ ∀ k, h.cell b k = h'.cell b k) →
    (∀ j x, xs[j]? = some x → x.d.touches b → S (i + j) = S' (i + j)) → (heapS S i xs h).info b = (heapS S' i xs h').info b ∧ ∀ k, (heapS S i xs h).cell b k = (heapS S' i xs h').cell b k
  | [], _, _, _, h, _ => h
  | x :: xs, i, h, h', hq, hh => by
    refine heapS_congr xs (i + 1) _ _ ?_ fun j y hy hd => by have := hh (j + 1) y (by simpa using hy) hd; rwa [show i + (j + 1) = i + 1 + j by omega] at this
    by_cases hd : x.d.touches b
    · have := hh 0 x rfl hd
      simp only [Nat.add_zero] at this
      rw [← this]
      cases S i
      · exact hq
      · simp only [if_true, AH.app]
        exact ⟨by rw [hq.1], fun k => by rw [hq.2 k]⟩
    · have hi : x.d.info b = none := Classical.byContradiction fun h => hd (.inl h)
      have hc : ∀ k, x.d.cell b k = none := fun k => Classical.byContradiction fun h => hd (.inr ⟨k, h⟩)
      have key : ∀ (c : Bool) (q : AH), (if c then q.app x.d else q).info b = q.info b ∧ ∀ k, (if c then q.app x.d else q).cell b k = q.cell b k := by
        intro c q; cases c
        · exact ⟨rfl, fun _ => rfl⟩
        · simp [AH.app, hi, hc]
      exact ⟨by rw [(key _ _).1, (key _ _).1]; exact hq.1, fun k => by rw [(key _ _).2, (key _ _).2]; exact hq.2 k⟩

theorem AH.app_comm (h : AH) {d e : Dl} (hd : ∀ b, ¬ (d.touches b ∧ e.touches b)) : (h.app d).app e = (h.app e).app d := by
  simp only [AH.app, AH.mk.injEq]
  constructor
  · funext b
    cases h1 : d.info b with
    | none => rfl
    | some x =>
      cases h2 : e.info b with
      | none => rfl
      | some y => exact absurd ⟨.inl (by rw [h1]; simp), .inl (by rw [h2]; simp)⟩ (hd b)
  · funext b k
    cases h1 : d.cell b k with
    | none => rfl
    | some x =>
      cases h2 : e.cell b k with
      | none => rfl
      | some y => exact absurd ⟨.inr ⟨k, by rw [h1]; simp⟩, .inr ⟨k, by rw [h2]; simp⟩⟩ (hd b)

theorem heapS_later {S : Nat → Bool} {d : Dl} : ∀ (xs : List Ent) (i : Nat) (h : AH), (∀ j x, xs[j]? = some x → S (i + j) = true → ∀ b, ¬ (d.touches b ∧ x.d.touches b)) →
    heapS S i xs (h.app d) = (heapS S i xs h).app d
  | [], _, _, _ => rfl
  | x :: xs, i, h, hh => by
    simp only [heapS]
    rw [← heapS_later xs (i + 1) _ fun j y hy hs => hh (j + 1) y (by simpa using hy) (by rwa [show i + (j + 1) = i + 1 + j by omega])]
    congr 1
    cases hs : S i with
    | false => rfl
    | true => exact AH.app_comm h (hh 0 x rfl (by simpa using hs))

theorem heapS_insert {S S' : Nat → Bool} {i0 : Nat} : ∀ (xs : List Ent) (i : Nat) (h : AH) (x0 : Ent), i ≤ i0 → xs[i0 - i]? = some x0 → S i0 = false → S' i0 = true → (∀ j, j ≠ i0 → S' j = S j) →
    (∀ j x, xs[j]? = some x → i0 < i + j → S (i + j) = true → ∀ b, ¬ (x0.d.touches b ∧ x.d.touches b)) → heapS S' i xs h = (heapS S i xs h).app x0.d
  | [], i, h, x0, _, hx, _, _, _, _ => by simp at hx
  | x :: xs, i, h, x0, hle, hx, h1, h2, h3, h4 => by
    simp only [heapS]
    by_cases e : i = i0
    · subst e
      simp only [Nat.sub_self, List.getElem?_cons_zero, Option.some.injEq] at hx
      subst hx
      rw [h1, h2]
      simp only [if_true, Bool.false_eq_true, if_false]
      rw [← heapS_later xs (i + 1) h fun j y hy hs => h4 (j + 1) y (by simpa using hy) (by omega) (by rwa [show i + (j + 1) = i + 1 + j by omega])]
      -- the rest is taken alike
      have : ∀ (ys : List Ent) (k : Nat) (q : AH), i < k → heapS S' k ys q = heapS S k ys q := by
        intro ys
        induction ys with
        | nil => intros; rfl
        | cons y ys ih => intro k q hk; simp only [heapS]; rw [h3 k (by omega), ih (k + 1) _ (by omega)]
      exact this xs (i + 1) _ (by omega)
    · rw [h3 i e]
      exact heapS_insert xs (i + 1) _ x0 (by omega) (by rw [show i0 - i = (i0 - (i + 1)) + 1 by omega] at hx; simpa using hx) h1 h2 h3
        fun j y hy hl hs => h4 (j + 1) y (by simpa using hy) (by omega) (by rwa [show i + (j + 1) = i + 1 + j by omega])

theorem envS_insert {S S' : Nat → Bool} {i0 t : Nat} : ∀ (xs : List Ent) (i : Nat) (e : Env) (x0 : Ent), i ≤ i0 → xs[i0 - i]? = some x0 → S i0 = false → S' i0 = true → (∀ j, j ≠ i0 → S' j = S j) →
    (∀ j x, xs[j]? = some x → i0 < i + j → S (i + j) = true → x0.o.dst = some t → x.o.dst ≠ some t) → (envS S' i xs e).get t = ((envS S i xs e).put x0.o.dst x0.v).get t
  | [], i, h, x0, _, hx, _, _, _, _ => by simp at hx
  | x :: xs, i, e, x0, hle, hx, h1, h2, h3, h4 => by
    simp only [envS]
    by_cases ei : i = i0
    · subst ei
      simp only [Nat.sub_self, List.getElem?_cons_zero, Option.some.injEq] at hx
      subst hx
      rw [h1, h2]
      simp only [if_true, Bool.false_eq_true, if_false]
      have same : ∀ (ys : List Ent) (k : Nat) (q : Env), i < k → envS S' k ys q = envS S k ys q := by
        intro ys
        induction ys with
        | nil => intros; rfl
        | cons y ys ih => intro k q hk; simp only [envS]; rw [h3 k (by omega), ih (k + 1) _ (by omega)]
      rw [same xs (i + 1) _ (by omega), Env.get_put]
      by_cases hd : x.o.dst = some t
      · rw [if_pos hd]
        have later : ∀ (ys : List Ent) (k : Nat) (q : Env), (∀ j y, ys[j]? = some y → S (k + j) = true → y.o.dst ≠ some t) → (envS S k ys q).get t = q.get t := by
          intro ys
          induction ys with
          | nil => intros; rfl
          | cons y ys ih =>
            intro k q hq
            simp only [envS]
            rw [ih (k + 1) _ fun j z hz hs => hq (j + 1) z (by simpa using hz) (by rwa [show k + (j + 1) = k + 1 + j by omega])]
            cases hs : S k with
            | false => rfl
            | true =>
              have := hq 0 y rfl (by simpa using hs)
              simp [Env.get_put, this]
        rw [later xs (i + 1) _ fun j y hy hs => h4 (j + 1) y (by simpa using hy) (by omega) (by rwa [show i + (j + 1) = i + 1 + j by omega]) hd]
        simp [Env.get_put, hd]
      · rw [if_neg hd]
        exact envS_congr xs (i + 1) _ _ (by simp [Env.get_put, hd]) fun _ _ _ _ => rfl
    · rw [h3 i ei]
      exact envS_insert xs (i + 1) _ x0 (by omega) (by rw [show i0 - i = (i0 - (i + 1)) + 1 by omega] at hx; simpa using hx) h1 h2 h3
        fun j y hy hl hs => h4 (j + 1) y (by simpa using hy) (by omega) (by rwa [show i + (j + 1) = i + 1 + j by omega])

def waitsFor (o : Oper) : List Nat := (o.after.toList.filter (Region.binds .any)).map (·.on)
def maskOf (acc : List Nat) (o : Oper) : Nat := (waitsFor o).foldl (fun s j => s ||| 2 ^ j ||| acc.getD j 0) 0
def masksOf : List Oper → List Nat → List Nat
  | [], acc => acc
  | o :: os, acc => masksOf os (acc ++ [maskOf acc o])

theorem maskOf_bit {acc : List Nat} {o : Oper} {j : Nat} (h : (maskOf acc o).testBit j = true) : ∃ k, k ∈ waitsFor o ∧ (j = k ∨ (acc.getD k 0).testBit j = true) := by
  unfold maskOf at h
  have key : ∀ (l : List Nat) (s : Nat), (l.foldl (fun s j => s ||| 2 ^ j ||| acc.getD j 0) s).testBit j = true → s.testBit j = true ∨ ∃ k, k ∈ l ∧ (j = k ∨ (acc.getD k 0).testBit j = true) := by
    intro l
    induction l with
    | nil => intro s h; exact .inl h
    | cons a l ih =>
      intro s h
      rcases ih _ h with h1 | ⟨k, h1, h2⟩
      · simp only [Nat.testBit_or, Bool.or_eq_true] at h1
        rcases h1 with (h1 | h1) | h1
        · exact .inl h1
        · refine .inr ⟨a, by simp, .inl ?_⟩
          by_cases e : j = a
          · exact e
          · rw [Nat.testBit_two_pow] at h1; simp at h1; exact h1.symm
        · exact .inr ⟨a, by simp, .inr h1⟩
      · exact .inr ⟨k, by simp [h1], h2⟩
  rcases key _ 0 h with h1 | h1
  · simp at h1
  · exact h1

def Closed (ops : List Oper) (S : Nat → Bool) : Prop := ∀ i o, ops[i]? = some o → S i = true → ∀ j, j ∈ waitsFor o → S j = true

theorem masksOf_spec (all : List Oper) : ∀ (os : List Oper) (acc : List Nat), (∀ i, all[acc.length + i]? = os[i]?) →
    (∀ i o S, i < acc.length → all[i]? = some o → Closed all S → (∀ j, j ∈ waitsFor o → S j = true) → ∀ j, (acc.getD i 0).testBit j = true → S j = true) →
    ∀ i o S, i < acc.length + os.length → all[i]? = some o → Closed all S → (∀ j, j ∈ waitsFor o → S j = true) → ∀ j, ((masksOf os acc).getD i 0).testBit j = true → S j = true
  | [], acc, _, h, i, o, S, hi => by simpa [masksOf] using h i o S (by simpa using hi)
  | q :: os, acc, hall, h, i, o, S, hi => by
    simp only [masksOf]
    refine masksOf_spec all os (acc ++ [maskOf acc q]) (fun i => ?_) ?_ i o S (by simp at hi ⊢; omega)
    · have := hall (i + 1)
      simp only [List.getElem?_cons_succ] at this
      rw [← this]; congr 1; simp; omega
    · intro i o S hi ho hS hw j hj
      simp only [List.length_append, List.length_cons, List.length_nil, Nat.zero_add] at hi
      by_cases hlt : i < acc.length
      · refine h i o S hlt ho hS hw j ?_
        simpa [List.getD, List.getElem?_append_left hlt] using hj
      · have e : i = acc.length := by omega
        subst e
        have : (acc ++ [maskOf acc q]).getD acc.length 0 = maskOf acc q := by simp [List.getD]
        rw [this] at hj
        have hq : all[acc.length]? = some q := by simpa using hall 0
        rw [hq] at ho; cases ho
        obtain ⟨k, k1, k2⟩ := maskOf_bit hj
        have hk := hw k k1
        rcases k2 with rfl | k2
        · exact hk
        · by_cases hkl : k < acc.length
          · cases hok : all[k]? with
            | none =>
              have := hall 0
              have h5 : all.length ≤ k := by simpa using hok
              have h6 : acc.length < all.length := by
                have := (List.getElem?_eq_some_iff.1 hq).1; exact this
              omega
            | some ok => exact h k ok S hkl hok hS (fun j hj => hS k ok hok hk j hj) j k2
          · have : acc.getD k 0 = 0 := by simp [List.getD, List.getElem?_eq_none (Nat.le_of_not_lt hkl)]
            rw [this] at k2; simp at k2

structure Step where
  e : Ent
  env : Env
  g : AH
  R : Nat → Prop
  W : Nat → Prop
  yes : Bool

structure StepOk (P : Program) (T : Nat → Prop) (ops : Array Oper) (x : Step) : Prop where
  le : x.e.n ≤ x.e.n'
  want : wants ops x.e.o x.env = some x.yes
  run : x.yes = true → OpEv P T x.e.o x.env x.e.n x.g x.e.v x.e.n' x.e.d
  skip : x.yes = false → x.e.v = skipV ∧ x.e.d = .nil ∧ x.e.n' = x.e.n
  look : ∀ b, (x.g.info b ≠ none ∨ ∃ k, x.g.cell b k ≠ .tuple #[]) → x.R b
  turn : ∀ b, x.e.d.touches b → (x.W b ∨ x.e.n ≤ b) ∧ b < x.e.n'
  old : ∀ b, x.R b → b < x.e.n
  within : Within T x.e.n x.e.n' x.e.d

def Clash (x y : Step) : Prop := (∀ b, x.R b → ¬ (y.W b ∨ (y.e.n ≤ b ∧ b < y.e.n'))) ∧ (∀ b, y.R b → ¬ x.W b) ∧ (∀ b, x.W b → ¬ (y.W b ∨ (y.e.n ≤ b ∧ b < y.e.n')))

def clashFree (mask : Nat) (x : Step) : Nat → List Step → Prop
  | _, [] => True
  | j, y :: ys => (mask.testBit (j - 1) = true ∨ Clash x y) ∧ clashFree mask x (j - 1) ys

inductive Txt (P : Program) (T : Nat → Prop) (ops : Array Oper) (masks : List Nat) : List Step → List Oper → Env → Nat → AH → Env → Nat → AH → List Step → Prop
  | nil {past env n h} : Txt P T ops masks past [] env n h env n h []
  | cons {past o os env n h h1 env' n' h' rest} (x : Step) (ho : x.e.o = o) (he : x.env = env) (hn : x.e.n = n) (hg : x.g.le h) (ok : StepOk P T ops x)
      (hc : clashFree (masks.getD past.length 0) x past.length past) (hh : h1.le (h.app x.e.d))
      (hr : Txt P T ops masks (x :: past) os (env.put o.dst x.e.v) x.e.n' h1 env' n' h' rest) : Txt P T ops masks past (o :: os) env n h env' n' h' (x :: rest)

end Go.Abs

/- Whatever order is drawn, a region comes to what the text's order comes to. -/
namespace Go.Abs
open Go.RowKit

theorem filter_le (p p' : Nat → Bool) (h : ∀ x, p' x = true → p x = true) : ∀ l : List Nat, (l.filter p').length ≤ (l.filter p).length
  | [] => Nat.le_refl _
  | a :: l => by
    have ih := filter_le p p' h l
    by_cases h1 : p' a = true
    · simp [h1, h a h1, ih]
    · have h1 : p' a = false := by simpa using h1
      by_cases h2 : p a = true
      · simp [h1, h2]; omega
      · have h2 : p a = false := by simpa using h2
        simp [h1, h2, ih]
theorem filter_lt (p p' : Nat → Bool) (h : ∀ x, p' x = true → p x = true) (x : Nat) (h1 : p x = true) (h2 : p' x = false) : ∀ l : List Nat, x ∈ l → (l.filter p').length < (l.filter p).length
  | [], hx => by simp at hx
  | a :: l, hx => by
    by_cases e : a = x
    · subst e
      have := filter_le p p' h l
      simp [h1, h2]; omega
    · have hx' : x ∈ l := by
        rcases List.mem_cons.1 hx with h | h
        · exact absurd h.symm e
        · exact h
      have ih := filter_lt p p' h x h1 h2 l hx'
      by_cases h3 : p' a = true
      · simp [h3, h a h3, ih]
      · have h3 : p' a = false := by simpa using h3
        by_cases h4 : p a = true
        · simp [h3, h4]; omega
        · have h4 : p a = false := by simpa using h4
          simp [h3, h4, ih]

def ents (xs : List Step) : List Ent := xs.map (·.e)
def upTo (i : Nat) : Nat → Bool := fun j => decide (j < i)

structure TxtOk (P : Program) (T : Nat → Prop) (ops : Array Oper) (masks : List Nat) (xs : List Step) (env0 : Env) (n0 : Nat) (h0 : AH) (env' : Env) (n' : Nat) (h' : AH) : Prop where
  step : ∀ (i : Nat) (x : Step), xs[i]? = some x → StepOk P T ops x
  env : ∀ (i : Nat) (x : Step), xs[i]? = some x → ∀ t, x.env.get t = (envS (upTo i) 0 (ents xs) env0).get t
  heap : ∀ (i : Nat) (x : Step), xs[i]? = some x → x.g.le (heapS (upTo i) 0 (ents xs) h0)
  clash : ∀ (i : Nat) (x : Step) (j : Nat) (y : Step), xs[i]? = some x → xs[j]? = some y → j < i → (masks.getD i 0).testBit j = true ∨ Clash x y
  mono : ∀ (i : Nat) (x : Step) (j : Nat) (y : Step), xs[i]? = some x → xs[j]? = some y → j < i → y.e.n' ≤ x.e.n
  low : ∀ (i : Nat) (x : Step), xs[i]? = some x → n0 ≤ x.e.n
  high : ∀ (i : Nat) (x : Step), xs[i]? = some x → x.e.n' ≤ n'
  le : n0 ≤ n'
  envEnd : ∀ t, env'.get t = (envS (fun _ => true) 0 (ents xs) env0).get t
  heapEnd : h'.le (heapS (fun _ => true) 0 (ents xs) h0)

theorem envS_snoc (S : Nat → Bool) (y : Ent) : ∀ (xs : List Ent) (i : Nat) (e : Env), envS S i (xs ++ [y]) e = if S (i + xs.length) then (envS S i xs e).put y.o.dst y.v else envS S i xs e
  | [], i, e => by simp [envS]
  | x :: xs, i, e => by
    simp only [List.cons_append, envS, envS_snoc S y xs (i + 1), List.length_cons]
    rw [show i + 1 + xs.length = i + (xs.length + 1) by omega]
theorem heapS_snoc (S : Nat → Bool) (y : Ent) : ∀ (xs : List Ent) (i : Nat) (h : AH), heapS S i (xs ++ [y]) h = if S (i + xs.length) then (heapS S i xs h).app y.d else heapS S i xs h
  | [], i, e => by simp [heapS]
  | x :: xs, i, e => by
    simp only [List.cons_append, heapS, heapS_snoc S y xs (i + 1), List.length_cons]
    rw [show i + 1 + xs.length = i + (xs.length + 1) by omega]
theorem envS_ext {S S' : Nat → Bool} : ∀ (xs : List Ent) (i : Nat) (e : Env), (∀ j, j < i + xs.length → i ≤ j → S j = S' j) → envS S i xs e = envS S' i xs e
  | [], _, _, _ => rfl
  | x :: xs, i, e, h => by
    simp only [envS]
    rw [h i (by simp) (Nat.le_refl _), envS_ext xs (i + 1) _ fun j h1 h2 => h j (by simp; omega) (by omega)]
theorem heapS_ext {S S' : Nat → Bool} : ∀ (xs : List Ent) (i : Nat) (e : AH), (∀ j, j < i + xs.length → i ≤ j → S j = S' j) → heapS S i xs e = heapS S' i xs e
  | [], _, _, _ => rfl
  | x :: xs, i, e, h => by
    simp only [heapS]
    rw [h i (by simp) (Nat.le_refl _), heapS_ext xs (i + 1) _ fun j h1 h2 => h j (by simp; omega) (by omega)]
theorem heapS_le (S : Nat → Bool) : ∀ (xs : List Ent) (i : Nat) {h h' : AH}, h.le h' → (heapS S i xs h).le (heapS S i xs h')
  | [], _, _, _, hl => hl
  | x :: xs, i, h, h', hl => by
    simp only [heapS]
    refine heapS_le S xs (i + 1) ?_
    cases S i
    · exact hl
    · exact hl.app _

theorem TxtOk.nil {P : Program} {T : Nat → Prop} {ops : Array Oper} {masks : List Nat} (env0 : Env) (n0 : Nat) (h0 : AH) : TxtOk P T ops masks [] env0 n0 h0 env0 n0 h0 where
  step := fun i x h => by simp at h
  env := fun i x h => by simp at h
  heap := fun i x h => by simp at h
  clash := fun i x j y h => by simp at h
  mono := fun i x j y h => by simp at h
  low := fun i x h => by simp at h
  high := fun i x h => by simp at h
  le := Nat.le_refl _
  envEnd := fun _ => rfl
  heapEnd := .refl _

theorem clashFree_at (mask : Nat) (x : Step) : ∀ (past : List Step) (j : Nat) (y : Step), clashFree mask x past.length past → past.reverse[j]? = some y → mask.testBit j = true ∨ Clash x y
  | [], j, y, _, h => by simp at h
  | z :: past, j, y, hc, h => by
    simp only [clashFree, List.length_cons, Nat.add_sub_cancel] at hc
    simp only [List.reverse_cons] at h
    rcases Nat.lt_or_ge j past.length with hj | hj
    · rw [List.getElem?_append_left (by simpa using hj)] at h
      exact clashFree_at mask x past j y hc.2 h
    · rw [List.getElem?_append_right (by simpa using hj)] at h
      simp only [List.length_reverse] at h
      have e : j = past.length := by
        rcases Nat.lt_or_ge (j - past.length) 1 with h1 | h1
        · omega
        · rw [List.getElem?_eq_none (by simpa using h1)] at h; cases h
      subst e
      simp at h; subst h
      exact hc.1

theorem TxtOk.snoc {P : Program} {T : Nat → Prop} {ops : Array Oper} {masks : List Nat} {past : List Step} {env0 : Env} {n0 : Nat} {h0 : AH} {env : Env} {n : Nat} {h h1 : AH} (t : TxtOk P T ops masks past.reverse env0 n0 h0 env n h) (x : Step)
    (he : x.env = env) (hn : x.e.n = n) (hg : x.g.le h) (ok : StepOk P T ops x) (hc : clashFree (masks.getD past.length 0) x past.length past) (hh : h1.le (h.app x.e.d)) :
    TxtOk P T ops masks (x :: past).reverse env0 n0 h0 (env.put x.e.o.dst x.e.v) x.e.n' h1 := by
  have hle := ok.le
  have hl : (ents past.reverse).length = past.length := by simp [ents]
  have hents : ents (x :: past).reverse = ents past.reverse ++ [x.e] := by simp [ents]
  have old : ∀ i y, i < past.length → (x :: past).reverse[i]? = some y → past.reverse[i]? = some y := by
    intro i y hi h
    rwa [List.reverse_cons, List.getElem?_append_left (by simpa using hi)] at h
  have split : ∀ i y, (x :: past).reverse[i]? = some y → (i < past.length ∧ past.reverse[i]? = some y) ∨ (i = past.length ∧ y = x) := by
    intro i y h
    rcases Nat.lt_or_ge i past.length with hi | hi
    · exact .inl ⟨hi, old i y hi h⟩
    · right
      rw [List.reverse_cons, List.getElem?_append_right (by simpa using hi)] at h
      simp only [List.length_reverse] at h
      have e : i = past.length := by
        rcases Nat.lt_or_ge (i - past.length) 1 with h1 | h1
        · omega
        · rw [List.getElem?_eq_none (by simpa using h1)] at h; cases h
      subst e
      simp at h; exact ⟨rfl, h.symm⟩
  have hb : ∀ i, i ≤ past.length → envS (upTo i) 0 (ents (x :: past).reverse) env0 = envS (upTo i) 0 (ents past.reverse) env0 := by
    intro i hi
    rw [hents, envS_snoc, hl, if_neg]
    simp only [upTo, Nat.zero_add, decide_eq_true_eq]; omega
  have hb' : ∀ i, i ≤ past.length → heapS (upTo i) 0 (ents (x :: past).reverse) h0 = heapS (upTo i) 0 (ents past.reverse) h0 := by
    intro i hi
    rw [hents, heapS_snoc, hl, if_neg]
    simp only [upTo, Nat.zero_add, decide_eq_true_eq]; omega
  have eAll : envS (upTo past.length) 0 (ents past.reverse) env0 = envS (fun _ => true) 0 (ents past.reverse) env0 :=
    envS_ext _ _ _ fun j h1 _ => by rw [hl] at h1; simp [upTo]; omega
  have hAll : heapS (upTo past.length) 0 (ents past.reverse) h0 = heapS (fun _ => true) 0 (ents past.reverse) h0 :=
    heapS_ext _ _ _ fun j h1 _ => by rw [hl] at h1; simp [upTo]; omega
  refine ⟨?_, ?_, ?_, ?_, ?_, ?_, ?_, ?_, ?_, ?_⟩
  · intro i y hy
    rcases split i y hy with ⟨_, h2⟩ | ⟨_, rfl⟩
    · exact t.step i y h2
    · exact ok
  · intro i y hy s
    rcases split i y hy with ⟨h1, h2⟩ | ⟨rfl, rfl⟩
    · rw [hb i (by omega)]; exact t.env i y h2 s
    · rw [hb _ (Nat.le_refl _), eAll, he]; exact t.envEnd s
  · intro i y hy
    rcases split i y hy with ⟨h1, h2⟩ | ⟨rfl, rfl⟩
    · rw [hb' i (by omega)]; exact t.heap i y h2
    · rw [hb' _ (Nat.le_refl _), hAll]; exact hg.trans t.heapEnd
  · intro i y j z hy hz hji
    rcases split i y hy with ⟨h1, h2⟩ | ⟨rfl, rfl⟩
    · exact t.clash i y j z h2 (old j z (by omega) hz) hji
    · exact clashFree_at _ _ past j z hc (old j z hji hz)
  · intro i y j z hy hz hji
    rcases split i y hy with ⟨h1, h2⟩ | ⟨rfl, rfl⟩
    · exact t.mono i y j z h2 (old j z (by omega) hz) hji
    · rw [hn]; exact t.high j z (old j z hji hz)
  · intro i y hy
    rcases split i y hy with ⟨h1, h2⟩ | ⟨rfl, rfl⟩
    · exact t.low i y h2
    · rw [hn]; exact t.le
  · intro i y hy
    rcases split i y hy with ⟨h1, h2⟩ | ⟨rfl, rfl⟩
    · have := t.high i y h2; omega
    · exact Nat.le_refl _
  · have := t.le; omega
  · intro s
    rw [hents, envS_snoc]
    simp only [if_true]
    rw [Env.get_put, Env.get_put, t.envEnd s]
  · rw [hents, heapS_snoc]
    simp only [if_true]
    exact hh.trans (t.heapEnd.app _)

theorem Txt.ok {P : Program} {T : Nat → Prop} {ops : Array Oper} {masks : List Nat} {past os env n h env' n' h' rest} (t : Txt P T ops masks past os env n h env' n' h' rest) :
    ∀ {env0 : Env} {n0 : Nat} {h0 : AH}, TxtOk P T ops masks past.reverse env0 n0 h0 env n h → TxtOk P T ops masks (past.reverse ++ rest) env0 n0 h0 env' n' h' ∧ rest.map (·.e.o) = os := by
  induction t with
  | nil => intro env0 n0 h0 h; exact ⟨by simpa using h, rfl⟩
  | cons x ho he hn hg ok hc hh hr ih =>
    intro env0 n0 h0 h
    subst ho
    obtain ⟨h1, h2⟩ := ih (h.snoc x he hn hg ok hc hh)
    exact ⟨by simpa using h1, by simp [h2]⟩

def staticOk (ops : Array Oper) (masks : List Nat) : Bool :=
  (List.range ops.size).all fun i => (List.range i).all fun j => (masks.getD i 0).testBit j || (match ops[j]?, ops[i]? with | some a, some b => Oper.apart ops a b | _, _ => false)
def backOk (ops : Array Oper) : Bool := ops.toList.zipIdx.all fun (o, i) => (waitsFor o).all (· < i)

theorem staticOk_at {ops : Array Oper} {masks : List Nat} (h : staticOk ops masks = true) {i j : Nat} {a b : Oper} (hj : j < i) (ha : ops[j]? = some a) (hb : ops[i]? = some b) :
    (masks.getD i 0).testBit j = true ∨ Oper.apart ops a b = true := by
  have hi : i < ops.size := (Array.getElem?_eq_some_iff.1 hb).1
  have h1 := (List.all_eq_true.1 h) i (by simpa using hi)
  have h2 := (List.all_eq_true.1 h1) j (by simpa using hj)
  rw [ha, hb] at h2
  simpa using h2
theorem backOk_at {ops : Array Oper} (h : backOk ops = true) {i : Nat} {o : Oper} (hi : ops[i]? = some o) : ∀ j, j ∈ waitsFor o → j < i := by
  intro j hj
  have h1 := (List.all_eq_true.1 h) (o, i) (by
    rw [List.mem_zipIdx_iff_getElem?]; simpa using hi)
  simpa using (List.all_eq_true.1 h1) j hj

theorem Txt.sound {P : Program} {T : Nat → Prop} {ops : Array Oper} {masks : List Nat} {N : Nat} {env0 : Env} {n0 : Nat} {h0 : AH} {env' : Env} {n' : Nat} {h' : AH} {xs : List Step} (hmk : masksOf ops.toList [] = masks) (hst : staticOk ops masks = true) (hbk : backOk ops = true)
    (hdst : dstOk N ops.toList = true) (t : TxtOk P T ops masks xs env0 n0 h0 env' n' h') (hxs : xs.map (·.e.o) = ops.toList)
    (dfs : List Deferred) (rd : Option Nat) (w0 : Base) (ρ0 : Ren) (H : AH) (hl : h0.le H) (Q : Exit → Act → World → Prop)
    (K : ∀ ρ' a' w', Grow n0 n' ρ0 ρ' → EnvRel ρ' N env' a'.tmps → a'.defers = dfs → Sim w0 ρ' (heapS (fun _ => true) 0 (ents xs) H) w' → Q .normal a' w') :
    ∀ (fuel : Nat) (listed : Array Bool) (ρ : Ren) (a : Act) (w : World), listed.size = ops.size → ((List.range ops.size).filter fun i => !listed.getD i false).length ≤ fuel →
      Closed ops.toList (listed.getD · false) → Grow n0 n' ρ0 ρ → EnvRel ρ N (envS (listed.getD · false) 0 (ents xs) env0) a.tmps → a.defers = dfs →
      Sim w0 ρ (heapS (listed.getD · false) 0 (ents xs) H) w → (∀ i x, xs[i]? = some x → listed.getD i false = false → Fresh x.e.n x.e.n' ρ) →
      wpAnyIn (FW rd) 0 P .any ops Q fuel listed a w := by
  have hop : ∀ (i : Nat) (x : Step), xs[i]? = some x → ops[i]? = some x.e.o := by
    intro i x hx
    have : (xs.map (·.e.o))[i]? = some x.e.o := by simp [hx]
    rw [hxs] at this; simpa using this
  have hop' : ∀ (i : Nat) (o : Oper), ops[i]? = some o → ∃ x, xs[i]? = some x ∧ x.e.o = o := by
    intro i o ho
    have : (xs.map (·.e.o))[i]? = some o := by rw [hxs]; simpa using ho
    simpa using this
  have hent : ∀ (i : Nat) (y : Ent), (ents xs)[i]? = some y → ∃ x, xs[i]? = some x ∧ x.e = y := by
    intro i y hy; simpa [ents] using hy
  have hlen : xs.length = ops.size := by have := congrArg List.length hxs; simpa using this
  -- a mask's bit: waited for
  have hbit : ∀ (S : Nat → Bool) (i : Nat) (o : Oper), ops[i]? = some o → Closed ops.toList S → (∀ j, j ∈ waitsFor o → S j = true) → ∀ j, (masks.getD i 0).testBit j = true → S j = true := by
    intro S i o ho hS hw j hj
    have hi : i < ops.size := (Array.getElem?_eq_some_iff.1 ho).1
    rw [← hmk] at hj
    exact masksOf_spec ops.toList ops.toList [] (fun i => by simp) (fun i o S hi => by simp at hi) i o S (by simpa using hi) (by simpa using ho) hS hw j hj
  -- when none is ready, all are listed
  have hall : ∀ (listed : Array Bool), listed.size = ops.size → Region.ready .any ops listed = [] → ∀ i, i < ops.size → listed.getD i false = true := by
    intro listed hsz hr i
    induction i using Nat.strongRecOn with
    | _ i ih =>
      intro hi
      cases hli : listed.getD i false with
      | true => rfl
      | false =>
        exfalso
        have ho : ops[i]? = some ops[i] := by simp [hi]
        have : i ∈ Region.ready .any ops listed := by
          refine mem_ready.2 ⟨?_, ops[i], ho, ?_⟩
          · have h2 : i < listed.size := by omega
            simpa [Array.getD, h2] using hli
          · intro e he hb
            have hmem : e.on ∈ waitsFor ops[i] := by
              unfold waitsFor
              exact List.mem_map.2 ⟨e, List.mem_filter.2 ⟨by simpa using he, hb⟩, rfl⟩
            have hlt := backOk_at hbk ho e.on hmem
            have := ih e.on hlt (by omega)
            exact this
        rw [hr] at this; cases this
  have fin : ∀ (listed : Array Bool) (ρ : Ren) (a : Act) (w : World), listed.size = ops.size → Region.ready .any ops listed = [] → Grow n0 n' ρ0 ρ → EnvRel ρ N (envS (listed.getD · false) 0 (ents xs) env0) a.tmps → a.defers = dfs →
      Sim w0 ρ (heapS (listed.getD · false) 0 (ents xs) H) w → Q .normal a w := by
    intro listed ρ a w hsz hr hg he hd hs
    have h1 := hall listed hsz hr
    have e1 : envS (listed.getD · false) 0 (ents xs) env0 = envS (fun _ => true) 0 (ents xs) env0 := envS_ext _ _ _ fun j hj _ => h1 j (by simpa [ents, hlen] using hj)
    have e2 : heapS (listed.getD · false) 0 (ents xs) H = heapS (fun _ => true) 0 (ents xs) H := heapS_ext _ _ _ fun j hj _ => h1 j (by simpa [ents, hlen] using hj)
    rw [e1] at he; rw [e2] at hs
    refine K ρ a w hg ⟨he.size, fun s => ?_⟩ hd hs
    rw [t.envEnd s]; exact he.at_ s
  intro fuel
  induction fuel with
  | zero =>
    intro listed ρ a w hsz hcount hcl hg he hd hs hfr
    have hr : Region.ready .any ops listed = [] := by
      cases hr : Region.ready .any ops listed with
      | nil => rfl
      | cons i r =>
        exfalso
        have hi : i ∈ Region.ready .any ops listed := by rw [hr]; simp
        obtain ⟨h1, o, ho, _⟩ := mem_ready.1 hi
        have hi2 : i < ops.size := (Array.getElem?_eq_some_iff.1 ho).1
        have h2 : listed.getD i false = false := by
          have h3 : i < listed.size := by omega
          simpa [Array.getD, h3] using h1
        have : i ∈ (List.range ops.size).filter fun i => !listed.getD i false := List.mem_filter.2 ⟨by simpa using hi2, by simp [h2]⟩
        have h0 : (List.range ops.size).filter (fun i => !listed.getD i false) = [] := List.eq_nil_of_length_eq_zero (by omega)
        rw [h0] at this; cases this
    exact ⟨hr, fin listed ρ a w hsz hr hg he hd hs⟩
  | succ fuel ih =>
    intro listed ρ a w hsz hcount hcl hg he hd hs hfr
    refine ⟨fun hr => fin listed ρ a w hsz hr hg he hd hs, fun i hi => ?_⟩
    obtain ⟨h1, o, ho, hdeps⟩ := mem_ready.1 hi
    have hi2 : i < ops.size := (Array.getElem?_eq_some_iff.1 ho).1
    have hli : listed.getD i false = false := by
      have h3 : i < listed.size := by omega
      simpa [Array.getD, h3] using h1
    have hw : ∀ j, j ∈ waitsFor o → listed.getD j false = true := by
      intro j hj
      obtain ⟨e, h2, rfl⟩ := List.mem_map.1 hj
      obtain ⟨h3, h4⟩ := List.mem_filter.1 h2
      exact hdeps e (by simpa using h3) h4
    obtain ⟨x, hx, rfl⟩ := hop' i o ho
    have ok := t.step i x hx
    -- what stands ahead and is waited for is listed; what is listed does not wait for i
    have hbefore : ∀ j, (masks.getD i 0).testBit j = true → listed.getD j false = true := hbit _ i _ ho hcl hw
    have hafter : ∀ (j : Nat) (y : Step), xs[j]? = some y → listed.getD j false = true → (masks.getD j 0).testBit i = false := by
      intro j y hy hj
      cases hb : (masks.getD j 0).testBit i with
      | false => rfl
      | true =>
        have := hbit (listed.getD · false) j y.e.o (hop j y hy) hcl (fun k hk => hcl j y.e.o (by simpa using hop j y hy) hj k hk) i hb
        rw [hli] at this; cases this
    -- temporaries
    have hget : ∀ s, s ∈ x.e.o.looksAt ops → (envS (listed.getD · false) 0 (ents xs) env0).get s = x.env.get s := by
      intro s hsl
      rw [t.env i x hx s]
      refine envS_congr _ _ _ _ rfl fun j y hy hyd => ?_
      obtain ⟨z, hz, rfl⟩ := hent j y hy
      simp only [Nat.zero_add, upTo]
      rcases Nat.lt_trichotomy j i with hji | rfl | hji
      · rw [decide_eq_true hji]
        rcases staticOk_at hst hji (hop j z hz) ho with hb | hb
        · exact hbefore j hb
        · exact absurd hsl ((Oper.apart_spec hb).1 s hyd)
      · rw [hli]; simp
      · have : decide (j < i) = false := by simp; omega
        rw [this]
        cases hlj : listed.getD j false with
        | false => rfl
        | true =>
          rcases staticOk_at hst hji ho (hop j z hz) with hb | hb
          · rw [hafter j z hz hlj] at hb; cases hb
          · exact absurd hsl ((Oper.apart_spec hb).2.2 s hyd)
    have hwant : Region.wanted x.e.o (yielded ops a.tmps) = x.yes := by
      refine wants_spec (ρ := ρ) (env := x.env) ?_ ok.want
      rintro s ⟨j, wv, hgd, hjd⟩
      rw [← hget s (by
        unfold Oper.looksAt
        rw [hgd]
        simp [hjd])]
      exact he.at_ s
    have hdN : ∀ s, x.e.o.dst = some s → s < N := by
      intro s hs'
      have h2 := (List.all_eq_true.1 hdst) x.e.o (by
        have := hop i x hx
        have h3 := Array.mem_of_getElem? this
        simpa using h3)
      rw [hs'] at h2; simpa using h2
    -- the heap
    have hgle : x.g.le (heapS (listed.getD · false) 0 (ents xs) H) := by
      have hbase : x.g.le (heapS (upTo i) 0 (ents xs) H) := (t.heap i x hx).trans (heapS_le _ _ _ hl)
      have hsame : ∀ b, x.R b → (heapS (listed.getD · false) 0 (ents xs) H).info b = (heapS (upTo i) 0 (ents xs) H).info b ∧
          ∀ k, (heapS (listed.getD · false) 0 (ents xs) H).cell b k = (heapS (upTo i) 0 (ents xs) H).cell b k := by
        intro b hb
        refine heapS_congr _ _ _ _ ⟨rfl, fun _ => rfl⟩ fun j y hy hyt => ?_
        obtain ⟨z, hz, rfl⟩ := hent j y hy
        simp only [Nat.zero_add, upTo]
        have zt := (t.step j z hz).turn b hyt
        have hbn := ok.old b hb
        rcases Nat.lt_trichotomy j i with hji | rfl | hji
        · rw [decide_eq_true hji]
          rcases t.clash i x j z hx hz hji with hc | hc
          · exact hbefore j hc
          · exact absurd (by rcases zt.1 with h5 | h5
                             · exact .inl h5
                             · exact .inr ⟨h5, zt.2⟩) (hc.1 b hb)
        · rw [hli]; simp
        · have : decide (j < i) = false := by simp; omega
          rw [this]
          cases hlj : listed.getD j false with
          | false => rfl
          | true =>
            rcases t.clash j z i x hz hx hji with hc | hc
            · rw [hafter j z hz hlj] at hc; cases hc
            · have hm := t.mono j z i x hz hx hji
              have hxle := ok.le
              rcases zt.1 with h5 | h5
              · exact absurd h5 (hc.2.1 b hb)
              · omega
      refine ⟨fun b m hm => ?_, fun b k => ?_⟩
      · rw [(hsame b (ok.look b (.inl (by rw [hm]; simp)))).1]; exact hbase.info b m hm
      · by_cases hk : x.g.cell b k = .tuple #[]
        · exact .inl hk
        · rw [(hsame b (ok.look b (.inr ⟨k, hk⟩))).2 k]; exact hbase.cell b k
    -- behind it
    have hS' : ∀ j, (listed.setIfInBounds i true).getD j false = if j = i then true else listed.getD j false := by
      intro j
      by_cases e : j = i
      · subst e
        have h3 : j < listed.size := by omega
        simp [Array.getD, h3]
      · rw [if_neg e]
        simp [Array.getD_eq_getD_getElem?, Array.getElem?_setIfInBounds_ne (Ne.symm e)]
    have hcl' : Closed ops.toList ((listed.setIfInBounds i true).getD · false) := by
      intro j q hq hj k hk
      simp only [hS'] at hj ⊢
      by_cases e : k = i
      · rw [if_pos e]
      · rw [if_neg e]
        by_cases e2 : j = i
        · subst e2
          have : q = x.e.o := by
            have h4 := hop j x hx
            rw [show ops.toList[j]? = ops[j]? by simp, h4] at hq; cases hq; rfl
          subst this
          exact hw k hk
        · rw [if_neg e2] at hj; exact hcl j q hq hj k hk
    have hcount' : ((List.range ops.size).filter fun j => !(listed.setIfInBounds i true).getD j false).length ≤ fuel := by
      have := filter_lt (fun j => !listed.getD j false) (fun j => !(listed.setIfInBounds i true).getD j false)
        (fun j hj => by
          simp only [hS'] at hj
          by_cases e : j = i
          · rw [if_pos e] at hj; cases hj
          · rw [if_neg e] at hj; exact hj) i (by simp [hli]) (by simp [hS']) (List.range ops.size) (by simpa using hi2)
      omega
    have hxi : (ents xs)[i - 0]? = some x.e := by simp [ents, hx]
    have hheap : heapS ((listed.setIfInBounds i true).getD · false) 0 (ents xs) H = (heapS (listed.getD · false) 0 (ents xs) H).app x.e.d := by
      refine heapS_insert (i0 := i) _ _ _ x.e (Nat.zero_le _) hxi hli (by simp [hS']) (fun j hj => by simp [hS', hj]) ?_
      intro j y hy hlt hj b hb
      simp only [Nat.zero_add] at hlt hj
      obtain ⟨z, hz, rfl⟩ := hent j y hy
      rcases t.clash j z i x hz hx hlt with hc | hc
      · rw [hafter j z hz hj] at hc; cases hc
      · have hm := t.mono j z i x hz hx hlt
        have xt := ok.turn b hb.1
        have zt := (t.step j z hz).turn b hb.2
        rcases zt.1 with h5 | h5
        · exact hc.2.2 b h5 (by rcases xt.1 with h6 | h6
                                · exact .inl h6
                                · exact .inr ⟨h6, xt.2⟩)
        · omega
    have henv : ∀ s, (envS ((listed.setIfInBounds i true).getD · false) 0 (ents xs) env0).get s = ((envS (listed.getD · false) 0 (ents xs) env0).put x.e.o.dst x.e.v).get s := by
      intro s
      refine envS_insert (i0 := i) _ _ _ x.e (Nat.zero_le _) hxi hli (by simp [hS']) (fun j hj => by simp [hS', hj]) ?_
      intro j y hy hlt hj hxd hyd
      simp only [Nat.zero_add] at hlt hj
      obtain ⟨z, hz, rfl⟩ := hent j y hy
      rcases staticOk_at hst hlt ho (hop j z hz) with hb | hb
      · rw [hafter j z hz hj] at hb; cases hb
      · exact (Oper.apart_spec hb).2.1 s hxd hyd
    have hfresh := hfr i x hx hli
    have next : ∀ (ρ1 : Ren) (c : Value) (w1 : World), Grow x.e.n x.e.n' ρ ρ1 → VRel ρ1 x.e.v c → Sim w0 ρ1 ((heapS (listed.getD · false) 0 (ents xs) H).app x.e.d) w1 →
        wpAnyIn (FW rd) 0 P .any ops Q fuel (listed.setIfInBounds i true) (a.put x.e.o.dst c) w1 := by
      intro ρ1 c w1 hg1 hv hs1
      refine ih _ ρ1 _ w1 (by simpa using hsz) hcount' hcl' ?_ ⟨?_, fun s => ?_⟩ (by rw [← hd]; cases x.e.o.dst <;> rfl) (by rw [hheap]; exact hs1) ?_
      · refine ⟨hg.le.trans hg1.le, fun b hb => ?_⟩
        have h5 := t.low i x hx
        have h6 := t.high i x hx
        rw [hg1.out b (by omega), hg.out b hb]
      · have := ((he.mono hg1.le).put x.e.o.dst hdN hv).size; exact this
      · rw [henv s]; exact ((he.mono hg1.le).put x.e.o.dst hdN hv).at_ s
      · intro j y hy hj b hb1 hb2
        rw [hS'] at hj
        by_cases e : j = i
        · rw [if_pos e] at hj; cases hj
        · rw [if_neg e] at hj
          have h5 := hfr j y hy hj b hb1 hb2
          rw [hg1.out b]
          · exact h5
          · rcases Nat.lt_or_gt_of_ne e with h7 | h7
            · have := t.mono i x j y hx hy h7; omega
            · have := t.mono j y i x hy hx h7; omega
    unfold wpOpIn
    simp only [ho, hwant]
    cases hyes : x.yes with
    | true =>
      simp only [if_true]
      refine (ok.run hyes).run rd w0 ρ w _ a _ Q hgle hfresh hs ?_ ?_
      · intro q hq
        cases q with
        | tmp s =>
          have := he.at_ s
          rw [hget s (by
            unfold Oper.looksAt
            exact List.mem_append_left _ (List.mem_filterMap.2 ⟨.tmp s, by simpa using hq, rfl⟩))] at this
          exact this
        | const v => exact EnvRel.ev (env := []) (N := a.tmps.size) (ρ := ρ) ⟨rfl, fun _ => .unk _⟩ (.const v)
        | global v => exact .unk _
        | func f => exact EnvRel.ev (env := []) (N := a.tmps.size) (ρ := ρ) ⟨rfl, fun _ => .unk _⟩ (.func f)
      · intro ρ1 c w1 hg1 hv hs1
        exact next ρ1 c w1 hg1 hv hs1
    | false =>
      simp only [Bool.false_eq_true, if_false]
      obtain ⟨h5, h6, h7⟩ := ok.skip hyes
      refine ⟨fun f _ => FW.fn rd f, ?_⟩
      refine next ρ undef w (.refl _ _ _) (by rw [h5]; exact .skip) (by rw [h6]; exact hs)

theorem Ex.draw {P : Program} {T : Nat → Prop} {N : Nat} {ops : Array Oper} {id : Nat} {masks : List Nat} {env n h env' n' h' xs} (hm : P.follows .mixedOrders = true) (hmk : masksOf ops.toList [] = masks) (hst : staticOk ops masks = true)
    (hbk : backOk ops = true) (hdst : dstOk N ops.toList = true) (t : Txt P T ops masks [] ops.toList env n h env' n' h' xs) : Ex P T N (.region id ops true) env n h .normal env' n' h' := by
  obtain ⟨tk, hxs⟩ := t.ok (TxtOk.nil env n h)
  simp only [List.reverse_nil, List.nil_append] at tk
  have hcomp : ∀ (xs : List Ent) (i : Nat), ∃ d : Dl, ∀ H, heapS (fun _ => true) i xs H = H.app d := by
    intro xs
    induction xs with
    | nil => intro i; exact ⟨.nil, fun _ => rfl⟩
    | cons x xs ih =>
      intro i
      obtain ⟨d, hd⟩ := ih (i + 1)
      exact ⟨x.d.comp d, fun H => by simp only [heapS, if_true, hd, AH.app_comp]⟩
  have hcomp' : ∀ (xs : List Ent) (i : Nat), ∃ d : Dl, (∀ H, heapS (fun _ => true) i xs H = H.app d) ∧ (∀ b, d.touches b → ∃ x, x ∈ xs ∧ x.d.touches b) := by
    intro xs
    induction xs with
    | nil => intro i; exact ⟨.nil, fun _ => rfl, fun b hb => (Dl.touches_nil hb).elim⟩
    | cons x xs ih =>
      intro i
      obtain ⟨d, hd, ht⟩ := ih (i + 1)
      refine ⟨x.d.comp d, fun H => by simp only [heapS, if_true, hd, AH.app_comp], fun b hb => ?_⟩
      rcases Dl.touches_comp hb with h1 | h1
      · exact ⟨x, by simp, h1⟩
      · obtain ⟨y, h2, h3⟩ := ht b h1; exact ⟨y, by simp [h2], h3⟩
  obtain ⟨d, hd, ht⟩ := hcomp' (ents xs) 0
  refine ⟨d, by rw [← hd]; exact tk.heapEnd, tk.le, fun b hb => ?_, fun rd w0 ρ w H tmps dfs _ hl hf hs he => ?_⟩
  · obtain ⟨y, h1, h2⟩ := ht b hb
    obtain ⟨x, hx, rfl⟩ := List.mem_map.1 (by simpa [ents] using h1)
    obtain ⟨i, hi⟩ := List.getElem?_of_mem hx
    have h3 := (tk.step i x hi).within b h2
    have h4 := tk.low i x hi
    have h5 := tk.high i x hi
    exact ⟨h3.1.imp (fun h => h) (by omega), by omega⟩
  · refine wpIn_region_any hm ?_
    have hz : ∀ j, (Array.replicate ops.size false).getD j false = false := by
      intro j
      rw [Array.getD_eq_getD_getElem?, Array.getElem?_replicate]
      by_cases hj : j < ops.size
      · rw [if_pos hj]; rfl
      · rw [if_neg hj]; rfl
    have hzf : ((Array.replicate ops.size false).getD · false) = fun _ => false := funext hz
    have hF : ∀ (ys : List Ent) (k : Nat), envS (fun _ => false) k ys env = env := by
      intro ys
      induction ys with
      | nil => intro k; rfl
      | cons y ys ih => intro k; simp only [envS, Bool.false_eq_true, if_false]; exact ih (k + 1)
    have hG : ∀ (ys : List Ent) (k : Nat), heapS (fun _ => false) k ys H = H := by
      intro ys
      induction ys with
      | nil => intro k; rfl
      | cons y ys ih => intro k; simp only [heapS, Bool.false_eq_true, if_false]; exact ih (k + 1)
    refine Txt.sound hmk hst hbk hdst tk hxs dfs rd w0 ρ H hl _ ?_ ops.size _ ρ ⟨tmps, dfs⟩ _ (by simp) ?_ ?_ (.refl _ _ _) ?_ rfl ?_ ?_
    · intro ρ' a' w' hg he' hd' hs'
      rw [hd] at hs'
      exact ⟨rfl, .nil hd' hg he' hs'⟩
    · exact Nat.le_trans (List.length_filter_le _ _) (by simp)
    · intro i o ho hi j hj
      have hi' : (Array.replicate ops.size false).getD i false = true := hi
      rw [hz] at hi'; cases hi'
    · rw [hzf, hF]; exact he
    · rw [hzf, hG]; exact hs.drawn _
    · intro i x hx _ b h1 h2
      have h4 := tk.low i x hx
      have h5 := tk.high i x hx
      exact hf b (by omega) (by omega)

end Go.Abs

/- A law's arguments: what reads as data is told as blocks that are only read. -/
namespace Go.Abs
open Go.RowKit

def inRow (P : Program) : List Field → Nat → Nat → Bool
  | [], off, z => off == z
  | f :: fs, off, z => f.offset == off && inRow P fs (off + P.cellsOf f.type) z
def plainT (P : Program) : Nat → TypeId → Bool
  | 0, _ => false
  | d + 1, t =>
    match P.underlying t with
    | some .bool | some (.int _) | some .string => true
    | some (.slice e) => decide (0 < P.cellsOf e) && plainT P d e
    | some (.struct fs) => fs.toList.all (fun f => plainT P d f.type) && inRow P fs.toList 0 (P.cellsOf t)
    | _ => false

inductive RepD {H : Type} (P : Program) (h : AH) : TypeId → List Value → DataW H → Prop
  | bool {t : TypeId} {b : Bool} (hu : P.underlying t = some .bool) : RepD P h t [.bool b] (.lit (.bool b))
  | int {t : TypeId} {k : IntKind} {x : Int} (hu : P.underlying t = some (.int k)) (hw : (Lit.int k x).wf = true) : RepD P h t [.int k x] (.lit (.int k x))
  | str {t : TypeId} {s : ByteArray} (hu : P.underlying t = some .string) (hs : s.size ≤ maxLen) : RepD P h t [.string s] (.lit (.string s.data.toList))
  | nil {t e : TypeId} (hu : P.underlying t = some (.slice e)) : RepD P h t [.slice none 0 0] .nil
  | slice {t e : TypeId} {b : Nat} {elems spare : List (DataW H)} (hu : P.underlying t = some (.slice e)) (hi : h.info b = some ⟨elems.length * P.cellsOf e, elems.length * P.cellsOf e, false, P.cellsOf e⟩)
      (hl : elems.length ≤ maxLen) (he : ∀ (i : Nat) (d : DataW H), elems[i]? = some d → RepD P h e (rd h b (i * P.cellsOf e) (P.cellsOf e)) d) : RepD P h t [.slice (some ⟨b, 0, none⟩) elems.length elems.length] (.slice elems spare)
  | struct {t : TypeId} {fs : Array Field} {cs : List Value} {parts : List (DataW H)} (hu : P.underlying t = some (.struct fs)) (hc : cs.length = P.cellsOf t) (hp : parts.length = fs.size)
      (he : ∀ (i : Nat) (f : Field) (d : DataW H), fs[i]? = some f → parts[i]? = some d → RepD P h f.type ((cs.drop f.offset).take (P.cellsOf f.type)) d) : RepD P h t cs (.agg parts)

structure Ext (n : Nat) (h h' : AH) : Prop where
  info : ∀ b, b < n → h'.info b = h.info b
  cell : ∀ b i, b < n → h'.cell b i = h.cell b i
theorem Ext.refl (n : Nat) (h : AH) : Ext n h h := ⟨fun _ _ => rfl, fun _ _ _ => rfl⟩
theorem Ext.trans {n n1 : Nat} {h h1 h2 : AH} (hn : n ≤ n1) (a : Ext n h h1) (b : Ext n1 h1 h2) : Ext n h h2 :=
  ⟨fun x hx => (b.info x (by omega)).trans (a.info x hx), fun x i hx => (b.cell x i (by omega)).trans (a.cell x i hx)⟩

def Low (n : Nat) (h : AH) : Prop := ∀ b, n ≤ b → h.info b = none ∧ ∀ i, h.cell b i = .tuple #[]

theorem rd_ext {n : Nat} {h h' : AH} (e : Ext n h h') {b : Nat} (hb : b < n) : ∀ (k o : Nat), rd h' b o k = rd h b o k
  | 0, _ => rfl
  | k + 1, o => by simp only [rd, e.cell b o hb, rd_ext e hb k (o + 1)]

theorem RepD.ext {H : Type} {P : Program} {n : Nat} {h h' : AH} (e : Ext n h h') (lo : Low n h) {t : TypeId} {cs : List Value} {d : DataW H} (r : RepD P h t cs d) : RepD P h' t cs d := by
  induction r with
  | bool hu => exact .bool hu
  | int hu hw => exact .int hu hw
  | str hu hs => exact .str hu hs
  | nil hu => exact .nil hu
  | @slice t e' b elems spare hu hi hl he ih =>
    have hb : b < n := by
      rcases Nat.lt_or_ge b n with h1 | h1
      · exact h1
      · rw [(lo b h1).1] at hi; cases hi
    refine .slice hu (by rw [e.info b hb]; exact hi) hl fun i d hd => ?_
    rw [rd_ext e hb]
    exact ih i d hd
  | struct hu hc hp he ih => exact .struct hu hc hp fun i f d hf hd => ih i f d hf hd

def NoOwn (h : AH) : Prop := ∀ b m, h.info b = some m → m.lock = m.size ∧ m.tail = false
theorem NoOwn.not {h : AH} (hn : NoOwn h) {b : Nat} {m : Meta} {L : Loc} {i : Nat} (hm : h.info b = some m) : ¬ Own m L i := by
  obtain ⟨h1, h2⟩ := hn b m hm
  rintro ⟨h3, h4⟩
  rw [h2] at h4; simp [Tail.isExt_of] at h4; omega

theorem Sim.ro {w0 : Base} {w : World} {ρ : Ren} {h : AH} (s : Sim w0 ρ h w) (hno : NoOwn h) {n : Nat} (hn : ρ n = none) (cs : List Value) (a : Addr) (ext sz : Nat) (he : cs.length ≤ ext)
    (hv : ∀ i, i < cs.length → ∃ v, w.cell? ⟨a.block, a.off + i, none⟩ = some v ∧ VRel ρ (cs.getD i (.tuple #[])) v) :
    Sim w0 (ρ.set n ⟨a.block, a.off, ext, sz⟩) (h.app (.new n ⟨cs.length, cs.length, false, sz⟩ cs)) w := by
  have hle := Ren.le_set hn ⟨a.block, a.off, ext, sz⟩
  have s1 := s.grow' hle (Ren.set_fin s.fin _ _)
  have hcell : ∀ b i, (h.app (.new n ⟨cs.length, cs.length, false, sz⟩ cs)).cell b i = if b = n then cs.getD i (.tuple #[]) else h.cell b i := by
    intro b i; by_cases e : b = n <;> simp [AH.app, Dl.new, e]
  have hinfo : ∀ b, (h.app (.new n ⟨cs.length, cs.length, false, sz⟩ cs)).info b = if b = n then some ⟨cs.length, cs.length, false, sz⟩ else h.info b := by
    intro b; by_cases e : b = n <;> simp [AH.app, Dl.new, e]
  have hno' : ∀ b m L i, (h.app (.new n ⟨cs.length, cs.length, false, sz⟩ cs)).info b = some m → ¬ Own m L i := by
    intro b m L i hm
    rw [hinfo] at hm
    by_cases e : b = n
    · rw [if_pos e] at hm; cases hm
      rintro ⟨h1, h2⟩; simp at h1 h2; omega
    · rw [if_neg e] at hm; exact hno.not hm
  have hobj : ∀ b m o, (h.app (.new n ⟨cs.length, cs.length, false, sz⟩ cs)).info b = some m → m.tail = .obj o → h.info b = some m := by
    intro b m o hm ho
    rw [hinfo] at hm
    by_cases e : b = n
    · rw [if_pos e] at hm; cases hm; cases ho
    · rw [if_neg e] at hm; exact hm
  refine ⟨s1.base, s1.keep, s1.fin, ?_, ?_, ?_, fun b m o hm ho => s1.obj b m o (hobj b m o hm ho) ho, fun b m o b' m' o' L L' hm ho hm' ho' => s1.osep b m o b' m' o' L L' (hobj b m o hm ho) ho (hobj b' m' o' hm' ho') ho'⟩
  · intro b m hm
    have hm' := hm
    rw [hinfo] at hm
    by_cases e : b = n
    · subst e
      rw [if_pos rfl] at hm; cases hm
      exact ⟨_, Ren.set_self _ _ _, rfl, he, Nat.le_refl _, fun i hi => absurd hi (hno' _ _ _ _ hm')⟩
    · rw [if_neg e] at hm; exact s1.info b m hm
  · intro b i hb
    rw [hcell] at hb ⊢
    by_cases e : b = n
    · subst e
      rw [if_pos rfl] at hb ⊢
      have hi := getD_none_lt hb
      obtain ⟨v, h1, h2⟩ := hv i hi
      exact ⟨_, v, Ren.set_self _ _ _, h1, h2.mono hle⟩
    · rw [if_neg e] at hb ⊢; exact s1.cell b i hb
  · intro b m L i hm hL hi
    exact absurd hi (hno' _ _ _ _ hm)

structure OpenInv (w : World) (n : Nat) (ρ : Ren) (h : AH) : Prop where
  sim : Sim (.start w) ρ h w
  fresh : ∀ b, n ≤ b → ρ b = none
  no : NoOwn h
  low : Low n h

theorem OpenInv.start (w : World) : OpenInv w 0 (fun _ => none) .empty :=
  ⟨Sim.start w, fun _ _ => rfl, (fun _ _ h => by cases h), fun _ _ => ⟨rfl, fun _ => rfl⟩⟩

theorem OpenInv.ro {w : World} {n : Nat} {ρ : Ren} {h : AH} (o : OpenInv w n ρ h) (cs : List Value) (a : Addr) (ext sz : Nat) (he : cs.length ≤ ext)
    (hv : ∀ i, i < cs.length → ∃ v, w.cell? ⟨a.block, a.off + i, none⟩ = some v ∧ VRel ρ (cs.getD i (.tuple #[])) v) :
    OpenInv w (n + 1) (ρ.set n ⟨a.block, a.off, ext, sz⟩) (h.app (.new n ⟨cs.length, cs.length, false, sz⟩ cs)) ∧ Ext n h (h.app (.new n ⟨cs.length, cs.length, false, sz⟩ cs)) := by
  refine ⟨⟨o.sim.ro o.no (o.fresh n (Nat.le_refl _)) cs a ext sz he hv, (fun b hb => ?_), (fun b m hm => ?_), (fun b hb => ?_)⟩, (fun b hb => ?_), (fun b i hb => ?_)⟩
  · rw [Ren.set_ne _ _ (by omega)]; exact o.fresh b (by omega)
  · by_cases e : b = n
    · subst e; simp [AH.app, Dl.new] at hm; subst hm; exact ⟨rfl, rfl⟩
    · simp [AH.app, Dl.new, e] at hm; exact o.no b m hm
  · have e : b ≠ n := by omega
    have := o.low b (by omega)
    simp [AH.app, Dl.new, e, this.1, this.2]
  · have e : b ≠ n := by omega
    simp [AH.app, Dl.new, e]
  · have e : b ≠ n := by omega
    simp [AH.app, Dl.new, e]

theorem rd_new (h : AH) (n : Nat) (m : Meta) (cs : List Value) : ∀ (k o : Nat), o + k ≤ cs.length → rd (h.app (.new n m cs)) n o k = (cs.drop o).take k
  | 0, o, _ => by simp [rd]
  | k + 1, o, hk => by
    have ho : o < cs.length := by omega
    rw [rd, rd_new h n m cs k (o + 1) (by omega)]
    rw [List.drop_eq_getElem_cons ho, List.take_succ_cons]
    congr 1
    simp [AH.app, Dl.new, List.getD, ho]

theorem cell_spot {w : World} {a : Addr} {v : Value} (h : w.cell? a = some v) : a.spot = none := by
  unfold World.cell? at h
  split at h
  · cases hs : a.spot with
    | none => rfl
    | some x => simp [hs] at h
  · cases h
theorem add_two (a : Addr) (i k : Nat) (hs : a.spot = none ∨ i + k ≠ 0) : (a.add i).add k = ⟨a.block, a.off + (i + k), none⟩ := by
  obtain ⟨b, o, s⟩ := a
  unfold Addr.add
  by_cases hi : i = 0
  · subst hi
    by_cases hk : k = 0
    · subst hk
      rcases hs with h | h
      · simp at h; subst h; simp
      · simp at h
    · simp [hk]
  · by_cases hk : k = 0
    · subst hk; simp [hi]
    · simp [hi, hk]; omega

variable {H : Type} {enc : TypeId × Value → H} {P : Program} {w : World}

def Opens (P : Program) (w : World) (t : TypeId) (cs : List Value) (d : DataW H) (n : Nat) (ρ : Ren) (h : AH) (n' : Nat) (ρ' : Ren) (h' : AH) (as_ : List Value) : Prop :=
  n ≤ n' ∧ ρ.le ρ' ∧ OpenInv w n' ρ' h' ∧ Ext n h h' ∧ as_.length = cs.length ∧ (∀ i, VRel ρ' (as_.getD i (.tuple #[])) (cs.getD i (.tuple #[]))) ∧ RepD P h' t as_ d ∧ known as_ = true

theorem known_append : ∀ (l m : List Value), known l = true → known m = true → known (l ++ m) = true
  | [], _, _, h => h
  | v :: r, m, h1, h2 => by
    have : known r = true := by cases v <;> simp_all [known]
    have := known_append r m this h2
    cases v <;> simp_all [known]

theorem getD_append_lt {l m : List Value} {i : Nat} (h : i < l.length) : (l ++ m).getD i (.tuple #[]) = l.getD i (.tuple #[]) := by
  simp [List.getD, List.getElem?_append_left h]
theorem getD_append_ge {l m : List Value} {i : Nat} (h : l.length ≤ i) : (l ++ m).getD i (.tuple #[]) = m.getD (i - l.length) (.tuple #[]) := by
  simp [List.getD, List.getElem?_append_right h]

theorem openD : ∀ (k fuel : Nat) (t : TypeId) (cs : List Value) (d : DataW H) (ps : List MemPlace) (n : Nat) (ρ : Ren) (h : AH), plainT P k t = true →
    DataW.trod enc P w 0 (fun _ => true) true fuel t cs = some (d, ps) → OpenInv w n ρ h → ∃ n' ρ' h' as_, Opens P w t cs d n ρ h n' ρ' h' as_ := by
  intro k
  induction k with
  | zero => intro fuel t cs d ps n ρ h hp; simp [plainT] at hp
  | succ k ih =>
    intro fuel t cs d ps n ρ h hp htr o
    unfold plainT at hp
    split at hp
    · rename_i hu
      obtain ⟨b, rfl, hx⟩ := DataW.trod_bool hu htr
      cases hx
      exact ⟨n, ρ, h, [.bool b], Nat.le_refl _, .refl _, o, .refl _ _, rfl, fun i => by cases i with | zero => exact .bool b | succ i => simp; exact .unk _, .bool hu, rfl⟩
    · rename_i q hu
      obtain ⟨x, rfl, hx, hwf⟩ := DataW.trod_int hu htr
      cases hx
      exact ⟨n, ρ, h, [.int q x], Nat.le_refl _, .refl _, o, .refl _ _, rfl, fun i => by cases i with | zero => exact .int q x | succ i => simp; exact .unk _, .int hu hwf, rfl⟩
    · rename_i hu
      obtain ⟨s, rfl, hx, hs⟩ := DataW.trod_string hu htr
      cases hx
      exact ⟨n, ρ, h, [.string s], Nat.le_refl _, .refl _, o, .refl _ _, rfl, fun i => by cases i with | zero => exact .string s | succ i => simp; exact .unk _, .str hu hs, rfl⟩
    · rename_i e hu
      simp only [Bool.and_eq_true, decide_eq_true_eq] at hp
      obtain ⟨hz, hpe⟩ := hp
      rcases DataW.trod_slice hu htr with ⟨rfl, hx⟩ | ⟨a, len, cap, elems, rest, fn, rfl, rfl, hx, _, hlc, hcm, hel, hea, hsp, _⟩
      · cases hx
        exact ⟨n, ρ, h, [.slice none 0 0], Nat.le_refl _, .refl _, o, .refl _ _, rfl, fun i => by cases i with | zero => exact .nilSlice | succ i => simp; exact .unk _, .nil hu, rfl⟩
      · cases hx
        have hrest := (hsp rfl).2
        -- the address is plain where anything is read
        have hspot : cap ≠ 0 → a.spot = none := by
          intro hc
          by_cases hl : len = 0
          · subst hl
            have := hrest 0 (by omega)
            cases hr : rest[0]? with
            | none => have h5 := (hsp rfl).1; rw [List.getElem?_eq_none_iff] at hr; omega
            | some y =>
              rw [hr] at this
              obtain ⟨c0, h1, h2⟩ := Option.bind_eq_some_iff.1 this
              obtain ⟨_, h3, h4⟩ := World.cells?_some h1
              have h5 := h4 0 hz
              simp [Addr.add] at h5
              cases hc0 : c0[0]? with
              | none => rw [List.getElem?_eq_none_iff] at hc0; omega
              | some v => rw [hc0] at h5; exact cell_spot h5
          · have := hea 0 (by omega)
            cases hr : elems[0]? with
            | none => rw [List.getElem?_eq_none_iff] at hr; omega
            | some y =>
              rw [hr] at this
              obtain ⟨c0, h1, h2⟩ := Option.bind_eq_some_iff.1 this
              obtain ⟨_, h3, h4⟩ := World.cells?_some h1
              have h5 := h4 0 hz
              simp [Addr.add] at h5
              cases hc0 : c0[0]? with
              | none => rw [List.getElem?_eq_none_iff] at hc0; omega
              | some v => rw [hc0] at h5; exact cell_spot h5
        -- the elements, one by one
        have each : ∀ j, j ≤ len → ∃ n' ρ' h' acc, n ≤ n' ∧ ρ.le ρ' ∧ OpenInv w n' ρ' h' ∧ Ext n h h' ∧ acc.length = j * P.cellsOf e ∧
            (∀ i, i < j * P.cellsOf e → ∃ v, w.cell? ⟨a.block, a.off + i, none⟩ = some v ∧ VRel ρ' (acc.getD i (.tuple #[])) v) ∧
            (∀ (i : Nat) (y : DataW H × List MemPlace), i < j → elems[i]? = some y → RepD P h' e ((acc.drop (i * P.cellsOf e)).take (P.cellsOf e)) y.1) ∧ known acc = true := by
          intro j
          induction j with
          | zero => intro _; exact ⟨n, ρ, h, [], Nat.le_refl _, .refl _, o, .refl _ _, by simp, fun i hi => by omega, fun i y hi => by omega, rfl⟩
          | succ j ihj =>
            intro hj
            obtain ⟨n1, ρ1, h1, acc, a1, a2, a3, a4, a5, a6, a7, a8⟩ := ihj (by omega)
            have hej := hea j (by omega)
            cases hr : elems[j]? with
            | none => rw [List.getElem?_eq_none_iff] at hr; omega
            | some y =>
              rw [hr] at hej
              obtain ⟨c0, e1, e2⟩ := Option.bind_eq_some_iff.1 hej
              obtain ⟨_, e3, e4⟩ := World.cells?_some e1
              obtain ⟨n2, ρ2, h2, as_, b1, b2, b3, b4, b5, b6, b7, b8⟩ := ih fn e c0 y.1 y.2 n1 ρ1 h1 hpe e2 a3
              have hcap : cap ≠ 0 := by omega
              refine ⟨n2, ρ2, h2, acc ++ as_, by omega, a2.trans b2, b3, Ext.trans a1 a4 b4, by rw [List.length_append, a5, b5, e3, Nat.add_mul]; simp, ?_, ?_, known_append _ _ a8 b8⟩
              · intro i hi
                by_cases hlt : i < j * P.cellsOf e
                · obtain ⟨v, q1, q2⟩ := a6 i hlt
                  exact ⟨v, q1, by rw [getD_append_lt (by omega)]; exact q2.mono b2⟩
                · have hk : i - j * P.cellsOf e < P.cellsOf e := by rw [Nat.add_mul] at hi; omega
                  have q1 := e4 (i - j * P.cellsOf e) hk
                  rw [add_two _ _ _ (.inl (hspot hcap))] at q1
                  rw [show j * P.cellsOf e + (i - j * P.cellsOf e) = i by omega] at q1
                  have q2 := b6 (i - j * P.cellsOf e)
                  refine ⟨c0.getD (i - j * P.cellsOf e) (.tuple #[]), ?_, by rw [getD_append_ge (by omega), a5]; exact q2⟩
                  rw [q1]
                  have : i - j * P.cellsOf e < c0.length := by omega
                  simp [List.getD, this]
              · intro i z hi hz'
                by_cases hlt : i < j
                · have q := a7 i z hlt hz'
                  have e5 : ((acc ++ as_).drop (i * P.cellsOf e)).take (P.cellsOf e) = (acc.drop (i * P.cellsOf e)).take (P.cellsOf e) := by
                    have : i * P.cellsOf e + P.cellsOf e ≤ j * P.cellsOf e := by
                      rw [← Nat.succ_mul]; exact Nat.mul_le_mul_right _ hlt
                    rw [List.drop_append_of_le_length (by omega), List.take_append_of_le_length (by rw [List.length_drop]; omega)]
                  rw [e5]
                  exact q.ext b4 a3.low
                · have : i = j := by omega
                  subst this
                  rw [hr] at hz'; cases hz'
                  have e5 : ((acc ++ as_).drop (i * P.cellsOf e)).take (P.cellsOf e) = as_ := by
                    rw [← a5, List.drop_left, List.take_of_length_le (by omega)]
                  rw [e5]; exact b7
        obtain ⟨n1, ρ1, h1, acc, a1, a2, a3, a4, a5, a6, a7, a8⟩ := each len (Nat.le_refl _)
        obtain ⟨o2, x2⟩ := a3.ro acc a (cap * P.cellsOf e) (P.cellsOf e) (by rw [a5]; exact Nat.mul_le_mul_right _ hlc) (fun i hi => a6 i (by omega))
        have helm : (elems.map (·.1)).length = len := by simp [hel]
        refine ⟨n1 + 1, _, _, [.slice (some ⟨n1, 0, none⟩) len len], by omega, a2.trans (Ren.le_set (a3.fresh n1 (Nat.le_refl _)) _), o2, Ext.trans a1 a4 x2, rfl, ?_, ?_, rfl⟩
        · intro i
          cases i with
          | succ i => simp; exact .unk _
          | zero =>
            simp only [List.getD_cons_zero]
            by_cases hc : cap = 0
            · have : len = 0 := by omega
              subst this; subst hc
              exact .slice0 (L := ⟨a.block, a.off, 0 * P.cellsOf e, P.cellsOf e⟩) a (Ren.set_self _ _ _)
            · have hs := hspot hc
              have ea : a = ⟨a.block, a.off + 0, none⟩ := by cases a; simp at hs; simp [hs]
              rw [ea]
              exact .slice (L := ⟨a.block, a.off, cap * P.cellsOf e, P.cellsOf e⟩) cap (Ren.set_self _ _ _) hlc (fun _ => by simp)
        · rw [← helm]
          refine .slice hu ?_ (by rw [helm]; exact Nat.le_trans hlc hcm) fun i dd hd => ?_
          · simp [AH.app, Dl.new, helm, a5]
          · obtain ⟨y, hy, rfl⟩ : ∃ y, elems[i]? = some y ∧ y.1 = dd := by simpa using hd
            have hi : i < len := by rw [← hel]; exact (List.getElem?_eq_some_iff.1 hy).1
            have : i * P.cellsOf e + P.cellsOf e ≤ len * P.cellsOf e := by
              rw [← Nat.succ_mul]; exact Nat.mul_le_mul_right _ hi
            rw [rd_new _ _ _ _ _ _ (by omega)]
            exact (a7 i y hi hy).ext x2 a3.low
    · rename_i fs hu
      simp only [Bool.and_eq_true] at hp
      obtain ⟨hpf, hrow⟩ := hp
      obtain ⟨xs, fn, rfl, hx, hcl, hxl, hxe⟩ := DataW.trod_struct hu htr
      cases hx
      -- the fields, one by one
      have each : ∀ (l : List Field) (off j : Nat) (n : Nat) (ρ : Ren) (h : AH), inRow P l off (P.cellsOf t) = true → l.all (fun f => plainT P k f.type) = true → (∀ i, l[i]? = fs[j + i]?) → OpenInv w n ρ h →
          ∃ n' ρ' h' acc, n ≤ n' ∧ ρ.le ρ' ∧ OpenInv w n' ρ' h' ∧ Ext n h h' ∧ acc.length + off = P.cellsOf t ∧ (∀ i, VRel ρ' (acc.getD i (.tuple #[])) (cs.getD (off + i) (.tuple #[]))) ∧
            (∀ (i : Nat) (f : Field) (y : DataW H × List MemPlace), l[i]? = some f → xs[j + i]? = some y → off ≤ f.offset ∧ RepD P h' f.type ((acc.drop (f.offset - off)).take (P.cellsOf f.type)) y.1) ∧ known acc = true := by
        intro l
        induction l with
        | nil =>
          intro off j n ρ h hr _ _ o
          simp only [inRow, beq_iff_eq] at hr
          refine ⟨n, ρ, h, [], Nat.le_refl _, .refl _, o, .refl _ _, by simpa using hr, fun i => by simp; exact .unk _, fun i f y hf => by simp at hf, rfl⟩
        | cons f l ihl =>
          intro off j n ρ h hr hpl hfs o
          simp only [inRow, Bool.and_eq_true, beq_iff_eq] at hr
          simp only [List.all_cons, Bool.and_eq_true] at hpl
          obtain ⟨hfo, hr⟩ := hr
          have hf0 : fs[j]? = some f := by have := hfs 0; simpa using this.symm
          have hxj := hxe j f hf0
          have hjlt : j < fs.size := (Array.getElem?_eq_some_iff.1 hf0).1
          cases hxy : xs[j]? with
          | none => rw [List.getElem?_eq_none_iff] at hxy; omega
          | some y =>
            rw [hxy] at hxj
            obtain ⟨n1, ρ1, h1, as_, b1, b2, b3, b4, b5, b6, b7, b8⟩ := ih fn f.type _ y.1 y.2 n ρ h hpl.1 hxj o
            obtain ⟨n2, ρ2, h2, acc, c1, c2, c3, c4, c5, c6, c7, c8⟩ := ihl (off + P.cellsOf f.type) (j + 1) n1 ρ1 h1 hr hpl.2 (fun i => by
              have := hfs (i + 1); simp only [List.getElem?_cons_succ] at this; rw [this]; congr 1; omega) b3
            have hlen : as_.length = P.cellsOf f.type := by
              rw [b5, List.length_take, List.length_drop]; omega
            refine ⟨n2, ρ2, h2, as_ ++ acc, by omega, b2.trans c2, c3, Ext.trans b1 b4 c4, by rw [List.length_append, hlen]; omega, ?_, ?_, known_append _ _ b8 c8⟩
            · intro i
              by_cases hi : i < as_.length
              · rw [getD_append_lt hi]
                have := (b6 i).mono c2
                have e5 : ((cs.drop f.offset).take (P.cellsOf f.type)).getD i (.tuple #[]) = cs.getD (off + i) (.tuple #[]) := by
                  rw [hfo]
                  simp only [List.getD]
                  rw [List.getElem?_take_of_lt (by omega), List.getElem?_drop]
                rw [e5] at this; exact this
              · rw [getD_append_ge (by omega)]
                have := c6 (i - as_.length)
                rw [show off + P.cellsOf f.type + (i - as_.length) = off + i by omega] at this
                exact this
            · intro i g z hg hz'
              cases i with
              | zero =>
                simp only [List.getElem?_cons_zero, Option.some.injEq] at hg
                subst hg
                rw [Nat.add_zero, hxy] at hz'; cases hz'
                refine ⟨by omega, ?_⟩
                rw [hfo, Nat.sub_self, List.drop_zero, List.take_append_of_le_length (by omega), List.take_of_length_le (by omega)]
                exact b7.ext c4 b3.low
              | succ i =>
                simp only [List.getElem?_cons_succ] at hg
                obtain ⟨q1, q2⟩ := c7 i g z hg (by rw [show j + 1 + i = j + (i + 1) by omega]; exact hz')
                refine ⟨by omega, ?_⟩
                have e5 : (as_ ++ acc).drop (g.offset - off) = acc.drop (g.offset - (off + P.cellsOf f.type)) := by
                  rw [List.drop_append, List.drop_eq_nil_of_le (by omega), List.nil_append, hlen]; congr 1; omega
                rw [e5]; exact q2
      obtain ⟨n1, ρ1, h1, acc, a1, a2, a3, a4, a5, a6, a7, a8⟩ := each fs.toList 0 0 n ρ h hrow hpf (fun i => by simp) o
      refine ⟨n1, ρ1, h1, acc, a1, a2, a3, a4, by omega, fun i => by simpa using a6 i, .struct hu (by omega) (by simp [hxl]) fun i f dd hf hd => ?_, a8⟩
      obtain ⟨y, hy, rfl⟩ : ∃ y, xs[i]? = some y ∧ y.1 = dd := by simpa using hd
      have := (a7 i f y (by simpa using hf) (by simpa using hy)).2
      simpa using this
    · cases hp

end Go.Abs

/- A law out of its contract: all arguments opened, the call told, the frame given back. -/
namespace Go.Abs
open Go.RowKit Go.ChangeShapes Go.WideShapes

variable {H : Type} {enc : TypeId × Value → H} {P : Program} {w : World} {base : Nat}

def RepA (P : Program) (h : AH) (t : TypeId) (a : Value) (d : DataW H) : Prop :=
  match P.underlying t with
  | some (.struct _) => ∃ cs : List Value, a = .agg cs.toArray ∧ RepD P h t cs d
  | _ => RepD P h t [a] d

inductive RepArgs (P : Program) (h : AH) : List TypeId → List Value → List (DataW H) → Prop
  | nil : RepArgs P h [] [] []
  | cons {t a d ts as_ ds} (x : RepA P h t a d) (r : RepArgs P h ts as_ ds) : RepArgs P h (t :: ts) (a :: as_) (d :: ds)

theorem RepA.ext {n : Nat} {h h' : AH} (e : Ext n h h') (lo : Low n h) {t : TypeId} {a : Value} {d : DataW H} (r : RepA P h t a d) : RepA P h' t a d := by
  unfold RepA at *
  split
  · rename_i hu; rw [hu] at r; simp only at r
    obtain ⟨cs, h1, h2⟩ := r
    exact ⟨cs, h1, h2.ext e lo⟩
  · rename_i hu
    cases hp : P.underlying t with
    | none => rw [hp] at r; exact RepD.ext e lo r
    | some d =>
      cases d with
      | struct fs => exact absurd hp (hu fs)
      | _ => rw [hp] at r; exact RepD.ext e lo r

theorem openV {t : TypeId} {v : Value} {d : DataW H} {ps : List MemPlace} (hp : plainT P 8 t = true) (hok : Value.okWide P w .any base t v) (htr : DataW.Trod enc P w 0 (fun _ => true) true t v d ps)
    {n : Nat} {ρ : Ren} {h : AH} (o : OpenInv w n ρ h) : ∃ n' ρ' h' a, n ≤ n' ∧ ρ.le ρ' ∧ OpenInv w n' ρ' h' ∧ Ext n h h' ∧ VRel ρ' a v ∧ RepA P h' t a d := by
  obtain ⟨fuel, htr⟩ := htr
  obtain ⟨n', ρ', h', as_, a1, a2, a3, a4, a5, a6, a7, a8⟩ := openD 8 fuel t _ d ps n ρ h hp htr o
  unfold plainT at hp
  split at hp
  · rename_i hu
    obtain ⟨b, rfl⟩ := okWide_bool hu hok
    simp [Value.cells] at a5
    obtain ⟨x, rfl⟩ : ∃ x, as_ = [x] := List.length_eq_one_iff.1 a5
    refine ⟨n', ρ', h', x, a1, a2, a3, a4, by simpa [Value.cells] using a6 0, ?_⟩
    unfold RepA; rw [hu]; exact a7
  · rename_i q hu
    obtain ⟨b, rfl⟩ := okWide_int hu hok
    simp [Value.cells] at a5
    obtain ⟨x, rfl⟩ : ∃ x, as_ = [x] := List.length_eq_one_iff.1 a5
    refine ⟨n', ρ', h', x, a1, a2, a3, a4, by simpa [Value.cells] using a6 0, ?_⟩
    unfold RepA; rw [hu]; exact a7
  · rename_i hu
    obtain ⟨b, rfl⟩ := okWide_string hu hok
    simp [Value.cells] at a5
    obtain ⟨x, rfl⟩ : ∃ x, as_ = [x] := List.length_eq_one_iff.1 a5
    refine ⟨n', ρ', h', x, a1, a2, a3, a4, by simpa [Value.cells] using a6 0, ?_⟩
    unfold RepA; rw [hu]; exact a7
  · rename_i e hu
    obtain ⟨b, l, c, rfl⟩ := okWide_slice hu hok
    simp [Value.cells] at a5
    obtain ⟨x, rfl⟩ : ∃ x, as_ = [x] := List.length_eq_one_iff.1 a5
    refine ⟨n', ρ', h', x, a1, a2, a3, a4, by simpa [Value.cells] using a6 0, ?_⟩
    unfold RepA; rw [hu]; exact a7
  · rename_i fs hu
    obtain ⟨cs, rfl, hcs⟩ := okWide_struct hu hok
    simp only [Value.cells] at a5 a6
    refine ⟨n', ρ', h', .agg as_.toArray, a1, a2, a3, a4, .agg (by simpa using a5) fun i => ?_, ?_⟩
    · have := a6 i
      simpa [Array.getD_eq_getD_getElem?, List.getD] using this
    · unfold RepA; rw [hu]; exact ⟨as_, rfl, a7⟩
  · cases hp

theorem openAll : ∀ (ts : List TypeId) (vs : List Value) (ds : List (DataW H)) (ps : List MemPlace), ts.all (plainT P 8) = true → DataW.TrodAll enc P w 0 (fun _ => true) true ts vs ds ps →
    (∀ (j : Nat) t v, ts[j]? = some t → vs[j]? = some v → Value.okWide P w .any base t v) → ∀ {n : Nat} {ρ : Ren} {h : AH}, OpenInv w n ρ h →
    ∃ n' ρ' h' as_, n ≤ n' ∧ ρ.le ρ' ∧ OpenInv w n' ρ' h' ∧ Ext n h h' ∧ as_.length = vs.length ∧ (∀ i, VRel ρ' (as_.getD i (.tuple #[])) (vs.getD i (.tuple #[]))) ∧ RepArgs P h' ts as_ ds
  | [], vs, ds, ps, _, htr, _, n, ρ, h, o => by
    obtain ⟨rfl, rfl, rfl⟩ := trodAll_nil htr
    exact ⟨n, ρ, h, [], Nat.le_refl _, .refl _, o, .refl _ _, rfl, fun i => by simp; exact .unk _, .nil⟩
  | t :: ts, vs, ds, ps, hp, htr, hok, n, ρ, h, o => by
    simp only [List.all_cons, Bool.and_eq_true] at hp
    obtain ⟨v, vs', d, ds', p, q, rfl, rfl, rfl, h1, h2⟩ := trodAll_cons htr
    obtain ⟨n1, ρ1, h1', a, b1, b2, b3, b4, b5, b6⟩ := openV hp.1 (hok 0 t v rfl rfl) h1 o
    obtain ⟨n2, ρ2, h2', as_, c1, c2, c3, c4, c5, c6, c7⟩ := openAll ts vs' ds' q hp.2 h2 (fun j t v ht hv => hok (j + 1) t v (by simpa using ht) (by simpa using hv)) b3
    refine ⟨n2, ρ2, h2', a :: as_, by omega, b2.trans c2, c3, Ext.trans b1 b4 c4, by simp [c5], fun i => ?_, .cons (b6.ext c4 b3.low) c7⟩
    cases i with
    | zero => exact b5.mono c2
    | succ i => simpa using c6 i

theorem law_calls {f : FuncId} {ts : List TypeId} {args : Array Value} {ds : List (DataW H)} {ps : List MemPlace} (hp : ts.all (plainT P 8) = true) (htr : DataW.TrodAll enc P w 0 (fun _ => true) true ts args.toList ds ps)
    (hok : ∀ (j : Nat) t v, ts[j]? = some t → args[j]? = some v → Value.okWide P w .any base t v)
    (body : ∀ (n : Nat) (h : AH) (as_ : List Value), Low n h → 0 < n → RepArgs P h ts as_ ds → ∃ n' h', Ev P none' f as_.toArray n h (.bool true) n' h') :
    Calls P f args w fun e w' => e = .returned (.bool true) ∧ Below w.heap.size w w' := by
  obtain ⟨n, ρ, h, as_, _, _, o, _, hl, hv, hr⟩ := openAll ts args.toList ds ps hp htr (fun j t v h1 h2 => hok j t v h1 (by simpa using h2)) (OpenInv.start w)
  obtain ⟨n', h', _, d, hle, hn, hwi, run⟩ := body (n + 1) h as_ (fun b hb => o.low b (by omega)) (by omega) hr
  refine (callsIn_wide (n := 0)).1 ?_
  refine CallsIn.mono (run (.start w) ρ w h args (.refl _) (fun b h1 _ => o.fresh b (by omega)) o.sim ⟨by simpa using hl, fun i => ?_⟩) ?_
  · have := hv i
    simpa [Array.getD_eq_getD_getElem?, List.getD] using this
  · rintro e w' ⟨ρ', c, rfl, hg, hvr, hs⟩
    exact ⟨by rw [hvr.bool_inv], hs.base⟩

end Go.Abs

/- Stepping through code: one law a kind of operation, for the text's order. -/
namespace Go.Abs
open Go.RowKit

inductive Look : Env → Nat → Value → Prop
  | here {k v r} : Look ((k, v) :: r) k v
  | there {k k' v v' r} (hk : Nat.beq k k' = false) (h : Look r k' v') : Look ((k, v) :: r) k' v'
theorem Look.get {env : Env} {t : Nat} {v : Value} (h : Look env t v) : env.get t = v := by
  induction h with
  | here => simp [Env.get]
  | there hk _ ih => simp only [Env.get, hk]; exact ih

inductive Opd (env : Env) : Operand → Value → Prop
  | tmp {t v} (h : Look env t v) : Opd env (.tmp t) v
  | const {v} (h : flat 8 v = true) : Opd env (.const v) v
  | func {f} : Opd env (.func f) (.func (.func f) #[] #[])
theorem Opd.ev {env : Env} {x : Operand} {v : Value} (h : Opd env x v) : ev env x = v := by
  cases h with
  | tmp h => exact h.get
  | const h => simp [Abs.ev, h]
  | func => rfl
inductive Opds (env : Env) : List Operand → List Value → Prop
  | nil : Opds env [] []
  | cons {x v xs vs} (h : Opd env x v) (t : Opds env xs vs) : Opds env (x :: xs) (v :: vs)
theorem Opds.map {env : Env} {xs : List Operand} {vs : List Value} (h : Opds env xs vs) : xs.map (ev env) = vs := by
  induction h with
  | nil => rfl
  | cons h _ ih => simp [h.ev, ih]
theorem Opds.mapA {env : Env} {xs : List Operand} {vs : List Value} (h : Opds env xs vs) : xs.toArray.map (ev env) = vs.toArray := by
  rw [List.map_toArray, h.map]

structure RS (P : Program) (T : Nat → Prop) (ops : Array Oper) (os : List Oper) (env : Env) (n : Nat) (h : AH) (Q : Env → Nat → AH → Prop) : Prop where
  out : ∃ env' n' h' d, Seq P T ops os env n h env' n' h' d ∧ Q env' n' h'
structure RC (P : Program) (T : Nat → Prop) (N : Nat) (c : Code) (env : Env) (n : Nat) (h : AH) (Q : Exit → Env → Nat → AH → Prop) : Prop where
  out : ∃ e env' n' h', Ex P T N c env n h e env' n' h' ∧ Q e env' n' h'
structure RL (P : Program) (T : Nat → Prop) (N : Nat) (c : Code) (env : Env) (n : Nat) (h : AH) (Q : Exit → Env → Nat → AH → Prop) : Prop where
  out : ∃ e env' n' h', ExL P T N c env n h e env' n' h' ∧ Q e env' n' h'
structure RF (P : Program) (W : Nat → Prop) (f : FuncId) (args : Array Value) (n : Nat) (h : AH) (Q : Value → Nat → AH → Prop) : Prop where
  out : ∃ r n' h', Ev P W f args n h r n' h' ∧ Q r n' h'

structure thenC (P : Program) (T : Nat → Prop) (N : Nat) (y : Code) (Q : Exit → Env → Nat → AH → Prop) (e : Exit) (env : Env) (n : Nat) (h : AH) : Prop where
  out : match e with
    | .normal => RC P T N y env n h Q
    | e => Q e env n h
structure loopC (P : Program) (T : Nat → Prop) (N : Nat) (c : Code) (Q : Exit → Env → Nat → AH → Prop) (e : Exit) (env : Env) (n : Nat) (h : AH) : Prop where
  out : match e with
    | .normal => RL P T N c env n h Q
    | e => Q e env n h

section
variable {P : Program} {T : Nat → Prop} {N : Nat} {Q : Exit → Env → Nat → AH → Prop} {env : Env} {n : Nat} {h : AH}

theorem RC.seq {x y : Code} (k : RC P T N x env n h (thenC P T N y Q)) : RC P T N (.seq x y) env n h Q := by
  obtain ⟨e, env', n', h', hx, hq⟩ := k
  obtain ⟨hq⟩ := hq
  by_cases he : e = .normal
  · subst he
    obtain ⟨e2, env2, n2, h2, hy, hq2⟩ := hq
    exact ⟨e2, env2, n2, h2, hx.seq hy, hq2⟩
  · refine ⟨e, env', n', h', hx.seq_out he, ?_⟩
    cases e <;> first | exact absurd rfl he | exact hq
theorem thenC.normal {y : Code} (k : RC P T N y env n h Q) : thenC P T N y Q .normal env n h := ⟨k⟩
theorem thenC.ret {y : Code} (k : Q .ret env n h) : thenC P T N y Q .ret env n h := ⟨k⟩
theorem thenC.exit {y : Code} {id : Nat} (k : Q (.exit id) env n h) : thenC P T N y Q (.exit id) env n h := ⟨k⟩
theorem loopC.normal {c : Code} (k : RL P T N c env n h Q) : loopC P T N c Q .normal env n h := ⟨k⟩
theorem loopC.ret {c : Code} (k : Q .ret env n h) : loopC P T N c Q .ret env n h := ⟨k⟩
theorem loopC.exit {c : Code} {id : Nat} (k : Q (.exit id) env n h) : loopC P T N c Q (.exit id) env n h := ⟨k⟩
theorem RC.skip (k : Q .normal env n h) : RC P T N .skip env n h Q := ⟨⟨_, _, _, _, Ex.skip, k⟩⟩
theorem RC.ret (k : Q .ret env n h) : RC P T N .ret env n h Q := ⟨_, _, _, _, Ex.ret, k⟩
theorem RC.exit {id : Nat} (k : Q (.exit id) env n h) : RC P T N (.exit id) env n h Q := ⟨_, _, _, _, Ex.exit, k⟩
theorem RC.cond {c : Operand} {x y : Code} {b : Bool} (hc : Opd env c (.bool b)) (k : RC P T N (if b then x else y) env n h Q) : RC P T N (.cond c x y) env n h Q := by
  obtain ⟨e, env', n', h', hx, hq⟩ := k
  exact ⟨e, env', n', h', Ex.cond hc.ev hx, hq⟩
theorem RC.condT {c : Operand} {x y : Code} (hc : Opd env c (.bool true)) (k : RC P T N x env n h Q) : RC P T N (.cond c x y) env n h Q := RC.cond hc k
theorem RC.condF {c : Operand} {x y : Code} (hc : Opd env c (.bool false)) (k : RC P T N y env n h Q) : RC P T N (.cond c x y) env n h Q := RC.cond hc k
theorem RC.block {id : Nat} {c : Code} (k : RC P T N c env n h (fun e => Q (outOf id e))) : RC P T N (.block id c) env n h Q := by
  obtain ⟨e, env', n', h', hx, hq⟩ := k
  exact ⟨_, env', n', h', Ex.block hx, hq⟩
theorem RC.region {ops : List Oper} {id : Nat} (hd : dstOk N ops = true) (k : RS P T ops.toArray ops env n h (fun env n h => Q .normal env n h)) : RC P T N (.region id ops.toArray false) env n h Q := by
  obtain ⟨env', n', h', d, hs, hq⟩ := k
  exact ⟨_, _, _, _, Ex.region (d := d) (by simpa using hs) (by simpa using hd), hq⟩
theorem RC.loop {c : Code} (k : RL P T N c env n h Q) : RC P T N (.loop c) env n h Q := by
  obtain ⟨e, env', n', h', hx, hq⟩ := k
  exact ⟨_, _, _, _, Ex.loop hx, hq⟩
theorem RL.round {c : Code} (k : RC P T N c env n h (loopC P T N c Q)) : RL P T N c env n h Q := by
  obtain ⟨e, env', n', h', hx, hq⟩ := k
  obtain ⟨hq⟩ := hq
  by_cases he : e = .normal
  · subst he
    obtain ⟨e2, env2, n2, h2, hy, hq2⟩ := hq
    exact ⟨e2, env2, n2, h2, ExL.round hx hy, hq2⟩
  · refine ⟨e, env', n', h', ExL.out hx he, ?_⟩
    cases e <;> first | exact absurd rfl he | exact hq
theorem RL.weak {c : Code} {env0 : Env} (h0 : env0.le env) (k : RL P T N c env0 n h Q) : RL P T N c env n h Q := by
  obtain ⟨e, env', n', h', hx, hq⟩ := k
  exact ⟨e, env', n', h', hx.weaken h0 (.refl _), hq⟩
theorem RC.mono {c : Code} {Q' : Exit → Env → Nat → AH → Prop} (k : RC P T N c env n h Q) (hq : ∀ e env n h, Q e env n h → Q' e env n h) : RC P T N c env n h Q' := by
  obtain ⟨e, env', n', h', hx, hk⟩ := k
  exact ⟨e, env', n', h', hx, hq _ _ _ _ hk⟩
theorem RL.mono {c : Code} {Q' : Exit → Env → Nat → AH → Prop} (k : RL P T N c env n h Q) (hq : ∀ e env n h, Q e env n h → Q' e env n h) : RL P T N c env n h Q' := by
  obtain ⟨e, env', n', h', hx, hk⟩ := k
  exact ⟨e, env', n', h', hx, hq _ _ _ _ hk⟩
end

def envLe (e f : Env) : Prop := ∀ p ∈ e, f.get p.1 = p.2
theorem Env.le_of {e f : Env} (h : ∀ p ∈ e, f.get p.1 = p.2) : e.le f := by
  intro t
  induction e with
  | nil => exact .inl rfl
  | cons p r ih =>
    obtain ⟨k, v⟩ := p
    by_cases hk : k = t
    · subst hk
      right
      have := h (k, v) (by simp)
      simp only [Env.get]
      rw [if_pos (by simp)]; exact this
    · have := ih fun p hp => h p (by simp [hp])
      simp only [Env.get]
      rw [if_neg (by simpa using hk)]; exact this
inductive Envs (f : Env) : Env → Prop
  | nil : Envs f []
  | cons {k v r} (h : Look f k v) (t : Envs f r) : Envs f ((k, v) :: r)
theorem Envs.le {e f : Env} (h : Envs f e) : e.le f := by
  refine Env.le_of ?_
  induction h with
  | nil => intro p hp; simp at hp
  | cons h t ih =>
    intro p hp
    rcases List.mem_cons.1 hp with rfl | hp
    · exact h.get
    · exact ih p hp

structure endC (P : Program) (fn : Func) (Q : Value → Nat → AH → Prop) (e : Exit) (env : Env) (n : Nat) (h : AH) : Prop where
  out : (e = .normal ∨ e = .ret) ∧ ∃ vs, ResA P env h fn.results.toList vs ∧ Q (packed vs) n h
theorem RF.of {P : Program} {W : Nat → Prop} {f : FuncId} {fn : Func} {c : Code} {args : Array Value} {n : Nat} {h : AH} {Q : Value → Nat → AH → Prop} (hf : P.funcs[f]? = some fn) (hb : fn.body = some c)
    (hnm : (fn.name == "runtime.NumGoroutine") = false) (ha : args.size ≤ fn.ntmps) (k : RC P (fun b => W b ∨ n ≤ b) fn.ntmps c (argEnv 0 args.toList) n h (endC P fn Q)) : RF P W f args n h Q := by
  obtain ⟨e, env', n', h', hx, ⟨he, vs, hr, hq⟩⟩ := k
  exact ⟨packed vs, n', h', Ev.of hf hb hnm ha hx he hr, hq⟩
theorem RF.mono {P : Program} {W : Nat → Prop} {f : FuncId} {args : Array Value} {n : Nat} {h : AH} {Q Q' : Value → Nat → AH → Prop} (k : RF P W f args n h Q) (hq : ∀ r n h, Q r n h → Q' r n h) : RF P W f args n h Q' := by
  obtain ⟨r, n', h', hx, hk⟩ := k
  exact ⟨r, n', h', hx, hq _ _ _ hk⟩
theorem RF.ev {P : Program} {W : Nat → Prop} {f : FuncId} {args : Array Value} {n : Nat} {h : AH} {r : Value} {n' : Nat} {h' : AH} (k : Ev P W f args n h r n' h') {Q : Value → Nat → AH → Prop} (hq : Q r n' h') : RF P W f args n h Q := ⟨r, n', h', k, hq⟩

section
variable {P : Program} {T W : Nat → Prop} {ops : Array Oper} {os : List Oper} {env : Env} {n n1 : Nat} {h h1 : AH} {Q : Env → Nat → AH → Prop}
variable {dst : Option Tmp} {ty : TypeId} {pos : String} {after : Array Edge} {gd : Option (Nat × Bool)}

theorem RS.nil (k : Q env n h) : RS P T ops [] env n h Q := ⟨_, _, _, _, .nil, k⟩
theorem RS.op {o : Oper} {v : Value} {d : Dl} (hw : wants ops o env = some true) (ho : OpEv P T o env n h v n1 d) (hh : h1.le (h.app d)) (k : RS P T ops os (env.put o.dst v) n1 h1 Q) : RS P T ops (o :: os) env n h Q := by
  obtain ⟨env', n', h', e, hs, hq⟩ := k
  exact ⟨env', n', h', _, .op hw ho hh hs, hq⟩
theorem RS.skip {o : Oper} (hw : wants ops o env = some false) (k : RS P T ops os (env.put o.dst skipV) n h Q) : RS P T ops (o :: os) env n h Q := by
  obtain ⟨env', n', h', e, hs, hq⟩ := k
  exact ⟨env', n', h', _, .skip hw hs, hq⟩
theorem RS.calc {o : Oper} {v : Value} (hw : wants ops o env = some true) (ho : OpEv P T o env n h v n .nil) (k : RS P T ops os (env.put o.dst v) n h Q) : RS P T ops (o :: os) env n h Q :=
  RS.op hw ho (by rw [AH.app_nil]; exact .refl _) k

theorem RS.call {d : Tmp} {f : FuncId} {xs : List Operand} {vs : List Value} {ts : Array TypeId} {QC : Value → Nat → AH → Prop} (hw : wants ops ⟨some d, .call { callee := .value (.func f), args := xs.toArray, argTypes := ts }, ty, pos, after, gd⟩ env = some true)
    (hx : Opds env xs vs) (hev : RF P W f vs.toArray n h QC) (hW : ∀ b, W b → T b) (k : ∀ r n1 h1, n ≤ n1 → QC r n1 h1 → RS P T ops os ((d, r) :: env) n1 h1 Q) :
    RS P T ops (⟨some d, .call { callee := .value (.func f), args := xs.toArray, argTypes := ts }, ty, pos, after, gd⟩ :: os) env n h Q := by
  obtain ⟨r, n1, h1, hev, hq⟩ := hev
  rw [← hx.mapA] at hev
  obtain ⟨dl, hle, _, ho⟩ := op_call (T := T) (ty := ty) (dst := some d) (pos := pos) (after := after) (gd := gd) (ts := ts) hev hW
  exact RS.op hw ho hle (k r n1 h1 ho.le hq)
theorem RS.call1 {d : Tmp} {f : FuncId} {xs : List Operand} {vs : List Value} {ts : Array TypeId} {r : Value} (hw : wants ops ⟨some d, .call { callee := .value (.func f), args := xs.toArray, argTypes := ts }, ty, pos, after, gd⟩ env = some true)
    (hx : Opds env xs vs) (hev : Ev P W f vs.toArray n h r n1 h1) (hW : ∀ b, W b → T b) (k : RS P T ops os ((d, r) :: env) n1 h1 Q) :
    RS P T ops (⟨some d, .call { callee := .value (.func f), args := xs.toArray, argTypes := ts }, ty, pos, after, gd⟩ :: os) env n h Q := by
  rw [← hx.mapA] at hev
  obtain ⟨dl, hle, _, ho⟩ := op_call (T := T) (ty := ty) (dst := some d) (pos := pos) (after := after) (gd := gd) (ts := ts) hev hW
  exact RS.op hw ho hle k

end
end Go.Abs

/- Stepping: the operations' laws with looked-up operands, comparisons that part the way, cells found through updates. -/
namespace Go.Abs
open Go.RowKit

section
variable {P : Program} {T W : Nat → Prop} {ops : Array Oper} {os : List Oper} {env : Env} {n n1 : Nat} {h h1 g : AH} {Q : Env → Nat → AH → Prop}
variable {dst : Option Tmp} {ty : TypeId} {pos : String} {after : Array Edge} {gd : Option (Nat × Bool)}

theorem o_move {x : Operand} {v : Value} (hx : Opd env x v) : OpEv P T ⟨dst, .move x, ty, pos, after, gd⟩ env n g v n .nil := hx.ev ▸ op_move
theorem o_assign {x : Operand} {v : Value} (hx : Opd env x v) : OpEv P T ⟨dst, .assign x, ty, pos, after, gd⟩ env n g v n .nil := hx.ev ▸ op_assign
theorem o_pickT {c x y : Operand} {v : Value} (hc : Opd env c (.bool true)) (hx : Opd env x v) : OpEv P T ⟨dst, .pick c x y, ty, pos, after, gd⟩ env n g v n .nil := by
  have := op_pick (P := P) (T := T) (n := n) (g := g) (x := x) (y := y) (dst := dst) (ty := ty) (pos := pos) (after := after) (gd := gd) hc.ev
  simp only [if_true, hx.ev] at this; exact this
theorem o_pickF {c x y : Operand} {v : Value} (hc : Opd env c (.bool false)) (hy : Opd env y v) : OpEv P T ⟨dst, .pick c x y, ty, pos, after, gd⟩ env n g v n .nil := by
  have := op_pick (P := P) (T := T) (n := n) (g := g) (x := x) (y := y) (dst := dst) (ty := ty) (pos := pos) (after := after) (gd := gd) hc.ev
  simp only [Bool.false_eq_true, if_false, hy.ev] at this; exact this
theorem wrap64 {a : Int} (h1 : -9223372036854775808 ≤ a) (h2 : a ≤ 9223372036854775807) : IntKind.i64.wrap a = a := by
  simp only [IntKind.wrap, IntKind.signed]; simp [IntKind.bits]; omega
theorem o_add64 {t t' : TypeId} {x y : Operand} {a b : Int} (hx : Opd env x (.int .i64 a)) (hy : Opd env y (.int .i64 b)) (h1 : -9223372036854775808 ≤ a + b) (h2 : a + b ≤ 9223372036854775807) :
    OpEv P T ⟨dst, .binOp .add t x y t', ty, pos, after, gd⟩ env n g (.int .i64 (a + b)) n .nil := op_bin hx.ev hy.ev (by simp only [binI, wrap64 h1 h2])
theorem o_sub64 {t t' : TypeId} {x y : Operand} {a b : Int} (hx : Opd env x (.int .i64 a)) (hy : Opd env y (.int .i64 b)) (h1 : -9223372036854775808 ≤ a - b) (h2 : a - b ≤ 9223372036854775807) :
    OpEv P T ⟨dst, .binOp .sub t x y t', ty, pos, after, gd⟩ env n g (.int .i64 (a - b)) n .nil := op_bin hx.ev hy.ev (by simp only [binI, wrap64 h1 h2])
theorem o_mul64 {t t' : TypeId} {x y : Operand} {a b : Int} (hx : Opd env x (.int .i64 a)) (hy : Opd env y (.int .i64 b)) (h1 : -9223372036854775808 ≤ a * b) (h2 : a * b ≤ 9223372036854775807) :
    OpEv P T ⟨dst, .binOp .mul t x y t', ty, pos, after, gd⟩ env n g (.int .i64 (a * b)) n .nil := op_bin hx.ev hy.ev (by simp only [binI, wrap64 h1 h2])
theorem o_quo64 {t t' : TypeId} {x y : Operand} {a b : Int} (hx : Opd env x (.int .i64 a)) (hy : Opd env y (.int .i64 b)) (ha : 0 ≤ a) (hb : 0 < b) (h2 : a ≤ 9223372036854775807) :
    OpEv P T ⟨dst, .binOp .quo t x y t', ty, pos, after, gd⟩ env n g (.int .i64 (a / b)) n .nil := op_bin hx.ev hy.ev (by
      have hb' : b ≠ 0 := by omega
      have h3 : a / b ≤ a := Int.ediv_le_self b ha
      have h4 : 0 ≤ a / b := Int.ediv_nonneg ha (by omega)
      simp only [binI, if_neg hb', Int.tdiv_eq_ediv_of_nonneg ha]
      rw [wrap64 (by omega) (by omega)])
theorem o_rem64 {t t' : TypeId} {k : IntKind} {x y : Operand} {a b : Int} (hx : Opd env x (.int k a)) (hy : Opd env y (.int k b)) (ha : 0 ≤ a) (hb : 0 < b) :
    OpEv P T ⟨dst, .binOp .rem t x y t', ty, pos, after, gd⟩ env n g (.int k (a % b)) n .nil := op_bin hx.ev hy.ev (by
      have hb' : b ≠ 0 := by omega
      simp only [binI, if_neg hb', Int.tmod_eq_emod_of_nonneg ha])
theorem o_eql {t t' : TypeId} {x y : Operand} {k : IntKind} {a b : Int} (hx : Opd env x (.int k a)) (hy : Opd env y (.int k b)) :
    OpEv P T ⟨dst, .binOp .eql t x y t', ty, pos, after, gd⟩ env n g (.bool (decide (a = b))) n .nil := op_bin hx.ev hy.ev rfl
theorem o_neq {t t' : TypeId} {x y : Operand} {k : IntKind} {a b : Int} (hx : Opd env x (.int k a)) (hy : Opd env y (.int k b)) :
    OpEv P T ⟨dst, .binOp .neq t x y t', ty, pos, after, gd⟩ env n g (.bool (decide (a ≠ b))) n .nil := op_bin hx.ev hy.ev (by
      simp only [binI]; congr 2
      by_cases h : a = b
      · subst h; simp
      · simp [h, bne])
theorem o_lss {t t' : TypeId} {x y : Operand} {k : IntKind} {a b : Int} (hx : Opd env x (.int k a)) (hy : Opd env y (.int k b)) :
    OpEv P T ⟨dst, .binOp .lss t x y t', ty, pos, after, gd⟩ env n g (.bool (decide (a < b))) n .nil := op_bin hx.ev hy.ev rfl
theorem o_leq {t t' : TypeId} {x y : Operand} {k : IntKind} {a b : Int} (hx : Opd env x (.int k a)) (hy : Opd env y (.int k b)) :
    OpEv P T ⟨dst, .binOp .leq t x y t', ty, pos, after, gd⟩ env n g (.bool (decide (a ≤ b))) n .nil := op_bin hx.ev hy.ev rfl
theorem o_gtr {t t' : TypeId} {x y : Operand} {k : IntKind} {a b : Int} (hx : Opd env x (.int k a)) (hy : Opd env y (.int k b)) :
    OpEv P T ⟨dst, .binOp .gtr t x y t', ty, pos, after, gd⟩ env n g (.bool (decide (b < a))) n .nil := op_bin hx.ev hy.ev rfl
theorem o_geq {t t' : TypeId} {x y : Operand} {k : IntKind} {a b : Int} (hx : Opd env x (.int k a)) (hy : Opd env y (.int k b)) :
    OpEv P T ⟨dst, .binOp .geq t x y t', ty, pos, after, gd⟩ env n g (.bool (decide (b ≤ a))) n .nil := op_bin hx.ev hy.ev rfl
theorem o_shl {t t' : TypeId} {x y : Operand} {k yk : IntKind} {a b : Int} (hx : Opd env x (.int k a)) (hy : Opd env y (.int yk b)) (hb : 0 ≤ b) :
    OpEv P T ⟨dst, .binOp .shl t x y t', ty, pos, after, gd⟩ env n g (.int k (k.wrap (a * 2 ^ (min b.toNat k.bits)))) n .nil := op_shl hx.ev hy.ev hb
theorem o_shr {t t' : TypeId} {x y : Operand} {k yk : IntKind} {a b : Int} (hx : Opd env x (.int k a)) (hy : Opd env y (.int yk b)) (hb : 0 ≤ b) :
    OpEv P T ⟨dst, .binOp .shr t x y t', ty, pos, after, gd⟩ env n g (.int k (a.fdiv (2 ^ (min b.toNat k.bits)))) n .nil := op_shr hx.ev hy.ev hb
theorem o_eqb {t t' : TypeId} {x y : Operand} {a b : Bool} (hu : P.underlying t = some .bool) (hx : Opd env x (.bool a)) (hy : Opd env y (.bool b)) :
    OpEv P T ⟨dst, .binOp .eql t x y t', ty, pos, after, gd⟩ env n g (.bool (a == b)) n .nil := op_eqb hu hx.ev hy.ev
theorem o_neb {t t' : TypeId} {x y : Operand} {a b : Bool} (hu : P.underlying t = some .bool) (hx : Opd env x (.bool a)) (hy : Opd env y (.bool b)) :
    OpEv P T ⟨dst, .binOp .neq t x y t', ty, pos, after, gd⟩ env n g (.bool (!(a == b))) n .nil := op_neb hu hx.ev hy.ev
theorem o_not {t : TypeId} {x : Operand} {b : Bool} (hx : Opd env x (.bool b)) : OpEv P T ⟨dst, .unOp .not t x, ty, pos, after, gd⟩ env n g (.bool (!b)) n .nil := op_not hx.ev
theorem o_notT {t : TypeId} {x : Operand} (hx : Opd env x (.bool true)) : OpEv P T ⟨dst, .unOp .not t x, ty, pos, after, gd⟩ env n g (.bool false) n .nil := op_not hx.ev
theorem o_notF {t : TypeId} {x : Operand} (hx : Opd env x (.bool false)) : OpEv P T ⟨dst, .unOp .not t x, ty, pos, after, gd⟩ env n g (.bool true) n .nil := op_not hx.ev
theorem o_neg {t : TypeId} {x : Operand} {k : IntKind} {a : Int} (hx : Opd env x (.int k a)) : OpEv P T ⟨dst, .unOp .neg t x, ty, pos, after, gd⟩ env n g (.int k (k.wrap (0 - a))) n .nil := op_neg hx.ev
theorem o_compl {t : TypeId} {x : Operand} {k : IntKind} {a : Int} (hx : Opd env x (.int k a)) :
    OpEv P T ⟨dst, .unOp .xor t x, ty, pos, after, gd⟩ env n g (.int k (k.wrap (BitVec.ofInt k.bits (if k.signed then -1 else k.max) ^^^ BitVec.ofInt k.bits a).toNat)) n .nil := op_compl hx.ev
theorem o_conv {s t : TypeId} {x : Operand} {k k' : IntKind} {a : Int} {d : TypeDesc} (hs : P.underlying s = some d) (ht : P.underlying t = some (.int k')) (hx : Opd env x (.int k a)) :
    OpEv P T ⟨dst, .convert s t x, ty, pos, after, gd⟩ env n g (.int k' (k'.wrap a)) n .nil := op_conv hs ht hx.ev
theorem o_extract {x : Operand} {i : Nat} {vs : Array Value} {v : Value} (hx : Opd env x (.tuple vs)) (hv : vs[i]? = some v) : OpEv P T ⟨dst, .extract x i, ty, pos, after, gd⟩ env n g v n .nil := op_extract hx.ev hv
theorem o_iface {t : TypeId} {x : Operand} {v : Value} {d : TypeDesc} (hx : Opd env x v) (hu : P.underlying t = some d) (hd : (match d with | .interface _ => false | _ => true) = true) :
    OpEv P T ⟨dst, .makeInterface t x, ty, pos, after, gd⟩ env n g (.iface t v) n .nil := hx.ev ▸ op_iface hu hd
def FA (P : Program) (s : TypeId) (i off : Nat) : Prop := ∃ fs f d z by_ zv, P.underlying s = some (.struct fs) ∧ fs[i]? = some f ∧ f.offset = off ∧ TI P f.type d z by_ zv ∧ z ≠ 0
theorem FA.of {P : Program} {s i off : Nat} {fs : Array Field} {f : Field} {d : TypeDesc} {z by_ : Nat} {zv : Value} (hu : P.underlying s = some (.struct fs)) (hf : fs[i]? = some f) (ho : f.offset = off) (hz : TI P f.type d z by_ zv) (h0 : z ≠ 0) : FA P s i off :=
  ⟨fs, f, d, z, by_, zv, hu, hf, ho, hz, h0⟩
theorem o_fieldAddr {s : TypeId} {x : Operand} {i b o off : Nat} (hx : Opd env x (.pointer (some ⟨b, o, none⟩))) (hf : FA P s i off) :
    OpEv P T ⟨dst, .fieldAddr s x i, ty, pos, after, gd⟩ env n g (.pointer (some ⟨b, o + off, none⟩)) n .nil := by
  obtain ⟨fs, f, d, z, by_, zv, hu, hf, rfl, hz, h0⟩ := hf
  exact op_fieldAddr hu hf hz h0 hx.ev
theorem o_index {t e : TypeId} {x y : Operand} {b o m : Nat} {k : IntKind} {i : Int} {d : TypeDesc} {z by_ : Nat} {zv : Value} (hx : Opd env x (.slice (some ⟨b, o, none⟩) m m)) (hy : Opd env y (.int k i)) (hu : P.underlying t = some (.slice e))
    (hz : TI P e d z by_ zv) (h0 : 0 ≤ i) (hi : i < m) :
    OpEv P T ⟨dst, .indexAddr t x y, ty, pos, after, gd⟩ env n g (.pointer (some ⟨b, o + i.toNat * z, none⟩)) n .nil := op_indexAddr hu hz hx.ev hy.ev h0 hi
theorem o_arrayAddr {t e : TypeId} {x y : Operand} {b o m : Nat} {k : IntKind} {i : Int} {d : TypeDesc} {z by_ : Nat} {zv : Value} (hx : Opd env x (.pointer (some ⟨b, o, none⟩))) (hy : Opd env y (.int k i)) (hu : P.underlying t = some (.array m e))
    (hz : TI P e d z by_ zv) (h0 : 0 ≤ i) (hi : i < m) :
    OpEv P T ⟨dst, .indexAddr t x y, ty, pos, after, gd⟩ env n g (.pointer (some ⟨b, o + i.toNat * z, none⟩)) n .nil := op_arrayAddr hu hz hx.ev hy.ev h0 hi
theorem o_nilCheck {x : Operand} {b o : Nat} (hx : Opd env x (.pointer (some ⟨b, o, none⟩))) : OpEv P T ⟨dst, .nilCheck x, ty, pos, after, gd⟩ env n g (.pointer (some ⟨b, o, none⟩)) n .nil := op_nilCheck hx.ev
theorem o_nilCheckI {x : Operand} {t : TypeId} {v : Value} (hx : Opd env x (.iface t v)) : OpEv P T ⟨dst, .nilCheck x, ty, pos, after, gd⟩ env n g (.iface t v) n .nil := op_nilCheckI hx.ev
theorem o_len {x : Operand} {t e : TypeId} {a : Option Addr} {m c : Nat} (hx : Opd env x (.slice a m c)) (hu : P.underlying t = some (.slice e)) :
    OpEv P T ⟨dst, .call { callee := .builtin .len, args := #[x], argTypes := #[t] }, ty, pos, after, gd⟩ env n g (.int .i64 m) n .nil := op_len hu hx.ev
theorem o_min {x y : Operand} {ts : Array TypeId} {k : IntKind} {a b : Int} (hx : Opd env x (.int k a)) (hy : Opd env y (.int k b)) :
    OpEv P T ⟨dst, .call { callee := .builtin .min, args := #[x, y], argTypes := ts }, ty, pos, after, gd⟩ env n g (.int k (min a b)) n .nil := op_min hx.ev hy.ev
theorem o_max {x y : Operand} {ts : Array TypeId} {k : IntKind} {a b : Int} (hx : Opd env x (.int k a)) (hy : Opd env y (.int k b)) :
    OpEv P T ⟨dst, .call { callee := .builtin .max, args := #[x, y], argTypes := ts }, ty, pos, after, gd⟩ env n g (.int k (max a b)) n .nil := op_max hx.ev hy.ev
theorem o_eqnil {t t' : TypeId} {x : Operand} {v z : Value} {d : TypeDesc} {b : Bool} (hx : Opd env x v) (hu : P.underlying t = some d) (hd : nilFits d v z = true) (hb : isNilV v = some b) :
    OpEv P T ⟨dst, .binOp .eql t x (.const z) t', ty, pos, after, gd⟩ env n g (.bool b) n .nil := op_eqnil hu (hx.ev ▸ hd) (hx.ev ▸ hb)
theorem o_nenil {t t' : TypeId} {x : Operand} {v z : Value} {d : TypeDesc} {b : Bool} (hx : Opd env x v) (hu : P.underlying t = some d) (hd : nilFits d v z = true) (hb : isNilV v = some b) :
    OpEv P T ⟨dst, .binOp .neq t x (.const z) t', ty, pos, after, gd⟩ env n g (.bool (!b)) n .nil := op_nenil hu (hx.ev ▸ hd) (hx.ev ▸ hb)
theorem o_load {t : TypeId} {x : Operand} {b o : Nat} {d : TypeDesc} {z by_ : Nat} {zv : Value} {v : Value} (hx : Opd env x (.pointer (some ⟨b, o, none⟩))) (hz : TI P t d z by_ zv) (ha : isAggD d = false)
    (hv : g.cell b o = v) (hk : v ≠ .tuple #[]) : OpEv P T ⟨dst, .load t x, ty, pos, after, gd⟩ env n g v n .nil := op_load hz hx.ev ha hv hk
theorem o_loadAgg {t : TypeId} {x : Operand} {b o : Nat} {d : TypeDesc} {z by_ : Nat} {zv : Value} {vs : List Value} (hx : Opd env x (.pointer (some ⟨b, o, none⟩))) (hz : TI P t d z by_ zv) (ha : isAggD d = true) (hz0 : z ≠ 0)
    (hv : rd g b o z = vs) (hk : known vs = true) : OpEv P T ⟨dst, .load t x, ty, pos, after, gd⟩ env n g (.agg vs.toArray) n .nil := by
  subst hv; exact op_loadAgg hz hx.ev ha hk hz0
theorem o_box {e : TypeId} {x : Operand} {v : Value} (hx : Opd env x v) (hy : okV v = true) :
    OpEv P T ⟨dst, .box e x, ty, pos, after, gd⟩ env n g (.pointer (some ⟨n, 0, none⟩)) (n + 1) (.new n ⟨v.cells.toList.length, 0, true, 0⟩ v.cells.toList) := by
  have := op_box (P := P) (T := T) (n := n) (g := g) (e := e) (x := x) (env := env) (dst := dst) (ty := ty) (pos := pos) (after := after) (gd := gd) (by rw [hx.ev]; exact hy)
  rw [hx.ev] at this; exact this
theorem o_store1 {t : TypeId} {x y : Operand} {b o : Nat} {d : TypeDesc} {by_ : Nat} {zv v : Value} {m : Meta} (hx : Opd env x (.pointer (some ⟨b, o, none⟩))) (hv : Opd env y v) (hz : TI P t d 1 by_ zv)
    (hy : okV v = true) (hs : v.cells = #[v]) (hm : g.info b = some m) (hlk : m.lock ≤ o) (hin : o + 1 ≤ m.size) (hT : T b ∨ n ≤ b) (hb : b < n) :
    OpEv P T ⟨dst, .store t x y, ty, pos, after, gd⟩ env n g (.tuple #[]) n (.sets b o [v]) := by
  have := op_store (P := P) (T := T) (n := n) (g := g) (env := env) (t := t) (x := x) (y := y) (dst := dst) (ty := ty) (pos := pos) (after := after) (gd := gd) hz hx.ev (by rw [hv.ev]; exact hy) (by rw [hv.ev, hs]; rfl) hm hlk hin hT hb
  rw [hv.ev, hs] at this; exact this
theorem o_storeAgg {t : TypeId} {x y : Operand} {b o : Nat} {d : TypeDesc} {z by_ : Nat} {zv : Value} {l : List Value} {m : Meta} (hx : Opd env x (.pointer (some ⟨b, o, none⟩))) (hv : Opd env y (.agg l.toArray)) (hz : TI P t d z by_ zv)
    (hy : known l = true) (hs : l.length = z) (hm : g.info b = some m) (hlk : m.lock ≤ o) (hin : o + z ≤ m.size) (hT : T b ∨ n ≤ b) (hb : b < n) :
    OpEv P T ⟨dst, .store t x y, ty, pos, after, gd⟩ env n g (.tuple #[]) n (.sets b o l) := by
  have := op_store (P := P) (T := T) (n := n) (g := g) (env := env) (t := t) (x := x) (y := y) (dst := dst) (ty := ty) (pos := pos) (after := after) (gd := gd) hz hx.ev (by rw [hv.ev]; exact hy) (by rw [hv.ev]; simpa [Value.cells] using hs) hm hlk hin hT hb
  rw [hv.ev] at this; exact this

theorem RS.decT {o : Oper} {d : Tmp} {p : Prop} [Decidable p] (hw : wants ops o env = some true) (hd : o.dst = some d) (ho : OpEv P T o env n h (.bool (decide p)) n .nil) (hp : p) (k : RS P T ops os ((d, .bool true) :: env) n h Q) : RS P T ops (o :: os) env n h Q :=
  RS.calc hw ho (by rw [decide_eq_true hp, hd]; exact k)
theorem RS.decF {o : Oper} {d : Tmp} {p : Prop} [Decidable p] (hw : wants ops o env = some true) (hd : o.dst = some d) (ho : OpEv P T o env n h (.bool (decide p)) n .nil) (hp : ¬ p) (k : RS P T ops os ((d, .bool false) :: env) n h Q) : RS P T ops (o :: os) env n h Q :=
  RS.calc hw ho (by rw [decide_eq_false hp, hd]; exact k)
theorem RS.dec {o : Oper} {d : Tmp} {p : Prop} [Decidable p] (hw : wants ops o env = some true) (hd : o.dst = some d) (ho : OpEv P T o env n h (.bool (decide p)) n .nil) (kt : p → RS P T ops os ((d, .bool true) :: env) n h Q)
    (kf : ¬ p → RS P T ops os ((d, .bool false) :: env) n h Q) : RS P T ops (o :: os) env n h Q := by
  by_cases hp : p
  · exact RS.decT hw hd ho hp (kt hp)
  · exact RS.decF hw hd ho hp (kf hp)
theorem RS.put {o : Oper} {d : Tmp} {v : Value} (hw : wants ops o env = some true) (hd : o.dst = some d) (ho : OpEv P T o env n h v n .nil) (k : RS P T ops os ((d, v) :: env) n h Q) : RS P T ops (o :: os) env n h Q :=
  RS.calc hw ho (by rw [hd]; exact k)
theorem RS.omit {o : Oper} {d : Tmp} (hw : wants ops o env = some false) (hd : o.dst = some d) (k : RS P T ops os ((d, skipV) :: env) n h Q) : RS P T ops (o :: os) env n h Q :=
  RS.skip hw (by rw [hd]; exact k)
theorem RS.omit0 {o : Oper} (hw : wants ops o env = some false) (hd : o.dst = none) (k : RS P T ops os env n h Q) : RS P T ops (o :: os) env n h Q :=
  RS.skip hw (by rw [hd]; exact k)
theorem RS.mem {o : Oper} {d : Tmp} {v : Value} {dl : Dl} (hw : wants ops o env = some true) (hd : o.dst = some d) (ho : OpEv P T o env n h v n1 dl) (k : RS P T ops os ((d, v) :: env) n1 (h.app dl) Q) : RS P T ops (o :: os) env n h Q :=
  RS.op hw ho (.refl _) (by rw [hd]; exact k)
theorem RS.mem0 {o : Oper} {v : Value} {dl : Dl} (hw : wants ops o env = some true) (hd : o.dst = none) (ho : OpEv P T o env n h v n1 dl) (k : RS P T ops os env n1 (h.app dl) Q) : RS P T ops (o :: os) env n h Q :=
  RS.op hw ho (.refl _) (by rw [hd]; exact k)
/-! Cells, found through updates. -/
theorem c_new {h : AH} {n i : Nat} {m : Meta} {cs : List Value} {v : Value} (hv : cs[i]? = some v) : (h.app (.new n m cs)).cell n i = v := by simp [AH.app, Dl.new, List.getD, hv]
theorem c_new_ne {h : AH} {n b i : Nat} {m : Meta} {cs : List Value} {v : Value} (hb : b ≠ n) (k : h.cell b i = v) : (h.app (.new n m cs)).cell b i = v := by simp [AH.app, Dl.new, hb, k]
theorem c_in {h : AH} {b o i : Nat} {vs : List Value} {v : Value} (ho : o ≤ i) (hv : vs[i - o]? = some v) : (h.app (.sets b o vs)).cell b i = v := by
  have : i - o < vs.length := (List.getElem?_eq_some_iff.1 hv).1
  simp only [AH.app, Dl.sets]
  rw [if_pos (by first | exact ⟨rfl, ho, by omega⟩ | exact ⟨trivial, ho, by omega⟩)]; simp [List.getD, hv]
theorem c_out {h : AH} {b b' o i : Nat} {vs : List Value} {v : Value} (hb : b' ≠ b ∨ i < o ∨ o + vs.length ≤ i) (k : h.cell b' i = v) : (h.app (.sets b o vs)).cell b' i = v := by
  simp only [AH.app, Dl.sets]
  rw [if_neg (by omega)]; exact k
theorem i_new {h : AH} {n : Nat} {m : Meta} {cs : List Value} : (h.app (.new n m cs)).info n = some m := by simp [AH.app, Dl.new]
theorem i_new_ne {h : AH} {n b : Nat} {m : Meta} {cs : List Value} {q : Option Meta} (hb : b ≠ n) (k : h.info b = q) : (h.app (.new n m cs)).info b = q := by simp [AH.app, Dl.new, hb, k]
theorem i_sets {h : AH} {b b' o : Nat} {vs : List Value} {q : Option Meta} (k : h.info b' = q) : (h.app (.sets b o vs)).info b' = q := (sets_info h b o vs b').trans k
theorem rd_nil {h : AH} {b o : Nat} : rd h b o 0 = [] := rfl
theorem rd_cons {h : AH} {b o k : Nat} {v : Value} {vs : List Value} (hv : h.cell b o = v) (hr : rd h b (o + 1) k = vs) : rd h b o (k + 1) = v :: vs := by simp [rd, hv, hr]

end
end Go.Abs

/- Stepping: the end of a function; rows that are made, cut, appended to. -/
namespace Go.Abs
open Go.RowKit

inductive RV (P : Program) (env : Env) (h : AH) : ResultVar → Value → Prop
  | tmp {t v} (hl : Look env t v) : RV P env h (.tmp t) v
  | cell {a b o : Nat} {t : TypeId} {d : TypeDesc} {by_ : Nat} {zv v : Value} (hl : Look env a (.pointer (some ⟨b, o, none⟩))) (hz : TI P t d 1 by_ zv) (ha : isAggD d = false) (hv : h.cell b o = v) (hk : v ≠ .tuple #[]) : RV P env h (.cell a t) v
  | agg {a b o : Nat} {t : TypeId} {d : TypeDesc} {z by_ : Nat} {zv : Value} {vs : List Value} (hl : Look env a (.pointer (some ⟨b, o, none⟩))) (hz : TI P t d z by_ zv) (ha : isAggD d = true) (hv : rd h b o z = vs) (hk : known vs = true) : RV P env h (.cell a t) (.agg vs.toArray)
theorem RV.res {P : Program} {env : Env} {h : AH} {rv : ResultVar} {v : Value} (r : RV P env h rv v) : ResV P env h rv v := by
  cases r with
  | tmp hl => rw [← hl.get]; exact .tmp
  | cell hl hz ha hv hk => exact .cell hz hl.get ha hv hk
  | agg hl hz ha hv hk => subst hv; exact .agg hz hl.get ha hk

section
variable {P : Program} {fn : Func} {Q : Value → Nat → AH → Prop} {env : Env} {n : Nat} {h : AH}
theorem endC.one {rv : ResultVar} {v : Value} (hr : fn.results.toList = [rv]) (x : RV P env h rv v) (k : Q v n h) : endC P fn Q .ret env n h :=
  ⟨.inr rfl, [v], by rw [hr]; exact .cons x.res .nil, k⟩
theorem endC.two {r1 r2 : ResultVar} {v1 v2 : Value} (hr : fn.results.toList = [r1, r2]) (x : RV P env h r1 v1) (y : RV P env h r2 v2) (k : Q (.tuple #[v1, v2]) n h) : endC P fn Q .ret env n h :=
  ⟨.inr rfl, [v1, v2], by rw [hr]; exact .cons x.res (.cons y.res .nil), k⟩
theorem endC.three {r1 r2 r3 : ResultVar} {v1 v2 v3 : Value} (hr : fn.results.toList = [r1, r2, r3]) (x : RV P env h r1 v1) (y : RV P env h r2 v2) (z : RV P env h r3 v3) (k : Q (.tuple #[v1, v2, v3]) n h) : endC P fn Q .ret env n h :=
  ⟨.inr rfl, [v1, v2, v3], by rw [hr]; exact .cons x.res (.cons y.res (.cons z.res .nil)), k⟩
theorem endC.none0 (hr : fn.results.toList = []) (k : Q (.tuple #[]) n h) : endC P fn Q .ret env n h :=
  ⟨.inr rfl, [], by rw [hr]; exact .nil, k⟩
theorem endC.noneN (hr : fn.results.toList = []) (k : Q (.tuple #[]) n h) : endC P fn Q .normal env n h :=
  ⟨.inl rfl, [], by rw [hr]; exact .nil, k⟩
end

def Row (h : AH) (b o : Nat) (cs : List Value) : Prop := rd h b o cs.length = cs

section
variable {P : Program} {T W : Nat → Prop} {ops : Array Oper} {os : List Oper} {env : Env} {n n1 : Nat} {h h1 g : AH} {Q : Env → Nat → AH → Prop}
variable {dst : Option Tmp} {ty : TypeId} {pos : String} {after : Array Edge} {gd : Option (Nat × Bool)}

structure EL (P : Program) (t t2 : TypeId) (z by_ : Nat) : Prop where
  out : ∃ e d zv d2, P.underlying t = some (.slice e) ∧ TI P e d z by_ zv ∧ z ≠ 0 ∧ zv.cells.size = z ∧ by_ ≠ 0 ∧ P.underlying t2 = some d2 ∧ notIntD d2 = true

theorem o_append0 {t t2 : TypeId} {x y : Operand} {a : Option Addr} {m c z by_ : Nat} {v : Value} (he : EL P t t2 z by_) (hx : Opd env x (.slice a m c)) (hy : Opd env y v) (hs : Src g z v 0 []) (hf : full v 0) :
    OpEv P T ⟨dst, .call { callee := .builtin .append, args := #[x, y], argTypes := #[t, t2] }, ty, pos, after, gd⟩ env n g (.slice a m c) n .nil := by
  obtain ⟨e, d, zv, d2, h1, h2, h3, h4, h5, h6, h7⟩ := he
  have := op_append0 (P := P) (T := T) (n := n) (g := g) (env := env) (dst := dst) (ty := ty) (pos := pos) (after := after) (gd := gd) h1 h2 h3 h6 h7 hx.ev (hy.ev.symm ▸ hs) (hy.ev.symm ▸ hf)
  rw [hx.ev] at this; exact this
theorem o_appendNil {t t2 : TypeId} {x y : Operand} {z by_ k : Nat} {v : Value} {xs : List Value} (he : EL P t t2 z by_) (hx : Opd env x (.slice none 0 0)) (hy : Opd env y v) (hs : Src g z v k xs) (hf : full v k) (hk0 : k ≠ 0) (hbig : k * by_ ≤ 140737488355328) :
    OpEv P T ⟨dst, .call { callee := .builtin .append, args := #[x, y], argTypes := #[t, t2] }, ty, pos, after, gd⟩ env n g (.slice (some ⟨n, 0, none⟩) k k) (n + 1) (.new n ⟨xs.length, 0, true, z⟩ xs) := by
  obtain ⟨e, d, zv, d2, h1, h2, h3, h4, h5, h6, h7⟩ := he
  exact op_appendNil h1 h2 h3 h4 h5 h6 h7 hx.ev (hy.ev.symm ▸ hs) (hy.ev.symm ▸ hf) hk0 hbig
theorem o_append {t t2 : TypeId} {x y : Operand} {z by_ k b m lk : Nat} {v : Value} {xs cs : List Value} (keep : Bool) (he : EL P t t2 z by_) (hx : Opd env x (.slice (some ⟨b, 0, none⟩) m m)) (hy : Opd env y v) (hs : Src g z v k xs) (hf : full v k)
    (hi : g.info b = some ⟨m * z, lk, true, z⟩) (hr : rd g b 0 (m * z) = cs) (hkn : known cs = true) (hT : T b ∨ n ≤ b) (hbn : b < n) (hk0 : k ≠ 0) (hbig : (m + k) * by_ ≤ 140737488355328) :
    OpEv P T ⟨dst, .call { callee := .builtin .append, args := #[x, y], argTypes := #[t, t2] }, ty, pos, after, gd⟩ env n g (.slice (some ⟨n, 0, none⟩) (m + k) (m + k)) (n + 1)
      (.takeover b n keep (m * z) (if keep then m * z else lk) z (cs ++ xs)) := by
  obtain ⟨e, d, zv, d2, h1, h2, h3, h4, h5, h6, h7⟩ := he
  subst hr
  exact op_append (mm := ⟨m * z, lk, true, z⟩) keep h1 h2 h3 h4 h5 h6 h7 hx.ev (hy.ev.symm ▸ hs) (hy.ev.symm ▸ hf) hi rfl rfl rfl hkn hT hbn hk0 hbig

theorem o_slice {t e : TypeId} {x : Operand} {lo hi : Option Operand} {b o m : Nat} {l u : Nat} {mm : Meta} {d : TypeDesc} {z by_ : Nat} {zv : Value} (hx : Opd env x (.slice (some ⟨b, o, none⟩) m m)) (hu : P.underlying t = some (.slice e))
    (hz : TI P e d z by_ zv) (hlo : bound env lo 0 l) (hhi : bound env hi m u) (hlh : l ≤ u) (hhm : u ≤ m) (hm : g.info b = some mm) (hsz : mm.sz = 0 ∨ mm.sz = z) :
    OpEv P T ⟨dst, .slice t x lo hi none, ty, pos, after, gd⟩ env n g (.slice (some ⟨b, o + l * z, none⟩) (u - l) (u - l)) n .nil := op_slice hu hz hx.ev hlo hhi hlh hhm hm hsz
theorem bound.none {dflt : Int} : bound env none dflt dflt := rfl
theorem bound.some {y : Operand} {dflt v : Int} {k : IntKind} (h : Opd env y (.int k v)) : bound env (Option.some y) dflt v := ⟨k, h.ev⟩
/-! The heap behind an append. -/
theorem c_take {h : AH} {b n sz lk ez i : Nat} {keep : Bool} {cs : List Value} {v : Value} (hv : cs[i]? = some v) : (h.app (.takeover b n keep sz lk ez cs)).cell n i = v := by simp [AH.app, Dl.takeover, List.getD, hv]
theorem c_take_ne {h : AH} {b n sz lk ez i x : Nat} {keep : Bool} {cs : List Value} {v : Value} (h1 : x ≠ n) (h2 : x ≠ b) (k : h.cell x i = v) : (h.app (.takeover b n keep sz lk ez cs)).cell x i = v := by simp [AH.app, Dl.takeover, h1, h2, k]
theorem i_take {h : AH} {b n sz lk ez : Nat} {keep : Bool} {cs : List Value} : (h.app (.takeover b n keep sz lk ez cs)).info n = some ⟨cs.length, lk, true, ez⟩ := by simp [AH.app, Dl.takeover]
theorem i_take_ne {h : AH} {b n sz lk ez x : Nat} {keep : Bool} {cs : List Value} {q : Option Meta} (h1 : x ≠ n) (h2 : x ≠ b) (k : h.info x = q) : (h.app (.takeover b n keep sz lk ez cs)).info x = q := by simp [AH.app, Dl.takeover, h1, h2, k]
theorem c_ext {h h1 : AH} {m b i : Nat} {v : Value} (e : Ext m h h1) (hb : b < m) (k : h.cell b i = v) : h1.cell b i = v := (e.cell b i hb).trans k
theorem i_ext {h h1 : AH} {m b : Nat} {q : Option Meta} (e : Ext m h h1) (hb : b < m) (k : h.info b = q) : h1.info b = q := (e.info b hb).trans k

theorem rd_congr {h h1 : AH} {b : Nat} (e : ∀ i, h1.cell b i = h.cell b i) : ∀ (k o : Nat), rd h1 b o k = rd h b o k
  | 0, _ => rfl
  | k + 1, o => by simp only [rd, e o, rd_congr e k (o + 1)]
theorem r_sets_ne {h : AH} {b x o o2 k : Nat} {cs vs : List Value} (h1 : x ≠ b) (q : rd h x o k = vs) : rd (h.app (.sets b o2 cs)) x o k = vs := by
  rw [rd_congr (h := h) (fun i => by simp [AH.app, Dl.sets, h1])]; exact q
theorem r_new {h : AH} {n k : Nat} {m : Meta} {cs : List Value} (hk : k = cs.length) : rd (h.app (.new n m cs)) n 0 k = cs := by
  rw [rd_new _ _ _ _ _ _ (by omega), List.drop_zero, List.take_of_length_le (by omega)]
theorem r_take {h : AH} {b n sz lk ez k : Nat} {keep : Bool} {cs : List Value} (hk : k = cs.length) : rd (h.app (.takeover b n keep sz lk ez cs)) n 0 k = cs := by
  have : rd (h.app (.takeover b n keep sz lk ez cs)) n 0 k = rd (h.app (.new n ⟨0, 0, true, 0⟩ cs)) n 0 k := rd_congr (fun i => by simp [AH.app, Dl.takeover, Dl.new]) _ _
  rw [this]; exact r_new hk
end
end Go.Abs

/- Stepping through a region that draws its order: what each operation looks at and turns is noted, and what clashes must wait. -/
namespace Go.Abs
open Go.RowKit

structure Ft where
  R : Nat → Prop
  W : Nat → Prop
  n : Nat
  n' : Nat
def Ft.of (x : Step) : Ft := ⟨x.R, x.W, x.e.n, x.e.n'⟩
abbrev Ft.no (n n' : Nat) : Ft := ⟨none', none', n, n'⟩

def masksL (ops : Array Oper) : List Nat := masksOf ops.toList []

inductive CF (ops : Array Oper) (k : Nat) (R W : Nat → Prop) : Nat → List Ft → Prop
  | nil {j} : CF ops k R W j []
  | wait {j y ys} (h : ((masksL ops).getD k 0).testBit j = true) (t : CF ops k R W j ys) : CF ops k R W (j + 1) (y :: ys)
  | free {j y ys} (h1 : ∀ b, R b → ¬ (y.W b ∨ (y.n ≤ b ∧ b < y.n'))) (h2 : ∀ b, y.R b → ¬ W b) (h3 : ∀ b, W b → ¬ (y.W b ∨ (y.n ≤ b ∧ b < y.n'))) (t : CF ops k R W j ys) : CF ops k R W (j + 1) (y :: ys)

theorem CF.pure {ops : Array Oper} {k : Nat} : ∀ (ps : List Ft), CF ops k none' none' ps.length ps
  | [] => .nil
  | _ :: ps => .free (fun _ h => h.elim) (fun _ _ h => h) (fun _ h => h.elim) (CF.pure ps)
theorem CF.ld {ops : Array Oper} {k b j : Nat} {y : Ft} {ys : List Ft} (h : ¬ (y.W b ∨ (y.n ≤ b ∧ b < y.n'))) (t : CF ops k (· = b) none' j ys) : CF ops k (· = b) none' (j + 1) (y :: ys) :=
  .free (fun _ e => by subst e; exact h) (fun _ _ h => h) (fun _ h => h.elim) t
theorem CF.st {ops : Array Oper} {k b j : Nat} {y : Ft} {ys : List Ft} (h : ¬ (y.W b ∨ (y.n ≤ b ∧ b < y.n'))) (h2 : ¬ y.R b) (t : CF ops k (· = b) (· = b) j ys) : CF ops k (· = b) (· = b) (j + 1) (y :: ys) :=
  .free (fun _ e => by subst e; exact h) (fun _ k e => by subst e; exact h2 k) (fun _ e => by subst e; exact h) t
theorem CF.cl {ops : Array Oper} {k nb j : Nat} {y : Ft} {ys : List Ft} (h : ∀ b, b < nb → ¬ (y.W b ∨ (y.n ≤ b ∧ b < y.n'))) (t : CF ops k (· < nb) none' j ys) : CF ops k (· < nb) none' (j + 1) (y :: ys) :=
  .free (fun b e => h b e) (fun _ _ h => h) (fun _ h => h.elim) t

theorem CF.free_at {ops : Array Oper} {k : Nat} {x : Step} : ∀ (past : List Step), CF ops k x.R x.W past.length (past.map Ft.of) → clashFree ((masksL ops).getD k 0) x past.length past
  | [], _ => trivial
  | y :: ys, h => by
    simp only [List.length_cons, List.map_cons] at h
    cases h with
    | wait h t => exact ⟨.inl h, CF.free_at ys t⟩
    | free h1 h2 h3 t => exact ⟨.inr ⟨h1, h2, h3⟩, CF.free_at ys t⟩

def AH.only (h : AH) (b : Nat) : AH := ⟨fun x => if x = b then h.info x else none, fun x i => if x = b then h.cell x i else .tuple #[]⟩
def AH.below (h : AH) (m : Nat) : AH := ⟨fun x => if x < m then h.info x else none, fun x i => if x < m then h.cell x i else .tuple #[]⟩
theorem AH.only_le (h : AH) (b : Nat) : (h.only b).le h where
  info := fun x m hx => by
    simp only [AH.only] at hx
    split at hx
    · exact hx
    · cases hx
  cell := fun x i => by
    by_cases e : x = b
    · right; simp [AH.only, e]
    · left; simp [AH.only, e]
theorem AH.below_le (h : AH) (m : Nat) : (h.below m).le h where
  info := fun x m hx => by
    simp only [AH.below] at hx
    split at hx
    · exact hx
    · cases hx
  cell := fun x i => by
    by_cases e : x < m
    · right; simp [AH.below, e]
    · left; simp [AH.below, e]
theorem AH.empty_le (h : AH) : AH.empty.le h := ⟨fun _ _ hx => (by cases hx), fun _ _ => .inl rfl⟩
theorem AH.only_looks {h : AH} {b x : Nat} (hx : (h.only b).info x ≠ none ∨ ∃ k, (h.only b).cell x k ≠ .tuple #[]) : x = b := by
  rcases Nat.decEq x b with e | e
  · rcases hx with h1 | ⟨k, h1⟩ <;> simp [AH.only, e] at h1
  · exact e
theorem AH.below_looks {h : AH} {m x : Nat} (hx : (h.below m).info x ≠ none ∨ ∃ k, (h.below m).cell x k ≠ .tuple #[]) : x < m := by
  rcases Nat.lt_or_ge x m with e | e
  · exact e
  · rcases hx with h1 | ⟨k, h1⟩ <;> simp [AH.below, Nat.not_lt.2 e] at h1
theorem c_only {h : AH} {b i : Nat} {v : Value} (k : h.cell b i = v) : (h.only b).cell b i = v := by simp [AH.only, k]
theorem i_only {h : AH} {b : Nat} {q : Option Meta} (k : h.info b = q) : (h.only b).info b = q := by simp [AH.only, k]
theorem r_only {h : AH} {b o k : Nat} {vs : List Value} (q : rd h b o k = vs) : rd (h.only b) b o k = vs := by
  have : ∀ (k o : Nat), rd (h.only b) b o k = rd h b o k := by
    intro k
    induction k with
    | zero => intro; rfl
    | succ k ih => intro o; simp only [rd, ih]; simp [AH.only]
  rw [this]; exact q
theorem c_below {h : AH} {m b i : Nat} {v : Value} (hb : b < m) (k : h.cell b i = v) : (h.below m).cell b i = v := by simp [AH.below, hb, k]
theorem i_below {h : AH} {m b : Nat} {q : Option Meta} (hb : b < m) (k : h.info b = q) : (h.below m).info b = q := by simp [AH.below, hb, k]
theorem r_below {h : AH} {m b o k : Nat} {vs : List Value} (hb : b < m) (q : rd h b o k = vs) : rd (h.below m) b o k = vs := by
  have : ∀ (k o : Nat), rd (h.below m) b o k = rd h b o k := by
    intro k
    induction k with
    | zero => intro; rfl
    | succ k ih => intro o; simp only [rd, ih]; simp [AH.below, hb]
  rw [this]; exact q
theorem AH.below_ext (h : AH) (m : Nat) : Ext m h (h.below m) := ⟨fun b hb => by simp [AH.below, hb], fun b i hb => by simp [AH.below, hb]⟩

structure RD (P : Program) (T : Nat → Prop) (ops : Array Oper) (ps : List Ft) (os : List Oper) (env : Env) (n : Nat) (h : AH) (Q : Env → Nat → AH → Prop) : Prop where
  out : ∀ past : List Step, past.map Ft.of = ps → ∃ env' n' h' rest, Txt P T ops (masksL ops) past os env n h env' n' h' rest ∧ Q env' n' h'

class Mixed (P : Program) : Prop where
  out : P.follows .mixedOrders = true

section
variable {P : Program} {T W : Nat → Prop} {ops : Array Oper} {os : List Oper} {env : Env} {n n1 : Nat} {h h1 g : AH} {Q : Env → Nat → AH → Prop} {ps : List Ft}
variable {dst : Option Tmp} {ty : TypeId} {pos : String} {after : Array Edge} {gd : Option (Nat × Bool)}

theorem RC.draw {N : Nat} {ops : List Oper} {id : Nat} {Q : Exit → Env → Nat → AH → Prop} [Mixed P] (hst : staticOk ops.toArray (masksL ops.toArray) = true) (hbk : backOk ops.toArray = true) (hd : dstOk N ops = true)
    (k : RD P T ops.toArray [] ops env n h (fun env n h => Q .normal env n h)) : RC P T N (.region id ops.toArray true) env n h Q := by
  obtain ⟨env', n', h', rest, ht, hq⟩ := k.out [] rfl
  exact ⟨_, _, _, _, Ex.draw (masks := masksL ops.toArray) (xs := rest) Mixed.out rfl hst hbk (by simpa using hd) (by simpa using ht), hq⟩
theorem RD.nil (k : Q env n h) : RD P T ops ps [] env n h Q := ⟨fun _ _ => ⟨_, _, _, _, .nil, k⟩⟩
theorem RD.op {o : Oper} {v : Value} {d : Dl} (R W : Nat → Prop) (hw : wants ops o env = some true) (ho : OpEv P T o env n g v n1 d) (hg : g.le h) (hlook : ∀ b, (g.info b ≠ none ∨ ∃ k, g.cell b k ≠ .tuple #[]) → R b)
    (hold : ∀ b, R b → b < n) (hturn : ∀ b, d.touches b → W b ∨ n ≤ b) (hc : CF ops ps.length R W ps.length ps) (hh : h1.le (h.app d)) (k : RD P T ops (⟨R, W, n, n1⟩ :: ps) os (env.put o.dst v) n1 h1 Q) : RD P T ops ps (o :: os) env n h Q := by
  refine ⟨fun past hp => ?_⟩
  subst hp
  let x : Step := { e := ⟨o, n, n1, v, d⟩, env := env, g := g, R := R, W := W, yes := true }
  obtain ⟨env', n', h', rest, ht, hq⟩ := k.out (x :: past) rfl
  have hc' : CF ops past.length x.R x.W past.length (past.map Ft.of) := by simpa using hc
  refine ⟨env', n', h', x :: rest, .cons x rfl rfl rfl hg ?_ (CF.free_at past hc') hh ht, hq⟩
  exact { le := ho.le, want := hw, run := fun _ => ho, skip := (fun h => by cases h), look := hlook, turn := fun b hb => ⟨hturn b hb, (ho.within b hb).2⟩, old := hold, within := ho.within }
theorem RD.skip {o : Oper} (hw : wants ops o env = some false) (k : RD P T ops (.no n n :: ps) os (env.put o.dst skipV) n h Q) : RD P T ops ps (o :: os) env n h Q := by
  refine ⟨fun past hp => ?_⟩
  subst hp
  let x : Step := { e := ⟨o, n, n, skipV, .nil⟩, env := env, g := .empty, R := none', W := none', yes := false }
  obtain ⟨env', n', h', rest, ht, hq⟩ := k.out (x :: past) rfl
  have hc' : CF ops past.length x.R x.W past.length (past.map Ft.of) := by simpa using CF.pure (past.map Ft.of)
  refine ⟨env', n', h', x :: rest, .cons x rfl rfl rfl (AH.empty_le _) ?_ (CF.free_at past hc') (by show h.le (h.app .nil); rw [AH.app_nil]; exact .refl _) ht, hq⟩
  exact { le := Nat.le_refl _, want := hw, run := (fun h => by cases h), skip := fun _ => ⟨rfl, rfl, rfl⟩, look := (fun b hb => by rcases hb with h1 | ⟨k, h1⟩ <;> exact h1 rfl), turn := fun b hb => (Dl.touches_nil hb).elim, old := fun _ h => h.elim, within := .nil _ _ _ }
theorem RD.omit {o : Oper} {d : Tmp} (hw : wants ops o env = some false) (hd : o.dst = some d) (k : RD P T ops (.no n n :: ps) os ((d, skipV) :: env) n h Q) : RD P T ops ps (o :: os) env n h Q :=
  RD.skip hw (by rw [hd]; exact k)
theorem RD.omit0 {o : Oper} (hw : wants ops o env = some false) (hd : o.dst = none) (k : RD P T ops (.no n n :: ps) os env n h Q) : RD P T ops ps (o :: os) env n h Q :=
  RD.skip hw (by rw [hd]; exact k)
theorem empty_looks {R : Nat → Prop} (b : Nat) (hb : AH.empty.info b ≠ none ∨ ∃ k, AH.empty.cell b k ≠ .tuple #[]) : R b := by rcases hb with h1 | ⟨k, h1⟩ <;> exact (h1 rfl).elim
theorem RD.calc {o : Oper} {v : Value} (hw : wants ops o env = some true) (ho : OpEv P T o env n .empty v n .nil) (k : RD P T ops (.no n n :: ps) os (env.put o.dst v) n h Q) : RD P T ops ps (o :: os) env n h Q :=
  RD.op none' none' hw ho (AH.empty_le _) empty_looks (fun _ h => h.elim) (fun _ hb => (Dl.touches_nil hb).elim) (CF.pure ps) (by rw [AH.app_nil]; exact .refl _) k
theorem RD.put {o : Oper} {d : Tmp} {v : Value} (hw : wants ops o env = some true) (hd : o.dst = some d) (ho : OpEv P T o env n .empty v n .nil) (k : RD P T ops (.no n n :: ps) os ((d, v) :: env) n h Q) : RD P T ops ps (o :: os) env n h Q :=
  RD.calc hw ho (by rw [hd]; exact k)
theorem RD.decT {o : Oper} {d : Tmp} {p : Prop} [Decidable p] (hw : wants ops o env = some true) (hd : o.dst = some d) (ho : OpEv P T o env n .empty (.bool (decide p)) n .nil) (hp : p) (k : RD P T ops (.no n n :: ps) os ((d, .bool true) :: env) n h Q) : RD P T ops ps (o :: os) env n h Q :=
  RD.calc hw ho (by rw [decide_eq_true hp, hd]; exact k)
theorem RD.decF {o : Oper} {d : Tmp} {p : Prop} [Decidable p] (hw : wants ops o env = some true) (hd : o.dst = some d) (ho : OpEv P T o env n .empty (.bool (decide p)) n .nil) (hp : ¬ p) (k : RD P T ops (.no n n :: ps) os ((d, .bool false) :: env) n h Q) : RD P T ops ps (o :: os) env n h Q :=
  RD.calc hw ho (by rw [decide_eq_false hp, hd]; exact k)
theorem RD.dec {o : Oper} {d : Tmp} {p : Prop} [Decidable p] (hw : wants ops o env = some true) (hd : o.dst = some d) (ho : OpEv P T o env n .empty (.bool (decide p)) n .nil) (kt : p → RD P T ops (.no n n :: ps) os ((d, .bool true) :: env) n h Q)
    (kf : ¬ p → RD P T ops (.no n n :: ps) os ((d, .bool false) :: env) n h Q) : RD P T ops ps (o :: os) env n h Q := by
  by_cases hp : p
  · exact RD.decT hw hd ho hp (kt hp)
  · exact RD.decF hw hd ho hp (kf hp)
theorem RD.look {o : Oper} {d : Tmp} {v : Value} {b : Nat} (hw : wants ops o env = some true) (hd : o.dst = some d) (ho : OpEv P T o env n (h.only b) v n .nil) (hb : b < n) (hc : CF ops ps.length (· = b) none' ps.length ps)
    (k : RD P T ops (⟨(· = b), none', n, n⟩ :: ps) os ((d, v) :: env) n h Q) : RD P T ops ps (o :: os) env n h Q :=
  RD.op (· = b) none' hw ho (AH.only_le _ _) (fun _ hx => AH.only_looks hx) (fun _ e => by subst e; exact hb) (fun _ hb => (Dl.touches_nil hb).elim) hc (by rw [AH.app_nil]; exact .refl _) (by rw [hd]; exact k)
theorem RD.turn0 {o : Oper} {v : Value} {b o' : Nat} {vs : List Value} (hw : wants ops o env = some true) (hd : o.dst = none) (ho : OpEv P T o env n (h.only b) v n (.sets b o' vs)) (hb : b < n) (hc : CF ops ps.length (· = b) (· = b) ps.length ps)
    (k : RD P T ops (⟨(· = b), (· = b), n, n⟩ :: ps) os env n (h.app (.sets b o' vs)) Q) : RD P T ops ps (o :: os) env n h Q :=
  RD.op (· = b) (· = b) hw ho (AH.only_le _ _) (fun _ hx => AH.only_looks hx) (fun _ e => by subst e; exact hb) (fun x hx => by
    exact .inl (sets_touches hx)) hc (.refl _) (by rw [hd]; exact k)
theorem RD.make {o : Oper} {d : Tmp} {v : Value} {m : Meta} {cs : List Value} (hw : wants ops o env = some true) (hd : o.dst = some d) (ho : OpEv P T o env n .empty v (n + 1) (.new n m cs))
    (k : RD P T ops (.no n (n + 1) :: ps) os ((d, v) :: env) (n + 1) (h.app (.new n m cs)) Q) : RD P T ops ps (o :: os) env n h Q :=
  RD.op none' none' hw ho (AH.empty_le _) empty_looks (fun _ h => h.elim) (fun x hx => by
    right
    rcases hx with h1 | ⟨i, h1⟩ <;> (simp only [Dl.new] at h1; split at h1) <;> first | omega | exact absurd rfl h1) (CF.pure ps) (.refl _) (by rw [hd]; exact k)
theorem RD.call1 {d : Tmp} {f : FuncId} {xs : List Operand} {vs : List Value} {ts : Array TypeId} {r : Value} (nb : Nat) (hw : wants ops ⟨some d, .call { callee := .value (.func f), args := xs.toArray, argTypes := ts }, ty, pos, after, gd⟩ env = some true)
    (hx : Opds env xs vs) (hev : Ev P none' f vs.toArray n (h.below nb) r n1 h1) (hnb : nb ≤ n) (hc : CF ops ps.length (· < nb) none' ps.length ps) (k : n ≤ n1 → RD P T ops (⟨(· < nb), none', n, n1⟩ :: ps) os ((d, r) :: env) n1 h1 Q) :
    RD P T ops ps (⟨some d, .call { callee := .value (.func f), args := xs.toArray, argTypes := ts }, ty, pos, after, gd⟩ :: os) env n h Q := by
  rw [← hx.mapA] at hev
  obtain ⟨dl, hle, hwi, ho⟩ := op_call (T := T) (ty := ty) (dst := some d) (pos := pos) (after := after) (gd := gd) (ts := ts) hev (fun _ h => h.elim)
  refine RD.op (· < nb) none' hw ho (AH.below_le _ _) (fun _ hx => AH.below_looks hx) (fun _ e => Nat.lt_of_lt_of_le e hnb) (fun b hb => ?_) hc (hle.trans ((AH.below_le h nb).app dl)) (k ho.le)
  rcases (hwi b hb).1 with h1 | h1
  · exact h1.elim
  · exact .inr h1
theorem RD.call {d : Tmp} {f : FuncId} {xs : List Operand} {vs : List Value} {ts : Array TypeId} {QC : Value → Nat → AH → Prop} (nb : Nat) (hw : wants ops ⟨some d, .call { callee := .value (.func f), args := xs.toArray, argTypes := ts }, ty, pos, after, gd⟩ env = some true)
    (hx : Opds env xs vs) (hev : RF P none' f vs.toArray n (h.below nb) QC) (hnb : nb ≤ n) (hc : CF ops ps.length (· < nb) none' ps.length ps) (k : ∀ r n1 h1, n ≤ n1 → QC r n1 h1 → RD P T ops (⟨(· < nb), none', n, n1⟩ :: ps) os ((d, r) :: env) n1 h1 Q) :
    RD P T ops ps (⟨some d, .call { callee := .value (.func f), args := xs.toArray, argTypes := ts }, ty, pos, after, gd⟩ :: os) env n h Q := by
  obtain ⟨r, n1, h1, hev, hq⟩ := hev
  exact RD.call1 nb hw hx hev hnb hc fun hle => k r n1 h1 hle hq
end
end Go.Abs

/- Slices, nil or not; loops by invariants; whole numbers' operations on bits; structs built and parted. -/
namespace Go.Abs
open Go.RowKit

/-! Slices. -/
def sb (a : Option Addr) : Nat := (a.map (·.block)).getD 0
def so (a : Option Addr) : Nat := (a.map (·.off)).getD 0
def sub (a : Option Addr) (k : Nat) : Option Addr := a.map fun x => ⟨x.block, x.off + k, none⟩

structure SlR (h : AH) (n : Nat) (a : Option Addr) (z m : Nat) (f : Nat → Value) : Prop where
  shape : (a = none ∧ m = 0) ∨ (a = some ⟨sb a, so a, none⟩ ∧ sb a < n ∧ ∃ mm, h.info (sb a) = some mm ∧ mm.sz = z)
  cell : ∀ j, j < m * z → h.cell (sb a) (so a + j) = f j

def SlA (a : Option Addr) (m : Nat) : Prop := (a = none ∧ m = 0) ∨ a = some ⟨sb a, so a, none⟩

section
variable {h h' : AH} {n n' : Nat} {a : Option Addr} {z m : Nat} {f : Nat → Value}
theorem SlR.sla (s : SlR h n a z m f) : SlA a m := by
  rcases s.shape with h | h
  · exact .inl h
  · exact .inr h.1
theorem SlA.eq (s : SlA a m) (hm : 0 < m) : a = some ⟨sb a, so a, none⟩ := by
  rcases s with h | h
  · omega
  · exact h
theorem SlR.lt (s : SlR h n a z m f) (hm : 0 < m) : sb a < n := by
  rcases s.shape with h | h
  · omega
  · exact h.2.1
theorem SlR.ext (s : SlR h n a z m f) (e : Ext n h h') (hn : n ≤ n') : SlR h' n' a z m f where
  shape := by
    rcases s.shape with k | ⟨k1, k2, mm, k3, k4⟩
    · exact .inl k
    · exact .inr ⟨k1, by omega, mm, by rw [e.info _ k2]; exact k3, k4⟩
  cell := fun j hj => by
    have hm : 0 < m := Nat.pos_of_ne_zero fun h0 => by subst h0; simp at hj
    rw [e.cell _ _ (s.lt hm)]; exact s.cell j hj
theorem SlR.at (s : SlR h n a z m f) (e : Ext n h h') {j : Nat} (hj : j < m * z) : h'.cell (sb a) (so a + j) = f j := by
  have hm : 0 < m := Nat.pos_of_ne_zero fun h0 => by subst h0; simp at hj
  rw [e.cell _ _ (s.lt hm)]; exact s.cell j hj
theorem SlR.rd (s : SlR h n a z m f) (e : Ext n h h') {i k : Nat} (hk : i + k ≤ m * z) : rd h' (sb a) (so a + i) k = (List.range k).map fun j => f (i + j) := by
  apply List.ext_getElem
  · simp [rd_length]
  · intro j h1 h2
    rw [rd_length] at h1
    have e1 := rd_getD h' (sb a) k (so a + i) j h1
    have e2 : (Abs.rd h' (sb a) (so a + i) k).getD j (.tuple #[]) = (Abs.rd h' (sb a) (so a + i) k)[j]'(by rw [rd_length]; exact h1) := by simp [List.getD, rd_length, h1]
    rw [← e2, e1, Nat.add_assoc, s.at e (by omega)]
    simp
theorem SlR.congr {g : Nat → Value} (s : SlR h n a z m f) (e : ∀ j, j < m * z → f j = g j) : SlR h n a z m g := ⟨s.shape, fun j hj => (s.cell j hj).trans (e j hj)⟩
theorem SlR.nil : SlR h n none z 0 f := ⟨.inl ⟨rfl, rfl⟩, fun j hj => by simp at hj⟩
theorem SlR.new {b : Nat} {mm : Meta} (hb : b < n) (hi : h.info b = some mm) (hz : mm.sz = z) (hc : ∀ j, j < m * z → h.cell b j = f j) : SlR h n (some ⟨b, 0, none⟩) z m f :=
  ⟨.inr ⟨rfl, hb, mm, hi, hz⟩, fun j hj => by show h.cell b (0 + j) = f j; rw [Nat.zero_add]; exact hc j hj⟩
theorem sb_sub (a : Option Addr) (k : Nat) : sb (sub a k) = sb a := by cases a <;> rfl
theorem SlR.sub {l u : Nat} (s : SlR h n a z m f) (hl : l ≤ u) (hu : u ≤ m) : SlR h n (Abs.sub a (l * z)) z (u - l) (fun j => f (l * z + j)) where
  shape := by
    rcases s.shape with ⟨k1, k2⟩ | ⟨k1, k2, k3⟩
    · subst k1; exact .inl ⟨rfl, by omega⟩
    · right
      rw [sb_sub]
      refine ⟨?_, k2, k3⟩
      rw [k1]; rfl
  cell := fun j hj => by
    have hlt : l * z + j < m * z := by
      have : (u - l) * z + l * z = u * z := by rw [← Nat.add_mul]; congr 1; omega
      have : u * z ≤ m * z := Nat.mul_le_mul_right _ hu
      omega
    have hm : 0 < m := Nat.pos_of_ne_zero fun h0 => by subst h0; simp at hlt
    rcases s.shape with ⟨k1, k2⟩ | ⟨k1, k2, k3⟩
    · omega
    · have := s.cell (l * z + j) hlt
      rw [sb_sub]
      rw [show so (Abs.sub a (l * z)) = so a + l * z by rw [k1]; rfl]
      rw [Nat.add_assoc]; exact this
end

theorem Ext.mono {n n1 : Nat} {h h' : AH} (e : Ext n1 h h') (hn : n ≤ n1) : Ext n h h' := ⟨fun b hb => e.info b (by omega), fun b i hb => e.cell b i (by omega)⟩
theorem Ext.then {n : Nat} {h h1 h2 : AH} (a : Ext n h h1) (b : Ext n h1 h2) : Ext n h h2 := a.trans (Nat.le_refl _) b
theorem Ext.appNew {n b : Nat} {h h1 : AH} {m : Meta} {cs : List Value} (hb : n ≤ b) (e : Ext n h h1) : Ext n h (h1.app (.new b m cs)) :=
  e.then ⟨fun x hx => by simp [AH.app, Dl.new, show x ≠ b by omega], fun x i hx => by simp [AH.app, Dl.new, show x ≠ b by omega]⟩
theorem Ext.appSets {n b o : Nat} {h h1 : AH} {vs : List Value} (hb : n ≤ b) (e : Ext n h h1) : Ext n h (h1.app (.sets b o vs)) :=
  e.then ⟨fun x hx => sets_info _ _ _ _ _, fun x i hx => by simp [AH.app, Dl.sets, show x ≠ b by omega]⟩
theorem Ext.appTake {n b c sz lk ez : Nat} {keep : Bool} {h h1 : AH} {cs : List Value} (hb : n ≤ b) (hc : n ≤ c) (e : Ext n h h1) : Ext n h (h1.app (.takeover b c keep sz lk ez cs)) :=
  e.then ⟨fun x hx => by simp [AH.app, Dl.takeover, show x ≠ b by omega, show x ≠ c by omega], fun x i hx => by simp [AH.app, Dl.takeover, show x ≠ b by omega, show x ≠ c by omega]⟩
theorem Ext.below {n m : Nat} {h h1 : AH} (hb : n ≤ m) (e : Ext n h h1) : Ext n h (h1.below m) := e.then ((AH.below_ext h1 m).mono hb)

/-! Blocks left, loops by invariants. -/
structure outC (id : Nat) (Q : Exit → Env → Nat → AH → Prop) (e : Exit) (env : Env) (n : Nat) (h : AH) : Prop where
  out : Q (outOf id e) env n h
structure nextC (I : Env → Nat → AH → Prop) (Q : Exit → Env → Nat → AH → Prop) (e : Exit) (env : Env) (n : Nat) (h : AH) : Prop where
  out : match e with
    | .normal => I env n h
    | e => Q e env n h

section
variable {P : Program} {T : Nat → Prop} {N : Nat} {Q : Exit → Env → Nat → AH → Prop} {env : Env} {n : Nat} {h : AH}
theorem RC.blk {id : Nat} {c : Code} (k : RC P T N c env n h (outC id Q)) : RC P T N (.block id c) env n h Q := RC.block (k.mono fun _ _ _ _ q => q.out)
theorem outC.normal {id : Nat} (k : Q .normal env n h) : outC id Q .normal env n h := ⟨k⟩
theorem outC.ret {id : Nat} (k : Q .ret env n h) : outC id Q .ret env n h := ⟨k⟩
theorem outC.same {id : Nat} (k : Q .normal env n h) : outC id Q (.exit id) env n h := ⟨by simp only [outOf, if_true]; exact k⟩
theorem outC.other {id id' : Nat} (hne : Nat.beq id' id = false) (k : Q (.exit id') env n h) : outC id Q (.exit id') env n h := ⟨by
  have : id' ≠ id := fun h => by subst h; simp at hne
  simp only [outOf, if_neg this]; exact k⟩
theorem nextC.normal {I : Env → Nat → AH → Prop} (k : I env n h) : nextC I Q .normal env n h := ⟨k⟩
theorem nextC.ret {I : Env → Nat → AH → Prop} (k : Q .ret env n h) : nextC I Q .ret env n h := ⟨k⟩
theorem nextC.exit {I : Env → Nat → AH → Prop} {id : Nat} (k : Q (.exit id) env n h) : nextC I Q (.exit id) env n h := ⟨k⟩

theorem RL.inv {α : Type} {c : Code} (E : α → Env) (I : α → Nat → AH → Prop) (μ : α → Nat) (a : α) (h0 : Envs env (E a)) (h1 : I a n h)
    (step : ∀ a n h, I a n h → RC P T N c (E a) n h (nextC (fun env' n' h' => ∃ a', μ a' < μ a ∧ Envs env' (E a') ∧ I a' n' h') Q)) : RL P T N c env n h Q := by
  suffices key : ∀ (k : Nat) (a : α) (env : Env) (n : Nat) (h : AH), μ a = k → Envs env (E a) → I a n h → RL P T N c env n h Q from key _ a env n h rfl h0 h1
  intro k
  induction k using Nat.strongRecOn with
  | ind k ih =>
    intro a env n h hk he hI
    refine RL.weak he.le (RL.round ((step a n h hI).mono fun e env' n' h' q => ?_))
    obtain ⟨q⟩ := q
    cases e with
    | normal =>
      obtain ⟨a', k1, k2, k3⟩ := q
      exact .normal (ih (μ a') (by omega) a' env' n' h' rfl k2 k3)
    | _ => exact ⟨q⟩
theorem RC.keep {c : Code} {env0 : Env} (h0 : Envs env env0) (k : RC P T N c env0 n h Q) : RC P T N c env n h Q := by
  obtain ⟨e, env', n', h', hx, hq⟩ := k
  exact ⟨e, env', n', h', hx.weaken h0.le (.refl _) (.refl _), hq⟩
end

/-! What the program tells of its types, found by the type's number. -/
class Tc (P : Program) (t : TypeId) (d : outParam TypeDesc) (z by_ : outParam Nat) (zv : outParam Value) : Prop where
  out : TI P t d z by_ zv
class Uc (P : Program) (t : TypeId) (d : outParam TypeDesc) : Prop where
  out : P.underlying t = some d
class Fc (P : Program) (s : TypeId) (i : Nat) (off z : outParam Nat) (agg : outParam Bool) : Prop where
  out : ∃ fs f d by_ zv, P.underlying s = some (.struct fs) ∧ fs[i]? = some f ∧ f.offset = off ∧ TI P f.type d z by_ zv ∧ isAggD d = agg ∧ z ≠ 0
class Sc (P : Program) (s : TypeId) (places : outParam (List (Nat × Nat))) (zero : outParam (List Value)) : Prop where
  out : ∃ fs z by_ zv, TI P s (.struct fs) z by_ zv ∧ zv.cells.all (flat 8) = true ∧ zv.cells.toList = zero ∧ ∀ w, (fs.mapM fun f => (do pure (f.offset, ← sizeOf f.type) : Sem (Nat × Nat))).run P w = .ok places.toArray w

inductive Bl (places : List (Nat × Nat)) : List Value → List (Nat × Value) → List Value → Prop
  | nil {cs} : Bl places cs [] cs
  | one {cs cs1 cs2 i v off rest} (hp : places[i]? = some (off, 1)) (ho : v.cells = #[v]) (hl : Nat.ble (off + 1) cs.length = true) (hs : cs.set off v = cs1) (t : Bl places cs1 rest cs2) : Bl places cs ((i, v) :: rest) cs2
  | agg {cs cs1 cs2 i l z off rest} (hp : places[i]? = some (off, z)) (hz : l.length = z) (hl : Nat.ble (off + z) cs.length = true) (hs : cs.take off ++ (l ++ cs.drop (off + z)) = cs1) (t : Bl places cs1 rest cs2) :
      Bl places cs ((i, Value.agg l.toArray) :: rest) cs2
theorem Bl.fill {places : List (Nat × Nat)} {cs ps cs'} (b : Bl places cs ps cs') : Instr.fill (places.toArray[·]?) cs.toArray ps = some cs'.toArray := by
  induction b with
  | nil => rfl
  | @one cs cs1 cs2 i v off rest hp ho hl hs t ih =>
    have hp' : places.toArray[i]? = some (off, 1) := by simpa using hp
    have hl' := Nat.le_of_ble_eq_true hl
    simp only [Instr.fill, hp', ho]
    rw [if_neg (by simp; omega)]
    subst hs
    rw [← ih]
    refine congrArg (fun q => Instr.fill _ q rest) ?_
    rw [← Array.foldl_toList]
    simp
  | @agg cs cs1 cs2 i l z off rest hp hz hl hs t ih =>
    have hp' : places.toArray[i]? = some (off, z) := by simpa using hp
    have hl' := Nat.le_of_ble_eq_true hl
    have hc : (Value.agg l.toArray).cells.size = z := by simpa [Value.cells] using hz
    simp only [Instr.fill, hp']
    rw [if_neg (by rw [hc]; simp; omega)]
    subst hs
    rw [← ih]
    refine congrArg (fun q => Instr.fill _ q rest) ?_
    have := foldl_set l 0 off (cs.take off) ((cs.drop off).take z) (cs.drop (off + z)) (by simp; omega) (by simp; omega)
    have e1 : cs.take off ++ (cs.drop off).take z ++ cs.drop (off + z) = cs := by
      rw [List.append_assoc, ← List.drop_drop, List.take_append_drop, List.take_append_drop]
    rw [e1] at this
    rw [← Array.foldl_toList]
    have e2 : (Value.agg l.toArray).cells.toList = l := rfl
    rw [Array.toList_zipIdx, e2]
    simpa using this

section
variable {P : Program} {T : Nat → Prop} {env : Env} {n : Nat} {g : AH}
variable {dst : Option Tmp} {ty : TypeId} {pos : String} {after : Array Edge} {gd : Option (Nat × Bool)}

theorem o_fieldAddrC {s : TypeId} {x : Operand} {i b o off z : Nat} {ag : Bool} [q : Fc P s i off z ag] (hx : Opd env x (.pointer (some ⟨b, o, none⟩))) :
    OpEv P T ⟨dst, .fieldAddr s x i, ty, pos, after, gd⟩ env n g (.pointer (some ⟨b, o + off, none⟩)) n .nil := by
  obtain ⟨fs, f, d, by_, zv, h1, h2, h3, h4, h5, h6⟩ := q.out
  exact o_fieldAddr hx ⟨fs, f, d, z, by_, zv, h1, h2, h3, h4, h6⟩
theorem o_indexU {t e : TypeId} {x y : Operand} {a : Option Addr} {m : Nat} {k : IntKind} {i : Int} {d : TypeDesc} {z by_ : Nat} {zv : Value} [hu : Uc P t (.slice e)] [hz : Tc P e d z by_ zv] (hx : Opd env x (.slice a m m)) (hy : Opd env y (.int k i)) (hA : SlA a m)
    (h0 : 0 ≤ i) (hi : i < m) : OpEv P T ⟨dst, .indexAddr t x y, ty, pos, after, gd⟩ env n g (.pointer (some ⟨sb a, so a + i.toNat * z, none⟩)) n .nil := by
  have hx' := hx
  rw [hA.eq (by omega)] at hx'
  exact o_index hx' hy hu.out hz.out h0 hi
theorem o_indexU1 {t e : TypeId} {x y : Operand} {a : Option Addr} {m : Nat} {k : IntKind} {i : Int} {d : TypeDesc} {by_ : Nat} {zv : Value} [hu : Uc P t (.slice e)] [hz : Tc P e d 1 by_ zv] (hx : Opd env x (.slice a m m)) (hy : Opd env y (.int k i)) (hA : SlA a m)
    (h0 : 0 ≤ i) (hi : i < m) : OpEv P T ⟨dst, .indexAddr t x y, ty, pos, after, gd⟩ env n g (.pointer (some ⟨sb a, so a + i.toNat, none⟩)) n .nil := by
  have := o_indexU (P := P) (T := T) (n := n) (g := g) (dst := dst) (ty := ty) (pos := pos) (after := after) (gd := gd) (t := t) hx hy hA h0 hi
  rwa [Nat.mul_one] at this
/-! Whole numbers. -/
theorem bv_or (w : Nat) {a b : Int} (ha : 0 ≤ a) (hb : 0 ≤ b) (ha2 : a < 2 ^ w) (hb2 : b < 2 ^ w) : (BitVec.ofInt w a ||| BitVec.ofInt w b).toNat = a.toNat ||| b.toNat := by
  obtain ⟨x, rfl⟩ := Int.eq_ofNat_of_zero_le ha
  obtain ⟨y, rfl⟩ := Int.eq_ofNat_of_zero_le hb
  have hx : x < 2 ^ w := by exact_mod_cast ha2
  have hy : y < 2 ^ w := by exact_mod_cast hb2
  simp [BitVec.toNat_or, BitVec.ofInt_natCast, Nat.mod_eq_of_lt hx, Nat.mod_eq_of_lt hy]
theorem bv_xor (w : Nat) {a b : Int} (ha : 0 ≤ a) (hb : 0 ≤ b) (ha2 : a < 2 ^ w) (hb2 : b < 2 ^ w) : (BitVec.ofInt w a ^^^ BitVec.ofInt w b).toNat = a.toNat ^^^ b.toNat := by
  obtain ⟨x, rfl⟩ := Int.eq_ofNat_of_zero_le ha
  obtain ⟨y, rfl⟩ := Int.eq_ofNat_of_zero_le hb
  have hx : x < 2 ^ w := by exact_mod_cast ha2
  have hy : y < 2 ^ w := by exact_mod_cast hb2
  simp [BitVec.toNat_xor, BitVec.ofInt_natCast, Nat.mod_eq_of_lt hx, Nat.mod_eq_of_lt hy]
theorem wrap_id {k : IntKind} {a : Int} (h0 : 0 ≤ a) (h1 : a < 2 ^ (k.bits - 1)) : k.wrap a = a := by
  cases k <;> simp [IntKind.wrap, IntKind.signed, IntKind.bits] at * <;> omega
theorem wrapU {k : IntKind} {a : Int} (hk : k.signed = false) (h0 : 0 ≤ a) (h1 : a < 2 ^ k.bits) : k.wrap a = a := by
  cases k <;> simp [IntKind.wrap, IntKind.signed, IntKind.bits] at * <;> omega
end
end Go.Abs

/- Whole numbers' operations, a law a kind (written by gen_num.py). -/
namespace Go.Abs
open Go.RowKit

section
variable {P : Program} {T : Nat → Prop} {env : Env} {n : Nat} {g : AH}
variable {dst : Option Tmp} {ty : TypeId} {pos : String} {after : Array Edge} {gd : Option (Nat × Bool)}
theorem nat_shr_lt {x k : Nat} {c : Int} (h : (x : Int) < c) : ((x >>> k : Nat) : Int) < c := by
  have : x >>> k ≤ x := by rw [Nat.shiftRight_eq_div_pow]; exact Nat.div_le_self _ _
  omega
theorem nat_and_lt {x y : Nat} {c : Int} (h : (x : Int) < c) : ((x &&& y : Nat) : Int) < c := by
  have : x &&& y ≤ x := Nat.and_le_left
  omega
theorem nat_and_lt2 {x y : Nat} {c : Int} (h : (y : Int) < c) : ((x &&& y : Nat) : Int) < c := by
  have : x &&& y ≤ y := Nat.and_le_right
  omega
theorem o_shrN {t t' : TypeId} {x y : Operand} {k yk : IntKind} {a b : Int} (hx : Opd env x (.int k a)) (hy : Opd env y (.int yk b)) (h0 : 0 ≤ a) (hb : 0 ≤ b) (ha : a < 2 ^ k.bits) :
    OpEv P T ⟨dst, .binOp .shr t x y t', ty, pos, after, gd⟩ env n g (.int k ((a.toNat >>> b.toNat : Nat) : Int)) n .nil := by
  have := o_shr (P := P) (T := T) (n := n) (g := g) (dst := dst) (ty := ty) (pos := pos) (after := after) (gd := gd) (t := t) (t' := t') hx hy hb
  obtain ⟨x, rfl⟩ := Int.eq_ofNat_of_zero_le h0
  have e : Int.fdiv (x : Int) (2 ^ (min b.toNat k.bits)) = (((x : Int).toNat >>> b.toNat : Nat) : Int) := by
    rw [Int.fdiv_eq_ediv_of_nonneg _ (Int.le_of_lt (Int.pow_pos (by decide))), Int.toNat_natCast, Nat.shiftRight_eq_div_pow]
    have hx : x < 2 ^ k.bits := by exact_mod_cast ha
    rcases Nat.lt_or_ge b.toNat k.bits with h | h
    · rw [Nat.min_eq_left (by omega)]; push_cast; rfl
    · rw [Nat.min_eq_right h, Nat.div_eq_of_lt (Nat.lt_of_lt_of_le hx (Nat.pow_le_pow_right (by decide) h))]
      rw [Int.ediv_eq_zero_of_lt (by omega) (by exact_mod_cast hx)]; rfl
  rw [e] at this; exact this

theorem o_xor_u8 {t t' : TypeId} {x y : Operand} {a b : Int} (hx : Opd env x (.int .u8 a)) (hy : Opd env y (.int .u8 b)) (h0 : 0 ≤ a) (h1 : 0 ≤ b) (h2 : a < 256) (h3 : b < 256) :
    OpEv P T ⟨dst, .binOp .xor t x y t', ty, pos, after, gd⟩ env n g (.int .u8 ((a.toNat ^^^ b.toNat : Nat) : Int)) n .nil := op_bin hx.ev hy.ev (by
      have e : _ = a.toNat ^^^ b.toNat := bv_xor 8 h0 h1 (by omega) (by omega)
      have l : a.toNat ^^^ b.toNat < 256 := Nat.xor_lt_two_pow (n := 8) (by omega) (by omega)
      show some (Value.int .u8 (IntKind.wrap .u8 _)) = _
      rw [show IntKind.bits .u8 = 8 from rfl, e]
      rw [wrapU rfl (by omega) (by show _ < (2 : Int) ^ 8; omega)])
theorem o_mask_u8 {t t' : TypeId} {x y : Operand} {a b m : Int} (hx : Opd env x (.int .u8 a)) (hy : Opd env y (.int .u8 b)) (h0 : 0 ≤ a) (h1 : 0 ≤ b) (h3 : b < 256) (hm : b + 1 = m) (hp : (2 : Nat) ^ (Nat.log2 (b.toNat + 1)) = b.toNat + 1) :
    OpEv P T ⟨dst, .binOp .and t x y t', ty, pos, after, gd⟩ env n g (.int .u8 (a % m)) n .nil := op_bin hx.ev hy.ev (by
      obtain ⟨x, rfl⟩ := Int.eq_ofNat_of_zero_le h0
      obtain ⟨y, rfl⟩ := Int.eq_ofNat_of_zero_le h1
      have hy : y < 256 := by omega
      rw [Int.toNat_natCast] at hp
      have hj : Nat.log2 (y + 1) ≤ 8 := (Nat.pow_le_pow_iff_right (a := 2) (by decide)).1 (by rw [hp]; omega)
      have e : (BitVec.ofInt 8 (x : Int) &&& BitVec.ofInt 8 (y : Int)).toNat = x % (y + 1) := by
        rw [BitVec.toNat_and, BitVec.ofInt_natCast, BitVec.ofInt_natCast, BitVec.toNat_ofNat, BitVec.toNat_ofNat, Nat.mod_eq_of_lt (a := y) (by omega)]
        have hy' : y = 2 ^ (Nat.log2 (y + 1)) - 1 := by rw [hp]; omega
        rw [hy', Nat.and_two_pow_sub_one_eq_mod, ← hy', Nat.mod_mod_of_dvd _ (Nat.pow_dvd_pow 2 hj), hp]
      have l : x % (y + 1) < y + 1 := Nat.mod_lt _ (by omega)
      show some (Value.int .u8 (IntKind.wrap .u8 _)) = _
      rw [show IntKind.bits .u8 = 8 from rfl, e]
      rw [wrapU rfl (by omega) (by show _ < (2 : Int) ^ 8; omega)]
      subst hm
      rw [Int.natCast_emod]; rfl)
theorem o_conv_u8 {s t : TypeId} {x : Operand} {k : IntKind} {a : Int} {d : TypeDesc} [hs : Uc P s d] [ht : Uc P t (.int .u8)] (hx : Opd env x (.int k a)) (h0 : 0 ≤ a) (h1 : a < 256) :
    OpEv P T ⟨dst, .convert s t x, ty, pos, after, gd⟩ env n g (.int .u8 a) n .nil := by
  have := o_conv (P := P) (T := T) (n := n) (g := g) (dst := dst) (ty := ty) (pos := pos) (after := after) (gd := gd) hs.out ht.out hx
  rw [wrapU rfl h0 (by exact h1)] at this; exact this
theorem o_convM_u8 {s t : TypeId} {x : Operand} {k : IntKind} {a : Int} {d : TypeDesc} [hs : Uc P s d] [ht : Uc P t (.int .u8)] (hx : Opd env x (.int k a)) :
    OpEv P T ⟨dst, .convert s t x, ty, pos, after, gd⟩ env n g (.int .u8 (a % 256)) n .nil := by
  have := o_conv (P := P) (T := T) (n := n) (g := g) (dst := dst) (ty := ty) (pos := pos) (after := after) (gd := gd) hs.out ht.out hx
  exact this
theorem o_add_u8 {t t' : TypeId} {x y : Operand} {a b : Int} (hx : Opd env x (.int .u8 a)) (hy : Opd env y (.int .u8 b)) (h0 : 0 ≤ a + b) (h1 : a + b < 256) :
    OpEv P T ⟨dst, .binOp .add t x y t', ty, pos, after, gd⟩ env n g (.int .u8 (a + b)) n .nil := op_bin hx.ev hy.ev (by
      show some (Value.int .u8 (IntKind.wrap .u8 _)) = _
      rw [wrapU rfl h0 (by exact h1)])
theorem o_sub_u8 {t t' : TypeId} {x y : Operand} {a b : Int} (hx : Opd env x (.int .u8 a)) (hy : Opd env y (.int .u8 b)) (h0 : 0 ≤ a - b) (h1 : a - b < 256) :
    OpEv P T ⟨dst, .binOp .sub t x y t', ty, pos, after, gd⟩ env n g (.int .u8 (a - b)) n .nil := op_bin hx.ev hy.ev (by
      show some (Value.int .u8 (IntKind.wrap .u8 _)) = _
      rw [wrapU rfl h0 (by exact h1)])
theorem o_xor_u32 {t t' : TypeId} {x y : Operand} {a b : Int} (hx : Opd env x (.int .u32 a)) (hy : Opd env y (.int .u32 b)) (h0 : 0 ≤ a) (h1 : 0 ≤ b) (h2 : a < 4294967296) (h3 : b < 4294967296) :
    OpEv P T ⟨dst, .binOp .xor t x y t', ty, pos, after, gd⟩ env n g (.int .u32 ((a.toNat ^^^ b.toNat : Nat) : Int)) n .nil := op_bin hx.ev hy.ev (by
      have e : _ = a.toNat ^^^ b.toNat := bv_xor 32 h0 h1 (by omega) (by omega)
      have l : a.toNat ^^^ b.toNat < 4294967296 := Nat.xor_lt_two_pow (n := 32) (by omega) (by omega)
      show some (Value.int .u32 (IntKind.wrap .u32 _)) = _
      rw [show IntKind.bits .u32 = 32 from rfl, e]
      rw [wrapU rfl (by omega) (by show _ < (2 : Int) ^ 32; omega)])
theorem o_mask_u32 {t t' : TypeId} {x y : Operand} {a b m : Int} (hx : Opd env x (.int .u32 a)) (hy : Opd env y (.int .u32 b)) (h0 : 0 ≤ a) (h1 : 0 ≤ b) (h3 : b < 4294967296) (hm : b + 1 = m) (hp : (2 : Nat) ^ (Nat.log2 (b.toNat + 1)) = b.toNat + 1) :
    OpEv P T ⟨dst, .binOp .and t x y t', ty, pos, after, gd⟩ env n g (.int .u32 (a % m)) n .nil := op_bin hx.ev hy.ev (by
      obtain ⟨x, rfl⟩ := Int.eq_ofNat_of_zero_le h0
      obtain ⟨y, rfl⟩ := Int.eq_ofNat_of_zero_le h1
      have hy : y < 4294967296 := by omega
      rw [Int.toNat_natCast] at hp
      have hj : Nat.log2 (y + 1) ≤ 32 := (Nat.pow_le_pow_iff_right (a := 2) (by decide)).1 (by rw [hp]; omega)
      have e : (BitVec.ofInt 32 (x : Int) &&& BitVec.ofInt 32 (y : Int)).toNat = x % (y + 1) := by
        rw [BitVec.toNat_and, BitVec.ofInt_natCast, BitVec.ofInt_natCast, BitVec.toNat_ofNat, BitVec.toNat_ofNat, Nat.mod_eq_of_lt (a := y) (by omega)]
        have hy' : y = 2 ^ (Nat.log2 (y + 1)) - 1 := by rw [hp]; omega
        rw [hy', Nat.and_two_pow_sub_one_eq_mod, ← hy', Nat.mod_mod_of_dvd _ (Nat.pow_dvd_pow 2 hj), hp]
      have l : x % (y + 1) < y + 1 := Nat.mod_lt _ (by omega)
      show some (Value.int .u32 (IntKind.wrap .u32 _)) = _
      rw [show IntKind.bits .u32 = 32 from rfl, e]
      rw [wrapU rfl (by omega) (by show _ < (2 : Int) ^ 32; omega)]
      subst hm
      rw [Int.natCast_emod]; rfl)
theorem o_shrN_u32 {t t' : TypeId} {x y : Operand} {yk : IntKind} {a b : Int} (hx : Opd env x (.int .u32 a)) (hy : Opd env y (.int yk b)) (h0 : 0 ≤ a) (hb : 0 ≤ b) (ha : a < 4294967296) :
    OpEv P T ⟨dst, .binOp .shr t x y t', ty, pos, after, gd⟩ env n g (.int .u32 ((a.toNat >>> b.toNat : Nat) : Int)) n .nil := o_shrN hx hy h0 hb (by show _ < (2 : Int) ^ 32; omega)
theorem o_compl_u32 {t : TypeId} {x : Operand} {a : Int} (hx : Opd env x (.int .u32 a)) (h0 : 0 ≤ a) (h2 : a < 4294967296) :
    OpEv P T ⟨dst, .unOp .xor t x, ty, pos, after, gd⟩ env n g (.int .u32 (4294967295 - a)) n .nil := by
  have := o_compl (P := P) (T := T) (n := n) (g := g) (dst := dst) (ty := ty) (pos := pos) (after := after) (gd := gd) (t := t) hx
  have e : IntKind.wrap .u32 (BitVec.ofInt (IntKind.bits .u32) (if IntKind.signed .u32 then -1 else IntKind.max .u32) ^^^ BitVec.ofInt (IntKind.bits .u32) a).toNat = 4294967295 - a := by
    obtain ⟨x, rfl⟩ := Int.eq_ofNat_of_zero_le h0
    show (((BitVec.ofInt 32 4294967295 ^^^ BitVec.ofInt 32 (x : Int)).toNat : Nat) : Int) % ((2 : Int) ^ 32) = _
    have h1 : BitVec.ofInt 32 4294967295 = BitVec.allOnes 32 := by decide
    rw [h1, BitVec.allOnes_xor, BitVec.toNat_not, BitVec.ofInt_natCast, BitVec.toNat_ofNat]
    have hx : x < 4294967296 := by omega
    rw [Nat.mod_eq_of_lt (by exact hx)]
    omega
  rw [e] at this; exact this
theorem o_conv_u32 {s t : TypeId} {x : Operand} {k : IntKind} {a : Int} {d : TypeDesc} [hs : Uc P s d] [ht : Uc P t (.int .u32)] (hx : Opd env x (.int k a)) (h0 : 0 ≤ a) (h1 : a < 4294967296) :
    OpEv P T ⟨dst, .convert s t x, ty, pos, after, gd⟩ env n g (.int .u32 a) n .nil := by
  have := o_conv (P := P) (T := T) (n := n) (g := g) (dst := dst) (ty := ty) (pos := pos) (after := after) (gd := gd) hs.out ht.out hx
  rw [wrapU rfl h0 (by exact h1)] at this; exact this
theorem o_convM_u32 {s t : TypeId} {x : Operand} {k : IntKind} {a : Int} {d : TypeDesc} [hs : Uc P s d] [ht : Uc P t (.int .u32)] (hx : Opd env x (.int k a)) :
    OpEv P T ⟨dst, .convert s t x, ty, pos, after, gd⟩ env n g (.int .u32 (a % 4294967296)) n .nil := by
  have := o_conv (P := P) (T := T) (n := n) (g := g) (dst := dst) (ty := ty) (pos := pos) (after := after) (gd := gd) hs.out ht.out hx
  exact this
theorem o_quo_u32 {t t' : TypeId} {x y : Operand} {a b : Int} (hx : Opd env x (.int .u32 a)) (hy : Opd env y (.int .u32 b)) (ha : 0 ≤ a) (hb : 0 < b) (h2 : a < 4294967296) :
    OpEv P T ⟨dst, .binOp .quo t x y t', ty, pos, after, gd⟩ env n g (.int .u32 (a / b)) n .nil := op_bin hx.ev hy.ev (by
      have hb' : b ≠ 0 := by omega
      simp only [binI, if_neg hb', Int.tdiv_eq_ediv_of_nonneg ha]
      rw [wrapU rfl (Int.ediv_nonneg ha (by omega)) (by have := Int.ediv_le_self b ha; show _ < (2 : Int) ^ 32; omega)])
theorem o_or_u64 {t t' : TypeId} {x y : Operand} {a b : Int} (hx : Opd env x (.int .u64 a)) (hy : Opd env y (.int .u64 b)) (h0 : 0 ≤ a) (h1 : 0 ≤ b) (h2 : a < 18446744073709551616) (h3 : b < 18446744073709551616) :
    OpEv P T ⟨dst, .binOp .or t x y t', ty, pos, after, gd⟩ env n g (.int .u64 ((a.toNat ||| b.toNat : Nat) : Int)) n .nil := op_bin hx.ev hy.ev (by
      have e : _ = a.toNat ||| b.toNat := bv_or 64 h0 h1 (by omega) (by omega)
      have l : a.toNat ||| b.toNat < 18446744073709551616 := Nat.or_lt_two_pow (n := 64) (by omega) (by omega)
      show some (Value.int .u64 (IntKind.wrap .u64 _)) = _
      rw [show IntKind.bits .u64 = 64 from rfl, e]
      rw [wrapU rfl (by omega) (by show _ < (2 : Int) ^ 64; omega)])
theorem o_shrN_u64 {t t' : TypeId} {x y : Operand} {yk : IntKind} {a b : Int} (hx : Opd env x (.int .u64 a)) (hy : Opd env y (.int yk b)) (h0 : 0 ≤ a) (hb : 0 ≤ b) (ha : a < 18446744073709551616) :
    OpEv P T ⟨dst, .binOp .shr t x y t', ty, pos, after, gd⟩ env n g (.int .u64 ((a.toNat >>> b.toNat : Nat) : Int)) n .nil := o_shrN hx hy h0 hb (by show _ < (2 : Int) ^ 64; omega)
theorem o_shl_u64 {t t' : TypeId} {x y : Operand} {yk : IntKind} {a b : Int} (hx : Opd env x (.int .u64 a)) (hy : Opd env y (.int yk b)) (h0 : 0 ≤ a) (hb : 0 ≤ b) :
    OpEv P T ⟨dst, .binOp .shl t x y t', ty, pos, after, gd⟩ env n g (.int .u64 (((a.toNat <<< b.toNat) % 18446744073709551616 : Nat) : Int)) n .nil := by
  have := o_shl (P := P) (T := T) (n := n) (g := g) (dst := dst) (ty := ty) (pos := pos) (after := after) (gd := gd) (t := t) (t' := t') hx hy hb
  have e : IntKind.wrap .u64 (a * 2 ^ (min b.toNat (IntKind.bits .u64))) = (((a.toNat <<< b.toNat) % 18446744073709551616 : Nat) : Int) := by
    show (a * 2 ^ (min b.toNat 64)) % ((2 : Int) ^ 64) = _
    obtain ⟨x, rfl⟩ := Int.eq_ofNat_of_zero_le h0
    have e1 : (Int.ofNat x).toNat = x := rfl
    have e2 : ((x : Nat) : Int) * 2 ^ (min b.toNat 64) = ((x * 2 ^ (min b.toNat 64) : Nat) : Int) := by push_cast; rfl
    rw [Nat.shiftLeft_eq, Int.toNat_natCast, e2, show ((2 : Int) ^ 64) = ((18446744073709551616 : Nat) : Int) from rfl, ← Int.natCast_emod]
    congr 1
    rcases Nat.lt_or_ge b.toNat 64 with h | h
    · rw [Nat.min_eq_left (by omega)]
    · rw [Nat.min_eq_right h]
      have : ∃ d, b.toNat = 64 + d := ⟨b.toNat - 64, by omega⟩
      obtain ⟨d, hd⟩ := this
      rw [hd, Nat.pow_add, show (2 : Nat) ^ 64 = 18446744073709551616 from rfl, ← Nat.mul_assoc, Nat.mul_assoc, Nat.mul_comm 18446744073709551616 (2 ^ d), ← Nat.mul_assoc, Nat.mul_mod_left, Nat.mul_mod_left]
  rw [e] at this; exact this
theorem o_conv_u64 {s t : TypeId} {x : Operand} {k : IntKind} {a : Int} {d : TypeDesc} [hs : Uc P s d] [ht : Uc P t (.int .u64)] (hx : Opd env x (.int k a)) (h0 : 0 ≤ a) (h1 : a < 18446744073709551616) :
    OpEv P T ⟨dst, .convert s t x, ty, pos, after, gd⟩ env n g (.int .u64 a) n .nil := by
  have := o_conv (P := P) (T := T) (n := n) (g := g) (dst := dst) (ty := ty) (pos := pos) (after := after) (gd := gd) hs.out ht.out hx
  rw [wrapU rfl h0 (by exact h1)] at this; exact this
theorem o_add_u64 {t t' : TypeId} {x y : Operand} {a b : Int} (hx : Opd env x (.int .u64 a)) (hy : Opd env y (.int .u64 b)) (h0 : 0 ≤ a + b) (h1 : a + b < 18446744073709551616) :
    OpEv P T ⟨dst, .binOp .add t x y t', ty, pos, after, gd⟩ env n g (.int .u64 (a + b)) n .nil := op_bin hx.ev hy.ev (by
      show some (Value.int .u64 (IntKind.wrap .u64 _)) = _
      rw [wrapU rfl h0 (by exact h1)])
theorem o_mul_u64 {t t' : TypeId} {x y : Operand} {a b : Int} (hx : Opd env x (.int .u64 a)) (hy : Opd env y (.int .u64 b)) (h0 : 0 ≤ a * b) (h1 : a * b < 18446744073709551616) :
    OpEv P T ⟨dst, .binOp .mul t x y t', ty, pos, after, gd⟩ env n g (.int .u64 (a * b)) n .nil := op_bin hx.ev hy.ev (by
      show some (Value.int .u64 (IntKind.wrap .u64 _)) = _
      rw [wrapU rfl h0 (by exact h1)])
theorem o_xor_i64 {t t' : TypeId} {x y : Operand} {a b : Int} (hx : Opd env x (.int .i64 a)) (hy : Opd env y (.int .i64 b)) (h0 : 0 ≤ a) (h1 : 0 ≤ b) (h2 : a < 9223372036854775808) (h3 : b < 9223372036854775808) :
    OpEv P T ⟨dst, .binOp .xor t x y t', ty, pos, after, gd⟩ env n g (.int .i64 ((a.toNat ^^^ b.toNat : Nat) : Int)) n .nil := op_bin hx.ev hy.ev (by
      have e : _ = a.toNat ^^^ b.toNat := bv_xor 64 h0 h1 (by omega) (by omega)
      have l : a.toNat ^^^ b.toNat < 9223372036854775808 := Nat.xor_lt_two_pow (n := 63) (by omega) (by omega)
      show some (Value.int .i64 (IntKind.wrap .i64 _)) = _
      rw [show IntKind.bits .i64 = 64 from rfl, e]
      rw [wrap_id (by omega) (by show _ < (2 : Int) ^ 63; omega)])
theorem o_shrN_i64 {t t' : TypeId} {x y : Operand} {yk : IntKind} {a b : Int} (hx : Opd env x (.int .i64 a)) (hy : Opd env y (.int yk b)) (h0 : 0 ≤ a) (hb : 0 ≤ b) (ha : a < 18446744073709551616) :
    OpEv P T ⟨dst, .binOp .shr t x y t', ty, pos, after, gd⟩ env n g (.int .i64 ((a.toNat >>> b.toNat : Nat) : Int)) n .nil := o_shrN hx hy h0 hb (by show _ < (2 : Int) ^ 64; omega)
theorem o_conv_i64 {s t : TypeId} {x : Operand} {k : IntKind} {a : Int} {d : TypeDesc} [hs : Uc P s d] [ht : Uc P t (.int .i64)] (hx : Opd env x (.int k a)) (h0 : -9223372036854775808 ≤ a) (h1 : a < 9223372036854775808) :
    OpEv P T ⟨dst, .convert s t x, ty, pos, after, gd⟩ env n g (.int .i64 a) n .nil := by
  have := o_conv (P := P) (T := T) (n := n) (g := g) (dst := dst) (ty := ty) (pos := pos) (after := after) (gd := gd) hs.out ht.out hx
  have e : IntKind.wrap .i64 a = a := by simp only [IntKind.wrap, IntKind.signed]; simp [IntKind.bits]; omega
  rw [e] at this; exact this
theorem o_shrC {t t' : TypeId} {x y : Operand} {k yk : IntKind} {a b m : Int} (hx : Opd env x (.int k a)) (hy : Opd env y (.int yk b)) (hb : 0 ≤ b) (hk : b < 8) (hm : (2 : Int) ^ b.toNat = m) :
    OpEv P T ⟨dst, .binOp .shr t x y t', ty, pos, after, gd⟩ env n g (.int k (a / m)) n .nil := by
  have := o_shr (P := P) (T := T) (n := n) (g := g) (dst := dst) (ty := ty) (pos := pos) (after := after) (gd := gd) (t := t) (t' := t') hx hy hb
  have e : min b.toNat k.bits = b.toNat := by cases k <;> simp [IntKind.bits] <;> omega
  rw [e, hm, Int.fdiv_eq_ediv_of_nonneg _ (by rw [← hm]; exact Int.le_of_lt (Int.pow_pos (by decide)))] at this
  exact this
end
end Go.Abs

/- New blocks, strings, rows: the operations' laws as the stepping takes them. -/
namespace Go.Abs
open Go.RowKit

inductive Prts (env : Env) : List (Nat × Operand) → List (Nat × Value) → Prop
  | nil : Prts env [] []
  | cons {i x v r s} (h : Opd env x v) (t : Prts env r s) : Prts env ((i, x) :: r) ((i, v) :: s)
theorem Prts.map {env : Env} {ps vs} (h : Prts env ps vs) : ps.map (fun p => (p.1, ev env p.2)) = vs := by
  induction h with
  | nil => rfl
  | cons h _ ih => simp [h.ev, ih]
theorem Prts.fst {env : Env} {ps vs} (h : Prts env ps vs) : ps.map (·.1) = vs.map (·.1) := by
  induction h with
  | nil => rfl
  | cons h _ ih => simp [ih]
theorem Prts.snd {env : Env} {ps vs} (h : Prts env ps vs) : (ps.map (·.2)).map (ev env) = vs.map (·.2) := by
  induction h with
  | nil => rfl
  | cons h _ ih => simp [h.ev, ih]
inductive Cs (z : Nat) : List (Nat × Value) → List Value → Prop
  | nil : Cs z [] []
  | one {i v r cs} (hz : z = 1) (ho : v.cells = #[v]) (hk : okV v = true) (t : Cs z r cs) : Cs z ((i, v) :: r) (v :: cs)
  | agg {i l r cs cs'} (hz : l.length = z) (hk : known l = true) (t : Cs z r cs) (hcs : l ++ cs = cs') : Cs z ((i, .agg l.toArray) :: r) cs'
theorem Cs.spec {z : Nat} {ps cs} (h : Cs z ps cs) : cellsOf (ps.map (·.2)) = cs ∧ ∀ p, p ∈ ps → okV p.2 = true ∧ p.2.cells.size = z := by
  induction h with
  | nil => exact ⟨rfl, fun _ h => by simp at h⟩
  | one hz ho hk t ih =>
    refine ⟨by simp [cellsOf, ho] at ih ⊢; exact ih.1, fun p hp => ?_⟩
    rcases List.mem_cons.1 hp with rfl | hp
    · exact ⟨hk, by simp [ho, hz]⟩
    · exact ih.2 p hp
  | agg hz hk t hcs ih =>
    subst hcs
    refine ⟨by simp only [cellsOf, List.map_cons, List.flatMap_cons] at ih ⊢; rw [ih.1]; rfl, fun p hp => ?_⟩
    rcases List.mem_cons.1 hp with rfl | hp
    · exact ⟨by simpa [okV] using hk, by simpa [Value.cells] using hz⟩
    · exact ih.2 p hp

section
variable {P : Program} {T : Nat → Prop} {env : Env} {n : Nat} {g : AH}
variable {dst : Option Tmp} {ty : TypeId} {pos : String} {after : Array Edge} {gd : Option (Nat × Bool)}

theorem o_buildP {t : TypeId} {ps : List (Nat × Operand)} {vs : List (Nat × Value)} {places : List (Nat × Nat)} {zero cs : List Value} [s : Sc P t places zero] (hx : Prts env ps vs) (hok : vs.all (fun p => okV p.2) = true) (hb : Bl places zero vs cs) :
    OpEv P T ⟨dst, .build t ps.toArray, ty, pos, after, gd⟩ env n g (.agg cs.toArray) n .nil := by
  obtain ⟨fs, z, by_, zv, h1, h2, h3, h4⟩ := s.out
  have hm := hx.map
  refine op_build h1 h2 h4 ?_ ?_
  · rw [← hm, List.all_map] at hok
    simpa [Function.comp_def] using hok
  · have := hb.fill
    rw [← h3] at this
    rw [show ps.toArray.toList = ps from rfl, hm]
    simpa using this

theorem o_buildSliceP {t e : TypeId} {len : Nat} {ps : List (Nat × Operand)} {vs : List (Nat × Value)} {cs : List Value} {d : TypeDesc} {z by_ : Nat} {zv : Value} [hu : Uc P t (.slice e)] [hz : Tc P e d z by_ zv] (hf : zv.cells.toList.all (flat 8) = true)
    (hzz : zv.cells.size = z) (hz0 : z ≠ 0) (hx : Prts env ps vs) (hi : vs.map (·.1) = List.range len) (hbig : Nat.ble (len * z) 16777216 = true) (hc : Cs z vs cs) :
    OpEv P T ⟨dst, .buildSlice t len ps.toArray, ty, pos, after, gd⟩ env n g (.slice (some ⟨n, 0, none⟩) len len) (n + 1) (.new n ⟨cs.length, 0, true, z⟩ cs) := by
  obtain ⟨c1, c2⟩ := hc.spec
  have hlen : ps.length = len := by have := congrArg List.length (hx.fst.trans hi); simpa using this
  have e : ps = ((ps.map (·.2)).zipIdx.map fun p => (p.2, p.1)) := by
    apply List.ext_getElem
    · simp
    · intro i h1 h2
      have e1 : (ps.map (·.1))[i]'(by simpa using h1) = i := by
        have : ps.map (·.1) = List.range len := hx.fst.trans hi
        simp [this]
      simp at e1 ⊢
      exact Prod.ext e1 rfl
  have := op_buildSlice (P := P) (T := T) (n := n) (g := g) (env := env) (dst := dst) (ty := ty) (pos := pos) (after := after) (gd := gd) (t := t) (len := len) (xs := ps.map (·.2)) hu.out hz.out (by simpa using hf) hzz hz0 (by simpa using hlen) (Nat.le_of_ble_eq_true hbig) (fun x hx' => by
    have h1 : ev env x ∈ (ps.map (·.2)).map (ev env) := List.mem_map_of_mem hx'
    rw [hx.snd] at h1
    obtain ⟨p, hp, he⟩ := List.mem_map.1 h1
    rw [← he]; exact c2 p hp)
  rw [hx.snd, c1, ← e] at this
  exact this

theorem o_alloc1 {e : TypeId} {d : TypeDesc} {by_ : Nat} {zv : Value} [hz : Tc P e d 1 by_ zv] (hc : zv.cells = #[zv]) (hf : flat 8 zv = true) :
    OpEv P T ⟨dst, .alloc e, ty, pos, after, gd⟩ env n g (.pointer (some ⟨n, 0, none⟩)) (n + 1) (.new n ⟨1, 0, true, 0⟩ [zv]) := by
  have := op_alloc (P := P) (T := T) (n := n) (g := g) (e := e) (env := env) (dst := dst) (ty := ty) (pos := pos) (after := after) (gd := gd) hz.out (by rw [hc]; simpa using hf)
  rw [hc] at this; exact this
theorem o_allocAgg {e : TypeId} {d : TypeDesc} {z by_ : Nat} {l : List Value} [hz : Tc P e d z by_ (.agg l.toArray)] (hl : l.length = z) (hf : l.all (flat 8) = true) :
    OpEv P T ⟨dst, .alloc e, ty, pos, after, gd⟩ env n g (.pointer (some ⟨n, 0, none⟩)) (n + 1) (.new n ⟨z, 0, true, 0⟩ l) := by
  have := op_alloc (P := P) (T := T) (n := n) (g := g) (e := e) (env := env) (dst := dst) (ty := ty) (pos := pos) (after := after) (gd := gd) hz.out (by simpa [Value.cells] using hf)
  simp only [Value.cells, hl] at this; exact this
theorem o_box1 {e : TypeId} {x : Operand} {v : Value} (hx : Opd env x v) (hc : v.cells = #[v]) (hy : okV v = true) :
    OpEv P T ⟨dst, .box e x, ty, pos, after, gd⟩ env n g (.pointer (some ⟨n, 0, none⟩)) (n + 1) (.new n ⟨1, 0, true, 0⟩ [v]) := by
  have := o_box (P := P) (T := T) (n := n) (g := g) (e := e) (env := env) (dst := dst) (ty := ty) (pos := pos) (after := after) (gd := gd) hx hy
  rw [hc] at this; exact this
theorem o_boxAgg {e : TypeId} {x : Operand} {l : List Value} (hx : Opd env x (.agg l.toArray)) (hy : known l = true) :
    OpEv P T ⟨dst, .box e x, ty, pos, after, gd⟩ env n g (.pointer (some ⟨n, 0, none⟩)) (n + 1) (.new n ⟨l.length, 0, true, 0⟩ l) := by
  have := o_box (P := P) (T := T) (n := n) (g := g) (e := e) (env := env) (dst := dst) (ty := ty) (pos := pos) (after := after) (gd := gd) hx hy
  exact this
theorem o_makeSlice1 {t e : TypeId} {x y : Operand} {a c : Int} {d : TypeDesc} {by_ : Nat} {zv : Value} [hu : Uc P t (.slice e)] [hz : Tc P e d 1 by_ zv] (hx : Opd env x (.int .i64 a)) (hy : Opd env y (.int .i64 c)) (hc : zv.cells = #[zv]) (hf : flat 8 zv = true)
    (h0 : 0 ≤ a) (hac : a ≤ c) (hb : c.toNat * by_ ≤ 281474976710656) (hM : c ≤ 9223372036854775807) :
    OpEv P T ⟨dst, .makeSlice t x y, ty, pos, after, gd⟩ env n g (.slice (some ⟨n, 0, none⟩) a.toNat a.toNat) (n + 1) (.new n ⟨a.toNat, 0, true, 1⟩ (List.replicate a.toNat zv)) := by
  have hx' := hx.ev
  have hy' := hy.ev
  rw [← Int.toNat_of_nonneg h0] at hx'
  rw [← Int.toNat_of_nonneg (Int.le_trans h0 hac)] at hy'
  have := op_makeSlice (P := P) (T := T) (n := n) (g := g) (dst := dst) (ty := ty) (pos := pos) (after := after) (gd := gd) hu.out hz.out (by rw [hc]; simpa using hf) (by rw [hc]; rfl) (by decide) hx' hy' (by omega) hb (by omega)
  rw [hc, zrow_one, List.length_replicate] at this
  exact this
/-! Strings. -/
theorem baList {a b : ByteArray} : a.toList = b.toList ↔ a = b := by
  rw [ByteArray.toList_eq, ByteArray.toList_eq]
  constructor
  · intro h
    cases a; cases b
    simp only [ByteArray.mk.injEq]
    exact Array.ext' h
  · intro h; rw [h]
theorem o_eqS {t t' : TypeId} {x y : Operand} {a b : ByteArray} (hx : Opd env x (.string a)) (hy : Opd env y (.string b)) :
    OpEv P T ⟨dst, .binOp .eql t x y t', ty, pos, after, gd⟩ env n g (.bool (decide (a = b))) n .nil :=
  op_str hx.ev hy.ev (fun w => by simp only [Op.stringOp, Sem.run_pure]; congr 2; by_cases h : a = b <;> simp [h, baList]) (fun _ => .bool _) (by decide)
theorem o_neS {t t' : TypeId} {x y : Operand} {a b : ByteArray} (hx : Opd env x (.string a)) (hy : Opd env y (.string b)) :
    OpEv P T ⟨dst, .binOp .neq t x y t', ty, pos, after, gd⟩ env n g (.bool (decide (a ≠ b))) n .nil :=
  op_str hx.ev hy.ev (fun w => by simp only [Op.stringOp, Sem.run_pure]; congr 2; by_cases h : a = b <;> simp [h, bne, baList]) (fun _ => .bool _) (by decide)
def bytesF (l : List UInt8) : Nat → Value := fun j => .int .u8 ((l.getD j 0).toNat : Nat)
abbrev SlB (h : AH) (n : Nat) (a : Option Addr) (l : List UInt8) : Prop := SlR h n a 1 l.length (bytesF l)
theorem SlB.rd {h h' : AH} {n : Nat} {a : Option Addr} {l : List UInt8} (s : SlB h n a l) (e : Ext n h h') : rd h' (sb a) (so a) l.length = bytesV l := by
  have := SlR.rd s e (i := 0) (k := l.length) (by omega)
  rw [Nat.add_zero] at this
  rw [this]
  apply List.ext_getElem
  · simp [bytesV]
  · intro i h1 h2
    have hi : i < l.length := by simpa using h1
    simp [bytesV, bytesF, List.getD, hi]
theorem o_func {f : FuncId} {caps : List Operand} {vs : List Value} (hx : Opds env caps vs) : OpEv P T ⟨dst, .makeFunc (.func f) #[] caps.toArray, ty, pos, after, gd⟩ env n g (.func (.func f) #[] vs.toArray) n .nil := by
  have := op_func (P := P) (T := T) (n := n) (g := g) (env := env) (f := f) (caps := caps.toArray) (dst := dst) (ty := ty) (pos := pos) (after := after) (gd := gd)
  rw [hx.mapA] at this; exact this
end
end Go.Abs

/- A range over a function: the statement, its rounds, and calls of function values of whatever kind. -/
namespace Go.Abs
open Go.RowKit

def Env.puts : Env → List (Nat × Value) → Env
  | env, [] => env
  | env, (t, v) :: r => Env.puts ((t, v) :: env) r
theorem EnvRel.puts {ρ : Ren} {N : Nat} : ∀ {ps : List Nat} {vs cs : List Value} {env : Env} {tmps : Array Value}, EnvRel ρ N env tmps → (∀ p ∈ ps, p < N) → (∀ i, VRel ρ (vs.getD i (.tuple #[])) (cs.getD i (.tuple #[]))) → vs.length = cs.length →
    EnvRel ρ N (env.puts (ps.zip vs)) ((ps.zip cs).foldl (fun tmps (t, a) => tmps.setIfInBounds t a) tmps)
  | [], _, _, _, _, he, _, _, _ => by simpa [Env.puts] using he
  | _ :: _, [], [], _, _, he, _, _, _ => by simpa [Env.puts] using he
  | p :: ps, v :: vs, c :: cs, env, tmps, he, hp, hv, hl => by
    have h1 : EnvRel ρ N ((p, v) :: env) (tmps.setIfInBounds p c) :=
      EnvRel.put (a := ⟨tmps, []⟩) he (some p) (fun t ht => by cases ht; exact hp _ (by simp)) (v := v) (c := c) (by simpa using hv 0)
    simp only [List.zip_cons_cons, Env.puts, List.foldl_cons]
    exact EnvRel.puts h1 (fun q hq => hp q (by simp [hq])) (fun i => by simpa using hv (i + 1)) (by simpa using hl)
  | _ :: _, [], _ :: _, _, _, _, _, _, hl => by simp at hl
  | _ :: _, _ :: _, [], _, _, _, _, _, hl => by simp at hl

def YEv (P : Program) (W : Nat → Prop) (b : Nat) (args : Array Value) (n : Nat) (h : AH) (r : Value) (n' : Nat) (h' : AH) : Prop :=
  ∃ d : Dl, h'.le (h.app d) ∧ n ≤ n' ∧ Within W n n' d ∧
    ∀ (rd : Option Nat) (w0 : Base) (ρ : Ren) (w : World) (H : AH) (cargs : Array Value) (L : Loc), h.le H → Fresh n n' ρ → Sim w0 ρ H w → RelAll ρ args cargs → ρ b = some L →
      ∃ l f tmps assign body, (Instr.yield L.blk cargs).run P w = .ok (.round l f tmps assign body) w ∧
        RoundIn (FW rd) 0 P l f tmps assign body w fun e w' => ∃ ρ' c, e = .returned c ∧ Grow n n' ρ ρ' ∧ VRel ρ' r c ∧ Sim w0 ρ' (H.app d) w'

def jumpOf : Exit → Option (Option Code)
  | .normal => some none
  | .ret => some (some .ret)
  | .exit id => some (some (.exit id))
  | .goto l => some (some (.goto l))
  | _ => none
def ALoop.at (A : ALoop) : Option Code → ALoop
  | none => A
  | some c => { A with state := .done, pending := some c }
def ALoop.busy (A : ALoop) : ALoop := { A with state := .busy }
def ALoop.over (A : ALoop) : ALoop := { A with state := .exhausted }

theorem le_info {h H : AH} {b : Nat} {m : Meta} (hl : h.le H) (hm : h.info b = some m) : H.info b = some m := hl.info b m hm
theorem Within.obj {W : Nat → Prop} {b n n' : Nat} {o : AObj} (hW : W b ∨ n ≤ b) (hb : b < n') : Within W n n' (.obj b o) := by
  intro x hx
  unfold Dl.obj at hx
  rcases hx with h | ⟨i, h⟩
  · simp only at h
    split at h
    · rename_i e; subst e; exact ⟨hW, hb⟩
    · exact absurd rfl h
  · exact absurd rfl h

theorem YEv.of {P : Program} {W : Nat → Prop} {b : Nat} {A : ALoop} {args : Array Value} {n n1 n2 : Nat} {h h1 h2 : AH} {env1 env2 : Env} {e : Exit} {j : Option Code}
    (hA : h.info b = some (AObj.loop A).m) (hst : A.state = .ready) (hp : A.pending = none) (hsz : args.size = A.params.size) (hps : ∀ p ∈ A.params.toList, p < A.N) (hW : W b) (hbn : b < n)
    (ha : Ex P (fun x => W x ∨ n ≤ x) A.N A.assign (A.env.puts (A.params.toList.zip args.toList)) n h .normal env1 n1 h1) (hA1 : h1.info b = some (AObj.loop A).m)
    (hb : Ex P (fun x => W x ∨ n ≤ x) A.N A.body env1 n1 (h1.app (.obj b (.loop A.busy))) e env2 n2 h2) (hA2 : h2.info b = some (AObj.loop A.busy).m) (hj : jumpOf e = some j) :
    YEv P W b args n h (.bool j.isNone) n2 (h2.app (.obj b (.loop (A.at j)))) := by
  obtain ⟨d1, hle1, hn1, hw1, run1⟩ := ha
  obtain ⟨d2, hle2, hn2, hw2, run2⟩ := hb
  have hwb := Within.obj (n := n1) (n' := n1) (o := .loop A.busy) (W := fun x => W x ∨ n ≤ x) (b := b) (.inl (.inl hW)) (by omega)
  have hwe := Within.obj (n := n2) (n' := n2) (o := .loop (A.at j)) (W := fun x => W x ∨ n ≤ x) (b := b) (.inl (.inl hW)) (by omega)
  refine ⟨d1.comp ((Dl.obj b (.loop A.busy)).comp (d2.comp (.obj b (.loop (A.at j))))), ?_, by omega, ?_, fun rd w0 ρ w H cargs L hl hf hs hr hL => ?_⟩
  · rw [AH.app_comp, AH.app_comp, AH.app_comp]
    exact (hle2.trans ((hle1.app _).app _)).app _
  · have hh := hw1.two hn1 hn2 (hwb.two (Nat.le_refl _) hn2 (hw2.two hn2 (Nat.le_refl _) hwe))
    intro x hx
    obtain ⟨k1, k2⟩ := hh x hx
    refine ⟨?_, k2⟩
    rcases k1 with (k | k) | k
    · exact .inl k
    · exact .inr k
    · exact .inr k
  obtain ⟨L', c, k1, k2, k3, k4, k5⟩ := hs.obj b _ (.loop A) (le_info hl hA) rfl
  rw [hL] at k1; cases k1
  cases k5 with
  | @loop _ r hrel =>
  have hsz' : cargs.size = r.params.size := by rw [hrel.params, ← hsz, hr.size]
  refine ⟨_, _, _, _, _, run_yield k4 hsz', ?_⟩
  refine roundIn_of_wpIn (F := FW rd) (n := 0) (FW.fn rd _) ?_
  have hin : (FW rd).inRound L.blk = FW (some L.blk) := rfl
  rw [hin, hrel.assign, hrel.body]
  have s0 : Sim (w0.round L.blk) ρ H w := hs.round k4
  have hrd : ∀ ms, RdOk ((w0.round L.blk).keep ms) (some L.blk) := fun ms l hl => by cases hl; exact List.mem_cons_self
  have henv : EnvRel ρ A.N (A.env.puts (A.params.toList.zip args.toList)) ((r.params.zip cargs).foldl (fun tmps (t, a) => tmps.setIfInBounds t a) r.tmps) := by
    have := EnvRel.puts (ps := A.params.toList) (vs := args.toList) (cs := cargs.toList) hrel.env hps (fun i => by
      have := hr.at_ i
      simpa [Array.getD_eq_getD_getElem?, List.getD] using this) (by simpa using hr.size)
    rw [hrel.params, ← Array.foldl_toList, Array.toList_zip]
    exact this
  refine wpIn_mono (run1 (some L.blk) (w0.round L.blk) ρ w H _ [] (hrd []) hl (hf.left (by omega)) s0 henv) ?_
  rintro e1 a1 w1 ⟨rfl, ms1, hd1, ρ1, hg1, he1, hs1⟩
  have hH1 : (H.app d1).info b = some (AObj.loop A).m := le_info (hle1.trans (hl.app d1)) hA1
  have hL1 := hg1.le _ _ hL
  obtain ⟨L1, c1, p1, p2, p3, p4, p5⟩ := hs1.obj b _ (.loop A) hH1 rfl
  rw [hL1] at p1; cases p1
  cases p5 with
  | @loop _ r1 hrel1 =>
  refine ⟨_, run_beginRound p4 (hrel1.state.trans hst), ?_⟩
  have hs1' : Sim ((w0.round L.blk).keep ms1) ρ1 ((H.app d1).app (.obj b (.loop A.busy))) (w1.putObj L.blk (.loop { r1 with state := .busy })) :=
    hs1.putObj hH1 hL1 p4 (.loop hrel1) (.loop ⟨hrel1.params, hrel1.assign, hrel1.body, rfl, hrel1.pending, hrel1.env⟩) (fun r' _ => ⟨_, rfl⟩)
  obtain ⟨tm, df⟩ := a1
  refine wpIn_mono (run2 (some L.blk) ((w0.round L.blk).keep ms1) ρ1 _ ((H.app d1).app (.obj b (.loop A.busy))) tm df (hrd ms1) ((hle1.trans (hl.app d1)).app _) ((hf.right hn1 hg1).left (Nat.le_refl _)) hs1' he1) ?_
  rintro e2 a2 w2 ⟨rfl, ms2, hd2, ρ2, hg2, he2, hs2⟩
  have hH2 : (((H.app d1).app (.obj b (.loop A.busy))).app d2).info b = some (AObj.loop A.busy).m := le_info (hle2.trans (((hle1.trans (hl.app d1)).app _).app d2)) hA2
  have hL2 := hg2.le _ _ hL1
  obtain ⟨L2, c2, q1, q2, q3, q4, q5⟩ := hs2.obj b _ (.loop A.busy) hH2 rfl
  rw [hL2] at q1; cases q1
  cases q5 with
  | @loop _ r2 hrel2 =>
  have hs3 : Sim (((w0.round L.blk).keep ms1).keep ms2) ρ2 ((((H.app d1).app (.obj b (.loop A.busy))).app d2).app (.obj b (.loop (A.at j)))) (w2.putObj L.blk (.loop { r2 with state := if j.isNone then .ready else .done, pending := j })) :=
    hs2.putObj hH2 hL2 q4 (.loop hrel2) (.loop (by
      cases j with
      | none => exact ⟨hrel2.params, hrel2.assign, hrel2.body, hst.symm, hp.symm, hrel2.env⟩
      | some c => exact ⟨hrel2.params, hrel2.assign, hrel2.body, rfl, rfl, hrel2.env⟩)) (fun r' _ => ⟨_, rfl⟩)
  have hs4 := hs3.unkeep.unkeep.unround
  rw [← AH.app_comp, ← AH.app_comp, ← AH.app_comp, ← Dl.comp_assoc, ← Dl.comp_assoc] at hs4
  have fin : ∃ v w', (Instr.endRound L.blk j).run P w2 = .ok v w' ∧ ∃ ρ' c, Ending.returned v = .returned c ∧ Grow n n2 ρ ρ' ∧ VRel ρ' (.bool j.isNone) c ∧ Sim w0 ρ' (H.app (d1.comp ((Dl.obj b (.loop A.busy)).comp (d2.comp (.obj b (.loop (A.at j))))))) w' :=
    ⟨_, _, run_endRound j q4, ρ2, _, rfl, hg1.trans hn1 hn2 hg2, .bool _, by simpa only [AH.app_comp] using hs4⟩
  cases e2 with
  | normal => cases hj; exact fin
  | ret => cases hj; exact fin
  | exit id => cases hj; exact fin
  | goto t => cases hj; exact fin
  | _ => cases hj

section
variable {P : Program} {T W : Nat → Prop} {N : Nat} {env : Env} {n n' : Nat} {g h h' : AH}
variable {dst : Option Tmp} {ty : TypeId} {pos : String} {after : Array Edge} {gd : Option (Nat × Bool)}

theorem op_yield {x : Operand} {b : Nat} {xs : Array Operand} {ts : Array TypeId} {r : Value} (hx : ev env x = .func (.yield b) #[] #[]) (hev : YEv P W b (xs.map (ev env)) n g r n' h') (hW : ∀ b, W b → T b) :
    ∃ d, h'.le (g.app d) ∧ Within W n n' d ∧ OpEv P T ⟨dst, .call { callee := .value x, args := xs, argTypes := ts }, ty, pos, after, gd⟩ env n g r n' d := by
  obtain ⟨d, hle, hn, hw, run⟩ := hev
  refine ⟨d, hle, hw, hn, fun b hb => ⟨(hw b hb).1.imp (hW b) id, (hw b hb).2⟩, fun rd w0 ρ w H a next Q hl hf hs hop K => ?_⟩
  have h1 := hop x (by simp [Op.operands, Call.operands])
  rw [hx] at h1
  generalize hc : a.eval x = q at h1
  cases h1 with
  | @yield _ L hL =>
  have hra : RelAll ρ (xs.map (ev env)) (xs.map a.eval) := by
    refine ⟨by simp, fun i => ?_⟩
    by_cases hi : i < xs.size
    · simp [Array.getD, hi]; exact hop _ (by simp [Op.operands, Call.operands])
    · simp [Array.getD, hi]; exact .unk _
  obtain ⟨l, f, tmps, assign, body, hy, hround⟩ := run rd w0 ρ w H _ L hl hf hs hra hL
  have hex : (execOp a.eval (⟨dst, .call { callee := .value x, args := xs, argTypes := ts }, ty, pos, after, gd⟩ : Oper)).run P w = .ok (.round l f tmps assign body) w := by
    simpa [execOp, resolve, hc, Deferred.ofValue, invoke] using hy
  refine ⟨fun f _ => FW.fn rd f, ?_⟩
  rw [show (FW rd).round = rd from rfl, semAt_run rd hex (fun d e => by cases e)]
  refine ⟨FW.depth rd, RoundIn.mono hround ?_⟩
  rintro e w' ⟨ρ', c, rfl, hg, hv, hs'⟩
  exact K ρ' c w' hg hv hs'

inductive VEv (P : Program) (W : Nat → Prop) : Value → Array Value → Nat → AH → Value → Nat → AH → Prop
  | func {f caps args n h r n' h'} (k : Ev P W f (args ++ caps) n h r n' h') : VEv P W (.func (.func f) #[] caps) args n h r n' h'
  | yield {b args n h r n' h'} (k : YEv P W b args n h r n' h') : VEv P W (.func (.yield b) #[] #[]) args n h r n' h'
theorem op_callV {x : Operand} {xs : Array Operand} {ts : Array TypeId} {fv r : Value} (hx : ev env x = fv) (hev : VEv P W fv (xs.map (ev env)) n g r n' h') (hW : ∀ b, W b → T b) :
    ∃ d, h'.le (g.app d) ∧ Within W n n' d ∧ OpEv P T ⟨dst, .call { callee := .value x, args := xs, argTypes := ts }, ty, pos, after, gd⟩ env n g r n' d := by
  cases hev with
  | func k => exact op_callv hx k hW
  | yield k => exact op_yield hx k hW

def jumpEnd : Option Code → Exit
  | some .ret => .ret
  | some (.exit id) => .exit id
  | some (.goto l) => .goto l
  | _ => .normal
def jumpOk (j : Option Code) : Prop := j = none ∨ j = some .ret ∨ (∃ id, j = some (.exit id)) ∨ ∃ l, j = some (.goto l)
theorem run_enterLoop_inner {w : World} {l : Nat} {r0 : Loop} (fn : FuncId) (tmps : Array Value) (ps : Array Tmp) (assign body : Code) (hl : w.heap[l]? = some (.loop r0)) :
    (Instr.enterLoop fn tmps ps assign body (some l)).run P w = .ok (w.heap.size, []) (w.alloc (.loop { state := .ready, pending := none, fn, tmps, params := ps, assign, body, defers := r0.defers })) := by
  unfold Instr.enterLoop
  simp only [Sem.run_bind, run_getLoop hl, run_newObj_alloc, Result.andThen, Sem.run_pure]

theorem Ex.rangeFunc {gx : Operand} {ps : Array Tmp} {assign body : Code} {f : FuncId} {caps : Array Value} {env0 : Env} {A : ALoop} {r : Value}
    (hg : ev env gx = .func (.func f) #[] caps) (h0 : env0.le env)
    (hev : Ev P W f (#[.func (.yield n) #[] #[]] ++ caps) (n + 1) (h.app (.obj n (.loop ⟨ps, assign, body, N, env0, .ready, none⟩))) r n' h') (hW : ∀ b, W b → T b ∨ b = n)
    (hA : h'.info n = some (AObj.loop A).m) (hb : A.state ≠ .busy) (hj : jumpOk A.pending) :
    Ex P T N (.rangeFunc gx ps assign body) env n h (jumpEnd A.pending) env n' (h'.app (.obj n (.loop A.over))) := by
  obtain ⟨⟨fn, hf1, hf2, hf3⟩, d, hle, hn, hw, run⟩ := hev
  refine ⟨(Dl.obj n (.loop ⟨ps, assign, body, N, env0, .ready, none⟩)).comp (d.comp (.obj n (.loop A.over))), ?_, by omega, ?_, fun rd w0 ρ w H tmps dfs hrd hl hfr hs he => ?_⟩
  · rw [AH.app_comp, AH.app_comp]; exact hle.app _
  · have w1 := Within.obj (W := T) (n := n) (n' := n + 1) (b := n) (o := .loop ⟨ps, assign, body, N, env0, .ready, none⟩) (.inr (Nat.le_refl _)) (by omega)
    have w2 : Within T n n' d := fun x hx => by
      obtain ⟨k1, k2⟩ := hw x hx
      refine ⟨?_, k2⟩
      rcases k1 with k | k
      · rcases hW x k with q | q
        · exact .inl q
        · exact .inr (by omega)
      · exact .inr (by omega)
    have w3 := Within.obj (W := T) (n := n) (n' := n') (b := n) (o := .loop A.over) (.inr (Nat.le_refl _)) (by omega)
    intro x hx
    rcases Dl.touches_comp hx with k | k
    · have := w1 x k; exact ⟨this.1, by omega⟩
    · rcases Dl.touches_comp k with k | k
      · exact w2 x k
      · exact w3 x k
  have hn0 : ρ n = none := hfr n (Nat.le_refl _) (by omega)
  refine wpIn_rangeFunc fun fid _ => ?_
  obtain ⟨ms, w1, df, hent, hs1⟩ : ∃ ms w1 df, (Instr.enterLoop fid tmps ps assign body rd).run P w = .ok (w1.heap.size, markOf ms) (w1.alloc (.loop { state := .ready, pending := none, fn := fid, tmps := tmps, params := ps, assign := assign, body := body, defers := df })) ∧
      Sim (w0.keep ms) ρ H w1 := by
    cases rd with
    | none => exact ⟨[w.heap.size], w.alloc (.deferred (some [])), w.heap.size, by rw [run_enterLoop_outer, World.size_alloc]; rfl, hs.mark⟩
    | some l =>
      obtain ⟨r0, hr0⟩ := hs.keep.rounds l (hrd l rfl)
      exact ⟨[], w, r0.defers, run_enterLoop_inner _ _ _ _ _ hr0, hs⟩
  have hle0 := Ren.le_set hn0 ⟨w1.heap.size, 0, 0, 0⟩
  have hs2 := hs1.newObj hn0 (o := .loop ⟨ps, assign, body, N, env0, .ready, none⟩) (c := .loop { state := .ready, pending := none, fn := fid, tmps := tmps, params := ps, assign := assign, body := body, defers := df })
    (.loop ⟨rfl, rfl, rfl, rfl, rfl, (he.anti h0).mono hle0⟩)
  have hgv := he.ev (a := ⟨tmps, dfs⟩) gx
  rw [hg] at hgv
  generalize hc : Act.eval ⟨tmps, dfs⟩ gx = q at hgv
  cases hgv with
  | @func _ _ ys hys hyr =>
  generalize hw2 : (w1.alloc (.loop { state := .ready, pending := none, fn := fid, tmps := tmps, params := ps, assign := assign, body := body, defers := df })) = w2 at hent hs2
  refine ⟨w1.heap.size, markOf ms, w2, ⟨.fn (.func f) ys, #[.func (.yield w1.heap.size) #[] #[]]⟩, w2, f, #[.func (.yield w1.heap.size) #[] #[]] ++ ys, w2, hent, ?_, fun _ _ => FW.fn rd _, ?_, FW.depth rd, ?_⟩
  · simp [resolve, rangeCall, hc, Deferred.ofValue]; rfl
  · simp only [invoke]; exact callFunc_run hf1 hf2 hf3 _ _
  have hra : RelAll (ρ.set n ⟨w1.heap.size, 0, 0, 0⟩) (#[.func (.yield n) #[] #[]] ++ caps) (#[.func (.yield w1.heap.size) #[] #[]] ++ ys) := by
    refine RelAll.append ⟨rfl, fun i => ?_⟩ ⟨hys, fun i => (hyr i).mono hle0⟩
    cases i with
    | zero => exact .yield (L := ⟨w1.heap.size, 0, 0, 0⟩) (Ren.set_self _ _ _)
    | succ i => simp [Array.getD]; exact .unk _
  have hfr2 : Fresh (n + 1) n' (ρ.set n ⟨w1.heap.size, 0, 0, 0⟩) := fun x h1 h2 => by
    rw [Ren.set_ne _ _ (by omega)]; exact hfr x (by omega) h2
  refine CallsIn.mono (run (w0.keep ms) _ _ _ _ (hl.app _) hfr2 hs2 hra) ?_
  rintro e w3 ⟨ρ', c, rfl, hg', hv, hs3⟩
  have hH3 : ((H.app (.obj n (.loop ⟨ps, assign, body, N, env0, .ready, none⟩))).app d).info n = some (AObj.loop A).m := le_info (hle.trans ((hl.app _).app d)) hA
  have hL3 := hg'.le _ _ (Ren.set_self ρ n ⟨w1.heap.size, 0, 0, 0⟩)
  obtain ⟨L3, c3, p1, p2, p3, p4, p5⟩ := hs3.obj n _ (.loop A) hH3 rfl
  rw [hL3] at p1; cases p1
  cases p5 with
  | @loop _ r3 hrel =>
  have hs4 : Sim (w0.keep ms) ρ' (((H.app (.obj n (.loop ⟨ps, assign, body, N, env0, .ready, none⟩))).app d).app (.obj n (.loop A.over))) (w3.putObj w1.heap.size (.loop { r3 with state := .exhausted })) :=
    hs3.putObj hH3 hL3 p4 (.loop hrel) (.loop ⟨hrel.params, hrel.assign, hrel.body, rfl, hrel.pending, hrel.env⟩) (fun r' _ => ⟨_, rfl⟩)
  have hend := run_endLoop (P := P) p4 (by rw [hrel.state]; exact hb)
  refine ⟨_, _, hend, ?_⟩
  have hpost : ExPost N w0 ρ n n' env (H.app ((Dl.obj n (.loop ⟨ps, assign, body, N, env0, .ready, none⟩)).comp (d.comp (.obj n (.loop A.over))))) dfs ⟨tmps, markOf ms ++ dfs⟩ (w3.putObj w1.heap.size (.loop { r3 with state := .exhausted })) :=
    ⟨ms, rfl, ρ', (Grow.one hn0 _).trans (by omega) (by omega) hg', he.mono (hle0.trans hg'.le), by rw [AH.app_comp, AH.app_comp]; exact hs4⟩
  rw [hrel.pending] at hpost ⊢
  rcases hj with hj | hj | ⟨id, hj⟩ | ⟨l, hj⟩
  · rw [hj] at hpost ⊢; exact ⟨rfl, hpost⟩
  · rw [hj] at hpost ⊢; exact wpIn_ret ⟨rfl, hpost⟩
  · rw [hj] at hpost ⊢; exact wpIn_exit ⟨rfl, hpost⟩
  · rw [hj] at hpost ⊢; exact wpIn_goto ⟨rfl, hpost⟩
end

structure VF (P : Program) (W : Nat → Prop) (fv : Value) (args : Array Value) (n : Nat) (h : AH) (Q : Value → Nat → AH → Prop) : Prop where
  out : ∃ r n' h', VEv P W fv args n h r n' h' ∧ Q r n' h'

section
variable {P : Program} {T W : Nat → Prop} {N : Nat} {env : Env} {n : Nat} {h : AH} {Q : Exit → Env → Nat → AH → Prop}
structure rangeC (n : Nat) (A : ALoop) (env : Env) (Q : Exit → Env → Nat → AH → Prop) (n' : Nat) (h' : AH) : Prop where
  out : ∃ j, jumpOk j ∧ h'.info n = some (AObj.loop (A.at j)).m ∧ Q (jumpEnd j) env n' (h'.app (.obj n (.loop (A.at j).over)))
theorem rangeC.normal {A : ALoop} {h' : AH} {n' : Nat} (hi : h'.info n = some (AObj.loop A).m) (k : Q .normal env n' (h'.app (.obj n (.loop A.over)))) : rangeC n A env Q n' h' := ⟨none, .inl rfl, hi, k⟩
theorem rangeC.ret {A : ALoop} {h' : AH} {n' : Nat} (hi : h'.info n = some (AObj.loop (A.at (some .ret))).m) (k : Q .ret env n' (h'.app (.obj n (.loop (A.at (some .ret)).over)))) : rangeC n A env Q n' h' := ⟨_, .inr (.inl rfl), hi, k⟩
theorem rangeC.exit {A : ALoop} {h' : AH} {n' id : Nat} (hi : h'.info n = some (AObj.loop (A.at (some (.exit id)))).m) (k : Q (.exit id) env n' (h'.app (.obj n (.loop (A.at (some (.exit id))).over)))) : rangeC n A env Q n' h' := ⟨_, .inr (.inr (.inl ⟨id, rfl⟩)), hi, k⟩
theorem RC.rangeFunc {gx : Operand} {ps : Array Tmp} {assign body : Code} {f : FuncId} {caps : List Value} {env0 : Env} (hg : Opd env gx (.func (.func f) #[] caps.toArray)) (h0 : Envs env env0) (hW : ∀ b, W b → T b ∨ b = n)
    (k : ∀ A : ALoop, A = ⟨ps, assign, body, N, env0, .ready, none⟩ → RF P W f (.func (.yield n) #[] #[] :: caps).toArray (n + 1) (h.app (.obj n (.loop A))) fun _ n' h' => rangeC n A env Q n' h') : RC P T N (.rangeFunc gx ps assign body) env n h Q := by
  obtain ⟨r, n', h', hev, ⟨j, hj, hA, hq⟩⟩ := k _ rfl
  have e : (.func (.yield n) #[] #[] :: caps).toArray = #[.func (.yield n) #[] #[]] ++ caps.toArray := by simp
  rw [e] at hev
  have := Ex.rangeFunc hg.ev h0.le hev hW hA (by cases j <;> simp [ALoop.at]) (by cases j <;> simpa [ALoop.at] using hj)
  have e2 : (ALoop.at ⟨ps, assign, body, N, env0, .ready, none⟩ j).pending = j := by cases j <;> rfl
  rw [e2] at this
  exact ⟨_, _, _, _, this, hq⟩
structure roundC (b : Nat) (A : ALoop) (Q : Value → Nat → AH → Prop) (e : Exit) (n' : Nat) (h' : AH) : Prop where
  out : h'.info b = some (AObj.loop A.busy).m ∧ ∃ j, jumpOf e = some j ∧ Q (.bool j.isNone) n' (h'.app (.obj b (.loop (A.at j))))
theorem roundC.normal {b : Nat} {A : ALoop} {Q : Value → Nat → AH → Prop} {h' : AH} {n' : Nat} (hi : h'.info b = some (AObj.loop A.busy).m) (k : Q (.bool true) n' (h'.app (.obj b (.loop A)))) : roundC b A Q .normal n' h' := ⟨hi, none, rfl, k⟩
theorem roundC.ret {b : Nat} {A : ALoop} {Q : Value → Nat → AH → Prop} {h' : AH} {n' : Nat} (hi : h'.info b = some (AObj.loop A.busy).m) (k : Q (.bool false) n' (h'.app (.obj b (.loop (A.at (some .ret)))))) : roundC b A Q .ret n' h' := ⟨hi, _, rfl, k⟩
theorem roundC.exit {b id : Nat} {A : ALoop} {Q : Value → Nat → AH → Prop} {h' : AH} {n' : Nat} (hi : h'.info b = some (AObj.loop A.busy).m) (k : Q (.bool false) n' (h'.app (.obj b (.loop (A.at (some (.exit id))))))) : roundC b A Q (.exit id) n' h' := ⟨hi, _, rfl, k⟩
structure roundE (b : Nat) (A : ALoop) (Q : Value → Nat → AH → Prop) (e : Exit) (env : Env) (n' : Nat) (h' : AH) : Prop where
  out : roundC b A Q e n' h'
theorem roundE.mk' {b : Nat} {A : ALoop} {Q : Value → Nat → AH → Prop} {e : Exit} {h' : AH} {n' : Nat} (k : roundC b A Q e n' h') : roundE b A Q e env n' h' := ⟨k⟩
structure assignC (P : Program) (W : Nat → Prop) (b : Nat) (A : ALoop) (N : Nat) (body : Code) (Q : Value → Nat → AH → Prop) (e : Exit) (env : Env) (n : Nat) (h : AH) : Prop where
  out : e = .normal ∧ h.info b = some (AObj.loop A).m ∧ RC P W N body env n (h.app (.obj b (.loop A.busy))) (roundE b A Q)
theorem assignC.normal {b N : Nat} {A : ALoop} {body : Code} {Q : Value → Nat → AH → Prop} (hi : h.info b = some (AObj.loop A).m) (k : RC P W N body env n (h.app (.obj b (.loop A.busy))) (roundE b A Q)) : assignC P W b A N body Q .normal env n h := ⟨rfl, hi, k⟩
theorem VF.yield {b : Nat} {A : ALoop} {args : Array Value} {Q : Value → Nat → AH → Prop} (hA : h.info b = some (AObj.loop A).m) (hst : A.state = .ready) (hp : A.pending = none) (hsz : args.size = A.params.size) (hps : ∀ p ∈ A.params.toList, p < A.N) (hW : W b) (hbn : b < n)
    (k : RC P (fun x => W x ∨ n ≤ x) A.N A.assign (A.env.puts (A.params.toList.zip args.toList)) n h (assignC P (fun x => W x ∨ n ≤ x) b A A.N A.body Q)) : VF P W (.func (.yield b) #[] #[]) args n h Q := by
  obtain ⟨e, env1, n1, h1, hx, ⟨rfl, hA1, e2, env2, n2, h2, hy, ⟨hA2, j, hj, hq⟩⟩⟩ := k
  exact ⟨_, _, _, .yield (YEv.of hA hst hp hsz hps hW hbn hx hA1 hy hA2 hj), hq⟩
theorem VF.yield1 {b p N : Nat} {A : ALoop} {assign body : Code} {env0 : Env} {v : Value} {Q : Value → Nat → AH → Prop} (hA : A = ⟨#[p], assign, body, N, env0, .ready, none⟩) (hi : h.info b = some (AObj.loop A).m) (hp : Nat.blt p N = true) (hW : W b) (hbn : b < n)
    (k : RC P (fun x => W x ∨ n ≤ x) N assign ((p, v) :: env0) n h (assignC P (fun x => W x ∨ n ≤ x) b A N body Q)) : VF P W (.func (.yield b) #[] #[]) #[v] n h Q := by
  subst hA
  exact VF.yield hi rfl rfl rfl (fun q hq => by simp at hq; subst hq; simpa using hp) hW hbn k
theorem VF.func {f : FuncId} {caps args : Array Value} {Q : Value → Nat → AH → Prop} (k : RF P W f (args ++ caps) n h Q) : VF P W (.func (.func f) #[] caps) args n h Q := by
  obtain ⟨r, n', h', hev, hq⟩ := k
  exact ⟨r, n', h', .func hev, hq⟩
end
end Go.Abs

/- Iterators: what is asked of the function that is handed in, and what is told of the one that calls it; memory that stays but for some blocks. -/

namespace Go.Abs
open Go.RowKit

structure ExtW (W : Nat → Prop) (n : Nat) (h h1 : AH) : Prop where
  info : ∀ b, b < n → ¬ W b → h1.info b = h.info b
  cell : ∀ b i, b < n → ¬ W b → h1.cell b i = h.cell b i
section
variable {W W' : Nat → Prop} {n n1 : Nat} {h h1 h2 : AH}
theorem ExtW.refl (W : Nat → Prop) (n : Nat) (h : AH) : ExtW W n h h := ⟨fun _ _ _ => rfl, fun _ _ _ _ => rfl⟩
theorem ExtW.of (e : Ext n1 h h1) (hn : n ≤ n1) : ExtW W n h h1 := ⟨fun b hb _ => e.info b (by omega), fun b i hb _ => e.cell b i (by omega)⟩
theorem ExtW.ext (e : ExtW W n h h1) (hW : ∀ b, b < n → ¬ W b) : Ext n h h1 := ⟨fun b hb => e.info b hb (hW b hb), fun b i hb => e.cell b i hb (hW b hb)⟩
theorem ExtW.extM {m : Nat} (e : ExtW W n h h1) (hm : m ≤ n) (hW : ∀ b, W b → m ≤ b) : Ext m h h1 :=
  ⟨fun b hb => e.info b (by omega) (fun k => by have := hW b k; omega), fun b i hb => e.cell b i (by omega) (fun k => by have := hW b k; omega)⟩
theorem ExtW.trans (a : ExtW W n h h1) (b : ExtW W' n1 h1 h2) (hn : n ≤ n1) (hW : ∀ x, x < n → W' x → W x) : ExtW W n h h2 :=
  ⟨fun x hx hw => (b.info x (by omega) (fun k => hw (hW x hx k))).trans (a.info x hx hw), fun x i hx hw => (b.cell x i (by omega) (fun k => hw (hW x hx k))).trans (a.cell x i hx hw)⟩
theorem ExtW.then (a : ExtW W n h h1) (b : Ext n1 h1 h2) (hn : n ≤ n1) : ExtW W n h h2 :=
  ⟨fun x hx hw => (b.info x (by omega)).trans (a.info x hx hw), fun x i hx hw => (b.cell x i (by omega)).trans (a.cell x i hx hw)⟩
theorem ExtW.mono (a : ExtW W n1 h h1) (hn : n ≤ n1) (hW : ∀ x, x < n → W x → W' x) : ExtW W' n h h1 :=
  ⟨fun x hx hw => a.info x (by omega) (fun k => hw (hW x hx k)), fun x i hx hw => a.cell x i (by omega) (fun k => hw (hW x hx k))⟩
theorem ExtW.via (b : ExtW W' n1 h1 h2) (hn : n ≤ n1) (hW : ∀ x, x < n → W' x → W x) (a : ExtW W n h h1) : ExtW W n h h2 := a.trans b hn hW
theorem ExtW.viaE (b : Ext n1 h1 h2) (hn : n ≤ n1) (a : ExtW W n h h1) : ExtW W n h h2 := a.then b hn
theorem ExtW.appNew {b : Nat} {m : Meta} {cs : List Value} (hb : n ≤ b) (e : ExtW W n h h1) : ExtW W n h (h1.app (.new b m cs)) := e.then (Ext.appNew (Nat.le_refl _) (Ext.refl b h1)) hb
theorem ExtW.appSets {b o : Nat} {vs : List Value} (hb : W b ∨ n ≤ b) (e : ExtW W n h h1) : ExtW W n h (h1.app (.sets b o vs)) :=
  ⟨fun x hx hw => (sets_info _ _ _ _ _).trans (e.info x hx hw), fun x i hx hw => by
    have hne : x ≠ b := fun q => by subst q; rcases hb with k | k <;> first | exact hw k | omega
    rw [← e.cell x i hx hw]; simp [AH.app, Dl.sets, hne]⟩
theorem ExtW.appObj {b : Nat} {o : AObj} (hb : W b ∨ n ≤ b) (e : ExtW W n h h1) : ExtW W n h (h1.app (.obj b o)) :=
  ⟨fun x hx hw => by
    have hne : x ≠ b := fun q => by subst q; rcases hb with k | k <;> first | exact hw k | omega
    rw [← e.info x hx hw, obj_info, if_neg hne], fun x i hx hw => by rw [← e.cell x i hx hw, obj_cell]⟩
theorem ExtW.appTake {b c sz lk ez : Nat} {keep : Bool} {cs : List Value} (hb : W b ∨ n ≤ b) (hc : n ≤ c) (e : ExtW W n h h1) : ExtW W n h (h1.app (.takeover b c keep sz lk ez cs)) :=
  ⟨fun x hx hw => by
    have hne : x ≠ b := fun q => by subst q; rcases hb with k | k <;> first | exact hw k | omega
    have hnc : x ≠ c := by omega
    rw [← e.info x hx hw]; simp [AH.app, Dl.takeover, hne, hnc], fun x i hx hw => by
    have hne : x ≠ b := fun q => by subst q; rcases hb with k | k <;> first | exact hw k | omega
    have hnc : x ≠ c := by omega
    rw [← e.cell x i hx hw]; simp [AH.app, Dl.takeover, hne, hnc]⟩
theorem ExtW.below {m : Nat} (hb : n ≤ m) (e : ExtW W n h h1) : ExtW W n h (h1.below m) := e.then (Ext.below (Nat.le_refl _) (Ext.refl _ _)) hb
theorem Ext.appObj {b : Nat} {o : AObj} (hb : n ≤ b) (e : Ext n h h1) : Ext n h (h1.app (.obj b o)) :=
  ⟨fun x hx => by rw [← e.info x hx, obj_info, if_neg (by omega)], fun x i hx => by rw [← e.cell x i hx, obj_cell]⟩
theorem Ext.viaW (b : ExtW W n1 h1 h2) (hn : n ≤ n1) (hW : ∀ x, W x → n ≤ x) (a : Ext n h h1) : Ext n h h2 := a.then (b.extM hn hW)
theorem c_obj {b x i : Nat} {o : AObj} {v : Value} (k : h.cell x i = v) : (h.app (.obj b o)).cell x i = v := by rw [obj_cell]; exact k
theorem i_obj {b : Nat} {o : AObj} : (h.app (.obj b o)).info b = some o.m := by rw [obj_info, if_pos rfl]
theorem i_obj_ne {b x : Nat} {o : AObj} {q : Option Meta} (hb : x ≠ b) (k : h.info x = q) : (h.app (.obj b o)).info x = q := by rw [obj_info, if_neg hb]; exact k
theorem c_extW {x i : Nat} {v : Value} (e : ExtW W n h h1) (hx : x < n) (hw : ¬ W x) (k : h.cell x i = v) : h1.cell x i = v := (e.cell x i hx hw).trans k
theorem i_extW {x : Nat} {v : Option Meta} (e : ExtW W n h h1) (hx : x < n) (hw : ¬ W x) (k : h.info x = v) : h1.info x = v := (e.info x hx hw).trans k
end

theorem SlR.ltA {h : AH} {n z m : Nat} {a : Option Addr} {f : Nat → Value} (s : SlR h n a z m f) (ha : a ≠ none) : sb a < n := by
  rcases s.shape with k | k
  · exact absurd k.1 ha
  · exact k.2.1
theorem SlR.extW {W : Nat → Prop} {h h' : AH} {n n' z m : Nat} {a : Option Addr} {f : Nat → Value} (s : SlR h n a z m f) (e : ExtW W n h h') (hn : n ≤ n') (hW : a ≠ none → ¬ W (sb a)) : SlR h' n' a z m f where
  shape := by
    rcases s.shape with k | ⟨k1, k2, mm, k3, k4⟩
    · exact .inl k
    · exact .inr ⟨k1, by omega, mm, by rw [e.info _ k2 (hW (by rw [k1]; simp))]; exact k3, k4⟩
  cell := fun j hj => by
    have hm : 0 < m := Nat.pos_of_ne_zero fun h0 => by subst h0; simp at hj
    rcases s.shape with k | k
    · omega
    · rw [e.cell _ _ (s.lt hm) (hW (by rw [k.1]; simp))]; exact s.cell j hj
section
variable {P : Program} {T W : Nat → Prop} {ops : Array Oper} {os : List Oper} {env : Env} {n n1 : Nat} {h h1 g : AH} {Q : Env → Nat → AH → Prop} {ps : List Ft}
variable {dst : Option Tmp} {ty : TypeId} {pos : String} {after : Array Edge} {gd : Option (Nat × Bool)}
theorem RS.callV {d : Tmp} {x : Operand} {fv : Value} {xs : List Operand} {vs : List Value} {ts : Array TypeId} {QC : Value → Nat → AH → Prop} (hw : wants ops ⟨some d, .call { callee := .value x, args := xs.toArray, argTypes := ts }, ty, pos, after, gd⟩ env = some true)
    (hf : Opd env x fv) (hx : Opds env xs vs) (hev : VF P W fv vs.toArray n h QC) (hW : ∀ b, W b → T b) (k : ∀ r n1 h1, n ≤ n1 → QC r n1 h1 → RS P T ops os ((d, r) :: env) n1 h1 Q) :
    RS P T ops (⟨some d, .call { callee := .value x, args := xs.toArray, argTypes := ts }, ty, pos, after, gd⟩ :: os) env n h Q := by
  obtain ⟨r, n1, h1, hev, hq⟩ := hev
  rw [← hx.mapA] at hev
  obtain ⟨dl, hle, _, ho⟩ := op_callV (T := T) (ty := ty) (dst := some d) (pos := pos) (after := after) (gd := gd) (ts := ts) hf.ev hev hW
  exact RS.op hw ho hle (k r n1 h1 ho.le hq)
theorem CF.clW {W : Nat → Prop} {k nb j : Nat} {y : Ft} {ys : List Ft} (h : ∀ b, b < nb → ¬ (y.W b ∨ (y.n ≤ b ∧ b < y.n'))) (h2 : ∀ b, y.R b → ¬ W b) (hW : ∀ b, W b → b < nb) (t : CF ops k (· < nb) W j ys) : CF ops k (· < nb) W (j + 1) (y :: ys) :=
  .free (fun b e => h b e) h2 (fun b e => h b (hW b e)) t
theorem RD.callV {d : Tmp} {x : Operand} {fv : Value} {xs : List Operand} {vs : List Value} {ts : Array TypeId} {QC : Value → Nat → AH → Prop} (nb : Nat) (hw : wants ops ⟨some d, .call { callee := .value x, args := xs.toArray, argTypes := ts }, ty, pos, after, gd⟩ env = some true)
    (hf : Opd env x fv) (hx : Opds env xs vs) (hev : VF P W fv vs.toArray n (h.below nb) QC) (hW : ∀ b, W b → T b) (hnb : nb ≤ n) (hc : CF ops ps.length (· < nb) W ps.length ps)
    (k : ∀ r n1 h1, n ≤ n1 → QC r n1 h1 → RD P T ops (⟨(· < nb), W, n, n1⟩ :: ps) os ((d, r) :: env) n1 h1 Q) :
    RD P T ops ps (⟨some d, .call { callee := .value x, args := xs.toArray, argTypes := ts }, ty, pos, after, gd⟩ :: os) env n h Q := by
  obtain ⟨r, n1, h1, hev, hq⟩ := hev
  rw [← hx.mapA] at hev
  obtain ⟨dl, hle, hwi, ho⟩ := op_callV (T := T) (ty := ty) (dst := some d) (pos := pos) (after := after) (gd := gd) (ts := ts) hf.ev hev hW
  exact RD.op (· < nb) W hw ho (AH.below_le _ _) (fun _ hx => AH.below_looks hx) (fun _ e => Nat.lt_of_lt_of_le e hnb) (fun b hb => (hwi b hb).1) hc (hle.trans ((AH.below_le h nb).app dl)) (k r n1 h1 ho.le hq)
theorem RD.callW {d : Tmp} {f : FuncId} {xs : List Operand} {vs : List Value} {ts : Array TypeId} {QC : Value → Nat → AH → Prop} (nb : Nat) (hw : wants ops ⟨some d, .call { callee := .value (.func f), args := xs.toArray, argTypes := ts }, ty, pos, after, gd⟩ env = some true)
    (hx : Opds env xs vs) (hev : RF P W f vs.toArray n (h.below nb) QC) (hW : ∀ b, W b → T b) (hnb : nb ≤ n) (hc : CF ops ps.length (· < nb) W ps.length ps)
    (k : ∀ r n1 h1, n ≤ n1 → QC r n1 h1 → RD P T ops (⟨(· < nb), W, n, n1⟩ :: ps) os ((d, r) :: env) n1 h1 Q) :
    RD P T ops ps (⟨some d, .call { callee := .value (.func f), args := xs.toArray, argTypes := ts }, ty, pos, after, gd⟩ :: os) env n h Q := by
  obtain ⟨r, n1, h1, hev, hq⟩ := hev
  rw [← hx.mapA] at hev
  obtain ⟨dl, hle, hwi, ho⟩ := op_call (T := T) (ty := ty) (dst := some d) (pos := pos) (after := after) (gd := gd) (ts := ts) hev hW
  exact RD.op (· < nb) W hw ho (AH.below_le _ _) (fun _ hx => AH.below_looks hx) (fun _ e => Nat.lt_of_lt_of_le e hnb) (fun b hb => (hwi b hb).1) hc (hle.trans ((AH.below_le h nb).app dl)) (k r n1 h1 ho.le hq)
end

structure Iter (P : Program) (W : Nat → Prop) (fv : Value) (vals : List (List Value)) (I : Nat → Nat → AH → Prop) (D : Nat → AH → Prop) : Prop where
  mono : ∀ i n h n' h', I i n h → n ≤ n' → Ext n h h' → I i n' h'
  step : ∀ (i : Nat) (vs : List Value) n h, vals[i]? = some vs → I i n h → VF P W fv vs.toArray n h fun r n' h' => (r = .bool true ∧ I (i + 1) n' h') ∨ (r = .bool false ∧ D n' h')
def IterF (P : Program) (f : FuncId) (caps : List Value) (vals : List (List Value)) (K : Nat → AH → Prop) : Prop :=
  ∀ (W : Nat → Prop) (fv : Value) (I : Nat → Nat → AH → Prop) (D : Nat → AH → Prop) (n : Nat) (h : AH), Iter P W fv vals I D → (∀ i n h, I i n h → K n h) → I 0 n h → 0 < n →
    RF P W f (fv :: caps).toArray n h fun _ n' h' => I vals.length n' h' ∨ D n' h'
end Go.Abs
