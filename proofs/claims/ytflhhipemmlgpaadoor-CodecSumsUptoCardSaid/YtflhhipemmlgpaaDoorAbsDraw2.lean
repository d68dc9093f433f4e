/- A region that draws its order: told in the text's order; whatever order is drawn, it comes to the same. -/
import Derived.Test.YtflhhipemmlgpaaDoorAbsExact
import Derived.OrdersIn
set_option linter.unusedSimpArgs false
set_option linter.unusedVariables false
namespace Go.Abs
open Go.RowKit

structure Ent where
  o : Oper
  n : Nat
  n' : Nat
  v : Value
  d : Dl

def envS (S : Nat → Bool) : Nat → List Ent → Env → Env
  | _, [], e => e
  | i, x :: xs, e => envS S (i + 1) xs (if S i then e.put x.o.dst x.v else e)
def heapS (S : Nat → Bool) : Nat → List Ent → AH → AH
  | _, [], h => h
  | i, x :: xs, h => heapS S (i + 1) xs (if S i then h.app x.d else h)

theorem Env.get_put (e : Env) (d : Option Tmp) (v : Value) (t : Nat) : (e.put d v).get t = if d = some t then v else e.get t := by
  cases d with
  | none => simp [Env.put]
  | some k =>
    simp only [Env.put, Env.get, Option.some.injEq]
    by_cases h : k = t
    · subst h; simp
    · rw [if_neg (by simpa using h), if_neg h]

theorem envS_congr {S S' : Nat → Bool} {t : Nat} : ∀ (xs : List Ent) (i : Nat) (e e' : Env), e.get t = e'.get t →
    (∀ j x, xs[j]? = some x → x.o.dst = some t → S (i + j) = S' (i + j)) → (envS S i xs e).get t = (envS S' i xs e').get t
  | [], _, _, _, h, _ => h
  | x :: xs, i, e, e', h, hh => by
    refine envS_congr xs (i + 1) _ _ ?_ fun j y hy hd => by have := hh (j + 1) y (by simpa using hy) hd; rwa [show i + (j + 1) = i + 1 + j by omega] at this
    by_cases hd : x.o.dst = some t
    · have := hh 0 x rfl hd
      simp only [Nat.add_zero] at this
      rw [← this]
      cases S i
      · exact h
      · simp [Env.get_put, hd]
    · have key : ∀ (b : Bool) (q : Env), (if b then q.put x.o.dst x.v else q).get t = q.get t := by
        intro b q; cases b
        · rfl
        · simp [Env.get_put, hd]
      rw [key, key]; exact h

theorem heapS_congr {S S' : Nat → Bool} {b : Nat} : ∀ (xs : List Ent) (i : Nat) (h h' : AH), (h.info b = h'.info b ∧ ∀ k, h.cell b k = h'.cell b k) →
    (∀ j x, xs[j]? = some x → x.d.touches b → S (i + j) = S' (i + j)) → (heapS S i xs h).info b = (heapS S' i xs h').info b ∧ ∀ k, (heapS S i xs h).cell b k = (heapS S' i xs h').cell b k
  | [], _, _, _, h, _ => h
  | x :: xs, i, h, h', hq, hh => by
    refine heapS_congr xs (i + 1) _ _ ?_ fun j y hy hd => by have := hh (j + 1) y (by simpa using hy) hd; rwa [show i + (j + 1) = i + 1 + j by omega] at this
    by_cases hd : x.d.touches b
    · have := hh 0 x rfl hd
      simp only [Nat.add_zero] at this
      rw [← this]
      cases S i
      · exact hq
      · simp only [if_true, AH.app]
        exact ⟨by rw [hq.1], fun k => by rw [hq.2 k]⟩
    · have hi : x.d.info b = none := Classical.byContradiction fun h => hd (.inl h)
      have hc : ∀ k, x.d.cell b k = none := fun k => Classical.byContradiction fun h => hd (.inr ⟨k, h⟩)
      have key : ∀ (c : Bool) (q : AH), (if c then q.app x.d else q).info b = q.info b ∧ ∀ k, (if c then q.app x.d else q).cell b k = q.cell b k := by
        intro c q; cases c
        · exact ⟨rfl, fun _ => rfl⟩
        · simp [AH.app, hi, hc]
      exact ⟨by rw [(key _ _).1, (key _ _).1]; exact hq.1, fun k => by rw [(key _ _).2, (key _ _).2]; exact hq.2 k⟩

theorem AH.app_comm (h : AH) {d e : Dl} (hd : ∀ b, ¬ (d.touches b ∧ e.touches b)) : (h.app d).app e = (h.app e).app d := by
  simp only [AH.app, AH.mk.injEq]
  constructor
  · funext b
    cases h1 : d.info b with
    | none => rfl
    | some x =>
      cases h2 : e.info b with
      | none => rfl
      | some y => exact absurd ⟨.inl (by rw [h1]; simp), .inl (by rw [h2]; simp)⟩ (hd b)
  · funext b k
    cases h1 : d.cell b k with
    | none => rfl
    | some x =>
      cases h2 : e.cell b k with
      | none => rfl
      | some y => exact absurd ⟨.inr ⟨k, by rw [h1]; simp⟩, .inr ⟨k, by rw [h2]; simp⟩⟩ (hd b)

theorem heapS_later {S : Nat → Bool} {d : Dl} : ∀ (xs : List Ent) (i : Nat) (h : AH), (∀ j x, xs[j]? = some x → S (i + j) = true → ∀ b, ¬ (d.touches b ∧ x.d.touches b)) →
    heapS S i xs (h.app d) = (heapS S i xs h).app d
  | [], _, _, _ => rfl
  | x :: xs, i, h, hh => by
    simp only [heapS]
    rw [← heapS_later xs (i + 1) _ fun j y hy hs => hh (j + 1) y (by simpa using hy) (by rwa [show i + (j + 1) = i + 1 + j by omega])]
    congr 1
    cases hs : S i with
    | false => rfl
    | true => exact AH.app_comm h (hh 0 x rfl (by simpa using hs))

theorem heapS_insert {S S' : Nat → Bool} {i0 : Nat} : ∀ (xs : List Ent) (i : Nat) (h : AH) (x0 : Ent), i ≤ i0 → xs[i0 - i]? = some x0 → S i0 = false → S' i0 = true → (∀ j, j ≠ i0 → S' j = S j) →
    (∀ j x, xs[j]? = some x → i0 < i + j → S (i + j) = true → ∀ b, ¬ (x0.d.touches b ∧ x.d.touches b)) → heapS S' i xs h = (heapS S i xs h).app x0.d
  | [], i, h, x0, _, hx, _, _, _, _ => by simp at hx
  | x :: xs, i, h, x0, hle, hx, h1, h2, h3, h4 => by
    simp only [heapS]
    by_cases e : i = i0
    · subst e
      simp only [Nat.sub_self, List.getElem?_cons_zero, Option.some.injEq] at hx
      subst hx
      rw [h1, h2]
      simp only [if_true, Bool.false_eq_true, if_false]
      rw [← heapS_later xs (i + 1) h fun j y hy hs => h4 (j + 1) y (by simpa using hy) (by omega) (by rwa [show i + (j + 1) = i + 1 + j by omega])]
      -- the rest is taken alike
      have : ∀ (ys : List Ent) (k : Nat) (q : AH), i < k → heapS S' k ys q = heapS S k ys q := by
        intro ys
        induction ys with
        | nil => intros; rfl
        | cons y ys ih => intro k q hk; simp only [heapS]; rw [h3 k (by omega), ih (k + 1) _ (by omega)]
      exact this xs (i + 1) _ (by omega)
    · rw [h3 i e]
      exact heapS_insert xs (i + 1) _ x0 (by omega) (by rw [show i0 - i = (i0 - (i + 1)) + 1 by omega] at hx; simpa using hx) h1 h2 h3
        fun j y hy hl hs => h4 (j + 1) y (by simpa using hy) (by omega) (by rwa [show i + (j + 1) = i + 1 + j by omega])

theorem envS_insert {S S' : Nat → Bool} {i0 t : Nat} : ∀ (xs : List Ent) (i : Nat) (e : Env) (x0 : Ent), i ≤ i0 → xs[i0 - i]? = some x0 → S i0 = false → S' i0 = true → (∀ j, j ≠ i0 → S' j = S j) →
    (∀ j x, xs[j]? = some x → i0 < i + j → S (i + j) = true → x0.o.dst = some t → x.o.dst ≠ some t) → (envS S' i xs e).get t = ((envS S i xs e).put x0.o.dst x0.v).get t
  | [], i, h, x0, _, hx, _, _, _, _ => by simp at hx
  | x :: xs, i, e, x0, hle, hx, h1, h2, h3, h4 => by
    simp only [envS]
    by_cases ei : i = i0
    · subst ei
      simp only [Nat.sub_self, List.getElem?_cons_zero, Option.some.injEq] at hx
      subst hx
      rw [h1, h2]
      simp only [if_true, Bool.false_eq_true, if_false]
      have same : ∀ (ys : List Ent) (k : Nat) (q : Env), i < k → envS S' k ys q = envS S k ys q := by
        intro ys
        induction ys with
        | nil => intros; rfl
        | cons y ys ih => intro k q hk; simp only [envS]; rw [h3 k (by omega), ih (k + 1) _ (by omega)]
      rw [same xs (i + 1) _ (by omega), Env.get_put]
      by_cases hd : x.o.dst = some t
      · rw [if_pos hd]
        have later : ∀ (ys : List Ent) (k : Nat) (q : Env), (∀ j y, ys[j]? = some y → S (k + j) = true → y.o.dst ≠ some t) → (envS S k ys q).get t = q.get t := by
          intro ys
          induction ys with
          | nil => intros; rfl
          | cons y ys ih =>
            intro k q hq
            simp only [envS]
            rw [ih (k + 1) _ fun j z hz hs => hq (j + 1) z (by simpa using hz) (by rwa [show k + (j + 1) = k + 1 + j by omega])]
            cases hs : S k with
            | false => rfl
            | true =>
              have := hq 0 y rfl (by simpa using hs)
              simp [Env.get_put, this]
        rw [later xs (i + 1) _ fun j y hy hs => h4 (j + 1) y (by simpa using hy) (by omega) (by rwa [show i + (j + 1) = i + 1 + j by omega]) hd]
        simp [Env.get_put, hd]
      · rw [if_neg hd]
        exact envS_congr xs (i + 1) _ _ (by simp [Env.get_put, hd]) fun _ _ _ _ => rfl
    · rw [h3 i ei]
      exact envS_insert xs (i + 1) _ x0 (by omega) (by rw [show i0 - i = (i0 - (i + 1)) + 1 by omega] at hx; simpa using hx) h1 h2 h3
        fun j y hy hl hs => h4 (j + 1) y (by simpa using hy) (by omega) (by rwa [show i + (j + 1) = i + 1 + j by omega])

/-- What an operation waits for. -/
def waitsFor (o : Oper) : List Nat := (o.after.toList.filter (Region.binds .any)).map (·.on)
def maskOf (acc : List Nat) (o : Oper) : Nat := (waitsFor o).foldl (fun s j => s ||| 2 ^ j ||| acc.getD j 0) 0
def masksOf : List Oper → List Nat → List Nat
  | [], acc => acc
  | o :: os, acc => masksOf os (acc ++ [maskOf acc o])

theorem maskOf_bit {acc : List Nat} {o : Oper} {j : Nat} (h : (maskOf acc o).testBit j = true) : ∃ k, k ∈ waitsFor o ∧ (j = k ∨ (acc.getD k 0).testBit j = true) := by
  unfold maskOf at h
  have key : ∀ (l : List Nat) (s : Nat), (l.foldl (fun s j => s ||| 2 ^ j ||| acc.getD j 0) s).testBit j = true → s.testBit j = true ∨ ∃ k, k ∈ l ∧ (j = k ∨ (acc.getD k 0).testBit j = true) := by
    intro l
    induction l with
    | nil => intro s h; exact .inl h
    | cons a l ih =>
      intro s h
      rcases ih _ h with h1 | ⟨k, h1, h2⟩
      · simp only [Nat.testBit_or, Bool.or_eq_true] at h1
        rcases h1 with (h1 | h1) | h1
        · exact .inl h1
        · refine .inr ⟨a, by simp, .inl ?_⟩
          by_cases e : j = a
          · exact e
          · rw [Nat.testBit_two_pow] at h1; simp at h1; exact h1.symm
        · exact .inr ⟨a, by simp, .inr h1⟩
      · exact .inr ⟨k, by simp [h1], h2⟩
  rcases key _ 0 h with h1 | h1
  · simp at h1
  · exact h1

/-- A set of operations that holds what its members wait for. -/
def Closed (ops : List Oper) (S : Nat → Bool) : Prop := ∀ i o, ops[i]? = some o → S i = true → ∀ j, j ∈ waitsFor o → S j = true

theorem masksOf_spec (all : List Oper) : ∀ (os : List Oper) (acc : List Nat), (∀ i, all[acc.length + i]? = os[i]?) →
    (∀ i o S, i < acc.length → all[i]? = some o → Closed all S → (∀ j, j ∈ waitsFor o → S j = true) → ∀ j, (acc.getD i 0).testBit j = true → S j = true) →
    ∀ i o S, i < acc.length + os.length → all[i]? = some o → Closed all S → (∀ j, j ∈ waitsFor o → S j = true) → ∀ j, ((masksOf os acc).getD i 0).testBit j = true → S j = true
  | [], acc, _, h, i, o, S, hi => by simpa [masksOf] using h i o S (by simpa using hi)
  | q :: os, acc, hall, h, i, o, S, hi => by
    simp only [masksOf]
    refine masksOf_spec all os (acc ++ [maskOf acc q]) (fun i => ?_) ?_ i o S (by simp at hi ⊢; omega)
    · have := hall (i + 1)
      simp only [List.getElem?_cons_succ] at this
      rw [← this]; congr 1; simp; omega
    · intro i o S hi ho hS hw j hj
      simp only [List.length_append, List.length_cons, List.length_nil, Nat.zero_add] at hi
      by_cases hlt : i < acc.length
      · refine h i o S hlt ho hS hw j ?_
        simpa [List.getD, List.getElem?_append_left hlt] using hj
      · have e : i = acc.length := by omega
        subst e
        have : (acc ++ [maskOf acc q]).getD acc.length 0 = maskOf acc q := by simp [List.getD]
        rw [this] at hj
        have hq : all[acc.length]? = some q := by simpa using hall 0
        rw [hq] at ho; cases ho
        obtain ⟨k, k1, k2⟩ := maskOf_bit hj
        have hk := hw k k1
        rcases k2 with rfl | k2
        · exact hk
        · by_cases hkl : k < acc.length
          · cases hok : all[k]? with
            | none =>
              have := hall 0
              have h5 : all.length ≤ k := by simpa using hok
              have h6 : acc.length < all.length := by
                have := (List.getElem?_eq_some_iff.1 hq).1; exact this
              omega
            | some ok => exact h k ok S hkl hok hS (fun j hj => hS k ok hok hk j hj) j k2
          · have : acc.getD k 0 = 0 := by simp [List.getD, List.getElem?_eq_none (Nat.le_of_not_lt hkl)]
            rw [this] at k2; simp at k2

/-- The carrying out in the text's order, with what each operation looks at (R) and turns (W). -/
structure Step where
  e : Ent
  env : Env
  g : AH
  R : Nat → Prop
  W : Nat → Prop
  yes : Bool

structure StepOk (P : Program) (T : Nat → Prop) (ops : Array Oper) (x : Step) : Prop where
  le : x.e.n ≤ x.e.n'
  want : wants ops x.e.o x.env = some x.yes
  run : x.yes = true → OpEv P T x.e.o x.env x.e.n x.g x.e.v x.e.n' x.e.d
  skip : x.yes = false → x.e.v = skipV ∧ x.e.d = .nil ∧ x.e.n' = x.e.n
  look : ∀ b, (x.g.info b ≠ none ∨ ∃ k, x.g.cell b k ≠ .tuple #[]) → x.R b
  turn : ∀ b, x.e.d.touches b → (x.W b ∨ x.e.n ≤ b) ∧ b < x.e.n'
  old : ∀ b, x.R b → b < x.e.n
  within : Within T x.e.n x.e.n' x.e.d

/-- Two steps, neither of which waits for the other: neither turns what the other looks at or turns. x comes behind y in the text. -/
def Clash (x y : Step) : Prop := (∀ b, x.R b → ¬ (y.W b ∨ (y.e.n ≤ b ∧ b < y.e.n'))) ∧ (∀ b, y.R b → ¬ x.W b) ∧ (∀ b, x.W b → ¬ (y.W b ∨ (y.e.n ≤ b ∧ b < y.e.n')))

def clashFree (mask : Nat) (x : Step) : Nat → List Step → Prop
  | _, [] => True
  | j, y :: ys => (mask.testBit (j - 1) = true ∨ Clash x y) ∧ clashFree mask x (j - 1) ys

/-- The steps of a region, in the text's order; `past` holds those behind, the last first. -/
inductive Txt (P : Program) (T : Nat → Prop) (ops : Array Oper) (masks : List Nat) : List Step → List Oper → Env → Nat → AH → Env → Nat → AH → List Step → Prop
  | nil {past env n h} : Txt P T ops masks past [] env n h env n h []
  | cons {past o os env n h h1 env' n' h' rest} (x : Step) (ho : x.e.o = o) (he : x.env = env) (hn : x.e.n = n) (hg : x.g.le h) (ok : StepOk P T ops x)
      (hc : clashFree (masks.getD past.length 0) x past.length past) (hh : h1.le (h.app x.e.d))
      (hr : Txt P T ops masks (x :: past) os (env.put o.dst x.e.v) x.e.n' h1 env' n' h' rest) : Txt P T ops masks past (o :: os) env n h env' n' h' (x :: rest)

end Go.Abs

/- Whatever order is drawn, a region comes to what the text's order comes to. -/
namespace Go.Abs
open Go.RowKit

theorem filter_le (p p' : Nat → Bool) (h : ∀ x, p' x = true → p x = true) : ∀ l : List Nat, (l.filter p').length ≤ (l.filter p).length
  | [] => Nat.le_refl _
  | a :: l => by
    have ih := filter_le p p' h l
    by_cases h1 : p' a = true
    · simp [h1, h a h1, ih]
    · have h1 : p' a = false := by simpa using h1
      by_cases h2 : p a = true
      · simp [h1, h2]; omega
      · have h2 : p a = false := by simpa using h2
        simp [h1, h2, ih]
theorem filter_lt (p p' : Nat → Bool) (h : ∀ x, p' x = true → p x = true) (x : Nat) (h1 : p x = true) (h2 : p' x = false) : ∀ l : List Nat, x ∈ l → (l.filter p').length < (l.filter p).length
  | [], hx => by simp at hx
  | a :: l, hx => by
    by_cases e : a = x
    · subst e
      have := filter_le p p' h l
      simp [h1, h2]; omega
    · have hx' : x ∈ l := by
        rcases List.mem_cons.1 hx with h | h
        · exact absurd h.symm e
        · exact h
      have ih := filter_lt p p' h x h1 h2 l hx'
      by_cases h3 : p' a = true
      · simp [h3, h a h3, ih]
      · have h3 : p' a = false := by simpa using h3
        by_cases h4 : p a = true
        · simp [h3, h4]; omega
        · have h4 : p a = false := by simpa using h4
          simp [h3, h4, ih]

def ents (xs : List Step) : List Ent := xs.map (·.e)
def upTo (i : Nat) : Nat → Bool := fun j => decide (j < i)

/-- What the text's order gives, step by step. -/
structure TxtOk (P : Program) (T : Nat → Prop) (ops : Array Oper) (masks : List Nat) (xs : List Step) (env0 : Env) (n0 : Nat) (h0 : AH) (env' : Env) (n' : Nat) (h' : AH) : Prop where
  step : ∀ (i : Nat) (x : Step), xs[i]? = some x → StepOk P T ops x
  env : ∀ (i : Nat) (x : Step), xs[i]? = some x → ∀ t, x.env.get t = (envS (upTo i) 0 (ents xs) env0).get t
  heap : ∀ (i : Nat) (x : Step), xs[i]? = some x → x.g.le (heapS (upTo i) 0 (ents xs) h0)
  clash : ∀ (i : Nat) (x : Step) (j : Nat) (y : Step), xs[i]? = some x → xs[j]? = some y → j < i → (masks.getD i 0).testBit j = true ∨ Clash x y
  mono : ∀ (i : Nat) (x : Step) (j : Nat) (y : Step), xs[i]? = some x → xs[j]? = some y → j < i → y.e.n' ≤ x.e.n
  low : ∀ (i : Nat) (x : Step), xs[i]? = some x → n0 ≤ x.e.n
  high : ∀ (i : Nat) (x : Step), xs[i]? = some x → x.e.n' ≤ n'
  le : n0 ≤ n'
  envEnd : ∀ t, env'.get t = (envS (fun _ => true) 0 (ents xs) env0).get t
  heapEnd : h'.le (heapS (fun _ => true) 0 (ents xs) h0)

theorem envS_snoc (S : Nat → Bool) (y : Ent) : ∀ (xs : List Ent) (i : Nat) (e : Env), envS S i (xs ++ [y]) e = if S (i + xs.length) then (envS S i xs e).put y.o.dst y.v else envS S i xs e
  | [], i, e => by simp [envS]
  | x :: xs, i, e => by
    simp only [List.cons_append, envS, envS_snoc S y xs (i + 1), List.length_cons]
    rw [show i + 1 + xs.length = i + (xs.length + 1) by omega]
theorem heapS_snoc (S : Nat → Bool) (y : Ent) : ∀ (xs : List Ent) (i : Nat) (h : AH), heapS S i (xs ++ [y]) h = if S (i + xs.length) then (heapS S i xs h).app y.d else heapS S i xs h
  | [], i, e => by simp [heapS]
  | x :: xs, i, e => by
    simp only [List.cons_append, heapS, heapS_snoc S y xs (i + 1), List.length_cons]
    rw [show i + 1 + xs.length = i + (xs.length + 1) by omega]
theorem envS_ext {S S' : Nat → Bool} : ∀ (xs : List Ent) (i : Nat) (e : Env), (∀ j, j < i + xs.length → i ≤ j → S j = S' j) → envS S i xs e = envS S' i xs e
  | [], _, _, _ => rfl
  | x :: xs, i, e, h => by
    simp only [envS]
    rw [h i (by simp) (Nat.le_refl _), envS_ext xs (i + 1) _ fun j h1 h2 => h j (by simp; omega) (by omega)]
theorem heapS_ext {S S' : Nat → Bool} : ∀ (xs : List Ent) (i : Nat) (e : AH), (∀ j, j < i + xs.length → i ≤ j → S j = S' j) → heapS S i xs e = heapS S' i xs e
  | [], _, _, _ => rfl
  | x :: xs, i, e, h => by
    simp only [heapS]
    rw [h i (by simp) (Nat.le_refl _), heapS_ext xs (i + 1) _ fun j h1 h2 => h j (by simp; omega) (by omega)]
theorem heapS_le (S : Nat → Bool) : ∀ (xs : List Ent) (i : Nat) {h h' : AH}, h.le h' → (heapS S i xs h).le (heapS S i xs h')
  | [], _, _, _, hl => hl
  | x :: xs, i, h, h', hl => by
    simp only [heapS]
    refine heapS_le S xs (i + 1) ?_
    cases S i
    · exact hl
    · exact hl.app _

theorem TxtOk.nil {P : Program} {T : Nat → Prop} {ops : Array Oper} {masks : List Nat} (env0 : Env) (n0 : Nat) (h0 : AH) : TxtOk P T ops masks [] env0 n0 h0 env0 n0 h0 where
  step := fun i x h => by simp at h
  env := fun i x h => by simp at h
  heap := fun i x h => by simp at h
  clash := fun i x j y h => by simp at h
  mono := fun i x j y h => by simp at h
  low := fun i x h => by simp at h
  high := fun i x h => by simp at h
  le := Nat.le_refl _
  envEnd := fun _ => rfl
  heapEnd := .refl _

theorem clashFree_at (mask : Nat) (x : Step) : ∀ (past : List Step) (j : Nat) (y : Step), clashFree mask x past.length past → past.reverse[j]? = some y → mask.testBit j = true ∨ Clash x y
  | [], j, y, _, h => by simp at h
  | z :: past, j, y, hc, h => by
    simp only [clashFree, List.length_cons, Nat.add_sub_cancel] at hc
    simp only [List.reverse_cons] at h
    rcases Nat.lt_or_ge j past.length with hj | hj
    · rw [List.getElem?_append_left (by simpa using hj)] at h
      exact clashFree_at mask x past j y hc.2 h
    · rw [List.getElem?_append_right (by simpa using hj)] at h
      simp only [List.length_reverse] at h
      have e : j = past.length := by
        rcases Nat.lt_or_ge (j - past.length) 1 with h1 | h1
        · omega
        · rw [List.getElem?_eq_none (by simpa using h1)] at h; cases h
      subst e
      simp at h; subst h
      exact hc.1

theorem TxtOk.snoc {P : Program} {T : Nat → Prop} {ops : Array Oper} {masks : List Nat} {past : List Step} {env0 : Env} {n0 : Nat} {h0 : AH} {env : Env} {n : Nat} {h h1 : AH} (t : TxtOk P T ops masks past.reverse env0 n0 h0 env n h) (x : Step)
    (he : x.env = env) (hn : x.e.n = n) (hg : x.g.le h) (ok : StepOk P T ops x) (hc : clashFree (masks.getD past.length 0) x past.length past) (hh : h1.le (h.app x.e.d)) :
    TxtOk P T ops masks (x :: past).reverse env0 n0 h0 (env.put x.e.o.dst x.e.v) x.e.n' h1 := by
  have hle := ok.le
  have hl : (ents past.reverse).length = past.length := by simp [ents]
  have hents : ents (x :: past).reverse = ents past.reverse ++ [x.e] := by simp [ents]
  have old : ∀ i y, i < past.length → (x :: past).reverse[i]? = some y → past.reverse[i]? = some y := by
    intro i y hi h
    rwa [List.reverse_cons, List.getElem?_append_left (by simpa using hi)] at h
  have split : ∀ i y, (x :: past).reverse[i]? = some y → (i < past.length ∧ past.reverse[i]? = some y) ∨ (i = past.length ∧ y = x) := by
    intro i y h
    rcases Nat.lt_or_ge i past.length with hi | hi
    · exact .inl ⟨hi, old i y hi h⟩
    · right
      rw [List.reverse_cons, List.getElem?_append_right (by simpa using hi)] at h
      simp only [List.length_reverse] at h
      have e : i = past.length := by
        rcases Nat.lt_or_ge (i - past.length) 1 with h1 | h1
        · omega
        · rw [List.getElem?_eq_none (by simpa using h1)] at h; cases h
      subst e
      simp at h; exact ⟨rfl, h.symm⟩
  have hb : ∀ i, i ≤ past.length → envS (upTo i) 0 (ents (x :: past).reverse) env0 = envS (upTo i) 0 (ents past.reverse) env0 := by
    intro i hi
    rw [hents, envS_snoc, hl, if_neg]
    simp only [upTo, Nat.zero_add, decide_eq_true_eq]; omega
  have hb' : ∀ i, i ≤ past.length → heapS (upTo i) 0 (ents (x :: past).reverse) h0 = heapS (upTo i) 0 (ents past.reverse) h0 := by
    intro i hi
    rw [hents, heapS_snoc, hl, if_neg]
    simp only [upTo, Nat.zero_add, decide_eq_true_eq]; omega
  have eAll : envS (upTo past.length) 0 (ents past.reverse) env0 = envS (fun _ => true) 0 (ents past.reverse) env0 :=
    envS_ext _ _ _ fun j h1 _ => by rw [hl] at h1; simp [upTo]; omega
  have hAll : heapS (upTo past.length) 0 (ents past.reverse) h0 = heapS (fun _ => true) 0 (ents past.reverse) h0 :=
    heapS_ext _ _ _ fun j h1 _ => by rw [hl] at h1; simp [upTo]; omega
  refine ⟨?_, ?_, ?_, ?_, ?_, ?_, ?_, ?_, ?_, ?_⟩
  · intro i y hy
    rcases split i y hy with ⟨_, h2⟩ | ⟨_, rfl⟩
    · exact t.step i y h2
    · exact ok
  · intro i y hy s
    rcases split i y hy with ⟨h1, h2⟩ | ⟨rfl, rfl⟩
    · rw [hb i (by omega)]; exact t.env i y h2 s
    · rw [hb _ (Nat.le_refl _), eAll, he]; exact t.envEnd s
  · intro i y hy
    rcases split i y hy with ⟨h1, h2⟩ | ⟨rfl, rfl⟩
    · rw [hb' i (by omega)]; exact t.heap i y h2
    · rw [hb' _ (Nat.le_refl _), hAll]; exact hg.trans t.heapEnd
  · intro i y j z hy hz hji
    rcases split i y hy with ⟨h1, h2⟩ | ⟨rfl, rfl⟩
    · exact t.clash i y j z h2 (old j z (by omega) hz) hji
    · exact clashFree_at _ _ past j z hc (old j z hji hz)
  · intro i y j z hy hz hji
    rcases split i y hy with ⟨h1, h2⟩ | ⟨rfl, rfl⟩
    · exact t.mono i y j z h2 (old j z (by omega) hz) hji
    · rw [hn]; exact t.high j z (old j z hji hz)
  · intro i y hy
    rcases split i y hy with ⟨h1, h2⟩ | ⟨rfl, rfl⟩
    · exact t.low i y h2
    · rw [hn]; exact t.le
  · intro i y hy
    rcases split i y hy with ⟨h1, h2⟩ | ⟨rfl, rfl⟩
    · have := t.high i y h2; omega
    · exact Nat.le_refl _
  · have := t.le; omega
  · intro s
    rw [hents, envS_snoc]
    simp only [if_true]
    rw [Env.get_put, Env.get_put, t.envEnd s]
  · rw [hents, heapS_snoc]
    simp only [if_true]
    exact hh.trans (t.heapEnd.app _)

theorem Txt.ok {P : Program} {T : Nat → Prop} {ops : Array Oper} {masks : List Nat} {past os env n h env' n' h' rest} (t : Txt P T ops masks past os env n h env' n' h' rest) :
    ∀ {env0 : Env} {n0 : Nat} {h0 : AH}, TxtOk P T ops masks past.reverse env0 n0 h0 env n h → TxtOk P T ops masks (past.reverse ++ rest) env0 n0 h0 env' n' h' ∧ rest.map (·.e.o) = os := by
  induction t with
  | nil => intro env0 n0 h0 h; exact ⟨by simpa using h, rfl⟩
  | cons x ho he hn hg ok hc hh hr ih =>
    intro env0 n0 h0 h
    subst ho
    obtain ⟨h1, h2⟩ := ih (h.snoc x he hn hg ok hc hh)
    exact ⟨by simpa using h1, by simp [h2]⟩

/-- Of two operations, neither of which waits for the other, neither writes a temporary that the other names. -/
def staticOk (ops : Array Oper) (masks : List Nat) : Bool :=
  (List.range ops.size).all fun i => (List.range i).all fun j => (masks.getD i 0).testBit j || (match ops[j]?, ops[i]? with | some a, some b => Oper.apart ops a b | _, _ => false)
/-- Each waits for what stands ahead of it alone. -/
def backOk (ops : Array Oper) : Bool := ops.toList.zipIdx.all fun (o, i) => (waitsFor o).all (· < i)

theorem staticOk_at {ops : Array Oper} {masks : List Nat} (h : staticOk ops masks = true) {i j : Nat} {a b : Oper} (hj : j < i) (ha : ops[j]? = some a) (hb : ops[i]? = some b) :
    (masks.getD i 0).testBit j = true ∨ Oper.apart ops a b = true := by
  have hi : i < ops.size := (Array.getElem?_eq_some_iff.1 hb).1
  have h1 := (List.all_eq_true.1 h) i (by simpa using hi)
  have h2 := (List.all_eq_true.1 h1) j (by simpa using hj)
  rw [ha, hb] at h2
  simpa using h2
theorem backOk_at {ops : Array Oper} (h : backOk ops = true) {i : Nat} {o : Oper} (hi : ops[i]? = some o) : ∀ j, j ∈ waitsFor o → j < i := by
  intro j hj
  have h1 := (List.all_eq_true.1 h) (o, i) (by
    rw [List.mem_zipIdx_iff_getElem?]; simpa using hi)
  simpa using (List.all_eq_true.1 h1) j hj

theorem Txt.sound {P : Program} {T : Nat → Prop} {ops : Array Oper} {masks : List Nat} {N : Nat} {env0 : Env} {n0 : Nat} {h0 : AH} {env' : Env} {n' : Nat} {h' : AH} {xs : List Step} (hmk : masksOf ops.toList [] = masks) (hst : staticOk ops masks = true) (hbk : backOk ops = true)
    (hdst : dstOk N ops.toList = true) (t : TxtOk P T ops masks xs env0 n0 h0 env' n' h') (hxs : xs.map (·.e.o) = ops.toList)
    (dfs : List Deferred) (rd : Option Nat) (w0 : Base) (ρ0 : Ren) (H : AH) (hl : h0.le H) (Q : Exit → Act → World → Prop)
    (K : ∀ ρ' a' w', Grow n0 n' ρ0 ρ' → EnvRel ρ' N env' a'.tmps → a'.defers = dfs → Sim w0 ρ' (heapS (fun _ => true) 0 (ents xs) H) w' → Q .normal a' w') :
    ∀ (fuel : Nat) (listed : Array Bool) (ρ : Ren) (a : Act) (w : World), listed.size = ops.size → ((List.range ops.size).filter fun i => !listed.getD i false).length ≤ fuel →
      Closed ops.toList (listed.getD · false) → Grow n0 n' ρ0 ρ → EnvRel ρ N (envS (listed.getD · false) 0 (ents xs) env0) a.tmps → a.defers = dfs →
      Sim w0 ρ (heapS (listed.getD · false) 0 (ents xs) H) w → (∀ i x, xs[i]? = some x → listed.getD i false = false → Fresh x.e.n x.e.n' ρ) →
      wpAnyIn (FW rd) 0 P .any ops Q fuel listed a w := by
  have hop : ∀ (i : Nat) (x : Step), xs[i]? = some x → ops[i]? = some x.e.o := by
    intro i x hx
    have : (xs.map (·.e.o))[i]? = some x.e.o := by simp [hx]
    rw [hxs] at this; simpa using this
  have hop' : ∀ (i : Nat) (o : Oper), ops[i]? = some o → ∃ x, xs[i]? = some x ∧ x.e.o = o := by
    intro i o ho
    have : (xs.map (·.e.o))[i]? = some o := by rw [hxs]; simpa using ho
    simpa using this
  have hent : ∀ (i : Nat) (y : Ent), (ents xs)[i]? = some y → ∃ x, xs[i]? = some x ∧ x.e = y := by
    intro i y hy; simpa [ents] using hy
  have hlen : xs.length = ops.size := by have := congrArg List.length hxs; simpa using this
  -- a mask's bit: waited for
  have hbit : ∀ (S : Nat → Bool) (i : Nat) (o : Oper), ops[i]? = some o → Closed ops.toList S → (∀ j, j ∈ waitsFor o → S j = true) → ∀ j, (masks.getD i 0).testBit j = true → S j = true := by
    intro S i o ho hS hw j hj
    have hi : i < ops.size := (Array.getElem?_eq_some_iff.1 ho).1
    rw [← hmk] at hj
    exact masksOf_spec ops.toList ops.toList [] (fun i => by simp) (fun i o S hi => by simp at hi) i o S (by simpa using hi) (by simpa using ho) hS hw j hj
  -- when none is ready, all are listed
  have hall : ∀ (listed : Array Bool), listed.size = ops.size → Region.ready .any ops listed = [] → ∀ i, i < ops.size → listed.getD i false = true := by
    intro listed hsz hr i
    induction i using Nat.strongRecOn with
    | _ i ih =>
      intro hi
      cases hli : listed.getD i false with
      | true => rfl
      | false =>
        exfalso
        have ho : ops[i]? = some ops[i] := by simp [hi]
        have : i ∈ Region.ready .any ops listed := by
          refine mem_ready.2 ⟨?_, ops[i], ho, ?_⟩
          · have h2 : i < listed.size := by omega
            simpa [Array.getD, h2] using hli
          · intro e he hb
            have hmem : e.on ∈ waitsFor ops[i] := by
              unfold waitsFor
              exact List.mem_map.2 ⟨e, List.mem_filter.2 ⟨by simpa using he, hb⟩, rfl⟩
            have hlt := backOk_at hbk ho e.on hmem
            have := ih e.on hlt (by omega)
            exact this
        rw [hr] at this; cases this
  have fin : ∀ (listed : Array Bool) (ρ : Ren) (a : Act) (w : World), listed.size = ops.size → Region.ready .any ops listed = [] → Grow n0 n' ρ0 ρ → EnvRel ρ N (envS (listed.getD · false) 0 (ents xs) env0) a.tmps → a.defers = dfs →
      Sim w0 ρ (heapS (listed.getD · false) 0 (ents xs) H) w → Q .normal a w := by
    intro listed ρ a w hsz hr hg he hd hs
    have h1 := hall listed hsz hr
    have e1 : envS (listed.getD · false) 0 (ents xs) env0 = envS (fun _ => true) 0 (ents xs) env0 := envS_ext _ _ _ fun j hj _ => h1 j (by simpa [ents, hlen] using hj)
    have e2 : heapS (listed.getD · false) 0 (ents xs) H = heapS (fun _ => true) 0 (ents xs) H := heapS_ext _ _ _ fun j hj _ => h1 j (by simpa [ents, hlen] using hj)
    rw [e1] at he; rw [e2] at hs
    refine K ρ a w hg ⟨he.size, fun s => ?_⟩ hd hs
    rw [t.envEnd s]; exact he.at_ s
  intro fuel
  induction fuel with
  | zero =>
    intro listed ρ a w hsz hcount hcl hg he hd hs hfr
    have hr : Region.ready .any ops listed = [] := by
      cases hr : Region.ready .any ops listed with
      | nil => rfl
      | cons i r =>
        exfalso
        have hi : i ∈ Region.ready .any ops listed := by rw [hr]; simp
        obtain ⟨h1, o, ho, _⟩ := mem_ready.1 hi
        have hi2 : i < ops.size := (Array.getElem?_eq_some_iff.1 ho).1
        have h2 : listed.getD i false = false := by
          have h3 : i < listed.size := by omega
          simpa [Array.getD, h3] using h1
        have : i ∈ (List.range ops.size).filter fun i => !listed.getD i false := List.mem_filter.2 ⟨by simpa using hi2, by simp [h2]⟩
        have h0 : (List.range ops.size).filter (fun i => !listed.getD i false) = [] := List.eq_nil_of_length_eq_zero (by omega)
        rw [h0] at this; cases this
    exact ⟨hr, fin listed ρ a w hsz hr hg he hd hs⟩
  | succ fuel ih =>
    intro listed ρ a w hsz hcount hcl hg he hd hs hfr
    refine ⟨fun hr => fin listed ρ a w hsz hr hg he hd hs, fun i hi => ?_⟩
    obtain ⟨h1, o, ho, hdeps⟩ := mem_ready.1 hi
    have hi2 : i < ops.size := (Array.getElem?_eq_some_iff.1 ho).1
    have hli : listed.getD i false = false := by
      have h3 : i < listed.size := by omega
      simpa [Array.getD, h3] using h1
    have hw : ∀ j, j ∈ waitsFor o → listed.getD j false = true := by
      intro j hj
      obtain ⟨e, h2, rfl⟩ := List.mem_map.1 hj
      obtain ⟨h3, h4⟩ := List.mem_filter.1 h2
      exact hdeps e (by simpa using h3) h4
    obtain ⟨x, hx, rfl⟩ := hop' i o ho
    have ok := t.step i x hx
    -- what stands ahead and is waited for is listed; what is listed does not wait for i
    have hbefore : ∀ j, (masks.getD i 0).testBit j = true → listed.getD j false = true := hbit _ i _ ho hcl hw
    have hafter : ∀ (j : Nat) (y : Step), xs[j]? = some y → listed.getD j false = true → (masks.getD j 0).testBit i = false := by
      intro j y hy hj
      cases hb : (masks.getD j 0).testBit i with
      | false => rfl
      | true =>
        have := hbit (listed.getD · false) j y.e.o (hop j y hy) hcl (fun k hk => hcl j y.e.o (by simpa using hop j y hy) hj k hk) i hb
        rw [hli] at this; cases this
    -- temporaries
    have hget : ∀ s, s ∈ x.e.o.looksAt ops → (envS (listed.getD · false) 0 (ents xs) env0).get s = x.env.get s := by
      intro s hsl
      rw [t.env i x hx s]
      refine envS_congr _ _ _ _ rfl fun j y hy hyd => ?_
      obtain ⟨z, hz, rfl⟩ := hent j y hy
      simp only [Nat.zero_add, upTo]
      rcases Nat.lt_trichotomy j i with hji | rfl | hji
      · rw [decide_eq_true hji]
        rcases staticOk_at hst hji (hop j z hz) ho with hb | hb
        · exact hbefore j hb
        · exact absurd hsl ((Oper.apart_spec hb).1 s hyd)
      · rw [hli]; simp
      · have : decide (j < i) = false := by simp; omega
        rw [this]
        cases hlj : listed.getD j false with
        | false => rfl
        | true =>
          rcases staticOk_at hst hji ho (hop j z hz) with hb | hb
          · rw [hafter j z hz hlj] at hb; cases hb
          · exact absurd hsl ((Oper.apart_spec hb).2.2 s hyd)
    have hwant : Region.wanted x.e.o (yielded ops a.tmps) = x.yes := by
      refine wants_spec (ρ := ρ) (env := x.env) ?_ ok.want
      rintro s ⟨j, wv, hgd, hjd⟩
      rw [← hget s (by
        unfold Oper.looksAt
        rw [hgd]
        simp [hjd])]
      exact he.at_ s
    have hdN : ∀ s, x.e.o.dst = some s → s < N := by
      intro s hs'
      have h2 := (List.all_eq_true.1 hdst) x.e.o (by
        have := hop i x hx
        have h3 := Array.mem_of_getElem? this
        simpa using h3)
      rw [hs'] at h2; simpa using h2
    -- the heap
    have hgle : x.g.le (heapS (listed.getD · false) 0 (ents xs) H) := by
      have hbase : x.g.le (heapS (upTo i) 0 (ents xs) H) := (t.heap i x hx).trans (heapS_le _ _ _ hl)
      have hsame : ∀ b, x.R b → (heapS (listed.getD · false) 0 (ents xs) H).info b = (heapS (upTo i) 0 (ents xs) H).info b ∧
          ∀ k, (heapS (listed.getD · false) 0 (ents xs) H).cell b k = (heapS (upTo i) 0 (ents xs) H).cell b k := by
        intro b hb
        refine heapS_congr _ _ _ _ ⟨rfl, fun _ => rfl⟩ fun j y hy hyt => ?_
        obtain ⟨z, hz, rfl⟩ := hent j y hy
        simp only [Nat.zero_add, upTo]
        have zt := (t.step j z hz).turn b hyt
        have hbn := ok.old b hb
        rcases Nat.lt_trichotomy j i with hji | rfl | hji
        · rw [decide_eq_true hji]
          rcases t.clash i x j z hx hz hji with hc | hc
          · exact hbefore j hc
          · exact absurd (by rcases zt.1 with h5 | h5
                             · exact .inl h5
                             · exact .inr ⟨h5, zt.2⟩) (hc.1 b hb)
        · rw [hli]; simp
        · have : decide (j < i) = false := by simp; omega
          rw [this]
          cases hlj : listed.getD j false with
          | false => rfl
          | true =>
            rcases t.clash j z i x hz hx hji with hc | hc
            · rw [hafter j z hz hlj] at hc; cases hc
            · have hm := t.mono j z i x hz hx hji
              have hxle := ok.le
              rcases zt.1 with h5 | h5
              · exact absurd h5 (hc.2.1 b hb)
              · omega
      refine ⟨fun b m hm => ?_, fun b k => ?_⟩
      · rw [(hsame b (ok.look b (.inl (by rw [hm]; simp)))).1]; exact hbase.info b m hm
      · by_cases hk : x.g.cell b k = .tuple #[]
        · exact .inl hk
        · rw [(hsame b (ok.look b (.inr ⟨k, hk⟩))).2 k]; exact hbase.cell b k
    -- behind it
    have hS' : ∀ j, (listed.setIfInBounds i true).getD j false = if j = i then true else listed.getD j false := by
      intro j
      by_cases e : j = i
      · subst e
        have h3 : j < listed.size := by omega
        simp [Array.getD, h3]
      · rw [if_neg e]
        simp [Array.getD_eq_getD_getElem?, Array.getElem?_setIfInBounds_ne (Ne.symm e)]
    have hcl' : Closed ops.toList ((listed.setIfInBounds i true).getD · false) := by
      intro j q hq hj k hk
      simp only [hS'] at hj ⊢
      by_cases e : k = i
      · rw [if_pos e]
      · rw [if_neg e]
        by_cases e2 : j = i
        · subst e2
          have : q = x.e.o := by
            have h4 := hop j x hx
            rw [show ops.toList[j]? = ops[j]? by simp, h4] at hq; cases hq; rfl
          subst this
          exact hw k hk
        · rw [if_neg e2] at hj; exact hcl j q hq hj k hk
    have hcount' : ((List.range ops.size).filter fun j => !(listed.setIfInBounds i true).getD j false).length ≤ fuel := by
      have := filter_lt (fun j => !listed.getD j false) (fun j => !(listed.setIfInBounds i true).getD j false)
        (fun j hj => by
          simp only [hS'] at hj
          by_cases e : j = i
          · rw [if_pos e] at hj; cases hj
          · rw [if_neg e] at hj; exact hj) i (by simp [hli]) (by simp [hS']) (List.range ops.size) (by simpa using hi2)
      omega
    have hxi : (ents xs)[i - 0]? = some x.e := by simp [ents, hx]
    have hheap : heapS ((listed.setIfInBounds i true).getD · false) 0 (ents xs) H = (heapS (listed.getD · false) 0 (ents xs) H).app x.e.d := by
      refine heapS_insert (i0 := i) _ _ _ x.e (Nat.zero_le _) hxi hli (by simp [hS']) (fun j hj => by simp [hS', hj]) ?_
      intro j y hy hlt hj b hb
      simp only [Nat.zero_add] at hlt hj
      obtain ⟨z, hz, rfl⟩ := hent j y hy
      rcases t.clash j z i x hz hx hlt with hc | hc
      · rw [hafter j z hz hj] at hc; cases hc
      · have hm := t.mono j z i x hz hx hlt
        have xt := ok.turn b hb.1
        have zt := (t.step j z hz).turn b hb.2
        rcases zt.1 with h5 | h5
        · exact hc.2.2 b h5 (by rcases xt.1 with h6 | h6
                                · exact .inl h6
                                · exact .inr ⟨h6, xt.2⟩)
        · omega
    have henv : ∀ s, (envS ((listed.setIfInBounds i true).getD · false) 0 (ents xs) env0).get s = ((envS (listed.getD · false) 0 (ents xs) env0).put x.e.o.dst x.e.v).get s := by
      intro s
      refine envS_insert (i0 := i) _ _ _ x.e (Nat.zero_le _) hxi hli (by simp [hS']) (fun j hj => by simp [hS', hj]) ?_
      intro j y hy hlt hj hxd hyd
      simp only [Nat.zero_add] at hlt hj
      obtain ⟨z, hz, rfl⟩ := hent j y hy
      rcases staticOk_at hst hlt ho (hop j z hz) with hb | hb
      · rw [hafter j z hz hj] at hb; cases hb
      · exact (Oper.apart_spec hb).2.1 s hxd hyd
    have hfresh := hfr i x hx hli
    have next : ∀ (ρ1 : Ren) (c : Value) (w1 : World), Grow x.e.n x.e.n' ρ ρ1 → VRel ρ1 x.e.v c → Sim w0 ρ1 ((heapS (listed.getD · false) 0 (ents xs) H).app x.e.d) w1 →
        wpAnyIn (FW rd) 0 P .any ops Q fuel (listed.setIfInBounds i true) (a.put x.e.o.dst c) w1 := by
      intro ρ1 c w1 hg1 hv hs1
      refine ih _ ρ1 _ w1 (by simpa using hsz) hcount' hcl' ?_ ⟨?_, fun s => ?_⟩ (by rw [← hd]; cases x.e.o.dst <;> rfl) (by rw [hheap]; exact hs1) ?_
      · refine ⟨hg.le.trans hg1.le, fun b hb => ?_⟩
        have h5 := t.low i x hx
        have h6 := t.high i x hx
        rw [hg1.out b (by omega), hg.out b hb]
      · have := ((he.mono hg1.le).put x.e.o.dst hdN hv).size; exact this
      · rw [henv s]; exact ((he.mono hg1.le).put x.e.o.dst hdN hv).at_ s
      · intro j y hy hj b hb1 hb2
        rw [hS'] at hj
        by_cases e : j = i
        · rw [if_pos e] at hj; cases hj
        · rw [if_neg e] at hj
          have h5 := hfr j y hy hj b hb1 hb2
          rw [hg1.out b]
          · exact h5
          · rcases Nat.lt_or_gt_of_ne e with h7 | h7
            · have := t.mono i x j y hx hy h7; omega
            · have := t.mono j y i x hy hx h7; omega
    unfold wpOpIn
    simp only [ho, hwant]
    cases hyes : x.yes with
    | true =>
      simp only [if_true]
      refine (ok.run hyes).run rd w0 ρ w _ a _ Q hgle hfresh hs ?_ ?_
      · intro q hq
        cases q with
        | tmp s =>
          have := he.at_ s
          rw [hget s (by
            unfold Oper.looksAt
            exact List.mem_append_left _ (List.mem_filterMap.2 ⟨.tmp s, by simpa using hq, rfl⟩))] at this
          exact this
        | const v => exact EnvRel.ev (env := []) (N := a.tmps.size) (ρ := ρ) ⟨rfl, fun _ => .unk _⟩ (.const v)
        | global v => exact .unk _
        | func f => exact EnvRel.ev (env := []) (N := a.tmps.size) (ρ := ρ) ⟨rfl, fun _ => .unk _⟩ (.func f)
      · intro ρ1 c w1 hg1 hv hs1
        exact next ρ1 c w1 hg1 hv hs1
    | false =>
      simp only [Bool.false_eq_true, if_false]
      obtain ⟨h5, h6, h7⟩ := ok.skip hyes
      refine ⟨fun f _ => FW.fn rd f, ?_⟩
      refine next ρ undef w (.refl _ _ _) (by rw [h5]; exact .skip) (by rw [h6]; exact hs)

/-- A region that draws its order. -/
theorem Ex.draw {P : Program} {T : Nat → Prop} {N : Nat} {ops : Array Oper} {id : Nat} {masks : List Nat} {env n h env' n' h' xs} (hm : P.follows .mixedOrders = true) (hmk : masksOf ops.toList [] = masks) (hst : staticOk ops masks = true)
    (hbk : backOk ops = true) (hdst : dstOk N ops.toList = true) (t : Txt P T ops masks [] ops.toList env n h env' n' h' xs) : Ex P T N (.region id ops true) env n h .normal env' n' h' := by
  obtain ⟨tk, hxs⟩ := t.ok (TxtOk.nil env n h)
  simp only [List.reverse_nil, List.nil_append] at tk
  have hcomp : ∀ (xs : List Ent) (i : Nat), ∃ d : Dl, ∀ H, heapS (fun _ => true) i xs H = H.app d := by
    intro xs
    induction xs with
    | nil => intro i; exact ⟨.nil, fun _ => rfl⟩
    | cons x xs ih =>
      intro i
      obtain ⟨d, hd⟩ := ih (i + 1)
      exact ⟨x.d.comp d, fun H => by simp only [heapS, if_true, hd, AH.app_comp]⟩
  have hcomp' : ∀ (xs : List Ent) (i : Nat), ∃ d : Dl, (∀ H, heapS (fun _ => true) i xs H = H.app d) ∧ (∀ b, d.touches b → ∃ x, x ∈ xs ∧ x.d.touches b) := by
    intro xs
    induction xs with
    | nil => intro i; exact ⟨.nil, fun _ => rfl, fun b hb => (Dl.touches_nil hb).elim⟩
    | cons x xs ih =>
      intro i
      obtain ⟨d, hd, ht⟩ := ih (i + 1)
      refine ⟨x.d.comp d, fun H => by simp only [heapS, if_true, hd, AH.app_comp], fun b hb => ?_⟩
      rcases Dl.touches_comp hb with h1 | h1
      · exact ⟨x, by simp, h1⟩
      · obtain ⟨y, h2, h3⟩ := ht b h1; exact ⟨y, by simp [h2], h3⟩
  obtain ⟨d, hd, ht⟩ := hcomp' (ents xs) 0
  refine ⟨d, by rw [← hd]; exact tk.heapEnd, tk.le, fun b hb => ?_, fun rd w0 ρ w H tmps dfs _ hl hf hs he => ?_⟩
  · obtain ⟨y, h1, h2⟩ := ht b hb
    obtain ⟨x, hx, rfl⟩ := List.mem_map.1 (by simpa [ents] using h1)
    obtain ⟨i, hi⟩ := List.getElem?_of_mem hx
    have h3 := (tk.step i x hi).within b h2
    have h4 := tk.low i x hi
    have h5 := tk.high i x hi
    exact ⟨h3.1.imp (fun h => h) (by omega), by omega⟩
  · refine wpIn_region_any hm ?_
    have hz : ∀ j, (Array.replicate ops.size false).getD j false = false := by
      intro j
      rw [Array.getD_eq_getD_getElem?, Array.getElem?_replicate]
      by_cases hj : j < ops.size
      · rw [if_pos hj]; rfl
      · rw [if_neg hj]; rfl
    have hzf : ((Array.replicate ops.size false).getD · false) = fun _ => false := funext hz
    have hF : ∀ (ys : List Ent) (k : Nat), envS (fun _ => false) k ys env = env := by
      intro ys
      induction ys with
      | nil => intro k; rfl
      | cons y ys ih => intro k; simp only [envS, Bool.false_eq_true, if_false]; exact ih (k + 1)
    have hG : ∀ (ys : List Ent) (k : Nat), heapS (fun _ => false) k ys H = H := by
      intro ys
      induction ys with
      | nil => intro k; rfl
      | cons y ys ih => intro k; simp only [heapS, Bool.false_eq_true, if_false]; exact ih (k + 1)
    refine Txt.sound hmk hst hbk hdst tk hxs dfs rd w0 ρ H hl _ ?_ ops.size _ ρ ⟨tmps, dfs⟩ _ (by simp) ?_ ?_ (.refl _ _ _) ?_ rfl ?_ ?_
    · intro ρ' a' w' hg he' hd' hs'
      rw [hd] at hs'
      exact ⟨rfl, .nil hd' hg he' hs'⟩
    · exact Nat.le_trans (List.length_filter_le _ _) (by simp)
    · intro i o ho hi j hj
      have hi' : (Array.replicate ops.size false).getD i false = true := hi
      rw [hz] at hi'; cases hi'
    · rw [hzf, hF]; exact he
    · rw [hzf, hG]; exact hs.drawn _
    · intro i x hx _ b h1 h2
      have h4 := tk.low i x hx
      have h5 := tk.high i x hx
      exact hf b (by omega) (by omega)

end Go.Abs
