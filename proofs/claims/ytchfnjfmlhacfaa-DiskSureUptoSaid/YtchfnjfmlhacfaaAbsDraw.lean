/- A region that draws its order: told in the text's order; whatever order is drawn, it comes to the same. -/
import Derived.Test.YtchfnjfmlhacfaaAbsExec
import Derived.OrdersIn
namespace Go.Abs
open Go.RowKit

structure Ent where
  o : Oper
  n : Nat
  n' : Nat
  v : Value
  d : Dl

def envS (S : Nat → Bool) : Nat → List Ent → Env → Env
  | _, [], e => e
  | i, x :: xs, e => envS S (i + 1) xs (if S i then e.put x.o.dst x.v else e)
def heapS (S : Nat → Bool) : Nat → List Ent → AH → AH
  | _, [], h => h
  | i, x :: xs, h => heapS S (i + 1) xs (if S i then h.app x.d else h)

theorem Env.get_put (e : Env) (d : Option Tmp) (v : Value) (t : Nat) : (e.put d v).get t = if d = some t then v else e.get t := by
  cases d with
  | none => simp [Env.put]
  | some k =>
    simp only [Env.put, Env.get, Option.some.injEq]
    by_cases h : k = t
    · subst h; simp
    · rw [if_neg (by simpa using h), if_neg h]

theorem envS_congr {S S' : Nat → Bool} {t : Nat} : ∀ (xs : List Ent) (i : Nat) (e e' : Env), e.get t = e'.get t →
    (∀ j x, xs[j]? = some x → x.o.dst = some t → S (i + j) = S' (i + j)) → (envS S i xs e).get t = (envS S' i xs e').get t
  | [], _, _, _, h, _ => h
  | x :: xs, i, e, e', h, hh => by
    refine envS_congr xs (i + 1) _ _ ?_ fun j y hy hd => by have := hh (j + 1) y (by simpa using hy) hd; rwa [show i + (j + 1) = i + 1 + j by omega] at this
    by_cases hd : x.o.dst = some t
    · have := hh 0 x rfl hd
      simp only [Nat.add_zero] at this
      rw [← this]
      cases S i
      · exact h
      · simp [Env.get_put, hd]
    · have key : ∀ (b : Bool) (q : Env), (if b then q.put x.o.dst x.v else q).get t = q.get t := by
        intro b q; cases b
        · rfl
        · simp [Env.get_put, hd]
      rw [key, key]; exact h

theorem heapS_congr {S S' : Nat → Bool} {b : Nat} : ∀ (xs : List Ent) (i : Nat) (h h' : AH), (h.info b = h'.info b ∧ ∀ k, h.cell b k = h'.cell b k) →
    (∀ j x, xs[j]? = some x → x.d.touches b → S (i + j) = S' (i + j)) → (heapS S i xs h).info b = (heapS S' i xs h').info b ∧ ∀ k, (heapS S i xs h).cell b k = (heapS S' i xs h').cell b k
  | [], _, _, _, h, _ => h
  | x :: xs, i, h, h', hq, hh => by
    refine heapS_congr xs (i + 1) _ _ ?_ fun j y hy hd => by have := hh (j + 1) y (by simpa using hy) hd; rwa [show i + (j + 1) = i + 1 + j by omega] at this
    by_cases hd : x.d.touches b
    · have := hh 0 x rfl hd
      simp only [Nat.add_zero] at this
      rw [← this]
      cases S i
      · exact hq
      · simp only [if_true, AH.app]
        exact ⟨by rw [hq.1], fun k => by rw [hq.2 k]⟩
    · have hi : x.d.info b = none := Classical.byContradiction fun h => hd (.inl h)
      have hc : ∀ k, x.d.cell b k = none := fun k => Classical.byContradiction fun h => hd (.inr ⟨k, h⟩)
      have key : ∀ (c : Bool) (q : AH), (if c then q.app x.d else q).info b = q.info b ∧ ∀ k, (if c then q.app x.d else q).cell b k = q.cell b k := by
        intro c q; cases c
        · exact ⟨rfl, fun _ => rfl⟩
        · simp [AH.app, hi, hc]
      exact ⟨by rw [(key _ _).1, (key _ _).1]; exact hq.1, fun k => by rw [(key _ _).2, (key _ _).2]; exact hq.2 k⟩

theorem AH.app_comm (h : AH) {d e : Dl} (hd : ∀ b, ¬ (d.touches b ∧ e.touches b)) : (h.app d).app e = (h.app e).app d := by
  simp only [AH.app, AH.mk.injEq]
  constructor
  · funext b
    cases h1 : d.info b with
    | none => rfl
    | some x =>
      cases h2 : e.info b with
      | none => rfl
      | some y => exact absurd ⟨.inl (by rw [h1]; simp), .inl (by rw [h2]; simp)⟩ (hd b)
  · funext b k
    cases h1 : d.cell b k with
    | none => rfl
    | some x =>
      cases h2 : e.cell b k with
      | none => rfl
      | some y => exact absurd ⟨.inr ⟨k, by rw [h1]; simp⟩, .inr ⟨k, by rw [h2]; simp⟩⟩ (hd b)

theorem heapS_later {S : Nat → Bool} {d : Dl} : ∀ (xs : List Ent) (i : Nat) (h : AH), (∀ j x, xs[j]? = some x → S (i + j) = true → ∀ b, ¬ (d.touches b ∧ x.d.touches b)) →
    heapS S i xs (h.app d) = (heapS S i xs h).app d
  | [], _, _, _ => rfl
  | x :: xs, i, h, hh => by
    simp only [heapS]
    rw [← heapS_later xs (i + 1) _ fun j y hy hs => hh (j + 1) y (by simpa using hy) (by rwa [show i + (j + 1) = i + 1 + j by omega])]
    congr 1
    cases hs : S i with
    | false => rfl
    | true => exact AH.app_comm h (hh 0 x rfl (by simpa using hs))

theorem heapS_insert {S S' : Nat → Bool} {i0 : Nat} : ∀ (xs : List Ent) (i : Nat) (h : AH) (x0 : Ent), i ≤ i0 → xs[i0 - i]? = some x0 → S i0 = false → S' i0 = true → (∀ j, j ≠ i0 → S' j = S j) →
    (∀ j x, xs[j]? = some x → i0 < i + j → S (i + j) = true → ∀ b, ¬ (x0.d.touches b ∧ x.d.touches b)) → heapS S' i xs h = (heapS S i xs h).app x0.d
  | [], i, h, x0, _, hx, _, _, _, _ => by simp at hx
  | x :: xs, i, h, x0, hle, hx, h1, h2, h3, h4 => by
    simp only [heapS]
    by_cases e : i = i0
    · subst e
      simp only [Nat.sub_self, List.getElem?_cons_zero, Option.some.injEq] at hx
      subst hx
      rw [h1, h2]
      simp only [if_true, Bool.false_eq_true, if_false]
      rw [← heapS_later xs (i + 1) h fun j y hy hs => h4 (j + 1) y (by simpa using hy) (by omega) (by rwa [show i + (j + 1) = i + 1 + j by omega])]
      -- the rest is taken alike
      have : ∀ (ys : List Ent) (k : Nat) (q : AH), i < k → heapS S' k ys q = heapS S k ys q := by
        intro ys
        induction ys with
        | nil => intros; rfl
        | cons y ys ih => intro k q hk; simp only [heapS]; rw [h3 k (by omega), ih (k + 1) _ (by omega)]
      exact this xs (i + 1) _ (by omega)
    · rw [h3 i e]
      exact heapS_insert xs (i + 1) _ x0 (by omega) (by rw [show i0 - i = (i0 - (i + 1)) + 1 by omega] at hx; simpa using hx) h1 h2 h3
        fun j y hy hl hs => h4 (j + 1) y (by simpa using hy) (by omega) (by rwa [show i + (j + 1) = i + 1 + j by omega])

theorem envS_insert {S S' : Nat → Bool} {i0 t : Nat} : ∀ (xs : List Ent) (i : Nat) (e : Env) (x0 : Ent), i ≤ i0 → xs[i0 - i]? = some x0 → S i0 = false → S' i0 = true → (∀ j, j ≠ i0 → S' j = S j) →
    (∀ j x, xs[j]? = some x → i0 < i + j → S (i + j) = true → x0.o.dst = some t → x.o.dst ≠ some t) → (envS S' i xs e).get t = ((envS S i xs e).put x0.o.dst x0.v).get t
  | [], i, h, x0, _, hx, _, _, _, _ => by simp at hx
  | x :: xs, i, e, x0, hle, hx, h1, h2, h3, h4 => by
    simp only [envS]
    by_cases ei : i = i0
    · subst ei
      simp only [Nat.sub_self, List.getElem?_cons_zero, Option.some.injEq] at hx
      subst hx
      rw [h1, h2]
      simp only [if_true, Bool.false_eq_true, if_false]
      have same : ∀ (ys : List Ent) (k : Nat) (q : Env), i < k → envS S' k ys q = envS S k ys q := by
        intro ys
        induction ys with
        | nil => intros; rfl
        | cons y ys ih => intro k q hk; simp only [envS]; rw [h3 k (by omega), ih (k + 1) _ (by omega)]
      rw [same xs (i + 1) _ (by omega), Env.get_put]
      by_cases hd : x.o.dst = some t
      · rw [if_pos hd]
        have later : ∀ (ys : List Ent) (k : Nat) (q : Env), (∀ j y, ys[j]? = some y → S (k + j) = true → y.o.dst ≠ some t) → (envS S k ys q).get t = q.get t := by
          intro ys
          induction ys with
          | nil => intros; rfl
          | cons y ys ih =>
            intro k q hq
            simp only [envS]
            rw [ih (k + 1) _ fun j z hz hs => hq (j + 1) z (by simpa using hz) (by rwa [show k + (j + 1) = k + 1 + j by omega])]
            cases hs : S k with
            | false => rfl
            | true =>
              have := hq 0 y rfl (by simpa using hs)
              simp [Env.get_put, this]
        rw [later xs (i + 1) _ fun j y hy hs => h4 (j + 1) y (by simpa using hy) (by omega) (by rwa [show i + (j + 1) = i + 1 + j by omega]) hd]
        simp [Env.get_put, hd]
      · rw [if_neg hd]
        exact envS_congr xs (i + 1) _ _ (by simp [Env.get_put, hd]) fun _ _ _ _ => rfl
    · rw [h3 i ei]
      exact envS_insert xs (i + 1) _ x0 (by omega) (by rw [show i0 - i = (i0 - (i + 1)) + 1 by omega] at hx; simpa using hx) h1 h2 h3
        fun j y hy hl hs => h4 (j + 1) y (by simpa using hy) (by omega) (by rwa [show i + (j + 1) = i + 1 + j by omega])

/-- What an operation waits for. -/
def waitsFor (o : Oper) : List Nat := (o.after.toList.filter (Region.binds .any)).map (·.on)
def maskOf (acc : List Nat) (o : Oper) : Nat := (waitsFor o).foldl (fun s j => s ||| 2 ^ j ||| acc.getD j 0) 0
def masksOf : List Oper → List Nat → List Nat
  | [], acc => acc
  | o :: os, acc => masksOf os (acc ++ [maskOf acc o])

theorem maskOf_bit {acc : List Nat} {o : Oper} {j : Nat} (h : (maskOf acc o).testBit j = true) : ∃ k, k ∈ waitsFor o ∧ (j = k ∨ (acc.getD k 0).testBit j = true) := by
  unfold maskOf at h
  have key : ∀ (l : List Nat) (s : Nat), (l.foldl (fun s j => s ||| 2 ^ j ||| acc.getD j 0) s).testBit j = true → s.testBit j = true ∨ ∃ k, k ∈ l ∧ (j = k ∨ (acc.getD k 0).testBit j = true) := by
    intro l
    induction l with
    | nil => intro s h; exact .inl h
    | cons a l ih =>
      intro s h
      rcases ih _ h with h1 | ⟨k, h1, h2⟩
      · simp only [Nat.testBit_or, Bool.or_eq_true] at h1
        rcases h1 with (h1 | h1) | h1
        · exact .inl h1
        · refine .inr ⟨a, by simp, .inl ?_⟩
          by_cases e : j = a
          · exact e
          · rw [Nat.testBit_two_pow] at h1; simp at h1; exact h1.symm
        · exact .inr ⟨a, by simp, .inr h1⟩
      · exact .inr ⟨k, by simp [h1], h2⟩
  rcases key _ 0 h with h1 | h1
  · simp at h1
  · exact h1

/-- A set of operations that holds what its members wait for. -/
def Closed (ops : List Oper) (S : Nat → Bool) : Prop := ∀ i o, ops[i]? = some o → S i = true → ∀ j, j ∈ waitsFor o → S j = true

theorem masksOf_spec (all : List Oper) : ∀ (os : List Oper) (acc : List Nat), (∀ i, all[acc.length + i]? = os[i]?) →
    (∀ i o S, i < acc.length → all[i]? = some o → Closed all S → (∀ j, j ∈ waitsFor o → S j = true) → ∀ j, (acc.getD i 0).testBit j = true → S j = true) →
    ∀ i o S, i < acc.length + os.length → all[i]? = some o → Closed all S → (∀ j, j ∈ waitsFor o → S j = true) → ∀ j, ((masksOf os acc).getD i 0).testBit j = true → S j = true
  | [], acc, _, h, i, o, S, hi => by simpa [masksOf] using h i o S (by simpa using hi)
  | q :: os, acc, hall, h, i, o, S, hi => by
    simp only [masksOf]
    refine masksOf_spec all os (acc ++ [maskOf acc q]) (fun i => ?_) ?_ i o S (by simp at hi ⊢; omega)
    · have := hall (i + 1)
      simp only [List.getElem?_cons_succ] at this
      rw [← this]; congr 1; simp; omega
    · intro i o S hi ho hS hw j hj
      simp only [List.length_append, List.length_cons, List.length_nil, Nat.zero_add] at hi
      by_cases hlt : i < acc.length
      · refine h i o S hlt ho hS hw j ?_
        simpa [List.getD, List.getElem?_append_left hlt] using hj
      · have e : i = acc.length := by omega
        subst e
        have : (acc ++ [maskOf acc q]).getD acc.length 0 = maskOf acc q := by simp [List.getD]
        rw [this] at hj
        have hq : all[acc.length]? = some q := by simpa using hall 0
        rw [hq] at ho; cases ho
        obtain ⟨k, k1, k2⟩ := maskOf_bit hj
        have hk := hw k k1
        rcases k2 with rfl | k2
        · exact hk
        · by_cases hkl : k < acc.length
          · cases hok : all[k]? with
            | none =>
              have := hall 0
              have h5 : all.length ≤ k := by simpa using hok
              have h6 : acc.length < all.length := by
                have := (List.getElem?_eq_some_iff.1 hq).1; exact this
              omega
            | some ok => exact h k ok S hkl hok hS (fun j hj => hS k ok hok hk j hj) j k2
          · have : acc.getD k 0 = 0 := by simp [List.getD, List.getElem?_eq_none (Nat.le_of_not_lt hkl)]
            rw [this] at k2; simp at k2

/-- The carrying out in the text's order, with what each operation looks at (R) and turns (W). -/
structure Step where
  e : Ent
  env : Env
  g : AH
  R : Nat → Prop
  W : Nat → Prop
  yes : Bool

structure StepOk (P : Program) (T : Nat → Prop) (ops : Array Oper) (x : Step) : Prop where
  le : x.e.n ≤ x.e.n'
  want : wants ops x.e.o x.env = some x.yes
  run : x.yes = true → OpEv P T x.e.o x.env x.e.n x.g x.e.v x.e.n' x.e.d
  skip : x.yes = false → x.e.v = skipV ∧ x.e.d = .nil ∧ x.e.n' = x.e.n
  look : ∀ b, (x.g.info b ≠ none ∨ ∃ k, x.g.cell b k ≠ .tuple #[]) → x.R b
  turn : ∀ b, x.e.d.touches b → (x.W b ∨ x.e.n ≤ b) ∧ b < x.e.n'
  old : ∀ b, x.R b → b < x.e.n
  within : Within T x.e.n x.e.n' x.e.d

/-- Two steps, neither of which waits for the other: neither turns what the other looks at or turns. x comes behind y in the text. -/
def Clash (x y : Step) : Prop := (∀ b, x.R b → ¬ (y.W b ∨ (y.e.n ≤ b ∧ b < y.e.n'))) ∧ (∀ b, y.R b → ¬ x.W b) ∧ (∀ b, x.W b → ¬ (y.W b ∨ (y.e.n ≤ b ∧ b < y.e.n')))

def clashFree (mask : Nat) (x : Step) : Nat → List Step → Prop
  | _, [] => True
  | j, y :: ys => (mask.testBit (j - 1) = true ∨ Clash x y) ∧ clashFree mask x (j - 1) ys

/-- The steps of a region, in the text's order; `past` holds those behind, the last first. -/
inductive Txt (P : Program) (T : Nat → Prop) (ops : Array Oper) (masks : List Nat) : List Step → List Oper → Env → Nat → AH → Env → Nat → AH → List Step → Prop
  | nil {past env n h} : Txt P T ops masks past [] env n h env n h []
  | cons {past o os env n h h1 env' n' h' rest} (x : Step) (ho : x.e.o = o) (he : x.env = env) (hn : x.e.n = n) (hg : x.g.le h) (ok : StepOk P T ops x)
      (hc : clashFree (masks.getD past.length 0) x past.length past) (hh : h1.le (h.app x.e.d))
      (hr : Txt P T ops masks (x :: past) os (env.put o.dst x.e.v) x.e.n' h1 env' n' h' rest) : Txt P T ops masks past (o :: os) env n h env' n' h' (x :: rest)

end Go.Abs
