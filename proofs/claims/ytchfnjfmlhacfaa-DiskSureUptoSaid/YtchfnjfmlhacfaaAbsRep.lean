/- What a law's arguments read as, told type by type; lists of data. -/
import Derived.Test.YtchfnjfmlhacfaaAbsOwn
import Derived.OpenShut
import Derived.Carry
namespace Go.Abs
open Go.RowKit

theorem list_ex {α : Type} (p : Nat → α → Prop) : ∀ (k : Nat), (∀ i, i < k → ∃ x, p i x) → ∃ l : List α, l.length = k ∧ ∀ i x, l[i]? = some x → p i x
  | 0, _ => ⟨[], rfl, fun i x h => by simp at h⟩
  | k + 1, hp => by
    obtain ⟨l, h1, h2⟩ := list_ex p k fun i hi => hp i (by omega)
    obtain ⟨x, hx⟩ := hp k (by omega)
    refine ⟨l ++ [x], by simp [h1], fun i y h => ?_⟩
    by_cases hi : i < k
    · rw [List.getElem?_append_left (by omega)] at h; exact h2 i y h
    · rw [List.getElem?_append_right (by omega)] at h
      by_cases e : i = k
      · subst e; simp [h1] at h; subst h; exact hx
      · rw [List.getElem?_eq_none (by simp; omega)] at h; cases h

theorem rd_map (h : AH) (b : Nat) : ∀ (k o : Nat), rd h b o k = (List.range k).map fun j => h.cell b (o + j) := by
  intro k o
  apply List.ext_getElem
  · simp [rd_length]
  · intro i h1 h2
    rw [rd_length] at h1
    have := rd_getD h b k o i h1
    simp [List.getD, rd_length, h1] at this
    simpa using this

/-- A list, of which the elements ahead of place i are turned. -/
def updI {α : Type} (f : Nat → α → α) (l : List α) (i : Nat) : List α := l.mapIdx fun j x => if j < i then f j x else x
theorem updI_length {α : Type} (f : Nat → α → α) (l : List α) (i : Nat) : (updI f l i).length = l.length := by simp [updI]
theorem updI_getElem? {α : Type} (f : Nat → α → α) (l : List α) (i j : Nat) : (updI f l i)[j]? = l[j]?.map fun x => if j < i then f j x else x := by simp [updI]
theorem updI_zero {α : Type} (f : Nat → α → α) (l : List α) : updI f l 0 = l := by
  apply List.ext_getElem?
  intro j; rw [updI_getElem?]; cases l[j]? <;> simp
theorem updI_all {α : Type} (f : Nat → α → α) (l : List α) {i : Nat} (h : l.length ≤ i) : updI f l i = l.mapIdx f := by
  apply List.ext_getElem?
  intro j; rw [updI_getElem?, List.getElem?_mapIdx]
  by_cases hj : j < l.length
  · rw [List.getElem?_eq_getElem hj]; simp; omega
  · rw [List.getElem?_eq_none (by omega)]; rfl
theorem updI_at {α : Type} (f : Nat → α → α) (l : List α) (i : Nat) : (updI f l i)[i]? = l[i]? := by
  rw [updI_getElem?]; cases l[i]? <;> simp
theorem updI_getD {α : Type} (f : Nat → α → α) (l : List α) (i : Nat) (d : α) : (updI f l i).getD i d = l.getD i d := by simp only [List.getD, updI_at]
theorem updI_succ {α : Type} (f : Nat → α → α) (l : List α) (i : Nat) (d : α) (h : i < l.length) : updI f l (i + 1) = (updI f l i).set i (f i (l.getD i d)) := by
  apply List.ext_getElem?
  intro j
  rw [List.getElem?_set, updI_getElem?, updI_length, updI_getElem?]
  by_cases e : i = j
  · subst e; rw [if_pos rfl, if_pos h]; simp [List.getD, h]
  · rw [if_neg e]
    congr 1; funext x
    have : j < i + 1 ↔ j < i := by omega
    simp only [this]

/-- Truths' cells. -/
def boolsV (t : List Bool) : List Value := t.map .bool
def boolsF (t : List Bool) : Nat → Value := fun j => .bool (t.getD j false)
abbrev SlT (h : AH) (n : Nat) (a : Option Addr) (t : List Bool) : Prop := SlR h n a 1 t.length (boolsF t)
/-- Whole numbers' cells. -/
def intsV (k : IntKind) (l : List Int) : List Value := l.map (.int k)
def intsF (k : IntKind) (l : List Int) : Nat → Value := fun j => .int k (l.getD j 0)
abbrev SlN (h : AH) (n : Nat) (a : Option Addr) (k : IntKind) (l : List Int) : Prop := SlR h n a 1 l.length (intsF k l)
theorem OwnSl.slt {h : AH} {n0 n m : Nat} {a : Option Addr} {t : List Bool} (o : OwnSl h n0 n a 1 m (boolsV t)) : SlT h n a t := by
  have : m = t.length := by have := o.len; simp [boolsV] at this; omega
  subst this
  exact o.slr.congr fun j hj => by simp [boolsV, boolsF, List.getD, show j < t.length by omega]
theorem OwnSl.sln {h : AH} {n0 n m : Nat} {a : Option Addr} {k : IntKind} {l : List Int} (o : OwnSl h n0 n a 1 m (intsV k l)) : SlN h n a k l := by
  have : m = l.length := by have := o.len; simp [intsV] at this; omega
  subst this
  exact o.slr.congr fun j hj => by simp [intsV, intsF, List.getD, show j < l.length by omega]

section
variable {H : Type} {P : Program} {h : AH} {n : Nat} {t e : TypeId} {cs : List Value} {d : DataW H}
theorem RepD.bool_ (hu : P.underlying t = some .bool) (r : RepD P h t cs d) : ∃ b, cs = [.bool b] := by
  cases r with
  | bool k => exact ⟨_, rfl⟩
  | int k _ => rw [hu] at k; cases k
  | str k _ => rw [hu] at k; cases k
  | nil k => rw [hu] at k; cases k
  | slice k _ _ _ => rw [hu] at k; cases k
  | struct k _ _ _ => rw [hu] at k; cases k
theorem RepD.int_ {q : IntKind} (hu : P.underlying t = some (.int q)) (r : RepD P h t cs d) : ∃ x, cs = [.int q x] ∧ d = .lit (.int q x) ∧ (Lit.int q x).wf = true := by
  cases r with
  | bool k => rw [hu] at k; cases k
  | int k w => rw [hu] at k; cases k; exact ⟨_, rfl, rfl, w⟩
  | str k _ => rw [hu] at k; cases k
  | nil k => rw [hu] at k; cases k
  | slice k _ _ _ => rw [hu] at k; cases k
  | struct k _ _ _ => rw [hu] at k; cases k
theorem RepD.str_ (hu : P.underlying t = some .string) (r : RepD P h t cs d) : ∃ l : List UInt8, cs = [.string ⟨l.toArray⟩] ∧ d = .lit (.string l) := by
  cases r with
  | bool k => rw [hu] at k; cases k
  | int k _ => rw [hu] at k; cases k
  | @str _ s k _ => exact ⟨s.data.toList, by simp, rfl⟩
  | nil k => rw [hu] at k; cases k
  | slice k _ _ _ => rw [hu] at k; cases k
  | struct k _ _ _ => rw [hu] at k; cases k
theorem RepD.struct_ {fs : Array Field} (hu : P.underlying t = some (.struct fs)) (r : RepD P h t cs d) : ∃ parts, d = .agg parts ∧ cs.length = P.cellsOf t ∧ parts.length = fs.size ∧
    ∀ (i : Nat) (f : Field) (d : DataW H), fs[i]? = some f → parts[i]? = some d → RepD P h f.type ((cs.drop f.offset).take (P.cellsOf f.type)) d := by
  cases r with
  | bool k => rw [hu] at k; cases k
  | int k _ => rw [hu] at k; cases k
  | str k _ => rw [hu] at k; cases k
  | nil k => rw [hu] at k; cases k
  | slice k _ _ _ => rw [hu] at k; cases k
  | struct k h1 h2 h3 => rw [hu] at k; cases k; exact ⟨_, rfl, h1, h2, h3⟩
/-- The cells of element i. -/
def elC (h : AH) (a : Option Addr) (z i : Nat) : List Value := (List.range z).map fun j => h.cell (sb a) (so a + (i * z + j))
theorem RepD.slice_ (lo : Low n h) (hu : P.underlying t = some (.slice e)) (r : RepD P h t cs d) : ∃ (a : Option Addr) (elems spare : List (DataW H)), cs = [.slice a elems.length elems.length] ∧ ((d = .nil ∧ elems = []) ∨ d = .slice elems spare) ∧
    SlR h n a (P.cellsOf e) elems.length (fun j => h.cell (sb a) (so a + j)) ∧ ∀ (i : Nat) (x : DataW H), elems[i]? = some x → RepD P h e (elC h a (P.cellsOf e) i) x := by
  cases r with
  | bool k => rw [hu] at k; cases k
  | int k _ => rw [hu] at k; cases k
  | str k _ => rw [hu] at k; cases k
  | nil k => exact ⟨none, [], [], rfl, .inl ⟨rfl, rfl⟩, SlR.nil, fun i x h => by simp at h⟩
  | @slice _ e' b elems spare k hi hl he =>
    rw [hu] at k; cases k
    have hb : b < n := by
      rcases Nat.lt_or_ge b n with h1 | h1
      · exact h1
      · rw [(lo b h1).1] at hi; cases hi
    refine ⟨some ⟨b, 0, none⟩, elems, spare, rfl, .inr rfl, ⟨.inr ⟨rfl, hb, _, hi, rfl⟩, fun j hj => rfl⟩, fun i x hx => ?_⟩
    have := he i x hx
    rw [rd_map] at this
    simpa [elC, sb, so] using this
  | struct k _ _ _ => rw [hu] at k; cases k
/-- A slice whose elements are told by p. -/
theorem RepD.list_ {α : Type} (p : List Value → DataW H → α → Prop) (lo : Low n h) (hu : P.underlying t = some (.slice e)) (hp : ∀ cs d, RepD P h e cs d → ∃ x, p cs d x) (r : RepD P h t cs d) : ∃ (a : Option Addr) (l : List α) (elems spare : List (DataW H)),
    cs = [.slice a l.length l.length] ∧ ((d = .nil ∧ elems = []) ∨ d = .slice elems spare) ∧ elems.length = l.length ∧
    SlR h n a (P.cellsOf e) l.length (fun j => h.cell (sb a) (so a + j)) ∧ ∀ (i : Nat) (x : α), l[i]? = some x → ∃ d, elems[i]? = some d ∧ p (elC h a (P.cellsOf e) i) d x := by
  obtain ⟨a, elems, spare, h1, h2, h3, h4⟩ := r.slice_ lo hu
  obtain ⟨l, k1, k2⟩ := list_ex (fun i x => ∃ d, elems[i]? = some d ∧ p (elC h a (P.cellsOf e) i) d x) elems.length fun i hi => by
    obtain ⟨x, hx⟩ := hp _ _ (h4 i elems[i] (by simp [hi]))
    exact ⟨x, _, by simp [hi], hx⟩
  exact ⟨a, l, elems, spare, by rw [k1]; exact h1, h2, k1.symm, by rw [k1]; exact h3, k2⟩
theorem elC_one {a : Option Addr} {i : Nat} : elC h a 1 i = [h.cell (sb a) (so a + i)] := by simp [elC]
theorem RepD.bools_ (lo : Low n h) (hu : P.underlying t = some (.slice e)) (he : P.underlying e = some .bool) (hz : P.cellsOf e = 1) (r : RepD P h t cs d) : ∃ (a : Option Addr) (l : List Bool) (elems spare : List (DataW H)),
    cs = [.slice a l.length l.length] ∧ ((d = .nil ∧ elems = []) ∨ d = .slice elems spare) ∧ elems.length = l.length ∧ SlT h n a l := by
  obtain ⟨a, l, elems, spare, h1, h2, h3, h4, h5⟩ := r.list_ (fun cs _ (x : Bool) => cs = [.bool x]) lo hu fun _ _ r => r.bool_ he
  rw [hz] at h4 h5
  refine ⟨a, l, elems, spare, h1, h2, h3, h4.congr fun j hj => ?_⟩
  obtain ⟨_, _, k⟩ := h5 j l[j] (by simp [show j < l.length by omega])
  rw [elC_one] at k
  simp only [List.cons.injEq, and_true] at k
  rw [k]; simp [boolsF, List.getD, show j < l.length by omega]
theorem RepD.ints_ {q : IntKind} (lo : Low n h) (hu : P.underlying t = some (.slice e)) (he : P.underlying e = some (.int q)) (hz : P.cellsOf e = 1) (r : RepD P h t cs d) : ∃ (a : Option Addr) (l : List Int) (elems spare : List (DataW H)),
    cs = [.slice a l.length l.length] ∧ ((d = .nil ∧ elems = []) ∨ d = .slice elems spare) ∧ elems.length = l.length ∧ SlN h n a q l ∧ ∀ x, x ∈ l → (Lit.int q x).wf = true := by
  obtain ⟨a, l, elems, spare, h1, h2, h3, h4, h5⟩ := r.list_ (fun cs _ (x : Int) => cs = [.int q x] ∧ (Lit.int q x).wf = true) lo hu fun _ _ r => by
    obtain ⟨x, k1, _, k2⟩ := r.int_ he; exact ⟨x, k1, k2⟩
  rw [hz] at h4 h5
  refine ⟨a, l, elems, spare, h1, h2, h3, h4.congr fun j hj => ?_, fun x hx => ?_⟩
  · obtain ⟨_, _, k, _⟩ := h5 j l[j] (by simp [show j < l.length by omega])
    rw [elC_one] at k
    simp only [List.cons.injEq, and_true] at k
    rw [k]; simp [intsF, List.getD, show j < l.length by omega]
  · obtain ⟨j, hj⟩ := List.getElem?_of_mem hx
    obtain ⟨_, _, _, k⟩ := h5 j x hj
    exact k
theorem RepD.bytes_ (lo : Low n h) (hu : P.underlying t = some (.slice e)) (he : P.underlying e = some (.int .u8)) (hz : P.cellsOf e = 1) (r : RepD P h t cs d) : ∃ (a : Option Addr) (l : List UInt8) (elems spare : List (DataW H)),
    cs = [.slice a l.length l.length] ∧ ((d = .nil ∧ elems = []) ∨ d = .slice elems spare) ∧ elems.length = l.length ∧ SlB h n a l := by
  obtain ⟨a, l, elems, spare, h1, h2, h3, h4, h5⟩ := r.ints_ lo hu he hz
  refine ⟨a, l.map fun x => UInt8.ofNat x.toNat, elems, spare, by simpa using h1, h2, by simpa using h3, ?_⟩
  have : SlR h n a 1 (l.map fun x => UInt8.ofNat x.toNat).length (intsF .u8 l) := by simpa using h4
  refine this.congr fun j hj => ?_
  have hj : j < l.length := by simpa using hj
  have hw := h5 l[j] (List.getElem_mem hj)
  simp [Lit.wf, IntKind.min, IntKind.max, IntKind.signed, IntKind.bits] at hw
  simp [intsF, bytesF, List.getD, hj]
  omega
end

section
variable {H : Type} {enc : TypeId × Value → H} {P : Program}
theorem RepArgs.cons_ {h : AH} {t : TypeId} {ts : List TypeId} {as : List Value} {ds : List (DataW H)} (r : RepArgs P h (t :: ts) as ds) : ∃ a d as' ds', as = a :: as' ∧ ds = d :: ds' ∧ RepA P h t a d ∧ RepArgs P h ts as' ds' := by
  cases r with
  | cons x r => exact ⟨_, _, _, _, rfl, rfl, x, r⟩
theorem RepArgs.nil_ {h : AH} {as : List Value} {ds : List (DataW H)} (r : RepArgs P h [] as ds) : as = [] ∧ ds = [] := by
  cases r; exact ⟨rfl, rfl⟩
/-- What is no struct lies in one cell. -/
theorem RepA.one {h : AH} {t : TypeId} {a : Value} {d : DataW H} {u : TypeDesc} (hu : P.underlying t = some u) (hs : ∀ fs, u ≠ .struct fs) (r : RepA P h t a d) : RepD P h t [a] d := by
  unfold RepA at r
  rw [hu] at r
  cases u with
  | struct fs => exact absurd rfl (hs fs)
  | _ => exact r
theorem RepA.agg {h : AH} {t : TypeId} {a : Value} {d : DataW H} {fs : Array Field} (hu : P.underlying t = some (.struct fs)) (r : RepA P h t a d) : ∃ cs : List Value, a = .agg cs.toArray ∧ RepD P h t cs d := by
  unfold RepA at r
  rw [hu] at r
  exact r
theorem trodAll_after (hl : laidOutB P = true) {W W' : World} (hb : Below W.heap.size W W') : ∀ (ts : List TypeId) (vs : List Value) (ds : List (DataW H)) (ps : List MemPlace), ts.all (fun t => P.readableRec t && decide (t < P.types.size)) = true →
    DataW.TrodAll enc P W 0 (fun _ => true) true ts vs ds ps → DataW.TrodAll enc P W' 0 (fun b => decide (b < W.heap.size)) true ts vs ds ps
  | [], vs, ds, ps, _, h => by
    obtain ⟨rfl, rfl, rfl⟩ := ChangeShapes.trodAll_nil h
    exact rfl
  | t :: ts, vs, ds, ps, hts, h => by
    simp only [List.all_cons, Bool.and_eq_true, decide_eq_true_eq] at hts
    obtain ⟨v, vs', d, ds', p, q, rfl, rfl, rfl, h1, h2⟩ := ChangeShapes.trodAll_cons h
    have hlt : ∀ x ∈ p, x.block < W.heap.size := by obtain ⟨m, hm⟩ := h1; exact DataW.trod_lt m _ _ _ hm
    exact trodAll_cons_mk (Below.trod hl hts.1.1 hts.1.2 h1 hb hlt) (trodAll_after hl hb ts vs' ds' q (by simpa using hts.2) h2)
end
end Go.Abs
