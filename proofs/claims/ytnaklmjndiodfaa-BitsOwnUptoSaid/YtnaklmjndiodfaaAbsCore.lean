/- The abstract heap: values and blocks without tape, orders of evaluation and capacities, and what it means that a world of the model is described by it. -/
import Derived.Calls
import Derived.Orders
import Derived.Below
import Derived.Laws.Cells
namespace Go.Abs
open Go.RowKit

theorem undef_eq : (undef : Value) = .tuple #[] := rfl

/-- Where an abstract block lies: from cell `off` of block `blk`; its slices end within `ext` cells; an element takes `sz` cells (0: it is no row of elements). -/
structure Loc where
  blk : Nat
  off : Nat
  ext : Nat
  sz : Nat

abbrev Ren := Nat → Option Loc

inductive VRel (ρ : Ren) : Value → Value → Prop
  | unk (v : Value) : VRel ρ (.tuple #[]) v
  | bool (b : Bool) : VRel ρ (.bool b) (.bool b)
  | int (k : IntKind) (n : Int) : VRel ρ (.int k n) (.int k n)
  | string (s : ByteArray) : VRel ρ (.string s) (.string s)
  | nilPtr : VRel ρ (.pointer none) (.pointer none)
  | nilSlice : VRel ρ (.slice none 0 0) (.slice none 0 0)
  | nilMap : VRel ρ (.map none) (.map none)
  | nilFunc : VRel ρ .nilFunc .nilFunc
  | nilIface : VRel ρ .nilIface .nilIface
  | ptr {b : Nat} {o : Nat} {L : Loc} (h : ρ b = some L) : VRel ρ (.pointer (some ⟨b, o, none⟩)) (.pointer (some ⟨L.blk, L.off + o, none⟩))
  | slice {b o n : Nat} {L : Loc} (c : Nat) (h : ρ b = some L) (hn : n ≤ c) (hc : L.sz ≠ 0 → o + c * L.sz ≤ L.ext) :
      VRel ρ (.slice (some ⟨b, o, none⟩) n n) (.slice (some ⟨L.blk, L.off + o, none⟩) n c)
  | slice0 {b o : Nat} {L : Loc} (a : Addr) (h : ρ b = some L) : VRel ρ (.slice (some ⟨b, o, none⟩) 0 0) (.slice (some a) 0 0)
  | iface {t : TypeId} {x y : Value} (h : VRel ρ x y) : VRel ρ (.iface t x) (.iface t y)
  | agg {xs ys : Array Value} (hs : xs.size = ys.size) (h : ∀ i, VRel ρ (xs.getD i (.tuple #[])) (ys.getD i (.tuple #[]))) : VRel ρ (.agg xs) (.agg ys)
  | tuple {xs ys : Array Value} (hs : xs.size = ys.size) (h : ∀ i, VRel ρ (xs.getD i (.tuple #[])) (ys.getD i (.tuple #[]))) : VRel ρ (.tuple xs) (.tuple ys)
  | func {f : FuncId} {xs ys : Array Value} (hs : xs.size = ys.size) (h : ∀ i, VRel ρ (xs.getD i (.tuple #[])) (ys.getD i (.tuple #[]))) :
      VRel ρ (.func (.func f) #[] xs) (.func (.func f) #[] ys)
  | yield {l : Nat} {L : Loc} (h : ρ l = some L) : VRel ρ (.func (.yield l) #[] #[]) (.func (.yield L.blk) #[] #[])

/-- More blocks are named. -/
def Ren.le (ρ ρ' : Ren) : Prop := ∀ b L, ρ b = some L → ρ' b = some L
theorem Ren.le.refl (ρ : Ren) : ρ.le ρ := fun _ _ h => h
theorem Ren.le.trans {a b c : Ren} (h : a.le b) (k : b.le c) : a.le c := fun x L hx => k x L (h x L hx)

theorem VRel.mono {ρ ρ' : Ren} (hl : ρ.le ρ') {a c : Value} (h : VRel ρ a c) : VRel ρ' a c := by
  induction h with
  | unk v => exact .unk v
  | bool b => exact .bool b
  | int k n => exact .int k n
  | string s => exact .string s
  | nilPtr => exact .nilPtr
  | nilSlice => exact .nilSlice
  | nilMap => exact .nilMap
  | nilFunc => exact .nilFunc
  | nilIface => exact .nilIface
  | ptr h => exact .ptr (hl _ _ h)
  | slice c h hn hc => exact .slice c (hl _ _ h) hn hc
  | slice0 a h => exact .slice0 a (hl _ _ h)
  | iface _ ih => exact .iface ih
  | agg hs _ ih => exact .agg hs ih
  | tuple hs _ ih => exact .tuple hs ih
  | func hs _ ih => exact .func hs ih
  | yield h => exact .yield (hl _ _ h)

/-- What is related under the greater naming, and is related to something under the smaller one, is related under the smaller one. -/
theorem VRel.back {ρ ρ' : Ren} (hl : ρ.le ρ') {a c : Value} (h : VRel ρ a c) : ∀ d, VRel ρ' a d → VRel ρ a d := by
  induction h with
  | unk v => exact fun d _ => .unk d
  | bool b => intro d h; cases h; exact .bool b
  | int k n => intro d h; cases h; exact .int k n
  | string s => intro d h; cases h; exact .string s
  | nilPtr => intro d h; cases h; exact .nilPtr
  | nilSlice => intro d h; cases h; exact .nilSlice
  | nilMap => intro d h; cases h; exact .nilMap
  | nilFunc => intro d h; cases h; exact .nilFunc
  | nilIface => intro d h; cases h; exact .nilIface
  | ptr h => intro d h'; cases h' with | ptr h' => rw [hl _ _ h] at h'; cases h'; exact .ptr h
  | slice c h hn hc =>
    intro d h'
    cases h' with
    | slice c' h' hn' hc' => rw [hl _ _ h] at h'; cases h'; exact .slice c' h hn' hc'
    | slice0 a h' => exact .slice0 a h
  | slice0 a h =>
    intro d h'
    cases h' with
    | slice c' h' hn' hc' => rw [hl _ _ h] at h'; cases h'; exact .slice c' h hn' hc'
    | slice0 a h' => exact .slice0 a h
  | iface _ ih => intro d h'; cases h' with | iface h' => exact .iface (ih _ h')
  | agg hs _ ih => intro d h'; cases h' with | agg hs' h' => exact .agg hs' fun i => ih i _ (h' i)
  | tuple hs _ ih =>
    intro d h'
    cases h' with
    | unk => exact .unk _
    | tuple hs' h' => exact .tuple hs' fun i => ih i _ (h' i)
  | func hs _ ih => intro d h'; cases h' with | func hs' h' => exact .func hs' fun i => ih i _ (h' i)
  | yield h => intro d h'; cases h' with | yield h' => rw [hl _ _ h] at h'; cases h'; exact .yield h

/-- What is told of a block: how many cells; from which cell on they are its own; are the cells up to `ext` its own too? -/
structure Meta where
  size : Nat
  lock : Nat
  tail : Bool
  sz : Nat

/-- The abstract heap. -/
structure AH where
  info : Nat → Option Meta
  cell : Nat → Nat → Value

/-- An update of it. -/
structure Dl where
  info : Nat → Option (Option Meta)
  cell : Nat → Nat → Option Value

def AH.empty : AH := ⟨fun _ => none, fun _ _ => .tuple #[]⟩

def AH.app (h : AH) (d : Dl) : AH := ⟨fun b => (d.info b).getD (h.info b), fun b i => (d.cell b i).getD (h.cell b i)⟩

def Dl.nil : Dl := ⟨fun _ => none, fun _ _ => none⟩
/-- first d, then e -/
def Dl.comp (d e : Dl) : Dl := ⟨fun b => (e.info b).or (d.info b), fun b i => (e.cell b i).or (d.cell b i)⟩

theorem AH.app_nil (h : AH) : h.app .nil = h := rfl
theorem AH.app_comp (h : AH) (d e : Dl) : h.app (d.comp e) = (h.app d).app e := by
  simp only [AH.app, Dl.comp, AH.mk.injEq]
  constructor
  · funext b; cases e.info b <;> simp
  · funext b i; cases e.cell b i <;> simp
theorem Dl.nil_comp (d : Dl) : Dl.nil.comp d = d := by
  cases d; simp [Dl.nil, Dl.comp]
theorem Dl.comp_nil (d : Dl) : d.comp .nil = d := by
  cases d; simp [Dl.nil, Dl.comp]
theorem Dl.comp_assoc (a b c : Dl) : (a.comp b).comp c = a.comp (b.comp c) := by
  simp only [Dl.comp, Dl.mk.injEq]
  constructor
  · funext x; cases c.info x <;> simp
  · funext x i; cases c.cell x i <;> simp

/-- h tells less than H. -/
structure AH.le (h H : AH) : Prop where
  info : ∀ b m, h.info b = some m → H.info b = some m
  cell : ∀ b i, h.cell b i = .tuple #[] ∨ H.cell b i = h.cell b i

theorem AH.le.refl (h : AH) : h.le h := ⟨fun _ _ h => h, fun _ _ => .inr rfl⟩
theorem AH.le.trans {a b c : AH} (h : a.le b) (k : b.le c) : a.le c :=
  ⟨fun x m hx => k.info x m (h.info x m hx), fun x i => by
    rcases h.cell x i with h1 | h1
    · exact .inl h1
    · rcases k.cell x i with k1 | k1
      · exact .inl (h1 ▸ k1)
      · exact .inr (k1.trans h1)⟩
theorem AH.le.app {a b : AH} (h : a.le b) (d : Dl) : (a.app d).le (b.app d) :=
  ⟨fun x m hx => by
    simp only [AH.app] at hx ⊢
    cases hd : d.info x with
    | none => simp only [hd, Option.getD_none] at hx ⊢; exact h.info x m hx
    | some y => simp only [hd, Option.getD_some] at hx ⊢; exact hx,
   fun x i => by
    simp only [AH.app]
    cases d.cell x i with
    | none => exact h.cell x i
    | some y => exact .inr rfl⟩

def Own (m : Meta) (L : Loc) (i : Nat) : Prop := m.lock ≤ i ∧ i < (if m.tail then L.ext else m.size)

/-- World w is described by the heap h under the naming ρ, and below w0's blocks it is as w0. -/
structure Sim (w0 : World) (ρ : Ren) (h : AH) (w : World) : Prop where
  base : Below w0.heap.size w0 w
  fin : ∃ N, ∀ b, N ≤ b → ρ b = none
  info : ∀ b m, h.info b = some m → ∃ L, ρ b = some L ∧ L.sz = m.sz ∧ m.size ≤ L.ext ∧ m.lock ≤ m.size ∧
    ∀ i, Own m L i → w0.heap.size ≤ L.blk ∧ (∃ v, w.cell? ⟨L.blk, L.off + i, none⟩ = some v) ∧ w.frozen? ⟨L.blk, L.off + i, none⟩ = false
  cell : ∀ b i, h.cell b i ≠ .tuple #[] → ∃ L v, ρ b = some L ∧ w.cell? ⟨L.blk, L.off + i, none⟩ = some v ∧ VRel ρ (h.cell b i) v
  sep : ∀ b m L i, h.info b = some m → ρ b = some L → Own m L i → ∀ b' L' i', b' ≠ b → ρ b' = some L' →
    (h.cell b' i' ≠ .tuple #[] ∨ ∃ m', h.info b' = some m' ∧ Own m' L' i') → ¬ (L.blk = L'.blk ∧ L.off + i = L'.off + i')

theorem Sim.anti {w0 w : World} {ρ : Ren} {h H : AH} (hl : h.le H) (s : Sim w0 ρ H w) : Sim w0 ρ h w where
  base := s.base
  fin := s.fin
  info := fun b m hb => s.info b m (hl.info b m hb)
  cell := fun b i hb => by
    rcases hl.cell b i with h1 | h1
    · exact absurd h1 hb
    · have := s.cell b i (by rw [h1]; exact hb)
      rwa [h1] at this
  sep := fun b m L i hb hL hi b' L' i' hne hL' hor =>
    s.sep b m L i (hl.info b m hb) hL hi b' L' i' hne hL' (by
      rcases hor with h1 | ⟨m', h1, h2⟩
      · left
        rcases hl.cell b' i' with h2 | h2
        · exact absurd h2 h1
        · rw [h2]; exact h1
      · exact .inr ⟨m', hl.info b' m' h1, h2⟩)

/-- Whatever world: the empty heap describes it. -/
theorem Sim.start (w : World) : Sim w (fun _ => none) .empty w where
  base := .refl _ _
  fin := ⟨0, fun _ _ => rfl⟩
  info := fun _ _ h => by cases h
  cell := fun _ _ h => absurd rfl h
  sep := fun _ _ _ _ h => by cases h

/-- The world may change where nothing is told, from w0's blocks on. -/
theorem Sim.move {w0 w w' : World} {ρ : Ren} {h : AH} (s : Sim w0 ρ h w) (hb : Below w0.heap.size w0 w')
    (hc : ∀ b L i v, ρ b = some L → w.cell? ⟨L.blk, L.off + i, none⟩ = some v → w'.cell? ⟨L.blk, L.off + i, none⟩ = some v)
    (hf : ∀ b L i v, ρ b = some L → w.cell? ⟨L.blk, L.off + i, none⟩ = some v → w.frozen? ⟨L.blk, L.off + i, none⟩ = false → w'.frozen? ⟨L.blk, L.off + i, none⟩ = false) : Sim w0 ρ h w' where
  base := hb
  fin := s.fin
  info := fun b m hm => by
    obtain ⟨L, h1, hz, h2, h3, h4⟩ := s.info b m hm
    exact ⟨L, h1, hz, h2, h3, fun i hi => by
      obtain ⟨k1, ⟨v, k2⟩, k3⟩ := h4 i hi
      exact ⟨k1, ⟨v, hc b L i v h1 k2⟩, hf b L i v h1 k2 k3⟩⟩
  cell := fun b i hb => by
    obtain ⟨L, v, h1, h2, h3⟩ := s.cell b i hb
    exact ⟨L, v, h1, hc b L i v h1 h2, h3⟩
  sep := s.sep

theorem Sim.drawn {w0 w : World} {ρ : Ren} {h : AH} (s : Sim w0 ρ h w) (n : Nat) : Sim w0 ρ h { w with drawn := n } :=
  s.move ⟨s.base.os, s.base.tape, s.base.output, s.base.size, s.base.block⟩ (fun _ _ _ _ _ h => h) (fun _ _ _ _ _ _ h => h)

/-- The greater naming. -/
theorem Sim.grow {w0 w : World} {ρ ρ' : Ren} {h : AH} (s : Sim w0 ρ h w) (hl : ρ.le ρ') (hfin : ∃ N, ∀ b, N ≤ b → ρ' b = none)
    (hfree : ∀ b, ρ b = none → h.info b = none ∧ ∀ i, h.cell b i = .tuple #[]) : Sim w0 ρ' h w where
  base := s.base
  fin := hfin
  info := fun b m hm => by
    obtain ⟨L, h1, h2⟩ := s.info b m hm
    exact ⟨L, hl _ _ h1, h2⟩
  cell := fun b i hb => by
    obtain ⟨L, v, h1, h2, h3⟩ := s.cell b i hb
    exact ⟨L, v, hl _ _ h1, h2, h3.mono hl⟩
  sep := fun b m L i hb hL hi b' L' i' hne hL' hor => by
    obtain ⟨L1, h1, _⟩ := s.info b m hb
    have e := hl _ _ h1; rw [hL] at e; cases e
    have h2 : ∃ L2, ρ b' = some L2 := by
      cases hb' : ρ b' with
      | some L2 => exact ⟨L2, rfl⟩
      | none =>
        obtain ⟨f1, f2⟩ := hfree b' hb'
        rcases hor with k | ⟨m', k, _⟩
        · exact absurd (f2 i') k
        · rw [f1] at k; cases k
    obtain ⟨L2, h2⟩ := h2
    have e := hl _ _ h2; rw [hL'] at e; cases e
    exact s.sep b m L i hb h1 hi b' L' i' hne h2 hor

/-- What a heap tells of, the naming names. -/
theorem Sim.named {w0 w : World} {ρ : Ren} {h : AH} (s : Sim w0 ρ h w) (b : Nat) (hb : ρ b = none) : h.info b = none ∧ ∀ i, h.cell b i = .tuple #[] := by
  constructor
  · cases hm : h.info b with
    | none => rfl
    | some m => obtain ⟨L, h1, _⟩ := s.info b m hm; rw [hb] at h1; cases h1
  · intro i
    by_cases hc : h.cell b i = .tuple #[]
    · exact hc
    · obtain ⟨L, v, h1, _⟩ := s.cell b i hc; rw [hb] at h1; cases h1

theorem Sim.grow' {w0 w : World} {ρ ρ' : Ren} {h : AH} (s : Sim w0 ρ h w) (hl : ρ.le ρ') (hfin : ∃ N, ∀ b, N ≤ b → ρ' b = none) : Sim w0 ρ' h w := s.grow hl hfin s.named

end Go.Abs
