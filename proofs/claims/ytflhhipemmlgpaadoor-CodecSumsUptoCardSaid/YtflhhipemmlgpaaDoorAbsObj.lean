/- The abstract heap: values and blocks without tape, orders of evaluation and capacities, and what it means that a world of the model is described by it. -/
import Derived.Calls
import Derived.Orders
import Derived.Below
import Derived.Laws.Cells
import Derived.Laws.IdiomCopy
import Derived.RangeFuncRecord
set_option linter.unusedSimpArgs false
set_option linter.unusedVariables false
namespace Go.Abs
open Go.RowKit

theorem undef_eq : (undef : Value) = .tuple #[] := rfl

/-- Where an abstract block lies: from cell `off` of block `blk`; its slices end within `ext` cells; an element takes `sz` cells (0: it is no row of elements). -/
structure Loc where
  blk : Nat
  off : Nat
  ext : Nat
  sz : Nat

abbrev Ren := Nat → Option Loc

/-- What an operation yields that is not carried out. -/
abbrev skipV : Value := .chan (some 0)

inductive VRel (ρ : Ren) : Value → Value → Prop
  | unk (v : Value) : VRel ρ (.tuple #[]) v
  | bool (b : Bool) : VRel ρ (.bool b) (.bool b)
  | int (k : IntKind) (n : Int) : VRel ρ (.int k n) (.int k n)
  | string (s : ByteArray) : VRel ρ (.string s) (.string s)
  | nilPtr : VRel ρ (.pointer none) (.pointer none)
  | nilSlice : VRel ρ (.slice none 0 0) (.slice none 0 0)
  | nilMap : VRel ρ (.map none) (.map none)
  | nilFunc : VRel ρ .nilFunc .nilFunc
  | map {b : Nat} {L : Loc} (h : ρ b = some L) : VRel ρ (.map (some b)) (.map (some L.blk))
  | nilIface : VRel ρ .nilIface .nilIface
  | ptr {b : Nat} {o : Nat} {L : Loc} (h : ρ b = some L) : VRel ρ (.pointer (some ⟨b, o, none⟩)) (.pointer (some ⟨L.blk, L.off + o, none⟩))
  | slice {b o n : Nat} {L : Loc} (c : Nat) (h : ρ b = some L) (hn : n ≤ c) (hc : L.sz ≠ 0 → o + c * L.sz ≤ L.ext) :
      VRel ρ (.slice (some ⟨b, o, none⟩) n n) (.slice (some ⟨L.blk, L.off + o, none⟩) n c)
  | slice0 {b o : Nat} {L : Loc} (a : Addr) (h : ρ b = some L) : VRel ρ (.slice (some ⟨b, o, none⟩) 0 0) (.slice (some a) 0 0)
  | iface {t : TypeId} {x y : Value} (h : VRel ρ x y) : VRel ρ (.iface t x) (.iface t y)
  | agg {xs ys : Array Value} (hs : xs.size = ys.size) (h : ∀ i, VRel ρ (xs.getD i (.tuple #[])) (ys.getD i (.tuple #[]))) : VRel ρ (.agg xs) (.agg ys)
  | tuple {xs ys : Array Value} (hs : xs.size = ys.size) (h : ∀ i, VRel ρ (xs.getD i (.tuple #[])) (ys.getD i (.tuple #[]))) : VRel ρ (.tuple xs) (.tuple ys)
  | func {f : FuncId} {xs ys : Array Value} (hs : xs.size = ys.size) (h : ∀ i, VRel ρ (xs.getD i (.tuple #[])) (ys.getD i (.tuple #[]))) :
      VRel ρ (.func (.func f) #[] xs) (.func (.func f) #[] ys)
  | meth {nm : String} {x y : Value} (h : VRel ρ x y) : VRel ρ (.func (.method nm) #[x] #[]) (.func (.method nm) #[y] #[])
  | yield {l : Nat} {L : Loc} (h : ρ l = some L) : VRel ρ (.func (.yield l) #[] #[]) (.func (.yield L.blk) #[] #[])
  | skip : VRel ρ (.chan (some 0)) (.tuple #[])

/-- More blocks are named. -/
def Ren.le (ρ ρ' : Ren) : Prop := ∀ b L, ρ b = some L → ρ' b = some L
theorem Ren.le.refl (ρ : Ren) : ρ.le ρ := fun _ _ h => h
theorem Ren.le.trans {a b c : Ren} (h : a.le b) (k : b.le c) : a.le c := fun x L hx => k x L (h x L hx)

theorem VRel.mono {ρ ρ' : Ren} (hl : ρ.le ρ') {a c : Value} (h : VRel ρ a c) : VRel ρ' a c := by
  induction h with
  | unk v => exact .unk v
  | bool b => exact .bool b
  | int k n => exact .int k n
  | string s => exact .string s
  | nilPtr => exact .nilPtr
  | nilSlice => exact .nilSlice
  | nilMap => exact .nilMap
  | nilFunc => exact .nilFunc
  | map h => exact .map (hl _ _ h)
  | nilIface => exact .nilIface
  | ptr h => exact .ptr (hl _ _ h)
  | slice c h hn hc => exact .slice c (hl _ _ h) hn hc
  | slice0 a h => exact .slice0 a (hl _ _ h)
  | iface _ ih => exact .iface ih
  | agg hs _ ih => exact .agg hs ih
  | tuple hs _ ih => exact .tuple hs ih
  | func hs _ ih => exact .func hs ih
  | meth _ ih => exact .meth ih
  | yield h => exact .yield (hl _ _ h)
  | skip => exact .skip

/-- What is related under the greater naming, and is related to something under the smaller one, is related under the smaller one. -/
theorem VRel.back {ρ ρ' : Ren} (hl : ρ.le ρ') {a c : Value} (h : VRel ρ a c) : ∀ d, VRel ρ' a d → VRel ρ a d := by
  induction h with
  | unk v => exact fun d _ => .unk d
  | bool b => intro d h; cases h; exact .bool b
  | int k n => intro d h; cases h; exact .int k n
  | string s => intro d h; cases h; exact .string s
  | nilPtr => intro d h; cases h; exact .nilPtr
  | nilSlice => intro d h; cases h; exact .nilSlice
  | nilMap => intro d h; cases h; exact .nilMap
  | nilFunc => intro d h; cases h; exact .nilFunc
  | map h => intro d h'; cases h' with | map h' => rw [hl _ _ h] at h'; cases h'; exact .map h
  | nilIface => intro d h; cases h; exact .nilIface
  | ptr h => intro d h'; cases h' with | ptr h' => rw [hl _ _ h] at h'; cases h'; exact .ptr h
  | slice c h hn hc =>
    intro d h'
    cases h' with
    | slice c' h' hn' hc' => rw [hl _ _ h] at h'; cases h'; exact .slice c' h hn' hc'
    | slice0 a h' => exact .slice0 a h
  | slice0 a h =>
    intro d h'
    cases h' with
    | slice c' h' hn' hc' => rw [hl _ _ h] at h'; cases h'; exact .slice c' h hn' hc'
    | slice0 a h' => exact .slice0 a h
  | iface _ ih => intro d h'; cases h' with | iface h' => exact .iface (ih _ h')
  | agg hs _ ih => intro d h'; cases h' with | agg hs' h' => exact .agg hs' fun i => ih i _ (h' i)
  | tuple hs _ ih =>
    intro d h'
    cases h' with
    | unk => exact .unk _
    | tuple hs' h' => exact .tuple hs' fun i => ih i _ (h' i)
  | func hs _ ih => intro d h'; cases h' with | func hs' h' => exact .func hs' fun i => ih i _ (h' i)
  | meth _ ih => intro d h'; cases h' with | meth h' => exact .meth (ih _ h')
  | yield h => intro d h'; cases h' with | yield h' => rw [hl _ _ h] at h'; cases h'; exact .yield h
  | skip => intro d h; cases h; exact .skip

abbrev Env := List (Nat × Value)
def Env.get (env : Env) (t : Nat) : Value :=
  match env with
  | [] => .tuple #[]
  | (k, v) :: r => if Nat.beq k t then v else Env.get r t
def Env.put (env : Env) (d : Option Tmp) (v : Value) : Env :=
  match d with
  | some d => (d, v) :: env
  | none => env
structure EnvRel (ρ : Ren) (N : Nat) (env : Env) (tmps : Array Value) : Prop where
  size : tmps.size = N
  at_ : ∀ t, VRel ρ (env.get t) (tmps.getD t (.tuple #[]))
theorem EnvRel.mono {ρ ρ' : Ren} {N : Nat} {env : Env} {tmps : Array Value} (hl : ρ.le ρ') (h : EnvRel ρ N env tmps) : EnvRel ρ' N env tmps :=
  ⟨h.size, fun t => (h.at_ t).mono hl⟩

/-- A range over a function: its body, and what it is at. -/
structure ALoop where
  params : Array Tmp
  assign : Code
  body : Code
  N : Nat
  env : Env
  state : LoopState
  pending : Option Code

/-- An entry of a map. -/
structure AEnt where
  key : Value
  val : Value
  born : Nat

/-- What is no row of cells. -/
inductive AObj where
  | loop (a : ALoop)
  | map (l : List AEnt) (clock : Nat)
  | mapIter (map : Option Nat) (since : Nat) (seen : Array Nat) (stepped : Nat)
  | stringIter (s : ByteArray) (pos : Nat)

structure LoopRel (ρ : Ren) (a : ALoop) (r : Loop) : Prop where
  params : r.params = a.params
  assign : r.assign = a.assign
  body : r.body = a.body
  state : r.state = a.state
  pending : r.pending = a.pending
  env : EnvRel ρ a.N a.env r.tmps
structure EntRel (ρ : Ren) (a : AEnt) (e : MapEntry) : Prop where
  key : VRel ρ a.key e.key
  val : VRel ρ a.val e.val
  born : e.born = a.born
inductive EntsRel (ρ : Ren) : List AEnt → List MapEntry → Prop
  | nil : EntsRel ρ [] []
  | cons {a e l m} (h : EntRel ρ a e) (t : EntsRel ρ l m) : EntsRel ρ (a :: l) (e :: m)
inductive ORel (ρ : Ren) : AObj → Obj → Prop
  | loop {a r} (h : LoopRel ρ a r) : ORel ρ (.loop a) (.loop r)
  | map {l es c} (h : EntsRel ρ l es) : ORel ρ (.map l c) (.map es.toArray c)
  | mapIter0 {s k p} : ORel ρ (.mapIter none s k p) (.mapIter none s k p)
  | mapIter {b L s k p} (h : ρ b = some L) : ORel ρ (.mapIter (some b) s k p) (.mapIter (some L.blk) s k p)
  | stringIter {s p} : ORel ρ (.stringIter s p) (.stringIter s p)
theorem EntsRel.mono {ρ ρ' : Ren} (hl : ρ.le ρ') {l m} (h : EntsRel ρ l m) : EntsRel ρ' l m := by
  induction h with
  | nil => exact .nil
  | cons h _ ih => exact .cons ⟨h.key.mono hl, h.val.mono hl, h.born⟩ ih
theorem ORel.mono {ρ ρ' : Ren} (hl : ρ.le ρ') {o : AObj} {c : Obj} (h : ORel ρ o c) : ORel ρ' o c := by
  cases h with
  | loop h => exact .loop ⟨h.params, h.assign, h.body, h.state, h.pending, h.env.mono hl⟩
  | map h => exact .map (h.mono hl)
  | mapIter0 => exact .mapIter0
  | mapIter h => exact .mapIter (hl _ _ h)
  | stringIter => exact .stringIter
theorem ORel.cells {ρ : Ren} {o : AObj} {c : Obj} (h : ORel ρ o c) : ∀ x e f, c ≠ .cells x e f := by
  cases h <;> intro x e f h <;> cases h

theorem EntsRel.back {ρ ρ' : Ren} (hl : ρ.le ρ') {l : List AEnt} {m : List MapEntry} (h : EntsRel ρ l m) : ∀ d, EntsRel ρ' l d → EntsRel ρ l d := by
  induction h with
  | nil => intro d h'; cases h'; exact .nil
  | cons h _ ih => intro d h'; cases h' with | cons k t => exact .cons ⟨h.key.back hl _ k.key, h.val.back hl _ k.val, k.born⟩ (ih _ t)
theorem ORel.back {ρ ρ' : Ren} (hl : ρ.le ρ') {o : AObj} {c d : Obj} (h : ORel ρ o c) (h' : ORel ρ' o d) : ORel ρ o d := by
  cases h with
  | loop h => cases h' with | loop k => exact .loop ⟨k.params, k.assign, k.body, k.state, k.pending, k.env.size, fun t => (h.env.at_ t).back hl _ (k.env.at_ t)⟩
  | map h => cases h' with | map k => exact .map (h.back hl _ k)
  | mapIter0 => cases h'; exact .mapIter0
  | mapIter h => cases h' with | mapIter k => rw [hl _ _ h] at k; cases k; exact .mapIter h
  | stringIter => cases h'; exact .stringIter

/-- Are the cells up to `ext` a block's own too? Or is it no row of cells? -/
inductive Tail where
  | no
  | ext
  | obj (o : AObj)
def Tail.of : Bool → Tail
  | true => .ext
  | false => .no
instance : Coe Bool Tail := ⟨Tail.of⟩
def Tail.isExt : Tail → Bool
  | .ext => true
  | _ => false
@[simp] theorem Tail.isExt_of (b : Bool) : (Tail.of b).isExt = b := by cases b <;> rfl

/-- What is told of a block: how many cells; from which cell on they are its own; are the cells up to `ext` its own too? -/
structure Meta where
  size : Nat
  lock : Nat
  tail : Tail
  sz : Nat

/-- The abstract heap. -/
structure AH where
  info : Nat → Option Meta
  cell : Nat → Nat → Value

/-- An update of it. -/
structure Dl where
  info : Nat → Option (Option Meta)
  cell : Nat → Nat → Option Value

def AH.empty : AH := ⟨fun _ => none, fun _ _ => .tuple #[]⟩

def AH.app (h : AH) (d : Dl) : AH := ⟨fun b => (d.info b).getD (h.info b), fun b i => (d.cell b i).getD (h.cell b i)⟩

def Dl.nil : Dl := ⟨fun _ => none, fun _ _ => none⟩
/-- first d, then e -/
def Dl.comp (d e : Dl) : Dl := ⟨fun b => (e.info b).or (d.info b), fun b i => (e.cell b i).or (d.cell b i)⟩

theorem AH.app_nil (h : AH) : h.app .nil = h := rfl
theorem AH.app_comp (h : AH) (d e : Dl) : h.app (d.comp e) = (h.app d).app e := by
  simp only [AH.app, Dl.comp, AH.mk.injEq]
  constructor
  · funext b; cases e.info b <;> simp
  · funext b i; cases e.cell b i <;> simp
theorem Dl.nil_comp (d : Dl) : Dl.nil.comp d = d := by
  cases d; simp [Dl.nil, Dl.comp]
theorem Dl.comp_nil (d : Dl) : d.comp .nil = d := by
  cases d; simp [Dl.nil, Dl.comp]
theorem Dl.comp_assoc (a b c : Dl) : (a.comp b).comp c = a.comp (b.comp c) := by
  simp only [Dl.comp, Dl.mk.injEq]
  constructor
  · funext x; cases c.info x <;> simp
  · funext x i; cases c.cell x i <;> simp

/-- h tells less than H. -/
structure AH.le (h H : AH) : Prop where
  info : ∀ b m, h.info b = some m → H.info b = some m
  cell : ∀ b i, h.cell b i = .tuple #[] ∨ H.cell b i = h.cell b i

theorem AH.le.refl (h : AH) : h.le h := ⟨fun _ _ h => h, fun _ _ => .inr rfl⟩
theorem AH.le.trans {a b c : AH} (h : a.le b) (k : b.le c) : a.le c :=
  ⟨fun x m hx => k.info x m (h.info x m hx), fun x i => by
    rcases h.cell x i with h1 | h1
    · exact .inl h1
    · rcases k.cell x i with k1 | k1
      · exact .inl (h1 ▸ k1)
      · exact .inr (k1.trans h1)⟩
theorem AH.le.app {a b : AH} (h : a.le b) (d : Dl) : (a.app d).le (b.app d) :=
  ⟨fun x m hx => by
    simp only [AH.app] at hx ⊢
    cases hd : d.info x with
    | none => simp only [hd, Option.getD_none] at hx ⊢; exact h.info x m hx
    | some y => simp only [hd, Option.getD_some] at hx ⊢; exact hx,
   fun x i => by
    simp only [AH.app]
    cases d.cell x i with
    | none => exact h.cell x i
    | some y => exact .inr rfl⟩

def Own (m : Meta) (L : Loc) (i : Nat) : Prop := m.lock ≤ i ∧ i < (if m.tail.isExt = true then L.ext else m.size)

/-- Where a proof stands: a world whose blocks stay; the blocks of deferred calls that wait; the loops over functions that a round is of. -/
structure Base where
  w : World
  marks : List Nat
  rounds : List Nat

structure Keeps (w0 : Base) (w : World) : Prop where
  nodup : w0.marks.Nodup
  marks : ∀ r, r ∈ w0.marks → w0.w.heap.size ≤ r ∧ w.heap[r]? = some (.deferred (some []))
  rounds : ∀ l, l ∈ w0.rounds → ∃ r, w.heap[l]? = some (.loop r)

/-- What is frozen of a row lies behind all its cells. -/
def Clear (w : World) (l : Nat) : Prop := ∀ c e lo hi, w.heap[l]? = some (.cells c e (lo, hi)) → lo = hi ∨ c.size ≤ lo
theorem Clear.of {w w' : World} {l : Nat} (h : Clear w l) (e : w'.heap[l]? = w.heap[l]?) : Clear w' l := fun c t lo hi k => h c t lo hi (e ▸ k)
theorem Clear.frozen {w : World} {l o : Nat} {v : Value} (h : Clear w l) (hc : w.cell? ⟨l, o, none⟩ = some v) : w.frozen? ⟨l, o, none⟩ = false := by
  unfold World.cell? at hc
  unfold World.frozen?
  dsimp only at hc ⊢
  cases hq : w.heap[l]? with
  | none => rfl
  | some b =>
    rw [hq] at hc
    cases b with
    | cells c e fz =>
      obtain ⟨lo, hi⟩ := fz
      have hc : c[o]? = some v := hc
      have hlt := (Array.getElem?_eq_some_iff.1 hc).1
      have := h c e lo hi hq
      simp only [Bool.and_eq_false_iff, decide_eq_false_iff_not]
      omega
    | _ => rfl
theorem Clear.setCell {w : World} {l : Nat} (h : Clear w l) (a : Addr) (v : Value) : Clear (w.setCell a v) l := fun c t lo hi k => by
  simp only [World.setCell, Array.getElem?_modify] at k
  split at k
  · cases hq : w.heap[l]? with
    | none => rw [hq] at k; cases k
    | some o =>
      rw [hq] at k
      cases o with
      | cells c' t' fz =>
        simp only [Option.map_some, Option.some.injEq, Obj.cells.injEq] at k
        obtain ⟨k1, k2, k3⟩ := k
        have := h c' t' lo hi (by rw [hq, k3])
        rw [← k1]
        split <;> simpa using this
      | _ => simp at k
  · exact h c t lo hi k
/-- World w is described by the heap h under the naming ρ, and below w0's blocks it is as w0. -/
structure Sim (w0 : Base) (ρ : Ren) (h : AH) (w : World) : Prop where
  base : Below w0.w.heap.size w0.w w
  keep : Keeps w0 w
  fin : ∃ N, ∀ b, N ≤ b → ρ b = none
  info : ∀ b m, h.info b = some m → ∃ L, ρ b = some L ∧ L.sz = m.sz ∧ m.size ≤ L.ext ∧ m.lock ≤ m.size ∧
    ∀ i, Own m L i → w0.w.heap.size ≤ L.blk ∧ (∃ v, w.cell? ⟨L.blk, L.off + i, none⟩ = some v) ∧ Clear w L.blk
  cell : ∀ b i, h.cell b i ≠ .tuple #[] → ∃ L v, ρ b = some L ∧ w.cell? ⟨L.blk, L.off + i, none⟩ = some v ∧ VRel ρ (h.cell b i) v
  sep : ∀ b m L i, h.info b = some m → ρ b = some L → Own m L i → ∀ b' L' i', b' ≠ b → ρ b' = some L' →
    (h.cell b' i' ≠ .tuple #[] ∨ ∃ m', h.info b' = some m' ∧ Own m' L' i') → ¬ (L.blk = L'.blk ∧ L.off + i = L'.off + i')
  obj : ∀ b m o, h.info b = some m → m.tail = .obj o → ∃ L c, ρ b = some L ∧ L.off = 0 ∧ w0.w.heap.size ≤ L.blk ∧ w.heap[L.blk]? = some c ∧ ORel ρ o c
  osep : ∀ b m o b' m' o' L L', h.info b = some m → m.tail = .obj o → h.info b' = some m' → m'.tail = .obj o' → ρ b = some L → ρ b' = some L' → L.blk = L'.blk → b = b'

section
variable {w0 : Base} {ρ ρ' : Ren} {h H : AH} {w w' : World}
/-- No object of a kind other than cells goes. -/
def KeepsObjs (w w' : World) : Prop := ∀ (l : Nat) (o : Obj), w.heap[l]? = some o → (∀ c e f, o ≠ Obj.cells c e f) → w'.heap[l]? = some o
theorem Keeps.move (k : Keeps w0 w) (hk : KeepsObjs w w') : Keeps w0 w' :=
  ⟨k.nodup, fun r hr => ⟨(k.marks r hr).1, hk _ _ (k.marks r hr).2 (fun _ _ _ e => by cases e)⟩, fun l hl => by
    obtain ⟨r, h1⟩ := k.rounds l hl
    exact ⟨r, hk _ _ h1 (fun _ _ _ e => by cases e)⟩⟩
theorem obj_move {o : AObj} {b : Nat} (hk : KeepsObjs w w') (h : ∃ L c, ρ b = some L ∧ L.off = 0 ∧ w0.w.heap.size ≤ L.blk ∧ w.heap[L.blk]? = some c ∧ ORel ρ o c) :
    ∃ L c, ρ b = some L ∧ L.off = 0 ∧ w0.w.heap.size ≤ L.blk ∧ w'.heap[L.blk]? = some c ∧ ORel ρ o c := by
  obtain ⟨L, c, h1, h2, h3, h4, h5⟩ := h
  exact ⟨L, c, h1, h2, h3, hk _ _ h4 h5.cells, h5⟩
theorem obj_grow {o : AObj} {b : Nat} (hl : ρ.le ρ') (h : ∃ L c, ρ b = some L ∧ L.off = 0 ∧ w0.w.heap.size ≤ L.blk ∧ w.heap[L.blk]? = some c ∧ ORel ρ o c) :
    ∃ L c, ρ' b = some L ∧ L.off = 0 ∧ w0.w.heap.size ≤ L.blk ∧ w.heap[L.blk]? = some c ∧ ORel ρ' o c := by
  obtain ⟨L, c, h1, h2, h3, h4, h5⟩ := h
  exact ⟨L, c, hl _ _ h1, h2, h3, h4, h5.mono hl⟩
end

theorem Sim.anti {w0 : Base} {w : World} {ρ : Ren} {h H : AH} (hl : h.le H) (s : Sim w0 ρ H w) : Sim w0 ρ h w where
  base := s.base
  keep := s.keep
  fin := s.fin
  info := fun b m hb => s.info b m (hl.info b m hb)
  cell := fun b i hb => by
    rcases hl.cell b i with h1 | h1
    · exact absurd h1 hb
    · have := s.cell b i (by rw [h1]; exact hb)
      rwa [h1] at this
  sep := fun b m L i hb hL hi b' L' i' hne hL' hor =>
    s.sep b m L i (hl.info b m hb) hL hi b' L' i' hne hL' (by
      rcases hor with h1 | ⟨m', h1, h2⟩
      · left
        rcases hl.cell b' i' with h2 | h2
        · exact absurd h2 h1
        · rw [h2]; exact h1
      · exact .inr ⟨m', hl.info b' m' h1, h2⟩)
  obj := fun b m o hb ho => s.obj b m o (hl.info b m hb) ho
  osep := fun b m o b' m' o' L L' hb ho hb' ho' => s.osep b m o b' m' o' L L' (hl.info b m hb) ho (hl.info b' m' hb') ho'

/-- Whatever world: the empty heap describes it. -/
def Base.start (w : World) : Base := ⟨w, [], []⟩
theorem Sim.start (w : World) : Sim (.start w) (fun _ => none) .empty w where
  base := .refl _ _
  keep := ⟨.nil, (fun _ h => by cases h), (fun _ h => by cases h)⟩
  fin := ⟨0, fun _ _ => rfl⟩
  info := fun _ _ h => by cases h
  cell := fun _ _ h => absurd rfl h
  sep := fun _ _ _ _ h => by cases h
  obj := fun _ _ _ h => by cases h
  osep := fun _ _ _ _ _ _ _ _ h => by cases h

/-- The world may change where nothing is told, from w0's blocks on. -/
theorem Sim.move {w0 : Base} {w w' : World} {ρ : Ren} {h : AH} (s : Sim w0 ρ h w) (hb : Below w0.w.heap.size w0.w w') (hk : KeepsObjs w w')
    (hc : ∀ b L i v, ρ b = some L → w.cell? ⟨L.blk, L.off + i, none⟩ = some v → w'.cell? ⟨L.blk, L.off + i, none⟩ = some v)
    (hf : ∀ b L i v, ρ b = some L → w.cell? ⟨L.blk, L.off + i, none⟩ = some v → Clear w L.blk → Clear w' L.blk) : Sim w0 ρ h w' where
  base := hb
  keep := s.keep.move hk
  fin := s.fin
  info := fun b m hm => by
    obtain ⟨L, h1, hz, h2, h3, h4⟩ := s.info b m hm
    exact ⟨L, h1, hz, h2, h3, fun i hi => by
      obtain ⟨k1, ⟨v, k2⟩, k3⟩ := h4 i hi
      exact ⟨k1, ⟨v, hc b L i v h1 k2⟩, hf b L i v h1 k2 k3⟩⟩
  cell := fun b i hb => by
    obtain ⟨L, v, h1, h2, h3⟩ := s.cell b i hb
    exact ⟨L, v, h1, hc b L i v h1 h2, h3⟩
  sep := s.sep
  obj := fun b m o hb ho => obj_move hk (s.obj b m o hb ho)
  osep := s.osep

theorem Sim.drawn {w0 : Base} {w : World} {ρ : Ren} {h : AH} (s : Sim w0 ρ h w) (n : Nat) : Sim w0 ρ h { w with drawn := n } :=
  s.move ⟨s.base.os, s.base.tape, s.base.output, s.base.size, s.base.block⟩ (fun _ _ h _ => h) (fun _ _ _ _ _ h => h) (fun _ _ _ _ _ _ h => h)

/-- The greater naming. -/
theorem Sim.grow {w0 : Base} {w : World} {ρ ρ' : Ren} {h : AH} (s : Sim w0 ρ h w) (hl : ρ.le ρ') (hfin : ∃ N, ∀ b, N ≤ b → ρ' b = none)
    (hfree : ∀ b, ρ b = none → h.info b = none ∧ ∀ i, h.cell b i = .tuple #[]) : Sim w0 ρ' h w where
  base := s.base
  keep := s.keep
  fin := hfin
  info := fun b m hm => by
    obtain ⟨L, h1, h2⟩ := s.info b m hm
    exact ⟨L, hl _ _ h1, h2⟩
  cell := fun b i hb => by
    obtain ⟨L, v, h1, h2, h3⟩ := s.cell b i hb
    exact ⟨L, v, hl _ _ h1, h2, h3.mono hl⟩
  sep := fun b m L i hb hL hi b' L' i' hne hL' hor => by
    obtain ⟨L1, h1, _⟩ := s.info b m hb
    have e := hl _ _ h1; rw [hL] at e; cases e
    have h2 : ∃ L2, ρ b' = some L2 := by
      cases hb' : ρ b' with
      | some L2 => exact ⟨L2, rfl⟩
      | none =>
        obtain ⟨f1, f2⟩ := hfree b' hb'
        rcases hor with k | ⟨m', k, _⟩
        · exact absurd (f2 i') k
        · rw [f1] at k; cases k
    obtain ⟨L2, h2⟩ := h2
    have e := hl _ _ h2; rw [hL'] at e; cases e
    exact s.sep b m L i hb h1 hi b' L' i' hne h2 hor
  obj := fun b m o hb ho => obj_grow hl (s.obj b m o hb ho)
  osep := fun b m o b' m' o' L L' hb ho hb' ho' hL hL' he => by
    obtain ⟨L1, _, h1, _⟩ := s.obj b m o hb ho
    obtain ⟨L2, _, h2, _⟩ := s.obj b' m' o' hb' ho'
    have e1 := hl _ _ h1; rw [hL] at e1; cases e1
    have e2 := hl _ _ h2; rw [hL'] at e2; cases e2
    exact s.osep b m o b' m' o' L L' hb ho hb' ho' h1 h2 he

/-- What a heap tells of, the naming names. -/
theorem Sim.named {w0 : Base} {w : World} {ρ : Ren} {h : AH} (s : Sim w0 ρ h w) (b : Nat) (hb : ρ b = none) : h.info b = none ∧ ∀ i, h.cell b i = .tuple #[] := by
  constructor
  · cases hm : h.info b with
    | none => rfl
    | some m => obtain ⟨L, h1, _⟩ := s.info b m hm; rw [hb] at h1; cases h1
  · intro i
    by_cases hc : h.cell b i = .tuple #[]
    · exact hc
    · obtain ⟨L, v, h1, _⟩ := s.cell b i hc; rw [hb] at h1; cases h1

theorem Sim.grow' {w0 : Base} {w : World} {ρ ρ' : Ren} {h : AH} (s : Sim w0 ρ h w) (hl : ρ.le ρ') (hfin : ∃ N, ∀ b, N ≤ b → ρ' b = none) : Sim w0 ρ' h w := s.grow hl hfin s.named

end Go.Abs

/- Steps of memory, told of the abstract heap: a new block, a store, slack taken by an append, what is given up. -/
namespace Go.Abs
open Go.RowKit

def Ren.set (ρ : Ren) (n : Nat) (L : Loc) : Ren := fun b => if b = n then some L else ρ b
theorem Ren.le_set {ρ : Ren} {n : Nat} (hn : ρ n = none) (L : Loc) : ρ.le (ρ.set n L) := fun b K h => by
  unfold Ren.set
  by_cases e : b = n
  · subst e; rw [hn] at h; cases h
  · rw [if_neg e]; exact h
theorem Ren.set_fin {ρ : Ren} (h : ∃ N, ∀ b, N ≤ b → ρ b = none) (n : Nat) (L : Loc) : ∃ N, ∀ b, N ≤ b → ρ.set n L b = none := by
  obtain ⟨N, h⟩ := h
  exact ⟨max N (n + 1), fun b hb => by unfold Ren.set; rw [if_neg (by omega)]; exact h b (by omega)⟩
theorem Ren.set_self (ρ : Ren) (n : Nat) (L : Loc) : ρ.set n L n = some L := by simp [Ren.set]
theorem Ren.set_ne (ρ : Ren) {n b : Nat} (L : Loc) (h : b ≠ n) : ρ.set n L b = ρ b := by simp [Ren.set, h]

/-- A new block n. -/
@[irreducible] def Dl.new (n : Nat) (m : Meta) (cs : List Value) : Dl :=
  ⟨fun b => if b = n then some (some m) else none, fun b i => if b = n then some (cs.getD i (.tuple #[])) else none⟩
/-- Cells of block b from o on. -/
@[irreducible] def Dl.sets (b o : Nat) (vs : List Value) : Dl :=
  ⟨fun _ => none, fun x i => if x = b ∧ o ≤ i ∧ i < o + vs.length then some (vs.getD (i - o) (.tuple #[])) else none⟩

theorem sets_info (h : AH) (b o : Nat) (vs : List Value) (x : Nat) : (h.app (.sets b o vs)).info x = h.info x := by unfold Dl.sets; rfl
theorem getD_none_lt {cs : List Value} {i : Nat} (h : cs.getD i (.tuple #[]) ≠ .tuple #[]) : i < cs.length := by
  rcases Nat.lt_or_ge i cs.length with h1 | h1
  · exact h1
  · exact absurd (by simp [List.getD, List.getElem?_eq_none h1]) h

theorem World.cell?_alloc_some {w : World} {a : Addr} {v : Value} (o : Obj) (h : w.cell? a = some v) : (w.alloc o).cell? a = some v := by
  rw [World.cell?_alloc_lt _ _ _ (World.block_lt_of_cell? _ _ h)]; exact h
theorem World.frozen?_alloc_some {w : World} {a : Addr} {v : Value} (o : Obj) (h : w.cell? a = some v) : (w.alloc o).frozen? a = w.frozen? a :=
  World.frozen?_alloc_old _ _ _ (Nat.ne_of_lt (World.block_lt_of_cell? _ _ h))

theorem KeepsObjs.alloc (w : World) (x : Obj) : KeepsObjs w (w.alloc x) := fun l o h _ => by
  have hl : l < w.heap.size := (Array.getElem?_eq_some_iff.1 h).1
  simp only [World.alloc, Array.getElem?_push]
  rw [if_neg (by omega)]; exact h
theorem KeepsObjs.setCell (w : World) (a : Addr) (v : Value) : KeepsObjs w (w.setCell a v) := fun l o h hc => by
  simp only [World.setCell, Array.getElem?_modify]
  split
  · rw [h]
    cases o <;> first | rfl | exact absurd rfl (hc _ _ _)
  · exact h

theorem Sim.alloc {w0 : Base} {w : World} {ρ : Ren} {h : AH} (s : Sim w0 ρ h w) (o : Obj) : Sim w0 ρ h (w.alloc o) :=
  s.move (s.base.alloc s.base.size o) (.alloc w o) (fun _ _ _ _ _ h => World.cell?_alloc_some o h) (fun _ _ _ _ _ h hf => hf.of (Below.heap_alloc w o _ (World.block_lt_of_cell? _ _ h)))

theorem Sim.new {w0 : Base} {w : World} {ρ : Ren} {h : AH} (s : Sim w0 ρ h w) {n : Nat} (hn : ρ n = none) (cs : List Value) (conc : Array Value) (elem : TypeId) (sz : Nat)
    (hsz : cs.length ≤ conc.size) (hv : ∀ i, i < cs.length → VRel ρ (cs.getD i (.tuple #[])) (conc.getD i (.tuple #[]))) :
    Sim w0 (ρ.set n ⟨w.heap.size, 0, conc.size, sz⟩) (h.app (.new n ⟨cs.length, 0, true, sz⟩ cs)) (w.alloc (.cells conc elem)) := by
  have s1 := (s.alloc (.cells conc elem)).grow' (Ren.le_set hn ⟨w.heap.size, 0, conc.size, sz⟩) (Ren.set_fin s.fin _ _)
  have hnamed := s.named n hn
  have hcell : ∀ b i, (h.app (.new n ⟨cs.length, 0, true, sz⟩ cs)).cell b i = if b = n then cs.getD i (.tuple #[]) else h.cell b i := by
    intro b i; by_cases e : b = n <;> simp [AH.app, Dl.new, e]
  have hinfo : ∀ b, (h.app (.new n ⟨cs.length, 0, true, sz⟩ cs)).info b = if b = n then some ⟨cs.length, 0, true, sz⟩ else h.info b := by
    intro b; by_cases e : b = n <;> simp [AH.app, Dl.new, e]
  have hgt : ∀ i, i < conc.size → (w.alloc (.cells conc elem)).cell? ⟨w.heap.size, 0 + i, none⟩ = some (conc.getD i (.tuple #[])) := by
    intro i hi
    rw [World.cell?_alloc_new]; simp [hi]
  have hold : ∀ b L, b ≠ n → (ρ.set n ⟨w.heap.size, 0, conc.size, sz⟩) b = some L → (h.cell b · ≠ .tuple #[]) = (h.cell b · ≠ .tuple #[]) := fun _ _ _ _ => rfl
  -- a block that is told of lies in an older block of the world
  have hlt : ∀ b L i, b ≠ n → ρ b = some L → (h.cell b i ≠ .tuple #[] ∨ ∃ m', h.info b = some m' ∧ Own m' L i) → L.blk < w.heap.size := by
    intro b L i hb hL hor
    rcases hor with h1 | ⟨m', h1, h2⟩
    · obtain ⟨L', v, k1, k2, _⟩ := s.cell b i h1
      rw [hL] at k1; cases k1
      exact World.block_lt_of_cell? _ _ k2
    · obtain ⟨L', k1, _, _, _, k3⟩ := s.info b m' h1
      rw [hL] at k1; cases k1
      obtain ⟨_, ⟨v, k4⟩, _⟩ := k3 i h2
      exact World.block_lt_of_cell? _ _ k4
  have hobj : ∀ b m o, (h.app (.new n ⟨cs.length, 0, true, sz⟩ cs)).info b = some m → m.tail = .obj o → b ≠ n ∧ h.info b = some m := by
    intro b m o hm ho
    rw [hinfo] at hm
    by_cases e : b = n
    · rw [if_pos e] at hm; cases hm; cases ho
    · rw [if_neg e] at hm; exact ⟨e, hm⟩
  refine ⟨s1.base, s1.keep, s1.fin, ?_, ?_, ?_, fun b m o hm ho => s1.obj b m o (hobj b m o hm ho).2 ho, fun b m o b' m' o' L L' hm ho hm' ho' => s1.osep b m o b' m' o' L L' (hobj b m o hm ho).2 ho (hobj b' m' o' hm' ho').2 ho'⟩
  · intro b m hm
    rw [hinfo] at hm
    by_cases e : b = n
    · subst e
      rw [if_pos rfl] at hm; cases hm
      refine ⟨_, Ren.set_self _ _ _, rfl, hsz, Nat.zero_le _, fun i hi => ⟨s.base.size, ?_, ?_⟩⟩
      · have : i < conc.size := by simpa [Own] using hi.2
        exact ⟨_, hgt i this⟩
      · intro c t lo hi hh
        have hq : (w.heap.push (Obj.cells conc elem))[w.heap.size]? = some (.cells conc elem) := by simp
        have hh : (w.heap.push (Obj.cells conc elem))[w.heap.size]? = some (.cells c t (lo, hi)) := hh
        rw [hq] at hh; cases hh; exact .inl rfl
    · rw [if_neg e] at hm; exact s1.info b m hm
  · intro b i hb
    rw [hcell] at hb ⊢
    by_cases e : b = n
    · subst e
      rw [if_pos rfl] at hb ⊢
      have hi := getD_none_lt hb
      exact ⟨_, _, Ren.set_self _ _ _, hgt i (by omega), (hv i hi).mono (Ren.le_set hn _)⟩
    · rw [if_neg e] at hb ⊢; exact s1.cell b i hb
  · intro b m L i hm hL hi b' L' i' hne hL' hor
    rw [hinfo] at hm
    rw [hcell, hinfo] at hor
    by_cases e : b = n
    · subst e
      rw [Ren.set_self] at hL; cases hL
      rw [if_neg hne, if_neg hne] at hor
      rw [Ren.set_ne _ _ hne] at hL'
      have := hlt b' L' i' hne hL' hor
      rintro ⟨h1, _⟩
      simp only at h1; omega
    · rw [if_neg e] at hm
      by_cases e' : b' = n
      · subst e'
        rw [Ren.set_self] at hL'; cases hL'
        rw [Ren.set_ne _ _ e] at hL
        have := hlt b L i e hL (.inr ⟨m, hm, hi⟩)
        rintro ⟨h1, _⟩
        simp only at h1; omega
      · rw [if_neg e', if_neg e'] at hor
        exact s1.sep b m L i hm hL hi b' L' i' hne hL' hor

/-- One store into a cell that is its block's own. -/
theorem Sim.store1 {w0 : Base} {w : World} {ρ : Ren} {h : AH} (s : Sim w0 ρ h w) {b : Nat} {m : Meta} {L : Loc} {i : Nat} (hm : h.info b = some m) (hL : ρ b = some L) (hi : Own m L i)
    {a c : Value} (hv : VRel ρ a c) : Sim w0 ρ (h.app (.sets b i [a])) (w.setCell ⟨L.blk, L.off + i, none⟩ c) := by
  obtain ⟨L', e, hzz, h2, h3, h4⟩ := s.info b m hm
  rw [hL] at e; cases e
  obtain ⟨hbase, ⟨u, hu⟩, hfz⟩ := h4 i hi
  have hcell : ∀ x j, (h.app (.sets b i [a])).cell x j = if x = b ∧ j = i then a else h.cell x j := by
    intro x j
    by_cases e : x = b ∧ j = i
    · obtain ⟨rfl, rfl⟩ := e; simp [AH.app, Dl.sets]
    · have : ¬ (x = b ∧ i ≤ j ∧ j < i + [a].length) := by simp; omega
      simp only [AH.app, Dl.sets, if_neg this, Option.getD_none, if_neg e]
  have hinfo : ∀ x, (h.app (.sets b i [a])).info x = h.info x := fun x => sets_info h b i [a] x
  refine ⟨s.base.setCell hbase c, s.keep.move (.setCell w _ _), s.fin, ?_, ?_, ?_, fun b m o hm ho => obj_move (.setCell w _ _) (s.obj b m o (hinfo b ▸ hm) ho), fun b m o b' m' o' L L' hb ho hb' ho' => s.osep b m o b' m' o' L L' (hinfo b ▸ hb) ho (hinfo b' ▸ hb') ho'⟩
  · intro x mx hx
    rw [hinfo] at hx
    obtain ⟨K, k1, kz, k2, k3, k4⟩ := s.info x mx hx
    refine ⟨K, k1, kz, k2, k3, fun j hj => ?_⟩
    obtain ⟨q1, ⟨v, q2⟩, q3⟩ := k4 j hj
    refine ⟨q1, ?_, q3.setCell _ _⟩
    by_cases e : (⟨L.blk, L.off + i, none⟩ : Addr) = ⟨K.blk, K.off + j, none⟩
    · rw [← e]; exact ⟨c, World.cell?_setCell_same _ _ _ hu⟩
    · rw [World.cell?_setCell_other _ _ _ _ e]; exact ⟨v, q2⟩
  · intro x j hx
    rw [hcell] at hx ⊢
    by_cases e : x = b ∧ j = i
    · obtain ⟨rfl, rfl⟩ := e
      rw [if_pos ⟨rfl, rfl⟩]
      exact ⟨L, c, hL, World.cell?_setCell_same _ _ _ hu, hv⟩
    · rw [if_neg e] at hx ⊢
      obtain ⟨K, v, k1, k2, k3⟩ := s.cell x j hx
      refine ⟨K, v, k1, ?_, k3⟩
      rw [World.cell?_setCell_other _ _ _ _ ?_]
      · exact k2
      · intro heq
        injection heq with h5 h6
        by_cases exb : x = b
        · subst exb
          rw [hL] at k1; cases k1
          exact e ⟨rfl, by omega⟩
        · exact s.sep b m L i hm hL hi x K j exb k1 (.inl hx) ⟨h5, h6⟩
  · intro x mx K j hx hK hj x' K' j' hne hK' hor
    rw [hinfo] at hx
    rw [hcell, hinfo] at hor
    by_cases e : x' = b ∧ j' = i
    · obtain ⟨rfl, rfl⟩ := e
      rw [hL] at hK'; cases hK'
      exact s.sep x mx K j hx hK hj x' L j' hne hL (.inr ⟨m, hm, hi⟩)
    · rw [if_neg e] at hor
      exact s.sep x mx K j hx hK hj x' K' j' hne hK' hor

theorem sets_cons (b o : Nat) (v : Value) (r : List Value) : (Dl.sets b o [v]).comp (.sets b (o + 1) r) = .sets b o (v :: r) := by
  simp only [Dl.comp, Dl.sets, Dl.mk.injEq]
  constructor
  · funext x; rfl
  · funext x i
    by_cases hx : x = b
    · subst hx
      by_cases h0 : i = o
      · subst h0
        have h1 : ¬ (x = x ∧ i + 1 ≤ i ∧ i < i + 1 + r.length) := by omega
        rw [if_neg h1, if_pos (by simp), if_pos (by simp)]; simp
      · by_cases h1 : o + 1 ≤ i ∧ i < o + 1 + r.length
        · have h2 : o ≤ i ∧ i < o + (v :: r).length := by simp; omega
          simp only [true_and, if_pos h1, if_pos h2, Option.some_or]
          congr 1
          have : i - o = (i - (o + 1)) + 1 := by omega
          rw [this]; simp [List.getD]
        · have h2 : ¬ (o ≤ i ∧ i < o + (v :: r).length) := by simp at h1 ⊢; omega
          have h3 : ¬ (o ≤ i ∧ i < o + [v].length) := by simp; omega
          simp only [true_and, if_neg h1, if_neg h2, if_neg h3, Option.or_none]
    · simp [hx]
theorem sets_nil (b o : Nat) : Dl.sets b o [] = .nil := by
  simp only [Dl.sets, Dl.nil, Dl.mk.injEq, true_and]
  funext x i
  rw [if_neg]; rintro ⟨_, h1, h2⟩; simp at h2; omega

/-- A row of stores. -/
theorem Sim.stores {w0 : Base} {ρ : Ren} {b : Nat} {m : Meta} {L : Loc} (hL : ρ b = some L) : ∀ (vs cs : List Value) (o : Nat) {w : World} {h : AH} (_ : Sim w0 ρ h w) (_ : h.info b = some m),
    vs.length = cs.length → (∀ j, j < vs.length → Own m L (o + j)) → (∀ j, j < vs.length → VRel ρ (vs.getD j (.tuple #[])) (cs.getD j (.tuple #[]))) →
    Sim w0 ρ (h.app (.sets b o vs)) (w.setCells L.blk (L.off + o) cs)
  | [], [], o, w, h, s, _, _, _, _ => by rw [sets_nil]; exact s
  | v :: r, c :: q, o, w, h, s, hm, hlen, ho, hv => by
    have s1 := s.store1 hm hL (i := o) (by simpa using ho 0 (by simp)) (a := v) (c := c) (by simpa using hv 0 (by simp))
    have s2 := Sim.stores hL r q (o + 1) s1 (by rw [sets_info]; exact hm) (by simpa using hlen) (fun j hj => by have := ho (j + 1) (by simpa using hj); rwa [show o + 1 + j = o + (j + 1) by omega])
      (fun j hj => by simpa using hv (j + 1) (by simpa using hj))
    rw [← AH.app_comp, sets_cons] at s2
    simpa [World.setCells, Nat.add_assoc] using s2
  | [], _ :: _, _, _, _, _, _, h, _, _ => by simp at h
  | _ :: _, [], _, _, _, _, _, h, _, _ => by simp at h

/-- Less is told: a block gives up cells of its own, or all that is told of it. -/
theorem Sim.shrink {w0 : Base} {w : World} {ρ : Ren} {h H : AH} (s : Sim w0 ρ H w)
    (hi : ∀ b m', h.info b = some m' → ∃ m, H.info b = some m ∧ m'.sz = m.sz ∧ m'.size ≤ m.size ∧ m'.lock ≤ m'.size ∧ ∀ L i, ρ b = some L → Own m' L i → Own m L i) (hk : ∀ b m' o, h.info b = some m' → m'.tail = .obj o → H.info b = some m')
    (hc : ∀ b i, h.cell b i = .tuple #[] ∨ H.cell b i = h.cell b i) : Sim w0 ρ h w where
  base := s.base
  keep := s.keep
  fin := s.fin
  info := fun b m' hb => by
    obtain ⟨m, h1, hz, h2, h3, h4⟩ := hi b m' hb
    obtain ⟨L, k1, kz, k2, k3, k4⟩ := s.info b m h1
    exact ⟨L, k1, kz.trans hz.symm, by omega, h3, fun i hi => k4 i (h4 L i k1 hi)⟩
  cell := fun b i hb => by
    rcases hc b i with h1 | h1
    · exact absurd h1 hb
    · have := s.cell b i (by rw [h1]; exact hb)
      rwa [h1] at this
  sep := fun b m' L i hb hL hi' b' L' i' hne hL' hor => by
    obtain ⟨m, h1, hz, h2, h3, h4⟩ := hi b m' hb
    refine s.sep b m L i h1 hL (h4 L i hL hi') b' L' i' hne hL' ?_
    rcases hor with k | ⟨m2, k, k'⟩
    · left
      rcases hc b' i' with q | q
      · exact absurd q k
      · rw [q]; exact k
    · obtain ⟨m3, q1, _, _, _, q4⟩ := hi b' m2 k
      exact .inr ⟨m3, q1, q4 L' i' hL' k'⟩
  obj := fun b m o hb ho => s.obj b m o (hk b m o hb ho) ho
  osep := fun b m o b' m' o' L L' hb ho hb' ho' => s.osep b m o b' m' o' L L' (hk b m o hb ho) ho (hk b' m' o' hb' ho') ho'

/-- Block n takes over what lies in block b from cell `lk` on (and reads what lies ahead of it); b keeps its first `sz` cells to read, or nothing. -/
@[irreducible] def Dl.takeover (b n : Nat) (keep : Bool) (sz lk ez : Nat) (cs : List Value) : Dl :=
  ⟨fun x => if x = n then some (some ⟨cs.length, lk, true, ez⟩) else if x = b then some (if keep then some ⟨sz, sz, false, ez⟩ else none) else none,
   fun x i => if x = n then some (cs.getD i (.tuple #[])) else if x = b then (if keep && i < sz then none else some (.tuple #[])) else none⟩

theorem Sim.takeover {w0 : Base} {w : World} {ρ : Ren} {h : AH} (s : Sim w0 ρ h w) {b n : Nat} {m : Meta} {L : Loc} (hm : h.info b = some m) (hL : ρ b = some L) (ht : m.tail = true) (hn : ρ n = none)
    (keep : Bool) (cs : List Value) (lk : Nat) (hlk : lk = if keep then m.size else m.lock) (hsz : m.size ≤ cs.length) (hext : cs.length ≤ L.ext)
    (hcs : ∀ i, i < cs.length → h.cell b i = cs.getD i (.tuple #[]) ∨ cs.getD i (.tuple #[]) = .tuple #[]) :
    Sim w0 (ρ.set n L) (h.app (.takeover b n keep m.size lk m.sz cs)) w := by
  have hbn : b ≠ n := fun e => by rw [e, hn] at hL; cases hL
  have hle := Ren.le_set hn L
  obtain ⟨L', e, hzz, h2, h3, h4⟩ := s.info b m hm
  rw [hL] at e; cases e
  have hinfo : ∀ x, (h.app (.takeover b n keep m.size lk m.sz cs)).info x = if x = n then some ⟨cs.length, lk, true, m.sz⟩ else if x = b then (if keep then some ⟨m.size, m.size, false, m.sz⟩ else none) else h.info x := by
    intro x
    by_cases e1 : x = n
    · simp [AH.app, Dl.takeover, e1]
    · by_cases e2 : x = b <;> simp [AH.app, Dl.takeover, e1, e2, hbn]
  have hcell : ∀ x i, (h.app (.takeover b n keep m.size lk m.sz cs)).cell x i = if x = n then cs.getD i (.tuple #[]) else if x = b then (if keep && i < m.size then h.cell b i else .tuple #[]) else h.cell x i := by
    intro x i
    by_cases e1 : x = n
    · simp [AH.app, Dl.takeover, e1]
    · by_cases e2 : x = b
      · subst e2
        simp only [AH.app, Dl.takeover, if_neg e1, if_true]
        by_cases e3 : (keep && decide (i < m.size)) = true
        · rw [if_pos e3, if_pos e3]; rfl
        · rw [if_neg e3, if_neg e3]; rfl
      · simp [AH.app, Dl.takeover, e1, e2]
  have hown : ∀ i, lk ≤ i → i < L.ext → Own m L i := by
    intro i h5 h6
    refine ⟨?_, by simp only [ht, Tail.isExt_of, if_true]; exact h6⟩
    cases keep <;> simp at hlk <;> omega
  have hobj : ∀ x mx o, (h.app (.takeover b n keep m.size lk m.sz cs)).info x = some mx → mx.tail = .obj o → h.info x = some mx := by
    intro x mx o hx ho
    rw [hinfo] at hx
    by_cases e1 : x = n
    · rw [if_pos e1] at hx; cases hx; cases ho
    · rw [if_neg e1] at hx
      by_cases e2 : x = b
      · rw [if_pos e2] at hx
        cases keep
        · simp at hx
        · simp at hx; cases hx; cases ho
      · rw [if_neg e2] at hx; exact hx
  have s2 := s.grow' hle (Ren.set_fin s.fin n L)
  refine ⟨s.base, s.keep, Ren.set_fin s.fin _ _, ?_, ?_, ?_, fun x mx o hx ho => s2.obj x mx o (hobj x mx o hx ho) ho, fun x mx o x' mx' o' K K' hx ho hx' ho' => s2.osep x mx o x' mx' o' K K' (hobj x mx o hx ho) ho (hobj x' mx' o' hx' ho') ho'⟩
  · intro x mx hx
    rw [hinfo] at hx
    by_cases e1 : x = n
    · subst e1
      rw [if_pos rfl] at hx; cases hx
      refine ⟨L, Ren.set_self _ _ _, hzz, hext, ?_, fun i hi => ?_⟩
      · show lk ≤ cs.length
        cases keep <;> simp at hlk <;> omega
      · obtain ⟨h5, h6⟩ := hi
        exact h4 i (hown i h5 (by simpa using h6))
    · rw [if_neg e1] at hx
      by_cases e2 : x = b
      · subst e2
        rw [if_pos rfl] at hx
        cases keep
        · simp at hx
        · simp at hx; cases hx
          exact ⟨L, by rw [Ren.set_ne _ _ e1]; exact hL, hzz, h2, Nat.le_refl _, fun i hi => by
            obtain ⟨h5, h6⟩ := hi; simp at h5 h6; omega⟩
      · rw [if_neg e2] at hx
        obtain ⟨K, k1, k2⟩ := s.info x mx hx
        exact ⟨K, hle _ _ k1, k2⟩
  · intro x i hx
    rw [hcell] at hx ⊢
    by_cases e1 : x = n
    · subst e1
      rw [if_pos rfl] at hx ⊢
      have hi := getD_none_lt hx
      rcases hcs i hi with h5 | h5
      · rw [← h5] at hx ⊢
        obtain ⟨K, v, k1, k2, k3⟩ := s.cell b i hx
        rw [hL] at k1; cases k1
        exact ⟨L, v, Ren.set_self _ _ _, k2, k3.mono hle⟩
      · exact absurd h5 hx
    · rw [if_neg e1] at hx ⊢
      have hold : h.cell x i ≠ .tuple #[] ∧ (if x = b then (if keep && i < m.size then h.cell b i else .tuple #[]) else h.cell x i) = h.cell x i := by
        by_cases e2 : x = b
        · subst e2
          rw [if_pos rfl] at hx ⊢
          by_cases e3 : (keep && decide (i < m.size)) = true
          · rw [if_pos e3] at hx ⊢; exact ⟨hx, rfl⟩
          · rw [if_neg e3] at hx; exact absurd rfl hx
        · rw [if_neg e2] at hx ⊢; exact ⟨hx, rfl⟩
      rw [hold.2]
      obtain ⟨K, v, k1, k2, k3⟩ := s.cell x i hold.1
      exact ⟨K, v, hle _ _ k1, k2, k3.mono hle⟩
  · intro x mx K i hx hK hi x' K' i' hne hK' hor
    rw [hinfo] at hx
    rw [hcell, hinfo] at hor
    -- what is told of x' now was told of it, or it is n
    by_cases e1 : x = n
    · subst e1
      rw [if_pos rfl] at hx; cases hx
      rw [Ren.set_self] at hK; cases hK
      rw [Ren.set_ne _ _ hne] at hK'
      rw [if_neg hne, if_neg hne] at hor
      have ho := hown i hi.1 (by simpa using hi.2)
      by_cases e2 : x' = b
      · subst e2
        rw [hL] at hK'; cases hK'
        rw [if_pos rfl, if_pos rfl] at hor
        rintro ⟨_, h6⟩
        have hii : i = i' := by omega
        subst hii
        cases keep
        · simp at hor
        · simp only [if_true] at hlk hor
          have h7 := hi.1
          simp only at h7
          rcases hor with h8 | ⟨m', h8, h9⟩
          · rw [if_neg (by simp; omega)] at h8; exact h8 rfl
          · cases h8
            obtain ⟨h5, h6⟩ := h9; simp at h5 h6; omega
      · rw [if_neg e2, if_neg e2] at hor
        exact s.sep b m L i hm hL ho x' K' i' e2 hK' hor
    · rw [if_neg e1] at hx
      rw [Ren.set_ne _ _ e1] at hK
      by_cases e2 : x = b
      · subst e2
        rw [if_pos rfl] at hx
        cases keep
        · simp at hx
        · simp at hx; cases hx
          obtain ⟨h5, h6⟩ := hi; simp at h5 h6; omega
      · rw [if_neg e2] at hx
        by_cases e3 : x' = n
        · subst e3
          rw [Ren.set_self] at hK'; cases hK'
          rw [if_pos rfl, if_pos rfl] at hor
          refine s.sep x mx K i hx hK hi b L i' (fun e => e2 e.symm) hL ?_
          rcases hor with h5 | ⟨m', h5, h6⟩
          · left
            have hi' := getD_none_lt h5
            rcases hcs i' hi' with h7 | h7
            · rw [h7]; exact h5
            · exact absurd h7 h5
          · cases h5
            exact .inr ⟨m, hm, hown i' h6.1 (by simpa using h6.2)⟩
        · rw [Ren.set_ne _ _ e3] at hK'
          rw [if_neg e3, if_neg e3] at hor
          refine s.sep x mx K i hx hK hi x' K' i' hne hK' ?_
          by_cases e4 : x' = b
          · subst e4
            rw [if_pos rfl, if_pos rfl] at hor
            rcases hor with h5 | ⟨m', h5, h6⟩
            · left
              by_cases e5 : (keep && decide (i' < m.size)) = true
              · rw [if_pos e5] at h5; exact h5
              · rw [if_neg e5] at h5; exact absurd rfl h5
            · cases keep
              · simp at h5
              · simp at h5; cases h5
                obtain ⟨h5, h6⟩ := h6; simp at h5 h6; omega
          · rw [if_neg e4, if_neg e4] at hor
            exact hor

end Go.Abs

/- Objects that are no rows of cells (loops over functions, maps, iterators), and the blocks of deferred calls: how the abstract heap tells of them. -/
namespace Go.Abs
open Go.RowKit

section
variable {w0 : Base} {w : World} {ρ : Ren} {h : AH}

theorem cell?_putObj {l : Nat} {c o : Obj} (hl : w.heap[l]? = some c) (hc : ∀ x e f, c ≠ .cells x e f) {a : Addr} {v : Value} (h : w.cell? a = some v) :
    (w.putObj l o).cell? a = some v ∧ (Clear w a.block → Clear (w.putObj l o) a.block) := by
  have hne : a.block ≠ l := by
    intro e
    unfold World.cell? at h
    rw [e, hl] at h
    cases c with
    | cells x e f => exact absurd rfl (hc x e f)
    | _ => cases h
  exact ⟨(World.cell?_of_block (World.putObj_heap_other hne)).trans h, fun q => q.of (World.putObj_heap_other hne)⟩
theorem below_putObj {B : Nat} {a : World} (h : Below B a w) {l : Nat} (hl : B ≤ l) (o : Obj) : Below B a (w.putObj l o) :=
  ⟨h.os, h.tape, h.output, by rw [World.putObj_size]; exact h.size, fun k hk => by rw [World.putObj_heap_other (by omega)]; exact h.block k hk⟩

/-- What is told of an object. -/
abbrev AObj.m (o : AObj) : Meta := ⟨0, 0, .obj o, 0⟩
/-- Object b is, or becomes, o. -/
@[irreducible] def Dl.obj (b : Nat) (o : AObj) : Dl := ⟨fun x => if x = b then some (some o.m) else none, fun _ _ => none⟩
theorem own_obj {o : AObj} {L : Loc} {i : Nat} (h : Own o.m L i) : False := by
  obtain ⟨h1, h2⟩ := h
  simp [AObj.m, Tail.isExt] at h2
theorem obj_info {b : Nat} {o : AObj} (x : Nat) : (h.app (.obj b o)).info x = if x = b then some o.m else h.info x := by
  by_cases e : x = b <;> simp [AH.app, Dl.obj, e]
theorem obj_cell {b : Nat} {o : AObj} (x i : Nat) : (h.app (.obj b o)).cell x i = h.cell x i := by simp [AH.app, Dl.obj]

/-- A new object. -/
theorem Sim.newObj (s : Sim w0 ρ h w) {n : Nat} (hn : ρ n = none) {o : AObj} {c : Obj} (hc : ORel (ρ.set n ⟨w.heap.size, 0, 0, 0⟩) o c) :
    Sim w0 (ρ.set n ⟨w.heap.size, 0, 0, 0⟩) (h.app (.obj n o)) (w.alloc c) := by
  have s1 := (s.alloc c).grow' (Ren.le_set hn ⟨w.heap.size, 0, 0, 0⟩) (Ren.set_fin s.fin _ _)
  have hnamed := s.named n hn
  have hlt : ∀ b m o, h.info b = some m → m.tail = .obj o → b ≠ n ∧ ∃ L, ρ b = some L ∧ L.blk < w.heap.size := by
    intro b m o hb ho
    obtain ⟨L, c, h1, _, _, h4, _⟩ := s.obj b m o hb ho
    exact ⟨(fun e => by subst e; rw [hn] at h1; cases h1), L, h1, (Array.getElem?_eq_some_iff.1 h4).1⟩
  refine ⟨s1.base, s1.keep, s1.fin, ?_, ?_, ?_, ?_, ?_⟩
  · intro b m hb
    rw [obj_info] at hb
    by_cases e : b = n
    · subst e
      rw [if_pos rfl] at hb; cases hb
      exact ⟨_, Ren.set_self _ _ _, rfl, Nat.le_refl _, Nat.le_refl _, fun i hi => (own_obj hi).elim⟩
    · rw [if_neg e] at hb; exact s1.info b m hb
  · intro b i hb
    rw [obj_cell] at hb ⊢
    exact s1.cell b i hb
  · intro b m L i hm hL hi b' L' i' hne hL' hor
    rw [obj_info] at hm
    by_cases e : b = n
    · rw [if_pos e] at hm; cases hm; exact (own_obj hi).elim
    · rw [if_neg e] at hm
      refine s1.sep b m L i hm hL hi b' L' i' hne hL' ?_
      rw [obj_cell, obj_info] at hor
      rcases hor with k | ⟨m', k1, k2⟩
      · exact .inl k
      · by_cases e' : b' = n
        · rw [if_pos e'] at k1; cases k1; exact (own_obj k2).elim
        · rw [if_neg e'] at k1; exact .inr ⟨m', k1, k2⟩
  · intro b m o' hb ho
    rw [obj_info] at hb
    by_cases e : b = n
    · subst e
      rw [if_pos rfl] at hb; cases hb; cases ho
      exact ⟨_, c, Ren.set_self _ _ _, rfl, s.base.size, World.alloc_heap_new _ _, hc⟩
    · rw [if_neg e] at hb; exact s1.obj b m o' hb ho
  · intro b m o1 b' m' o2 L L' hb ho hb' ho' hL hL' he
    rw [obj_info] at hb hb'
    by_cases e : b = n
    · by_cases e' : b' = n
      · rw [e, e']
      · rw [if_neg e'] at hb'
        obtain ⟨_, K, k1, k2⟩ := hlt b' m' o2 hb' ho'
        rw [Ren.set_ne _ _ e'] at hL'
        rw [hL'] at k1; cases k1
        subst e; rw [Ren.set_self] at hL; cases hL
        simp only at he; omega
    · rw [if_neg e] at hb
      obtain ⟨_, K, k1, k2⟩ := hlt b m o1 hb ho
      by_cases e' : b' = n
      · rw [Ren.set_ne _ _ e] at hL
        rw [hL] at k1; cases k1
        subst e'; rw [Ren.set_self] at hL'; cases hL'
        simp only at he; omega
      · rw [if_neg e'] at hb'
        exact s1.osep b m o1 b' m' o2 L L' hb ho hb' ho' hL hL' he

/-- An object changes. -/
theorem Sim.putObj (s : Sim w0 ρ h w) {b : Nat} {o o2 : AObj} {L : Loc} {c c2 : Obj} (hm : h.info b = some o.m) (hL : ρ b = some L) (hc : w.heap[L.blk]? = some c) (hr : ORel ρ o c) (hr2 : ORel ρ o2 c2)
    (hk : ∀ r, c = .loop r → ∃ r2, c2 = .loop r2) : Sim w0 ρ (h.app (.obj b o2)) (w.putObj L.blk c2) := by
  obtain ⟨L', c', k1, k2, k3, k4, k5⟩ := s.obj b _ o hm rfl
  rw [hL] at k1; cases k1
  rw [hc] at k4; cases k4
  have hnc := hr.cells
  have hlt : L.blk < w.heap.size := (Array.getElem?_eq_some_iff.1 hc).1
  refine ⟨below_putObj s.base k3 c2, ⟨s.keep.nodup, fun r q => ?_, fun l q => ?_⟩, s.fin, ?_, ?_, ?_, ?_, ?_⟩
  · obtain ⟨q1, q2⟩ := s.keep.marks r q
    refine ⟨q1, ?_⟩
    by_cases e : r = L.blk
    · subst e; rw [hc] at q2; cases q2; cases hr
    · rw [World.putObj_heap_other e]; exact q2
  · obtain ⟨r, q1⟩ := s.keep.rounds l q
    by_cases e : l = L.blk
    · subst e; rw [hc] at q1; cases q1
      obtain ⟨r2, e2⟩ := hk r rfl
      exact ⟨r2, by rw [World.putObj_heap_same hlt, e2]⟩
    · exact ⟨r, by rw [World.putObj_heap_other e]; exact q1⟩
  · intro x mx hx
    rw [obj_info] at hx
    by_cases e : x = b
    · subst e
      rw [if_pos rfl] at hx; cases hx
      obtain ⟨K, q1, q2, q3, q4, _⟩ := s.info x _ hm
      exact ⟨K, q1, q2, q3, q4, fun i hi => (own_obj hi).elim⟩
    · rw [if_neg e] at hx
      obtain ⟨K, q1, q2, q3, q4, q5⟩ := s.info x mx hx
      refine ⟨K, q1, q2, q3, q4, fun i hi => ?_⟩
      obtain ⟨p1, ⟨v, p2⟩, p3⟩ := q5 i hi
      have := cell?_putObj (o := c2) hc hnc p2
      exact ⟨p1, ⟨v, this.1⟩, this.2 p3⟩
  · intro x i hx
    rw [obj_cell] at hx ⊢
    obtain ⟨K, v, q1, q2, q3⟩ := s.cell x i hx
    exact ⟨K, v, q1, (cell?_putObj (o := c2) hc hnc q2).1, q3⟩
  · intro x mx K i hx hK hi x' K' i' hne hK' hor
    rw [obj_info] at hx
    by_cases e : x = b
    · rw [if_pos e] at hx; cases hx; exact (own_obj hi).elim
    · rw [if_neg e] at hx
      refine s.sep x mx K i hx hK hi x' K' i' hne hK' ?_
      rw [obj_cell, obj_info] at hor
      rcases hor with k | ⟨m', q1, q2⟩
      · exact .inl k
      · by_cases e' : x' = b
        · rw [if_pos e'] at q1; cases q1; exact (own_obj q2).elim
        · rw [if_neg e'] at q1; exact .inr ⟨m', q1, q2⟩
  · intro x mx ox hx ho
    rw [obj_info] at hx
    by_cases e : x = b
    · subst e
      rw [if_pos rfl] at hx; cases hx; cases ho
      exact ⟨L, c2, hL, k2, k3, World.putObj_heap_same hlt, hr2⟩
    · rw [if_neg e] at hx
      obtain ⟨K, cx, q1, q2, q3, q4, q5⟩ := s.obj x mx ox hx ho
      refine ⟨K, cx, q1, q2, q3, ?_, q5⟩
      rw [World.putObj_heap_other]
      · exact q4
      · exact fun he => e (s.osep x mx ox b _ o K L hx ho hm rfl q1 hL he)
  · intro x mx o1 x' mx' o1' K K' hx ho hx' ho' hK hK' he
    have key : ∀ y my oy, (h.app (.obj b o2)).info y = some my → my.tail = .obj oy → ∃ my' oy', h.info y = some my' ∧ my'.tail = .obj oy' := by
      intro y my oy hy hoy
      rw [obj_info] at hy
      by_cases e : y = b
      · subst e; exact ⟨_, _, hm, rfl⟩
      · rw [if_neg e] at hy; exact ⟨my, oy, hy, hoy⟩
    obtain ⟨m1, p1, q1, q2⟩ := key x mx o1 hx ho
    obtain ⟨m2, p2, q3, q4⟩ := key x' mx' o1' hx' ho'
    exact s.osep x m1 p1 x' m2 p2 K K' q1 q2 q3 q4 hK hK' he

def Base.keep (w0 : Base) (ms : List Nat) : Base := { w0 with marks := ms ++ w0.marks }
def Base.round (w0 : Base) (l : Nat) : Base := { w0 with rounds := l :: w0.rounds }
theorem Base.keep_keep (w0 : Base) (ms ms' : List Nat) : (w0.keep ms).keep ms' = w0.keep (ms' ++ ms) := by simp [Base.keep]
theorem Base.keep_nil (w0 : Base) : w0.keep [] = w0 := rfl

theorem Sim.rebase {w1 : Base} (s : Sim w0 ρ h w) (hw : w1.w = w0.w) (hk : Keeps w1 w) : Sim w1 ρ h w :=
  ⟨by rw [hw]; exact s.base, hk, s.fin, by rw [hw]; exact s.info, s.cell, s.sep, by rw [hw]; exact s.obj, s.osep⟩
/-- Less is kept. -/
theorem Sim.unkeep {ms : List Nat} (s : Sim (w0.keep ms) ρ h w) : Sim w0 ρ h w :=
  s.rebase rfl ⟨(List.nodup_append.1 s.keep.nodup).2.1, fun r hr => s.keep.marks r (List.mem_append_right _ hr), s.keep.rounds⟩
theorem Sim.unround {l : Nat} (s : Sim (w0.round l) ρ h w) : Sim w0 ρ h w :=
  s.rebase rfl ⟨s.keep.nodup, s.keep.marks, fun r hr => s.keep.rounds r (List.mem_cons_of_mem _ hr)⟩
theorem Base.round_keep (w0 : Base) (ms : List Nat) (l : Nat) : (w0.round l).keep ms = (w0.keep ms).round l := rfl
/-- More is kept. -/
theorem Sim.round {l : Nat} {r : Loop} (s : Sim w0 ρ h w) (hl : w.heap[l]? = some (.loop r)) : Sim (w0.round l) ρ h w :=
  s.rebase rfl ⟨s.keep.nodup, s.keep.marks, fun x hx => by
    rcases List.mem_cons.1 hx with rfl | hx
    · exact ⟨r, hl⟩
    · exact s.keep.rounds x hx⟩
/-- A new block for deferred calls. -/
theorem Sim.mark (s : Sim w0 ρ h w) : Sim (w0.keep [w.heap.size]) ρ h (w.alloc (.deferred (some []))) := by
  have s1 := s.alloc (.deferred (some []))
  refine s1.rebase rfl ⟨?_, fun r hr => ?_, s1.keep.rounds⟩
  · show (w.heap.size :: w0.marks).Nodup
    refine List.nodup_cons.2 ⟨fun hm => ?_, s.keep.nodup⟩
    have := (Array.getElem?_eq_some_iff.1 (s.keep.marks _ hm).2).1
    omega
  · rcases List.mem_cons.1 (show r ∈ w.heap.size :: w0.marks from hr) with rfl | hr
    · exact ⟨s.base.size, World.alloc_heap_new _ _⟩
    · exact s1.keep.marks r hr
/-- It is come to. -/
theorem Sim.taken {P : Program} {r : Nat} {ms : List Nat} (s : Sim (w0.keep (r :: ms)) ρ h w) : ∃ w', (Instr.takeDeferred r).run P w = .ok [] w' ∧ Sim (w0.keep ms) ρ h w' := by
  have hmem : r ∈ (w0.keep (r :: ms)).marks := List.mem_cons_self
  obtain ⟨q1, q2⟩ := s.keep.marks r hmem
  have hnd : (r :: (ms ++ w0.marks)).Nodup := s.keep.nodup
  obtain ⟨hn1, hn2⟩ := List.nodup_cons.1 hnd
  have hnc : ∀ x e f, Obj.deferred (some []) ≠ .cells x e f := fun _ _ _ e => by cases e
  refine ⟨_, run_takeDeferred q2, ⟨below_putObj s.base q1 _, ⟨hn2, fun x hx => ?_, fun l hl => ?_⟩, s.fin, ?_, ?_, s.sep, ?_, s.osep⟩⟩
  · obtain ⟨p1, p2⟩ := s.keep.marks x (List.mem_cons_of_mem _ hx)
    refine ⟨p1, ?_⟩
    rw [World.putObj_heap_other (fun e => hn1 (by subst e; exact hx))]; exact p2
  · obtain ⟨l', p⟩ := s.keep.rounds l hl
    exact ⟨l', by rw [World.putObj_heap_other (fun e => by subst e; rw [q2] at p; cases p)]; exact p⟩
  · intro x mx hx
    obtain ⟨K, k1, k2, k3, k4, k5⟩ := s.info x mx hx
    refine ⟨K, k1, k2, k3, k4, fun i hi => ?_⟩
    obtain ⟨p1, ⟨v, p2⟩, p3⟩ := k5 i hi
    have := cell?_putObj (o := .deferred none) q2 hnc p2
    exact ⟨p1, ⟨v, this.1⟩, this.2 p3⟩
  · intro x i hx
    obtain ⟨K, v, k1, k2, k3⟩ := s.cell x i hx
    exact ⟨K, v, k1, (cell?_putObj (o := .deferred none) q2 hnc k2).1, k3⟩
  · intro x mx o hx ho
    obtain ⟨K, c, k1, k2, k3, k4, k5⟩ := s.obj x mx o hx ho
    exact ⟨K, c, k1, k2, k3, by rw [World.putObj_heap_other (fun e => by rw [e, q2] at k4; cases k4; cases k5)]; exact k4, k5⟩
end
end Go.Abs
