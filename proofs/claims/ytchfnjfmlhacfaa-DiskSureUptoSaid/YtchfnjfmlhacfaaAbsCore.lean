/- The abstract heap: values and blocks without tape, orders of evaluation and capacities, and what it means that a world of the model is described by it. -/
import Derived.Calls
import Derived.Orders
import Derived.Below
import Derived.Laws.Cells
namespace Go.Abs
open Go.RowKit

theorem undef_eq : (undef : Value) = .tuple #[] := rfl

/-- Where an abstract block lies: from cell `off` of block `blk`; its slices end within `ext` cells; an element takes `sz` cells (0: it is no row of elements). -/
structure Loc where
  blk : Nat
  off : Nat
  ext : Nat
  sz : Nat

abbrev Ren := Nat → Option Loc

/-- What an operation yields that is not carried out. -/
abbrev skipV : Value := .chan (some 0)

inductive VRel (ρ : Ren) : Value → Value → Prop
  | unk (v : Value) : VRel ρ (.tuple #[]) v
  | bool (b : Bool) : VRel ρ (.bool b) (.bool b)
  | int (k : IntKind) (n : Int) : VRel ρ (.int k n) (.int k n)
  | string (s : ByteArray) : VRel ρ (.string s) (.string s)
  | nilPtr : VRel ρ (.pointer none) (.pointer none)
  | nilSlice : VRel ρ (.slice none 0 0) (.slice none 0 0)
  | nilMap : VRel ρ (.map none) (.map none)
  | nilFunc : VRel ρ .nilFunc .nilFunc
  | map {b : Nat} {L : Loc} (h : ρ b = some L) : VRel ρ (.map (some b)) (.map (some L.blk))
  | nilIface : VRel ρ .nilIface .nilIface
  | ptr {b : Nat} {o : Nat} {L : Loc} (h : ρ b = some L) : VRel ρ (.pointer (some ⟨b, o, none⟩)) (.pointer (some ⟨L.blk, L.off + o, none⟩))
  | slice {b o n : Nat} {L : Loc} (c : Nat) (h : ρ b = some L) (hn : n ≤ c) (hc : L.sz ≠ 0 → o + c * L.sz ≤ L.ext) :
      VRel ρ (.slice (some ⟨b, o, none⟩) n n) (.slice (some ⟨L.blk, L.off + o, none⟩) n c)
  | slice0 {b o : Nat} {L : Loc} (a : Addr) (h : ρ b = some L) : VRel ρ (.slice (some ⟨b, o, none⟩) 0 0) (.slice (some a) 0 0)
  | iface {t : TypeId} {x y : Value} (h : VRel ρ x y) : VRel ρ (.iface t x) (.iface t y)
  | agg {xs ys : Array Value} (hs : xs.size = ys.size) (h : ∀ i, VRel ρ (xs.getD i (.tuple #[])) (ys.getD i (.tuple #[]))) : VRel ρ (.agg xs) (.agg ys)
  | tuple {xs ys : Array Value} (hs : xs.size = ys.size) (h : ∀ i, VRel ρ (xs.getD i (.tuple #[])) (ys.getD i (.tuple #[]))) : VRel ρ (.tuple xs) (.tuple ys)
  | func {f : FuncId} {xs ys : Array Value} (hs : xs.size = ys.size) (h : ∀ i, VRel ρ (xs.getD i (.tuple #[])) (ys.getD i (.tuple #[]))) :
      VRel ρ (.func (.func f) #[] xs) (.func (.func f) #[] ys)
  | meth {nm : String} {x y : Value} (h : VRel ρ x y) : VRel ρ (.func (.method nm) #[x] #[]) (.func (.method nm) #[y] #[])
  | yield {l : Nat} {L : Loc} (h : ρ l = some L) : VRel ρ (.func (.yield l) #[] #[]) (.func (.yield L.blk) #[] #[])
  | skip : VRel ρ (.chan (some 0)) (.tuple #[])

/-- More blocks are named. -/
def Ren.le (ρ ρ' : Ren) : Prop := ∀ b L, ρ b = some L → ρ' b = some L
theorem Ren.le.refl (ρ : Ren) : ρ.le ρ := fun _ _ h => h
theorem Ren.le.trans {a b c : Ren} (h : a.le b) (k : b.le c) : a.le c := fun x L hx => k x L (h x L hx)

theorem VRel.mono {ρ ρ' : Ren} (hl : ρ.le ρ') {a c : Value} (h : VRel ρ a c) : VRel ρ' a c := by
  induction h with
  | unk v => exact .unk v
  | bool b => exact .bool b
  | int k n => exact .int k n
  | string s => exact .string s
  | nilPtr => exact .nilPtr
  | nilSlice => exact .nilSlice
  | nilMap => exact .nilMap
  | nilFunc => exact .nilFunc
  | map h => exact .map (hl _ _ h)
  | nilIface => exact .nilIface
  | ptr h => exact .ptr (hl _ _ h)
  | slice c h hn hc => exact .slice c (hl _ _ h) hn hc
  | slice0 a h => exact .slice0 a (hl _ _ h)
  | iface _ ih => exact .iface ih
  | agg hs _ ih => exact .agg hs ih
  | tuple hs _ ih => exact .tuple hs ih
  | func hs _ ih => exact .func hs ih
  | meth _ ih => exact .meth ih
  | yield h => exact .yield (hl _ _ h)
  | skip => exact .skip

/-- What is related under the greater naming, and is related to something under the smaller one, is related under the smaller one. -/
theorem VRel.back {ρ ρ' : Ren} (hl : ρ.le ρ') {a c : Value} (h : VRel ρ a c) : ∀ d, VRel ρ' a d → VRel ρ a d := by
  induction h with
  | unk v => exact fun d _ => .unk d
  | bool b => intro d h; cases h; exact .bool b
  | int k n => intro d h; cases h; exact .int k n
  | string s => intro d h; cases h; exact .string s
  | nilPtr => intro d h; cases h; exact .nilPtr
  | nilSlice => intro d h; cases h; exact .nilSlice
  | nilMap => intro d h; cases h; exact .nilMap
  | nilFunc => intro d h; cases h; exact .nilFunc
  | map h => intro d h'; cases h' with | map h' => rw [hl _ _ h] at h'; cases h'; exact .map h
  | nilIface => intro d h; cases h; exact .nilIface
  | ptr h => intro d h'; cases h' with | ptr h' => rw [hl _ _ h] at h'; cases h'; exact .ptr h
  | slice c h hn hc =>
    intro d h'
    cases h' with
    | slice c' h' hn' hc' => rw [hl _ _ h] at h'; cases h'; exact .slice c' h hn' hc'
    | slice0 a h' => exact .slice0 a h
  | slice0 a h =>
    intro d h'
    cases h' with
    | slice c' h' hn' hc' => rw [hl _ _ h] at h'; cases h'; exact .slice c' h hn' hc'
    | slice0 a h' => exact .slice0 a h
  | iface _ ih => intro d h'; cases h' with | iface h' => exact .iface (ih _ h')
  | agg hs _ ih => intro d h'; cases h' with | agg hs' h' => exact .agg hs' fun i => ih i _ (h' i)
  | tuple hs _ ih =>
    intro d h'
    cases h' with
    | unk => exact .unk _
    | tuple hs' h' => exact .tuple hs' fun i => ih i _ (h' i)
  | func hs _ ih => intro d h'; cases h' with | func hs' h' => exact .func hs' fun i => ih i _ (h' i)
  | meth _ ih => intro d h'; cases h' with | meth h' => exact .meth (ih _ h')
  | yield h => intro d h'; cases h' with | yield h' => rw [hl _ _ h] at h'; cases h'; exact .yield h
  | skip => intro d h; cases h; exact .skip

abbrev Env := List (Nat × Value)
def Env.get (env : Env) (t : Nat) : Value :=
  match env with
  | [] => .tuple #[]
  | (k, v) :: r => if Nat.beq k t then v else Env.get r t
def Env.put (env : Env) (d : Option Tmp) (v : Value) : Env :=
  match d with
  | some d => (d, v) :: env
  | none => env
structure EnvRel (ρ : Ren) (N : Nat) (env : Env) (tmps : Array Value) : Prop where
  size : tmps.size = N
  at_ : ∀ t, VRel ρ (env.get t) (tmps.getD t (.tuple #[]))
theorem EnvRel.mono {ρ ρ' : Ren} {N : Nat} {env : Env} {tmps : Array Value} (hl : ρ.le ρ') (h : EnvRel ρ N env tmps) : EnvRel ρ' N env tmps :=
  ⟨h.size, fun t => (h.at_ t).mono hl⟩

/-- A range over a function: its body, and what it is at. -/
structure ALoop where
  params : Array Tmp
  assign : Code
  body : Code
  N : Nat
  env : Env
  state : LoopState
  pending : Option Code

/-- An entry of a map. -/
structure AEnt where
  key : Value
  val : Value
  born : Nat

/-- What is no row of cells. -/
inductive AObj where
  | loop (a : ALoop)
  | map (l : List AEnt) (clock : Nat)
  | mapIter (map : Option Nat) (since : Nat) (seen : Array Nat) (stepped : Nat)
  | stringIter (s : ByteArray) (pos : Nat)

structure LoopRel (ρ : Ren) (a : ALoop) (r : Loop) : Prop where
  params : r.params = a.params
  assign : r.assign = a.assign
  body : r.body = a.body
  state : r.state = a.state
  pending : r.pending = a.pending
  env : EnvRel ρ a.N a.env r.tmps
structure EntRel (ρ : Ren) (a : AEnt) (e : MapEntry) : Prop where
  key : VRel ρ a.key e.key
  val : VRel ρ a.val e.val
  born : e.born = a.born
inductive EntsRel (ρ : Ren) : List AEnt → List MapEntry → Prop
  | nil : EntsRel ρ [] []
  | cons {a e l m} (h : EntRel ρ a e) (t : EntsRel ρ l m) : EntsRel ρ (a :: l) (e :: m)
inductive ORel (ρ : Ren) : AObj → Obj → Prop
  | loop {a r} (h : LoopRel ρ a r) : ORel ρ (.loop a) (.loop r)
  | map {l es c} (h : EntsRel ρ l es) : ORel ρ (.map l c) (.map es.toArray c)
  | mapIter0 {s k p} : ORel ρ (.mapIter none s k p) (.mapIter none s k p)
  | mapIter {b L s k p} (h : ρ b = some L) : ORel ρ (.mapIter (some b) s k p) (.mapIter (some L.blk) s k p)
  | stringIter {s p} : ORel ρ (.stringIter s p) (.stringIter s p)
theorem EntsRel.mono {ρ ρ' : Ren} (hl : ρ.le ρ') {l m} (h : EntsRel ρ l m) : EntsRel ρ' l m := by
  induction h with
  | nil => exact .nil
  | cons h _ ih => exact .cons ⟨h.key.mono hl, h.val.mono hl, h.born⟩ ih
theorem ORel.mono {ρ ρ' : Ren} (hl : ρ.le ρ') {o : AObj} {c : Obj} (h : ORel ρ o c) : ORel ρ' o c := by
  cases h with
  | loop h => exact .loop ⟨h.params, h.assign, h.body, h.state, h.pending, h.env.mono hl⟩
  | map h => exact .map (h.mono hl)
  | mapIter0 => exact .mapIter0
  | mapIter h => exact .mapIter (hl _ _ h)
  | stringIter => exact .stringIter
theorem ORel.cells {ρ : Ren} {o : AObj} {c : Obj} (h : ORel ρ o c) : ∀ x e f, c ≠ .cells x e f := by
  cases h <;> intro x e f h <;> cases h

theorem EntsRel.back {ρ ρ' : Ren} (hl : ρ.le ρ') {l : List AEnt} {m : List MapEntry} (h : EntsRel ρ l m) : ∀ d, EntsRel ρ' l d → EntsRel ρ l d := by
  induction h with
  | nil => intro d h'; cases h'; exact .nil
  | cons h _ ih => intro d h'; cases h' with | cons k t => exact .cons ⟨h.key.back hl _ k.key, h.val.back hl _ k.val, k.born⟩ (ih _ t)
theorem ORel.back {ρ ρ' : Ren} (hl : ρ.le ρ') {o : AObj} {c d : Obj} (h : ORel ρ o c) (h' : ORel ρ' o d) : ORel ρ o d := by
  cases h with
  | loop h => cases h' with | loop k => exact .loop ⟨k.params, k.assign, k.body, k.state, k.pending, k.env.size, fun t => (h.env.at_ t).back hl _ (k.env.at_ t)⟩
  | map h => cases h' with | map k => exact .map (h.back hl _ k)
  | mapIter0 => cases h'; exact .mapIter0
  | mapIter h => cases h' with | mapIter k => rw [hl _ _ h] at k; cases k; exact .mapIter h
  | stringIter => cases h'; exact .stringIter

/-- Are the cells up to `ext` a block's own too? Or is it no row of cells? -/
inductive Tail where
  | no
  | ext
  | obj (o : AObj)
def Tail.of : Bool → Tail
  | true => .ext
  | false => .no
instance : Coe Bool Tail := ⟨Tail.of⟩
def Tail.isExt : Tail → Bool
  | .ext => true
  | _ => false
@[simp] theorem Tail.isExt_of (b : Bool) : (Tail.of b).isExt = b := by cases b <;> rfl

/-- What is told of a block: how many cells; from which cell on they are its own; are the cells up to `ext` its own too? -/
structure Meta where
  size : Nat
  lock : Nat
  tail : Tail
  sz : Nat

/-- The abstract heap. -/
structure AH where
  info : Nat → Option Meta
  cell : Nat → Nat → Value

/-- An update of it. -/
structure Dl where
  info : Nat → Option (Option Meta)
  cell : Nat → Nat → Option Value

def AH.empty : AH := ⟨fun _ => none, fun _ _ => .tuple #[]⟩

def AH.app (h : AH) (d : Dl) : AH := ⟨fun b => (d.info b).getD (h.info b), fun b i => (d.cell b i).getD (h.cell b i)⟩

def Dl.nil : Dl := ⟨fun _ => none, fun _ _ => none⟩
/-- first d, then e -/
def Dl.comp (d e : Dl) : Dl := ⟨fun b => (e.info b).or (d.info b), fun b i => (e.cell b i).or (d.cell b i)⟩

theorem AH.app_nil (h : AH) : h.app .nil = h := rfl
theorem AH.app_comp (h : AH) (d e : Dl) : h.app (d.comp e) = (h.app d).app e := by
  simp only [AH.app, Dl.comp, AH.mk.injEq]
  constructor
  · funext b; cases e.info b <;> simp
  · funext b i; cases e.cell b i <;> simp
theorem Dl.nil_comp (d : Dl) : Dl.nil.comp d = d := by
  cases d; simp [Dl.nil, Dl.comp]
theorem Dl.comp_nil (d : Dl) : d.comp .nil = d := by
  cases d; simp [Dl.nil, Dl.comp]
theorem Dl.comp_assoc (a b c : Dl) : (a.comp b).comp c = a.comp (b.comp c) := by
  simp only [Dl.comp, Dl.mk.injEq]
  constructor
  · funext x; cases c.info x <;> simp
  · funext x i; cases c.cell x i <;> simp

/-- h tells less than H. -/
structure AH.le (h H : AH) : Prop where
  info : ∀ b m, h.info b = some m → H.info b = some m
  cell : ∀ b i, h.cell b i = .tuple #[] ∨ H.cell b i = h.cell b i

theorem AH.le.refl (h : AH) : h.le h := ⟨fun _ _ h => h, fun _ _ => .inr rfl⟩
theorem AH.le.trans {a b c : AH} (h : a.le b) (k : b.le c) : a.le c :=
  ⟨fun x m hx => k.info x m (h.info x m hx), fun x i => by
    rcases h.cell x i with h1 | h1
    · exact .inl h1
    · rcases k.cell x i with k1 | k1
      · exact .inl (h1 ▸ k1)
      · exact .inr (k1.trans h1)⟩
theorem AH.le.app {a b : AH} (h : a.le b) (d : Dl) : (a.app d).le (b.app d) :=
  ⟨fun x m hx => by
    simp only [AH.app] at hx ⊢
    cases hd : d.info x with
    | none => simp only [hd, Option.getD_none] at hx ⊢; exact h.info x m hx
    | some y => simp only [hd, Option.getD_some] at hx ⊢; exact hx,
   fun x i => by
    simp only [AH.app]
    cases d.cell x i with
    | none => exact h.cell x i
    | some y => exact .inr rfl⟩

def Own (m : Meta) (L : Loc) (i : Nat) : Prop := m.lock ≤ i ∧ i < (if m.tail.isExt = true then L.ext else m.size)

/-- Where a proof stands: a world whose blocks stay; the blocks of deferred calls that wait; the loops over functions that a round is of. -/
structure Base where
  w : World
  marks : List Nat
  rounds : List Nat

structure Keeps (w0 : Base) (w : World) : Prop where
  nodup : w0.marks.Nodup
  marks : ∀ r, r ∈ w0.marks → w0.w.heap.size ≤ r ∧ w.heap[r]? = some (.deferred (some []))
  rounds : ∀ l, l ∈ w0.rounds → ∃ r, w.heap[l]? = some (.loop r)

/-- World w is described by the heap h under the naming ρ, and below w0's blocks it is as w0. -/
structure Sim (w0 : Base) (ρ : Ren) (h : AH) (w : World) : Prop where
  base : Below w0.w.heap.size w0.w w
  keep : Keeps w0 w
  fin : ∃ N, ∀ b, N ≤ b → ρ b = none
  info : ∀ b m, h.info b = some m → ∃ L, ρ b = some L ∧ L.sz = m.sz ∧ m.size ≤ L.ext ∧ m.lock ≤ m.size ∧
    ∀ i, Own m L i → w0.w.heap.size ≤ L.blk ∧ (∃ v, w.cell? ⟨L.blk, L.off + i, none⟩ = some v) ∧ w.frozen? ⟨L.blk, L.off + i, none⟩ = false
  cell : ∀ b i, h.cell b i ≠ .tuple #[] → ∃ L v, ρ b = some L ∧ w.cell? ⟨L.blk, L.off + i, none⟩ = some v ∧ VRel ρ (h.cell b i) v
  sep : ∀ b m L i, h.info b = some m → ρ b = some L → Own m L i → ∀ b' L' i', b' ≠ b → ρ b' = some L' →
    (h.cell b' i' ≠ .tuple #[] ∨ ∃ m', h.info b' = some m' ∧ Own m' L' i') → ¬ (L.blk = L'.blk ∧ L.off + i = L'.off + i')
  obj : ∀ b m o, h.info b = some m → m.tail = .obj o → ∃ L c, ρ b = some L ∧ L.off = 0 ∧ w0.w.heap.size ≤ L.blk ∧ w.heap[L.blk]? = some c ∧ ORel ρ o c
  osep : ∀ b m o b' m' o' L L', h.info b = some m → m.tail = .obj o → h.info b' = some m' → m'.tail = .obj o' → ρ b = some L → ρ b' = some L' → L.blk = L'.blk → b = b'

section
variable {w0 : Base} {ρ ρ' : Ren} {h H : AH} {w w' : World}
/-- No object of a kind other than cells goes. -/
def KeepsObjs (w w' : World) : Prop := ∀ (l : Nat) (o : Obj), w.heap[l]? = some o → (∀ c e f, o ≠ Obj.cells c e f) → w'.heap[l]? = some o
theorem Keeps.move (k : Keeps w0 w) (hk : KeepsObjs w w') : Keeps w0 w' :=
  ⟨k.nodup, fun r hr => ⟨(k.marks r hr).1, hk _ _ (k.marks r hr).2 (fun _ _ _ e => by cases e)⟩, fun l hl => by
    obtain ⟨r, h1⟩ := k.rounds l hl
    exact ⟨r, hk _ _ h1 (fun _ _ _ e => by cases e)⟩⟩
theorem obj_move {o : AObj} {b : Nat} (hk : KeepsObjs w w') (h : ∃ L c, ρ b = some L ∧ L.off = 0 ∧ w0.w.heap.size ≤ L.blk ∧ w.heap[L.blk]? = some c ∧ ORel ρ o c) :
    ∃ L c, ρ b = some L ∧ L.off = 0 ∧ w0.w.heap.size ≤ L.blk ∧ w'.heap[L.blk]? = some c ∧ ORel ρ o c := by
  obtain ⟨L, c, h1, h2, h3, h4, h5⟩ := h
  exact ⟨L, c, h1, h2, h3, hk _ _ h4 h5.cells, h5⟩
theorem obj_grow {o : AObj} {b : Nat} (hl : ρ.le ρ') (h : ∃ L c, ρ b = some L ∧ L.off = 0 ∧ w0.w.heap.size ≤ L.blk ∧ w.heap[L.blk]? = some c ∧ ORel ρ o c) :
    ∃ L c, ρ' b = some L ∧ L.off = 0 ∧ w0.w.heap.size ≤ L.blk ∧ w.heap[L.blk]? = some c ∧ ORel ρ' o c := by
  obtain ⟨L, c, h1, h2, h3, h4, h5⟩ := h
  exact ⟨L, c, hl _ _ h1, h2, h3, h4, h5.mono hl⟩
end

theorem Sim.anti {w0 : Base} {w : World} {ρ : Ren} {h H : AH} (hl : h.le H) (s : Sim w0 ρ H w) : Sim w0 ρ h w where
  base := s.base
  keep := s.keep
  fin := s.fin
  info := fun b m hb => s.info b m (hl.info b m hb)
  cell := fun b i hb => by
    rcases hl.cell b i with h1 | h1
    · exact absurd h1 hb
    · have := s.cell b i (by rw [h1]; exact hb)
      rwa [h1] at this
  sep := fun b m L i hb hL hi b' L' i' hne hL' hor =>
    s.sep b m L i (hl.info b m hb) hL hi b' L' i' hne hL' (by
      rcases hor with h1 | ⟨m', h1, h2⟩
      · left
        rcases hl.cell b' i' with h2 | h2
        · exact absurd h2 h1
        · rw [h2]; exact h1
      · exact .inr ⟨m', hl.info b' m' h1, h2⟩)
  obj := fun b m o hb ho => s.obj b m o (hl.info b m hb) ho
  osep := fun b m o b' m' o' L L' hb ho hb' ho' => s.osep b m o b' m' o' L L' (hl.info b m hb) ho (hl.info b' m' hb') ho'

/-- Whatever world: the empty heap describes it. -/
def Base.start (w : World) : Base := ⟨w, [], []⟩
theorem Sim.start (w : World) : Sim (.start w) (fun _ => none) .empty w where
  base := .refl _ _
  keep := ⟨.nil, (fun _ h => by cases h), (fun _ h => by cases h)⟩
  fin := ⟨0, fun _ _ => rfl⟩
  info := fun _ _ h => by cases h
  cell := fun _ _ h => absurd rfl h
  sep := fun _ _ _ _ h => by cases h
  obj := fun _ _ _ h => by cases h
  osep := fun _ _ _ _ _ _ _ _ h => by cases h

/-- The world may change where nothing is told, from w0's blocks on. -/
theorem Sim.move {w0 : Base} {w w' : World} {ρ : Ren} {h : AH} (s : Sim w0 ρ h w) (hb : Below w0.w.heap.size w0.w w') (hk : KeepsObjs w w')
    (hc : ∀ b L i v, ρ b = some L → w.cell? ⟨L.blk, L.off + i, none⟩ = some v → w'.cell? ⟨L.blk, L.off + i, none⟩ = some v)
    (hf : ∀ b L i v, ρ b = some L → w.cell? ⟨L.blk, L.off + i, none⟩ = some v → w.frozen? ⟨L.blk, L.off + i, none⟩ = false → w'.frozen? ⟨L.blk, L.off + i, none⟩ = false) : Sim w0 ρ h w' where
  base := hb
  keep := s.keep.move hk
  fin := s.fin
  info := fun b m hm => by
    obtain ⟨L, h1, hz, h2, h3, h4⟩ := s.info b m hm
    exact ⟨L, h1, hz, h2, h3, fun i hi => by
      obtain ⟨k1, ⟨v, k2⟩, k3⟩ := h4 i hi
      exact ⟨k1, ⟨v, hc b L i v h1 k2⟩, hf b L i v h1 k2 k3⟩⟩
  cell := fun b i hb => by
    obtain ⟨L, v, h1, h2, h3⟩ := s.cell b i hb
    exact ⟨L, v, h1, hc b L i v h1 h2, h3⟩
  sep := s.sep
  obj := fun b m o hb ho => obj_move hk (s.obj b m o hb ho)
  osep := s.osep

theorem Sim.drawn {w0 : Base} {w : World} {ρ : Ren} {h : AH} (s : Sim w0 ρ h w) (n : Nat) : Sim w0 ρ h { w with drawn := n } :=
  s.move ⟨s.base.os, s.base.tape, s.base.output, s.base.size, s.base.block⟩ (fun _ _ h _ => h) (fun _ _ _ _ _ h => h) (fun _ _ _ _ _ _ h => h)

/-- The greater naming. -/
theorem Sim.grow {w0 : Base} {w : World} {ρ ρ' : Ren} {h : AH} (s : Sim w0 ρ h w) (hl : ρ.le ρ') (hfin : ∃ N, ∀ b, N ≤ b → ρ' b = none)
    (hfree : ∀ b, ρ b = none → h.info b = none ∧ ∀ i, h.cell b i = .tuple #[]) : Sim w0 ρ' h w where
  base := s.base
  keep := s.keep
  fin := hfin
  info := fun b m hm => by
    obtain ⟨L, h1, h2⟩ := s.info b m hm
    exact ⟨L, hl _ _ h1, h2⟩
  cell := fun b i hb => by
    obtain ⟨L, v, h1, h2, h3⟩ := s.cell b i hb
    exact ⟨L, v, hl _ _ h1, h2, h3.mono hl⟩
  sep := fun b m L i hb hL hi b' L' i' hne hL' hor => by
    obtain ⟨L1, h1, _⟩ := s.info b m hb
    have e := hl _ _ h1; rw [hL] at e; cases e
    have h2 : ∃ L2, ρ b' = some L2 := by
      cases hb' : ρ b' with
      | some L2 => exact ⟨L2, rfl⟩
      | none =>
        obtain ⟨f1, f2⟩ := hfree b' hb'
        rcases hor with k | ⟨m', k, _⟩
        · exact absurd (f2 i') k
        · rw [f1] at k; cases k
    obtain ⟨L2, h2⟩ := h2
    have e := hl _ _ h2; rw [hL'] at e; cases e
    exact s.sep b m L i hb h1 hi b' L' i' hne h2 hor
  obj := fun b m o hb ho => obj_grow hl (s.obj b m o hb ho)
  osep := fun b m o b' m' o' L L' hb ho hb' ho' hL hL' he => by
    obtain ⟨L1, _, h1, _⟩ := s.obj b m o hb ho
    obtain ⟨L2, _, h2, _⟩ := s.obj b' m' o' hb' ho'
    have e1 := hl _ _ h1; rw [hL] at e1; cases e1
    have e2 := hl _ _ h2; rw [hL'] at e2; cases e2
    exact s.osep b m o b' m' o' L L' hb ho hb' ho' h1 h2 he

/-- What a heap tells of, the naming names. -/
theorem Sim.named {w0 : Base} {w : World} {ρ : Ren} {h : AH} (s : Sim w0 ρ h w) (b : Nat) (hb : ρ b = none) : h.info b = none ∧ ∀ i, h.cell b i = .tuple #[] := by
  constructor
  · cases hm : h.info b with
    | none => rfl
    | some m => obtain ⟨L, h1, _⟩ := s.info b m hm; rw [hb] at h1; cases h1
  · intro i
    by_cases hc : h.cell b i = .tuple #[]
    · exact hc
    · obtain ⟨L, v, h1, _⟩ := s.cell b i hc; rw [hb] at h1; cases h1

theorem Sim.grow' {w0 : Base} {w : World} {ρ ρ' : Ren} {h : AH} (s : Sim w0 ρ h w) (hl : ρ.le ρ') (hfin : ∃ N, ∀ b, N ≤ b → ρ' b = none) : Sim w0 ρ' h w := s.grow hl hfin s.named

end Go.Abs
