/- Contracts and laws that a statement of this seat is proved by (part 1). -/
import Derived.Calls
import Derived.Orders
import Derived.Below
import Derived.Laws.Cells
import Derived.Laws.IdiomCopy
import Derived.RangeFuncRecord
import Derived.RangeFuncIn
import Derived.Laws.Entries
import Derived.Laws.Append
import Derived.Laws.BytesString
import Derived.Laws.IdiomStrings
import Derived.Laws.BytesArg
set_option linter.unusedSimpArgs false
set_option linter.unusedVariables false
/- The abstract heap: values and blocks without tape, orders of evaluation and capacities, and what it means that a world of the model is described by it. -/
namespace Go.Abs
open Go.RowKit

structure Loc where
  blk : Nat
  off : Nat
  ext : Nat
  sz : Nat

abbrev Ren := Nat → Option Loc

abbrev skipV : Value := .chan (some 0)

inductive VRel (ρ : Ren) : Value → Value → Prop
  | unk (v : Value) : VRel ρ (.tuple #[]) v
  | bool (b : Bool) : VRel ρ (.bool b) (.bool b)
  | int (k : IntKind) (n : Int) : VRel ρ (.int k n) (.int k n)
  | string (s : ByteArray) : VRel ρ (.string s) (.string s)
  | nilPtr : VRel ρ (.pointer none) (.pointer none)
  | nilSlice : VRel ρ (.slice none 0 0) (.slice none 0 0)
  | nilMap : VRel ρ (.map none) (.map none)
  | nilFunc : VRel ρ .nilFunc .nilFunc
  | map {b : Nat} {L : Loc} (h : ρ b = some L) : VRel ρ (.map (some b)) (.map (some L.blk))
  | nilIface : VRel ρ .nilIface .nilIface
  | ptr {b : Nat} {o : Nat} {L : Loc} (h : ρ b = some L) : VRel ρ (.pointer (some ⟨b, o, none⟩)) (.pointer (some ⟨L.blk, L.off + o, none⟩))
  | slice {b o n : Nat} {L : Loc} (c : Nat) (h : ρ b = some L) (hn : n ≤ c) (hc : L.sz ≠ 0 → o + c * L.sz ≤ L.ext) :
      VRel ρ (.slice (some ⟨b, o, none⟩) n n) (.slice (some ⟨L.blk, L.off + o, none⟩) n c)
  | slice0 {b o : Nat} {L : Loc} (a : Addr) (h : ρ b = some L) : VRel ρ (.slice (some ⟨b, o, none⟩) 0 0) (.slice (some a) 0 0)
  | iface {t : TypeId} {x y : Value} (h : VRel ρ x y) : VRel ρ (.iface t x) (.iface t y)
  | agg {xs ys : Array Value} (hs : xs.size = ys.size) (h : ∀ i, VRel ρ (xs.getD i (.tuple #[])) (ys.getD i (.tuple #[]))) : VRel ρ (.agg xs) (.agg ys)
  | tuple {xs ys : Array Value} (hs : xs.size = ys.size) (h : ∀ i, VRel ρ (xs.getD i (.tuple #[])) (ys.getD i (.tuple #[]))) : VRel ρ (.tuple xs) (.tuple ys)
  | func {f : FuncId} {xs ys : Array Value} (hs : xs.size = ys.size) (h : ∀ i, VRel ρ (xs.getD i (.tuple #[])) (ys.getD i (.tuple #[]))) :
      VRel ρ (.func (.func f) #[] xs) (.func (.func f) #[] ys)
  | meth {nm : String} {x y : Value} (h : VRel ρ x y) : VRel ρ (.func (.method nm) #[x] #[]) (.func (.method nm) #[y] #[])
  | yield {l : Nat} {L : Loc} (h : ρ l = some L) : VRel ρ (.func (.yield l) #[] #[]) (.func (.yield L.blk) #[] #[])
  | skip : VRel ρ (.chan (some 0)) (.tuple #[])

def Ren.le (ρ ρ' : Ren) : Prop := ∀ b L, ρ b = some L → ρ' b = some L
theorem Ren.le.refl (ρ : Ren) : ρ.le ρ := fun _ _ h => h
theorem Ren.le.trans {a b c : Ren} (h : a.le b) (k : b.le c) : a.le c := fun x L hx => k x L (h x L hx)

theorem VRel.mono {ρ ρ' : Ren} (hl : ρ.le ρ') {a c : Value} (h : VRel ρ a c) : VRel ρ' a c := by
  induction h with
  | unk v => exact .unk v
  | bool b => exact .bool b
  | int k n => exact .int k n
  | string s => exact .string s
  | nilPtr => exact .nilPtr
  | nilSlice => exact .nilSlice
  | nilMap => exact .nilMap
  | nilFunc => exact .nilFunc
  | map h => exact .map (hl _ _ h)
  | nilIface => exact .nilIface
  | ptr h => exact .ptr (hl _ _ h)
  | slice c h hn hc => exact .slice c (hl _ _ h) hn hc
  | slice0 a h => exact .slice0 a (hl _ _ h)
  | iface _ ih => exact .iface ih
  | agg hs _ ih => exact .agg hs ih
  | tuple hs _ ih => exact .tuple hs ih
  | func hs _ ih => exact .func hs ih
  | meth _ ih => exact .meth ih
  | yield h => exact .yield (hl _ _ h)
  | skip => exact .skip

theorem VRel.back {ρ ρ' : Ren} (hl : ρ.le ρ') {a c : Value} (h : VRel ρ a c) : ∀ d, VRel ρ' a d → VRel ρ a d := by
  induction h with
  | unk v => exact fun d _ => .unk d
  | bool b => intro d h; cases h; exact .bool b
  | int k n => intro d h; cases h; exact .int k n
  | string s => intro d h; cases h; exact .string s
  | nilPtr => intro d h; cases h; exact .nilPtr
  | nilSlice => intro d h; cases h; exact .nilSlice
  | nilMap => intro d h; cases h; exact .nilMap
  | nilFunc => intro d h; cases h; exact .nilFunc
  | map h => intro d h'; cases h' with | map h' => rw [hl _ _ h] at h'; cases h'; exact .map h
  | nilIface => intro d h; cases h; exact .nilIface
  | ptr h => intro d h'; cases h' with | ptr h' => rw [hl _ _ h] at h'; cases h'; exact .ptr h
  | slice c h hn hc =>
    intro d h'
    cases h' with
    | slice c' h' hn' hc' => rw [hl _ _ h] at h'; cases h'; exact .slice c' h hn' hc'
    | slice0 a h' => exact .slice0 a h
  | slice0 a h =>
    intro d h'
    cases h' with
    | slice c' h' hn' hc' => rw [hl _ _ h] at h'; cases h'; exact .slice c' h hn' hc'
    | slice0 a h' => exact .slice0 a h
  | iface _ ih => intro d h'; cases h' with | iface h' => exact .iface (ih _ h')
  | agg hs _ ih => intro d h'; cases h' with | agg hs' h' => exact .agg hs' fun i => ih i _ (h' i)
  | tuple hs _ ih =>
    intro d h'
    cases h' with
    | unk => exact .unk _
    | tuple hs' h' => exact .tuple hs' fun i => ih i _ (h' i)
  | func hs _ ih => intro d h'; cases h' with | func hs' h' => exact .func hs' fun i => ih i _ (h' i)
  | meth _ ih => intro d h'; cases h' with | meth h' => exact .meth (ih _ h')
  | yield h => intro d h'; cases h' with | yield h' => rw [hl _ _ h] at h'; cases h'; exact .yield h
  | skip => intro d h; cases h; exact .skip

abbrev Env := List (Nat × Value)
def Env.get (env : Env) (t : Nat) : Value :=
  match env with
  | [] => .tuple #[]
  | (k, v) :: r => if Nat.beq k t then v else Env.get r t
def Env.put (env : Env) (d : Option Tmp) (v : Value) : Env :=
  match d with
  | some d => (d, v) :: env
  | none => env
structure EnvRel (ρ : Ren) (N : Nat) (env : Env) (tmps : Array Value) : Prop where
  size : tmps.size = N
  at_ : ∀ t, VRel ρ (env.get t) (tmps.getD t (.tuple #[]))
theorem EnvRel.mono {ρ ρ' : Ren} {N : Nat} {env : Env} {tmps : Array Value} (hl : ρ.le ρ') (h : EnvRel ρ N env tmps) : EnvRel ρ' N env tmps :=
  ⟨h.size, fun t => (h.at_ t).mono hl⟩

structure ALoop where
  params : Array Tmp
  assign : Code
  body : Code
  N : Nat
  env : Env
  state : LoopState
  pending : Option Code

structure AEnt where
  key : Value
  val : Value
  born : Nat

inductive AObj where
  | loop (a : ALoop)
  | map (l : List AEnt) (clock : Nat)
  | mapIter (map : Option Nat) (since : Nat) (seen : Array Nat) (stepped : Nat)
  | stringIter (s : ByteArray) (pos : Nat)

structure LoopRel (ρ : Ren) (a : ALoop) (r : Loop) : Prop where
  params : r.params = a.params
  assign : r.assign = a.assign
  body : r.body = a.body
  state : r.state = a.state
  pending : r.pending = a.pending
  env : EnvRel ρ a.N a.env r.tmps
structure EntRel (ρ : Ren) (a : AEnt) (e : MapEntry) : Prop where
  key : VRel ρ a.key e.key
  val : VRel ρ a.val e.val
  born : e.born = a.born
inductive EntsRel (ρ : Ren) : List AEnt → List MapEntry → Prop
  | nil : EntsRel ρ [] []
  | cons {a e l m} (h : EntRel ρ a e) (t : EntsRel ρ l m) : EntsRel ρ (a :: l) (e :: m)
inductive ORel (ρ : Ren) : AObj → Obj → Prop
  | loop {a r} (h : LoopRel ρ a r) : ORel ρ (.loop a) (.loop r)
  | map {l es c} (h : EntsRel ρ l es) : ORel ρ (.map l c) (.map es.toArray c)
  | mapIter0 {s k p} : ORel ρ (.mapIter none s k p) (.mapIter none s k p)
  | mapIter {b L s k p} (h : ρ b = some L) : ORel ρ (.mapIter (some b) s k p) (.mapIter (some L.blk) s k p)
  | stringIter {s p} : ORel ρ (.stringIter s p) (.stringIter s p)
theorem EntsRel.mono {ρ ρ' : Ren} (hl : ρ.le ρ') {l m} (h : EntsRel ρ l m) : EntsRel ρ' l m := by
  induction h with
  | nil => exact .nil
  | cons h _ ih => exact .cons ⟨h.key.mono hl, h.val.mono hl, h.born⟩ ih
theorem ORel.mono {ρ ρ' : Ren} (hl : ρ.le ρ') {o : AObj} {c : Obj} (h : ORel ρ o c) : ORel ρ' o c := by
  cases h with
  | loop h => exact .loop ⟨h.params, h.assign, h.body, h.state, h.pending, h.env.mono hl⟩
  | map h => exact .map (h.mono hl)
  | mapIter0 => exact .mapIter0
  | mapIter h => exact .mapIter (hl _ _ h)
  | stringIter => exact .stringIter
theorem ORel.cells {ρ : Ren} {o : AObj} {c : Obj} (h : ORel ρ o c) : ∀ x e f, c ≠ .cells x e f := by
  cases h <;> intro x e f h <;> cases h

theorem EntsRel.back {ρ ρ' : Ren} (hl : ρ.le ρ') {l : List AEnt} {m : List MapEntry} (h : EntsRel ρ l m) : ∀ d, EntsRel ρ' l d → EntsRel ρ l d := by
  induction h with
  | nil => intro d h'; cases h'; exact .nil
  | cons h _ ih => intro d h'; cases h' with | cons k t => exact .cons ⟨h.key.back hl _ k.key, h.val.back hl _ k.val, k.born⟩ (ih _ t)
theorem ORel.back {ρ ρ' : Ren} (hl : ρ.le ρ') {o : AObj} {c d : Obj} (h : ORel ρ o c) (h' : ORel ρ' o d) : ORel ρ o d := by
  cases h with
  | loop h => cases h' with | loop k => exact .loop ⟨k.params, k.assign, k.body, k.state, k.pending, k.env.size, fun t => (h.env.at_ t).back hl _ (k.env.at_ t)⟩
  | map h => cases h' with | map k => exact .map (h.back hl _ k)
  | mapIter0 => cases h'; exact .mapIter0
  | mapIter h => cases h' with | mapIter k => rw [hl _ _ h] at k; cases k; exact .mapIter h
  | stringIter => cases h'; exact .stringIter

inductive Tail where
  | no
  | ext
  | obj (o : AObj)
def Tail.of : Bool → Tail
  | true => .ext
  | false => .no
instance : Coe Bool Tail := ⟨Tail.of⟩
def Tail.isExt : Tail → Bool
  | .ext => true
  | _ => false
@[simp] theorem Tail.isExt_of (b : Bool) : (Tail.of b).isExt = b := by cases b <;> rfl

structure Meta where
  size : Nat
  lock : Nat
  tail : Tail
  sz : Nat

structure AH where
  info : Nat → Option Meta
  cell : Nat → Nat → Value

structure Dl where
  info : Nat → Option (Option Meta)
  cell : Nat → Nat → Option Value

def AH.empty : AH := ⟨fun _ => none, fun _ _ => .tuple #[]⟩

def AH.app (h : AH) (d : Dl) : AH := ⟨fun b => (d.info b).getD (h.info b), fun b i => (d.cell b i).getD (h.cell b i)⟩

def Dl.nil : Dl := ⟨fun _ => none, fun _ _ => none⟩
def Dl.comp (d e : Dl) : Dl := ⟨fun b => (e.info b).or (d.info b), fun b i => (e.cell b i).or (d.cell b i)⟩

theorem AH.app_nil (h : AH) : h.app .nil = h := rfl
theorem AH.app_comp (h : AH) (d e : Dl) : h.app (d.comp e) = (h.app d).app e := by
  simp only [AH.app, Dl.comp, AH.mk.injEq]
  constructor
  · funext b; cases e.info b <;> simp
  · funext b i; cases e.cell b i <;> simp
theorem Dl.nil_comp (d : Dl) : Dl.nil.comp d = d := by
  cases d; simp [Dl.nil, Dl.comp]
theorem Dl.comp_assoc (a b c : Dl) : (a.comp b).comp c = a.comp (b.comp c) := by
  simp only [Dl.comp, Dl.mk.injEq]
  constructor
  · funext x; cases c.info x <;> simp
  · funext x i; cases c.cell x i <;> simp

structure AH.le (h H : AH) : Prop where
  info : ∀ b m, h.info b = some m → H.info b = some m
  cell : ∀ b i, h.cell b i = .tuple #[] ∨ H.cell b i = h.cell b i

theorem AH.le.refl (h : AH) : h.le h := ⟨fun _ _ h => h, fun _ _ => .inr rfl⟩
theorem AH.le.trans {a b c : AH} (h : a.le b) (k : b.le c) : a.le c :=
  ⟨fun x m hx => k.info x m (h.info x m hx), fun x i => by
    rcases h.cell x i with h1 | h1
    · exact .inl h1
    · rcases k.cell x i with k1 | k1
      · exact .inl (h1 ▸ k1)
      · exact .inr (k1.trans h1)⟩
theorem AH.le.app {a b : AH} (h : a.le b) (d : Dl) : (a.app d).le (b.app d) :=
  ⟨fun x m hx => by
    simp only [AH.app] at hx ⊢
    cases hd : d.info x with
    | none => simp only [hd, Option.getD_none] at hx ⊢; exact h.info x m hx
    | some y => simp only [hd, Option.getD_some] at hx ⊢; exact hx,
   fun x i => by
    simp only [AH.app]
    cases d.cell x i with
    | none => exact h.cell x i
    | some y => exact .inr rfl⟩

def Own (m : Meta) (L : Loc) (i : Nat) : Prop := m.lock ≤ i ∧ i < (if m.tail.isExt = true then L.ext else m.size)

structure Base where
  w : World
  marks : List Nat
  rounds : List Nat

structure Keeps (w0 : Base) (w : World) : Prop where
  nodup : w0.marks.Nodup
  marks : ∀ r, r ∈ w0.marks → w0.w.heap.size ≤ r ∧ w.heap[r]? = some (.deferred (some []))
  rounds : ∀ l, l ∈ w0.rounds → ∃ r, w.heap[l]? = some (.loop r)

def Clear (w : World) (l : Nat) : Prop := ∀ c e lo hi, w.heap[l]? = some (.cells c e (lo, hi)) → lo = hi ∨ c.size ≤ lo
theorem Clear.of {w w' : World} {l : Nat} (h : Clear w l) (e : w'.heap[l]? = w.heap[l]?) : Clear w' l := fun c t lo hi k => h c t lo hi (e ▸ k)
theorem Clear.frozen {w : World} {l o : Nat} {v : Value} (h : Clear w l) (hc : w.cell? ⟨l, o, none⟩ = some v) : w.frozen? ⟨l, o, none⟩ = false := by
  unfold World.cell? at hc
  unfold World.frozen?
  dsimp only at hc ⊢
  cases hq : w.heap[l]? with
  | none => rfl
  | some b =>
    rw [hq] at hc
    cases b with
    | cells c e fz =>
      obtain ⟨lo, hi⟩ := fz
      have hc : c[o]? = some v := hc
      have hlt := (Array.getElem?_eq_some_iff.1 hc).1
      have := h c e lo hi hq
      simp only [Bool.and_eq_false_iff, decide_eq_false_iff_not]
      omega
    | _ => rfl
theorem Clear.setCell {w : World} {l : Nat} (h : Clear w l) (a : Addr) (v : Value) : Clear (w.setCell a v) l := fun c t lo hi k => by
  simp only [World.setCell, Array.getElem?_modify] at k
  split at k
  · cases hq : w.heap[l]? with
    | none => rw [hq] at k; cases k
    | some o =>
      rw [hq] at k
      cases o with
      | cells c' t' fz =>
        simp only [Option.map_some, Option.some.injEq, Obj.cells.injEq] at k
        obtain ⟨k1, k2, k3⟩ := k
        have := h c' t' lo hi (by rw [hq, k3])
        rw [← k1]
        split <;> simpa using this
      | _ => simp at k
  · exact h c t lo hi k
structure Sim (w0 : Base) (ρ : Ren) (h : AH) (w : World) : Prop where
  base : Below w0.w.heap.size w0.w w
  keep : Keeps w0 w
  fin : ∃ N, ∀ b, N ≤ b → ρ b = none
  info : ∀ b m, h.info b = some m → ∃ L, ρ b = some L ∧ L.sz = m.sz ∧ m.size ≤ L.ext ∧ m.lock ≤ m.size ∧
    ∀ i, Own m L i → w0.w.heap.size ≤ L.blk ∧ (∃ v, w.cell? ⟨L.blk, L.off + i, none⟩ = some v) ∧ Clear w L.blk
  cell : ∀ b i, h.cell b i ≠ .tuple #[] → ∃ L v, ρ b = some L ∧ w.cell? ⟨L.blk, L.off + i, none⟩ = some v ∧ VRel ρ (h.cell b i) v
  sep : ∀ b m L i, h.info b = some m → ρ b = some L → Own m L i → ∀ b' L' i', b' ≠ b → ρ b' = some L' →
    (h.cell b' i' ≠ .tuple #[] ∨ ∃ m', h.info b' = some m' ∧ Own m' L' i') → ¬ (L.blk = L'.blk ∧ L.off + i = L'.off + i')
  obj : ∀ b m o, h.info b = some m → m.tail = .obj o → ∃ L c, ρ b = some L ∧ L.off = 0 ∧ w0.w.heap.size ≤ L.blk ∧ w.heap[L.blk]? = some c ∧ ORel ρ o c
  osep : ∀ b m o b' m' o' L L', h.info b = some m → m.tail = .obj o → h.info b' = some m' → m'.tail = .obj o' → ρ b = some L → ρ b' = some L' → L.blk = L'.blk → b = b'

section
variable {w0 : Base} {ρ ρ' : Ren} {h H : AH} {w w' : World}
def KeepsObjs (w w' : World) : Prop := ∀ (l : Nat) (o : Obj), w.heap[l]? = some o → (∀ c e f, o ≠ Obj.cells c e f) → w'.heap[l]? = some o
theorem Keeps.move (k : Keeps w0 w) (hk : KeepsObjs w w') : Keeps w0 w' :=
  ⟨k.nodup, fun r hr => ⟨(k.marks r hr).1, hk _ _ (k.marks r hr).2 (fun _ _ _ e => by cases e)⟩, fun l hl => by
    obtain ⟨r, h1⟩ := k.rounds l hl
    exact ⟨r, hk _ _ h1 (fun _ _ _ e => by cases e)⟩⟩
theorem obj_move {o : AObj} {b : Nat} (hk : KeepsObjs w w') (h : ∃ L c, ρ b = some L ∧ L.off = 0 ∧ w0.w.heap.size ≤ L.blk ∧ w.heap[L.blk]? = some c ∧ ORel ρ o c) :
    ∃ L c, ρ b = some L ∧ L.off = 0 ∧ w0.w.heap.size ≤ L.blk ∧ w'.heap[L.blk]? = some c ∧ ORel ρ o c := by
  obtain ⟨L, c, h1, h2, h3, h4, h5⟩ := h
  exact ⟨L, c, h1, h2, h3, hk _ _ h4 h5.cells, h5⟩
theorem obj_grow {o : AObj} {b : Nat} (hl : ρ.le ρ') (h : ∃ L c, ρ b = some L ∧ L.off = 0 ∧ w0.w.heap.size ≤ L.blk ∧ w.heap[L.blk]? = some c ∧ ORel ρ o c) :
    ∃ L c, ρ' b = some L ∧ L.off = 0 ∧ w0.w.heap.size ≤ L.blk ∧ w.heap[L.blk]? = some c ∧ ORel ρ' o c := by
  obtain ⟨L, c, h1, h2, h3, h4, h5⟩ := h
  exact ⟨L, c, hl _ _ h1, h2, h3, h4, h5.mono hl⟩
end

theorem Sim.anti {w0 : Base} {w : World} {ρ : Ren} {h H : AH} (hl : h.le H) (s : Sim w0 ρ H w) : Sim w0 ρ h w where
  base := s.base
  keep := s.keep
  fin := s.fin
  info := fun b m hb => s.info b m (hl.info b m hb)
  cell := fun b i hb => by
    rcases hl.cell b i with h1 | h1
    · exact absurd h1 hb
    · have := s.cell b i (by rw [h1]; exact hb)
      rwa [h1] at this
  sep := fun b m L i hb hL hi b' L' i' hne hL' hor =>
    s.sep b m L i (hl.info b m hb) hL hi b' L' i' hne hL' (by
      rcases hor with h1 | ⟨m', h1, h2⟩
      · left
        rcases hl.cell b' i' with h2 | h2
        · exact absurd h2 h1
        · rw [h2]; exact h1
      · exact .inr ⟨m', hl.info b' m' h1, h2⟩)
  obj := fun b m o hb ho => s.obj b m o (hl.info b m hb) ho
  osep := fun b m o b' m' o' L L' hb ho hb' ho' => s.osep b m o b' m' o' L L' (hl.info b m hb) ho (hl.info b' m' hb') ho'

def Base.start (w : World) : Base := ⟨w, [], []⟩
theorem Sim.start (w : World) : Sim (.start w) (fun _ => none) .empty w where
  base := .refl _ _
  keep := ⟨.nil, (fun _ h => by cases h), (fun _ h => by cases h)⟩
  fin := ⟨0, fun _ _ => rfl⟩
  info := fun _ _ h => by cases h
  cell := fun _ _ h => absurd rfl h
  sep := fun _ _ _ _ h => by cases h
  obj := fun _ _ _ h => by cases h
  osep := fun _ _ _ _ _ _ _ _ h => by cases h

theorem Sim.move {w0 : Base} {w w' : World} {ρ : Ren} {h : AH} (s : Sim w0 ρ h w) (hb : Below w0.w.heap.size w0.w w') (hk : KeepsObjs w w')
    (hc : ∀ b L i v, ρ b = some L → w.cell? ⟨L.blk, L.off + i, none⟩ = some v → w'.cell? ⟨L.blk, L.off + i, none⟩ = some v)
    (hf : ∀ b L i v, ρ b = some L → w.cell? ⟨L.blk, L.off + i, none⟩ = some v → Clear w L.blk → Clear w' L.blk) : Sim w0 ρ h w' where
  base := hb
  keep := s.keep.move hk
  fin := s.fin
  info := fun b m hm => by
    obtain ⟨L, h1, hz, h2, h3, h4⟩ := s.info b m hm
    exact ⟨L, h1, hz, h2, h3, fun i hi => by
      obtain ⟨k1, ⟨v, k2⟩, k3⟩ := h4 i hi
      exact ⟨k1, ⟨v, hc b L i v h1 k2⟩, hf b L i v h1 k2 k3⟩⟩
  cell := fun b i hb => by
    obtain ⟨L, v, h1, h2, h3⟩ := s.cell b i hb
    exact ⟨L, v, h1, hc b L i v h1 h2, h3⟩
  sep := s.sep
  obj := fun b m o hb ho => obj_move hk (s.obj b m o hb ho)
  osep := s.osep

theorem Sim.drawn {w0 : Base} {w : World} {ρ : Ren} {h : AH} (s : Sim w0 ρ h w) (n : Nat) : Sim w0 ρ h { w with drawn := n } :=
  s.move ⟨s.base.os, s.base.tape, s.base.output, s.base.size, s.base.block⟩ (fun _ _ h _ => h) (fun _ _ _ _ _ h => h) (fun _ _ _ _ _ _ h => h)

theorem Sim.grow {w0 : Base} {w : World} {ρ ρ' : Ren} {h : AH} (s : Sim w0 ρ h w) (hl : ρ.le ρ') (hfin : ∃ N, ∀ b, N ≤ b → ρ' b = none)
    (hfree : ∀ b, ρ b = none → h.info b = none ∧ ∀ i, h.cell b i = .tuple #[]) : Sim w0 ρ' h w where
  base := s.base
  keep := s.keep
  fin := hfin
  info := fun b m hm => by
    obtain ⟨L, h1, h2⟩ := s.info b m hm
    exact ⟨L, hl _ _ h1, h2⟩
  cell := fun b i hb => by
    obtain ⟨L, v, h1, h2, h3⟩ := s.cell b i hb
    exact ⟨L, v, hl _ _ h1, h2, h3.mono hl⟩
  sep := fun b m L i hb hL hi b' L' i' hne hL' hor => by
    obtain ⟨L1, h1, _⟩ := s.info b m hb
    have e := hl _ _ h1; rw [hL] at e; cases e
    have h2 : ∃ L2, ρ b' = some L2 := by
      cases hb' : ρ b' with
      | some L2 => exact ⟨L2, rfl⟩
      | none =>
        obtain ⟨f1, f2⟩ := hfree b' hb'
        rcases hor with k | ⟨m', k, _⟩
        · exact absurd (f2 i') k
        · rw [f1] at k; cases k
    obtain ⟨L2, h2⟩ := h2
    have e := hl _ _ h2; rw [hL'] at e; cases e
    exact s.sep b m L i hb h1 hi b' L' i' hne h2 hor
  obj := fun b m o hb ho => obj_grow hl (s.obj b m o hb ho)
  osep := fun b m o b' m' o' L L' hb ho hb' ho' hL hL' he => by
    obtain ⟨L1, _, h1, _⟩ := s.obj b m o hb ho
    obtain ⟨L2, _, h2, _⟩ := s.obj b' m' o' hb' ho'
    have e1 := hl _ _ h1; rw [hL] at e1; cases e1
    have e2 := hl _ _ h2; rw [hL'] at e2; cases e2
    exact s.osep b m o b' m' o' L L' hb ho hb' ho' h1 h2 he

theorem Sim.named {w0 : Base} {w : World} {ρ : Ren} {h : AH} (s : Sim w0 ρ h w) (b : Nat) (hb : ρ b = none) : h.info b = none ∧ ∀ i, h.cell b i = .tuple #[] := by
  constructor
  · cases hm : h.info b with
    | none => rfl
    | some m => obtain ⟨L, h1, _⟩ := s.info b m hm; rw [hb] at h1; cases h1
  · intro i
    by_cases hc : h.cell b i = .tuple #[]
    · exact hc
    · obtain ⟨L, v, h1, _⟩ := s.cell b i hc; rw [hb] at h1; cases h1

theorem Sim.grow' {w0 : Base} {w : World} {ρ ρ' : Ren} {h : AH} (s : Sim w0 ρ h w) (hl : ρ.le ρ') (hfin : ∃ N, ∀ b, N ≤ b → ρ' b = none) : Sim w0 ρ' h w := s.grow hl hfin s.named

end Go.Abs

/- Steps of memory, told of the abstract heap: a new block, a store, slack taken by an append, what is given up. -/
namespace Go.Abs
open Go.RowKit

def Ren.set (ρ : Ren) (n : Nat) (L : Loc) : Ren := fun b => if b = n then some L else ρ b
theorem Ren.le_set {ρ : Ren} {n : Nat} (hn : ρ n = none) (L : Loc) : ρ.le (ρ.set n L) := fun b K h => by
  unfold Ren.set
  by_cases e : b = n
  · subst e; rw [hn] at h; cases h
  · rw [if_neg e]; exact h
theorem Ren.set_fin {ρ : Ren} (h : ∃ N, ∀ b, N ≤ b → ρ b = none) (n : Nat) (L : Loc) : ∃ N, ∀ b, N ≤ b → ρ.set n L b = none := by
  obtain ⟨N, h⟩ := h
  exact ⟨max N (n + 1), fun b hb => by unfold Ren.set; rw [if_neg (by omega)]; exact h b (by omega)⟩
theorem Ren.set_self (ρ : Ren) (n : Nat) (L : Loc) : ρ.set n L n = some L := by simp [Ren.set]
theorem Ren.set_ne (ρ : Ren) {n b : Nat} (L : Loc) (h : b ≠ n) : ρ.set n L b = ρ b := by simp [Ren.set, h]

@[irreducible] def Dl.new (n : Nat) (m : Meta) (cs : List Value) : Dl :=
  ⟨fun b => if b = n then some (some m) else none, fun b i => if b = n then some (cs.getD i (.tuple #[])) else none⟩
@[irreducible] def Dl.sets (b o : Nat) (vs : List Value) : Dl :=
  ⟨fun _ => none, fun x i => if x = b ∧ o ≤ i ∧ i < o + vs.length then some (vs.getD (i - o) (.tuple #[])) else none⟩

theorem sets_info (h : AH) (b o : Nat) (vs : List Value) (x : Nat) : (h.app (.sets b o vs)).info x = h.info x := by unfold Dl.sets; rfl
theorem getD_none_lt {cs : List Value} {i : Nat} (h : cs.getD i (.tuple #[]) ≠ .tuple #[]) : i < cs.length := by
  rcases Nat.lt_or_ge i cs.length with h1 | h1
  · exact h1
  · exact absurd (by simp [List.getD, List.getElem?_eq_none h1]) h

theorem World.cell?_alloc_some {w : World} {a : Addr} {v : Value} (o : Obj) (h : w.cell? a = some v) : (w.alloc o).cell? a = some v := by
  rw [World.cell?_alloc_lt _ _ _ (World.block_lt_of_cell? _ _ h)]; exact h
theorem KeepsObjs.alloc (w : World) (x : Obj) : KeepsObjs w (w.alloc x) := fun l o h _ => by
  have hl : l < w.heap.size := (Array.getElem?_eq_some_iff.1 h).1
  simp only [World.alloc, Array.getElem?_push]
  rw [if_neg (by omega)]; exact h
theorem KeepsObjs.setCell (w : World) (a : Addr) (v : Value) : KeepsObjs w (w.setCell a v) := fun l o h hc => by
  simp only [World.setCell, Array.getElem?_modify]
  split
  · rw [h]
    cases o <;> first | rfl | exact absurd rfl (hc _ _ _)
  · exact h

theorem Sim.alloc {w0 : Base} {w : World} {ρ : Ren} {h : AH} (s : Sim w0 ρ h w) (o : Obj) : Sim w0 ρ h (w.alloc o) :=
  s.move (s.base.alloc s.base.size o) (.alloc w o) (fun _ _ _ _ _ h => World.cell?_alloc_some o h) (fun _ _ _ _ _ h hf => hf.of (Below.heap_alloc w o _ (World.block_lt_of_cell? _ _ h)))

theorem Sim.new {w0 : Base} {w : World} {ρ : Ren} {h : AH} (s : Sim w0 ρ h w) {n : Nat} (hn : ρ n = none) (cs : List Value) (conc : Array Value) (elem : TypeId) (sz : Nat)
    (hsz : cs.length ≤ conc.size) (hv : ∀ i, i < cs.length → VRel ρ (cs.getD i (.tuple #[])) (conc.getD i (.tuple #[]))) :
    Sim w0 (ρ.set n ⟨w.heap.size, 0, conc.size, sz⟩) (h.app (.new n ⟨cs.length, 0, true, sz⟩ cs)) (w.alloc (.cells conc elem)) := by
  have s1 := (s.alloc (.cells conc elem)).grow' (Ren.le_set hn ⟨w.heap.size, 0, conc.size, sz⟩) (Ren.set_fin s.fin _ _)
  have hnamed := s.named n hn
  have hcell : ∀ b i, (h.app (.new n ⟨cs.length, 0, true, sz⟩ cs)).cell b i = if b = n then cs.getD i (.tuple #[]) else h.cell b i := by
    intro b i; by_cases e : b = n <;> simp [AH.app, Dl.new, e]
  have hinfo : ∀ b, (h.app (.new n ⟨cs.length, 0, true, sz⟩ cs)).info b = if b = n then some ⟨cs.length, 0, true, sz⟩ else h.info b := by
    intro b; by_cases e : b = n <;> simp [AH.app, Dl.new, e]
  have hgt : ∀ i, i < conc.size → (w.alloc (.cells conc elem)).cell? ⟨w.heap.size, 0 + i, none⟩ = some (conc.getD i (.tuple #[])) := by
    intro i hi
    rw [World.cell?_alloc_new]; simp [hi]
  have hold : ∀ b L, b ≠ n → (ρ.set n ⟨w.heap.size, 0, conc.size, sz⟩) b = some L → (h.cell b · ≠ .tuple #[]) = (h.cell b · ≠ .tuple #[]) := fun _ _ _ _ => rfl
  -- a block that is told of lies in an older block of the world
  have hlt : ∀ b L i, b ≠ n → ρ b = some L → (h.cell b i ≠ .tuple #[] ∨ ∃ m', h.info b = some m' ∧ Own m' L i) → L.blk < w.heap.size := by
    intro b L i hb hL hor
    rcases hor with h1 | ⟨m', h1, h2⟩
    · obtain ⟨L', v, k1, k2, _⟩ := s.cell b i h1
      rw [hL] at k1; cases k1
      exact World.block_lt_of_cell? _ _ k2
    · obtain ⟨L', k1, _, _, _, k3⟩ := s.info b m' h1
      rw [hL] at k1; cases k1
      obtain ⟨_, ⟨v, k4⟩, _⟩ := k3 i h2
      exact World.block_lt_of_cell? _ _ k4
  have hobj : ∀ b m o, (h.app (.new n ⟨cs.length, 0, true, sz⟩ cs)).info b = some m → m.tail = .obj o → b ≠ n ∧ h.info b = some m := by
    intro b m o hm ho
    rw [hinfo] at hm
    by_cases e : b = n
    · rw [if_pos e] at hm; cases hm; cases ho
    · rw [if_neg e] at hm; exact ⟨e, hm⟩
  refine ⟨s1.base, s1.keep, s1.fin, ?_, ?_, ?_, fun b m o hm ho => s1.obj b m o (hobj b m o hm ho).2 ho, fun b m o b' m' o' L L' hm ho hm' ho' => s1.osep b m o b' m' o' L L' (hobj b m o hm ho).2 ho (hobj b' m' o' hm' ho').2 ho'⟩
  · intro b m hm
    rw [hinfo] at hm
    by_cases e : b = n
    · subst e
      rw [if_pos rfl] at hm; cases hm
      refine ⟨_, Ren.set_self _ _ _, rfl, hsz, Nat.zero_le _, fun i hi => ⟨s.base.size, ?_, ?_⟩⟩
      · have : i < conc.size := by simpa [Own] using hi.2
        exact ⟨_, hgt i this⟩
      · intro c t lo hi hh
        have hq : (w.heap.push (Obj.cells conc elem))[w.heap.size]? = some (.cells conc elem) := by simp
        have hh : (w.heap.push (Obj.cells conc elem))[w.heap.size]? = some (.cells c t (lo, hi)) := hh
        rw [hq] at hh; cases hh; exact .inl rfl
    · rw [if_neg e] at hm; exact s1.info b m hm
  · intro b i hb
    rw [hcell] at hb ⊢
    by_cases e : b = n
    · subst e
      rw [if_pos rfl] at hb ⊢
      have hi := getD_none_lt hb
      exact ⟨_, _, Ren.set_self _ _ _, hgt i (by omega), (hv i hi).mono (Ren.le_set hn _)⟩
    · rw [if_neg e] at hb ⊢; exact s1.cell b i hb
  · intro b m L i hm hL hi b' L' i' hne hL' hor
    rw [hinfo] at hm
    rw [hcell, hinfo] at hor
    by_cases e : b = n
    · subst e
      rw [Ren.set_self] at hL; cases hL
      rw [if_neg hne, if_neg hne] at hor
      rw [Ren.set_ne _ _ hne] at hL'
      have := hlt b' L' i' hne hL' hor
      rintro ⟨h1, _⟩
      simp only at h1; omega
    · rw [if_neg e] at hm
      by_cases e' : b' = n
      · subst e'
        rw [Ren.set_self] at hL'; cases hL'
        rw [Ren.set_ne _ _ e] at hL
        have := hlt b L i e hL (.inr ⟨m, hm, hi⟩)
        rintro ⟨h1, _⟩
        simp only at h1; omega
      · rw [if_neg e', if_neg e'] at hor
        exact s1.sep b m L i hm hL hi b' L' i' hne hL' hor

theorem Sim.store1 {w0 : Base} {w : World} {ρ : Ren} {h : AH} (s : Sim w0 ρ h w) {b : Nat} {m : Meta} {L : Loc} {i : Nat} (hm : h.info b = some m) (hL : ρ b = some L) (hi : Own m L i)
    {a c : Value} (hv : VRel ρ a c) : Sim w0 ρ (h.app (.sets b i [a])) (w.setCell ⟨L.blk, L.off + i, none⟩ c) := by
  obtain ⟨L', e, hzz, h2, h3, h4⟩ := s.info b m hm
  rw [hL] at e; cases e
  obtain ⟨hbase, ⟨u, hu⟩, hfz⟩ := h4 i hi
  have hcell : ∀ x j, (h.app (.sets b i [a])).cell x j = if x = b ∧ j = i then a else h.cell x j := by
    intro x j
    by_cases e : x = b ∧ j = i
    · obtain ⟨rfl, rfl⟩ := e; simp [AH.app, Dl.sets]
    · have : ¬ (x = b ∧ i ≤ j ∧ j < i + [a].length) := by simp; omega
      simp only [AH.app, Dl.sets, if_neg this, Option.getD_none, if_neg e]
  have hinfo : ∀ x, (h.app (.sets b i [a])).info x = h.info x := fun x => sets_info h b i [a] x
  refine ⟨s.base.setCell hbase c, s.keep.move (.setCell w _ _), s.fin, ?_, ?_, ?_, fun b m o hm ho => obj_move (.setCell w _ _) (s.obj b m o (hinfo b ▸ hm) ho), fun b m o b' m' o' L L' hb ho hb' ho' => s.osep b m o b' m' o' L L' (hinfo b ▸ hb) ho (hinfo b' ▸ hb') ho'⟩
  · intro x mx hx
    rw [hinfo] at hx
    obtain ⟨K, k1, kz, k2, k3, k4⟩ := s.info x mx hx
    refine ⟨K, k1, kz, k2, k3, fun j hj => ?_⟩
    obtain ⟨q1, ⟨v, q2⟩, q3⟩ := k4 j hj
    refine ⟨q1, ?_, q3.setCell _ _⟩
    by_cases e : (⟨L.blk, L.off + i, none⟩ : Addr) = ⟨K.blk, K.off + j, none⟩
    · rw [← e]; exact ⟨c, World.cell?_setCell_same _ _ _ hu⟩
    · rw [World.cell?_setCell_other _ _ _ _ e]; exact ⟨v, q2⟩
  · intro x j hx
    rw [hcell] at hx ⊢
    by_cases e : x = b ∧ j = i
    · obtain ⟨rfl, rfl⟩ := e
      rw [if_pos ⟨rfl, rfl⟩]
      exact ⟨L, c, hL, World.cell?_setCell_same _ _ _ hu, hv⟩
    · rw [if_neg e] at hx ⊢
      obtain ⟨K, v, k1, k2, k3⟩ := s.cell x j hx
      refine ⟨K, v, k1, ?_, k3⟩
      rw [World.cell?_setCell_other _ _ _ _ ?_]
      · exact k2
      · intro heq
        injection heq with h5 h6
        by_cases exb : x = b
        · subst exb
          rw [hL] at k1; cases k1
          exact e ⟨rfl, by omega⟩
        · exact s.sep b m L i hm hL hi x K j exb k1 (.inl hx) ⟨h5, h6⟩
  · intro x mx K j hx hK hj x' K' j' hne hK' hor
    rw [hinfo] at hx
    rw [hcell, hinfo] at hor
    by_cases e : x' = b ∧ j' = i
    · obtain ⟨rfl, rfl⟩ := e
      rw [hL] at hK'; cases hK'
      exact s.sep x mx K j hx hK hj x' L j' hne hL (.inr ⟨m, hm, hi⟩)
    · rw [if_neg e] at hor
      exact s.sep x mx K j hx hK hj x' K' j' hne hK' hor

theorem sets_cons (b o : Nat) (v : Value) (r : List Value) : (Dl.sets b o [v]).comp (.sets b (o + 1) r) = .sets b o (v :: r) := by
  simp only [Dl.comp, Dl.sets, Dl.mk.injEq]
  constructor
  · funext x; rfl
  · funext x i
    by_cases hx : x = b
    · subst hx
      by_cases h0 : i = o
      · subst h0
        have h1 : ¬ (x = x ∧ i + 1 ≤ i ∧ i < i + 1 + r.length) := by omega
        rw [if_neg h1, if_pos (by simp), if_pos (by simp)]; simp
      · by_cases h1 : o + 1 ≤ i ∧ i < o + 1 + r.length
        · have h2 : o ≤ i ∧ i < o + (v :: r).length := by simp; omega
          simp only [true_and, if_pos h1, if_pos h2, Option.some_or]
          congr 1
          have : i - o = (i - (o + 1)) + 1 := by omega
          rw [this]; simp [List.getD]
        · have h2 : ¬ (o ≤ i ∧ i < o + (v :: r).length) := by simp at h1 ⊢; omega
          have h3 : ¬ (o ≤ i ∧ i < o + [v].length) := by simp; omega
          simp only [true_and, if_neg h1, if_neg h2, if_neg h3, Option.or_none]
    · simp [hx]
theorem sets_nil (b o : Nat) : Dl.sets b o [] = .nil := by
  simp only [Dl.sets, Dl.nil, Dl.mk.injEq, true_and]
  funext x i
  rw [if_neg]; rintro ⟨_, h1, h2⟩; simp at h2; omega

theorem Sim.stores {w0 : Base} {ρ : Ren} {b : Nat} {m : Meta} {L : Loc} (hL : ρ b = some L) : ∀ (vs cs : List Value) (o : Nat) {w : World} {h : AH} (_ : Sim w0 ρ h w) (_ : h.info b = some m),
    vs.length = cs.length → (∀ j, j < vs.length → Own m L (o + j)) → (∀ j, j < vs.length → VRel ρ (vs.getD j (.tuple #[])) (cs.getD j (.tuple #[]))) →
    Sim w0 ρ (h.app (.sets b o vs)) (w.setCells L.blk (L.off + o) cs)
  | [], [], o, w, h, s, _, _, _, _ => by rw [sets_nil]; exact s
  | v :: r, c :: q, o, w, h, s, hm, hlen, ho, hv => by
    have s1 := s.store1 hm hL (i := o) (by simpa using ho 0 (by simp)) (a := v) (c := c) (by simpa using hv 0 (by simp))
    have s2 := Sim.stores hL r q (o + 1) s1 (by rw [sets_info]; exact hm) (by simpa using hlen) (fun j hj => by have := ho (j + 1) (by simpa using hj); rwa [show o + 1 + j = o + (j + 1) by omega])
      (fun j hj => by simpa using hv (j + 1) (by simpa using hj))
    rw [← AH.app_comp, sets_cons] at s2
    simpa [World.setCells, Nat.add_assoc] using s2
  | [], _ :: _, _, _, _, _, _, h, _, _ => by simp at h
  | _ :: _, [], _, _, _, _, _, h, _, _ => by simp at h

theorem Sim.shrink {w0 : Base} {w : World} {ρ : Ren} {h H : AH} (s : Sim w0 ρ H w)
    (hi : ∀ b m', h.info b = some m' → ∃ m, H.info b = some m ∧ m'.sz = m.sz ∧ m'.size ≤ m.size ∧ m'.lock ≤ m'.size ∧ ∀ L i, ρ b = some L → Own m' L i → Own m L i) (hk : ∀ b m' o, h.info b = some m' → m'.tail = .obj o → H.info b = some m')
    (hc : ∀ b i, h.cell b i = .tuple #[] ∨ H.cell b i = h.cell b i) : Sim w0 ρ h w where
  base := s.base
  keep := s.keep
  fin := s.fin
  info := fun b m' hb => by
    obtain ⟨m, h1, hz, h2, h3, h4⟩ := hi b m' hb
    obtain ⟨L, k1, kz, k2, k3, k4⟩ := s.info b m h1
    exact ⟨L, k1, kz.trans hz.symm, by omega, h3, fun i hi => k4 i (h4 L i k1 hi)⟩
  cell := fun b i hb => by
    rcases hc b i with h1 | h1
    · exact absurd h1 hb
    · have := s.cell b i (by rw [h1]; exact hb)
      rwa [h1] at this
  sep := fun b m' L i hb hL hi' b' L' i' hne hL' hor => by
    obtain ⟨m, h1, hz, h2, h3, h4⟩ := hi b m' hb
    refine s.sep b m L i h1 hL (h4 L i hL hi') b' L' i' hne hL' ?_
    rcases hor with k | ⟨m2, k, k'⟩
    · left
      rcases hc b' i' with q | q
      · exact absurd q k
      · rw [q]; exact k
    · obtain ⟨m3, q1, _, _, _, q4⟩ := hi b' m2 k
      exact .inr ⟨m3, q1, q4 L' i' hL' k'⟩
  obj := fun b m o hb ho => s.obj b m o (hk b m o hb ho) ho
  osep := fun b m o b' m' o' L L' hb ho hb' ho' => s.osep b m o b' m' o' L L' (hk b m o hb ho) ho (hk b' m' o' hb' ho') ho'

@[irreducible] def Dl.takeover (b n : Nat) (keep : Bool) (sz lk ez : Nat) (cs : List Value) : Dl :=
  ⟨fun x => if x = n then some (some ⟨cs.length, lk, true, ez⟩) else if x = b then some (if keep then some ⟨sz, sz, false, ez⟩ else none) else none,
   fun x i => if x = n then some (cs.getD i (.tuple #[])) else if x = b then (if keep && i < sz then none else some (.tuple #[])) else none⟩

theorem Sim.takeover {w0 : Base} {w : World} {ρ : Ren} {h : AH} (s : Sim w0 ρ h w) {b n : Nat} {m : Meta} {L : Loc} (hm : h.info b = some m) (hL : ρ b = some L) (ht : m.tail = true) (hn : ρ n = none)
    (keep : Bool) (cs : List Value) (lk : Nat) (hlk : lk = if keep then m.size else m.lock) (hsz : m.size ≤ cs.length) (hext : cs.length ≤ L.ext)
    (hcs : ∀ i, i < cs.length → h.cell b i = cs.getD i (.tuple #[]) ∨ cs.getD i (.tuple #[]) = .tuple #[]) :
    Sim w0 (ρ.set n L) (h.app (.takeover b n keep m.size lk m.sz cs)) w := by
  have hbn : b ≠ n := fun e => by rw [e, hn] at hL; cases hL
  have hle := Ren.le_set hn L
  obtain ⟨L', e, hzz, h2, h3, h4⟩ := s.info b m hm
  rw [hL] at e; cases e
  have hinfo : ∀ x, (h.app (.takeover b n keep m.size lk m.sz cs)).info x = if x = n then some ⟨cs.length, lk, true, m.sz⟩ else if x = b then (if keep then some ⟨m.size, m.size, false, m.sz⟩ else none) else h.info x := by
    intro x
    by_cases e1 : x = n
    · simp [AH.app, Dl.takeover, e1]
    · by_cases e2 : x = b <;> simp [AH.app, Dl.takeover, e1, e2, hbn]
  have hcell : ∀ x i, (h.app (.takeover b n keep m.size lk m.sz cs)).cell x i = if x = n then cs.getD i (.tuple #[]) else if x = b then (if keep && i < m.size then h.cell b i else .tuple #[]) else h.cell x i := by
    intro x i
    by_cases e1 : x = n
    · simp [AH.app, Dl.takeover, e1]
    · by_cases e2 : x = b
      · subst e2
        simp only [AH.app, Dl.takeover, if_neg e1, if_true]
        by_cases e3 : (keep && decide (i < m.size)) = true
        · rw [if_pos e3, if_pos e3]; rfl
        · rw [if_neg e3, if_neg e3]; rfl
      · simp [AH.app, Dl.takeover, e1, e2]
  have hown : ∀ i, lk ≤ i → i < L.ext → Own m L i := by
    intro i h5 h6
    refine ⟨?_, by simp only [ht, Tail.isExt_of, if_true]; exact h6⟩
    cases keep <;> simp at hlk <;> omega
  have hobj : ∀ x mx o, (h.app (.takeover b n keep m.size lk m.sz cs)).info x = some mx → mx.tail = .obj o → h.info x = some mx := by
    intro x mx o hx ho
    rw [hinfo] at hx
    by_cases e1 : x = n
    · rw [if_pos e1] at hx; cases hx; cases ho
    · rw [if_neg e1] at hx
      by_cases e2 : x = b
      · rw [if_pos e2] at hx
        cases keep
        · simp at hx
        · simp at hx; cases hx; cases ho
      · rw [if_neg e2] at hx; exact hx
  have s2 := s.grow' hle (Ren.set_fin s.fin n L)
  refine ⟨s.base, s.keep, Ren.set_fin s.fin _ _, ?_, ?_, ?_, fun x mx o hx ho => s2.obj x mx o (hobj x mx o hx ho) ho, fun x mx o x' mx' o' K K' hx ho hx' ho' => s2.osep x mx o x' mx' o' K K' (hobj x mx o hx ho) ho (hobj x' mx' o' hx' ho') ho'⟩
  · intro x mx hx
    rw [hinfo] at hx
    by_cases e1 : x = n
    · subst e1
      rw [if_pos rfl] at hx; cases hx
      refine ⟨L, Ren.set_self _ _ _, hzz, hext, ?_, fun i hi => ?_⟩
      · show lk ≤ cs.length
        cases keep <;> simp at hlk <;> omega
      · obtain ⟨h5, h6⟩ := hi
        exact h4 i (hown i h5 (by simpa using h6))
    · rw [if_neg e1] at hx
      by_cases e2 : x = b
      · subst e2
        rw [if_pos rfl] at hx
        cases keep
        · simp at hx
        · simp at hx; cases hx
          exact ⟨L, by rw [Ren.set_ne _ _ e1]; exact hL, hzz, h2, Nat.le_refl _, fun i hi => by
            obtain ⟨h5, h6⟩ := hi; simp at h5 h6; omega⟩
      · rw [if_neg e2] at hx
        obtain ⟨K, k1, k2⟩ := s.info x mx hx
        exact ⟨K, hle _ _ k1, k2⟩
  · intro x i hx
    rw [hcell] at hx ⊢
    by_cases e1 : x = n
    · subst e1
      rw [if_pos rfl] at hx ⊢
      have hi := getD_none_lt hx
      rcases hcs i hi with h5 | h5
      · rw [← h5] at hx ⊢
        obtain ⟨K, v, k1, k2, k3⟩ := s.cell b i hx
        rw [hL] at k1; cases k1
        exact ⟨L, v, Ren.set_self _ _ _, k2, k3.mono hle⟩
      · exact absurd h5 hx
    · rw [if_neg e1] at hx ⊢
      have hold : h.cell x i ≠ .tuple #[] ∧ (if x = b then (if keep && i < m.size then h.cell b i else .tuple #[]) else h.cell x i) = h.cell x i := by
        by_cases e2 : x = b
        · subst e2
          rw [if_pos rfl] at hx ⊢
          by_cases e3 : (keep && decide (i < m.size)) = true
          · rw [if_pos e3] at hx ⊢; exact ⟨hx, rfl⟩
          · rw [if_neg e3] at hx; exact absurd rfl hx
        · rw [if_neg e2] at hx ⊢; exact ⟨hx, rfl⟩
      rw [hold.2]
      obtain ⟨K, v, k1, k2, k3⟩ := s.cell x i hold.1
      exact ⟨K, v, hle _ _ k1, k2, k3.mono hle⟩
  · intro x mx K i hx hK hi x' K' i' hne hK' hor
    rw [hinfo] at hx
    rw [hcell, hinfo] at hor
    -- what is told of x' now was told of it, or it is n
    by_cases e1 : x = n
    · subst e1
      rw [if_pos rfl] at hx; cases hx
      rw [Ren.set_self] at hK; cases hK
      rw [Ren.set_ne _ _ hne] at hK'
      rw [if_neg hne, if_neg hne] at hor
      have ho := hown i hi.1 (by simpa using hi.2)
      by_cases e2 : x' = b
      · subst e2
        rw [hL] at hK'; cases hK'
        rw [if_pos rfl, if_pos rfl] at hor
        rintro ⟨_, h6⟩
        have hii : i = i' := by omega
        subst hii
        cases keep
        · simp at hor
        · simp only [if_true] at hlk hor
          have h7 := hi.1
          simp only at h7
          rcases hor with h8 | ⟨m', h8, h9⟩
          · rw [if_neg (by simp; omega)] at h8; exact h8 rfl
          · cases h8
            obtain ⟨h5, h6⟩ := h9; simp at h5 h6; omega
      · rw [if_neg e2, if_neg e2] at hor
        exact s.sep b m L i hm hL ho x' K' i' e2 hK' hor
    · rw [if_neg e1] at hx
      rw [Ren.set_ne _ _ e1] at hK
      by_cases e2 : x = b
      · subst e2
        rw [if_pos rfl] at hx
        cases keep
        · simp at hx
        · simp at hx; cases hx
          obtain ⟨h5, h6⟩ := hi; simp at h5 h6; omega
      · rw [if_neg e2] at hx
        by_cases e3 : x' = n
        · subst e3
          rw [Ren.set_self] at hK'; cases hK'
          rw [if_pos rfl, if_pos rfl] at hor
          refine s.sep x mx K i hx hK hi b L i' (fun e => e2 e.symm) hL ?_
          rcases hor with h5 | ⟨m', h5, h6⟩
          · left
            have hi' := getD_none_lt h5
            rcases hcs i' hi' with h7 | h7
            · rw [h7]; exact h5
            · exact absurd h7 h5
          · cases h5
            exact .inr ⟨m, hm, hown i' h6.1 (by simpa using h6.2)⟩
        · rw [Ren.set_ne _ _ e3] at hK'
          rw [if_neg e3, if_neg e3] at hor
          refine s.sep x mx K i hx hK hi x' K' i' hne hK' ?_
          by_cases e4 : x' = b
          · subst e4
            rw [if_pos rfl, if_pos rfl] at hor
            rcases hor with h5 | ⟨m', h5, h6⟩
            · left
              by_cases e5 : (keep && decide (i' < m.size)) = true
              · rw [if_pos e5] at h5; exact h5
              · rw [if_neg e5] at h5; exact absurd rfl h5
            · cases keep
              · simp at h5
              · simp at h5; cases h5
                obtain ⟨h5, h6⟩ := h6; simp at h5 h6; omega
          · rw [if_neg e4, if_neg e4] at hor
            exact hor

end Go.Abs

/- Objects that are no rows of cells (loops over functions, maps, iterators), and the blocks of deferred calls: how the abstract heap tells of them. -/
namespace Go.Abs
open Go.RowKit

section
variable {w0 : Base} {w : World} {ρ : Ren} {h : AH}

theorem cell?_putObj {l : Nat} {c o : Obj} (hl : w.heap[l]? = some c) (hc : ∀ x e f, c ≠ .cells x e f) {a : Addr} {v : Value} (h : w.cell? a = some v) :
    (w.putObj l o).cell? a = some v ∧ (Clear w a.block → Clear (w.putObj l o) a.block) := by
  have hne : a.block ≠ l := by
    intro e
    unfold World.cell? at h
    rw [e, hl] at h
    cases c with
    | cells x e f => exact absurd rfl (hc x e f)
    | _ => cases h
  exact ⟨(World.cell?_of_block (World.putObj_heap_other hne)).trans h, fun q => q.of (World.putObj_heap_other hne)⟩
theorem below_putObj {B : Nat} {a : World} (h : Below B a w) {l : Nat} (hl : B ≤ l) (o : Obj) : Below B a (w.putObj l o) :=
  ⟨h.os, h.tape, h.output, by rw [World.putObj_size]; exact h.size, fun k hk => by rw [World.putObj_heap_other (by omega)]; exact h.block k hk⟩

abbrev AObj.m (o : AObj) : Meta := ⟨0, 0, .obj o, 0⟩
@[irreducible] def Dl.obj (b : Nat) (o : AObj) : Dl := ⟨fun x => if x = b then some (some o.m) else none, fun _ _ => none⟩
theorem own_obj {o : AObj} {L : Loc} {i : Nat} (h : Own o.m L i) : False := by
  obtain ⟨h1, h2⟩ := h
  simp [AObj.m, Tail.isExt] at h2
theorem obj_info {b : Nat} {o : AObj} (x : Nat) : (h.app (.obj b o)).info x = if x = b then some o.m else h.info x := by
  by_cases e : x = b <;> simp [AH.app, Dl.obj, e]
theorem obj_cell {b : Nat} {o : AObj} (x i : Nat) : (h.app (.obj b o)).cell x i = h.cell x i := by simp [AH.app, Dl.obj]

theorem Sim.newObj (s : Sim w0 ρ h w) {n : Nat} (hn : ρ n = none) {o : AObj} {c : Obj} (hc : ORel (ρ.set n ⟨w.heap.size, 0, 0, 0⟩) o c) :
    Sim w0 (ρ.set n ⟨w.heap.size, 0, 0, 0⟩) (h.app (.obj n o)) (w.alloc c) := by
  have s1 := (s.alloc c).grow' (Ren.le_set hn ⟨w.heap.size, 0, 0, 0⟩) (Ren.set_fin s.fin _ _)
  have hnamed := s.named n hn
  have hlt : ∀ b m o, h.info b = some m → m.tail = .obj o → b ≠ n ∧ ∃ L, ρ b = some L ∧ L.blk < w.heap.size := by
    intro b m o hb ho
    obtain ⟨L, c, h1, _, _, h4, _⟩ := s.obj b m o hb ho
    exact ⟨(fun e => by subst e; rw [hn] at h1; cases h1), L, h1, (Array.getElem?_eq_some_iff.1 h4).1⟩
  refine ⟨s1.base, s1.keep, s1.fin, ?_, ?_, ?_, ?_, ?_⟩
  · intro b m hb
    rw [obj_info] at hb
    by_cases e : b = n
    · subst e
      rw [if_pos rfl] at hb; cases hb
      exact ⟨_, Ren.set_self _ _ _, rfl, Nat.le_refl _, Nat.le_refl _, fun i hi => (own_obj hi).elim⟩
    · rw [if_neg e] at hb; exact s1.info b m hb
  · intro b i hb
    rw [obj_cell] at hb ⊢
    exact s1.cell b i hb
  · intro b m L i hm hL hi b' L' i' hne hL' hor
    rw [obj_info] at hm
    by_cases e : b = n
    · rw [if_pos e] at hm; cases hm; exact (own_obj hi).elim
    · rw [if_neg e] at hm
      refine s1.sep b m L i hm hL hi b' L' i' hne hL' ?_
      rw [obj_cell, obj_info] at hor
      rcases hor with k | ⟨m', k1, k2⟩
      · exact .inl k
      · by_cases e' : b' = n
        · rw [if_pos e'] at k1; cases k1; exact (own_obj k2).elim
        · rw [if_neg e'] at k1; exact .inr ⟨m', k1, k2⟩
  · intro b m o' hb ho
    rw [obj_info] at hb
    by_cases e : b = n
    · subst e
      rw [if_pos rfl] at hb; cases hb; cases ho
      exact ⟨_, c, Ren.set_self _ _ _, rfl, s.base.size, World.alloc_heap_new _ _, hc⟩
    · rw [if_neg e] at hb; exact s1.obj b m o' hb ho
  · intro b m o1 b' m' o2 L L' hb ho hb' ho' hL hL' he
    rw [obj_info] at hb hb'
    by_cases e : b = n
    · by_cases e' : b' = n
      · rw [e, e']
      · rw [if_neg e'] at hb'
        obtain ⟨_, K, k1, k2⟩ := hlt b' m' o2 hb' ho'
        rw [Ren.set_ne _ _ e'] at hL'
        rw [hL'] at k1; cases k1
        subst e; rw [Ren.set_self] at hL; cases hL
        simp only at he; omega
    · rw [if_neg e] at hb
      obtain ⟨_, K, k1, k2⟩ := hlt b m o1 hb ho
      by_cases e' : b' = n
      · rw [Ren.set_ne _ _ e] at hL
        rw [hL] at k1; cases k1
        subst e'; rw [Ren.set_self] at hL'; cases hL'
        simp only at he; omega
      · rw [if_neg e'] at hb'
        exact s1.osep b m o1 b' m' o2 L L' hb ho hb' ho' hL hL' he

theorem Sim.putObj (s : Sim w0 ρ h w) {b : Nat} {o o2 : AObj} {L : Loc} {c c2 : Obj} (hm : h.info b = some o.m) (hL : ρ b = some L) (hc : w.heap[L.blk]? = some c) (hr : ORel ρ o c) (hr2 : ORel ρ o2 c2)
    (hk : ∀ r, c = .loop r → ∃ r2, c2 = .loop r2) : Sim w0 ρ (h.app (.obj b o2)) (w.putObj L.blk c2) := by
  obtain ⟨L', c', k1, k2, k3, k4, k5⟩ := s.obj b _ o hm rfl
  rw [hL] at k1; cases k1
  rw [hc] at k4; cases k4
  have hnc := hr.cells
  have hlt : L.blk < w.heap.size := (Array.getElem?_eq_some_iff.1 hc).1
  refine ⟨below_putObj s.base k3 c2, ⟨s.keep.nodup, fun r q => ?_, fun l q => ?_⟩, s.fin, ?_, ?_, ?_, ?_, ?_⟩
  · obtain ⟨q1, q2⟩ := s.keep.marks r q
    refine ⟨q1, ?_⟩
    by_cases e : r = L.blk
    · subst e; rw [hc] at q2; cases q2; cases hr
    · rw [World.putObj_heap_other e]; exact q2
  · obtain ⟨r, q1⟩ := s.keep.rounds l q
    by_cases e : l = L.blk
    · subst e; rw [hc] at q1; cases q1
      obtain ⟨r2, e2⟩ := hk r rfl
      exact ⟨r2, by rw [World.putObj_heap_same hlt, e2]⟩
    · exact ⟨r, by rw [World.putObj_heap_other e]; exact q1⟩
  · intro x mx hx
    rw [obj_info] at hx
    by_cases e : x = b
    · subst e
      rw [if_pos rfl] at hx; cases hx
      obtain ⟨K, q1, q2, q3, q4, _⟩ := s.info x _ hm
      exact ⟨K, q1, q2, q3, q4, fun i hi => (own_obj hi).elim⟩
    · rw [if_neg e] at hx
      obtain ⟨K, q1, q2, q3, q4, q5⟩ := s.info x mx hx
      refine ⟨K, q1, q2, q3, q4, fun i hi => ?_⟩
      obtain ⟨p1, ⟨v, p2⟩, p3⟩ := q5 i hi
      have := cell?_putObj (o := c2) hc hnc p2
      exact ⟨p1, ⟨v, this.1⟩, this.2 p3⟩
  · intro x i hx
    rw [obj_cell] at hx ⊢
    obtain ⟨K, v, q1, q2, q3⟩ := s.cell x i hx
    exact ⟨K, v, q1, (cell?_putObj (o := c2) hc hnc q2).1, q3⟩
  · intro x mx K i hx hK hi x' K' i' hne hK' hor
    rw [obj_info] at hx
    by_cases e : x = b
    · rw [if_pos e] at hx; cases hx; exact (own_obj hi).elim
    · rw [if_neg e] at hx
      refine s.sep x mx K i hx hK hi x' K' i' hne hK' ?_
      rw [obj_cell, obj_info] at hor
      rcases hor with k | ⟨m', q1, q2⟩
      · exact .inl k
      · by_cases e' : x' = b
        · rw [if_pos e'] at q1; cases q1; exact (own_obj q2).elim
        · rw [if_neg e'] at q1; exact .inr ⟨m', q1, q2⟩
  · intro x mx ox hx ho
    rw [obj_info] at hx
    by_cases e : x = b
    · subst e
      rw [if_pos rfl] at hx; cases hx; cases ho
      exact ⟨L, c2, hL, k2, k3, World.putObj_heap_same hlt, hr2⟩
    · rw [if_neg e] at hx
      obtain ⟨K, cx, q1, q2, q3, q4, q5⟩ := s.obj x mx ox hx ho
      refine ⟨K, cx, q1, q2, q3, ?_, q5⟩
      rw [World.putObj_heap_other]
      · exact q4
      · exact fun he => e (s.osep x mx ox b _ o K L hx ho hm rfl q1 hL he)
  · intro x mx o1 x' mx' o1' K K' hx ho hx' ho' hK hK' he
    have key : ∀ y my oy, (h.app (.obj b o2)).info y = some my → my.tail = .obj oy → ∃ my' oy', h.info y = some my' ∧ my'.tail = .obj oy' := by
      intro y my oy hy hoy
      rw [obj_info] at hy
      by_cases e : y = b
      · subst e; exact ⟨_, _, hm, rfl⟩
      · rw [if_neg e] at hy; exact ⟨my, oy, hy, hoy⟩
    obtain ⟨m1, p1, q1, q2⟩ := key x mx o1 hx ho
    obtain ⟨m2, p2, q3, q4⟩ := key x' mx' o1' hx' ho'
    exact s.osep x m1 p1 x' m2 p2 K K' q1 q2 q3 q4 hK hK' he

def Base.keep (w0 : Base) (ms : List Nat) : Base := { w0 with marks := ms ++ w0.marks }
def Base.round (w0 : Base) (l : Nat) : Base := { w0 with rounds := l :: w0.rounds }
theorem Base.keep_keep (w0 : Base) (ms ms' : List Nat) : (w0.keep ms).keep ms' = w0.keep (ms' ++ ms) := by simp [Base.keep]
theorem Sim.rebase {w1 : Base} (s : Sim w0 ρ h w) (hw : w1.w = w0.w) (hk : Keeps w1 w) : Sim w1 ρ h w :=
  ⟨by rw [hw]; exact s.base, hk, s.fin, by rw [hw]; exact s.info, s.cell, s.sep, by rw [hw]; exact s.obj, s.osep⟩
theorem Sim.unkeep {ms : List Nat} (s : Sim (w0.keep ms) ρ h w) : Sim w0 ρ h w :=
  s.rebase rfl ⟨(List.nodup_append.1 s.keep.nodup).2.1, fun r hr => s.keep.marks r (List.mem_append_right _ hr), s.keep.rounds⟩
theorem Sim.unround {l : Nat} (s : Sim (w0.round l) ρ h w) : Sim w0 ρ h w :=
  s.rebase rfl ⟨s.keep.nodup, s.keep.marks, fun r hr => s.keep.rounds r (List.mem_cons_of_mem _ hr)⟩
theorem Sim.round {l : Nat} {r : Loop} (s : Sim w0 ρ h w) (hl : w.heap[l]? = some (.loop r)) : Sim (w0.round l) ρ h w :=
  s.rebase rfl ⟨s.keep.nodup, s.keep.marks, fun x hx => by
    rcases List.mem_cons.1 hx with rfl | hx
    · exact ⟨r, hl⟩
    · exact s.keep.rounds x hx⟩
theorem Sim.mark (s : Sim w0 ρ h w) : Sim (w0.keep [w.heap.size]) ρ h (w.alloc (.deferred (some []))) := by
  have s1 := s.alloc (.deferred (some []))
  refine s1.rebase rfl ⟨?_, fun r hr => ?_, s1.keep.rounds⟩
  · show (w.heap.size :: w0.marks).Nodup
    refine List.nodup_cons.2 ⟨fun hm => ?_, s.keep.nodup⟩
    have := (Array.getElem?_eq_some_iff.1 (s.keep.marks _ hm).2).1
    omega
  · rcases List.mem_cons.1 (show r ∈ w.heap.size :: w0.marks from hr) with rfl | hr
    · exact ⟨s.base.size, World.alloc_heap_new _ _⟩
    · exact s1.keep.marks r hr
theorem Sim.taken {P : Program} {r : Nat} {ms : List Nat} (s : Sim (w0.keep (r :: ms)) ρ h w) : ∃ w', (Instr.takeDeferred r).run P w = .ok [] w' ∧ Sim (w0.keep ms) ρ h w' := by
  have hmem : r ∈ (w0.keep (r :: ms)).marks := List.mem_cons_self
  obtain ⟨q1, q2⟩ := s.keep.marks r hmem
  have hnd : (r :: (ms ++ w0.marks)).Nodup := s.keep.nodup
  obtain ⟨hn1, hn2⟩ := List.nodup_cons.1 hnd
  have hnc : ∀ x e f, Obj.deferred (some []) ≠ .cells x e f := fun _ _ _ e => by cases e
  refine ⟨_, run_takeDeferred q2, ⟨below_putObj s.base q1 _, ⟨hn2, fun x hx => ?_, fun l hl => ?_⟩, s.fin, ?_, ?_, s.sep, ?_, s.osep⟩⟩
  · obtain ⟨p1, p2⟩ := s.keep.marks x (List.mem_cons_of_mem _ hx)
    refine ⟨p1, ?_⟩
    rw [World.putObj_heap_other (fun e => hn1 (by subst e; exact hx))]; exact p2
  · obtain ⟨l', p⟩ := s.keep.rounds l hl
    exact ⟨l', by rw [World.putObj_heap_other (fun e => by subst e; rw [q2] at p; cases p)]; exact p⟩
  · intro x mx hx
    obtain ⟨K, k1, k2, k3, k4, k5⟩ := s.info x mx hx
    refine ⟨K, k1, k2, k3, k4, fun i hi => ?_⟩
    obtain ⟨p1, ⟨v, p2⟩, p3⟩ := k5 i hi
    have := cell?_putObj (o := .deferred none) q2 hnc p2
    exact ⟨p1, ⟨v, this.1⟩, this.2 p3⟩
  · intro x i hx
    obtain ⟨K, v, k1, k2, k3⟩ := s.cell x i hx
    exact ⟨K, v, k1, (cell?_putObj (o := .deferred none) q2 hnc k2).1, k3⟩
  · intro x mx o hx ho
    obtain ⟨K, c, k1, k2, k3, k4, k5⟩ := s.obj x mx o hx ho
    exact ⟨K, c, k1, k2, k3, by rw [World.putObj_heap_other (fun e => by rw [e, q2] at k4; cases k4; cases k5)]; exact k4, k5⟩
end
end Go.Abs

/- Judgements over the abstract heap: of an operation, of code, of a function; and their rules. -/
namespace Go.Abs
open Go.RowKit

def FW (r : Option Nat) : Fence := { Fence.wide with round := r }
theorem FW.fn (r : Option Nat) (f : FuncId) : (FW r).fn f := trivial
theorem FW.room (r : Option Nat) (m : Nat) : (FW r).room m := fun d h => by cases h
theorem FW.depth (r : Option Nat) {q : Prop} (h : (FW r).depth.isSome = true) : q := by cases h
theorem semAt_run {P : Program} {o : Oper} {ev : Operand → Value} {w w' : World} {nx : Next} (r : Option Nat) (h : (execOp ev o).run P w = .ok nx w') (hd : ∀ d, nx ≠ .defer d) : (o.semAt r ev).run P w = .ok nx w' := by
  cases hc : o.op with
  | defer c =>
    exfalso
    simp only [execOp, hc, Sem.run_bind] at h
    cases hr : (resolve ev c o.type).run P w with
    | ok d w1 =>
      rw [hr] at h
      simp only [Result.andThen_ok, Sem.run_pure] at h
      injection h with h1 h2
      exact hd _ h1.symm
    | halt x w1 => rw [hr] at h; cases h
  | _ => rw [Oper.semAt_eq r ev o (fun c e => by rw [hc] at e; cases e)]; exact h
section
variable {P : Program} {o : Oper} {a : Act} {w w' : World} {next : Act → World → Prop} {Q : Exit → Act → World → Prop} {r : Option Nat}
theorem wpA_value {v : Value} (h : (execOp a.eval o).run P w = .ok (.value v) w') (k : next (a.put o.dst v) w') : o.wpIn (FW r) 0 P a w next Q :=
  ⟨fun f _ => FW.fn r f, by rw [show (FW r).round = r from rfl, semAt_run r h (fun d e => by cases e)]; exact k⟩
theorem wpA_skip (h : (execOp a.eval o).run P w = .ok .skip w') (k : next (a.put o.dst undef) w') : o.wpIn (FW r) 0 P a w next Q :=
  ⟨fun f _ => FW.fn r f, by rw [show (FW r).round = r from rfl, semAt_run r h (fun d e => by cases e)]; exact k⟩
theorem wpA_enter {f : FuncId} {args : Array Value} (h : (execOp a.eval o).run P w = .ok (.enter f args) w') (k : CallsIn (FW none) 0 P f args w' fun
      | .returned v, w'' => next (a.put o.dst v) w''
      | .panicked chain, w'' => Q (.panic chain) a w''
      | .outgrown, _ => LetsOut Q) : o.wpIn (FW r) 0 P a w next Q :=
  ⟨fun f _ => FW.fn r f, by rw [show (FW r).round = r from rfl, semAt_run r h (fun d e => by cases e)]; exact ⟨FW.depth r, k⟩⟩
end


def flat : Nat → Value → Bool
  | _, .bool _ | _, .int .. | _, .string _ | _, .pointer none | _, .slice none 0 0 | _, .map none | _, .nilFunc | _, .nilIface => true
  | d + 1, .agg xs => xs.all (flat d)
  | d + 1, .iface _ x => flat d x
  | d + 1, .tuple xs => !xs.isEmpty && xs.all (flat d)
  | _, _ => false

theorem flat_rel (ρ : Ren) : ∀ (d : Nat) (v : Value), flat d v = true → VRel ρ v v := by
  intro d
  induction d with
  | zero =>
    intro v h
    unfold flat at h
    split at h <;> first | contradiction | (constructor; done) | (exfalso; simp at *; done)
  | succ d ih =>
    intro v h
    unfold flat at h
    split at h
    all_goals first
      | contradiction
      | (constructor; done)
      | skip
    · rename_i d1 xs hd
      cases hd
      refine .agg rfl fun i => ?_
      by_cases hi : i < xs.size
      · have e : xs.getD i (.tuple #[]) = xs[i] := by simp [Array.getD, hi]
        rw [e]
        exact ih _ (by simpa using (Array.all_eq_true.1 h) i hi)
      · have e : xs.getD i (.tuple #[]) = .tuple #[] := by simp [Array.getD, hi]
        rw [e]; exact .unk _
    · rename_i hd
      cases hd
      exact .iface (ih _ h)
    · rename_i d1 xs hd
      cases hd
      simp only [Bool.and_eq_true] at h
      refine .tuple rfl fun i => ?_
      by_cases hi : i < xs.size
      · have e : xs.getD i (.tuple #[]) = xs[i] := by simp [Array.getD, hi]
        rw [e]
        exact ih _ (by simpa using (Array.all_eq_true.1 h.2) i hi)
      · have e : xs.getD i (.tuple #[]) = .tuple #[] := by simp [Array.getD, hi]
        rw [e]; exact .unk _

def ev (env : Env) : Operand → Value
  | .tmp t => env.get t
  | .const v => if flat 8 v then v else .tuple #[]
  | .func f => .func (.func f) #[] #[]
  | .global _ => .tuple #[]

theorem EnvRel.ev {ρ : Ren} {N : Nat} {env : Env} {a : Act} (h : EnvRel ρ N env a.tmps) (x : Operand) : VRel ρ (ev env x) (a.eval x) := by
  cases x with
  | tmp t => exact h.at_ t
  | const v =>
    unfold Abs.ev
    by_cases hf : flat 8 v = true
    · simp only [hf, if_true]; exact flat_rel ρ 8 v hf
    · simp only [hf]; exact .unk _
  | global g => exact .unk _
  | func f => exact .func rfl fun i => by simp; exact .unk _

theorem EnvRel.put {ρ : Ren} {N : Nat} {env : Env} {a : Act} (h : EnvRel ρ N env a.tmps) (d : Option Tmp) (hd : ∀ t, d = some t → t < N) {v c : Value} (hv : VRel ρ v c) :
    EnvRel ρ N (env.put d v) (a.put d c).tmps := by
  cases d with
  | none => exact h
  | some t =>
    have ht := hd t rfl
    refine ⟨by simp [Act.put, h.size], fun s => ?_⟩
    simp only [Act.put, Env.put, Env.get]
    by_cases e : t = s
    · subst e
      rw [if_pos (by simp)]
      have : t < a.tmps.size := by rw [h.size]; exact ht
      simp [Array.getD, this]; exact hv
    · rw [if_neg (by simpa using e)]
      have := h.at_ s
      simp only [Array.getD_eq_getD_getElem?] at this ⊢
      rw [Array.getElem?_setIfInBounds_ne e]; exact this

def Env.le (e f : Env) : Prop := ∀ t, e.get t = .tuple #[] ∨ f.get t = e.get t
theorem EnvRel.anti {ρ : Ren} {N : Nat} {e f : Env} {tmps : Array Value} (hl : e.le f) (h : EnvRel ρ N f tmps) : EnvRel ρ N e tmps :=
  ⟨h.size, fun t => by
    rcases hl t with h1 | h1
    · rw [h1]; exact .unk _
    · rw [← h1]; exact h.at_ t⟩
theorem Env.le.refl (e : Env) : e.le e := fun _ => .inr rfl

def none' : Nat → Prop := fun _ => False

def Fresh (n n' : Nat) (ρ : Ren) : Prop := ∀ b, n ≤ b → b < n' → ρ b = none
structure Grow (n n' : Nat) (ρ ρ' : Ren) : Prop where
  le : ρ.le ρ'
  out : ∀ b, ¬ (n ≤ b ∧ b < n') → ρ' b = ρ b

theorem Grow.refl (n n' : Nat) (ρ : Ren) : Grow n n' ρ ρ := ⟨.refl _, fun _ _ => rfl⟩
theorem Grow.trans {a b c : Nat} {ρ ρ' ρ'' : Ren} (hab : a ≤ b) (hbc : b ≤ c) (h : Grow a b ρ ρ') (k : Grow b c ρ' ρ'') : Grow a c ρ ρ'' :=
  ⟨h.le.trans k.le, fun x hx => by rw [k.out x (by omega), h.out x (by omega)]⟩
theorem Grow.one {n : Nat} {ρ : Ren} (hn : ρ n = none) (L : Loc) : Grow n (n + 1) ρ (ρ.set n L) :=
  ⟨Ren.le_set hn L, fun b hb => Ren.set_ne ρ L (by omega)⟩
theorem Fresh.left {a b c : Nat} {ρ : Ren} (h : Fresh a c ρ) (hbc : b ≤ c) : Fresh a b ρ := fun x h1 h2 => h x h1 (by omega)
theorem Fresh.right {a b c : Nat} {ρ ρ' : Ren} (h : Fresh a c ρ) (hab : a ≤ b) (g : Grow a b ρ ρ') : Fresh b c ρ' :=
  fun x h1 h2 => by rw [g.out x (by omega)]; exact h x (by omega) h2

def Dl.touches (d : Dl) (b : Nat) : Prop := d.info b ≠ none ∨ ∃ i, d.cell b i ≠ none
theorem Dl.touches_comp {d e : Dl} {b : Nat} (h : (d.comp e).touches b) : d.touches b ∨ e.touches b := by
  rcases h with h | ⟨i, h⟩
  · cases he : e.info b with
    | none => simp only [Dl.comp, he, Option.none_or] at h; exact .inl (.inl h)
    | some x => exact .inr (.inl (by rw [he]; simp))
  · cases he : e.cell b i with
    | none => simp only [Dl.comp, he, Option.none_or] at h; exact .inl (.inr ⟨i, h⟩)
    | some x => exact .inr (.inr ⟨i, by rw [he]; simp⟩)
theorem Dl.touches_nil {b : Nat} (h : Dl.nil.touches b) : False := by
  rcases h with h | ⟨i, h⟩ <;> exact h rfl

theorem sets_touches {b o x : Nat} {vs : List Value} (h : (Dl.sets b o vs).touches x) : x = b := by
  unfold Dl.sets at h
  rcases h with h | ⟨i, h⟩
  · exact absurd rfl h
  · simp only at h
    split at h
    · rename_i h1; exact h1.1
    · exact absurd rfl h
def Within (T : Nat → Prop) (n n' : Nat) (d : Dl) : Prop := ∀ b, d.touches b → (T b ∨ n ≤ b) ∧ b < n'
theorem Within.nil (T : Nat → Prop) (n n' : Nat) : Within T n n' .nil := fun _ h => (Dl.touches_nil h).elim

structure OpEv (P : Program) (T : Nat → Prop) (o : Oper) (env : Env) (n : Nat) (g : AH) (v : Value) (n' : Nat) (d : Dl) : Prop where
  le : n ≤ n'
  within : Within T n n' d
  run : ∀ (r : Option Nat) (w0 : Base) (ρ : Ren) (w : World) (H : AH) (a : Act) (next : Act → World → Prop) (Q : Exit → Act → World → Prop),
    g.le H → Fresh n n' ρ → Sim w0 ρ H w → (∀ x, x ∈ o.op.operands → VRel ρ (ev env x) (a.eval x)) →
    (∀ ρ' c w', Grow n n' ρ ρ' → VRel ρ' v c → Sim w0 ρ' (H.app d) w' → next (a.put o.dst c) w') → o.wpIn (FW r) 0 P a w next Q

def yields (ops : Array Oper) (env : Env) (j : Nat) : Option (Option Bool) :=
  match ((ops[j]?).bind (·.dst)).map env.get with
  | some (.bool b) => some (some b)
  | some (.chan (some 0)) => some none
  | _ => none
def wants (ops : Array Oper) (o : Oper) (env : Env) : Option Bool :=
  match o.guard with
  | none => some true
  | some (j, want) => (yields ops env j).map (· == some want)

theorem wants_spec {ρ : Ren} {ops : Array Oper} {o : Oper} {env : Env} {a : Act} {b : Bool}
    (h : ∀ t, (∃ j w, o.guard = some (j, w) ∧ (ops[j]?).bind (·.dst) = some t) → VRel ρ (env.get t) (a.tmps.getD t (.tuple #[])))
    (hw : wants ops o env = some b) : Region.wanted o (yielded ops a.tmps) = b := by
  unfold wants at hw
  unfold Region.wanted
  cases hg : o.guard with
  | none => rw [hg] at hw; simpa using hw
  | some jw =>
    obtain ⟨j, want⟩ := jw
    rw [hg] at hw
    simp only at hw ⊢
    unfold yields at hw
    unfold yielded
    cases hd : (ops[j]?).bind (·.dst) with
    | none => rw [hd] at hw; simp at hw
    | some t =>
      rw [hd] at hw
      have hr := h t ⟨j, want, hg, hd⟩
      simp only [Option.map_some, Option.bind_some] at hw ⊢
      cases hv : env.get t with
      | bool x =>
        rw [hv] at hw hr
        simp only [Option.map_some, Option.some.injEq] at hw
        generalize hc : a.tmps.getD t (.tuple #[]) = c at hr
        cases hr
        have : a.tmps[t]? = some (.bool x) := by
          rw [Array.getD_eq_getD_getElem?] at hc
          cases hq : a.tmps[t]? with
          | none => rw [hq] at hc; simp at hc
          | some y => rw [hq] at hc; simp at hc; rw [hc]
        simp only [this]
        cases x <;> cases want <;> cases b <;> simp_all
      | chan r =>
        rw [hv] at hw hr
        generalize hc : a.tmps.getD t (.tuple #[]) = c at hr
        cases hr
        simp only [Option.map_some, Option.some.injEq] at hw
        have : ∀ b, a.tmps[t]? ≠ some (.bool b) := fun b q => by
          rw [Array.getD_eq_getD_getElem?, q] at hc; simp at hc
        have hn : (match a.tmps[t]? with | some (.bool b) => some b | _ => none) = (none : Option Bool) := by
          cases hq : a.tmps[t]? with
          | none => rfl
          | some y => cases y <;> first | rfl | exact absurd hq (this _)
        simp only [hn]
        rw [← hw]
      | _ => rw [hv] at hw; simp at hw

inductive Seq (P : Program) (T : Nat → Prop) (ops : Array Oper) : List Oper → Env → Nat → AH → Env → Nat → AH → Dl → Prop
  | nil {env n h} : Seq P T ops [] env n h env n h .nil
  | op {o os env n h v n1 d h1 env' n' h' e} (hw : wants ops o env = some true) (ho : OpEv P T o env n h v n1 d) (hh : h1.le (h.app d)) (hr : Seq P T ops os (env.put o.dst v) n1 h1 env' n' h' e) :
      Seq P T ops (o :: os) env n h env' n' h' (d.comp e)
  | skip {o os env n h env' n' h' e} (hw : wants ops o env = some false) (hr : Seq P T ops os (env.put o.dst skipV) n h env' n' h' e) :
      Seq P T ops (o :: os) env n h env' n' h' e

theorem Seq.app {P : Program} {T : Nat → Prop} {ops : Array Oper} {os : List Oper} {env n h env' n' h' e} (s : Seq P T ops os env n h env' n' h' e) : h'.le (h.app e) := by
  induction s with
  | nil => exact .refl _
  | @op _ _ _ _ _ _ _ _ _ _ _ _ e _ _ hh _ ih => rw [AH.app_comp]; exact ih.trans (hh.app e)
  | skip _ _ ih => exact ih

theorem Seq.le {P : Program} {T : Nat → Prop} {ops : Array Oper} {os : List Oper} {env n h env' n' h' e} (s : Seq P T ops os env n h env' n' h' e) : n ≤ n' := by
  induction s with
  | nil => exact Nat.le_refl _
  | op _ ho _ _ ih => exact Nat.le_trans ho.le ih
  | skip _ _ ih => exact ih

theorem Seq.within {P : Program} {T : Nat → Prop} {ops : Array Oper} {os : List Oper} {env n h env' n' h' e} (s : Seq P T ops os env n h env' n' h' e) : Within T n n' e := by
  induction s with
  | nil => exact .nil _ _ _
  | op _ ho _ hr ih =>
    intro b hb
    have h1 := ho.le; have h2 := hr.le
    rcases Dl.touches_comp hb with h | h
    · have k := ho.within b h
      exact ⟨k.1, by omega⟩
    · have k := ih b h
      exact ⟨k.1.imp id (by omega), k.2⟩
  | skip _ _ ih => exact ih

def dstOk (N : Nat) (os : List Oper) : Bool := os.all fun o => match o.dst with | some d => decide (d < N) | none => true

theorem Seq.sound {P : Program} {T : Nat → Prop} {ops : Array Oper} {N : Nat} {os : List Oper} {env n h env' n' h' e} (s : Seq P T ops os env n h env' n' h' e) :
    ∀ (is : List Nat), is.map (ops[·]?) = os.map some → dstOk N os = true →
    ∀ (rd : Option Nat) (w0 : Base) (ρ : Ren) (w : World) (H : AH) (a : Act) (Q : Exit → Act → World → Prop), h.le H → Fresh n n' ρ → Sim w0 ρ H w → EnvRel ρ N env a.tmps →
      (∀ ρ' a' w', Grow n n' ρ ρ' → EnvRel ρ' N env' a'.tmps → a'.defers = a.defers → Sim w0 ρ' (H.app e) w' → Q .normal a' w') → wpOpsIn (FW rd) 0 P ops Q is a w := by
  induction s with
  | nil =>
    intro is his _ rd w0 ρ w H a Q hl hf hs he K
    cases is with
    | nil => exact K ρ a w (.refl _ _ _) he rfl hs
    | cons i r => simp at his
  | @op o os env n h v n1 d h1 env' n' h' e hw ho hh hr ih =>
    intro is his hdst rd w0 ρ w H a Q hl hf hs he K
    cases is with
    | nil => simp at his
    | cons i r =>
      simp only [List.map_cons, List.cons.injEq] at his
      obtain ⟨hi, his⟩ := his
      simp only [dstOk, List.all_cons, Bool.and_eq_true] at hdst
      have hd : ∀ t, o.dst = some t → t < N := by
        intro t ht
        have := hdst.1
        rw [ht] at this; simpa using this
      have hwant := wants_spec (ρ := ρ) (a := a) (fun t _ => he.at_ t) hw
      simp only [wpOpsIn, hi, hwant, if_true]
      have hn1 := ho.le
      have hn2 := hr.le
      refine ho.run rd w0 ρ w H a _ Q hl (hf.left hn2) hs (fun x _ => he.ev x) ?_
      intro ρ1 c w1 hg hv hs1
      refine ih r his (by simpa [dstOk] using hdst.2) rd w0 ρ1 w1 (H.app d) (a.put o.dst c) Q (hh.trans (hl.app d)) (hf.right hn1 hg) hs1 ((he.mono hg.le).put o.dst hd hv) ?_
      intro ρ2 a2 w2 hg2 he2 hd2 hs2
      rw [← AH.app_comp] at hs2
      exact K ρ2 a2 w2 (hg.trans hn1 hn2 hg2) he2 (by rw [hd2]; cases o.dst <;> rfl) hs2
  | @skip o os env n h env' n' h' e hw hr ih =>
    intro is his hdst rd w0 ρ w H a Q hl hf hs he K
    cases is with
    | nil => simp at his
    | cons i r =>
      simp only [List.map_cons, List.cons.injEq] at his
      obtain ⟨hi, his⟩ := his
      simp only [dstOk, List.all_cons, Bool.and_eq_true] at hdst
      have hd : ∀ t, o.dst = some t → t < N := by
        intro t ht
        have := hdst.1
        rw [ht] at this; simpa using this
      have hwant := wants_spec (ρ := ρ) (a := a) (fun t _ => he.at_ t) hw
      simp only [wpOpsIn, hi, hwant, Bool.false_eq_true, if_false]
      refine ⟨fun f _ => FW.fn rd f, ?_⟩
      refine ih r his (by simpa [dstOk] using hdst.2) rd w0 ρ w H (a.put o.dst undef) Q hl hf hs (he.put o.dst hd .skip) ?_
      intro ρ2 a2 w2 hg2 he2 hd2 hs2
      exact K ρ2 a2 w2 hg2 he2 (by rw [hd2]; cases o.dst <;> rfl) hs2

def markOf (ms : List Nat) : List Deferred := ms.map fun r => { target := .collected r, args := #[] }
def RdOk (w0 : Base) (rd : Option Nat) : Prop := ∀ l, rd = some l → l ∈ w0.rounds
theorem RdOk.mono {w0 : Base} {rd : Option Nat} (h : RdOk w0 rd) (ms : List Nat) : RdOk (w0.keep ms) rd := h
theorem RdOk.none {w0 : Base} : RdOk w0 none := fun _ h => by cases h
def ExPost (N : Nat) (w0 : Base) (ρ : Ren) (n n' : Nat) (env' : Env) (H' : AH) (dfs : List Deferred) (a : Act) (w' : World) : Prop :=
  ∃ ms, a.defers = markOf ms ++ dfs ∧ ∃ ρ', Grow n n' ρ ρ' ∧ EnvRel ρ' N env' a.tmps ∧ Sim (w0.keep ms) ρ' H' w'
theorem ExPost.nil {N : Nat} {w0 : Base} {ρ ρ' : Ren} {n n' : Nat} {env' : Env} {H' : AH} {dfs : List Deferred} {a : Act} {w' : World} (hd : a.defers = dfs) (hg : Grow n n' ρ ρ') (he : EnvRel ρ' N env' a.tmps) (hs : Sim w0 ρ' H' w') :
    ExPost N w0 ρ n n' env' H' dfs a w' := ⟨[], hd, ρ', hg, he, hs⟩
theorem markOf_append (ms ms' : List Nat) : markOf (ms' ++ ms) = markOf ms' ++ markOf ms := by simp [markOf]
theorem ExPost.trans {N : Nat} {w0 : Base} {ρ ρ' : Ren} {n n1 n' : Nat} {env' : Env} {H' : AH} {dfs : List Deferred} {ms : List Nat} {a : Act} {w' : World} (h1 : n ≤ n1) (h2 : n1 ≤ n') (hg : Grow n n1 ρ ρ')
    (k : ExPost N (w0.keep ms) ρ' n1 n' env' H' (markOf ms ++ dfs) a w') : ExPost N w0 ρ n n' env' H' dfs a w' := by
  obtain ⟨ms', hd, ρ2, hg2, he, hs⟩ := k
  exact ⟨ms' ++ ms, by rw [hd, markOf_append, List.append_assoc], ρ2, hg.trans h1 h2 hg2, he, by rw [← Base.keep_keep]; exact hs⟩
theorem ExPost.anti {N : Nat} {w0 : Base} {ρ : Ren} {n n' : Nat} {env' env1 : Env} {H' : AH} {dfs : List Deferred} {a : Act} {w' : World} (h : env1.le env') (k : ExPost N w0 ρ n n' env' H' dfs a w') : ExPost N w0 ρ n n' env1 H' dfs a w' := by
  obtain ⟨ms, hd, ρ2, hg2, he, hs⟩ := k
  exact ⟨ms, hd, ρ2, hg2, he.anti h, hs⟩

def Ex (P : Program) (T : Nat → Prop) (N : Nat) (c : Code) (env : Env) (n : Nat) (h : AH) (e : Exit) (env' : Env) (n' : Nat) (h' : AH) : Prop :=
  ∃ d : Dl, h'.le (h.app d) ∧ n ≤ n' ∧ Within T n n' d ∧
    ∀ (rd : Option Nat) (w0 : Base) (ρ : Ren) (w : World) (H : AH) (tmps : Array Value) (dfs : List Deferred), RdOk w0 rd → h.le H → Fresh n n' ρ → Sim w0 ρ H w → EnvRel ρ N env tmps →
      c.wpIn (FW rd) 0 P (fun e2 a w' => e2 = e ∧ ExPost N w0 ρ n n' env' (H.app d) dfs a w') ⟨tmps, dfs⟩ w

section
variable {P : Program} {T : Nat → Prop} {N : Nat}

theorem Ex.region {ops : Array Oper} {id : Nat} {env n h env' n' h' d} (s : Seq P T ops ops.toList env n h env' n' h' d) (hd : dstOk N ops.toList = true) :
    Ex P T N (.region id ops false) env n h .normal env' n' h' :=
  ⟨d, s.app, s.le, s.within, fun rd w0 ρ w H tmps dfs _ hl hf hs he => wpIn_region (s.sound (List.range ops.size) (by
      apply List.ext_getElem?; intro i
      by_cases hi : i < ops.size
      · simp [hi]
      · simp [hi]) hd rd w0 ρ w H ⟨tmps, dfs⟩ _ hl hf hs he
    (fun ρ' a' w' hg he' hdf hs' => ⟨rfl, .nil hdf hg he' hs'⟩))⟩

theorem Ex.skip {env n h} : Ex P T N .skip env n h .normal env n h :=
  ⟨.nil, .refl _, Nat.le_refl _, .nil _ _ _, fun _ _ ρ _ _ _ _ _ _ _ hs he => wpIn_skip ⟨rfl, .nil rfl (.refl _ _ _) he hs⟩⟩
theorem Ex.ret {env n h} : Ex P T N .ret env n h .ret env n h :=
  ⟨.nil, .refl _, Nat.le_refl _, .nil _ _ _, fun _ _ ρ _ _ _ _ _ _ _ hs he => wpIn_ret ⟨rfl, .nil rfl (.refl _ _ _) he hs⟩⟩
theorem Ex.exit {id env n h} : Ex P T N (.exit id) env n h (.exit id) env n h :=
  ⟨.nil, .refl _, Nat.le_refl _, .nil _ _ _, fun _ _ ρ _ _ _ _ _ _ _ hs he => wpIn_exit ⟨rfl, .nil rfl (.refl _ _ _) he hs⟩⟩
theorem Ex.goto {l env n h} : Ex P T N (.goto l) env n h (.goto l) env n h :=
  ⟨.nil, .refl _, Nat.le_refl _, .nil _ _ _, fun _ _ ρ _ _ _ _ _ _ _ hs he => wpIn_goto ⟨rfl, .nil rfl (.refl _ _ _) he hs⟩⟩

theorem Within.two {n n1 n' : Nat} {d e : Dl} (h1 : n ≤ n1) (h2 : n1 ≤ n') (hd : Within T n n1 d) (he : Within T n1 n' e) : Within T n n' (d.comp e) := by
  intro b hb
  rcases Dl.touches_comp hb with h | h
  · have k := hd b h
    exact ⟨k.1, by omega⟩
  · have k := he b h
    exact ⟨k.1.imp id (by omega), k.2⟩

theorem Ex.seq {x y : Code} {env n h env1 n1 h1 e env' n' h'} (hx : Ex P T N x env n h .normal env1 n1 h1) (hy : Ex P T N y env1 n1 h1 e env' n' h') :
    Ex P T N (.seq x y) env n h e env' n' h' := by
  obtain ⟨d, hle, hn, hw, hx⟩ := hx
  obtain ⟨d', hle', hn', hw', hy⟩ := hy
  refine ⟨d.comp d', AH.app_comp h d d' ▸ hle'.trans (hle.app d'), Nat.le_trans hn hn', hw.two hn hn' hw', fun rd w0 ρ w H tmps dfs hr hl hf hs he => wpIn_seq (wpIn_mono (hx rd w0 ρ w H tmps dfs hr hl (hf.left hn') hs he) ?_)⟩
  rintro e2 a w' ⟨rfl, ms, hd, ρ', hg, he', hs'⟩
  obtain ⟨tm, df⟩ := a
  simp only at hd he'
  subst hd
  refine wpIn_mono (hy rd (w0.keep ms) ρ' w' (H.app d) tm _ (hr.mono ms) (hle.trans (hl.app d)) (hf.right hn hg) hs' he') ?_
  rintro e3 a3 w3 ⟨rfl, k⟩
  exact ⟨rfl, by rw [AH.app_comp]; exact k.trans hn hn' hg⟩

theorem Ex.seq_out {x y : Code} {env n h e env' n' h'} (hx : Ex P T N x env n h e env' n' h') (hne : e ≠ .normal) :
    Ex P T N (.seq x y) env n h e env' n' h' := by
  obtain ⟨d, hle, hn, hw, hx⟩ := hx
  refine ⟨d, hle, hn, hw, fun rd w0 ρ w H tmps dfs hr hl hf hs he => wpIn_seq (wpIn_mono (hx rd w0 ρ w H tmps dfs hr hl hf hs he) ?_)⟩
  rintro e2 a w' ⟨rfl, rest⟩
  cases e2 <;> first | exact absurd rfl hne | exact ⟨rfl, rest⟩

theorem Ex.cond {c : Operand} {x y : Code} {b : Bool} {env n h e env' n' h'} (hc : ev env c = .bool b) (hx : Ex P T N (if b then x else y) env n h e env' n' h') :
    Ex P T N (.cond c x y) env n h e env' n' h' := by
  obtain ⟨d, hle, hn, hw, hx⟩ := hx
  refine ⟨d, hle, hn, hw, fun rd w0 ρ w H tmps dfs hr hl hf hs he => ?_⟩
  have := EnvRel.ev (a := ⟨tmps, dfs⟩) he c
  rw [hc] at this
  have hv : Act.eval ⟨tmps, dfs⟩ c = .bool b := by
    generalize Act.eval ⟨tmps, dfs⟩ c = q at this
    cases this; rfl
  exact wpIn_cond hv (hx rd w0 ρ w H tmps dfs hr hl hf hs he)

def outOf (id : Nat) : Exit → Exit
  | .exit id' => if id' = id then .normal else .exit id'
  | e => e
theorem Ex.block {id : Nat} {c : Code} {env n h e env' n' h'} (hx : Ex P T N c env n h e env' n' h') : Ex P T N (.block id c) env n h (outOf id e) env' n' h' := by
  obtain ⟨d, hle, hn, hw, hx⟩ := hx
  refine ⟨d, hle, hn, hw, fun rd w0 ρ w H tmps dfs hr hl hf hs he => wpIn_block (wpIn_mono (hx rd w0 ρ w H tmps dfs hr hl hf hs he) ?_)⟩
  rintro e2 a w' ⟨rfl, rest⟩
  cases e2 with
  | exit id' =>
    simp only [Exit.inBlock, outOf]
    by_cases h : id' = id
    · rw [if_pos h, if_pos h]; exact ⟨rfl, rest⟩
    · rw [if_neg h, if_neg h]; exact ⟨rfl, rest⟩
  | _ => exact ⟨rfl, rest⟩

def ExL (P : Program) (T : Nat → Prop) (N : Nat) (c : Code) (env : Env) (n : Nat) (h : AH) (e : Exit) (env' : Env) (n' : Nat) (h' : AH) : Prop :=
  ∃ d : Dl, h'.le (h.app d) ∧ n ≤ n' ∧ Within T n n' d ∧
    ∀ (rd : Option Nat) (w0 : Base) (ρ : Ren) (w : World) (H : AH) (tmps : Array Value) (dfs : List Deferred), RdOk w0 rd → h.le H → Fresh n n' ρ → Sim w0 ρ H w → EnvRel ρ N env tmps →
      ∀ (b : Frame) (k : List Item) (cs : List Frame), b.roundOf = rd → ∃ a w', ExPost N w0 ρ n n' env' (H.app d) dfs a w' ∧
        ArrivesIn (Machine.fenced P (FW rd)) P (lone (b.atR ⟨tmps, dfs⟩ (.code c :: .inLoop c :: k)) cs w) b k cs e a w'

theorem ExL.out {c : Code} {env n h e env' n' h'} (hx : Ex P T N c env n h e env' n' h') (hne : e ≠ .normal) : ExL P T N c env n h e env' n' h' := by
  obtain ⟨d, hle, hn, hw, hx⟩ := hx
  refine ⟨d, hle, hn, hw, fun rd w0 ρ w H tmps dfs hr hl hf hs he b k cs hb => ?_⟩
  obtain ⟨e2, a', w', ⟨rfl, rest⟩, harr⟩ := hx rd w0 ρ w H tmps dfs hr hl hf hs he b (.inLoop c :: k) cs hb (FW.fn rd _) (FW.room rd _)
  exact ⟨a', w', rest, .pass (x := .inLoop c) rfl (fun _ _ => .inl hne) harr⟩
theorem ExL.round {c : Code} {env n h env1 n1 h1 e env' n' h'} (hx : Ex P T N c env n h .normal env1 n1 h1) (hy : ExL P T N c env1 n1 h1 e env' n' h') :
    ExL P T N c env n h e env' n' h' := by
  obtain ⟨d, hle, hn, hw, hx⟩ := hx
  obtain ⟨d', hle', hn', hw', hy⟩ := hy
  refine ⟨d.comp d', AH.app_comp h d d' ▸ hle'.trans (hle.app d'), Nat.le_trans hn hn', hw.two hn hn' hw', fun rd w0 ρ w H tmps dfs hr hl hf hs he b k cs hb => ?_⟩
  obtain ⟨e1, a1, w1, ⟨rfl, ms, hd, ρ', hg, he', hs'⟩, harr⟩ := hx rd w0 ρ w H tmps dfs hr hl (hf.left hn') hs he b (.inLoop c :: k) cs hb (FW.fn rd _) (FW.room rd _)
  obtain ⟨tm, df⟩ := a1
  simp only at hd he'
  subst hd
  obtain ⟨a2, w2, kk, harr2⟩ := hy rd (w0.keep ms) ρ' w1 (H.app d) tm _ (hr.mono ms) (hle.trans (hl.app d)) (hf.right hn hg) hs' he' b k cs hb
  exact ⟨a2, w2, (by rw [AH.app_comp]; exact kk.trans hn hn' hg), .of_steps (StepsIn.trans harr (.one (fenced_calm (FW.fn rd _) (n := 0) (FW.room rd _) rfl) stepR_inLoop)) harr2⟩
theorem Ex.loop {c : Code} {env n h e env' n' h'} (hx : ExL P T N c env n h e env' n' h') : Ex P T N (.loop c) env n h e env' n' h' := by
  obtain ⟨d, hle, hn, hw, hx⟩ := hx
  refine ⟨d, hle, hn, hw, fun rd w0 ρ w H tmps dfs hr hl hf hs he b k cs hb _ _ => ?_⟩
  obtain ⟨a, w', hq, harr⟩ := hx rd w0 ρ w H tmps dfs hr hl hf hs he b k cs hb
  exact ⟨e, a, w', ⟨rfl, hq⟩, .of_steps (.one (fenced_calm (FW.fn rd _) (n := 0) (FW.room rd _) rfl) stepR_loop) harr⟩
theorem ExL.weaken {c : Code} {env env0 n h e env' env1 n' h'} (hx : ExL P T N c env n h e env' n' h') (h0 : env.le env0) (h1 : env1.le env') : ExL P T N c env0 n h e env1 n' h' := by
  obtain ⟨d, hle, hn, hw, hx⟩ := hx
  refine ⟨d, hle, hn, hw, fun rd w0 ρ w H tmps dfs hr hl hf hs he b k cs hb => ?_⟩
  obtain ⟨a, w', kk, harr⟩ := hx rd w0 ρ w H tmps dfs hr hl hf hs (he.anti h0) b k cs hb
  exact ⟨a, w', kk.anti h1, harr⟩

theorem Ex.weaken {c : Code} {env env0 n h e env' env1 n' h' h1'} (hx : Ex P T N c env n h e env' n' h') (h0 : env.le env0) (h1 : env1.le env') (h2 : h1'.le h') : Ex P T N c env0 n h e env1 n' h1' := by
  obtain ⟨d, hle, hn, hw, hx⟩ := hx
  refine ⟨d, h2.trans hle, hn, hw, fun rd w0 ρ w H tmps dfs hr hl hf hs he => wpIn_mono (hx rd w0 ρ w H tmps dfs hr hl hf hs (he.anti h0)) ?_⟩
  rintro e2 a w' ⟨rfl, k⟩
  exact ⟨rfl, k.anti h1⟩
end
end Go.Abs

/- Functions over the abstract heap, and calls of them. -/
namespace Go.Abs
open Go.RowKit

structure RelAll (ρ : Ren) (xs ys : Array Value) : Prop where
  size : xs.size = ys.size
  at_ : ∀ i, VRel ρ (xs.getD i (.tuple #[])) (ys.getD i (.tuple #[]))

theorem RelAll.mono {ρ ρ' : Ren} (hl : ρ.le ρ') {xs ys : Array Value} (h : RelAll ρ xs ys) : RelAll ρ' xs ys := ⟨h.size, fun i => (h.at_ i).mono hl⟩

theorem RelAll.append {ρ : Ren} {xs ys zs ws : Array Value} (h : RelAll ρ xs ys) (k : RelAll ρ zs ws) : RelAll ρ (xs ++ zs) (ys ++ ws) := by
  refine ⟨by simp [h.size, k.size], fun i => ?_⟩
  have h1 := h.at_ i
  have k1 := k.at_ (i - xs.size)
  have hs := h.size
  simp only [Array.getD_eq_getD_getElem?, Array.getElem?_append] at *
  by_cases hi : i < xs.size
  · rw [if_pos hi, if_pos (by omega)]; exact h1
  · rw [if_neg hi, if_neg (by omega), ← hs]; exact k1

theorem RelAll.map {ρ : Ren} {xs : Array Operand} {env : Env} {a : Act} (h : ∀ x, x ∈ xs → VRel ρ (ev env x) (a.eval x)) : RelAll ρ (xs.map (ev env)) (xs.map a.eval) := by
  refine ⟨by simp, fun i => ?_⟩
  by_cases hi : i < xs.size
  · simp [Array.getD, hi]; exact h _ (by simp)
  · simp [Array.getD, hi]; exact .unk _

def Callable (P : Program) (f : FuncId) : Prop := ∃ fn, P.funcs[f]? = some fn ∧ fn.body.isSome = true ∧ (fn.name == "runtime.NumGoroutine") = false

def Ev (P : Program) (W : Nat → Prop) (f : FuncId) (args : Array Value) (n : Nat) (h : AH) (r : Value) (n' : Nat) (h' : AH) : Prop :=
  Callable P f ∧ ∃ d : Dl, h'.le (h.app d) ∧ n ≤ n' ∧ Within W n n' d ∧
    ∀ (w0 : Base) (ρ : Ren) (w : World) (H : AH) (cargs : Array Value), h.le H → Fresh n n' ρ → Sim w0 ρ H w → RelAll ρ args cargs →
      CallsIn (FW none) 0 P f cargs w fun e w' => ∃ ρ' c, e = .returned c ∧ Grow n n' ρ ρ' ∧ VRel ρ' r c ∧ Sim w0 ρ' (H.app d) w'

def argEnv : Nat → List Value → Env
  | _, [] => []
  | i, v :: r => (i, v) :: argEnv (i + 1) r
theorem argEnv_get : ∀ (l : List Value) (i t : Nat), (argEnv i l).get t = if i ≤ t then l.getD (t - i) (.tuple #[]) else .tuple #[]
  | [], i, t => by simp [argEnv, Env.get]
  | v :: r, i, t => by
    simp only [argEnv, Env.get]
    by_cases e : i = t
    · subst e; simp
    · rw [if_neg (by simpa using e), argEnv_get r (i + 1) t]
      by_cases h : i ≤ t
      · rw [if_pos h, if_pos (by omega), show t - i = (t - (i + 1)) + 1 by omega]; simp
      · rw [if_neg h, if_neg (by omega)]

theorem EnvRel.start {ρ : Ren} {args cargs : Array Value} {N : Nat} (h : RelAll ρ args cargs) (hN : args.size ≤ N) :
    EnvRel ρ N (argEnv 0 args.toList) (cargs ++ Array.replicate (N - cargs.size) undef) := by
  refine ⟨by simp; have := h.size; omega, fun t => ?_⟩
  rw [argEnv_get]
  simp only [Nat.zero_le, if_true, Nat.sub_zero]
  by_cases ht : t < args.size
  · have h1 := h.at_ t
    have h2 : t < cargs.size := by rw [← h.size]; exact ht
    simp only [Array.getD_eq_getD_getElem?, Array.getElem?_append, if_pos h2] at *
    simpa [List.getD] using h1
  · have : args.toList.getD t (.tuple #[]) = .tuple #[] := by
      rw [List.getD, List.getElem?_eq_none (by simpa using Nat.le_of_not_lt ht)]; rfl
    rw [this]; exact .unk _

def rd (h : AH) (b o : Nat) : Nat → List Value
  | 0 => []
  | k + 1 => h.cell b o :: rd h b (o + 1) k

theorem rd_length (h : AH) (b : Nat) : ∀ (k o : Nat), (rd h b o k).length = k
  | 0, _ => rfl
  | k + 1, o => by simp [rd, rd_length h b k]
theorem rd_getD (h : AH) (b : Nat) : ∀ (k o i : Nat), i < k → (rd h b o k).getD i (.tuple #[]) = h.cell b (o + i)
  | 0, _, _, hi => by omega
  | k + 1, o, 0, _ => by simp [rd]
  | k + 1, o, i + 1, hi => by
    have := rd_getD h b k (o + 1) i (by omega)
    simp only [rd, List.getD_cons_succ, this]; congr 1; omega

theorem addr_add (b o n : Nat) : (⟨b, o, none⟩ : Addr).add n = ⟨b, o + n, none⟩ := by unfold Addr.add; split <;> simp_all

def known : List Value → Bool
  | [] => true
  | .tuple _ :: _ => false
  | .agg _ :: _ => false
  | .chan _ :: _ => false
  | _ :: r => known r
theorem known_at : ∀ (l : List Value), known l = true → ∀ i, i < l.length → l.getD i (.tuple #[]) ≠ .tuple #[] ∧ (l.getD i (.tuple #[])).oneCell' = true ∧ l.getD i (.tuple #[]) ≠ skipV
  | [], _, i, hi => by simp at hi
  | v :: r, h, 0, _ => by cases v <;> simp_all [known, Value.oneCell']
  | v :: r, h, i + 1, hi => by
    have : known r = true := by cases v <;> simp_all [known]
    simpa using known_at r this i (by simpa using hi)

theorem VRel.oneCell {ρ : Ren} {a c : Value} (h : VRel ρ a c) (ha : a.oneCell' = true ∧ a ≠ skipV) : c.oneCell' = true := by
  cases h <;> simp_all [Value.oneCell', skipV]

theorem Sim.rd {P : Program} {w0 : Base} {w : World} {ρ : Ren} {h H : AH} (s : Sim w0 ρ H w) (hl : h.le H) {b o k : Nat} {L : Loc} (hL : ρ b = some L) (hk : known (rd h b o k) = true) :
    ∃ cs : List Value, cs.length = k ∧ (∀ i, i < k → w.cell? ⟨L.blk, L.off + o + i, none⟩ = some (cs.getD i (.tuple #[])) ∧ VRel ρ ((rd h b o k).getD i (.tuple #[])) (cs.getD i (.tuple #[]))) ∧
      (loadCells ⟨L.blk, L.off + o, none⟩ k).run P w = .ok cs.toArray w := by
  have key : ∀ i, i < k → ∃ v, w.cell? ⟨L.blk, L.off + o + i, none⟩ = some v ∧ VRel ρ ((Abs.rd h b o k).getD i (.tuple #[])) v := by
    intro i hi
    have h1 := known_at _ hk i (by rw [rd_length]; exact hi)
    rw [rd_getD h b k o i hi] at h1 ⊢
    have h2 : H.cell b (o + i) = h.cell b (o + i) := (hl.cell b (o + i)).resolve_left h1.1
    obtain ⟨L', v, k1, k2, k3⟩ := s.cell b (o + i) (by rw [h2]; exact h1.1)
    rw [hL] at k1; cases k1
    rw [h2] at k3
    exact ⟨v, by rw [Nat.add_assoc]; exact k2, k3⟩
  let f : Nat → Value := fun i => if hi : i < k then (key i hi).choose else undef
  have hf : ∀ i (hi : i < k), w.cell? ⟨L.blk, L.off + o + i, none⟩ = some (f i) ∧ VRel ρ ((Abs.rd h b o k).getD i (.tuple #[])) (f i) := by
    intro i hi
    simp only [f, hi, dite_true]
    exact (key i hi).choose_spec
  have hg : ∀ i, i < k → ((List.range k).map f).getD i (.tuple #[]) = f i := by
    intro i hi; simp [List.getD, hi]
  refine ⟨(List.range k).map f, by simp, fun i hi => ?_, ?_⟩
  · rw [hg i hi]; exact hf i hi
  · exact run_loadCells w _ k f fun j hj => by rw [addr_add]; exact (hf j hj).1

end Go.Abs

/- Operations over the abstract heap: those that only compute. -/
namespace Go.Abs
open Go.RowKit

structure TI (P : Program) (t : TypeId) (d : TypeDesc) (size bytes : Nat) (zero : Value) : Prop where
  und : P.underlying t = some d
  info : ∃ i, P.info? t = some i ∧ i.size = size ∧ i.bytes = bytes ∧ i.zero = some zero
theorem TI.of {P : Program} {t : TypeId} {d : TypeDesc} {size bytes : Nat} {zero : Value} (hu : P.underlying t = some d)
    (hi : (P.info? t).map (fun i => (i.size, i.bytes, i.zero)) = some (size, bytes, some zero)) : TI P t d size bytes zero := by
  refine ⟨hu, ?_⟩
  cases h : P.info? t with
  | none => rw [h] at hi; cases hi
  | some i =>
    rw [h] at hi
    simp only [Option.map_some, Option.some.injEq, Prod.mk.injEq] at hi
    exact ⟨i, rfl, hi.1, hi.2.1, hi.2.2⟩

section
variable {P : Program} {t : TypeId} {d : TypeDesc} {size bytes : Nat} {zero : Value} (w : World)
theorem TI.run_underlying (h : TI P t d size bytes zero) : (underlying t).run P w = .ok d w := by
  simp [underlying, h.und]
theorem TI.run_sizeOf (h : TI P t d size bytes zero) : (sizeOf t).run P w = .ok size w := by
  obtain ⟨i, h1, h2, h3, h4⟩ := h.info
  simp [sizeOf, typeInfo, h1, h2]
theorem TI.run_typeInfo (h : TI P t d size bytes zero) : ∃ i, (typeInfo t).run P w = .ok i w ∧ i.size = size ∧ i.bytes = bytes ∧ i.zero = some zero := by
  obtain ⟨i, h1, h2⟩ := h.info
  exact ⟨i, by simp [typeInfo, h1], h2⟩
theorem TI.run_zeroValue (h : TI P t d size bytes zero) : (zeroValue t).run P w = .ok zero w := by
  obtain ⟨i, h1, h2, h3, h4⟩ := h.info
  simp [zeroValue, typeInfo, h1, h4]
end

def isAggD : TypeDesc → Bool
  | .struct _ | .array _ _ => true
  | _ => false
theorem TI.run_isAgg {P : Program} {t : TypeId} {d : TypeDesc} {size bytes : Nat} {zero : Value} (w : World) (h : TI P t d size bytes zero) : (isAgg t).run P w = .ok (isAggD d) w := by
  simp only [isAgg, Sem.run_bind, h.run_underlying, Result.andThen_ok]
  cases d <;> rfl

section
variable {P : Program} {T : Nat → Prop} {env : Env} {n : Nat} {g : AH}

theorem OpEv.calc {o : Oper} {v : Value}
    (h : ∀ ρ w (ce : Operand → Value), (∀ x, x ∈ o.op.operands → VRel ρ (ev env x) (ce x)) → ∃ c, (execOp ce o).run P w = .ok (.value c) w ∧ VRel ρ v c) : OpEv P T o env n g v n .nil :=
  ⟨Nat.le_refl _, .nil _ _ _, fun _ w0 ρ w H a next Q _ _ hs hr K => by
    obtain ⟨c, h1, h2⟩ := h ρ w a.eval hr
    refine wpA_value h1 ?_
    exact K ρ c w (.refl _ _ _) h2 hs⟩

theorem VRel.int_inv {ρ : Ren} {k : IntKind} {x : Int} {c : Value} (h : VRel ρ (.int k x) c) : c = .int k x := by cases h; rfl
theorem VRel.bool_inv {ρ : Ren} {x : Bool} {c : Value} (h : VRel ρ (.bool x) c) : c = .bool x := by cases h; rfl
theorem VRel.string_inv {ρ : Ren} {x : ByteArray} {c : Value} (h : VRel ρ (.string x) c) : c = .string x := by cases h; rfl

variable {dst : Option Tmp} {ty : TypeId} {pos : String} {after : Array Edge} {gd : Option (Nat × Bool)}

theorem op_move {x : Operand} : OpEv P T ⟨dst, .move x, ty, pos, after, gd⟩ env n g (ev env x) n .nil :=
  .calc fun ρ w ce h => ⟨ce x, by simp [execOp], h x (by simp [Op.operands])⟩
theorem op_assign {x : Operand} : OpEv P T ⟨dst, .assign x, ty, pos, after, gd⟩ env n g (ev env x) n .nil :=
  .calc fun ρ w ce h => ⟨ce x, by simp [execOp], h x (by simp [Op.operands])⟩
theorem op_pick {c x y : Operand} {b : Bool} (hc : ev env c = .bool b) : OpEv P T ⟨dst, .pick c x y, ty, pos, after, gd⟩ env n g (if b then ev env x else ev env y) n .nil :=
  .calc fun ρ w ce h => by
    have h1 := h c (by simp [Op.operands]); rw [hc] at h1
    refine ⟨if b then ce x else ce y, by simp [execOp, h1.bool_inv, asBool], ?_⟩
    cases b
    · exact h y (by simp [Op.operands])
    · exact h x (by simp [Op.operands])

def binI : BinOp → IntKind → Int → Int → Option Value
  | .add, k, a, b => some (.int k (k.wrap (a + b)))
  | .sub, k, a, b => some (.int k (k.wrap (a - b)))
  | .mul, k, a, b => some (.int k (k.wrap (a * b)))
  | .quo, k, a, b => if b = 0 then none else some (.int k (k.wrap (a.tdiv b)))
  | .rem, k, a, b => if b = 0 then none else some (.int k (a.tmod b))
  | .and, k, a, b => some (.int k (k.wrap (BitVec.ofInt k.bits a &&& BitVec.ofInt k.bits b).toNat))
  | .or, k, a, b => some (.int k (k.wrap (BitVec.ofInt k.bits a ||| BitVec.ofInt k.bits b).toNat))
  | .xor, k, a, b => some (.int k (k.wrap (BitVec.ofInt k.bits a ^^^ BitVec.ofInt k.bits b).toNat))
  | .andNot, k, a, b => some (.int k (k.wrap (BitVec.ofInt k.bits a &&& ~~~BitVec.ofInt k.bits b).toNat))
  | .eql, _, a, b => some (.bool (a == b))
  | .neq, _, a, b => some (.bool (a != b))
  | .lss, _, a, b => some (.bool (decide (a < b)))
  | .leq, _, a, b => some (.bool (decide (a ≤ b)))
  | .gtr, _, a, b => some (.bool (decide (a > b)))
  | .geq, _, a, b => some (.bool (decide (a ≥ b)))
  | _, _, _, _ => none
theorem binI_run {op : BinOp} {k : IntKind} {a b : Int} {v : Value} (h : binI op k a b = some v) (t : TypeId) (w : World) : (binOp op t (.int k a) (.int k b)).run P w = .ok v w := by
  cases op <;> simp only [binI] at h <;> first
    | contradiction
    | (injection h with h; subst h; simp [binOp, Op.intArith, Op.intBits, Op.intCmp]; done)
    | (split at h
       · contradiction
       · rename_i hb; injection h with h; subst h; simp [binOp, Op.intDiv, hb])
theorem eqGuard_int (op : BinOp) (t : TypeId) (x y : Operand) (k : IntKind) (a : Int) (v : Value) : eqGuard op t x y (.int k a) v = pure () := by cases op <;> rfl

theorem op_bin {op : BinOp} {t t' : TypeId} {x y : Operand} {k : IntKind} {a b : Int} {v : Value} (hx : ev env x = .int k a) (hy : ev env y = .int k b) (hv : binI op k a b = some v) :
    OpEv P T ⟨dst, .binOp op t x y t', ty, pos, after, gd⟩ env n g v n .nil :=
  .calc fun ρ w ce h => by
    have h1 := h x (by simp [Op.operands]); rw [hx] at h1
    have h2 := h y (by simp [Op.operands]); rw [hy] at h2
    have h1 := h1.int_inv; have h2 := h2.int_inv
    have hvv : VRel ρ v v := by
      cases op <;> simp only [binI] at hv <;> first
        | contradiction
        | (injection hv with hv; subst hv; constructor; done)
        | (split at hv
           · contradiction
           · injection hv with hv; subst hv; constructor)
    refine ⟨v, ?_, hvv⟩
    simp only [execOp, h1, h2, eqGuard_int, pure_bind, Sem.run_bind, binI_run hv, Result.andThen_ok, Sem.run_pure]

theorem op_shl {t t' : TypeId} {x y : Operand} {k yk : IntKind} {a b : Int} (hx : ev env x = .int k a) (hy : ev env y = .int yk b) (hb : 0 ≤ b) :
    OpEv P T ⟨dst, .binOp .shl t x y t', ty, pos, after, gd⟩ env n g (.int k (k.wrap (a * 2 ^ (min b.toNat k.bits)))) n .nil :=
  .calc fun ρ w ce h => by
    have h1 := h x (by simp [Op.operands]); rw [hx] at h1
    have h2 := h y (by simp [Op.operands]); rw [hy] at h2
    refine ⟨_, ?_, .int _ _⟩
    have : ¬ b < 0 := by omega
    simp [execOp, h1.int_inv, h2.int_inv, eqGuard_int, binOp, Op.shift, this]
theorem op_shr {t t' : TypeId} {x y : Operand} {k yk : IntKind} {a b : Int} (hx : ev env x = .int k a) (hy : ev env y = .int yk b) (hb : 0 ≤ b) :
    OpEv P T ⟨dst, .binOp .shr t x y t', ty, pos, after, gd⟩ env n g (.int k (a.fdiv (2 ^ (min b.toNat k.bits)))) n .nil :=
  .calc fun ρ w ce h => by
    have h1 := h x (by simp [Op.operands]); rw [hx] at h1
    have h2 := h y (by simp [Op.operands]); rw [hy] at h2
    refine ⟨_, ?_, .int _ _⟩
    have : ¬ b < 0 := by omega
    simp [execOp, h1.int_inv, h2.int_inv, eqGuard_int, binOp, Op.shift, this]

theorem eqb_run {t : TypeId} (hu : P.underlying t = some .bool) (a b : Bool) (w : World) : (Op.equal t (.bool a) (.bool b)).run P w = .ok (a == b) w := by
  unfold Op.equal Op.maxDepth
  rw [Op.equalIn]
  simp only [Sem.run_bind, show (underlying t).run P w = .ok .bool w by simp [underlying, hu], Result.andThen_ok]
  rfl
theorem eqnil_run {t : TypeId} {d : TypeDesc} (hu : P.underlying t = some d) {x z : Value} (w : World) (b : Bool)
    (h : (match d, x, z with
      | .pointer _, .pointer a, .pointer none => b = a.isNone
      | .slice _, .slice a _ _, .slice none _ _ => b = a.isNone
      | .interface _, .nilIface, .nilIface => b = true
      | .interface _, .iface _ _, .nilIface => b = false
      | .func _ _ _, .nilFunc, .nilFunc => b = true
      | .func _ _ _, .func _ _ _, .nilFunc => b = false
      | _, _, _ => False)) : (Op.equal t x z).run P w = .ok b w := by
  unfold Op.equal Op.maxDepth
  rw [Op.equalIn]
  simp only [Sem.run_bind, show (underlying t).run P w = .ok d w by simp [underlying, hu], Result.andThen_ok]
  split at h <;> first | contradiction | skip
  all_goals
    subst h
    first
      | rfl
      | (rename Option Addr => a; cases a <;> rfl)

theorem op_eqb {t t' : TypeId} {x y : Operand} {a b : Bool} (hu : P.underlying t = some .bool) (hx : ev env x = .bool a) (hy : ev env y = .bool b) :
    OpEv P T ⟨dst, .binOp .eql t x y t', ty, pos, after, gd⟩ env n g (.bool (a == b)) n .nil :=
  .calc fun ρ w ce h => by
    have h1 := h x (by simp [Op.operands]); rw [hx] at h1
    have h2 := h y (by simp [Op.operands]); rw [hy] at h2
    refine ⟨_, ?_, .bool _⟩
    have e : eqGuard .eql t x y (.bool a) (.bool b) = pure () := rfl
    have e2 : binOp .eql t (.bool a) (.bool b) = (do pure (.bool (← Op.equal t (.bool a) (.bool b)))) := rfl
    simp only [execOp, h1.bool_inv, h2.bool_inv, e, e2, pure_bind, Sem.run_bind, eqb_run hu, Result.andThen_ok, Sem.run_pure]
theorem op_neb {t t' : TypeId} {x y : Operand} {a b : Bool} (hu : P.underlying t = some .bool) (hx : ev env x = .bool a) (hy : ev env y = .bool b) :
    OpEv P T ⟨dst, .binOp .neq t x y t', ty, pos, after, gd⟩ env n g (.bool (!(a == b))) n .nil :=
  .calc fun ρ w ce h => by
    have h1 := h x (by simp [Op.operands]); rw [hx] at h1
    have h2 := h y (by simp [Op.operands]); rw [hy] at h2
    refine ⟨_, ?_, .bool _⟩
    have e : eqGuard .neq t x y (.bool a) (.bool b) = pure () := rfl
    have e2 : binOp .neq t (.bool a) (.bool b) = (do pure (.bool (!(← Op.equal t (.bool a) (.bool b))))) := rfl
    simp only [execOp, h1.bool_inv, h2.bool_inv, e, e2, pure_bind, Sem.run_bind, eqb_run hu, Result.andThen_ok, Sem.run_pure]
theorem op_str {op : BinOp} {t t' : TypeId} {x y : Operand} {a b : ByteArray} {v : Value} (hx : ev env x = .string a) (hy : ev env y = .string b)
    (hv : ∀ w, (Op.stringOp op a b).run P w = .ok v w) (hf : ∀ ρ, VRel ρ v v) (hop : op ≠ .shl ∧ op ≠ .shr) :
    OpEv P T ⟨dst, .binOp op t x y t', ty, pos, after, gd⟩ env n g v n .nil :=
  .calc fun ρ w ce h => by
    have h1 := h x (by simp [Op.operands]); rw [hx] at h1
    have h2 := h y (by simp [Op.operands]); rw [hy] at h2
    refine ⟨v, ?_, hf ρ⟩
    have e : eqGuard op t x y (.string a) (.string b) = pure () := by cases op <;> rfl
    have e2 : binOp op t (.string a) (.string b) = Op.stringOp op a b := by cases op <;> first | rfl | simp_all
    simp [execOp, h1.string_inv, h2.string_inv, e, e2, hv w]

def isNilV : Value → Option Bool
  | .pointer none | .slice none 0 0 | .nilIface | .nilFunc => some true
  | .pointer (some _) | .slice (some _) _ _ | .iface _ _ | .func (.func _) _ _ => some false
  | _ => none
def nilFits : TypeDesc → Value → Value → Bool
  | .pointer _, .pointer _, .pointer none => true
  | .slice _, .slice _ _ _, .slice none 0 0 => true
  | .interface _, .nilIface, .nilIface => true
  | .interface _, .iface _ _, .nilIface => true
  | .func _ _ _, .nilFunc, .nilFunc => true
  | .func _ _ _, .func _ _ _, .nilFunc => true
  | _, _, _ => false
theorem nil_case {t : TypeId} {x : Operand} {z : Value} {d : TypeDesc} {b : Bool} (hu : P.underlying t = some d) (hd : nilFits d (ev env x) z = true) (hb : isNilV (ev env x) = some b)
    {ρ : Ren} {w : World} {ce : Operand → Value} (h1 : VRel ρ (ev env x) (ce x)) (h2 : VRel ρ (ev env (.const z)) (ce (.const z))) :
    ce (.const z) = z ∧ (∀ op y, eqGuard op t y (.const z) (ce x) z = pure ()) ∧ (binOp .eql t (ce x) z = (do pure (.bool (← Op.equal t (ce x) z)))) ∧
      (binOp .neq t (ce x) z = (do pure (.bool (!(← Op.equal t (ce x) z))))) ∧ (Op.equal t (ce x) z).run P w = .ok b w := by
  have hz : ce (.const z) = z := by
    have : flat 8 z = true := by
      unfold nilFits at hd; split at hd <;> first | rfl | contradiction
    simp only [ev, this, if_true] at h2
    generalize ce (.const z) = q at h2
    unfold nilFits at hd; split at hd <;> first | contradiction | (cases h2; rfl)
  refine ⟨hz, ?_⟩
  clear h2 hz
  generalize ce x = xc at h1
  generalize ev env x = xv at h1 hd hb
  unfold nilFits at hd
  split at hd <;> first | contradiction | skip
  all_goals
    cases h1 <;> simp only [isNilV, Option.some.injEq, reduceCtorEq] at hb <;> subst hb <;>
      exact ⟨fun op y => by cases op <;> cases y <;> rfl, rfl, rfl, eqnil_run hu w _ (by simp)⟩
theorem op_eqnil {t t' : TypeId} {x : Operand} {z : Value} {d : TypeDesc} {b : Bool} (hu : P.underlying t = some d) (hd : nilFits d (ev env x) z = true) (hb : isNilV (ev env x) = some b) :
    OpEv P T ⟨dst, .binOp .eql t x (.const z) t', ty, pos, after, gd⟩ env n g (.bool b) n .nil :=
  .calc fun ρ w ce h => by
    obtain ⟨hz, e1, e2, e3, hr⟩ := nil_case (w := w) hu hd hb (h x (by simp [Op.operands])) (h (.const z) (by simp [Op.operands]))
    refine ⟨_, ?_, .bool _⟩
    simp only [execOp, hz, e1, e2, pure_bind, Sem.run_bind, hr, Result.andThen_ok, Sem.run_pure]
theorem op_nenil {t t' : TypeId} {x : Operand} {z : Value} {d : TypeDesc} {b : Bool} (hu : P.underlying t = some d) (hd : nilFits d (ev env x) z = true) (hb : isNilV (ev env x) = some b) :
    OpEv P T ⟨dst, .binOp .neq t x (.const z) t', ty, pos, after, gd⟩ env n g (.bool (!b)) n .nil :=
  .calc fun ρ w ce h => by
    obtain ⟨hz, e1, e2, e3, hr⟩ := nil_case (w := w) hu hd hb (h x (by simp [Op.operands])) (h (.const z) (by simp [Op.operands]))
    refine ⟨_, ?_, .bool _⟩
    simp only [execOp, hz, e1, e3, pure_bind, Sem.run_bind, hr, Result.andThen_ok, Sem.run_pure]

theorem op_not {t : TypeId} {x : Operand} {b : Bool} (hx : ev env x = .bool b) : OpEv P T ⟨dst, .unOp .not t x, ty, pos, after, gd⟩ env n g (.bool (!b)) n .nil :=
  .calc fun ρ w ce h => by
    have h1 := h x (by simp [Op.operands]); rw [hx] at h1
    exact ⟨_, by simp [execOp, h1.bool_inv, Op.unary], .bool _⟩
theorem op_neg {t : TypeId} {x : Operand} {k : IntKind} {a : Int} (hx : ev env x = .int k a) : OpEv P T ⟨dst, .unOp .neg t x, ty, pos, after, gd⟩ env n g (.int k (k.wrap (0 - a))) n .nil :=
  .calc fun ρ w ce h => by
    have h1 := h x (by simp [Op.operands]); rw [hx] at h1
    exact ⟨_, by simp [execOp, h1.int_inv, Op.unary, Op.intArith], .int _ _⟩
theorem op_compl {t : TypeId} {x : Operand} {k : IntKind} {a : Int} (hx : ev env x = .int k a) :
    OpEv P T ⟨dst, .unOp .xor t x, ty, pos, after, gd⟩ env n g (.int k (k.wrap (BitVec.ofInt k.bits (if k.signed then -1 else k.max) ^^^ BitVec.ofInt k.bits a).toNat)) n .nil :=
  .calc fun ρ w ce h => by
    have h1 := h x (by simp [Op.operands]); rw [hx] at h1
    exact ⟨_, by simp [execOp, h1.int_inv, Op.unary, Op.intBits], .int _ _⟩

theorem op_conv {s t : TypeId} {x : Operand} {k k' : IntKind} {a : Int} {d : TypeDesc} (hs : P.underlying s = some d) (ht : P.underlying t = some (.int k')) (hx : ev env x = .int k a) :
    OpEv P T ⟨dst, .convert s t x, ty, pos, after, gd⟩ env n g (.int k' (k'.wrap a)) n .nil :=
  .calc fun ρ w ce h => by
    have h1 := h x (by simp [Op.operands]); rw [hx] at h1
    have hr : (underlying s).run P w = .ok d w := by simp [underlying, hs]
    have hr' : (underlying t).run P w = .ok (.int k') w := by simp [underlying, ht]
    refine ⟨_, ?_, .int _ _⟩
    simp [execOp, h1.int_inv, convert, hr, hr', Conv.intToInt]

theorem op_extract {x : Operand} {i : Nat} {vs : Array Value} {v : Value} (hx : ev env x = .tuple vs) (hv : vs[i]? = some v) :
    OpEv P T ⟨dst, .extract x i, ty, pos, after, gd⟩ env n g v n .nil :=
  .calc fun ρ w ce h => by
    have h1 := h x (by simp [Op.operands]); rw [hx] at h1
    generalize hc : ce x = c at h1
    have hi : i < vs.size := by
      rcases Nat.lt_or_ge i vs.size with h | h
      · exact h
      · simp [Array.getElem?_eq_none h] at hv
    cases h1 with
    | unk => simp at hi
    | @tuple _ ys hs hh =>
      have hi2 : i < ys.size := by omega
      refine ⟨ys.getD i (.tuple #[]), by simp [execOp, hc, Instr.extract, hi2, Array.getD], ?_⟩
      have := hh i
      have e : vs.getD i (.tuple #[]) = v := by rw [Array.getD_eq_getD_getElem?, hv]; rfl
      rwa [e] at this

theorem op_iface {t : TypeId} {x : Operand} {d : TypeDesc} (hu : P.underlying t = some d) (hd : (match d with | .interface _ => false | _ => true) = true) :
    OpEv P T ⟨dst, .makeInterface t x, ty, pos, after, gd⟩ env n g (.iface t (ev env x)) n .nil :=
  .calc fun ρ w ce h => by
    have hr : (underlying t).run P w = .ok d w := by simp [underlying, hu]
    refine ⟨.iface t (ce x), ?_, .iface (h x (by simp [Op.operands]))⟩
    simp only [execOp, Instr.makeInterface, Sem.run_bind, hr, Result.andThen_ok]
    cases d <;> first | rfl | simp at hd

theorem op_func {f : FuncId} {caps : Array Operand} : OpEv P T ⟨dst, .makeFunc (.func f) #[] caps, ty, pos, after, gd⟩ env n g (.func (.func f) #[] (caps.map (ev env))) n .nil :=
  .calc fun ρ w ce h => by
    refine ⟨.func (.func f) #[] (caps.map ce), by simp [execOp, Instr.makeFunc], .func (by simp) fun i => ?_⟩
    by_cases hi : i < caps.size
    · simp [Array.getD, hi]; exact h _ (by simp [Op.operands])
    · simp [Array.getD, hi]; exact .unk _

theorem VRel.ptr_inv {ρ : Ren} {b o : Nat} {c : Value} (h : VRel ρ (.pointer (some ⟨b, o, none⟩)) c) : ∃ L, ρ b = some L ∧ c = .pointer (some ⟨L.blk, L.off + o, none⟩) := by
  cases h with | ptr h => exact ⟨_, h, rfl⟩

theorem op_fieldAddr {s : TypeId} {x : Operand} {i b o : Nat} {fs : Array Field} {f : Field} {d : TypeDesc} {z by_ : Nat} {zv : Value} (hu : P.underlying s = some (.struct fs)) (hf : fs[i]? = some f)
    (hz : TI P f.type d z by_ zv) (hz0 : z ≠ 0) (hx : ev env x = .pointer (some ⟨b, o, none⟩)) :
    OpEv P T ⟨dst, .fieldAddr s x i, ty, pos, after, gd⟩ env n g (.pointer (some ⟨b, o + f.offset, none⟩)) n .nil :=
  .calc fun ρ w ce h => by
    have h1 := h x (by simp [Op.operands]); rw [hx] at h1
    obtain ⟨L, hL, hc⟩ := h1.ptr_inv
    have hr : (underlying s).run P w = .ok (.struct fs) w := by simp [underlying, hu]
    refine ⟨.pointer (some ⟨L.blk, L.off + (o + f.offset), none⟩), ?_, .ptr hL⟩
    simp [execOp, Instr.fieldAt, hr, hf, hc, Instr.sureAddr, fieldPlace, hz.run_sizeOf, hz0, addr_add, Nat.add_assoc]

theorem op_indexAddr {t e : TypeId} {x y : Operand} {b o m : Nat} {k : IntKind} {i : Int} {d : TypeDesc} {z by_ : Nat} {zv : Value} (hu : P.underlying t = some (.slice e))
    (hz : TI P e d z by_ zv) (hx : ev env x = .slice (some ⟨b, o, none⟩) m m) (hy : ev env y = .int k i) (h0 : 0 ≤ i) (hi : i < m) :
    OpEv P T ⟨dst, .indexAddr t x y, ty, pos, after, gd⟩ env n g (.pointer (some ⟨b, o + i.toNat * z, none⟩)) n .nil :=
  .calc fun ρ w ce h => by
    have h1 := h x (by simp [Op.operands]); rw [hx] at h1
    have h2 := h y (by simp [Op.operands]); rw [hy] at h2
    have hr : (underlying t).run P w = .ok (.slice e) w := by simp [underlying, hu]
    generalize hc : ce x = c at h1
    cases h1 with
    | @slice _ _ _ L c' hL hn hcc =>
      refine ⟨.pointer (some ⟨L.blk, L.off + (o + i.toNat * z), none⟩), ?_, .ptr hL⟩
      simp [execOp, Instr.indexAt, hr, hc, h2.int_inv, asIntOf, h0, hi, hz.run_sizeOf, addr_add, Nat.add_assoc]
    | slice0 => omega

theorem op_arrayAddr {t e : TypeId} {x y : Operand} {b o m : Nat} {k : IntKind} {i : Int} {d : TypeDesc} {z by_ : Nat} {zv : Value} (hu : P.underlying t = some (.array m e))
    (hz : TI P e d z by_ zv) (hx : ev env x = .pointer (some ⟨b, o, none⟩)) (hy : ev env y = .int k i) (h0 : 0 ≤ i) (hi : i < m) :
    OpEv P T ⟨dst, .indexAddr t x y, ty, pos, after, gd⟩ env n g (.pointer (some ⟨b, o + i.toNat * z, none⟩)) n .nil :=
  .calc fun ρ w ce h => by
    have h1 := h x (by simp [Op.operands]); rw [hx] at h1
    have h2 := h y (by simp [Op.operands]); rw [hy] at h2
    have hr : (underlying t).run P w = .ok (.array m e) w := by simp [underlying, hu]
    obtain ⟨L, hL, hc⟩ := h1.ptr_inv
    refine ⟨.pointer (some ⟨L.blk, L.off + (o + i.toNat * z), none⟩), ?_, .ptr hL⟩
    simp [execOp, Instr.indexAt, hr, hc, h2.int_inv, asIntOf, h0, hi, hz.run_sizeOf, addr_add, Nat.add_assoc, Instr.sureAddr]

theorem op_nilCheck {x : Operand} {b o : Nat} (hx : ev env x = .pointer (some ⟨b, o, none⟩)) :
    OpEv P T ⟨dst, .nilCheck x, ty, pos, after, gd⟩ env n g (.pointer (some ⟨b, o, none⟩)) n .nil :=
  .calc fun ρ w ce h => by
    have h1 := h x (by simp [Op.operands]); rw [hx] at h1
    obtain ⟨L, hL, hc⟩ := h1.ptr_inv
    exact ⟨_, by simp [execOp, hc], .ptr hL⟩
theorem op_nilCheckI {x : Operand} {t : TypeId} {v : Value} (hx : ev env x = .iface t v) : OpEv P T ⟨dst, .nilCheck x, ty, pos, after, gd⟩ env n g (.iface t v) n .nil :=
  .calc fun ρ w ce h => by
    have h1 := h x (by simp [Op.operands]); rw [hx] at h1
    generalize hc : ce x = c at h1
    cases h1 with | iface h' => exact ⟨_, by simp [execOp, hc], .iface h'⟩
theorem op_len {x : Operand} {t e : TypeId} {a : Option Addr} {m c : Nat} (hu : P.underlying t = some (.slice e)) (hx : ev env x = .slice a m c) :
    OpEv P T ⟨dst, .call { callee := .builtin .len, args := #[x], argTypes := #[t] }, ty, pos, after, gd⟩ env n g (.int .i64 m) n .nil :=
  .calc fun ρ w ce h => by
    have h1 := h x (by simp [Op.operands, Call.operands]); rw [hx] at h1
    have hr : (underlying t).run P w = .ok (.slice e) w := by simp [underlying, hu]
    generalize hc : ce x = cc at h1
    refine ⟨_, ?_, .int _ _⟩
    cases h1 <;> simp [execOp, resolve, invoke, builtin, Builtin.len_, hr, hc, goInt]
theorem op_min {x y : Operand} {ts : Array TypeId} {k : IntKind} {a b : Int} (hx : ev env x = .int k a) (hy : ev env y = .int k b) :
    OpEv P T ⟨dst, .call { callee := .builtin .min, args := #[x, y], argTypes := ts }, ty, pos, after, gd⟩ env n g (.int k (min a b)) n .nil :=
  .calc fun ρ w ce h => by
    have h1 := h x (by simp [Op.operands, Call.operands]); rw [hx] at h1
    have h2 := h y (by simp [Op.operands, Call.operands]); rw [hy] at h2
    refine ⟨_, ?_, .int _ _⟩
    have : (if b < a then b else a) = min a b := by omega
    simp [execOp, resolve, invoke, builtin, Builtin.min_, Builtin.min2, h1.int_inv, h2.int_inv, this]
theorem op_max {x y : Operand} {ts : Array TypeId} {k : IntKind} {a b : Int} (hx : ev env x = .int k a) (hy : ev env y = .int k b) :
    OpEv P T ⟨dst, .call { callee := .builtin .max, args := #[x, y], argTypes := ts }, ty, pos, after, gd⟩ env n g (.int k (max a b)) n .nil :=
  .calc fun ρ w ce h => by
    have h1 := h x (by simp [Op.operands, Call.operands]); rw [hx] at h1
    have h2 := h y (by simp [Op.operands, Call.operands]); rw [hy] at h2
    refine ⟨_, ?_, .int _ _⟩
    have : (if b > a then b else a) = max a b := by omega
    simp [execOp, resolve, invoke, builtin, Builtin.max_, Builtin.max2, h1.int_inv, h2.int_inv, this]

end
end Go.Abs

/- Operations over the abstract heap: those that read, write or make memory. -/
namespace Go.Abs
open Go.RowKit

section
variable {P : Program} {T : Nat → Prop} {env : Env} {n : Nat} {g : AH}

theorem OpEv.look {o : Oper} {v : Value}
    (h : ∀ w0 ρ w H (ce : Operand → Value), g.le H → Sim w0 ρ H w → (∀ x, x ∈ o.op.operands → VRel ρ (ev env x) (ce x)) → ∃ c, (execOp ce o).run P w = .ok (.value c) w ∧ VRel ρ v c) : OpEv P T o env n g v n .nil :=
  ⟨Nat.le_refl _, .nil _ _ _, fun _ w0 ρ w H a next Q hl _ hs hr K => by
    obtain ⟨c, h1, h2⟩ := h w0 ρ w H a.eval hl hs hr
    refine wpA_value h1 ?_
    exact K ρ c w (.refl _ _ _) h2 hs⟩

variable {dst : Option Tmp} {ty : TypeId} {pos : String} {after : Array Edge} {gd : Option (Nat × Bool)}

def bound (env : Env) (x : Option Operand) (dflt v : Int) : Prop :=
  match x with
  | none => v = dflt
  | some y => ∃ k, ev env y = .int k v

theorem op_slice {t e : TypeId} {x : Operand} {lo hi : Option Operand} {b o m : Nat} {l h : Nat} {mm : Meta} {d : TypeDesc} {z by_ : Nat} {zv : Value} (hu : P.underlying t = some (.slice e))
    (hz : TI P e d z by_ zv) (hx : ev env x = .slice (some ⟨b, o, none⟩) m m) (hlo : bound env lo 0 l) (hhi : bound env hi m h) (hlh : l ≤ h) (hhm : h ≤ m)
    (hm : g.info b = some mm) (hsz : mm.sz = 0 ∨ mm.sz = z) :
    OpEv P T ⟨dst, .slice t x lo hi none, ty, pos, after, gd⟩ env n g (.slice (some ⟨b, o + l * z, none⟩) (h - l) (h - l)) n .nil :=
  .look fun w0 ρ w H ce hl hs hop => by
    have h1 := hop x (by simp [Op.operands]); rw [hx] at h1
    have hr : (underlying t).run P w = .ok (.slice e) w := by simp [underlying, hu]
    have hlo' : ∀ y, lo = some y → ∃ k, ce y = .int k l := fun y hy => by
      subst hy; obtain ⟨k, hk⟩ := hlo
      have := hop y (by simp [Op.operands]); rw [hk] at this
      exact ⟨k, this.int_inv⟩
    have hhi' : ∀ y, hi = some y → ∃ k, ce y = .int k h := fun y hy => by
      subst hy; obtain ⟨k, hk⟩ := hhi
      have := hop y (by simp [Op.operands]); rw [hk] at this
      exact ⟨k, this.int_inv⟩
    have hh0 : hi = none → h = m := fun e => by subst e; simp only [bound] at hhi; omega
    have hl0 : lo = none → l = 0 := fun e => by subst e; simp only [bound] at hlo; omega
    have key : ∀ (a : Addr) (c : Nat), m ≤ c → (Instr.sliceAt t (.slice (some a) m c) (lo.map ce) (hi.map ce) none).run P w = .ok (.slice (if c = l then some a else some (a.add (l * z))) (h - l) (c - l)) w := by
      intro a c hmc
      have hb : (Instr.sliceBounds true m c (lo.map ce) (hi.map ce) none).run P w = .ok (l, h, c) w := by
        cases lo with
        | none =>
          have := hl0 rfl; subst this
          cases hi with
          | none => have := hh0 rfl; subst this; simp [Instr.sliceBounds]
          | some y =>
            obtain ⟨k, hk⟩ := hhi' y rfl
            have : h ≤ c := by omega
            simp [Instr.sliceBounds, Instr.sliceBound, hk, asIntOf, this]
        | some q =>
          obtain ⟨k1, hk1⟩ := hlo' q rfl
          cases hi with
          | none =>
            have := hh0 rfl; subst this
            have : l ≤ h := by omega
            simp [Instr.sliceBounds, Instr.sliceBound, hk1, asIntOf, this]
          | some y =>
            obtain ⟨k, hk⟩ := hhi' y rfl
            have e1 : h ≤ c := by omega
            have e2 : l ≤ h := by omega
            simp [Instr.sliceBounds, Instr.sliceBound, hk, hk1, asIntOf, e1, e2]
      simp only [Instr.sliceAt, Instr.slice, Sem.run_bind, hr, Result.andThen_ok, hb, hz.run_sizeOf, Sem.run_pure, Option.map_some]
    generalize hc : ce x = c at h1
    cases h1 with
    | @slice _ _ _ L c' hL hn hcc =>
      refine ⟨.slice (if c' = l then some ⟨L.blk, L.off + o, none⟩ else some ((⟨L.blk, L.off + o, none⟩ : Addr).add (l * z))) (h - l) (c' - l), ?_, ?_⟩
      · simp only [execOp, hc, Option.map_none, Sem.run_bind, key _ _ hn, Result.andThen_ok, Sem.run_pure]
      · by_cases hcl : c' = l
        · rw [if_pos hcl]
          have : h - l = 0 := by omega
          rw [this, show c' - l = 0 by omega]
          exact .slice0 _ hL
        · rw [if_neg hcl, addr_add, Nat.add_assoc]
          refine .slice _ hL (by omega) fun h0 => ?_
          obtain ⟨L', k1, k2, _⟩ := hs.info b mm (hl.info b mm hm)
          rw [hL] at k1; cases k1
          have h5 := hcc h0
          have : L.sz = z := by rcases hsz with h6 | h6 <;> omega
          rw [this] at h5 ⊢
          have h7 : l ≤ c' := by omega
          have : l * z + (c' - l) * z = c' * z := by rw [← Nat.add_mul]; congr 1; omega
          omega
    | @slice0 _ _ L a hL =>
      have e1 : l = 0 := by omega
      have e2 : h = 0 := by omega
      subst e1; subst e2
      refine ⟨.slice (some a) 0 0, ?_, ?_⟩
      · simp only [execOp, hc, Option.map_none, Sem.run_bind, key _ _ (Nat.le_refl _), Result.andThen_ok, Sem.run_pure]
        simp
      · simp; exact .slice0 _ hL

theorem op_sliceNil {t e : TypeId} {x : Operand} {lo hi : Option Operand} {d : TypeDesc} {z by_ : Nat} {zv : Value} (hu : P.underlying t = some (.slice e))
    (hz : TI P e d z by_ zv) (hx : ev env x = .slice none 0 0) (hlo : bound env lo 0 0) (hhi : bound env hi 0 0) :
    OpEv P T ⟨dst, .slice t x lo hi none, ty, pos, after, gd⟩ env n g (.slice none 0 0) n .nil :=
  .look fun w0 ρ w H ce hl hs hop => by
    have h1 := hop x (by simp [Op.operands]); rw [hx] at h1
    have hr : (underlying t).run P w = .ok (.slice e) w := by simp [underlying, hu]
    generalize hc : ce x = c at h1
    cases h1
    refine ⟨_, ?_, .nilSlice⟩
    have hb : (Instr.sliceBounds true 0 0 (lo.map ce) (hi.map ce) none).run P w = .ok (0, 0, 0) w := by
      have hlo' : ∀ y, lo = some y → ∃ k, ce y = .int k 0 := fun y hy => by
        subst hy; obtain ⟨k, hk⟩ := hlo
        have := hop y (by simp [Op.operands]); rw [hk] at this
        exact ⟨k, this.int_inv⟩
      have hhi' : ∀ y, hi = some y → ∃ k, ce y = .int k 0 := fun y hy => by
        subst hy; obtain ⟨k, hk⟩ := hhi
        have := hop y (by simp [Op.operands]); rw [hk] at this
        exact ⟨k, this.int_inv⟩
      cases lo with
      | none =>
        cases hi with
        | none => simp [Instr.sliceBounds]
        | some y => obtain ⟨k, hk⟩ := hhi' y rfl; simp [Instr.sliceBounds, Instr.sliceBound, hk, asIntOf]
      | some q =>
        obtain ⟨k1, hk1⟩ := hlo' q rfl
        cases hi with
        | none => simp [Instr.sliceBounds, Instr.sliceBound, hk1, asIntOf]
        | some y => obtain ⟨k, hk⟩ := hhi' y rfl; simp [Instr.sliceBounds, Instr.sliceBound, hk, hk1, asIntOf]
    simp only [execOp, hc, Option.map_none, Instr.sliceAt, Instr.slice, Sem.run_bind, hr, Result.andThen_ok, hb, hz.run_sizeOf, Sem.run_pure, if_true, Nat.sub_self]

theorem op_load {t : TypeId} {x : Operand} {b o : Nat} {d : TypeDesc} {z by_ : Nat} {zv : Value} {v : Value} (hz : TI P t d z by_ zv) (hx : ev env x = .pointer (some ⟨b, o, none⟩)) (ha : isAggD d = false)
    (hv : g.cell b o = v) (hk : v ≠ .tuple #[]) : OpEv P T ⟨dst, .load t x, ty, pos, after, gd⟩ env n g v n .nil :=
  .look fun w0 ρ w H ce hl hs hop => by
    have h1 := hop x (by simp [Op.operands]); rw [hx] at h1
    obtain ⟨L, hL, hc⟩ := h1.ptr_inv
    have h2 : H.cell b o = g.cell b o := (hl.cell b o).resolve_left (by rw [hv]; exact hk)
    obtain ⟨L', c, k1, k2, k3⟩ := hs.cell b o (by rw [h2, hv]; exact hk)
    rw [hL] at k1; cases k1
    rw [h2, hv] at k3
    refine ⟨c, ?_, k3⟩
    simp [execOp, Instr.loadAt, hc, Instr.sureAddr, loadVar, hz.run_isAgg, ha, k2]
theorem op_loadAgg {t : TypeId} {x : Operand} {b o : Nat} {d : TypeDesc} {z by_ : Nat} {zv : Value} (hz : TI P t d z by_ zv) (hx : ev env x = .pointer (some ⟨b, o, none⟩)) (ha : isAggD d = true)
    (hk : known (rd g b o z) = true) (hL0 : z ≠ 0) : OpEv P T ⟨dst, .load t x, ty, pos, after, gd⟩ env n g (.agg (rd g b o z).toArray) n .nil :=
  .look fun w0 ρ w H ce hl hs hop => by
    have h1 := hop x (by simp [Op.operands]); rw [hx] at h1
    obtain ⟨L, hL, hc⟩ := h1.ptr_inv
    obtain ⟨cs, k1, k2, k3⟩ := hs.rd (P := P) hl hL hk
    refine ⟨.agg cs.toArray, ?_, .agg (by simp [rd_length, k1]) fun i => ?_⟩
    · simp [execOp, Instr.loadAt, hc, Instr.sureAddr, loadVar, hz.run_isAgg, ha, hz.run_sizeOf, k3]
    · by_cases hi : i < z
      · have := (k2 i hi).2
        simpa [Array.getD_eq_getD_getElem?, List.getD] using this
      · have : (rd g b o z).toArray.getD i (.tuple #[]) = .tuple #[] := by
          simp [Array.getD, rd_length]; omega
        rw [this]; exact .unk _

def okV : Value → Bool
  | .tuple _ => false
  | .chan _ => false
  | .agg cs => known cs.toList
  | _ => true
theorem VRel.cells {ρ : Ren} {a c : Value} (h : VRel ρ a c) (ha : okV a = true) :
    a.cells.size = c.cells.size ∧ (∀ i, VRel ρ (a.cells.toList.getD i (.tuple #[])) (c.cells.toList.getD i (.tuple #[]))) ∧ known a.cells.toList = true := by
  have one : ∀ {x y : Value}, VRel ρ x y → (∀ i, VRel ρ ([x].getD i (.tuple #[])) ([y].getD i (.tuple #[]))) := by
    intro x y h i
    cases i with
    | zero => exact h
    | succ i => simp; exact .unk _
  cases h with
  | unk => simp [okV] at ha
  | agg hs hh =>
    refine ⟨hs, fun i => ?_, ha⟩
    have := hh i
    simpa [Value.cells, Array.getD_eq_getD_getElem?, List.getD] using this
  | tuple hs hh => simp [okV] at ha
  | bool b => exact ⟨rfl, one (.bool b), rfl⟩
  | int k x => exact ⟨rfl, one (.int k x), rfl⟩
  | string s => exact ⟨rfl, one (.string s), rfl⟩
  | nilPtr => exact ⟨rfl, one .nilPtr, rfl⟩
  | nilSlice => exact ⟨rfl, one .nilSlice, rfl⟩
  | nilMap => exact ⟨rfl, one .nilMap, rfl⟩
  | nilFunc => exact ⟨rfl, one .nilFunc, rfl⟩
  | map h => exact ⟨rfl, one (.map h), rfl⟩
  | nilIface => exact ⟨rfl, one .nilIface, rfl⟩
  | ptr h => exact ⟨rfl, one (.ptr h), rfl⟩
  | slice c h hn hc => exact ⟨rfl, one (.slice c h hn hc), rfl⟩
  | slice0 a h => exact ⟨rfl, one (.slice0 a h), rfl⟩
  | iface h => exact ⟨rfl, one (.iface h), rfl⟩
  | func hs h => exact ⟨rfl, one (.func hs h), rfl⟩
  | meth h => exact ⟨rfl, one (.meth h), rfl⟩
  | yield h => exact ⟨rfl, one (.yield h), rfl⟩
  | skip => simp [okV] at ha

theorem Sim.storeCells {P : Program} {w0 : Base} {w : World} {ρ : Ren} {H : AH} (s : Sim w0 ρ H w) {b o : Nat} {m : Meta} {L : Loc} (hm : H.info b = some m) (hL : ρ b = some L) (vs cs : List Value)
    (hlen : vs.length = cs.length) (hown : ∀ j, j < vs.length → Own m L (o + j)) (hv : ∀ j, j < vs.length → VRel ρ (vs.getD j (.tuple #[])) (cs.getD j (.tuple #[]))) (hk : known vs = true) :
    (Go.storeCells ⟨L.blk, L.off + o, none⟩ cs).run P w = .ok () (w.setCells L.blk (L.off + o) cs) ∧ Sim w0 ρ (H.app (.sets b o vs)) (w.setCells L.blk (L.off + o) cs) := by
  obtain ⟨L', k1, kz, k2, k3, k4⟩ := s.info b m hm
  rw [hL] at k1; cases k1
  refine ⟨?_, s.stores hL vs cs o hm hlen hown hv⟩
  have := run_storeCells_cells (P := P) L.blk (L.off + o) cs 0 w ?_ ?_ ?_
  · simpa using this
  · intro j hj
    obtain ⟨_, ⟨v, h2⟩, _⟩ := k4 (o + j) (hown j (by omega))
    rw [Nat.add_zero, Nat.add_assoc, h2]; rfl
  · intro j hj
    obtain ⟨_, ⟨v, h2⟩, h3⟩ := k4 (o + j) (hown j (by omega))
    rw [Nat.add_zero, Nat.add_assoc]; exact h3.frozen h2
  · intro v hv'
    obtain ⟨j, hj, rfl⟩ := List.getElem_of_mem hv'
    have h1 := hv j (by omega)
    have h2 := (known_at vs hk j (by omega)).2
    have := h1.oneCell h2
    simpa [List.getD, hj] using this

theorem op_store {t : TypeId} {x y : Operand} {b o : Nat} {d : TypeDesc} {z by_ : Nat} {zv : Value} {m : Meta} (hz : TI P t d z by_ zv) (hx : ev env x = .pointer (some ⟨b, o, none⟩))
    (hy : okV (ev env y) = true) (hs : (ev env y).cells.size = z) (hm : g.info b = some m) (hlk : m.lock ≤ o) (hin : o + z ≤ m.size) (hT : T b ∨ n ≤ b) (hb : b < n) :
    OpEv P T ⟨dst, .store t x y, ty, pos, after, gd⟩ env n g (.tuple #[]) n (.sets b o (ev env y).cells.toList) where
  le := Nat.le_refl _
  within := fun x hx => by
    have := sets_touches hx
    subst this; exact ⟨hT, hb⟩
  run := fun rq w0 ρ w H a next Q hl hf hsim hop K => by
    have h1 := hop x (by simp [Op.operands]); rw [hx] at h1
    obtain ⟨L, hL, hc⟩ := h1.ptr_inv
    have h2 := hop y (by simp [Op.operands])
    obtain ⟨c1, c2, c3⟩ := h2.cells hy
    have hM := hl.info b m hm
    obtain ⟨L', k1, kz, k2, k3, k4⟩ := hsim.info b m hM
    rw [hL] at k1; cases k1
    have hlen : (ev env y).cells.toList.length = z := by simpa using hs
    obtain ⟨e1, e2⟩ := hsim.storeCells (P := P) (o := o) hM hL (ev env y).cells.toList (a.eval y).cells.toList (by simpa using c1)
      (fun j hj => ⟨by omega, by split <;> omega⟩) (fun j _ => c2 j) c3
    have hrun : (execOp a.eval ⟨dst, .store t x y, ty, pos, after, gd⟩).run P w = .ok .skip (w.setCells L.blk (L.off + o) (a.eval y).cells.toList) := by
      have hsz : ¬ ((a.eval y).cells.size ≠ z) := by rw [← c1]; simpa using hs
      simp only [execOp, Instr.storeAt, hc, Instr.sureAddr, storeVar, Sem.run_bind, Sem.run_pure, Result.andThen_ok, hz.run_sizeOf, if_neg hsz]
      rw [e1]; rfl
    refine wpA_skip hrun ?_
    exact K ρ _ _ (.refl _ _ _) (.unk _) e2

theorem within_new {T : Nat → Prop} {n : Nat} {m : Meta} {cs : List Value} : Within T n (n + 1) (.new n m cs) := by
  intro b hb
  have : b = n := by
    rcases hb with h | ⟨i, h⟩
    · simp only [Dl.new] at h; split at h
      · assumption
      · exact absurd rfl h
    · simp only [Dl.new] at h; split at h
      · assumption
      · exact absurd rfl h
  subst this; exact ⟨.inr (Nat.le_refl _), Nat.lt_succ_self _⟩

theorem op_new {o : Oper} {v : Value} {cs : List Value} {x : Nat} (h : ∀ w0 ρ w H (ce : Operand → Value), g.le H → Sim w0 ρ H w → (∀ y, y ∈ o.op.operands → VRel ρ (ev env y) (ce y)) →
      ∃ (w1 : World) (conc : Array Value) (e : TypeId) (c : Value), Sim w0 ρ H w1 ∧ cs.length ≤ conc.size ∧ (∀ i, i < cs.length → VRel ρ (cs.getD i (.tuple #[])) (conc.getD i (.tuple #[]))) ∧
        (execOp ce o).run P w = .ok (.value c) (w1.alloc (.cells conc e)) ∧ VRel (ρ.set n ⟨w1.heap.size, 0, conc.size, x⟩) v c) :
    OpEv P T o env n g v (n + 1) (.new n ⟨cs.length, 0, true, x⟩ cs) where
  le := Nat.le_succ _
  within := within_new
  run := fun rq w0 ρ w H a next Q hl hf hsim hop K => by
    have hn := hf n (Nat.le_refl _) (Nat.lt_succ_self _)
    obtain ⟨w1, conc, e, c, h1, h2, h3, h4, h5⟩ := h w0 ρ w H a.eval hl hsim hop
    have hs := h1.new hn cs conc e x h2 h3
    refine wpA_value h4 ?_
    exact K _ c _ (.one hn _) h5 hs

theorem op_box {e : TypeId} {x : Operand} (hy : okV (ev env x) = true) :
    OpEv P T ⟨dst, .box e x, ty, pos, after, gd⟩ env n g (.pointer (some ⟨n, 0, none⟩)) (n + 1) (.new n ⟨(ev env x).cells.toList.length, 0, true, 0⟩ (ev env x).cells.toList) :=
  op_new fun w0 ρ w H ce hl hs hop => by
    obtain ⟨c1, c2, c3⟩ := (hop x (by simp [Op.operands])).cells hy
    refine ⟨w, (ce x).cells, e, .pointer (some ⟨w.heap.size, 0, none⟩), hs, by simp [c1], fun i hi => ?_, ?_, ?_⟩
    · have := c2 i; simpa [Array.getD_eq_getD_getElem?, List.getD] using this
    · simp [execOp, Instr.box, newVar, newRow]
    · exact .ptr (L := ⟨w.heap.size, 0, (ce x).cells.size, 0⟩) (Ren.set_self _ _ _)

theorem op_alloc {e : TypeId} {d : TypeDesc} {z by_ : Nat} {zv : Value} (hz : TI P e d z by_ zv) (hf : zv.cells.all (flat 8) = true) :
    OpEv P T ⟨dst, .alloc e, ty, pos, after, gd⟩ env n g (.pointer (some ⟨n, 0, none⟩)) (n + 1) (.new n ⟨zv.cells.toList.length, 0, true, 0⟩ zv.cells.toList) :=
  op_new fun w0 ρ w H ce hl hs hop => by
    refine ⟨w, zv.cells, e, .pointer (some ⟨w.heap.size, 0, none⟩), hs, by simp, fun i hi => ?_, ?_, ?_⟩
    · have hi' : i < zv.cells.size := by simpa using hi
      have := flat_rel ρ 8 _ (Array.all_eq_true.1 hf i hi')
      simpa [Array.getD, List.getD, hi'] using this
    · simp [execOp, Instr.alloc, hz.run_zeroValue, newVar, newRow]
    · exact .ptr (L := ⟨w.heap.size, 0, zv.cells.size, 0⟩) (Ren.set_self _ _ _)

end
end Go.Abs

/- A function's results, its contract out of its body, and the operations that call. -/
namespace Go.Abs
open Go.RowKit

inductive ResV (P : Program) (env : Env) (h : AH) : ResultVar → Value → Prop
  | tmp {t : Nat} : ResV P env h (.tmp t) (env.get t)
  | cell {a b o : Nat} {t : TypeId} {d : TypeDesc} {z by_ : Nat} {zv v : Value} (hz : TI P t d z by_ zv) (hx : env.get a = .pointer (some ⟨b, o, none⟩)) (ha : isAggD d = false)
      (hv : h.cell b o = v) (hk : v ≠ .tuple #[]) : ResV P env h (.cell a t) v
  | agg {a b o : Nat} {t : TypeId} {d : TypeDesc} {z by_ : Nat} {zv : Value} (hz : TI P t d z by_ zv) (hx : env.get a = .pointer (some ⟨b, o, none⟩)) (ha : isAggD d = true)
      (hk : known (rd h b o z) = true) : ResV P env h (.cell a t) (.agg (rd h b o z).toArray)

def resRun (tmps : Array Value) : ResultVar → Sem Value
  | .tmp t => pure (tmps.getD t (.tuple #[]))
  | .cell a t => do loadVar t (← asAddr (tmps.getD a (.tuple #[])))

theorem ResV.run {P : Program} {env : Env} {h H : AH} {rv : ResultVar} {v : Value} (r : ResV P env h rv v) {w0 : Base} {w : World} {ρ : Ren} {N : Nat} {tmps : Array Value} (hs : Sim w0 ρ H w) (hl : h.le H) (he : EnvRel ρ N env tmps) :
    ∃ c, (resRun tmps rv).run P w = .ok c w ∧ VRel ρ v c := by
  cases r with
  | tmp => exact ⟨_, rfl, he.at_ _⟩
  | @cell a b o t d z by_ zv v hz hx ha hv hk =>
    have h1 := he.at_ a; rw [hx] at h1
    obtain ⟨L, hL, hc⟩ := h1.ptr_inv
    have h2 : H.cell b o = h.cell b o := (hl.cell b o).resolve_left (by rw [hv]; exact hk)
    obtain ⟨L', c, k1, k2, k3⟩ := hs.cell b o (by rw [h2, hv]; exact hk)
    rw [hL] at k1; cases k1
    rw [h2, hv] at k3
    refine ⟨c, ?_, k3⟩
    simp only [resRun, hc]
    simp [asAddr, loadVar, hz.run_isAgg, ha, k2]
  | @agg a b o t d z by_ zv hz hx ha hk =>
    have h1 := he.at_ a; rw [hx] at h1
    obtain ⟨L, hL, hc⟩ := h1.ptr_inv
    obtain ⟨cs, k1, k2, k3⟩ := hs.rd (P := P) hl hL hk
    refine ⟨.agg cs.toArray, ?_, .agg (by simp [rd_length, k1]) fun i => ?_⟩
    · simp only [resRun, hc]
      simp [asAddr, loadVar, hz.run_isAgg, ha, hz.run_sizeOf, k3]
    · by_cases hi : i < z
      · have := (k2 i hi).2
        simpa [Array.getD_eq_getD_getElem?, List.getD] using this
      · have : (rd h b o z).toArray.getD i (.tuple #[]) = .tuple #[] := by
          simp [Array.getD, rd_length]; omega
        rw [this]; exact .unk _

inductive ResA (P : Program) (env : Env) (h : AH) : List ResultVar → List Value → Prop
  | nil : ResA P env h [] []
  | cons {rv v rs vs} (x : ResV P env h rv v) (r : ResA P env h rs vs) : ResA P env h (rv :: rs) (v :: vs)

def packed : List Value → Value
  | [v] => v
  | vs => .tuple vs.toArray

theorem ResA.run {P : Program} {env : Env} {h H : AH} {w0 : Base} {w : World} {ρ : Ren} {N : Nat} {tmps : Array Value} (hs : Sim w0 ρ H w) (hl : h.le H) (he : EnvRel ρ N env tmps) :
    ∀ {rs : List ResultVar} {vs : List Value}, ResA P env h rs vs → ∃ cs : List Value, cs.length = vs.length ∧ (∀ i, VRel ρ (vs.getD i (.tuple #[])) (cs.getD i (.tuple #[]))) ∧
      (rs.mapM (resRun tmps)).run P w = .ok cs w := by
  intro rs vs r
  induction r with
  | nil => exact ⟨[], rfl, fun i => by simp; exact .unk _, rfl⟩
  | @cons rv v rs vs x r ih =>
    obtain ⟨cs, k1, k2, k3⟩ := ih
    obtain ⟨c, c1, c2⟩ := x.run hs hl he
    refine ⟨c :: cs, by simp [k1], fun i => ?_, ?_⟩
    · cases i with
      | zero => exact c2
      | succ i => simpa using k2 i
    · rw [List.mapM_cons]
      simp only [Sem.run_bind, c1, Result.andThen_ok, k3, Sem.run_pure]

theorem ResA.results {P : Program} {env : Env} {h H : AH} {w0 : Base} {w : World} {ρ : Ren} {N : Nat} {tmps : Array Value} {fn : Func} (hs : Sim w0 ρ H w) (hl : h.le H) (he : EnvRel ρ N env tmps)
    {vs : List Value} (r : ResA P env h fn.results.toList vs) : ∃ c, (results fn tmps).run P w = .ok c w ∧ VRel ρ (packed vs) c := by
  obtain ⟨cs, k1, k2, k3⟩ := r.run hs hl he
  refine ⟨packed cs, ?_, ?_⟩
  · unfold Go.results
    have e : (fun x : ResultVar => (resRun tmps x)) = resRun tmps := rfl
    have e2 : Go.results fn tmps = (do let vs ← fn.results.mapM (resRun tmps); pure (if h : vs.size = 1 then vs[0] else .tuple vs)) := by
      unfold Go.results
      congr 2
    unfold Go.results at e2
    rw [e2]
    rw [Array.mapM_eq_mapM_toList]
    simp only [Sem.run_bind, Sem.run_map, k3, Result.andThen_ok]
    cases cs with
    | nil => rfl
    | cons c cs =>
      cases cs with
      | nil => rfl
      | cons c' cs => rfl
  · cases vs with
    | nil => simp only [packed]; exact .unk _
    | cons v vs =>
      cases cs with
      | nil => simp at k1
      | cons c cs =>
        cases vs with
        | nil =>
          cases cs with
          | nil => simpa [packed] using k2 0
          | cons c' cs => simp at k1
        | cons v' vs =>
          cases cs with
          | nil => simp at k1
          | cons c' cs =>
            simp only [packed]
            refine .tuple (by simpa using k1.symm) fun i => ?_
            have := k2 i
            simpa [Array.getD_eq_getD_getElem?, List.getD] using this

theorem leavesM {P : Program} {fn : Func} {tmps : Array Value} {R : Ending → World → Prop} {w0 : Base} {ρ : Ren} {H : AH} : ∀ (ms : List Nat) (w : World), Sim (w0.keep ms) ρ H w →
    (∀ w', Sim w0 ρ H w' → ∃ v, (results fn tmps).run P w' = .ok v w' ∧ R (.returned v) w') → LeavesInM (FW none) 0 P fn tmps R (markOf ms) .returning w
  | [], w, s, K => K w s
  | r :: ms, w, s, K => by
    obtain ⟨w', h1, h2⟩ := s.taken (P := P)
    exact ⟨by simp, .inl ⟨r, w', rfl, h1, leavesM ms w' h2 K⟩⟩

theorem Ev.of {P : Program} {W : Nat → Prop} {f : FuncId} {fn : Func} {c : Code} {args : Array Value} {n n' : Nat} {h h' : AH} {e : Exit} {env' : Env} {vs : List Value}
    (hf : P.funcs[f]? = some fn) (hb : fn.body = some c) (hnm : (fn.name == "runtime.NumGoroutine") = false) (ha : args.size ≤ fn.ntmps)
    (hx : Ex P (fun b => W b ∨ n ≤ b) fn.ntmps c (argEnv 0 args.toList) n h e env' n' h') (he : e = .normal ∨ e = .ret) (hr : ResA P env' h' fn.results.toList vs) :
    Ev P W f args n h (packed vs) n' h' := by
  obtain ⟨d, hle, hn, hw, hx⟩ := hx
  refine ⟨⟨fn, hf, by rw [hb]; rfl, hnm⟩, d, hle, hn, fun b hb => ⟨?_, (hw b hb).2⟩, fun w0 ρ w H cargs hl hfr hs hr' => ?_⟩
  · rcases (hw b hb).1 with (h | h) | h
    · exact .inl h
    · exact .inr h
    · exact .inr h
  refine callsIn_of_wp_marks hf hb (FW.fn none f) ?_
  refine wpIn_mono (hx none w0 ρ w H _ [] .none hl hfr hs (EnvRel.start hr' ha)) ?_
  rintro e2 a w' ⟨rfl, ms, hd, ρ', hg, he', hs'⟩
  have key := leavesM (P := P) (fn := fn) (tmps := a.tmps) (R := fun e w' => ∃ ρ' c, e = .returned c ∧ Grow n n' ρ ρ' ∧ VRel ρ' (packed vs) c ∧ Sim w0 ρ' (H.app d) w') ms w' hs' fun w2 hs2 => by
    obtain ⟨v, r1, r2⟩ := hr.results hs2 (hle.trans (hl.app d)) he'
    exact ⟨v, r1, ρ', v, rfl, hg, r2, hs2⟩
  rw [List.append_nil] at hd
  rcases he with rfl | rfl
  · show LeavesInM _ _ _ _ _ _ a.defers _ _
    rw [hd]; exact key
  · show LeavesInM _ _ _ _ _ _ a.defers _ _
    rw [hd]; exact key

section
variable {P : Program} {T W : Nat → Prop} {env : Env} {n n' : Nat} {g h' : AH}
variable {dst : Option Tmp} {ty : TypeId} {pos : String} {after : Array Edge} {gd : Option (Nat × Bool)}

theorem callFunc_run {f : FuncId} {fn : Func} (hf : P.funcs[f]? = some fn) (hb : fn.body.isSome = true) (hn : (fn.name == "runtime.NumGoroutine") = false) (args : Array Value) (w : World) :
    (callFunc f args).run P w = .ok (.enter f args) w := by
  have hb' : fn.body.isNone = false := by cases h : fn.body <;> simp_all
  simp only [callFunc, Sem.run_bind, run_program, Result.andThen_ok, hf, hn, hb', Bool.false_eq_true, if_false, Sem.run_pure]

theorem op_enter {o : Oper} {f : FuncId} {args : Array Value} {r : Value} (hev : Ev P W f args n g r n' h') (hW : ∀ b, W b → T b)
    (hrun : ∀ ρ w (ce : Operand → Value), (∀ x, x ∈ o.op.operands → VRel ρ (ev env x) (ce x)) → ∃ cargs, (execOp ce o).run P w = .ok (.enter f cargs) w ∧ RelAll ρ args cargs) :
    ∃ d, h'.le (g.app d) ∧ Within W n n' d ∧ OpEv P T o env n g r n' d := by
  obtain ⟨_, d, e, hn, hw, hc⟩ := hev
  refine ⟨d, e, hw, hn, fun b hb => ⟨(hw b hb).1.imp (hW b) id, (hw b hb).2⟩, fun rd w0 ρ w H a next Q hl hf hs hop K => ?_⟩
  obtain ⟨cargs, h1, h2⟩ := hrun ρ w a.eval hop
  refine wpA_enter h1 ?_
  refine CallsIn.mono (hc w0 ρ w H cargs hl hf hs h2) ?_
  rintro e w' ⟨ρ', c, rfl, hg, hv, hs'⟩
  exact K ρ' c w' hg hv hs'

theorem op_call {f : FuncId} {xs : Array Operand} {ts : Array TypeId} {r : Value}
    (hev : Ev P W f (xs.map (ev env)) n g r n' h') (hW : ∀ b, W b → T b) :
    ∃ d, h'.le (g.app d) ∧ Within W n n' d ∧ OpEv P T ⟨dst, .call { callee := .value (.func f), args := xs, argTypes := ts }, ty, pos, after, gd⟩ env n g r n' d :=
  have ⟨⟨fn, hf, hb, hn⟩, _⟩ := hev
  op_enter hev hW fun ρ w ce hop => by
    have h1 := hop (.func f) (by simp [Op.operands, Call.operands])
    have hfc : ∃ ys, ce (.func f) = .func (.func f) #[] ys ∧ ys = #[] := by
      simp only [ev] at h1
      generalize ce (.func f) = q at h1
      cases h1 with
      | func hs _ => exact ⟨_, rfl, by simpa using hs.symm⟩
    obtain ⟨ys, hfc, rfl⟩ := hfc
    refine ⟨xs.map ce, ?_, by simp, fun i => ?_⟩
    · simp [execOp, resolve, hfc, Deferred.ofValue, invoke, callFunc_run hf hb hn]
    · by_cases hi : i < xs.size
      · simp [Array.getD, hi]; exact hop _ (by simp [Op.operands, Call.operands])
      · simp [Array.getD, hi]; exact .unk _

theorem op_callv {f : FuncId} {x : Operand} {caps : Array Value} {xs : Array Operand} {ts : Array TypeId} {r : Value} (hx : ev env x = .func (.func f) #[] caps)
    (hev : Ev P W f (xs.map (ev env) ++ caps) n g r n' h') (hW : ∀ b, W b → T b) :
    ∃ d, h'.le (g.app d) ∧ Within W n n' d ∧ OpEv P T ⟨dst, .call { callee := .value x, args := xs, argTypes := ts }, ty, pos, after, gd⟩ env n g r n' d :=
  have ⟨⟨fn, hf, hb, hn⟩, _⟩ := hev
  op_enter hev hW fun ρ w ce hop => by
    have h1 := hop x (by simp [Op.operands, Call.operands]); rw [hx] at h1
    generalize hc : ce x = q at h1
    cases h1 with
    | @func _ _ ys hs hh =>
      refine ⟨xs.map ce ++ ys, ?_, RelAll.append ⟨by simp, fun i => ?_⟩ ⟨hs, hh⟩⟩
      · simp [execOp, resolve, hc, Deferred.ofValue, invoke, callFunc_run hf hb hn]
      · by_cases hi : i < xs.size
        · simp [Array.getD, hi]; exact hop _ (by simp [Op.operands, Call.operands])
        · simp [Array.getD, hi]; exact .unk _

def isPtrD : TypeDesc → Bool
  | .pointer _ => true
  | _ => false
theorem op_invoke {f : FuncId} {x : Operand} {t : TypeId} {v : Value} {name : String} {m : Method} {i : TypeInfo} {d : TypeDesc} {xs : Array Operand} {ts : Array TypeId} {r : Value} (hx : ev env x = .iface t v)
    (hi : P.info? t = some i) (hm : i.methods.find? (·.name == name) = some m) (hp : m.path = #[]) (hmf : m.func = some (f, false)) (hu : P.underlying t = some d) (hd : isPtrD d = false)
    (hev : Ev P W f (#[v] ++ xs.map (ev env)) n g r n' h') (hW : ∀ b, W b → T b) :
    ∃ d, h'.le (g.app d) ∧ Within W n n' d ∧ OpEv P T ⟨dst, .call { callee := .invoke x name, args := xs, argTypes := ts }, ty, pos, after, gd⟩ env n g r n' d :=
  have ⟨⟨fn, hf, hb, hn⟩, _⟩ := hev
  op_enter hev hW fun ρ w ce hop => by
    have h1 := hop x (by simp [Op.operands, Call.operands]); rw [hx] at h1
    generalize hc : ce x = q at h1
    cases h1 with
    | @iface _ _ y hv =>
      refine ⟨#[y] ++ xs.map ce, ?_, RelAll.append ⟨rfl, fun i => ?_⟩ ⟨by simp, fun i => ?_⟩⟩
      · have hti : (typeInfo t).run P w = .ok i w := by simp [typeInfo, hi]
        have hr : (underlying t).run P w = .ok d w := by simp [underlying, hu]
        have hmeth : (method (P.types.size + Made.depth) t y name).run P w = .ok (f, y) w := by
          have hpos : 0 < Made.depth := by decide
          obtain ⟨k, hk⟩ : ∃ k, P.types.size + Made.depth = k + 1 := ⟨P.types.size + Made.depth - 1, by omega⟩
          rw [hk]
          unfold method
          simp only [Sem.run_bind, hti, Result.andThen_ok, hm, hp, follow, Sem.run_pure, hmf]
          unfold receiverAt
          simp only [Sem.run_bind, hr, Result.andThen_ok]
          revert hd; cases d <;> intro hd <;> first | (cases hd; done) | rfl
        simp only [execOp, resolve, hc, Sem.run_bind, Sem.run_pure, Result.andThen_ok, invoke]
        have e0 : (#[Value.iface t y] ++ xs.map ce)[0]? = some (.iface t y) := by
          rw [Array.getElem?_append_left (by simp)]; rfl
        simp only [e0]
        unfold callMethod
        simp only [Sem.run_bind, run_program, Result.andThen_ok, hmeth]
        have e1 : (#[Value.iface t y] ++ xs.map ce).extract 1 (#[Value.iface t y] ++ xs.map ce).size = xs.map ce := by
          apply Array.ext'
          simp
          exact List.take_of_length_le (by simp)
        rw [e1]
        exact callFunc_run hf hb hn _ _
      · cases i with
        | zero => exact hv
        | succ i => simp [Array.getD]; exact .unk _
      · by_cases hi : i < xs.size
        · simp [Array.getD, hi]; exact hop _ (by simp [Op.operands, Call.operands])
        · simp [Array.getD, hi]; exact .unk _

end
end Go.Abs

/- Contracts made exact: what a call left behind and nobody names is dropped; the one new block that is named gets the next number. -/
namespace Go.Abs
open Go.RowKit

theorem flat_eq {ρ : Ren} : ∀ (d : Nat) (v c : Value), flat d v = true → VRel ρ v c → c = v := by
  intro d
  induction d with
  | zero =>
    intro v c h hv
    unfold flat at h
    split at h <;> first | contradiction | (cases hv; rfl) | (exfalso; simp at *; done)
  | succ d ih =>
    intro v c h hv
    unfold flat at h
    split at h
    all_goals first
      | contradiction
      | (cases hv; rfl; done)
      | skip
    · rename_i d1 xs hd
      cases hd
      cases hv with
      | @agg _ ys hs hh =>
        congr 1
        apply Array.ext
        · exact hs.symm
        · intro i h1 h2
          have h3 := hh i
          have e1 : xs.getD i (.tuple #[]) = xs[i] := by simp [Array.getD, h2]
          have e2 : ys.getD i (.tuple #[]) = ys[i] := by simp [Array.getD, h1]
          rw [e1, e2] at h3
          exact ih _ _ (by simpa using (Array.all_eq_true.1 h) i h2) h3
    · rename_i hd
      cases hd
      cases hv with
      | iface hx => rw [ih _ _ h hx]
    · rename_i d1 xs hd
      cases hd
      simp only [Bool.and_eq_true] at h
      cases hv with
      | unk => simp at h
      | @tuple _ ys hs hh =>
        congr 1
        apply Array.ext
        · exact hs.symm
        · intro i h1 h2
          have h3 := hh i
          have e1 : xs.getD i (.tuple #[]) = xs[i] := by simp [Array.getD, h2]
          have e2 : ys.getD i (.tuple #[]) = ys[i] := by simp [Array.getD, h1]
          rw [e1, e2] at h3
          exact ih _ _ (by simpa using (Array.all_eq_true.1 h.2) i h2) h3

theorem flat_any {ρ ρ' : Ren} {d : Nat} {v c : Value} (h : flat d v = true) (hv : VRel ρ v c) : VRel ρ' v c := by
  rw [flat_eq d v c h hv]; exact flat_rel ρ' d v h

theorem Sim.back {w0 : Base} {w w' : World} {ρ ρ' : Ren} {h : AH} (s : Sim w0 ρ h w) (s' : Sim w0 ρ' h w') (hl : ρ.le ρ') : Sim w0 ρ h w' where
  base := s'.base
  keep := s'.keep
  fin := s.fin
  info := fun b m hm => by
    obtain ⟨L, h1, _⟩ := s.info b m hm
    obtain ⟨L', k1, k2⟩ := s'.info b m hm
    rw [hl _ _ h1] at k1; cases k1
    exact ⟨L, h1, k2⟩
  cell := fun b i hb => by
    obtain ⟨L, v, h1, h2, h3⟩ := s.cell b i hb
    obtain ⟨L', v', k1, k2, k3⟩ := s'.cell b i hb
    rw [hl _ _ h1] at k1; cases k1
    exact ⟨L, v', h1, k2, h3.back hl v' k3⟩
  sep := fun b m L i hm hL hi b' L' i' hne hL' hor => s'.sep b m L i hm (hl _ _ hL) hi b' L' i' hne (hl _ _ hL') hor
  obj := fun b m o hb ho => by
    obtain ⟨L, c, h1, h2, h3, h4, h5⟩ := s.obj b m o hb ho
    obtain ⟨L', c', k1, k2, k3, k4, k5⟩ := s'.obj b m o hb ho
    rw [hl _ _ h1] at k1; cases k1
    exact ⟨L, c', h1, h2, h3, k4, h5.back hl k5⟩
  osep := fun b m o b' m' o' L L' hb ho hb' ho' hL hL' => s'.osep b m o b' m' o' L L' hb ho hb' ho' (hl _ _ hL) (hl _ _ hL')

theorem le_app_new {w0 : Base} {w : World} {ρ : Ren} {H : AH} {m n' : Nat} {d : Dl} {W : Nat → Prop} (s : Sim w0 ρ H w) (hW : ∀ b, ¬ W b) (hw : Within W m n' d) (hf : ∀ b, m ≤ b → ρ b = none) : H.le (H.app d) := by
  have key : ∀ b, ρ b ≠ none → ¬ d.touches b := by
    intro b hb ht
    rcases (hw b ht).1 with h1 | h1
    · exact hW b h1
    · exact hb (hf b h1)
  refine ⟨fun b mt hb => ?_, fun b i => ?_⟩
  · have h1 : ¬ d.touches b := key b (fun h => by have := (s.named b h).1; rw [hb] at this; cases this)
    have : d.info b = none := Classical.byContradiction fun h => h1 (.inl h)
    simp [AH.app, this, hb]
  · by_cases hc : H.cell b i = .tuple #[]
    · exact .inl hc
    · have h1 : ¬ d.touches b := key b (fun h => hc ((s.named b h).2 i))
      have : d.cell b i = none := Classical.byContradiction fun h => h1 (.inr ⟨i, h⟩)
      right; simp [AH.app, this]

theorem Ev.pure {P : Program} {W : Nat → Prop} {f : FuncId} {args : Array Value} {n : Nat} {h : AH} {r : Value} (hW : ∀ b, ¬ W b) (hr : flat 8 r = true)
    (hall : ∀ m, n ≤ m → ∃ n' h', Ev P W f args m h r n' h') : Ev P W f args n h r n h := by
  obtain ⟨_, _, hc, _⟩ := hall n (Nat.le_refl _)
  refine ⟨hc, .nil, .refl _, Nat.le_refl _, .nil _ _ _, fun w0 ρ w H cargs hl hf hs hra => ?_⟩
  obtain ⟨N, hN⟩ := hs.fin
  obtain ⟨n', h', _, d, hle, hn, hwi, run⟩ := hall (max n N) (by omega)
  refine CallsIn.mono (run w0 ρ w H cargs hl (fun b h1 _ => hN b (by omega)) hs hra) ?_
  rintro e w' ⟨ρ', c, rfl, hg, hv, hs'⟩
  have hle2 := le_app_new hs hW hwi (fun b hb => hN b (by omega))
  exact ⟨ρ, c, rfl, .refl _ _ _, flat_any hr hv, hs.back (hs'.anti hle2) hg.le⟩

end Go.Abs

/- Operations over the abstract heap: rows that are made, appended to, copied, converted. -/
namespace Go.Abs
open Go.RowKit

theorem World.cell?_alloc_fz (w : World) (c : Array Value) (e : TypeId) (fz : Nat × Nat) (a : Addr) : (w.alloc (.cells c e fz)).cell? a = (w.alloc (.cells c e)).cell? a := by
  simp only [World.alloc, World.cell?, Array.getElem?_push]
  split <;> rename_i h <;> split at h <;> first | (cases h; simp_all) | simp_all
theorem KeepsObjs.refz (w : World) (c : Array Value) (e : TypeId) (f g : Nat × Nat) : KeepsObjs (w.alloc (.cells c e f)) (w.alloc (.cells c e g)) := fun l o h hc => by
  have h1 : (w.heap.push (.cells c e f))[l]? = some o := h
  show (w.heap.push (.cells c e g))[l]? = some o
  rw [Array.getElem?_push] at h1 ⊢
  by_cases hl : l = w.heap.size
  · rw [if_pos hl] at h1; cases h1; exact absurd rfl (hc _ _ _)
  · rw [if_neg hl] at h1 ⊢; exact h1
theorem Sim.fz {w0 : Base} {w : World} {ρ : Ren} {h : AH} {c : Array Value} {e : TypeId} {fz : Nat × Nat} (s : Sim w0 ρ h (w.alloc (.cells c e))) (hw : w0.w.heap.size ≤ w.heap.size) (hb : Below w0.w.heap.size w0.w w) (hf : c.size ≤ fz.1) : Sim w0 ρ h (w.alloc (.cells c e fz)) := by
  refine s.move (hb.alloc hw _) (.refz w _ _ _ _) (fun b L i v _ h => by rw [World.cell?_alloc_fz]; exact h) fun b L i v _ hc hz => ?_
  by_cases hb : L.blk = w.heap.size
  · rw [hb] at hc ⊢
    intro c' t lo hi hh
    have hg : (w.heap.push (Obj.cells c e fz))[w.heap.size]? = some (.cells c e fz) := by simp
    have hh : (w.heap.push (Obj.cells c e fz))[w.heap.size]? = some (.cells c' t (lo, hi)) := hh
    rw [hg] at hh; cases hh; exact .inr hf
  · refine hz.of ?_
    show (w.heap.push _)[L.blk]? = (w.heap.push _)[L.blk]?
    rw [Array.getElem?_push, Array.getElem?_push, if_neg hb, if_neg hb]

inductive All2 {α : Type} (R : α → α → Prop) : List α → List α → Prop
  | nil : All2 R [] []
  | cons {a b l m} (h : R a b) (t : All2 R l m) : All2 R (a :: l) (b :: m)

theorem RelAll.set {ρ : Ren} {xs ys : Array Value} (h : RelAll ρ xs ys) (i : Nat) {a c : Value} (hv : VRel ρ a c) : RelAll ρ (xs.setIfInBounds i a) (ys.setIfInBounds i c) := by
  refine ⟨by simp [h.size], fun j => ?_⟩
  have hj := h.at_ j
  have hs := h.size
  simp only [Array.getD_eq_getD_getElem?, Array.getElem?_setIfInBounds] at *
  by_cases e : i = j
  · subst e
    by_cases hi : i < xs.size
    · rw [if_pos rfl, if_pos hi, if_pos rfl, if_pos (by omega)]; exact hv
    · rw [if_pos rfl, if_neg hi, if_pos rfl, if_neg (by omega)]; exact .unk _
  · rw [if_neg e, if_neg e]; exact hj

theorem fill_rel {ρ : Ren} (place : Nat → Option (Nat × Nat)) : ∀ (ps qs : List (Nat × Value)) (xs ys cs : Array Value), RelAll ρ xs ys →
    All2 (fun p q => p.1 = q.1 ∧ VRel ρ p.2 q.2 ∧ okV p.2 = true) ps qs → Instr.fill place xs ps = some cs → ∃ ds, Instr.fill place ys qs = some ds ∧ RelAll ρ cs ds
  | [], [], xs, ys, cs, hr, _, h => by simp only [Instr.fill, Option.some.injEq] at h ⊢; subst h; exact ⟨ys, rfl, hr⟩
  | p :: ps, q :: qs, xs, ys, cs, hr, ha, h => by
    cases ha with
    | cons h1 h2 =>
      obtain ⟨hi, hv, hok⟩ := h1
      obtain ⟨i, v⟩ := p
      obtain ⟨i', v'⟩ := q
      simp only at hi hv hok
      subst hi
      simp only [Instr.fill] at h ⊢
      cases hp : place i with
      | none => rw [hp] at h; cases h
      | some os =>
        obtain ⟨off, size⟩ := os
        rw [hp] at h
        simp only at h ⊢
        obtain ⟨c1, c2, c3⟩ := hv.cells hok
        have hsz := hr.size
        split at h
        · cases h
        · rename_i hn
          rw [← c1, ← hsz, if_neg hn]
          refine fill_rel place ps qs _ _ cs ?_ h2 h
          -- the cells laid one by one
          have key : ∀ (l m : List (Value × Nat)) (as_ bs : Array Value), l.length = m.length → (∀ k, k < l.length → (l.getD k (.tuple #[], 0)).2 = (m.getD k (.tuple #[], 0)).2 ∧ VRel ρ (l.getD k (.tuple #[], 0)).1 (m.getD k (.tuple #[], 0)).1) →
              RelAll ρ as_ bs → RelAll ρ (l.foldl (fun cs (x : Value × Nat) => cs.setIfInBounds (off + x.2) x.1) as_) (m.foldl (fun cs (x : Value × Nat) => cs.setIfInBounds (off + x.2) x.1) bs) := by
            intro l
            induction l with
            | nil => intro m as_ bs hl _ hr; cases m with | nil => exact hr | cons => simp at hl
            | cons x l ih =>
              intro m as_ bs hl hk hr
              cases m with
              | nil => simp at hl
              | cons y m =>
                simp only [List.foldl_cons]
                refine ih m _ _ (by simpa using hl) (fun k hk' => by simpa using hk (k + 1) (by simpa using hk')) ?_
                have h0 := hk 0 (by simp)
                simp only [List.getD_cons_zero] at h0
                rw [h0.1]
                exact hr.set _ h0.2
          have e1 : ∀ (as_ : Array Value) (u : Value), Array.foldl (fun cs (x : Value × Nat) => cs.setIfInBounds (off + x.2) x.1) as_ u.cells.zipIdx = u.cells.toList.zipIdx.foldl (fun cs (x : Value × Nat) => cs.setIfInBounds (off + x.2) x.1) as_ := by
            intro as_ u
            rw [← Array.foldl_toList]; simp
          have e2 := e1 xs v
          have e3 := e1 ys v'
          refine (show RelAll ρ (Array.foldl (fun cs (x : Value × Nat) => cs.setIfInBounds (off + x.2) x.1) xs v.cells.zipIdx) (Array.foldl (fun cs (x : Value × Nat) => cs.setIfInBounds (off + x.2) x.1) ys v'.cells.zipIdx) from ?_)
          rw [e2, e3]
          refine key _ _ _ _ (by simp [c1]) (fun k hk => ?_) hr
          have hk1 : k < v.cells.size := by simpa using hk
          have hk2 : k < v'.cells.size := by omega
          have := c2 k
          simp [List.getD, hk1, hk2] at this ⊢
          exact this

section
variable {P : Program} {T : Nat → Prop} {env : Env} {n : Nat} {g : AH}
variable {dst : Option Tmp} {ty : TypeId} {pos : String} {after : Array Edge} {gd : Option (Nat × Bool)}

theorem flatAll {ρ : Ren} {z : Array Value} (h : z.all (flat 8) = true) : RelAll ρ z z := ⟨rfl, fun i => by
  by_cases hi : i < z.size
  · have := flat_rel ρ 8 _ (Array.all_eq_true.1 h i hi)
    simpa [Array.getD, hi] using this
  · have : z.getD i (.tuple #[]) = .tuple #[] := by simp [Array.getD, hi]
    rw [this]; exact .unk _⟩

theorem op_build {t : TypeId} {parts : Array (Nat × Operand)} {fs : Array Field} {z by_ : Nat} {zv : Value} {places : Array (Nat × Nat)} {cs : Array Value} (hz : TI P t (.struct fs) z by_ zv) (hf : zv.cells.all (flat 8) = true)
    (hpl : ∀ w, (fs.mapM fun f => (do pure (f.offset, ← sizeOf f.type) : Sem (Nat × Nat))).run P w = .ok places w)
    (hok : parts.toList.all (fun p => okV (ev env p.2)) = true) (hc : Instr.fill (places[·]?) zv.cells (parts.toList.map fun p => (p.1, ev env p.2)) = some cs) :
    OpEv P T ⟨dst, .build t parts, ty, pos, after, gd⟩ env n g (.agg cs) n .nil :=
  .calc fun ρ w ce h => by
    have hall : ∀ (l : List (Nat × Operand)), l.all (fun p => okV (ev env p.2)) = true → (∀ p, p ∈ l → VRel ρ (ev env p.2) (ce p.2)) →
        All2 (fun p q : Nat × Value => p.1 = q.1 ∧ VRel ρ p.2 q.2 ∧ okV p.2 = true) (l.map fun p => (p.1, ev env p.2)) (l.map fun p => (p.1, ce p.2)) := by
      intro l
      induction l with
      | nil => intros; exact .nil
      | cons p l ih =>
        intro h1 h2
        simp only [List.all_cons, Bool.and_eq_true] at h1
        exact .cons ⟨rfl, h2 p (by simp), h1.1⟩ (ih h1.2 fun q hq => h2 q (by simp [hq]))
    obtain ⟨ds, h1, h2⟩ := fill_rel (ρ := ρ) (places[·]?) _ _ _ _ cs (flatAll hf) (hall parts.toList hok fun p hp => h p.2 (by
      simp only [Op.operands]; simp; exact ⟨p.1, by simpa using hp⟩)) hc
    refine ⟨.agg ds, ?_, .agg h2.size h2.at_⟩
    have e : (parts.map fun (p : Nat × Operand) => (p.1, ce p.2)).toList = parts.toList.map fun p => (p.1, ce p.2) := by simp
    have e' : (parts.map fun (x : Nat × Operand) => match x with | (i, x) => (i, ce x)) = parts.map fun (p : Nat × Operand) => (p.1, ce p.2) := rfl
    simp only [execOp, Instr.build, Sem.run_bind, hz.run_zeroValue, hz.run_underlying, Result.andThen_ok, hpl w, e', e, h1, Sem.run_pure]

theorem op_indexS {t : TypeId} {x y : Operand} {s : ByteArray} {k : IntKind} {i : Int} {b : UInt8} (hu : P.underlying t = some .string) (hx : ev env x = .string s) (hy : ev env y = .int k i) (h0 : 0 ≤ i) (hb : s[i.toNat]? = some b) :
    OpEv P T ⟨dst, .index t x y, ty, pos, after, gd⟩ env n g (.int .u8 b.toNat) n .nil :=
  .calc fun ρ w ce h => by
    have h1 := h x (by simp [Op.operands]); rw [hx] at h1
    have h2 := h y (by simp [Op.operands]); rw [hy] at h2
    have hr : (underlying t).run P w = .ok .string w := by simp [underlying, hu]
    exact ⟨_, by simp [execOp, Instr.index, hr, h1.string_inv, h2.int_inv, asIntOf, h0, hb], .int _ _⟩

def zrow (z : List Value) (m : Nat) : List Value := (List.range (m * z.length)).map fun i => z.getD (i % z.length) (.tuple #[])
theorem zrow_length (z : List Value) (m : Nat) : (zrow z m).length = m * z.length := by simp [zrow]
theorem zrow_one (v : Value) (m : Nat) : zrow [v] m = List.replicate m v := by
  apply List.ext_getElem
  · simp [zrow]
  · intro i h1 h2
    simp [zrow, Nat.mod_one]
theorem zrow_rel {ρ : Ren} {zv : Array Value} (hf : zv.all (flat 8) = true) (m M : Nat) (hm : m ≤ M) (i : Nat) (hi : i < (zrow zv.toList m).length) :
    VRel ρ ((zrow zv.toList m).getD i (.tuple #[])) (((Array.range (M * zv.size)).map (zv[· % zv.size]!)).getD i (.tuple #[])) := by
  rw [zrow_length] at hi
  have hlen : zv.toList.length = zv.size := by simp
  rw [hlen] at hi
  have hpos : 0 < zv.size := by
    rcases Nat.eq_zero_or_pos zv.size with h | h
    · rw [h] at hi; omega
    · exact h
  have hi2 : i < M * zv.size := Nat.lt_of_lt_of_le hi (Nat.mul_le_mul_right _ hm)
  have hmod : i % zv.size < zv.size := Nat.mod_lt _ hpos
  have e1 : (zrow zv.toList m).getD i (.tuple #[]) = zv[i % zv.size] := by
    simp [zrow, List.getD, hi, hmod]
  have e2 : ((Array.range (M * zv.size)).map (zv[· % zv.size]!)).getD i (.tuple #[]) = zv[i % zv.size] := by
    simp [Array.getD, hi2, hmod]
  rw [e1, e2]
  exact flat_rel ρ 8 _ (Array.all_eq_true.1 hf _ hmod)

theorem op_makeSlice {t e : TypeId} {x y : Operand} {m M : Nat} {d : TypeDesc} {z by_ : Nat} {zv : Value} (hu : P.underlying t = some (.slice e)) (hz : TI P e d z by_ zv) (hf : zv.cells.all (flat 8) = true) (hzz : zv.cells.size = z) (hz0 : z ≠ 0)
    (hx : ev env x = .int .i64 m) (hy : ev env y = .int .i64 M) (hm : m ≤ M) (hb : M * by_ ≤ 281474976710656) (hM : M ≤ 9223372036854775807) :
    OpEv P T ⟨dst, .makeSlice t x y, ty, pos, after, gd⟩ env n g (.slice (some ⟨n, 0, none⟩) m m) (n + 1) (.new n ⟨(zrow zv.cells.toList m).length, 0, true, z⟩ (zrow zv.cells.toList m)) :=
  op_new fun w0 ρ w H ce hl hs hop => by
    subst hzz
    have h1 := hop x (by simp [Op.operands]); rw [hx] at h1
    have h2 := hop y (by simp [Op.operands]); rw [hy] at h2
    have hr : (underlying t).run P w = .ok (.slice e) w := by simp [underlying, hu]
    obtain ⟨i, hi1, hi2, hi3, hi4⟩ := hz.run_typeInfo w
    have wm : IntKind.i64.wrap (m : Int) = m := by simp only [IntKind.wrap, IntKind.signed]; simp [IntKind.bits]; omega
    have wM : IntKind.i64.wrap (M : Int) = M := by simp only [IntKind.wrap, IntKind.signed]; simp [IntKind.bits]; omega
    have hzr := hz.run_zeroValue w
    let conc : Array Value := (Array.range (M * zv.cells.size)).map (zv.cells[· % zv.cells.size]!)
    have hcs : conc.size = M * zv.cells.size := by simp [conc]
    refine ⟨w, conc, e, .slice (some ⟨w.heap.size, 0, none⟩) m M, hs, ?_, fun i hi => zrow_rel (ρ := ρ) hf m M hm i hi, ?_, ?_⟩
    · rw [zrow_length, hcs]; simp only [Array.length_toList]; exact Nat.mul_le_mul_right _ hm
    · have c1 : ¬ ((by_ : Int) * (M : Int) > 2 ^ 48) := by
        have e : (by_ : Int) * (M : Int) = ((M * by_ : Nat) : Int) := by push_cast; exact Int.mul_comm _ _
        rw [e]
        generalize M * by_ = p at hb
        omega
      have c2 : ¬ ((m : Int) < 0) := by omega
      have c3 : ¬ ((M : Int) < 0) := by omega
      have c4 : ¬ ((m : Int) > M) := by omega
      simp only [execOp, Instr.makeSlice, Sem.run_bind, hr, Result.andThen_ok, h1.int_inv, h2.int_inv, asInt, asIntOf, Sem.run_pure, hi1, wm, wM]
      simp only [hi3, c1, c2, c3, c4, decide_false, Bool.or_false, Bool.false_eq_true, if_false, Sem.run_bind, run_askRoom, Result.andThen_ok, hz.run_sizeOf, Int.toNat_natCast]
      by_cases h0 : M * zv.cells.size = 0
      · have e0 : conc = #[] := by simp [conc, h0]
        rw [e0]
        simp only [h0, if_true, Sem.run_bind, Sem.run_pure, Result.andThen_ok, newRow, run_newObj, Array.range_zero', Array.map_empty]
        rfl
      · simp only [if_neg h0, Sem.run_bind, Sem.run_pure, Result.andThen_ok, newRow, run_newObj, hzr]
        rfl
    · refine .slice (L := ⟨w.heap.size, 0, conc.size, zv.cells.size⟩) M (Ren.set_self _ _ _) hm fun _ => ?_
      simp only [hcs]; omega

end
end Go.Abs

/- append and copy over the abstract heap. -/
namespace Go.Abs
open Go.RowKit

section
variable {P : Program} {T : Nat → Prop} {env : Env} {n : Nat} {g : AH}
variable {dst : Option Tmp} {ty : TypeId} {pos : String} {after : Array Edge} {gd : Option (Nat × Bool)}

inductive Src (g : AH) (z : Nat) : Value → Nat → List Value → Prop
  | slice {b o m k : Nat} (hk : k ≤ m) (hkn : known (rd g b o (k * z)) = true) : Src g z (.slice (some ⟨b, o, none⟩) m m) k (rd g b o (k * z))
  | nil : Src g z (.slice none 0 0) 0 []
  | str {s : ByteArray} {k : Nat} (hz : z = 1) (hk : k ≤ s.size) : Src g z (.string s) k ((s.data.toList.take k).map fun b => .int .u8 b.toNat)

theorem Src.length {g : AH} {z : Nat} {v : Value} {k : Nat} {xs : List Value} (h : Src g z v k xs) : xs.length = k * z := by
  cases h with
  | slice hk hkn => exact rd_length _ _ _ _
  | nil => simp
  | @str s k hz hk =>
    subst hz
    have e : s.data.toList.length = s.size := rfl
    rw [List.length_map, List.length_take, e]; omega
theorem Src.known {g : AH} {z : Nat} {v : Value} {k : Nat} {xs : List Value} (h : Src g z v k xs) : known xs = true := by
  cases h with
  | slice hk hkn => exact hkn
  | nil => rfl
  | str hz hk =>
    rename_i s
    generalize s.data.toList.take k = l
    induction l with
    | nil => rfl
    | cons a l ih => simpa [Abs.known] using ih

theorem Src.run {H : AH} {w0 : Base} {w : World} {ρ : Ren} {z : Nat} {v c : Value} {k : Nat} {xs : List Value} (h : Src g z v k xs) (hl : g.le H) (hs : Sim w0 ρ H w) (hv : VRel ρ v c) (hz : z ≠ 0) :
    ∃ cs : List Value, cs.length = k * z ∧ (∀ i, i < k * z → VRel ρ (xs.getD i (.tuple #[])) (cs.getD i (.tuple #[]))) ∧ (Builtin.firstCells z k c).run P w = .ok cs.toArray w := by
  cases h with
  | @slice b o m k hk hkn =>
    cases hv with
    | @slice _ _ _ L c' hL hn hc =>
      obtain ⟨cs, k1, k2, k3⟩ := hs.rd (P := P) hl hL hkn
      exact ⟨cs, k1, fun i hi => (k2 i hi).2, by simpa [Builtin.firstCells] using k3⟩
    | slice0 a hL =>
      have : k = 0 := by omega
      subst this
      exact ⟨[], by simp, fun i hi => by omega, by simp [Builtin.firstCells, loadCells, loadCellsFrom]⟩
  | nil => cases hv; exact ⟨[], by simp, fun i hi => by omega, by simp [Builtin.firstCells]⟩
  | @str s k hz1 hk =>
    have := hv.string_inv; subst this
    subst hz1
    refine ⟨(s.data.toList.take k).map fun b => .int .u8 b.toNat, by
      have e : s.data.toList.length = s.size := rfl
      rw [List.length_map, List.length_take, e]; omega, fun i hi => ?_, ?_⟩
    · generalize s.data.toList.take k = l
      by_cases hi : i < l.length
      · simp [List.getD, hi]; exact .int _ _
      · simp [List.getD, List.getElem?_eq_none (Nat.le_of_not_lt hi)]; exact .unk _
    · simp only [Builtin.firstCells, Sem.run_pure]
      congr 1
      apply Array.ext'
      rw [ByteArray.data_extract]; simp
def notIntD : TypeDesc → Bool
  | .int _ => false
  | _ => true

def full (v : Value) (k : Nat) : Prop := match v with | .slice _ m _ => m = k | .string s => s.size = k | _ => True

theorem Src.len {ρ : Ren} {z : Nat} {v c : Value} {k : Nat} {xs : List Value} (h : Src g z v k xs) (hv : VRel ρ v c) (w : World) (hfull : full v k) : (Builtin.lenOf c).run P w = .ok k w := by
  cases h with
  | slice hk hkn => simp only [full] at hfull; subst hfull; cases hv <;> simp [Builtin.lenOf]
  | nil => cases hv; simp [Builtin.lenOf]
  | str hz hk => simp only [full] at hfull; have := hv.string_inv; subst this; simp [Builtin.lenOf, hfull]

theorem World.drew_drawn (w : World) : ({ w with drawn := w.drawn + 1 } : World) = w.drew := rfl

theorem op_append0 {t t2 e : TypeId} {x y : Operand} {d d2 : TypeDesc} {z by_ : Nat} {zv : Value} {a : Option Addr} {m c : Nat} (hu : P.underlying t = some (.slice e)) (hz : TI P e d z by_ zv) (hz0 : z ≠ 0)
    (ht2 : P.underlying t2 = some d2) (hd2 : notIntD d2 = true) (hx : ev env x = .slice a m c) (hy : Src g z (ev env y) 0 []) (hfl : full (ev env y) 0) :
    OpEv P T ⟨dst, .call { callee := .builtin .append, args := #[x, y], argTypes := #[t, t2] }, ty, pos, after, gd⟩ env n g (ev env x) n .nil :=
  .look fun w0 ρ w H ce hl hs hop => by
    have h1 := hop x (by simp [Op.operands, Call.operands])
    have h2 := hop y (by simp [Op.operands, Call.operands])
    have hr : (underlying t).run P w = .ok (.slice e) w := by simp [underlying, hu]
    have hr2 : (underlying t2).run P w = .ok d2 w := by simp [underlying, ht2]
    have hnz : ((match (generalizing := false) d2 with | .int _ => true | _ => false) : Bool) = false := by cases d2 <;> simp_all [notIntD]
    obtain ⟨cs, k1, k2, k3⟩ := hy.run (P := P) hl hs h2 hz0
    have hcs : cs = [] := List.eq_nil_of_length_eq_zero (by simpa using k1)
    subst hcs
    have hlen := hy.len (P := P) h2 w hfl
    refine ⟨ce x, ?_, h1⟩
    rw [hx] at h1
    have key : ∀ (A : Option Addr) (C : Nat), m ≤ C → ce x = .slice A m C → (Builtin.append_ #[t, t2] ty #[ce x, ce y]).run P w = .ok (ce x) w := by
      intro A C hC hcx
      rw [hcx]
      have e0 : (#[t, t2] : Array TypeId)[0]? = some t := rfl
      have e1 : (#[t, t2] : Array TypeId)[1]? = some t2 := rfl
      have e2 : (#[Value.slice A m C, ce y] : Array Value)[0]? = some (.slice A m C) := rfl
      have e3 : (#[Value.slice A m C, ce y] : Array Value)[1]? = some (ce y) := rfl
      simp only [Builtin.append_, e0, e1, e2, e3]
      simp only [Sem.run_bind, hr, hr2, Result.andThen_ok, hz.run_sizeOf, Sem.run_pure, Sem.run_map]
      rw [if_neg (by intro h; cases d2 <;> simp_all [notIntD])]
      simp only [Sem.run_bind, hlen, Result.andThen_ok, Nat.add_zero, if_pos hC]
      rw [if_pos (by cases d2 <;> simp_all [notIntD])]
      simp only [Sem.run_bind, k3, Result.andThen_ok]
      cases A with
      | none => rfl
      | some A => simp [storeCells]
    have : (Builtin.append_ #[t, t2] ty #[ce x, ce y]).run P w = .ok (ce x) w := by
      generalize hcx : ce x = q at h1
      rw [← hcx]
      cases h1 with
      | slice C h hn hc => exact key _ C hn hcx
      | slice0 A h => exact key _ 0 (Nat.le_refl _) hcx
      | nilSlice => exact key _ 0 (Nat.le_refl _) hcx
    simp [execOp, resolve, invoke, builtin, this]

theorem append_fit {t t2 e : TypeId} {d d2 : TypeDesc} {z by_ : Nat} {zv : Value} (hu : P.underlying t = some (.slice e)) (hz : TI P e d z by_ zv)
    (ht2 : P.underlying t2 = some d2) (hd2 : notIntD d2 = true) {a : Addr} {m C k : Nat} {y : Value} {cs : List Value} {w w' : World} (hC : m + k ≤ C)
    (hlen : (Builtin.lenOf y).run P w = .ok k w) (hcs : (Builtin.firstCells z k y).run P w = .ok cs.toArray w) (hst : (storeCells (a.add (m * z)) cs).run P w = .ok () w') :
    (Builtin.append_ #[t, t2] ty #[.slice (some a) m C, y]).run P w = .ok (.slice (some a) (m + k) C) w' := by
  have hr : (underlying t).run P w = .ok (.slice e) w := by simp [underlying, hu]
  have hr2 : (underlying t2).run P w = .ok d2 w := by simp [underlying, ht2]
  have e0 : (#[t, t2] : Array TypeId)[0]? = some t := rfl
  have e1 : (#[t, t2] : Array TypeId)[1]? = some t2 := rfl
  have e2 : (#[Value.slice (some a) m C, y] : Array Value)[0]? = some (.slice (some a) m C) := rfl
  have e3 : (#[Value.slice (some a) m C, y] : Array Value)[1]? = some y := rfl
  simp only [Builtin.append_, e0, e1, e2, e3]
  simp only [Sem.run_bind, hr, hr2, Result.andThen_ok, hz.run_sizeOf, Sem.run_pure, Sem.run_map]
  rw [if_neg (by intro h; cases d2 <;> simp_all [notIntD])]
  simp only [Sem.run_bind, hlen, Result.andThen_ok, if_pos hC]
  rw [if_pos (by cases d2 <;> simp_all [notIntD])]
  simp only [Sem.run_bind, hcs, Result.andThen_ok, hst, Sem.run_pure]

theorem append_grow {t t2 e : TypeId} {d d2 : TypeDesc} {z by_ : Nat} {zv : Value} (hu : P.underlying t = some (.slice e)) (hz : TI P e d z by_ zv)
    (ht2 : P.underlying t2 = some d2) (hd2 : notIntD d2 = true) {A : Option Addr} {m C k : Nat} {y : Value} {olds cs : List Value} {w : World} (hC : C < m + k)
    (hb0 : by_ ≠ 0) (hbig : (m + k) * by_ ≤ 140737488355328)
    (hlen : (Builtin.lenOf y).run P w = .ok k w) (hcs : ∀ w1, w1 = w.drew → (Builtin.firstCells z k y).run P w1 = .ok cs.toArray w1) (hold : ∀ w1, w1 = w.drew → (Builtin.firstCells z m (.slice A m C)).run P w1 = .ok olds.toArray w1) :
    ∃ (N : Nat), m + k ≤ N ∧ (Builtin.append_ #[t, t2] ty #[.slice A m C, y]).run P w = .ok (.slice (some ⟨w.heap.size, 0, none⟩) (m + k) N) (w.drew.alloc (.cells (olds.toArray ++ cs.toArray ++ Builtin.zeroCells zv.cells (N - (m + k))) e)) := by
  have hr : ∀ w1, (underlying t).run P w1 = .ok (.slice e) w1 := fun w1 => by simp [underlying, hu]
  have hr2 : ∀ w1, (underlying t2).run P w1 = .ok d2 w1 := fun w1 => by simp [underlying, ht2]
  have e0 : (#[t, t2] : Array TypeId)[0]? = some t := rfl
  have e1 : (#[t, t2] : Array TypeId)[1]? = some t2 := rfl
  have e2 : (#[Value.slice A m C, y] : Array Value)[0]? = some (.slice A m C) := rfl
  have e3 : (#[Value.slice A m C, y] : Array Value)[1]? = some y := rfl
  obtain ⟨i, hi1, hi2⟩ := hz.info
  have hti : ∀ w1, (typeInfo e).run P w1 = .ok i w1 := fun w1 => by simp [typeInfo, hi1]
  have hib : i.bytes = by_ := hi2.2.1
  refine ⟨m + k + w.tape w.drawn (.appendCap (m + k) C e) % (2 ^ 63 - (m + k)), by omega, ?_⟩
  have hfits := growslice_fits hC hbig
  simp only [Builtin.append_, e0, e1, e2, e3]
  simp only [Sem.run_bind, hr, hr2, Result.andThen_ok, hz.run_sizeOf, Sem.run_pure, Sem.run_map]
  rw [if_neg (by intro h; cases d2 <;> simp_all [notIntD])]
  simp only [Sem.run_bind, hlen, Result.andThen_ok]
  rw [if_neg (by omega)]
  simp only [Sem.run_bind, hti, Result.andThen_ok, hib]
  rw [if_neg (by
    rintro ⟨_, h1 | h1⟩
    · cases d2 <;> simp_all [notIntD]
    · exact hb0 h1)]
  simp only [Sem.run_bind, hti, Result.andThen_ok, hib]
  rw [if_neg (show ¬ (Builtin.nextslicecap (m + k) C * by_ > 2 ^ 48) by
    have : (2 : Nat) ^ 48 = 281474976710656 := by decide
    omega)]
  simp only [Sem.run_bind, run_choose, Question.forced, Bool.false_eq_true, if_false, Result.andThen_ok, Question.cut, hti, hib, run_askRoom]
  rw [World.drew_drawn, hold _ rfl]
  simp only [Result.andThen_ok]
  rw [if_pos (by cases d2 <;> simp_all [notIntD]), hcs _ rfl]
  simp only [Result.andThen_ok, hz.run_zeroValue, newRow, Sem.run_bind, run_newObj, Sem.run_pure]
  rfl

end
end Go.Abs

/- append over the abstract heap: the operation. -/
namespace Go.Abs
open Go.RowKit

theorem Sim.drew {w0 : Base} {w : World} {ρ : Ren} {h : AH} (s : Sim w0 ρ h w) : Sim w0 ρ h w.drew := s.drawn _

section
variable {P : Program} {T : Nat → Prop} {env : Env} {n : Nat} {g : AH}
variable {dst : Option Tmp} {ty : TypeId} {pos : String} {after : Array Edge} {gd : Option (Nat × Bool)}

theorem op_appendNil {t t2 e : TypeId} {x y : Operand} {d d2 : TypeDesc} {z by_ k : Nat} {zv : Value} {xs : List Value} (hu : P.underlying t = some (.slice e)) (hz : TI P e d z by_ zv) (hz0 : z ≠ 0) (hzz : zv.cells.size = z)
    (hb0 : by_ ≠ 0) (ht2 : P.underlying t2 = some d2) (hd2 : notIntD d2 = true) (hx : ev env x = .slice none 0 0) (hy : Src g z (ev env y) k xs) (hfl : full (ev env y) k)
    (hk0 : k ≠ 0) (hbig : k * by_ ≤ 140737488355328) :
    OpEv P T ⟨dst, .call { callee := .builtin .append, args := #[x, y], argTypes := #[t, t2] }, ty, pos, after, gd⟩ env n g (.slice (some ⟨n, 0, none⟩) k k) (n + 1) (.new n ⟨xs.length, 0, true, z⟩ xs) :=
  op_new fun w0 ρ w H ce hl hs hop => by
    have h1 := hop x (by simp [Op.operands, Call.operands])
    have h2 := hop y (by simp [Op.operands, Call.operands])
    rw [hx] at h1
    have hcx : ce x = .slice none 0 0 := by generalize ce x = q at h1; cases h1; rfl
    obtain ⟨cs, k1, k2, k3⟩ := hy.run (P := P) hl hs.drew h2 hz0
    have hlen := hy.len (P := P) h2 w hfl
    obtain ⟨N, hN, hrun⟩ := append_grow (P := P) (ty := ty) hu hz ht2 hd2 (A := none) (m := 0) (C := 0) (k := k) (y := ce y) (olds := []) (cs := cs) (w := w) (by omega) hb0 (by simpa using hbig) hlen
      (fun w1 e => by subst e; exact k3) (fun w1 e => by simp [Builtin.firstCells])
    have hxl := hy.length
    refine ⟨w.drew, #[] ++ cs.toArray ++ Builtin.zeroCells zv.cells (N - (0 + k)), e, .slice (some ⟨w.heap.size, 0, none⟩) (0 + k) N, hs.drew, ?_, fun i hi => ?_, ?_, ?_⟩
    · simp [k1, hxl]
    · have hi' : i < k * z := by omega
      have := k2 i hi'
      have e : (#[] ++ cs.toArray ++ Builtin.zeroCells zv.cells (N - (0 + k))).getD i (.tuple #[]) = cs.getD i (.tuple #[]) := by
        simp [Array.getD_eq_getD_getElem?, List.getD, Array.getElem?_append, k1, hi']
      rw [e]; exact this
    · simp [execOp, resolve, invoke, builtin, hcx, hrun]
    · rw [Nat.zero_add]
      refine .slice (L := ⟨w.drew.heap.size, 0, _, z⟩) N (Ren.set_self _ _ _) (by omega) fun _ => ?_
      have hsz : (#[] ++ cs.toArray ++ Builtin.zeroCells zv.cells (N - k)).size = k * z + (N - k) * z := by simp [Builtin.zeroCells, k1, hzz]
      show 0 + N * z ≤ (#[] ++ cs.toArray ++ Builtin.zeroCells zv.cells (N - k)).size
      have : k * z + (N - k) * z = N * z := by rw [← Nat.add_mul]; congr 1; omega
      omega

theorem within_takeover {T : Nat → Prop} {b n : Nat} {keep : Bool} {sz lk ez : Nat} {cs : List Value} (hT : T b ∨ n ≤ b) (hb : b < n) : Within T n (n + 1) (.takeover b n keep sz lk ez cs) := by
  intro x hx
  have : x = n ∨ x = b := by
    rcases hx with h | ⟨i, h⟩
    · simp only [Dl.takeover] at h
      split at h
      · left; assumption
      · split at h
        · right; assumption
        · exact absurd rfl h
    · simp only [Dl.takeover] at h
      split at h
      · left; assumption
      · split at h
        · right; assumption
        · exact absurd rfl h
  rcases this with rfl | rfl
  · exact ⟨.inr (Nat.le_refl _), Nat.lt_succ_self _⟩
  · exact ⟨hT, by omega⟩

theorem op_append {t t2 e : TypeId} {x y : Operand} {d d2 : TypeDesc} {z by_ k b m : Nat} {zv : Value} {xs : List Value} {mm : Meta} (keep : Bool) (hu : P.underlying t = some (.slice e)) (hz : TI P e d z by_ zv) (hz0 : z ≠ 0) (hzz : zv.cells.size = z)
    (hb0 : by_ ≠ 0) (ht2 : P.underlying t2 = some d2) (hd2 : notIntD d2 = true) (hx : ev env x = .slice (some ⟨b, 0, none⟩) m m) (hy : Src g z (ev env y) k xs) (hfl : full (ev env y) k)
    (hi : g.info b = some mm) (hms : mm.size = m * z) (hmt : mm.tail = true) (hmz : mm.sz = z) (hkn : known (rd g b 0 (m * z)) = true) (hT : T b ∨ n ≤ b) (hbn : b < n)
    (hk0 : k ≠ 0) (hbig : (m + k) * by_ ≤ 140737488355328) :
    OpEv P T ⟨dst, .call { callee := .builtin .append, args := #[x, y], argTypes := #[t, t2] }, ty, pos, after, gd⟩ env n g (.slice (some ⟨n, 0, none⟩) (m + k) (m + k)) (n + 1)
      (.takeover b n keep mm.size (if keep then mm.size else mm.lock) z (rd g b 0 (m * z) ++ xs)) where
  le := Nat.le_succ _
  within := within_takeover hT hbn
  run := fun rq w0 ρ w H a next Q hl hf hs hop K => by
    have hn := hf n (Nat.le_refl _) (Nat.lt_succ_self _)
    have h1 := hop x (by simp [Op.operands, Call.operands])
    have h2 := hop y (by simp [Op.operands, Call.operands])
    rw [hx] at h1
    have hI := hl.info b mm hi
    have hxl := hy.length
    have hcl : (rd g b 0 (m * z) ++ xs).length = (m + k) * z := by rw [List.length_append, rd_length, hxl, Nat.add_mul]
    have hlen := hy.len (P := P) h2 w hfl
    obtain ⟨L, hL, hLz, hLe, hlk, hown⟩ := hs.info b mm hI
    -- what grows
    have grow : ∀ (A : Option Addr) (C : Nat), C < m + k → a.eval x = .slice A m C → (∃ olds : List Value, olds.length = m * z ∧ (∀ i, i < m * z → VRel ρ ((rd g b 0 (m * z)).getD i (.tuple #[])) (olds.getD i (.tuple #[]))) ∧
        (Builtin.firstCells z m (.slice A m C)).run P w.drew = .ok olds.toArray w.drew) → (Oper.wpIn (FW rq) 0 P ⟨dst, .call { callee := .builtin .append, args := #[x, y], argTypes := #[t, t2] }, ty, pos, after, gd⟩ a w next Q) := by
      intro A C hC hcx ⟨olds, o1, o2, o3⟩
      obtain ⟨cs, k1, k2, k3⟩ := hy.run (P := P) hl hs.drew h2 hz0
      obtain ⟨N, hN, hrun⟩ := append_grow (P := P) (ty := ty) hu hz ht2 hd2 (A := A) (m := m) (C := C) (k := k) (y := a.eval y) (olds := olds) (cs := cs) (w := w) hC hb0 hbig hlen
        (fun w1 e => by subst e; exact k3) (fun w1 e => by subst e; exact o3)
      have hrel : ∀ i, i < (rd g b 0 (m * z) ++ xs).length → VRel ρ ((rd g b 0 (m * z) ++ xs).getD i (.tuple #[])) ((olds.toArray ++ cs.toArray ++ Builtin.zeroCells zv.cells (N - (m + k))).getD i (.tuple #[])) := by
        intro i hi'
        rw [hcl] at hi'
        have e2 : (olds.toArray ++ cs.toArray ++ Builtin.zeroCells zv.cells (N - (m + k))).getD i (.tuple #[]) = (olds ++ cs).getD i (.tuple #[]) := by
          have : i < (olds ++ cs).length := by rw [List.length_append, o1, k1, ← Nat.add_mul]; exact hi'
          have h3 : i < (olds.toArray ++ cs.toArray).size := by simpa using this
          rw [Array.getD_eq_getD_getElem?, Array.getElem?_append_left h3]
          simp [List.getD]
        rw [e2]
        by_cases hlt : i < m * z
        · have := o2 i hlt
          rw [List.getD, List.getD, List.getElem?_append_left (by rw [rd_length]; exact hlt), List.getElem?_append_left (by rw [o1]; exact hlt)]
          exact this
        · have hj : i - m * z < k * z := by rw [Nat.add_mul] at hi'; omega
          have := k2 (i - m * z) hj
          rw [List.getD, List.getD, List.getElem?_append_right (by rw [rd_length]; omega), List.getElem?_append_right (by rw [o1]; omega), rd_length, o1]
          exact this
      have hcsz : (olds.toArray ++ cs.toArray ++ Builtin.zeroCells zv.cells (N - (m + k))).size = N * z := by
        simp only [Array.size_append, List.size_toArray, o1, k1, Builtin.zeroCells, Array.size_map, Array.size_range, hzz]
        rw [← Nat.add_mul, ← Nat.add_mul]; congr 1; omega
      have hs1 := hs.drew.new hn (rd g b 0 (m * z) ++ xs) _ e z (by rw [hcl, hcsz]; exact Nat.mul_le_mul_right _ hN) hrel
      -- the old block gives up
      have hs2 : Sim w0 (ρ.set n ⟨w.heap.size, 0, (olds.toArray ++ cs.toArray ++ Builtin.zeroCells zv.cells (N - (m + k))).size, z⟩)
          (H.app (.takeover b n keep mm.size (if keep then mm.size else mm.lock) z (rd g b 0 (m * z) ++ xs))) (w.drew.alloc (.cells (olds.toArray ++ cs.toArray ++ Builtin.zeroCells zv.cells (N - (m + k))) e)) := by
        have hbn' : b ≠ n := by omega
        refine hs1.shrink ?_ ?_ ?_
        · intro q mq hq
          by_cases e1 : q = n
          · subst e1
            simp only [AH.app, Dl.takeover, Dl.new, if_true, Option.getD_some, Option.some.injEq] at hq ⊢
            subst hq
            refine ⟨_, rfl, rfl, Nat.le_refl _, ?_, fun K i _ ho => ⟨Nat.zero_le _, by simpa using ho.2⟩⟩
            simp only [hcl]
            have : m * z ≤ (m + k) * z := Nat.mul_le_mul_right _ (by omega)
            cases keep <;> simp <;> omega
          · by_cases e2 : q = b
            · subst e2
              simp only [AH.app, Dl.takeover, Dl.new, if_neg e1, if_true, Option.getD_some, Option.getD_none] at hq ⊢
              cases keep
              · simp at hq
              · simp at hq; subst hq
                exact ⟨mm, hI, hmz.symm, Nat.le_refl _, Nat.le_refl _, fun K i _ ho => by
                  obtain ⟨p1, p2⟩ := ho
                  simp only [Tail.isExt_of, Bool.false_eq_true, if_false] at p1 p2; omega⟩
            · simp only [AH.app, Dl.takeover, Dl.new, if_neg e1, if_neg e2, Option.getD_none] at hq ⊢
              have hqs := hs.info q mq hq
              obtain ⟨Lq, _, _, _, q4, _⟩ := hqs
              exact ⟨mq, hq, rfl, Nat.le_refl _, q4, fun K i _ ho => ho⟩
        · intro q mq o hq ho
          by_cases e1 : q = n
          · subst e1
            simp only [AH.app, Dl.takeover, Dl.new, if_true, Option.getD_some, Option.some.injEq] at hq
            subst hq; cases ho
          · by_cases e2 : q = b
            · subst e2
              simp only [AH.app, Dl.takeover, Dl.new, if_neg e1, if_true, Option.getD_some, Option.getD_none] at hq
              cases keep
              · simp at hq
              · simp at hq; subst hq; cases ho
            · simp only [AH.app, Dl.takeover, Dl.new, if_neg e1, if_neg e2, Option.getD_none] at hq ⊢
              exact hq
        · intro q i
          by_cases e1 : q = n
          · subst e1; right; simp [AH.app, Dl.takeover, Dl.new]
          · by_cases e2 : q = b
            · subst e2
              by_cases e3 : (keep && decide (i < mm.size)) = true
              · right; simp only [AH.app, Dl.takeover, Dl.new, if_neg e1, if_true]; rw [if_pos e3]
              · left; simp only [AH.app, Dl.takeover, Dl.new, if_neg e1, if_true]; rw [if_neg e3]; rfl
            · right; simp [AH.app, Dl.takeover, Dl.new, e1, e2]
      have hexec : (execOp a.eval ⟨dst, .call { callee := .builtin .append, args := #[x, y], argTypes := #[t, t2] }, ty, pos, after, gd⟩).run P w =
          .ok (.value (.slice (some ⟨w.heap.size, 0, none⟩) (m + k) N)) (w.drew.alloc (.cells (olds.toArray ++ cs.toArray ++ Builtin.zeroCells zv.cells (N - (m + k))) e)) := by
        simp [execOp, resolve, invoke, builtin, hcx, hrun]
      refine wpA_value hexec ?_
      refine K _ _ _ (.one hn _) (.slice N (Ren.set_self _ _ _) hN fun _ => ?_) hs2
      simp only [hcsz]; omega
    generalize hcx : a.eval x = q at h1
    cases h1 with
    | @slice _ _ _ L' C hL' hmC hcc =>
      rw [hL] at hL'; cases hL'
      by_cases hfit : m + k ≤ C
      · -- it fits: the slack is taken
        obtain ⟨cs, k1, k2, k3⟩ := hy.run (P := P) hl hs h2 hz0
        have hCe : 0 + C * z ≤ L.ext := by have := hcc (by omega); rw [hLz, hmz] at this; exact this
        have hfz : (m + k) * z ≤ C * z := Nat.mul_le_mul_right _ hfit
        obtain ⟨e1, e2⟩ := hs.storeCells (P := P) (o := m * z) hI hL xs cs (by omega) (fun j hj => ⟨by omega, by rw [hmt, if_pos (Tail.isExt_of _)]; rw [Nat.add_mul] at hfz; omega⟩)
          (fun j hj => k2 j (by omega)) hy.known
        have hrun := append_fit (P := P) (ty := ty) hu hz ht2 hd2 (a := ⟨L.blk, L.off + 0, none⟩) hfit hlen k3 (w' := w.setCells L.blk (L.off + m * z) cs) (by rw [addr_add, Nat.add_zero]; exact e1)
        have hexec : (execOp a.eval ⟨dst, .call { callee := .builtin .append, args := #[x, y], argTypes := #[t, t2] }, ty, pos, after, gd⟩).run P w =
            .ok (.value (.slice (some ⟨L.blk, L.off + 0, none⟩) (m + k) C)) (w.setCells L.blk (L.off + m * z) cs) := by
          simp only [Nat.add_zero] at hrun
          simp [execOp, resolve, invoke, builtin, hcx, hrun]
        have hs2 := e2.takeover (b := b) (n := n) (m := mm) (L := L) (by rw [sets_info]; exact hI) hL hmt hn keep (rd g b 0 (m * z) ++ xs) (if keep then mm.size else mm.lock) rfl (by rw [hcl, hms]; exact Nat.mul_le_mul_right _ (by omega)) (by rw [hcl]; omega)
          (fun i hi' => by
            rw [hcl] at hi'
            by_cases hlt : i < m * z
            · have e3 : (rd g b 0 (m * z) ++ xs).getD i (.tuple #[]) = g.cell b i := by
                rw [List.getD, List.getElem?_append_left (by rw [rd_length]; exact hlt)]
                have := rd_getD g b (m * z) 0 i hlt
                rw [Nat.zero_add] at this; exact this
              rw [e3]
              have e4 : (H.app (.sets b (m * z) xs)).cell b i = H.cell b i := by
                simp only [AH.app, Dl.sets]; rw [if_neg (by omega)]; rfl
              rw [e4]
              rcases hl.cell b i with h5 | h5
              · exact .inr h5
              · exact .inl h5
            · left
              have e3 : (rd g b 0 (m * z) ++ xs).getD i (.tuple #[]) = xs.getD (i - m * z) (.tuple #[]) := by
                rw [List.getD, List.getElem?_append_right (by rw [rd_length]; omega), rd_length]; rfl
              rw [e3]
              simp only [AH.app, Dl.sets]
              rw [if_pos (by refine ⟨by trivial, by omega, ?_⟩; rw [hxl]; rw [Nat.add_mul] at hi'; omega)]; rfl)
        rw [hmz, ← AH.app_comp] at hs2
        have hd : (Dl.sets b (m * z) xs).comp (.takeover b n keep mm.size (if keep then mm.size else mm.lock) z (rd g b 0 (m * z) ++ xs)) =
            .takeover b n keep mm.size (if keep then mm.size else mm.lock) z (rd g b 0 (m * z) ++ xs) := by
          simp only [Dl.comp, Dl.takeover, Dl.sets, Dl.mk.injEq]
          constructor
          · funext q; simp
          · funext q i
            by_cases e1 : q = n
            · simp [e1]
            · by_cases e2 : q = b
              · subst e2
                by_cases e3 : (keep && decide (i < mm.size)) = true
                · have : ¬ (m * z ≤ i ∧ i < m * z + xs.length) := by simp at e3; omega
                  simp only [if_neg e1, if_true, true_and]
                  rw [if_pos e3, if_neg this]; rfl
                · simp only [if_neg e1, if_true]
                  rw [if_neg e3]; rfl
              · simp [e1, e2]
        rw [hd] at hs2
        refine wpA_value hexec ?_
        refine K _ _ _ (.one hn L) ?_ hs2
        exact .slice (L := L) C (Ren.set_self _ _ _) hfit (fun _ => by rw [hLz, hmz]; exact hCe)
      · exact grow _ C (by omega) hcx (by
          obtain ⟨cs, k1, k2, k3⟩ := hs.drew.rd (P := P) (o := 0) hl hL hkn
          exact ⟨cs, k1, fun i hi' => (k2 i hi').2, by simpa [Builtin.firstCells] using k3⟩)
    | slice0 A hL' =>
      exact grow _ 0 (by omega) hcx ⟨[], by simp, fun i hi' => by omega, by simp [Builtin.firstCells, loadCells, loadCellsFrom]⟩

end
end Go.Abs

/- append over the abstract heap, whatever is appended: elements, or so many zeros. -/
namespace Go.Abs
open Go.RowKit

section
variable {P : Program} {T : Nat → Prop} {env : Env} {n : Nat} {g : AH}
variable {dst : Option Tmp} {ty : TypeId} {pos : String} {after : Array Edge} {gd : Option (Nat × Bool)}

structure AppY (P : Program) (t t2 ty e : TypeId) (z by_ : Nat) (zv : Value) (g : AH) (v : Value) (k : Nat) (xs : List Value) : Prop where
  len : xs.length = k * z
  kn : known xs = true
  run : ∀ (w0 : Base) (ρ : Ren) (w : World) (H : AH) (c : Value), g.le H → Sim w0 ρ H w → VRel ρ v c → ∃ cs : List Value, cs.length = k * z ∧ (∀ i, i < k * z → VRel ρ (xs.getD i (.tuple #[])) (cs.getD i (.tuple #[]))) ∧
    (∀ (A : Addr) (m C : Nat) (w' : World), m + k ≤ C → (storeCells (A.add (m * z)) cs).run P w = .ok () w' → (Builtin.append_ #[t, t2] ty #[.slice (some A) m C, c]).run P w = .ok (.slice (some A) (m + k) C) w') ∧
    (∀ (A : Option Addr) (m C : Nat) (olds : List Value), C < m + k → (m + k) * by_ ≤ 140737488355328 → (Builtin.firstCells z m (.slice A m C)).run P w.drew = .ok olds.toArray w.drew →
      ∃ N : Nat, m + k ≤ N ∧ (Builtin.append_ #[t, t2] ty #[.slice A m C, c]).run P w = .ok (.slice (some ⟨w.heap.size, 0, none⟩) (m + k) N) (w.drew.alloc (.cells (olds.toArray ++ cs.toArray ++ Builtin.zeroCells zv.cells (N - (m + k))) e)))

theorem AppY.src {t t2 e : TypeId} {d d2 : TypeDesc} {z by_ k : Nat} {zv v : Value} {xs : List Value} (hu : P.underlying t = some (.slice e)) (hz : TI P e d z by_ zv) (hz0 : z ≠ 0) (hb0 : by_ ≠ 0) (ht2 : P.underlying t2 = some d2) (hd2 : notIntD d2 = true)
    (hy : Src g z v k xs) (hfl : full v k) : AppY P t t2 ty e z by_ zv g v k xs where
  len := hy.length
  kn := hy.known
  run := fun w0 ρ w H c hl hs hv => by
    obtain ⟨cs, k1, k2, k3⟩ := hy.run (P := P) hl hs.drew hv hz0
    have hlen := hy.len (P := P) hv w hfl
    obtain ⟨cs', k1', k2', k3'⟩ := hy.run (P := P) hl hs hv hz0
    have hsame : cs' = cs := by
      have hfc : ∀ (l l' : List Value), (Builtin.firstCells z k c).run P w = .ok l.toArray w → (Builtin.firstCells z k c).run P w.drew = .ok l'.toArray w.drew → l = l' := by
        intro l l' h1 h2
        have : (Builtin.firstCells z k c).run P w.drew = .ok l.toArray w.drew := by
          cases hy with
          | @slice b o m k hk hkn =>
            cases hv with
            | @slice _ _ _ L c' hL hn hc =>
              obtain ⟨q, q1, q2, q3⟩ := hs.rd (P := P) hl hL hkn
              obtain ⟨q', p1, p2, p3⟩ := hs.drew.rd (P := P) hl hL hkn
              have e : q = q' := by
                apply List.ext_getElem (by omega)
                intro i i1 i2
                have a1 := (q2 i (by omega)).1
                have a2 := (p2 i (by omega)).1
                have a3 : some (q.getD i (.tuple #[])) = some (q'.getD i (.tuple #[])) := a1.symm.trans a2
                simpa [List.getD, i1, i2] using a3
              subst e
              have h3 : (Builtin.firstCells z k (.slice (some ⟨L.blk, L.off + o, none⟩) m c')).run P w = .ok q.toArray w := by simpa [Builtin.firstCells] using q3
              rw [h3] at h1
              have e2 : q.toArray = l.toArray := by injection h1
              rw [← e2]
              simpa [Builtin.firstCells] using p3
            | slice0 a hL =>
              have : k = 0 := by omega
              subst this
              have h3 : (Builtin.firstCells z 0 (.slice (some a) 0 0)).run P w = .ok #[] w := by simp [Builtin.firstCells, loadCells, loadCellsFrom]
              rw [h3] at h1
              have e2 : #[] = l.toArray := by injection h1
              rw [← e2]; simp [Builtin.firstCells, loadCells, loadCellsFrom]
          | nil =>
            cases hv
            have h3 : (Builtin.firstCells z 0 (.slice none 0 0)).run P w = .ok #[] w := by simp [Builtin.firstCells]
            rw [h3] at h1
            have e2 : #[] = l.toArray := by injection h1
            rw [← e2]; simp [Builtin.firstCells]
          | @str s k hz1 hk =>
            have := hv.string_inv; subst this
            simp only [Builtin.firstCells, Sem.run_pure] at h1 ⊢
            injection h1 with h1
            rw [h1]
        rw [this] at h2
        injection h2 with h2
        simpa using h2
      exact hfc _ _ k3' k3
    subst hsame
    refine ⟨cs', k1, k2, fun A m C w' hC hst => append_fit (P := P) (ty := ty) hu hz ht2 hd2 hC hlen k3' hst, fun A m C olds hC hbig ho => ?_⟩
    exact append_grow (P := P) (ty := ty) hu hz ht2 hd2 hC hb0 hbig hlen (fun w1 e => by subst e; exact k3) (fun w1 e => by subst e; exact ho)

theorem wrap64' {a : Int} (h1 : 0 ≤ a) (h2 : a ≤ 140737488355328) : IntKind.i64.wrap a = a := by
  simp only [IntKind.wrap, IntKind.signed]; simp [IntKind.bits]; omega
theorem AppY.zeros {t t2 e : TypeId} {d : TypeDesc} {q kk : IntKind} {z by_ : Nat} {zv : Value} {l : Int} (hu : P.underlying t = some (.slice e)) (hz : TI P e d z by_ zv) (hz0 : z ≠ 0) (hb0 : by_ ≠ 0) (hzz : zv.cells.size = z) (hf : zv.cells.all (flat 8) = true)
    (ht2 : P.underlying t2 = some (.int q)) (h0 : 0 ≤ l) (hlim : l.toNat * by_ ≤ 140737488355328) (hkn : known (zrow zv.cells.toList l.toNat) = true) :
    AppY P t t2 ty e z by_ zv g (.int kk l) l.toNat (zrow zv.cells.toList l.toNat) where
  len := by rw [zrow_length, Array.length_toList, hzz]
  kn := hkn
  run := fun w0 ρ w H c hl hs hv => by
    have hc : c = .int kk l := hv.int_inv
    subst hc
    have hr : ∀ w1, (underlying t).run P w1 = .ok (.slice e) w1 := fun w1 => by simp [underlying, hu]
    have hr2 : ∀ w1, (underlying t2).run P w1 = .ok (.int q) w1 := fun w1 => by simp [underlying, ht2]
    obtain ⟨i, hi1, hi2⟩ := hz.info
    have hti : ∀ w1, (typeInfo e).run P w1 = .ok i w1 := fun w1 => by simp [typeInfo, hi1]
    have hib : i.bytes = by_ := hi2.2.1
    have hby : 1 ≤ by_ := Nat.pos_of_ne_zero hb0
    have hl47 : l.toNat ≤ 140737488355328 := Nat.le_trans (Nat.le_mul_of_pos_right _ hby) hlim
    have hwr : IntKind.i64.wrap l = l := wrap64' h0 (by omega)
    have e0 : (#[t, t2] : Array TypeId)[0]? = some t := rfl
    have e1 : (#[t, t2] : Array TypeId)[1]? = some t2 := rfl
    have hmul : l * (by_ : Int) = ((l.toNat * by_ : Nat) : Int) := by rw [Int.natCast_mul, Int.toNat_of_nonneg h0]
    have hlim2 : ¬ (l * (by_ : Int) > 2 ^ 48) := by
      rw [hmul]
      have : (2 : Int) ^ 48 = 281474976710656 := by decide
      omega
    have hcl : (Builtin.zeroCells zv.cells l.toNat).toList.length = l.toNat * z := by simp [Builtin.zeroCells, hzz]
    have happ : ∀ w1, ((if l.toNat * z = 0 then pure #[] else (do pure (Builtin.zeroCells (← zeroValue e).cells l.toNat) : Sem (Array Value))) : Sem (Array Value)).run P w1 = .ok (Builtin.zeroCells zv.cells l.toNat) w1 := by
      intro w1
      by_cases hk : l.toNat * z = 0
      · rw [if_pos hk]
        have : Builtin.zeroCells zv.cells l.toNat = #[] := Array.eq_empty_of_size_eq_zero (by simp [Builtin.zeroCells, hzz, hk])
        rw [this]; rfl
      · rw [if_neg hk]; simp [Sem.run_bind, hz.run_zeroValue, Sem.run_pure]
    refine ⟨(Builtin.zeroCells zv.cells l.toNat).toList, hcl, fun j hj => ?_, fun A m C w' hC hst => ?_, fun A m C olds hC hbig ho => ?_⟩
    · have := zrow_rel (ρ := ρ) hf l.toNat l.toNat (Nat.le_refl _) j (by rw [zrow_length, Array.length_toList, hzz]; exact hj)
      have e9 : (Builtin.zeroCells zv.cells l.toNat).toList.getD j (.tuple #[]) = (Builtin.zeroCells zv.cells l.toNat).getD j (.tuple #[]) := by simp [Array.getD_eq_getD_getElem?, List.getD]
      rw [e9]; exact this
    · have e2 : (#[Value.slice (some A) m C, .int kk l] : Array Value)[0]? = some (.slice (some A) m C) := rfl
      have e3 : (#[Value.slice (some A) m C, .int kk l] : Array Value)[1]? = some (.int kk l) := rfl
      simp only [Builtin.append_, e0, e1, e2, e3]
      simp only [Sem.run_bind, hr, hr2, Result.andThen_ok, hz.run_sizeOf, Sem.run_pure, Sem.run_map, asInt, asIntOf, if_true, hwr, if_neg (Int.not_lt.2 h0), hti, hib, if_neg hlim2]
      simp only [if_pos hC, Sem.run_bind, Bool.not_true, Bool.false_eq_true, if_false, Sem.run_pure, Result.andThen_ok]
      rw [happ w]
      simp only [Result.andThen_ok, hst]
    · obtain e2 : (#[Value.slice A m C, .int kk l] : Array Value)[0]? = some (.slice A m C) := rfl
      have e3 : (#[Value.slice A m C, .int kk l] : Array Value)[1]? = some (.int kk l) := rfl
      have hfits := growslice_fits hC hbig
      refine ⟨m + l.toNat + w.tape w.drawn (.appendCap (m + l.toNat) C e) % (2 ^ 63 - (m + l.toNat)), by omega, ?_⟩
      simp only [Builtin.append_, e0, e1, e2, e3]
      simp only [Sem.run_bind, hr, hr2, Result.andThen_ok, hz.run_sizeOf, Sem.run_pure, Sem.run_map, asInt, asIntOf, if_true, hwr, if_neg (Int.not_lt.2 h0), hti, hib, if_neg hlim2]
      rw [if_neg (by omega)]
      simp only [Sem.run_bind, hti, Result.andThen_ok, hib]
      have hneed : m + l.toNat ≤ 140737488355328 := Nat.le_trans (Nat.le_mul_of_pos_right _ hby) hbig
      have hmax : IntKind.i64.max = 9223372036854775807 := by decide
      rw [if_neg (by rintro ⟨h1, _⟩; rw [hmax] at h1; omega)]
      simp only [Sem.run_bind, hti, Result.andThen_ok, hib]
      rw [if_neg (show ¬ (Builtin.nextslicecap (m + l.toNat) C * by_ > 2 ^ 48) by
        have : (2 : Nat) ^ 48 = 281474976710656 := by decide
        omega)]
      simp only [Sem.run_bind, run_choose, Question.forced, Bool.false_eq_true, if_false, Result.andThen_ok, Question.cut, hti, hib, run_askRoom]
      rw [World.drew_drawn, ho]
      simp only [Result.andThen_ok, Bool.not_true, Bool.false_eq_true, if_false]
      rw [happ w.drew]
      simp only [Result.andThen_ok, hz.run_zeroValue, newRow, Sem.run_bind, run_newObj, Sem.run_pure]
      rfl

theorem op_appendNilY {t t2 e : TypeId} {x y : Operand} {d : TypeDesc} {z by_ k : Nat} {zv : Value} {xs : List Value} (hu : P.underlying t = some (.slice e)) (hz : TI P e d z by_ zv) (hz0 : z ≠ 0) (hzz : zv.cells.size = z)
    (hx : ev env x = .slice none 0 0) (hy : AppY P t t2 ty e z by_ zv g (ev env y) k xs)
    (hk0 : k ≠ 0) (hbig : k * by_ ≤ 140737488355328) :
    OpEv P T ⟨dst, .call { callee := .builtin .append, args := #[x, y], argTypes := #[t, t2] }, ty, pos, after, gd⟩ env n g (.slice (some ⟨n, 0, none⟩) k k) (n + 1) (.new n ⟨xs.length, 0, true, z⟩ xs) :=
  op_new fun w0 ρ w H ce hl hs hop => by
    have h1 := hop x (by simp [Op.operands, Call.operands])
    have h2 := hop y (by simp [Op.operands, Call.operands])
    rw [hx] at h1
    have hcx : ce x = .slice none 0 0 := by generalize ce x = q at h1; cases h1; rfl
    obtain ⟨cs, k1, k2, -, kg⟩ := hy.run w0 ρ w H (ce y) hl hs h2
    obtain ⟨N, hN, hrun⟩ := kg none 0 0 [] (by omega) (by simpa using hbig) (by simp [Builtin.firstCells])
    have hxl := hy.len
    refine ⟨w.drew, #[] ++ cs.toArray ++ Builtin.zeroCells zv.cells (N - (0 + k)), e, .slice (some ⟨w.heap.size, 0, none⟩) (0 + k) N, hs.drew, ?_, fun i hi => ?_, ?_, ?_⟩
    · simp [k1, hxl]
    · have hi' : i < k * z := by omega
      have := k2 i hi'
      have e : (#[] ++ cs.toArray ++ Builtin.zeroCells zv.cells (N - (0 + k))).getD i (.tuple #[]) = cs.getD i (.tuple #[]) := by
        simp [Array.getD_eq_getD_getElem?, List.getD, Array.getElem?_append, k1, hi']
      rw [e]; exact this
    · simp [execOp, resolve, invoke, builtin, hcx, hrun]
    · rw [Nat.zero_add]
      refine .slice (L := ⟨w.drew.heap.size, 0, _, z⟩) N (Ren.set_self _ _ _) (by omega) fun _ => ?_
      have hsz : (#[] ++ cs.toArray ++ Builtin.zeroCells zv.cells (N - k)).size = k * z + (N - k) * z := by simp [Builtin.zeroCells, k1, hzz]
      show 0 + N * z ≤ (#[] ++ cs.toArray ++ Builtin.zeroCells zv.cells (N - k)).size
      have : k * z + (N - k) * z = N * z := by rw [← Nat.add_mul]; congr 1; omega
      omega

theorem op_appendY {t t2 e : TypeId} {x y : Operand} {d : TypeDesc} {z by_ k b m : Nat} {zv : Value} {xs : List Value} {mm : Meta} (keep : Bool) (hu : P.underlying t = some (.slice e)) (hz : TI P e d z by_ zv) (hz0 : z ≠ 0) (hzz : zv.cells.size = z)
    (hx : ev env x = .slice (some ⟨b, 0, none⟩) m m) (hy : AppY P t t2 ty e z by_ zv g (ev env y) k xs)
    (hi : g.info b = some mm) (hms : mm.size = m * z) (hmt : mm.tail = true) (hmz : mm.sz = z) (hkn : known (rd g b 0 (m * z)) = true) (hT : T b ∨ n ≤ b) (hbn : b < n)
    (hk0 : k ≠ 0) (hbig : (m + k) * by_ ≤ 140737488355328) :
    OpEv P T ⟨dst, .call { callee := .builtin .append, args := #[x, y], argTypes := #[t, t2] }, ty, pos, after, gd⟩ env n g (.slice (some ⟨n, 0, none⟩) (m + k) (m + k)) (n + 1)
      (.takeover b n keep mm.size (if keep then mm.size else mm.lock) z (rd g b 0 (m * z) ++ xs)) where
  le := Nat.le_succ _
  within := within_takeover hT hbn
  run := fun rq w0 ρ w H a next Q hl hf hs hop K => by
    have hn := hf n (Nat.le_refl _) (Nat.lt_succ_self _)
    have h1 := hop x (by simp [Op.operands, Call.operands])
    have h2 := hop y (by simp [Op.operands, Call.operands])
    rw [hx] at h1
    have hI := hl.info b mm hi
    have hxl := hy.len
    have hcl : (rd g b 0 (m * z) ++ xs).length = (m + k) * z := by rw [List.length_append, rd_length, hxl, Nat.add_mul]
    obtain ⟨L, hL, hLz, hLe, hlk, hown⟩ := hs.info b mm hI
    -- what grows
    have grow : ∀ (A : Option Addr) (C : Nat), C < m + k → a.eval x = .slice A m C → (∃ olds : List Value, olds.length = m * z ∧ (∀ i, i < m * z → VRel ρ ((rd g b 0 (m * z)).getD i (.tuple #[])) (olds.getD i (.tuple #[]))) ∧
        (Builtin.firstCells z m (.slice A m C)).run P w.drew = .ok olds.toArray w.drew) → (Oper.wpIn (FW rq) 0 P ⟨dst, .call { callee := .builtin .append, args := #[x, y], argTypes := #[t, t2] }, ty, pos, after, gd⟩ a w next Q) := by
      intro A C hC hcx ⟨olds, o1, o2, o3⟩
      obtain ⟨cs, k1, k2, -, kg⟩ := hy.run w0 ρ w H (a.eval y) hl hs h2
      obtain ⟨N, hN, hrun⟩ := kg A m C olds hC hbig o3
      have hrel : ∀ i, i < (rd g b 0 (m * z) ++ xs).length → VRel ρ ((rd g b 0 (m * z) ++ xs).getD i (.tuple #[])) ((olds.toArray ++ cs.toArray ++ Builtin.zeroCells zv.cells (N - (m + k))).getD i (.tuple #[])) := by
        intro i hi'
        rw [hcl] at hi'
        have e2 : (olds.toArray ++ cs.toArray ++ Builtin.zeroCells zv.cells (N - (m + k))).getD i (.tuple #[]) = (olds ++ cs).getD i (.tuple #[]) := by
          have : i < (olds ++ cs).length := by rw [List.length_append, o1, k1, ← Nat.add_mul]; exact hi'
          have h3 : i < (olds.toArray ++ cs.toArray).size := by simpa using this
          rw [Array.getD_eq_getD_getElem?, Array.getElem?_append_left h3]
          simp [List.getD]
        rw [e2]
        by_cases hlt : i < m * z
        · have := o2 i hlt
          rw [List.getD, List.getD, List.getElem?_append_left (by rw [rd_length]; exact hlt), List.getElem?_append_left (by rw [o1]; exact hlt)]
          exact this
        · have hj : i - m * z < k * z := by rw [Nat.add_mul] at hi'; omega
          have := k2 (i - m * z) hj
          rw [List.getD, List.getD, List.getElem?_append_right (by rw [rd_length]; omega), List.getElem?_append_right (by rw [o1]; omega), rd_length, o1]
          exact this
      have hcsz : (olds.toArray ++ cs.toArray ++ Builtin.zeroCells zv.cells (N - (m + k))).size = N * z := by
        simp only [Array.size_append, List.size_toArray, o1, k1, Builtin.zeroCells, Array.size_map, Array.size_range, hzz]
        rw [← Nat.add_mul, ← Nat.add_mul]; congr 1; omega
      have hs1 := hs.drew.new hn (rd g b 0 (m * z) ++ xs) _ e z (by rw [hcl, hcsz]; exact Nat.mul_le_mul_right _ hN) hrel
      -- the old block gives up
      have hs2 : Sim w0 (ρ.set n ⟨w.heap.size, 0, (olds.toArray ++ cs.toArray ++ Builtin.zeroCells zv.cells (N - (m + k))).size, z⟩)
          (H.app (.takeover b n keep mm.size (if keep then mm.size else mm.lock) z (rd g b 0 (m * z) ++ xs))) (w.drew.alloc (.cells (olds.toArray ++ cs.toArray ++ Builtin.zeroCells zv.cells (N - (m + k))) e)) := by
        have hbn' : b ≠ n := by omega
        refine hs1.shrink ?_ ?_ ?_
        · intro q mq hq
          by_cases e1 : q = n
          · subst e1
            simp only [AH.app, Dl.takeover, Dl.new, if_true, Option.getD_some, Option.some.injEq] at hq ⊢
            subst hq
            refine ⟨_, rfl, rfl, Nat.le_refl _, ?_, fun K i _ ho => ⟨Nat.zero_le _, by simpa using ho.2⟩⟩
            simp only [hcl]
            have : m * z ≤ (m + k) * z := Nat.mul_le_mul_right _ (by omega)
            cases keep <;> simp <;> omega
          · by_cases e2 : q = b
            · subst e2
              simp only [AH.app, Dl.takeover, Dl.new, if_neg e1, if_true, Option.getD_some, Option.getD_none] at hq ⊢
              cases keep
              · simp at hq
              · simp at hq; subst hq
                exact ⟨mm, hI, hmz.symm, Nat.le_refl _, Nat.le_refl _, fun K i _ ho => by
                  obtain ⟨p1, p2⟩ := ho
                  simp only [Tail.isExt_of, Bool.false_eq_true, if_false] at p1 p2; omega⟩
            · simp only [AH.app, Dl.takeover, Dl.new, if_neg e1, if_neg e2, Option.getD_none] at hq ⊢
              have hqs := hs.info q mq hq
              obtain ⟨Lq, _, _, _, q4, _⟩ := hqs
              exact ⟨mq, hq, rfl, Nat.le_refl _, q4, fun K i _ ho => ho⟩
        · intro q mq o hq ho
          by_cases e1 : q = n
          · subst e1
            simp only [AH.app, Dl.takeover, Dl.new, if_true, Option.getD_some, Option.some.injEq] at hq
            subst hq; cases ho
          · by_cases e2 : q = b
            · subst e2
              simp only [AH.app, Dl.takeover, Dl.new, if_neg e1, if_true, Option.getD_some, Option.getD_none] at hq
              cases keep
              · simp at hq
              · simp at hq; subst hq; cases ho
            · simp only [AH.app, Dl.takeover, Dl.new, if_neg e1, if_neg e2, Option.getD_none] at hq ⊢
              exact hq
        · intro q i
          by_cases e1 : q = n
          · subst e1; right; simp [AH.app, Dl.takeover, Dl.new]
          · by_cases e2 : q = b
            · subst e2
              by_cases e3 : (keep && decide (i < mm.size)) = true
              · right; simp only [AH.app, Dl.takeover, Dl.new, if_neg e1, if_true]; rw [if_pos e3]
              · left; simp only [AH.app, Dl.takeover, Dl.new, if_neg e1, if_true]; rw [if_neg e3]; rfl
            · right; simp [AH.app, Dl.takeover, Dl.new, e1, e2]
      have hexec : (execOp a.eval ⟨dst, .call { callee := .builtin .append, args := #[x, y], argTypes := #[t, t2] }, ty, pos, after, gd⟩).run P w =
          .ok (.value (.slice (some ⟨w.heap.size, 0, none⟩) (m + k) N)) (w.drew.alloc (.cells (olds.toArray ++ cs.toArray ++ Builtin.zeroCells zv.cells (N - (m + k))) e)) := by
        simp [execOp, resolve, invoke, builtin, hcx, hrun]
      refine wpA_value hexec ?_
      refine K _ _ _ (.one hn _) (.slice N (Ren.set_self _ _ _) hN fun _ => ?_) hs2
      simp only [hcsz]; omega
    generalize hcx : a.eval x = q at h1
    cases h1 with
    | @slice _ _ _ L' C hL' hmC hcc =>
      rw [hL] at hL'; cases hL'
      by_cases hfit : m + k ≤ C
      · -- it fits: the slack is taken
        obtain ⟨cs, k1, k2, k3, -⟩ := hy.run w0 ρ w H (a.eval y) hl hs h2
        have hCe : 0 + C * z ≤ L.ext := by have := hcc (by omega); rw [hLz, hmz] at this; exact this
        have hfz : (m + k) * z ≤ C * z := Nat.mul_le_mul_right _ hfit
        obtain ⟨e1, e2⟩ := hs.storeCells (P := P) (o := m * z) hI hL xs cs (by omega) (fun j hj => ⟨by omega, by rw [hmt, if_pos (Tail.isExt_of _)]; rw [Nat.add_mul] at hfz; omega⟩)
          (fun j hj => k2 j (by omega)) hy.kn
        have hrun := k3 ⟨L.blk, L.off + 0, none⟩ m C (w.setCells L.blk (L.off + m * z) cs) hfit (by rw [addr_add, Nat.add_zero]; exact e1)
        have hexec : (execOp a.eval ⟨dst, .call { callee := .builtin .append, args := #[x, y], argTypes := #[t, t2] }, ty, pos, after, gd⟩).run P w =
            .ok (.value (.slice (some ⟨L.blk, L.off + 0, none⟩) (m + k) C)) (w.setCells L.blk (L.off + m * z) cs) := by
          simp only [Nat.add_zero] at hrun
          simp [execOp, resolve, invoke, builtin, hcx, hrun]
        have hs2 := e2.takeover (b := b) (n := n) (m := mm) (L := L) (by rw [sets_info]; exact hI) hL hmt hn keep (rd g b 0 (m * z) ++ xs) (if keep then mm.size else mm.lock) rfl (by rw [hcl, hms]; exact Nat.mul_le_mul_right _ (by omega)) (by rw [hcl]; omega)
          (fun i hi' => by
            rw [hcl] at hi'
            by_cases hlt : i < m * z
            · have e3 : (rd g b 0 (m * z) ++ xs).getD i (.tuple #[]) = g.cell b i := by
                rw [List.getD, List.getElem?_append_left (by rw [rd_length]; exact hlt)]
                have := rd_getD g b (m * z) 0 i hlt
                rw [Nat.zero_add] at this; exact this
              rw [e3]
              have e4 : (H.app (.sets b (m * z) xs)).cell b i = H.cell b i := by
                simp only [AH.app, Dl.sets]; rw [if_neg (by omega)]; rfl
              rw [e4]
              rcases hl.cell b i with h5 | h5
              · exact .inr h5
              · exact .inl h5
            · left
              have e3 : (rd g b 0 (m * z) ++ xs).getD i (.tuple #[]) = xs.getD (i - m * z) (.tuple #[]) := by
                rw [List.getD, List.getElem?_append_right (by rw [rd_length]; omega), rd_length]; rfl
              rw [e3]
              simp only [AH.app, Dl.sets]
              rw [if_pos (by refine ⟨by trivial, by omega, ?_⟩; rw [hxl]; rw [Nat.add_mul] at hi'; omega)]; rfl)
        rw [hmz, ← AH.app_comp] at hs2
        have hd : (Dl.sets b (m * z) xs).comp (.takeover b n keep mm.size (if keep then mm.size else mm.lock) z (rd g b 0 (m * z) ++ xs)) =
            .takeover b n keep mm.size (if keep then mm.size else mm.lock) z (rd g b 0 (m * z) ++ xs) := by
          simp only [Dl.comp, Dl.takeover, Dl.sets, Dl.mk.injEq]
          constructor
          · funext q; simp
          · funext q i
            by_cases e1 : q = n
            · simp [e1]
            · by_cases e2 : q = b
              · subst e2
                by_cases e3 : (keep && decide (i < mm.size)) = true
                · have : ¬ (m * z ≤ i ∧ i < m * z + xs.length) := by simp at e3; omega
                  simp only [if_neg e1, if_true, true_and]
                  rw [if_pos e3, if_neg this]; rfl
                · simp only [if_neg e1, if_true]
                  rw [if_neg e3]; rfl
              · simp [e1, e2]
        rw [hd] at hs2
        refine wpA_value hexec ?_
        refine K _ _ _ (.one hn L) ?_ hs2
        exact .slice (L := L) C (Ren.set_self _ _ _) hfit (fun _ => by rw [hLz, hmz]; exact hCe)
      · exact grow _ C (by omega) hcx (by
          obtain ⟨cs, k1, k2, k3⟩ := hs.drew.rd (P := P) (o := 0) hl hL hkn
          exact ⟨cs, k1, fun i hi' => (k2 i hi').2, by simpa [Builtin.firstCells] using k3⟩)
    | slice0 A hL' =>
      exact grow _ 0 (by omega) hcx ⟨[], by simp, fun i hi' => by omega, by simp [Builtin.firstCells, loadCells, loadCellsFrom]⟩



end
end Go.Abs

/- copy and clear over the abstract heap; what they and append look like to the stepping. -/
namespace Go.Abs
open Go.RowKit

section
variable {P : Program} {T : Nat → Prop} {env : Env} {n : Nat} {g : AH}
variable {dst : Option Tmp} {ty : TypeId} {pos : String} {after : Array Edge} {gd : Option (Nat × Bool)}

theorem app_sets_nil (h : AH) (b o : Nat) : h.app (.sets b o []) = h := by
  have : ∀ (x i : Nat), (if x = b ∧ o ≤ i ∧ i < o + ([] : List Value).length then some (([] : List Value).getD (i - o) (.tuple #[])) else none) = none := fun x i => by
    rw [if_neg]; simp only [List.length_nil]; omega
  unfold Dl.sets
  show AH.mk _ _ = h
  cases h
  simp only [Dl.sets, this, Option.getD_none]
theorem within_sets {T : Nat → Prop} {n b o : Nat} {vs : List Value} (hT : T b ∨ n ≤ b) (hb : b < n) : Within T n n (.sets b o vs) := fun x hx => by
  have := sets_touches hx
  subst this; exact ⟨hT, hb⟩

theorem op_copy {t t2 e : TypeId} {x y : Operand} {d : TypeDesc} {z by_ b o m k kk : Nat} {zv v : Value} {xs : List Value} {mm : Meta} (hu : P.underlying t = some (.slice e)) (hz : TI P e d z by_ zv) (hz0 : z ≠ 0)
    (hx : ev env x = .slice (some ⟨b, o, none⟩) m m) (hy : ev env y = v) (hs : Src g z v k xs) (hfl : full v kk) (hsl : ∀ c w, (∃ ρ, VRel ρ v c) → (Builtin.lenOf c).run P w = .ok kk w) (hk : k = min kk m)
    (hm : g.info b = some mm) (hlk : mm.lock ≤ o) (hin : o + k * z ≤ mm.size) (hT : T b ∨ n ≤ b) (hb : b < n) :
    OpEv P T ⟨dst, .call { callee := .builtin .copy, args := #[x, y], argTypes := #[t, t2] }, ty, pos, after, gd⟩ env n g (.int .i64 k) n (.sets b o xs) where
  le := Nat.le_refl _
  within := within_sets hT hb
  run := fun rq w0 ρ w H a next Q hl hf hsim hop K => by
    have h1 := hop x (by simp [Op.operands, Call.operands]); rw [hx] at h1
    have h2 := hop y (by simp [Op.operands, Call.operands]); rw [hy] at h2
    have hM := hl.info b mm hm
    obtain ⟨L, hL, kz, k2, k3, k4⟩ := hsim.info b mm hM
    obtain ⟨cs, c1, c2, c3⟩ := hs.run (P := P) hl hsim h2 hz0
    have hlen := hsl (a.eval y) w ⟨ρ, h2⟩
    have hr : (underlying t).run P w = .ok (.slice e) w := by simp [underlying, hu]
    have hxl := hs.length
    have e0 : (#[t, t2] : Array TypeId)[0]? = some t := rfl
    have key : ∀ (A : Addr) (C : Nat), a.eval x = .slice (some A) m C → (k = 0 ∨ A = ⟨L.blk, L.off + o, none⟩) →
        (Oper.wpIn (FW rq) 0 P ⟨dst, .call { callee := .builtin .copy, args := #[x, y], argTypes := #[t, t2] }, ty, pos, after, gd⟩ a w next Q) := by
      intro A C hcx hA
      have e2 : (#[Value.slice (some A) m C, a.eval y] : Array Value)[0]? = some (.slice (some A) m C) := rfl
      have e3 : (#[Value.slice (some A) m C, a.eval y] : Array Value)[1]? = some (a.eval y) := rfl
      by_cases hk0 : k = 0
      · have hxs : xs = [] := List.eq_nil_of_length_eq_zero (by rw [hxl, hk0, Nat.zero_mul])
        have hcs : cs = [] := List.eq_nil_of_length_eq_zero (by rw [c1, hk0, Nat.zero_mul])
        subst hxs; subst hcs
        have hrun : (Builtin.copy_ #[t, t2] ty #[.slice (some A) m C, a.eval y]).run P w = .ok (.int .i64 k) w := by
          simp only [Builtin.copy_, e0, e2, e3]
          simp only [Sem.run_bind, hr, Result.andThen_ok, hlen, hz.run_sizeOf]
          rw [show Nat.min kk m = k from hk.symm, c3]
          simp [storeCells, Sem.run_pure, goInt]
        have hexec : (execOp a.eval ⟨dst, .call { callee := .builtin .copy, args := #[x, y], argTypes := #[t, t2] }, ty, pos, after, gd⟩).run P w = .ok (.value (.int .i64 k)) w := by
          simp [execOp, resolve, invoke, builtin, hcx, hrun]
        refine wpA_value hexec ?_
        exact K ρ _ _ (.refl _ _ _) (.int _ _) (by rw [app_sets_nil]; exact hsim)
      · have hA := hA.resolve_left hk0
        subst hA
        obtain ⟨e4, e5⟩ := hsim.storeCells (P := P) (o := o) hM hL xs cs (by omega) (fun j hj => ⟨by omega, by split <;> omega⟩) (fun j hj => c2 j (by omega)) hs.known
        have hrun : (Builtin.copy_ #[t, t2] ty #[.slice (some ⟨L.blk, L.off + o, none⟩) m C, a.eval y]).run P w = .ok (.int .i64 k) (w.setCells L.blk (L.off + o) cs) := by
          simp only [Builtin.copy_, e0, e2, e3]
          simp only [Sem.run_bind, hr, Result.andThen_ok, hlen, hz.run_sizeOf]
          rw [show Nat.min kk m = k from hk.symm, c3]
          simp only [Result.andThen_ok, e4, Sem.run_bind, Sem.run_pure, goInt]
        have hexec : (execOp a.eval ⟨dst, .call { callee := .builtin .copy, args := #[x, y], argTypes := #[t, t2] }, ty, pos, after, gd⟩).run P w = .ok (.value (.int .i64 k)) (w.setCells L.blk (L.off + o) cs) := by
          simp [execOp, resolve, invoke, builtin, hcx, hrun]
        refine wpA_value hexec ?_
        exact K ρ _ _ (.refl _ _ _) (.int _ _) e5
    generalize hcx : a.eval x = q at h1
    cases h1 with
    | @slice _ _ _ L' C hL' hmC hcc =>
      rw [hL] at hL'; cases hL'
      exact key _ C hcx (.inr rfl)
    | slice0 A hL' => exact key A 0 hcx (.inl (by omega))
theorem op_meth {nm : String} {x : Operand} {v : Value} (hx : ev env x = v) : OpEv P T ⟨dst, .makeFunc (.method nm) #[x] #[], ty, pos, after, gd⟩ env n g (.func (.method nm) #[v] #[]) n .nil :=
  .calc fun ρ w ce h => by
    have h1 := h x (by simp [Op.operands]); rw [hx] at h1
    exact ⟨.func (.method nm) #[ce x] #[], by simp [execOp, Instr.makeFunc], .meth h1⟩
class Mc (P : Program) (t : TypeId) (nm : String) (f : outParam FuncId) : Prop where
  out : ∃ i m d, P.info? t = some i ∧ i.methods.find? (·.name == nm) = some m ∧ m.path = #[] ∧ m.func = some (f, false) ∧ P.underlying t = some d ∧ isPtrD d = false
theorem Mc.of {P : Program} {t : TypeId} {nm : String} {f : FuncId} {d : TypeDesc} (h : ((P.info? t).bind fun i => (i.methods.find? (·.name == nm)).map fun m => (m.path.isEmpty, m.func)) = some (true, some (f, false))) (hu : P.underlying t = some d) (hd : isPtrD d = false) : Mc P t nm f := by
  cases hi : P.info? t with
  | none => rw [hi] at h; cases h
  | some i =>
    rw [hi] at h
    simp only [Option.bind_some] at h
    cases hm : i.methods.find? (·.name == nm) with
    | none => rw [hm] at h; cases h
    | some m =>
      rw [hm] at h
      simp only [Option.map_some, Option.some.injEq, Prod.mk.injEq] at h
      exact ⟨i, m, d, hi, hm, by simpa using h.1, h.2, hu, hd⟩
theorem op_nilCheckM {x : Operand} {nm : String} {t : TypeId} {v : Value} {f : FuncId} [hM : Mc P t nm f] (hx : ev env x = .func (.method nm) #[.iface t v] #[]) :
    OpEv P T ⟨dst, .nilCheck x, ty, pos, after, gd⟩ env n g (.func (.method nm) #[.iface t v] #[]) n .nil :=
  .calc fun ρ w ce h => by
    have h1 := h x (by simp [Op.operands]); rw [hx] at h1
    generalize hc : ce x = c at h1
    cases h1 with
    | meth h' =>
      cases h' with
      | @iface _ _ y hv =>
        obtain ⟨i, m, d, a1, a2, a3, a4, a5, a6⟩ := hM.out
        have hti : (typeInfo t).run P w = .ok i w := by simp [typeInfo, a1]
        have hr : (underlying t).run P w = .ok d w := by simp [underlying, a5]
        have hnil : (nilAhead (P.types.size + Made.depth) t y nm).run P w = .ok (some false) w := by
          have hpos : 0 < Made.depth := by decide
          obtain ⟨k, hk⟩ : ∃ k, P.types.size + Made.depth = k + 1 := ⟨P.types.size + Made.depth - 1, by omega⟩
          rw [hk]
          unfold nilAhead
          simp only [Sem.run_bind, hti, Result.andThen_ok, a2, a3, followBlind, Sem.run_pure, a4, hr]
          revert a6; cases d <;> intro a6 <;> first | (cases a6; done) | rfl
        exact ⟨_, by simp [execOp, hc, Sem.run_bind, run_program, hnil], .meth (.iface hv)⟩
theorem op_invokeC {f : FuncId} {W : Nat → Prop} {n' : Nat} {h' : AH} {x : Operand} {t : TypeId} {v : Value} {name : String} {xs : Array Operand} {ts : Array TypeId} {r : Value} [hM : Mc P t name f] (hx : ev env x = .iface t v)
    (hev : Ev P W f (#[v] ++ xs.map (ev env)) n g r n' h') (hW : ∀ b, W b → T b) :
    ∃ d, h'.le (g.app d) ∧ Within W n n' d ∧ OpEv P T ⟨dst, .call { callee := .invoke x name, args := xs, argTypes := ts }, ty, pos, after, gd⟩ env n g r n' d := by
  obtain ⟨i, m, d, a1, a2, a3, a4, a5, a6⟩ := hM.out
  exact op_invoke hx a1 a2 a3 a4 a5 a6 hev hW
end
end Go.Abs

/- Rows written out, strings of bytes and bytes of strings, over the abstract heap. -/
namespace Go.Abs
open Go.RowKit

theorem foldl_set : ∀ (l : List Value) (k off : Nat) (pre mid post : List Value), pre.length = off + k → mid.length = l.length →
    (l.zipIdx k).foldl (fun (cs : Array Value) (x : Value × Nat) => cs.setIfInBounds (off + x.2) x.1) (pre ++ mid ++ post).toArray = (pre ++ l ++ post).toArray
  | [], k, off, pre, mid, post, _, hm => by
    have : mid = [] := List.eq_nil_of_length_eq_zero (by simpa using hm)
    subst this; rfl
  | v :: l, k, off, pre, mid, post, hp, hm => by
    cases mid with
    | nil => simp at hm
    | cons m mid =>
      simp only [List.zipIdx_cons, List.foldl_cons]
      have e : (pre ++ m :: mid ++ post).toArray.setIfInBounds (off + k) v = (pre ++ [v] ++ mid ++ post).toArray := by
        rw [← hp]
        apply Array.ext'
        simp
      rw [e]
      have := foldl_set l (k + 1) off (pre ++ [v]) mid post (by simp; omega) (by simpa using hm)
      rw [this]
      simp

def cellsOf (vs : List Value) : List Value := vs.flatMap fun v => v.cells.toList

theorem fill_all {z : Nat} : ∀ (vs : List Value) (i : Nat) (pre rest : List Value), pre.length = i * z → rest.length = vs.length * z → (∀ v, v ∈ vs → v.cells.size = z) →
    Instr.fill (fun i => some (i * z, z)) (pre ++ rest).toArray ((vs.zipIdx i).map fun p => (p.2, p.1)) = some (pre ++ cellsOf vs).toArray
  | [], i, pre, rest, _, hr, _ => by
    have : rest = [] := List.eq_nil_of_length_eq_zero (by simpa using hr)
    subst this; simp [Instr.fill, cellsOf]
  | v :: vs, i, pre, rest, hp, hr, hv => by
    have hz := hv v (by simp)
    simp only [List.zipIdx_cons, List.map_cons, Instr.fill]
    have hl : (vs.length + 1) * z = z + vs.length * z := by rw [Nat.add_mul]; omega
    rw [if_neg (by simp [hz, hp, hr, hl])]
    have hr' : rest.length = z + vs.length * z := by rw [hr, List.length_cons, hl]
    obtain ⟨a, b, rfl, ha, hb⟩ : ∃ a b, rest = a ++ b ∧ a.length = z ∧ b.length = vs.length * z := ⟨rest.take z, rest.drop z, (List.take_append_drop z rest).symm, by simp; omega, by simp; omega⟩
    have e1 : Array.foldl (fun cs (x : Value × Nat) => cs.setIfInBounds (i * z + x.2) x.1) (pre ++ (a ++ b)).toArray v.cells.zipIdx = (pre ++ v.cells.toList ++ b).toArray := by
      rw [← Array.foldl_toList]
      have := foldl_set v.cells.toList 0 (i * z) pre a b (by simpa using hp) (by simp [ha, hz])
      simpa using this
    refine (congrArg (fun q => Instr.fill _ q _) e1).trans ?_
    have := fill_all vs (i + 1) (pre ++ v.cells.toList) b (by simp [hp, hz, Nat.add_mul]) hb (fun u hu => hv u (by simp [hu]))
    rw [this]
    simp [cellsOf]

section
variable {P : Program} {T : Nat → Prop} {env : Env} {n : Nat} {g : AH}
variable {dst : Option Tmp} {ty : TypeId} {pos : String} {after : Array Edge} {gd : Option (Nat × Bool)}

theorem op_buildSlice {t e : TypeId} {len : Nat} {xs : List Operand} {d : TypeDesc} {z by_ : Nat} {zv : Value} (hu : P.underlying t = some (.slice e)) (hz : TI P e d z by_ zv) (hf : zv.cells.all (flat 8) = true) (hzz : zv.cells.size = z) (hz0 : z ≠ 0)
    (hlen : xs.length = len) (hbig : len * z ≤ 16777216) (hok : ∀ x, x ∈ xs → okV (ev env x) = true ∧ (ev env x).cells.size = z) :
    OpEv P T ⟨dst, .buildSlice t len ((xs.zipIdx.map fun p => (p.2, p.1)).toArray), ty, pos, after, gd⟩ env n g (.slice (some ⟨n, 0, none⟩) len len) (n + 1)
      (.new n ⟨(cellsOf (xs.map (ev env))).length, 0, true, z⟩ (cellsOf (xs.map (ev env)))) :=
  op_new fun w0 ρ w H ce hl hs hop => by
    subst hzz
    have hr : (underlying t).run P w = .ok (.slice e) w := by simp [underlying, hu]
    let conc : Array Value := (Array.range (len * zv.cells.size)).map (zv.cells[· % zv.cells.size]!)
    have hcsz : conc.size = len * zv.cells.size := by simp [conc]
    have hbase : RelAll ρ (zrow zv.cells.toList len).toArray conc := by
      refine ⟨by rw [hcsz, List.size_toArray, zrow_length, Array.length_toList], fun i => ?_⟩
      by_cases hi : i < (zrow zv.cells.toList len).length
      · have := zrow_rel (ρ := ρ) hf len len (Nat.le_refl _) i hi
        rw [show (zrow zv.cells.toList len).toArray.getD i (.tuple #[]) = (zrow zv.cells.toList len).getD i (.tuple #[]) by simp [Array.getD_eq_getD_getElem?, List.getD]]
        exact this
      · have : (zrow zv.cells.toList len).toArray.getD i (.tuple #[]) = .tuple #[] := by simp [Array.getD, hi]
        rw [this]; exact .unk _
    have hparts : ∀ (l : List Operand) (k : Nat), (∀ x, x ∈ l → okV (ev env x) = true ∧ VRel ρ (ev env x) (ce x)) →
        All2 (fun p q : Nat × Value => p.1 = q.1 ∧ VRel ρ p.2 q.2 ∧ okV p.2 = true) (((l.map (ev env)).zipIdx k).map fun p => (p.2, p.1)) (((l.map ce).zipIdx k).map fun p => (p.2, p.1)) := by
      intro l
      induction l with
      | nil => intros; exact .nil
      | cons x l ih =>
        intro k h
        obtain ⟨h1, h2⟩ := h x (by simp)
        exact .cons ⟨rfl, h2, h1⟩ (ih (k + 1) fun y hy => h y (by simp [hy]))
    have hmem : ∀ x, x ∈ xs → VRel ρ (ev env x) (ce x) := fun x hx => hop x (by
      simp only [Op.operands]
      simp only [List.mem_toArray, List.map_map, List.mem_map, Function.comp]
      obtain ⟨i, hi⟩ := List.getElem?_of_mem hx
      exact ⟨(x, i), by rw [List.mem_zipIdx_iff_getElem?]; simpa using hi, rfl⟩)
    have hfill := fill_all (z := zv.cells.size) (xs.map (ev env)) 0 [] (zrow zv.cells.toList len) (by simp) (by rw [zrow_length, List.length_map, hlen, Array.length_toList]) (by
      intro v hv; obtain ⟨x, hx, rfl⟩ := List.mem_map.1 hv; exact (hok x hx).2)
    simp only [List.nil_append] at hfill
    obtain ⟨ds, h1, h2⟩ := fill_rel (ρ := ρ) _ _ _ _ _ _ hbase (hparts xs 0 fun x hx => ⟨(hok x hx).1, hmem x hx⟩) hfill
    have hsz : ds.size = (cellsOf (xs.map (ev env))).length := by have := h2.size; simpa using this.symm
    refine ⟨w, ds, e, .slice (some ⟨w.heap.size, 0, none⟩) len len, hs, by omega, fun i hi => ?_, ?_, ?_⟩
    · have := h2.at_ i
      simpa [Array.getD_eq_getD_getElem?, List.getD] using this
    · have e1 : (((xs.zipIdx.map fun p => (p.2, p.1)).toArray).map fun (x : Nat × Operand) => (x.1, ce x.2)).toList = ((xs.map ce).zipIdx 0).map fun p => (p.2, p.1) := by
        simp [List.zipIdx_map, Function.comp_def]
      have e' : (((xs.zipIdx.map fun p => (p.2, p.1)).toArray).map fun (x : Nat × Operand) => match x with | (i, x) => (i, ce x)) = (((xs.zipIdx.map fun p => (p.2, p.1)).toArray).map fun (x : Nat × Operand) => (x.1, ce x.2)) := rfl
      have c1 : ¬ (len * zv.cells.size > 2 ^ 24) := by omega
      simp only [execOp, Instr.buildSlice, Sem.run_bind, hr, Result.andThen_ok, hz.run_sizeOf, if_neg c1, e', e1]
      by_cases h0 : len * zv.cells.size = 0
      · have e0 : conc = #[] := by simp [conc, h0]
        rw [e0] at h1
        have e2 : ∀ (f : Nat → Value), (Array.range 0).map f = #[] := fun f => Array.eq_empty_of_size_eq_zero (by simp)
        simp only [h0, if_true, Sem.run_bind, Sem.run_pure, Result.andThen_ok, e2, h1, newRow, run_newObj]; rfl
      · simp only [if_neg h0, Sem.run_bind, hz.run_zeroValue, Sem.run_pure, Result.andThen_ok]
        rw [show (Array.map (fun x => zv.cells[x % zv.cells.size]!) (Array.range (len * zv.cells.size))) = conc from rfl, h1]
        simp only [Sem.run_bind, newRow, run_newObj, Result.andThen_ok, Sem.run_pure]; rfl
    · have hcl : (cellsOf (xs.map (ev env))).length = len * zv.cells.size := by
        have key : ∀ (l : List Operand), (∀ x, x ∈ l → (ev env x).cells.size = zv.cells.size) → (cellsOf (l.map (ev env))).length = l.length * zv.cells.size := by
          intro l
          induction l with
          | nil => intro _; simp [cellsOf]
          | cons x l ih =>
            intro h
            have := ih fun y hy => h y (by simp [hy])
            simp only [cellsOf, List.map_cons, List.flatMap_cons, List.length_append, Array.length_toList, List.length_cons] at this ⊢
            rw [this, h x (by simp), Nat.add_mul]; omega
        rw [key xs fun x hx => (hok x hx).2, hlen]
      refine .slice (L := ⟨w.heap.size, 0, ds.size, zv.cells.size⟩) len (Ren.set_self _ _ _) (Nat.le_refl _) fun _ => ?_
      simp only [hsz, hcl]; omega

def bytesV (l : List UInt8) : List Value := l.map fun b => .int .u8 b.toNat
theorem bytesV_known : ∀ l, known (bytesV l) = true
  | [] => rfl
  | b :: l => bytesV_known l
theorem bytesV_length (l : List UInt8) : (bytesV l).length = l.length := by simp [bytesV]
theorem op_b2s {s t e : TypeId} {x : Operand} {b o m : Nat} {l : List UInt8} (hs : P.underlying s = some (.slice e)) (he : P.underlying e = some (.int .u8)) (ht : P.underlying t = some .string)
    (hx : ev env x = .slice (some ⟨b, o, none⟩) m m) (hr : rd g b o m = bytesV l) : OpEv P T ⟨dst, .convert s t x, ty, pos, after, gd⟩ env n g (.string ⟨l.toArray⟩) n .nil :=
  .look fun w0 ρ w H ce hl hsim hop => by
    have h1 := hop x (by simp [Op.operands]); rw [hx] at h1
    refine ⟨.string ⟨l.toArray⟩, ?_, .string _⟩
    have hm : m = l.length := by rw [← rd_length g b m o, hr, bytesV_length]
    generalize hc : ce x = c at h1
    cases h1 with
    | @slice _ _ _ L C h hn hcap =>
      obtain ⟨cs, c1, c2, c3⟩ := hsim.rd (P := P) hl h (k := m) (o := o) (by rw [hr]; exact bytesV_known l)
      have hcs : cs = l.map fun b => Value.int .u8 b.toNat := by
        apply List.ext_getElem
        · simp [c1, hm]
        · intro i h1 h2
          have k := (c2 i (by omega)).2
          rw [hr] at k
          have hi : i < l.length := by simpa using h2
          have e1 : (bytesV l).getD i (.tuple #[]) = .int .u8 (l[i]).toNat := by simp [bytesV, List.getD, hi]
          have e2 : cs.getD i (.tuple #[]) = cs[i] := by simp [List.getD, h1]
          rw [e1, e2] at k
          rw [k.int_inv]; simp
      have e3 : (l.map fun b => Value.int .u8 b.toNat) = (l.map fun b => (b.toNat : Int)).map (Value.int .u8) := by simp
      rw [hcs, e3] at c3
      simp only [execOp, hc]
      have := run_convert_bytes_string (P := P) w s t e (some ⟨L.blk, L.off + o, none⟩) m C hs he ht
      rw [run_bytesToString w _ m C _ c3, foldl_push_bytes] at this
      simp only [Sem.run_bind, Sem.run_pure, this, Result.andThen_ok]
      simp [ByteArray.empty, ByteArray.emptyWithCapacity, Function.comp_def]
      rfl
    | slice0 a h =>
      have : l = [] := List.eq_nil_of_length_eq_zero hm.symm
      subst this
      simp only [execOp, hc]
      have := run_convert_bytes_string (P := P) w s t e (some a) 0 0 hs he ht
      rw [run_bytesToString w a 0 0 [] (by simp [loadCells, loadCellsFrom, Sem.run_pure])] at this
      simp only [Sem.run_bind, Sem.run_pure, this, Result.andThen_ok]
      rfl
theorem op_b2sNil {s t e : TypeId} {x : Operand} (hs : P.underlying s = some (.slice e)) (he : P.underlying e = some (.int .u8)) (ht : P.underlying t = some .string)
    (hx : ev env x = .slice none 0 0) : OpEv P T ⟨dst, .convert s t x, ty, pos, after, gd⟩ env n g (.string ⟨#[]⟩) n .nil :=
  .look fun w0 ρ w H ce hl hsim hop => by
    have h1 := hop x (by simp [Op.operands]); rw [hx] at h1
    refine ⟨.string ⟨#[]⟩, ?_, .string _⟩
    have hc : ce x = .slice none 0 0 := by generalize ce x = c at h1; cases h1; rfl
    have := run_convert_bytes_string (P := P) w s t e none 0 0 hs he ht
    simp only [execOp, hc, Sem.run_bind, Sem.run_pure, this, Result.andThen_ok]
    simp [Conv.bytesToString, Sem.run_pure]
    rfl

end
end Go.Abs
