/- Iterators: what is asked of the function that is handed in, and what is told of the one that calls it; memory that stays but for some blocks. -/
import Derived.Test.YtchfnjfmlhacfaaAbsRange

namespace Go.Abs
open Go.RowKit

/-- Below n all is as it was, but for blocks of W. -/
structure ExtW (W : Nat → Prop) (n : Nat) (h h1 : AH) : Prop where
  info : ∀ b, b < n → ¬ W b → h1.info b = h.info b
  cell : ∀ b i, b < n → ¬ W b → h1.cell b i = h.cell b i
section
variable {W W' : Nat → Prop} {n n1 : Nat} {h h1 h2 : AH}
theorem ExtW.refl (W : Nat → Prop) (n : Nat) (h : AH) : ExtW W n h h := ⟨fun _ _ _ => rfl, fun _ _ _ _ => rfl⟩
theorem ExtW.of (e : Ext n1 h h1) (hn : n ≤ n1) : ExtW W n h h1 := ⟨fun b hb _ => e.info b (by omega), fun b i hb _ => e.cell b i (by omega)⟩
theorem ExtW.ext (e : ExtW W n h h1) (hW : ∀ b, b < n → ¬ W b) : Ext n h h1 := ⟨fun b hb => e.info b hb (hW b hb), fun b i hb => e.cell b i hb (hW b hb)⟩
theorem ExtW.extM {m : Nat} (e : ExtW W n h h1) (hm : m ≤ n) (hW : ∀ b, W b → m ≤ b) : Ext m h h1 :=
  ⟨fun b hb => e.info b (by omega) (fun k => by have := hW b k; omega), fun b i hb => e.cell b i (by omega) (fun k => by have := hW b k; omega)⟩
theorem ExtW.trans (a : ExtW W n h h1) (b : ExtW W' n1 h1 h2) (hn : n ≤ n1) (hW : ∀ x, x < n → W' x → W x) : ExtW W n h h2 :=
  ⟨fun x hx hw => (b.info x (by omega) (fun k => hw (hW x hx k))).trans (a.info x hx hw), fun x i hx hw => (b.cell x i (by omega) (fun k => hw (hW x hx k))).trans (a.cell x i hx hw)⟩
theorem ExtW.then (a : ExtW W n h h1) (b : Ext n1 h1 h2) (hn : n ≤ n1) : ExtW W n h h2 :=
  ⟨fun x hx hw => (b.info x (by omega)).trans (a.info x hx hw), fun x i hx hw => (b.cell x i (by omega)).trans (a.cell x i hx hw)⟩
theorem ExtW.mono (a : ExtW W n1 h h1) (hn : n ≤ n1) (hW : ∀ x, x < n → W x → W' x) : ExtW W' n h h1 :=
  ⟨fun x hx hw => a.info x (by omega) (fun k => hw (hW x hx k)), fun x i hx hw => a.cell x i (by omega) (fun k => hw (hW x hx k))⟩
theorem ExtW.via (b : ExtW W' n1 h1 h2) (hn : n ≤ n1) (hW : ∀ x, x < n → W' x → W x) (a : ExtW W n h h1) : ExtW W n h h2 := a.trans b hn hW
theorem ExtW.viaE (b : Ext n1 h1 h2) (hn : n ≤ n1) (a : ExtW W n h h1) : ExtW W n h h2 := a.then b hn
theorem ExtW.appNew {b : Nat} {m : Meta} {cs : List Value} (hb : n ≤ b) (e : ExtW W n h h1) : ExtW W n h (h1.app (.new b m cs)) := e.then (Ext.appNew (Nat.le_refl _) (Ext.refl b h1)) hb
theorem ExtW.appSets {b o : Nat} {vs : List Value} (hb : W b ∨ n ≤ b) (e : ExtW W n h h1) : ExtW W n h (h1.app (.sets b o vs)) :=
  ⟨fun x hx hw => (sets_info _ _ _ _ _).trans (e.info x hx hw), fun x i hx hw => by
    have hne : x ≠ b := fun q => by subst q; rcases hb with k | k <;> first | exact hw k | omega
    rw [← e.cell x i hx hw]; simp [AH.app, Dl.sets, hne]⟩
theorem ExtW.appObj {b : Nat} {o : AObj} (hb : W b ∨ n ≤ b) (e : ExtW W n h h1) : ExtW W n h (h1.app (.obj b o)) :=
  ⟨fun x hx hw => by
    have hne : x ≠ b := fun q => by subst q; rcases hb with k | k <;> first | exact hw k | omega
    rw [← e.info x hx hw, obj_info, if_neg hne], fun x i hx hw => by rw [← e.cell x i hx hw, obj_cell]⟩
theorem ExtW.appTake {b c sz lk ez : Nat} {keep : Bool} {cs : List Value} (hb : W b ∨ n ≤ b) (hc : n ≤ c) (e : ExtW W n h h1) : ExtW W n h (h1.app (.takeover b c keep sz lk ez cs)) :=
  ⟨fun x hx hw => by
    have hne : x ≠ b := fun q => by subst q; rcases hb with k | k <;> first | exact hw k | omega
    have hnc : x ≠ c := by omega
    rw [← e.info x hx hw]; simp [AH.app, Dl.takeover, hne, hnc], fun x i hx hw => by
    have hne : x ≠ b := fun q => by subst q; rcases hb with k | k <;> first | exact hw k | omega
    have hnc : x ≠ c := by omega
    rw [← e.cell x i hx hw]; simp [AH.app, Dl.takeover, hne, hnc]⟩
theorem ExtW.below {m : Nat} (hb : n ≤ m) (e : ExtW W n h h1) : ExtW W n h (h1.below m) := e.then (Ext.below (Nat.le_refl _) (Ext.refl _ _)) hb
theorem Ext.appObj {b : Nat} {o : AObj} (hb : n ≤ b) (e : Ext n h h1) : Ext n h (h1.app (.obj b o)) :=
  ⟨fun x hx => by rw [← e.info x hx, obj_info, if_neg (by omega)], fun x i hx => by rw [← e.cell x i hx, obj_cell]⟩
theorem Ext.viaW (b : ExtW W n1 h1 h2) (hn : n ≤ n1) (hW : ∀ x, W x → n ≤ x) (a : Ext n h h1) : Ext n h h2 := a.then (b.extM hn hW)
theorem c_obj {b x i : Nat} {o : AObj} {v : Value} (k : h.cell x i = v) : (h.app (.obj b o)).cell x i = v := by rw [obj_cell]; exact k
theorem i_obj {b : Nat} {o : AObj} : (h.app (.obj b o)).info b = some o.m := by rw [obj_info, if_pos rfl]
theorem i_obj_ne {b x : Nat} {o : AObj} {q : Option Meta} (hb : x ≠ b) (k : h.info x = q) : (h.app (.obj b o)).info x = q := by rw [obj_info, if_neg hb]; exact k
theorem c_extW {x i : Nat} {v : Value} (e : ExtW W n h h1) (hx : x < n) (hw : ¬ W x) (k : h.cell x i = v) : h1.cell x i = v := (e.cell x i hx hw).trans k
theorem i_extW {x : Nat} {v : Option Meta} (e : ExtW W n h h1) (hx : x < n) (hw : ¬ W x) (k : h.info x = v) : h1.info x = v := (e.info x hx hw).trans k
end

theorem SlR.ltA {h : AH} {n z m : Nat} {a : Option Addr} {f : Nat → Value} (s : SlR h n a z m f) (ha : a ≠ none) : sb a < n := by
  rcases s.shape with k | k
  · exact absurd k.1 ha
  · exact k.2.1
theorem SlR.extW {W : Nat → Prop} {h h' : AH} {n n' z m : Nat} {a : Option Addr} {f : Nat → Value} (s : SlR h n a z m f) (e : ExtW W n h h') (hn : n ≤ n') (hW : a ≠ none → ¬ W (sb a)) : SlR h' n' a z m f where
  shape := by
    rcases s.shape with k | ⟨k1, k2, mm, k3, k4⟩
    · exact .inl k
    · exact .inr ⟨k1, by omega, mm, by rw [e.info _ k2 (hW (by rw [k1]; simp))]; exact k3, k4⟩
  cell := fun j hj => by
    have hm : 0 < m := Nat.pos_of_ne_zero fun h0 => by subst h0; simp at hj
    rcases s.shape with k | k
    · omega
    · rw [e.cell _ _ (s.lt hm) (hW (by rw [k.1]; simp))]; exact s.cell j hj
section
variable {P : Program} {T W : Nat → Prop} {ops : Array Oper} {os : List Oper} {env : Env} {n n1 : Nat} {h h1 g : AH} {Q : Env → Nat → AH → Prop} {ps : List Ft}
variable {dst : Option Tmp} {ty : TypeId} {pos : String} {after : Array Edge} {gd : Option (Nat × Bool)}
/-- A function value is called. -/
theorem RS.callV {d : Tmp} {x : Operand} {fv : Value} {xs : List Operand} {vs : List Value} {ts : Array TypeId} {QC : Value → Nat → AH → Prop} (hw : wants ops ⟨some d, .call { callee := .value x, args := xs.toArray, argTypes := ts }, ty, pos, after, gd⟩ env = some true)
    (hf : Opd env x fv) (hx : Opds env xs vs) (hev : VF P W fv vs.toArray n h QC) (hW : ∀ b, W b → T b) (k : ∀ r n1 h1, n ≤ n1 → QC r n1 h1 → RS P T ops os ((d, r) :: env) n1 h1 Q) :
    RS P T ops (⟨some d, .call { callee := .value x, args := xs.toArray, argTypes := ts }, ty, pos, after, gd⟩ :: os) env n h Q := by
  obtain ⟨r, n1, h1, hev, hq⟩ := hev
  rw [← hx.mapA] at hev
  obtain ⟨dl, hle, _, ho⟩ := op_callV (T := T) (ty := ty) (dst := some d) (pos := pos) (after := after) (gd := gd) (ts := ts) hf.ev hev hW
  exact RS.op hw ho hle (k r n1 h1 ho.le hq)
/-- The same in a region that draws its order. It looks at all below nb, and turns blocks of W, which lie below nb. -/
theorem CF.clW {W : Nat → Prop} {k nb j : Nat} {y : Ft} {ys : List Ft} (h : ∀ b, b < nb → ¬ (y.W b ∨ (y.n ≤ b ∧ b < y.n'))) (h2 : ∀ b, y.R b → ¬ W b) (hW : ∀ b, W b → b < nb) (t : CF ops k (· < nb) W j ys) : CF ops k (· < nb) W (j + 1) (y :: ys) :=
  .free (fun b e => h b e) h2 (fun b e => h b (hW b e)) t
theorem RD.callV {d : Tmp} {x : Operand} {fv : Value} {xs : List Operand} {vs : List Value} {ts : Array TypeId} {QC : Value → Nat → AH → Prop} (nb : Nat) (hw : wants ops ⟨some d, .call { callee := .value x, args := xs.toArray, argTypes := ts }, ty, pos, after, gd⟩ env = some true)
    (hf : Opd env x fv) (hx : Opds env xs vs) (hev : VF P W fv vs.toArray n (h.below nb) QC) (hW : ∀ b, W b → T b) (hnb : nb ≤ n) (hc : CF ops ps.length (· < nb) W ps.length ps)
    (k : ∀ r n1 h1, n ≤ n1 → QC r n1 h1 → RD P T ops (⟨(· < nb), W, n, n1⟩ :: ps) os ((d, r) :: env) n1 h1 Q) :
    RD P T ops ps (⟨some d, .call { callee := .value x, args := xs.toArray, argTypes := ts }, ty, pos, after, gd⟩ :: os) env n h Q := by
  obtain ⟨r, n1, h1, hev, hq⟩ := hev
  rw [← hx.mapA] at hev
  obtain ⟨dl, hle, hwi, ho⟩ := op_callV (T := T) (ty := ty) (dst := some d) (pos := pos) (after := after) (gd := gd) (ts := ts) hf.ev hev hW
  exact RD.op (· < nb) W hw ho (AH.below_le _ _) (fun _ hx => AH.below_looks hx) (fun _ e => Nat.lt_of_lt_of_le e hnb) (fun b hb => (hwi b hb).1) hc (hle.trans ((AH.below_le h nb).app dl)) (k r n1 h1 ho.le hq)
theorem RD.callW {d : Tmp} {f : FuncId} {xs : List Operand} {vs : List Value} {ts : Array TypeId} {QC : Value → Nat → AH → Prop} (nb : Nat) (hw : wants ops ⟨some d, .call { callee := .value (.func f), args := xs.toArray, argTypes := ts }, ty, pos, after, gd⟩ env = some true)
    (hx : Opds env xs vs) (hev : RF P W f vs.toArray n (h.below nb) QC) (hW : ∀ b, W b → T b) (hnb : nb ≤ n) (hc : CF ops ps.length (· < nb) W ps.length ps)
    (k : ∀ r n1 h1, n ≤ n1 → QC r n1 h1 → RD P T ops (⟨(· < nb), W, n, n1⟩ :: ps) os ((d, r) :: env) n1 h1 Q) :
    RD P T ops ps (⟨some d, .call { callee := .value (.func f), args := xs.toArray, argTypes := ts }, ty, pos, after, gd⟩ :: os) env n h Q := by
  obtain ⟨r, n1, h1, hev, hq⟩ := hev
  rw [← hx.mapA] at hev
  obtain ⟨dl, hle, hwi, ho⟩ := op_call (T := T) (ty := ty) (dst := some d) (pos := pos) (after := after) (gd := gd) (ts := ts) hev hW
  exact RD.op (· < nb) W hw ho (AH.below_le _ _) (fun _ hx => AH.below_looks hx) (fun _ e => Nat.lt_of_lt_of_le e hnb) (fun b hb => (hwi b hb).1) hc (hle.trans ((AH.below_le h nb).app dl)) (k r n1 h1 ho.le hq)
end

/-- fv takes the values, one after the other; each time it says whether it wants more. I: what holds ahead of the i-th; D: what holds once it wants no more. -/
structure Iter (P : Program) (W : Nat → Prop) (fv : Value) (vals : List (List Value)) (I : Nat → Nat → AH → Prop) (D : Nat → AH → Prop) : Prop where
  mono : ∀ i n h n' h', I i n h → n ≤ n' → Ext n h h' → I i n' h'
  step : ∀ (i : Nat) (vs : List Value) n h, vals[i]? = some vs → I i n h → VF P W fv vs.toArray n h fun r n' h' => (r = .bool true ∧ I (i + 1) n' h') ∨ (r = .bool false ∧ D n' h')
/-- f, with what it captured, tells a function the values; K: what it needs of memory. -/
def IterF (P : Program) (f : FuncId) (caps : List Value) (vals : List (List Value)) (K : Nat → AH → Prop) : Prop :=
  ∀ (W : Nat → Prop) (fv : Value) (I : Nat → Nat → AH → Prop) (D : Nat → AH → Prop) (n : Nat) (h : AH), Iter P W fv vals I D → (∀ i n h, I i n h → K n h) → I 0 n h → 0 < n →
    RF P W f (fv :: caps).toArray n h fun _ n' h' => I vals.length n' h' ∨ D n' h'
end Go.Abs
