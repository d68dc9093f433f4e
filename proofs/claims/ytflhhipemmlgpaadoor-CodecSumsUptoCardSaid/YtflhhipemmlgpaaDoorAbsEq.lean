/- Rows that a function owns and appends to; results; calls (written by gen_own.py). -/
import Derived.Test.YtflhhipemmlgpaaDoorAbsTy
import Derived.OpenShut
import Derived.Carry
import Derived.Test.YtflhhipemmlgpaaDoorAbsRows2
import Derived.Laws.StructEq
set_option linter.unusedSimpArgs false
set_option linter.unusedVariables false
namespace Go.Abs
open Go.RowKit

/-- A slice of m elements of z cells, cs, from the begin of a block of its own with a number from n0 on; or none yet. -/
structure OwnSl (h : AH) (n0 n : Nat) (a : Option Addr) (z m : Nat) (cs : List Value) : Prop where
  le : n0 ≤ n
  len : cs.length = m * z
  kn : known cs = true
  or : (a = none ∧ m = 0) ∨ (a = some ⟨sb a, 0, none⟩ ∧ n0 ≤ sb a ∧ sb a < n ∧ h.info (sb a) = some ⟨m * z, 0, true, z⟩ ∧ rd h (sb a) 0 (m * z) = cs)

section
variable {h h1 : AH} {n0 n n1 : Nat} {a : Option Addr} {z m : Nat} {cs : List Value}
theorem OwnSl.nil (hn : n0 ≤ n) : OwnSl h n0 n none z 0 [] := ⟨hn, by simp, rfl, .inl ⟨rfl, rfl⟩⟩
theorem OwnSl.slr (o : OwnSl h n0 n a z m cs) : SlR h n a z m (fun j => cs.getD j (.tuple #[])) := by
  rcases o.or with ⟨k1, k2⟩ | ⟨k1, k2, k3, k4, k5⟩
  · subst k1; subst k2; exact .nil
  · have e : so a = 0 := by rw [k1]; rfl
    refine ⟨.inr ⟨by rw [e]; exact k1, k3, _, k4, rfl⟩, fun j hj => ?_⟩
    have := rd_getD h (sb a) (m * z) 0 j hj
    rw [k5] at this
    rw [e]; exact this.symm
theorem OwnSl.ext (o : OwnSl h n0 n a z m cs) (e : Ext n h h1) (hn : n ≤ n1) : OwnSl h1 n0 n1 a z m cs := by
  refine ⟨Nat.le_trans o.le hn, o.len, o.kn, ?_⟩
  rcases o.or with k | ⟨k1, k2, k3, k4, k5⟩
  · exact .inl k
  · exact .inr ⟨k1, k2, by omega, by rw [e.info _ k3]; exact k4, by rw [rd_ext e k3]; exact k5⟩
theorem ExtX.ext (e : ExtX n a h h1) (o : OwnSl h n0 n a z m cs) : Ext n0 h h1 := by
  have hn := o.le
  rcases o.or with ⟨k1, _⟩ | ⟨k1, k2, k3, _⟩
  · exact ⟨fun b hb => (e b (by omega) (.inl k1)).1, fun b i hb => (e b (by omega) (.inl k1)).2 i⟩
  · exact ⟨fun b hb => (e b (by omega) (.inr (by omega))).1, fun b i hb => (e b (by omega) (.inr (by omega))).2 i⟩
theorem OwnSl.new (hn : n0 ≤ n) (hlen : cs.length = m * z) (hk : known cs = true) : OwnSl (h.app (.new n ⟨m * z, 0, true, z⟩ cs)) n0 (n + 1) (some ⟨n, 0, none⟩) z m cs := by
  refine ⟨by omega, hlen, hk, .inr ⟨rfl, hn, by show n < n + 1; omega, i_new, ?_⟩⟩
  exact r_new hlen.symm
theorem OwnSl.new1 (hn : n0 ≤ n) (hlen : cs.length = m) (hk : known cs = true) : OwnSl (h.app (.new n ⟨m, 0, true, 1⟩ cs)) n0 (n + 1) (some ⟨n, 0, none⟩) 1 m cs := by
  have := OwnSl.new (h := h) (z := 1) (m := m) (cs := cs) hn (by simpa using hlen) hk
  rwa [Nat.mul_one] at this
theorem OwnSl.mono (o : OwnSl h n0 n a z m cs) {n0' : Nat} (hl : n0' ≤ n0) : OwnSl h n0' n a z m cs := by
  have := o.le
  refine ⟨by omega, o.len, o.kn, ?_⟩
  rcases o.or with k | ⟨k1, k2, k3⟩
  · exact .inl k
  · exact .inr ⟨k1, by omega, k3⟩
/-- Another block changes. -/
theorem OwnSl.sets {b o' : Nat} {vs : List Value} (o : OwnSl h n0 n a z m cs) (hb : b < n0) : OwnSl (h.app (.sets b o' vs)) n0 n a z m cs := by
  refine ⟨o.le, o.len, o.kn, ?_⟩
  rcases o.or with k | ⟨k1, k2, k3, k4, k5⟩
  · exact .inl k
  · exact .inr ⟨k1, k2, k3, i_sets k4, by rw [r_sets_ne (by omega) k5]⟩

theorem OwnSl.setsN {b o' : Nat} {vs : List Value} (o : OwnSl h n0 n a z m cs) (hb : a = none ∨ sb a ≠ b) : OwnSl (h.app (.sets b o' vs)) n0 n a z m cs := by
  refine ⟨o.le, o.len, o.kn, ?_⟩
  rcases o.or with k | ⟨k1, k2, k3, k4, k5⟩
  · exact .inl k
  · refine .inr ⟨k1, k2, k3, i_sets k4, ?_⟩
    rcases hb with hb | hb
    · rw [hb] at k1; cases k1
    · rw [r_sets_ne hb k5]
/-- A slice's elements as a source. -/
theorem SlR.src {f : Nat → Value} (s : SlR h n a z m f) (hk : known ((List.range (m * z)).map f) = true) : Src h z (.slice a m m) m ((List.range (m * z)).map f) := by
  rcases s.shape with ⟨k1, k2⟩ | ⟨k1, _⟩
  · subst k1; subst k2
    simp; exact .nil
  · have := SlR.rd s (Ext.refl n h) (i := 0) (k := m * z) (by omega)
    simp only [Nat.add_zero, Nat.zero_add] at this
    have e : (fun j => f j) = f := rfl
    rw [e] at this
    rw [← this] at hk ⊢
    rw [show Value.slice a m m = Value.slice (some ⟨sb a, so a, none⟩) m m by rw [← k1]]
    exact .slice (Nat.le_refl _) hk
theorem OwnSl.src (o : OwnSl h n0 n a z m cs) : Src h z (.slice a m m) m cs := by
  rcases o.or with ⟨k1, k2⟩ | ⟨k1, k2, k3, k4, k5⟩
  · subst k1; subst k2
    have : cs = [] := List.eq_nil_of_length_eq_zero (by have := o.len; omega)
    subst this; exact .nil
  · have hk := o.kn
    rw [← k5] at hk ⊢
    rw [show Value.slice a m m = Value.slice (some ⟨sb a, 0, none⟩) m m by rw [← k1]]
    exact .slice (Nat.le_refl _) hk
theorem OwnSl.slb {h : AH} {n0 n : Nat} {a : Option Addr} {l : List UInt8} (o : OwnSl h n0 n a 1 l.length (bytesV l)) : SlB h n a l :=
  o.slr.congr fun j hj => by simp [bytesV, bytesF, List.getD, show j < l.length by omega]
theorem SlB.src {h : AH} {n : Nat} {a : Option Addr} {l : List UInt8} (s : SlB h n a l) : Src h 1 (.slice a l.length l.length) l.length (bytesV l) := by
  have e : (List.range (l.length * 1)).map (bytesF l) = bytesV l := by
    apply List.ext_getElem
    · simp [bytesV]
    · intro i h1 h2
      have hi : i < l.length := by simpa [bytesV] using h2
      simp [bytesV, bytesF, List.getD, hi]
  have := SlR.src s (by rw [e]; exact bytesV_known l)
  rwa [e] at this
theorem SlR.two {h : AH} {n : Nat} {a : Option Addr} {z m : Nat} {f : Nat → Value} (s : SlR h n a z m f) : (a = none ∧ m = 0) ∨ ∃ b o, a = some ⟨b, o, none⟩ := by
  rcases s.shape with k | k
  · exact .inl k
  · exact .inr ⟨_, _, k.1⟩
theorem OwnSl.facts (o : OwnSl h n0 n a z m cs) (hm : 0 < m) : so a = 0 ∧ n0 ≤ sb a ∧ sb a < n ∧ h.info (sb a) = some ⟨m * z, 0, true, z⟩ ∧ SlA a m ∧ ∀ j, j < m * z → h.cell (sb a) (so a + j) = cs.getD j (.tuple #[]) := by
  have hs := o.slr
  rcases o.or with ⟨k1, k2⟩ | ⟨k1, k2, k3, k4, k5⟩
  · omega
  · exact ⟨by rw [k1]; rfl, k2, k3, k4, hs.sla, hs.cell⟩
/-- One of its cells is set. -/
theorem OwnSl.set1 {i : Nat} {v : Value} (o : OwnSl h n0 n a z m cs) (hi : i < m * z) (hv : known [v] = true) : OwnSl (h.app (.sets (sb a) (so a + i) [v])) n0 n a z m (cs.set i v) := by
  have hm : 0 < m := Nat.pos_of_ne_zero fun h0 => by subst h0; simp at hi
  have hk : ∀ (l : List Value) (i : Nat), known l = true → known (l.set i v) = true := by
    intro l
    induction l with
    | nil => intro i h; exact h
    | cons x l ih =>
      intro i h
      cases i with
      | zero => cases x <;> simp_all [known] <;> (cases v <;> simp_all [known])
      | succ i => cases x <;> simp_all [known]
  refine ⟨o.le, by simp [o.len], hk _ _ o.kn, ?_⟩
  rcases o.or with ⟨k1, k2⟩ | ⟨k1, k2, k3, k4, k5⟩
  · omega
  · have e : so a = 0 := by rw [k1]; rfl
    refine .inr ⟨k1, k2, k3, i_sets k4, ?_⟩
    apply List.ext_getElem
    · rw [rd_length]; simp [o.len]
    · intro j h1 h2
      rw [rd_length] at h1
      have e1 := rd_getD (h.app (.sets (sb a) (so a + i) [v])) (sb a) (m * z) 0 j h1
      have e2 : (rd (h.app (.sets (sb a) (so a + i) [v])) (sb a) 0 (m * z)).getD j (.tuple #[]) = (rd (h.app (.sets (sb a) (so a + i) [v])) (sb a) 0 (m * z))[j]'(by rw [rd_length]; exact h1) := by simp [List.getD, rd_length, h1]
      rw [← e2, e1]
      have h3 : j < cs.length := by rw [o.len]; exact h1
      by_cases hj : j = i
      · subst hj
        rw [c_in (v := v) (by omega) (by rw [e]; simp)]
        simp
      · rw [c_out (v := h.cell (sb a) (0 + j)) (by right; simp only [List.length_cons, List.length_nil]; omega) rfl]
        have := rd_getD h (sb a) (m * z) 0 j h1
        rw [k5] at this
        rw [← this]
        simp [List.getD, h3, List.getElem_set_ne (Ne.symm hj)]
theorem SlR.take {f : Nat → Value} {u : Nat} (s : SlR h n a z m f) (hu : u ≤ m) : SlR h n a z u f := by
  refine ⟨?_, fun j hj => s.cell j (Nat.lt_of_lt_of_le hj (Nat.mul_le_mul_right _ hu))⟩
  rcases s.shape with ⟨k1, k2⟩ | k
  · exact .inl ⟨k1, by omega⟩
  · exact .inr k
theorem SlB.take {u : Nat} {l : List UInt8} (s : SlB h n a l) (hu : u ≤ l.length) : SlB h n a (l.take u) := by
  have := SlR.take s hu
  have e : (l.take u).length = u := by simp; omega
  unfold SlB
  rw [e]
  refine this.congr fun j hj => ?_
  simp only [bytesF, List.getD, List.getElem?_take]
  rw [if_pos (by omega)]
theorem OwnSl.slbE {l : List UInt8} (o : OwnSl h n0 n a 1 m (bytesV l)) : SlB h n a l := by
  have : m = l.length := by have := o.len; rw [bytesV_length] at this; omega
  subst this; exact o.slb
theorem bytesV_set (l : List UInt8) (i v : Nat) (hv : v < 256) : (bytesV l).set i (.int .u8 (v : Nat)) = bytesV (l.set i (UInt8.ofNat v)) := by
  simp only [bytesV, List.map_set]
  congr 2
  simp [UInt8.toNat_ofNat', Nat.mod_eq_of_lt hv]
theorem SlB.takeA {h : AH} {n : Nat} {a : Option Addr} {l : List UInt8} (S : SlB h n a l) (u : Nat) : SlB h n a (l.take u) := by
  by_cases hu : u ≤ l.length
  · exact S.take hu
  · rw [List.take_of_length_le (by omega)]; exact S
theorem SlB.cut {i u : Nat} {l : List UInt8} (s : SlB h n a l) (hi : i ≤ u) (hu : u ≤ l.length) : SlB h n (Abs.sub a i) ((l.take u).drop i) := by
  have := SlR.sub s hi hu
  rw [Nat.mul_one] at this
  have e : ((l.take u).drop i).length = u - i := by simp; omega
  unfold SlB
  rw [e]
  refine this.congr fun j hj => ?_
  simp only [bytesF, List.getD, List.getElem?_drop, List.getElem?_take]
  rw [if_pos (by omega)]
theorem full_slice {a : Option Addr} {m c : Nat} : full (.slice a m c) m := rfl
end

section
variable {P : Program} {T W : Nat → Prop} {ops : Array Oper} {os : List Oper} {env : Env} {n n1 : Nat} {h h1 g : AH} {Q : Env → Nat → AH → Prop}
variable {dst : Option Tmp} {ty : TypeId} {pos : String} {after : Array Edge} {gd : Option (Nat × Bool)}

theorem SlR.extX {h h1 : AH} {n z m : Nat} {a c : Option Addr} {f : Nat → Value} (s : SlR h n a z m f) (e : ExtX n c h h1) (hne : c = none ∨ a = none ∨ sb a ≠ sb c) : SlR h1 n a z m f := by
  rcases s.shape with ⟨k1, k2⟩ | ⟨k1, k2, mm, k3, k4⟩
  · subst k1; subst k2; exact SlR.nil
  · have hx : c = none ∨ sb a ≠ sb c := by
      rcases hne with q | q | q
      · exact .inl q
      · rw [q] at k1; cases k1
      · exact .inr q
    have := e (sb a) k2 hx
    exact ⟨.inr ⟨k1, k2, mm, by rw [this.1]; exact k3, k4⟩, fun j hj => (this.2 _).trans (s.cell j hj)⟩
theorem OwnSl.at' {h : AH} {n0 n z m : Nat} {a : Option Addr} {cs : List Value} (o : OwnSl h n0 n a z m cs) : a = none ∨ n0 ≤ sb a ∧ sb a < n := by
  rcases o.or with ⟨k, _⟩ | ⟨_, k1, k2, _⟩
  · exact .inl k
  · exact .inr ⟨k1, k2⟩
theorem OwnSl.extX {h h1 : AH} {n0 n n1 z m : Nat} {a c : Option Addr} {cs : List Value} (o : OwnSl h n0 n a z m cs) (e : ExtX n c h h1) (hn : n ≤ n1) (hne : c = none ∨ a = none ∨ sb a ≠ sb c) : OwnSl h1 n0 n1 a z m cs := by
  refine ⟨by have := o.le; omega, o.len, o.kn, ?_⟩
  rcases o.or with k | ⟨k1, k2, k3, k4, k5⟩
  · exact .inl k
  · have hx : c = none ∨ sb a ≠ sb c := by
      rcases hne with q | q | q
      · exact .inl q
      · rw [q] at k1; cases k1
      · exact .inr q
    have := e (sb a) k3 hx
    exact .inr ⟨k1, k2, by omega, by rw [this.1]; exact k4, by rw [rd_congr this.2]; exact k5⟩
theorem OwnSl.extW {W : Nat → Prop} {h h1 : AH} {n0 n n1 n2 z m : Nat} {a : Option Addr} {cs : List Value} (o : OwnSl h n0 n a z m cs) (e : ExtW W n2 h h1) (hn : n ≤ n1) (hn2 : n ≤ n2) (hW : a ≠ none → ¬ W (sb a)) : OwnSl h1 n0 n1 a z m cs := by
  refine ⟨by have := o.le; omega, o.len, o.kn, ?_⟩
  rcases o.or with k | ⟨k1, k2, k3, k4, k5⟩
  · exact .inl k
  · have hw := hW (by rw [k1]; simp)
    exact .inr ⟨k1, k2, by omega, by rw [e.info _ (by omega) hw]; exact k4, by rw [rd_congr (fun i => e.cell _ i (by omega) hw)]; exact k5⟩
theorem ExtW.ofX {W : Nat → Prop} {h h1 : AH} {n : Nat} {a : Option Addr} (e : ExtX n a h h1) (hW : a ≠ none → W (sb a)) : ExtW W n h h1 := by
  have hx : ∀ b, ¬ W b → a = none ∨ b ≠ sb a := fun b hw => by
    by_cases q : a = none
    · exact .inl q
    · exact .inr fun e => hw (e ▸ hW q)
  exact ⟨fun b hb hw => (e b hb (hx b hw)).1, fun b i hb hw => (e b hb (hx b hw)).2 i⟩
/-- append(nil, y...) in a region that draws its order. -/
theorem RD.appendN {q : Tmp} {t t2 e : TypeId} {d d2 : TypeDesc} {z by_ : Nat} {zv : Value} {x y : Operand} {m : Nat} {a : Option Addr} {f : Nat → Value} {h0 : AH} {n0 : Nat} {ps : List Ft} [hu : Uc P t (.slice e)] [hz : Tc P e d z by_ zv] [hu2 : Uc P t2 d2]
    (hw : wants ops ⟨some q, .call { callee := .builtin .append, args := #[x, y], argTypes := #[t, t2] }, ty, pos, after, gd⟩ env = some true) (hx : Opd env x (.slice none 0 0)) (hy : Opd env y (.slice a m m)) (S : SlR h0 n0 a z m f) (E : Ext n0 h0 h) (hn : n0 ≤ n) (hb : sb a < n)
    (hk : known ((List.range (m * z)).map f) = true) (hbig : m * by_ ≤ 140737488355328) (hc : CF ops ps.length (· = sb a) none' ps.length ps)
    (K : ∀ a' n1 h1, n ≤ n1 → OwnSl h1 n n1 a' z m ((List.range (m * z)).map f) → Ext n h h1 → RD P T ops (⟨(· = sb a), none', n, n1⟩ :: ps) os ((q, .slice a' m m) :: env) n1 h1 Q)
    (c1 : Nat.beq z 0 = false := by rfl) (c2 : zv.cells.size = z := by rfl) (c3 : Nat.beq by_ 0 = false := by rfl) (c4 : notIntD d2 = true := by rfl) :
    RD P T ops ps (⟨some q, .call { callee := .builtin .append, args := #[x, y], argTypes := #[t, t2] }, ty, pos, after, gd⟩ :: os) env n h Q := by
  have hz0 : z ≠ 0 := fun h => by subst h; simp at c1
  have hb0 : by_ ≠ 0 := fun h => by subst h; simp at c3
  have he : EL P t t2 z by_ := ⟨e, d, zv, d2, hu.out, hz.out, hz0, c2, hb0, hu2.out, c4⟩
  by_cases hm : m = 0
  · subst hm
    have h0' : Src AH.empty z (.slice a 0 0) 0 [] := by
      rcases S.shape with ⟨k1, _⟩ | ⟨k1, _⟩
      · subst k1; exact Src.nil
      · rw [k1]
        have := Src.slice (g := AH.empty) (z := z) (b := sb a) (o := so a) (m := 0) (k := 0) (Nat.le_refl _) (by simp [rd, known])
        simpa [rd] using this
    refine RD.op (· = sb a) none' hw (o_append0 he hx hy h0' full_slice) (AH.empty_le _) empty_looks (fun _ e => by subst e; exact hb) (fun b hb => (Dl.touches_nil hb).elim) hc (h1 := h) (by rw [AH.app_nil]; exact .refl _) ?_
    exact K none n h (Nat.le_refl _) (by simpa using OwnSl.nil (Nat.le_refl _)) (Ext.refl _ _)
  · rcases S.shape with ⟨_, k⟩ | ⟨k1, k2, mm, k3, k4⟩
    · exact absurd k hm
    · have S' : SlR (h.only (sb a)) n0 a z m f := ⟨.inr ⟨k1, k2, mm, i_only (by rw [E.info _ k2]; exact k3), k4⟩, fun j hj => c_only ((E.cell _ _ k2).trans (S.cell j hj))⟩
      have hsr := S'.src hk
      have hlx := hsr.length
      refine RD.op (· = sb a) none' hw (o_appendNil he hx hy hsr full_slice hm hbig) (AH.only_le _ _) (fun _ hx => AH.only_looks hx) (fun _ e => by subst e; omega) (fun b hb => ?_) hc (.refl _) (K _ _ _ (Nat.le_succ _) ?_ (Ext.appNew (Nat.le_refl _) (Ext.refl _ _)))
      · rcases hb with h1 | ⟨i, h1⟩ <;> (simp only [Dl.new] at h1; split at h1) <;> first | omega | exact absurd rfl h1
      · rw [hlx]; exact .new (Nat.le_refl _) hlx hk
/-- A call of a function value that looks at no memory. -/
theorem RD.callv0 {d : Tmp} {f : FuncId} {x : Operand} {xs : List Operand} {vs : List Value} {ts : Array TypeId} {r : Value} {ps : List Ft} (hw : wants ops ⟨some d, .call { callee := .value x, args := xs.toArray, argTypes := ts }, ty, pos, after, gd⟩ env = some true)
    (hf : Opd env x (.func (.func f) #[] #[])) (hx : Opds env xs vs) (hev : Ev P none' f vs.toArray n .empty r n .empty) (k : RD P T ops (.no n n :: ps) os ((d, r) :: env) n h Q) :
    RD P T ops ps (⟨some d, .call { callee := .value x, args := xs.toArray, argTypes := ts }, ty, pos, after, gd⟩ :: os) env n h Q := by
  have hev2 : Ev P none' f (xs.toArray.map (ev env) ++ #[]) n .empty r n .empty := by rw [hx.mapA]; simpa using hev
  obtain ⟨dl, hle, hwi, ho⟩ := op_callv (T := T) (ty := ty) (dst := some d) (pos := pos) (after := after) (gd := gd) (ts := ts) hf.ev hev2 (fun _ h => h.elim)
  have hno : ∀ b, ¬ dl.touches b := fun b hb => by
    have := hwi b hb
    rcases this.1 with h1 | h1
    · exact h1
    · omega
  refine RD.op none' none' hw ho (AH.empty_le _) empty_looks (fun _ h => h.elim) (fun b hb => absurd hb (hno b)) (CF.pure ps) ?_ k
  have e : h.app dl = h := by
    have hi : ∀ b, dl.info b = none := fun b => Classical.byContradiction fun q => hno b (.inl q)
    have hc : ∀ b i, dl.cell b i = none := fun b i => Classical.byContradiction fun q => hno b (.inr ⟨i, q⟩)
    simp [AH.app, hi, hc]
  rw [e]; exact .refl _
/-- A call that only answers: memory is as it was. -/
theorem RD.callP {d : Tmp} {f : FuncId} {xs : List Operand} {vs : List Value} {ts : Array TypeId} {r : Value} {ps : List Ft} (nb : Nat) (hw : wants ops ⟨some d, .call { callee := .value (.func f), args := xs.toArray, argTypes := ts }, ty, pos, after, gd⟩ env = some true)
    (hx : Opds env xs vs) (hev : Ev P none' f vs.toArray n (h.below nb) r n (h.below nb)) (hnb : nb ≤ n) (hc : CF ops ps.length (· < nb) none' ps.length ps) (k : RD P T ops (⟨(· < nb), none', n, n⟩ :: ps) os ((d, r) :: env) n h Q) :
    RD P T ops ps (⟨some d, .call { callee := .value (.func f), args := xs.toArray, argTypes := ts }, ty, pos, after, gd⟩ :: os) env n h Q := by
  rw [← hx.mapA] at hev
  obtain ⟨dl, hle, hwi, ho⟩ := op_call (T := T) (ty := ty) (dst := some d) (pos := pos) (after := after) (gd := gd) (ts := ts) hev (fun _ h => h.elim)
  have hno : ∀ b, ¬ dl.touches b := fun b hb => by
    have := hwi b hb
    rcases this.1 with h1 | h1
    · exact h1
    · omega
  refine RD.op (· < nb) none' hw ho (AH.below_le _ _) (fun _ hx => AH.below_looks hx) (fun _ e => Nat.lt_of_lt_of_le e hnb) (fun b hb => absurd hb (hno b)) hc ?_ k
  have e : h.app dl = h := by
    have hi : ∀ b, dl.info b = none := fun b => Classical.byContradiction fun q => hno b (.inl q)
    have hc : ∀ b i, dl.cell b i = none := fun b i => Classical.byContradiction fun q => hno b (.inr ⟨i, q⟩)
    simp [AH.app, hi, hc]
  rw [e]; exact .refl _
/-- append(x, make(l)...) to a row of one's own. -/
theorem RS.appendZT {q : Tmp} {t t2 e : TypeId} {d : TypeDesc} {kk qq : IntKind} {z by_ : Nat} {zv : Value} {x y : Operand} {a : Option Addr} {n0 m : Nat} {l : Int} {cs : List Value} [hu : Uc P t (.slice e)] [hz : Tc P e d z by_ zv] [hu2 : Uc P t2 (.int qq)]
    (hw : wants ops ⟨some q, .call { callee := .builtin .append, args := #[x, y], argTypes := #[t, t2] }, ty, pos, after, gd⟩ env = some true) (hx : Opd env x (.slice a m m)) (hy : Opd env y (.int kk l)) (hO : OwnSl h n0 n a z m cs) (hl : 0 < l)
    (hT : a ≠ none → T (sb a)) (hbig : (m + l.toNat) * by_ ≤ 140737488355328) (hkn : known (zrow zv.cells.toList l.toNat) = true)
    (K : ∀ a' n1 h1, n ≤ n1 → OwnSl h1 n0 n1 a' z (m + l.toNat) (cs ++ zrow zv.cells.toList l.toNat) → ExtX n a h h1 → (a' = a ∨ n ≤ sb a') → RS P T ops os ((q, .slice a' (m + l.toNat) (m + l.toNat)) :: env) n1 h1 Q)
    (c1 : Nat.beq z 0 = false := by rfl) (c2 : zv.cells.size = z := by rfl) (c3 : Nat.beq by_ 0 = false := by rfl) (c4 : zv.cells.all (flat 8) = true := by first | rfl | (simp [Value.cells, flat]; done)) :
    RS P T ops (⟨some q, .call { callee := .builtin .append, args := #[x, y], argTypes := #[t, t2] }, ty, pos, after, gd⟩ :: os) env n h Q := by
  have hz0 : z ≠ 0 := fun h => by subst h; simp at c1
  have hb0 : by_ ≠ 0 := fun h => by subst h; simp at c3
  have hlim : l.toNat * by_ ≤ 140737488355328 := Nat.le_trans (Nat.mul_le_mul_right _ (by omega)) hbig
  have hY : AppY P t t2 ty e z by_ zv h (ev env y) l.toNat (zrow zv.cells.toList l.toNat) := by
    rw [hy.ev]; exact AppY.zeros hu.out hz.out hz0 hb0 c2 c4 hu2.out (by omega) hlim hkn
  have hlx := hY.len
  have happ : ∀ (l m : List Value), known l = true → known m = true → known (l ++ m) = true := by
    intro l m hl hm
    induction l with
    | nil => exact hm
    | cons v l ih => cases v <;> simp_all [known]
  rcases hO.or with ⟨k1, k2⟩ | ⟨k1, k2, k3, k4, k5⟩
  · subst k1; subst k2
    have : cs = [] := List.eq_nil_of_length_eq_zero (by have := hO.len; omega)
    subst this
    simp only [Nat.zero_add, List.nil_append] at K hbig
    refine RS.mem hw rfl (op_appendNilY hu.out hz.out hz0 c2 hx.ev hY (by omega) hlim) (K _ _ _ (Nat.le_succ _) ?_ ?_ (.inr (Nat.le_refl _)))
    · rw [hlx]; exact .new hO.le hlx hkn
    · exact fun x hx _ => ⟨by simp [AH.app, Dl.new, show x ≠ n by omega], fun i => by simp [AH.app, Dl.new, show x ≠ n by omega]⟩
  · have hx' := hx.ev
    rw [k1] at hx'
    have hop := op_appendY (P := P) (T := T) (n := n) (g := h) (env := env) (dst := some q) (ty := ty) (pos := pos) (after := after) (gd := gd) (mm := ⟨m * z, 0, true, z⟩) false hu.out hz.out hz0 c2 hx' hY k4 rfl rfl rfl (by rw [k5]; exact hO.kn) (.inl (hT (by rw [k1]; simp))) k3 (by omega) hbig
    rw [k5] at hop
    refine RS.mem hw rfl hop (K _ _ _ (Nat.le_succ _) ?_ ?_ (.inr (Nat.le_refl _)))
    · have hl2 : (cs ++ zrow zv.cells.toList l.toNat).length = (m + l.toNat) * z := by rw [List.length_append, hO.len, hlx, Nat.add_mul]
      refine ⟨by have := hO.le; omega, hl2, happ _ _ hO.kn hkn, .inr ⟨rfl, by have := hO.le; show n0 ≤ n; omega, by show n < n + 1; omega, ?_, ?_⟩⟩
      · have := i_take (h := h) (b := sb a) (n := n) (sz := m * z) (lk := 0) (ez := z) (keep := false) (cs := cs ++ zrow zv.cells.toList l.toNat)
        rw [hl2] at this; exact this
      · exact r_take hl2.symm
    · intro x hx hne
      have hne' : x ≠ sb a := by
        rcases hne with h | h
        · rw [h] at k1; cases k1
        · exact h
      exact ⟨by simp [AH.app, Dl.takeover, show x ≠ n by omega, hne'], fun i => by simp [AH.app, Dl.takeover, show x ≠ n by omega, hne']⟩
/-- A method, called through an interface. -/
theorem RS.invoke {d : Tmp} {f : FuncId} {x : Operand} {t : TypeId} {v : Value} {nm : String} {xs : List Operand} {vs : List Value} {ts : Array TypeId} {W : Nat → Prop} {QC : Value → Nat → AH → Prop} [Mc P t nm f]
    (hw : wants ops ⟨some d, .call { callee := .invoke x nm, args := xs.toArray, argTypes := ts }, ty, pos, after, gd⟩ env = some true) (hi : Opd env x (.iface t v)) (hx : Opds env xs vs) (hev : RF P W f (v :: vs).toArray n h QC) (hW : ∀ b, W b → T b)
    (k : ∀ r n1 h1, n ≤ n1 → QC r n1 h1 → RS P T ops os ((d, r) :: env) n1 h1 Q) : RS P T ops (⟨some d, .call { callee := .invoke x nm, args := xs.toArray, argTypes := ts }, ty, pos, after, gd⟩ :: os) env n h Q := by
  obtain ⟨r, n1, h1, hev, hq⟩ := hev
  have hev2 : Ev P W f (#[v] ++ xs.toArray.map (ev env)) n h r n1 h1 := by rw [hx.mapA]; simpa using hev
  obtain ⟨dl, hle, _, ho⟩ := op_invokeC (T := T) (name := nm) (ty := ty) (dst := some d) (pos := pos) (after := after) (gd := gd) (ts := ts) hi.ev hev2 hW
  exact RS.op hw ho hle (k r n1 h1 ho.le hq)
/-- The same in a region that draws its order: it looks at what lies below nb and turns W. -/
theorem RD.invoke {d : Tmp} {f : FuncId} {x : Operand} {t : TypeId} {v : Value} {nm : String} {xs : List Operand} {vs : List Value} {ts : Array TypeId} {W : Nat → Prop} {QC : Value → Nat → AH → Prop} {ps : List Ft} [Mc P t nm f] (nb : Nat)
    (hw : wants ops ⟨some d, .call { callee := .invoke x nm, args := xs.toArray, argTypes := ts }, ty, pos, after, gd⟩ env = some true) (hi : Opd env x (.iface t v)) (hx : Opds env xs vs) (hev : RF P W f (v :: vs).toArray n (h.below nb) QC) (hW : ∀ b, W b → T b)
    (hnb : nb ≤ n) (hc : CF ops ps.length (· < nb) W ps.length ps) (k : ∀ r n1 h1, n ≤ n1 → QC r n1 h1 → RD P T ops (⟨(· < nb), W, n, n1⟩ :: ps) os ((d, r) :: env) n1 h1 Q) :
    RD P T ops ps (⟨some d, .call { callee := .invoke x nm, args := xs.toArray, argTypes := ts }, ty, pos, after, gd⟩ :: os) env n h Q := by
  obtain ⟨r, n1, h1, hev, hq⟩ := hev
  have hev2 : Ev P W f (#[v] ++ xs.toArray.map (ev env)) n (h.below nb) r n1 h1 := by rw [hx.mapA]; simpa using hev
  obtain ⟨dl, hle, hwi, ho⟩ := op_invokeC (T := T) (name := nm) (ty := ty) (dst := some d) (pos := pos) (after := after) (gd := gd) (ts := ts) hi.ev hev2 hW
  exact RD.op (· < nb) W hw ho (AH.below_le _ _) (fun _ hx => AH.below_looks hx) (fun _ e => Nat.lt_of_lt_of_le e hnb) (fun b hb => (hwi b hb).1) hc (hle.trans ((AH.below_le h nb).app dl)) (k r n1 h1 ho.le hq)
/-- A call of a function value that holds what it has captured. -/
theorem RS.callv {d : Tmp} {f : FuncId} {x : Operand} {caps : List Value} {xs : List Operand} {vs : List Value} {ts : Array TypeId} {W : Nat → Prop} {QC : Value → Nat → AH → Prop}
    (hw : wants ops ⟨some d, .call { callee := .value x, args := xs.toArray, argTypes := ts }, ty, pos, after, gd⟩ env = some true) (hf : Opd env x (.func (.func f) #[] caps.toArray)) (hx : Opds env xs vs) (hev : RF P W f (vs ++ caps).toArray n h QC) (hW : ∀ b, W b → T b)
    (k : ∀ r n1 h1, n ≤ n1 → QC r n1 h1 → RS P T ops os ((d, r) :: env) n1 h1 Q) : RS P T ops (⟨some d, .call { callee := .value x, args := xs.toArray, argTypes := ts }, ty, pos, after, gd⟩ :: os) env n h Q := by
  obtain ⟨r, n1, h1, hev, hq⟩ := hev
  have hev2 : Ev P W f (xs.toArray.map (ev env) ++ caps.toArray) n h r n1 h1 := by rw [hx.mapA]; simpa using hev
  obtain ⟨dl, hle, _, ho⟩ := op_callv (T := T) (ty := ty) (dst := some d) (pos := pos) (after := after) (gd := gd) (ts := ts) hf.ev hev2 hW
  exact RS.op hw ho hle (k r n1 h1 ho.le hq)
/-- append to a row of one's own. -/
theorem RS.appendT {q : Tmp} {t t2 e : TypeId} {d d2 : TypeDesc} {z by_ : Nat} {zv : Value} {x y : Operand} {a : Option Addr} {n0 m k : Nat} {v : Value} {xs cs : List Value} [hu : Uc P t (.slice e)] [hz : Tc P e d z by_ zv] [hu2 : Uc P t2 d2]
    (hw : wants ops ⟨some q, .call { callee := .builtin .append, args := #[x, y], argTypes := #[t, t2] }, ty, pos, after, gd⟩ env = some true) (hx : Opd env x (.slice a m m)) (hy : Opd env y v) (hO : OwnSl h n0 n a z m cs) (hs : Src h z v k xs) (hf : full v k)
    (hT : a ≠ none → T (sb a)) (hbig : (m + k) * by_ ≤ 140737488355328)
    (K : ∀ a' n1 h1, n ≤ n1 → OwnSl h1 n0 n1 a' z (m + k) (cs ++ xs) → ExtX n a h h1 → (a' = a ∨ n ≤ sb a') → RS P T ops os ((q, .slice a' (m + k) (m + k)) :: env) n1 h1 Q)
    (c1 : Nat.beq z 0 = false := by rfl) (c2 : zv.cells.size = z := by rfl) (c3 : Nat.beq by_ 0 = false := by rfl) (c4 : notIntD d2 = true := by rfl) :
    RS P T ops (⟨some q, .call { callee := .builtin .append, args := #[x, y], argTypes := #[t, t2] }, ty, pos, after, gd⟩ :: os) env n h Q := by
  have hz0 : z ≠ 0 := fun h => by subst h; simp at c1
  have hb0 : by_ ≠ 0 := fun h => by subst h; simp at c3
  have he : EL P t t2 z by_ := ⟨e, d, zv, d2, hu.out, hz.out, hz0, c2, hb0, hu2.out, c4⟩
  have hlx := hs.length
  have hkx := hs.known
  have happ : ∀ (l m : List Value), known l = true → known m = true → known (l ++ m) = true := by
    intro l m hl hm
    induction l with
    | nil => exact hm
    | cons v l ih => cases v <;> simp_all [known]
  by_cases hk0 : k = 0
  · subst hk0
    have : xs = [] := List.eq_nil_of_length_eq_zero (by simpa using hlx)
    subst this
    refine RS.put hw rfl (o_append0 he hx hy hs hf) (K a n h (Nat.le_refl _) (by simpa using hO) (fun _ _ _ => ⟨rfl, fun _ => rfl⟩) (.inl rfl))
  · rcases hO.or with ⟨k1, k2⟩ | ⟨k1, k2, k3, k4, k5⟩
    · subst k1; subst k2
      have : cs = [] := List.eq_nil_of_length_eq_zero (by have := hO.len; omega)
      subst this
      simp only [Nat.zero_add, List.nil_append] at K hbig
      refine RS.mem hw rfl (o_appendNil he hx hy hs hf hk0 hbig) (K _ _ _ (Nat.le_succ _) ?_ ?_ (.inr (Nat.le_refl _)))
      · rw [hlx]; exact .new hO.le hlx hkx
      · exact fun x hx _ => ⟨by simp [AH.app, Dl.new, show x ≠ n by omega], fun i => by simp [AH.app, Dl.new, show x ≠ n by omega]⟩
    · have hx' := hx
      rw [k1] at hx'
      refine RS.mem hw rfl (o_append false he hx' hy hs hf k4 k5 hO.kn (.inl (hT (by rw [k1]; simp))) k3 hk0 hbig) (K _ _ _ (Nat.le_succ _) ?_ ?_ (.inr (Nat.le_refl _)))
      · have hl2 : (cs ++ xs).length = (m + k) * z := by rw [List.length_append, hO.len, hlx, Nat.add_mul]
        refine ⟨by have := hO.le; omega, hl2, happ _ _ hO.kn hkx, .inr ⟨rfl, by have := hO.le; show n0 ≤ n; omega, by show n < n + 1; omega, ?_, ?_⟩⟩
        · have := i_take (h := h) (b := sb a) (n := n) (sz := m * z) (lk := 0) (ez := z) (keep := false) (cs := cs ++ xs)
          rw [hl2] at this; exact this
        · exact r_take hl2.symm
      · intro x hx hne
        have hne' : x ≠ sb a := by
          rcases hne with h | h
          · rw [h] at k1; cases k1
          · exact h
        exact ⟨by simp [AH.app, Dl.takeover, show x ≠ n by omega, hne'], fun i => by simp [AH.app, Dl.takeover, show x ≠ n by omega, hne']⟩

/-- append to a row of one's own, made by this function. -/
theorem RS.append {q : Tmp} {t t2 e : TypeId} {d d2 : TypeDesc} {z by_ : Nat} {zv : Value} {x y : Operand} {a : Option Addr} {n0 m k : Nat} {v : Value} {xs cs : List Value} [hu : Uc P t (.slice e)] [hz : Tc P e d z by_ zv] [hu2 : Uc P t2 d2]
    (hw : wants ops ⟨some q, .call { callee := .builtin .append, args := #[x, y], argTypes := #[t, t2] }, ty, pos, after, gd⟩ env = some true) (hx : Opd env x (.slice a m m)) (hy : Opd env y v) (hO : OwnSl h n0 n a z m cs) (hs : Src h z v k xs) (hf : full v k)
    (hT : ∀ b, n0 ≤ b → T b) (hbig : (m + k) * by_ ≤ 140737488355328)
    (K : ∀ a' n1 h1, n ≤ n1 → OwnSl h1 n0 n1 a' z (m + k) (cs ++ xs) → ExtX n a h h1 → (a' = a ∨ n ≤ sb a') → RS P T ops os ((q, .slice a' (m + k) (m + k)) :: env) n1 h1 Q)
    (c1 : Nat.beq z 0 = false := by rfl) (c2 : zv.cells.size = z := by rfl) (c3 : Nat.beq by_ 0 = false := by rfl) (c4 : notIntD d2 = true := by rfl) :
    RS P T ops (⟨some q, .call { callee := .builtin .append, args := #[x, y], argTypes := #[t, t2] }, ty, pos, after, gd⟩ :: os) env n h Q :=
  RS.appendT hw hx hy hO hs hf (fun q => hT _ (hO.at'.resolve_left q).1) hbig K c1 c2 c3 c4

/-- A contract that tells the answer alone, where that holds no address. -/
theorem RF.pure {f : FuncId} {args : Array Value} {v : Value} (hv : flat 8 v = true) (k : ∀ m, n ≤ m → RF P none' f args m h (fun r _ _ => r = v)) : Ev P none' f args n h v n h :=
  Ev.pure (fun _ h => h) hv fun m hm => by
    obtain ⟨r, n', h', hev, rfl⟩ := k m hm
    exact ⟨n', h', hev⟩
theorem none'W {T : Nat → Prop} : ∀ b, none' b → T b := fun _ h => h.elim
end
end Go.Abs

/- What a law's arguments read as, told type by type; lists of data. -/
namespace Go.Abs
open Go.RowKit

theorem list_ex {α : Type} (p : Nat → α → Prop) : ∀ (k : Nat), (∀ i, i < k → ∃ x, p i x) → ∃ l : List α, l.length = k ∧ ∀ i x, l[i]? = some x → p i x
  | 0, _ => ⟨[], rfl, fun i x h => by simp at h⟩
  | k + 1, hp => by
    obtain ⟨l, h1, h2⟩ := list_ex p k fun i hi => hp i (by omega)
    obtain ⟨x, hx⟩ := hp k (by omega)
    refine ⟨l ++ [x], by simp [h1], fun i y h => ?_⟩
    by_cases hi : i < k
    · rw [List.getElem?_append_left (by omega)] at h; exact h2 i y h
    · rw [List.getElem?_append_right (by omega)] at h
      by_cases e : i = k
      · subst e; simp [h1] at h; subst h; exact hx
      · rw [List.getElem?_eq_none (by simp; omega)] at h; cases h

theorem rd_map (h : AH) (b : Nat) : ∀ (k o : Nat), rd h b o k = (List.range k).map fun j => h.cell b (o + j) := by
  intro k o
  apply List.ext_getElem
  · simp [rd_length]
  · intro i h1 h2
    rw [rd_length] at h1
    have := rd_getD h b k o i h1
    simp [List.getD, rd_length, h1] at this
    simpa using this

/-- A list, of which the elements ahead of place i are turned. -/
def updI {α : Type} (f : Nat → α → α) (l : List α) (i : Nat) : List α := l.mapIdx fun j x => if j < i then f j x else x
theorem updI_length {α : Type} (f : Nat → α → α) (l : List α) (i : Nat) : (updI f l i).length = l.length := by simp [updI]
theorem updI_getElem? {α : Type} (f : Nat → α → α) (l : List α) (i j : Nat) : (updI f l i)[j]? = l[j]?.map fun x => if j < i then f j x else x := by simp [updI]
theorem updI_zero {α : Type} (f : Nat → α → α) (l : List α) : updI f l 0 = l := by
  apply List.ext_getElem?
  intro j; rw [updI_getElem?]; cases l[j]? <;> simp
theorem updI_all {α : Type} (f : Nat → α → α) (l : List α) {i : Nat} (h : l.length ≤ i) : updI f l i = l.mapIdx f := by
  apply List.ext_getElem?
  intro j; rw [updI_getElem?, List.getElem?_mapIdx]
  by_cases hj : j < l.length
  · rw [List.getElem?_eq_getElem hj]; simp; omega
  · rw [List.getElem?_eq_none (by omega)]; rfl
theorem updI_at {α : Type} (f : Nat → α → α) (l : List α) (i : Nat) : (updI f l i)[i]? = l[i]? := by
  rw [updI_getElem?]; cases l[i]? <;> simp
theorem updI_getD {α : Type} (f : Nat → α → α) (l : List α) (i : Nat) (d : α) : (updI f l i).getD i d = l.getD i d := by simp only [List.getD, updI_at]
theorem updI_succ {α : Type} (f : Nat → α → α) (l : List α) (i : Nat) (d : α) (h : i < l.length) : updI f l (i + 1) = (updI f l i).set i (f i (l.getD i d)) := by
  apply List.ext_getElem?
  intro j
  rw [List.getElem?_set, updI_getElem?, updI_length, updI_getElem?]
  by_cases e : i = j
  · subst e; rw [if_pos rfl, if_pos h]; simp [List.getD, h]
  · rw [if_neg e]
    congr 1; funext x
    have : j < i + 1 ↔ j < i := by omega
    simp only [this]

/-- Truths' cells. -/
def boolsV (t : List Bool) : List Value := t.map .bool
def boolsF (t : List Bool) : Nat → Value := fun j => .bool (t.getD j false)
abbrev SlT (h : AH) (n : Nat) (a : Option Addr) (t : List Bool) : Prop := SlR h n a 1 t.length (boolsF t)
/-- Whole numbers' cells. -/
def intsV (k : IntKind) (l : List Int) : List Value := l.map (.int k)
def intsF (k : IntKind) (l : List Int) : Nat → Value := fun j => .int k (l.getD j 0)
abbrev SlN (h : AH) (n : Nat) (a : Option Addr) (k : IntKind) (l : List Int) : Prop := SlR h n a 1 l.length (intsF k l)
theorem OwnSl.slt {h : AH} {n0 n m : Nat} {a : Option Addr} {t : List Bool} (o : OwnSl h n0 n a 1 m (boolsV t)) : SlT h n a t := by
  have : m = t.length := by have := o.len; simp [boolsV] at this; omega
  subst this
  exact o.slr.congr fun j hj => by simp [boolsV, boolsF, List.getD, show j < t.length by omega]
theorem OwnSl.sln {h : AH} {n0 n m : Nat} {a : Option Addr} {k : IntKind} {l : List Int} (o : OwnSl h n0 n a 1 m (intsV k l)) : SlN h n a k l := by
  have : m = l.length := by have := o.len; simp [intsV] at this; omega
  subst this
  exact o.slr.congr fun j hj => by simp [intsV, intsF, List.getD, show j < l.length by omega]

section
variable {H : Type} {P : Program} {h : AH} {n : Nat} {t e : TypeId} {cs : List Value} {d : DataW H}
theorem RepD.bool_ (hu : P.underlying t = some .bool) (r : RepD P h t cs d) : ∃ b, cs = [.bool b] := by
  cases r with
  | bool k => exact ⟨_, rfl⟩
  | int k _ => rw [hu] at k; cases k
  | str k _ => rw [hu] at k; cases k
  | nil k => rw [hu] at k; cases k
  | slice k _ _ _ => rw [hu] at k; cases k
  | struct k _ _ _ => rw [hu] at k; cases k
theorem RepD.int_ {q : IntKind} (hu : P.underlying t = some (.int q)) (r : RepD P h t cs d) : ∃ x, cs = [.int q x] ∧ d = .lit (.int q x) ∧ (Lit.int q x).wf = true := by
  cases r with
  | bool k => rw [hu] at k; cases k
  | int k w => rw [hu] at k; cases k; exact ⟨_, rfl, rfl, w⟩
  | str k _ => rw [hu] at k; cases k
  | nil k => rw [hu] at k; cases k
  | slice k _ _ _ => rw [hu] at k; cases k
  | struct k _ _ _ => rw [hu] at k; cases k
theorem RepD.str_ (hu : P.underlying t = some .string) (r : RepD P h t cs d) : ∃ l : List UInt8, cs = [.string ⟨l.toArray⟩] ∧ d = .lit (.string l) := by
  cases r with
  | bool k => rw [hu] at k; cases k
  | int k _ => rw [hu] at k; cases k
  | @str _ s k _ => exact ⟨s.data.toList, by simp, rfl⟩
  | nil k => rw [hu] at k; cases k
  | slice k _ _ _ => rw [hu] at k; cases k
  | struct k _ _ _ => rw [hu] at k; cases k
theorem RepD.struct_ {fs : Array Field} (hu : P.underlying t = some (.struct fs)) (r : RepD P h t cs d) : ∃ parts, d = .agg parts ∧ cs.length = P.cellsOf t ∧ parts.length = fs.size ∧
    ∀ (i : Nat) (f : Field) (d : DataW H), fs[i]? = some f → parts[i]? = some d → RepD P h f.type ((cs.drop f.offset).take (P.cellsOf f.type)) d := by
  cases r with
  | bool k => rw [hu] at k; cases k
  | int k _ => rw [hu] at k; cases k
  | str k _ => rw [hu] at k; cases k
  | nil k => rw [hu] at k; cases k
  | slice k _ _ _ => rw [hu] at k; cases k
  | struct k h1 h2 h3 => rw [hu] at k; cases k; exact ⟨_, rfl, h1, h2, h3⟩
/-- The cells of element i. -/
def elC (h : AH) (a : Option Addr) (z i : Nat) : List Value := (List.range z).map fun j => h.cell (sb a) (so a + (i * z + j))
theorem RepD.slice_ (lo : Low n h) (hu : P.underlying t = some (.slice e)) (r : RepD P h t cs d) : ∃ (a : Option Addr) (elems spare : List (DataW H)), cs = [.slice a elems.length elems.length] ∧ ((d = .nil ∧ elems = []) ∨ d = .slice elems spare) ∧
    SlR h n a (P.cellsOf e) elems.length (fun j => h.cell (sb a) (so a + j)) ∧ ∀ (i : Nat) (x : DataW H), elems[i]? = some x → RepD P h e (elC h a (P.cellsOf e) i) x := by
  cases r with
  | bool k => rw [hu] at k; cases k
  | int k _ => rw [hu] at k; cases k
  | str k _ => rw [hu] at k; cases k
  | nil k => exact ⟨none, [], [], rfl, .inl ⟨rfl, rfl⟩, SlR.nil, fun i x h => by simp at h⟩
  | @slice _ e' b elems spare k hi hl he =>
    rw [hu] at k; cases k
    have hb : b < n := by
      rcases Nat.lt_or_ge b n with h1 | h1
      · exact h1
      · rw [(lo b h1).1] at hi; cases hi
    refine ⟨some ⟨b, 0, none⟩, elems, spare, rfl, .inr rfl, ⟨.inr ⟨rfl, hb, _, hi, rfl⟩, fun j hj => rfl⟩, fun i x hx => ?_⟩
    have := he i x hx
    rw [rd_map] at this
    simpa [elC, sb, so] using this
  | struct k _ _ _ => rw [hu] at k; cases k
/-- A slice whose elements are told by p. -/
theorem RepD.list_ {α : Type} (p : List Value → DataW H → α → Prop) (lo : Low n h) (hu : P.underlying t = some (.slice e)) (hp : ∀ cs d, RepD P h e cs d → ∃ x, p cs d x) (r : RepD P h t cs d) : ∃ (a : Option Addr) (l : List α) (elems spare : List (DataW H)),
    cs = [.slice a l.length l.length] ∧ ((d = .nil ∧ elems = []) ∨ d = .slice elems spare) ∧ elems.length = l.length ∧
    SlR h n a (P.cellsOf e) l.length (fun j => h.cell (sb a) (so a + j)) ∧ ∀ (i : Nat) (x : α), l[i]? = some x → ∃ d, elems[i]? = some d ∧ p (elC h a (P.cellsOf e) i) d x := by
  obtain ⟨a, elems, spare, h1, h2, h3, h4⟩ := r.slice_ lo hu
  obtain ⟨l, k1, k2⟩ := list_ex (fun i x => ∃ d, elems[i]? = some d ∧ p (elC h a (P.cellsOf e) i) d x) elems.length fun i hi => by
    obtain ⟨x, hx⟩ := hp _ _ (h4 i elems[i] (by simp [hi]))
    exact ⟨x, _, by simp [hi], hx⟩
  exact ⟨a, l, elems, spare, by rw [k1]; exact h1, h2, k1.symm, by rw [k1]; exact h3, k2⟩
theorem elC_one {a : Option Addr} {i : Nat} : elC h a 1 i = [h.cell (sb a) (so a + i)] := by simp [elC]
theorem RepD.bools_ (lo : Low n h) (hu : P.underlying t = some (.slice e)) (he : P.underlying e = some .bool) (hz : P.cellsOf e = 1) (r : RepD P h t cs d) : ∃ (a : Option Addr) (l : List Bool) (elems spare : List (DataW H)),
    cs = [.slice a l.length l.length] ∧ ((d = .nil ∧ elems = []) ∨ d = .slice elems spare) ∧ elems.length = l.length ∧ SlT h n a l := by
  obtain ⟨a, l, elems, spare, h1, h2, h3, h4, h5⟩ := r.list_ (fun cs _ (x : Bool) => cs = [.bool x]) lo hu fun _ _ r => r.bool_ he
  rw [hz] at h4 h5
  refine ⟨a, l, elems, spare, h1, h2, h3, h4.congr fun j hj => ?_⟩
  obtain ⟨_, _, k⟩ := h5 j l[j] (by simp [show j < l.length by omega])
  rw [elC_one] at k
  simp only [List.cons.injEq, and_true] at k
  rw [k]; simp [boolsF, List.getD, show j < l.length by omega]
theorem RepD.ints_ {q : IntKind} (lo : Low n h) (hu : P.underlying t = some (.slice e)) (he : P.underlying e = some (.int q)) (hz : P.cellsOf e = 1) (r : RepD P h t cs d) : ∃ (a : Option Addr) (l : List Int) (elems spare : List (DataW H)),
    cs = [.slice a l.length l.length] ∧ ((d = .nil ∧ elems = []) ∨ d = .slice elems spare) ∧ elems.length = l.length ∧ SlN h n a q l ∧ ∀ x, x ∈ l → (Lit.int q x).wf = true := by
  obtain ⟨a, l, elems, spare, h1, h2, h3, h4, h5⟩ := r.list_ (fun cs _ (x : Int) => cs = [.int q x] ∧ (Lit.int q x).wf = true) lo hu fun _ _ r => by
    obtain ⟨x, k1, _, k2⟩ := r.int_ he; exact ⟨x, k1, k2⟩
  rw [hz] at h4 h5
  refine ⟨a, l, elems, spare, h1, h2, h3, h4.congr fun j hj => ?_, fun x hx => ?_⟩
  · obtain ⟨_, _, k, _⟩ := h5 j l[j] (by simp [show j < l.length by omega])
    rw [elC_one] at k
    simp only [List.cons.injEq, and_true] at k
    rw [k]; simp [intsF, List.getD, show j < l.length by omega]
  · obtain ⟨j, hj⟩ := List.getElem?_of_mem hx
    obtain ⟨_, _, _, k⟩ := h5 j x hj
    exact k
theorem RepD.bytes_ (lo : Low n h) (hu : P.underlying t = some (.slice e)) (he : P.underlying e = some (.int .u8)) (hz : P.cellsOf e = 1) (r : RepD P h t cs d) : ∃ (a : Option Addr) (l : List UInt8) (elems spare : List (DataW H)),
    cs = [.slice a l.length l.length] ∧ ((d = .nil ∧ elems = []) ∨ d = .slice elems spare) ∧ elems.length = l.length ∧ SlB h n a l := by
  obtain ⟨a, l, elems, spare, h1, h2, h3, h4, h5⟩ := r.ints_ lo hu he hz
  refine ⟨a, l.map fun x => UInt8.ofNat x.toNat, elems, spare, by simpa using h1, h2, by simpa using h3, ?_⟩
  have : SlR h n a 1 (l.map fun x => UInt8.ofNat x.toNat).length (intsF .u8 l) := by simpa using h4
  refine this.congr fun j hj => ?_
  have hj : j < l.length := by simpa using hj
  have hw := h5 l[j] (List.getElem_mem hj)
  simp [Lit.wf, IntKind.min, IntKind.max, IntKind.signed, IntKind.bits] at hw
  simp [intsF, bytesF, List.getD, hj]
  omega
end

section
variable {H : Type} {enc : TypeId × Value → H} {P : Program}
theorem RepArgs.cons_ {h : AH} {t : TypeId} {ts : List TypeId} {as : List Value} {ds : List (DataW H)} (r : RepArgs P h (t :: ts) as ds) : ∃ a d as' ds', as = a :: as' ∧ ds = d :: ds' ∧ RepA P h t a d ∧ RepArgs P h ts as' ds' := by
  cases r with
  | cons x r => exact ⟨_, _, _, _, rfl, rfl, x, r⟩
theorem RepArgs.nil_ {h : AH} {as : List Value} {ds : List (DataW H)} (r : RepArgs P h [] as ds) : as = [] ∧ ds = [] := by
  cases r; exact ⟨rfl, rfl⟩
/-- What is no struct lies in one cell. -/
theorem RepA.one {h : AH} {t : TypeId} {a : Value} {d : DataW H} {u : TypeDesc} (hu : P.underlying t = some u) (hs : ∀ fs, u ≠ .struct fs) (r : RepA P h t a d) : RepD P h t [a] d := by
  unfold RepA at r
  rw [hu] at r
  cases u with
  | struct fs => exact absurd rfl (hs fs)
  | _ => exact r
theorem RepA.agg {h : AH} {t : TypeId} {a : Value} {d : DataW H} {fs : Array Field} (hu : P.underlying t = some (.struct fs)) (r : RepA P h t a d) : ∃ cs : List Value, a = .agg cs.toArray ∧ RepD P h t cs d := by
  unfold RepA at r
  rw [hu] at r
  exact r
theorem trodAll_after (hl : laidOutB P = true) {W W' : World} (hb : Below W.heap.size W W') : ∀ (ts : List TypeId) (vs : List Value) (ds : List (DataW H)) (ps : List MemPlace), ts.all (fun t => P.readableRec t && decide (t < P.types.size)) = true →
    DataW.TrodAll enc P W 0 (fun _ => true) true ts vs ds ps → DataW.TrodAll enc P W' 0 (fun b => decide (b < W.heap.size)) true ts vs ds ps
  | [], vs, ds, ps, _, h => by
    obtain ⟨rfl, rfl, rfl⟩ := ChangeShapes.trodAll_nil h
    exact rfl
  | t :: ts, vs, ds, ps, hts, h => by
    simp only [List.all_cons, Bool.and_eq_true, decide_eq_true_eq] at hts
    obtain ⟨v, vs', d, ds', p, q, rfl, rfl, rfl, h1, h2⟩ := ChangeShapes.trodAll_cons h
    have hlt : ∀ x ∈ p, x.block < W.heap.size := by obtain ⟨m, hm⟩ := h1; exact DataW.trod_lt m _ _ _ hm
    exact trodAll_cons_mk (Below.trod hl hts.1.1 hts.1.2 h1 hb hlt) (trodAll_after hl hb ts vs' ds' q (by simpa using hts.2) h2)
end
end Go.Abs

/- A row of one's own is cut, copied to, cleared. -/
namespace Go.Abs
open Go.RowKit

/-- Of block b the first k elements of z cells stay told. -/
@[irreducible] def Dl.cut (b k z : Nat) : Dl := ⟨fun x => if x = b then some (some ⟨k * z, 0, true, z⟩) else none, fun x i => if x = b ∧ k * z ≤ i then some (.tuple #[]) else none⟩
section
variable {h : AH} {b k z : Nat}
theorem cut_info (x : Nat) : (h.app (.cut b k z)).info x = if x = b then some ⟨k * z, 0, true, z⟩ else h.info x := by
  unfold Dl.cut; by_cases e : x = b <;> simp [AH.app, e]
theorem cut_cell (x i : Nat) : (h.app (.cut b k z)).cell x i = if x = b ∧ k * z ≤ i then .tuple #[] else h.cell x i := by
  unfold Dl.cut
  simp only [AH.app]
  split <;> rfl
theorem cut_touches {x : Nat} (h : (Dl.cut b k z).touches x) : x = b := by
  unfold Dl.cut at h
  rcases h with h | ⟨i, h⟩
  · simp only at h; split at h
    · assumption
    · exact absurd rfl h
  · simp only at h; split at h
    · rename_i q; exact q.1
    · exact absurd rfl h
theorem Sim.cut {w0 : Base} {w : World} {ρ : Ren} {H : AH} {m : Nat} (s : Sim w0 ρ H w) (hm : H.info b = some ⟨m * z, 0, true, z⟩) (hk : k ≤ m) : Sim w0 ρ (H.app (.cut b k z)) w := by
  refine s.shrink (fun x m' hx => ?_) (fun x m' o hx ho => ?_) (fun x i => ?_)
  · rw [cut_info] at hx
    by_cases e : x = b
    · subst e
      rw [if_pos rfl] at hx; cases hx
      exact ⟨_, hm, rfl, Nat.mul_le_mul_right _ hk, Nat.zero_le _, fun L i _ ho => ⟨Nat.zero_le _, by simpa using ho.2⟩⟩
    · rw [if_neg e] at hx
      obtain ⟨L, _, _, _, q, _⟩ := s.info x m' hx
      exact ⟨m', hx, rfl, Nat.le_refl _, q, fun _ _ _ ho => ho⟩
  · rw [cut_info] at hx
    by_cases e : x = b
    · rw [if_pos e] at hx; cases hx; cases ho
    · rw [if_neg e] at hx; exact hx
  · rw [cut_cell]
    by_cases e : x = b ∧ k * z ≤ i
    · rw [if_pos e]; exact .inl rfl
    · rw [if_neg e]; exact .inr rfl
end

section
variable {P : Program} {T W : Nat → Prop} {ops : Array Oper} {os : List Oper} {env : Env} {n n1 : Nat} {h h1 g : AH} {Q : Env → Nat → AH → Prop} {ps : List Ft}
variable {dst : Option Tmp} {ty : TypeId} {pos : String} {after : Array Edge} {gd : Option (Nat × Bool)}

/-- What is told may be told otherwise. -/
theorem OpEv.ghost {o : Oper} {v : Value} {n' : Nat} {d d2 : Dl} (k : OpEv P T o env n g v n' d) (hw : Within T n n' d2) (hs : ∀ w0 ρ w H, (g.app d).le H → Sim w0 ρ H w → Sim w0 ρ (H.app d2) w) : OpEv P T o env n g v n' (d.comp d2) where
  le := k.le
  within := fun b hb => by
    rcases Dl.touches_comp hb with q | q
    · exact k.within b q
    · exact hw b q
  run := fun r w0 ρ w H a next Q hl hf hsim hop K =>
    k.run r w0 ρ w H a next Q hl hf hsim hop fun ρ' c w' hg hv hs' => K ρ' c w' hg hv (by rw [AH.app_comp]; exact hs w0 ρ' w' _ (hl.app d) hs')
theorem op_sliceCut {t e : TypeId} {x y : Operand} {b m : Nat} {u : Nat} {kk : IntKind} {d : TypeDesc} {z by_ : Nat} {zv : Value} (hu : P.underlying t = some (.slice e)) (hz : TI P e d z by_ zv) (hx : ev env x = .slice (some ⟨b, 0, none⟩) m m)
    (hy : ev env y = .int kk (u : Nat)) (hum : u ≤ m) (hm : g.info b = some ⟨m * z, 0, true, z⟩) (hT : T b ∨ n ≤ b) (hb : b < n) :
    OpEv P T ⟨dst, .slice t x none (some y) none, ty, pos, after, gd⟩ env n g (.slice (some ⟨b, 0, none⟩) u u) n (.cut b u z) := by
  have h1 := op_slice (P := P) (T := T) (n := n) (g := g) (env := env) (dst := dst) (ty := ty) (pos := pos) (after := after) (gd := gd) (t := t) (x := x) (lo := none) (hi := some y) (l := 0) (h := u) hu hz hx rfl ⟨kk, hy⟩ (Nat.zero_le _) hum hm (.inr rfl)
  simp only [Nat.zero_mul, Nat.add_zero, Nat.sub_zero] at h1
  have h2 := h1.ghost (d2 := .cut b u z) (fun x hx => by rw [cut_touches hx]; exact ⟨hT, hb⟩) (fun w0 ρ w H hl hs => hs.cut (hl.info b _ (by rw [AH.app_nil]; exact hm)) hum)
  rwa [Dl.nil_comp] at h2

theorem known_take : ∀ (l : List Value) (i : Nat), known l = true → known (l.take i) = true
  | [], i, _ => by simp [known]
  | v :: r, 0, _ => by simp [known]
  | v :: r, i + 1, h => by cases v <;> simp_all [known, known_take r i]
theorem known_drop : ∀ (l : List Value) (i : Nat), known l = true → known (l.drop i) = true
  | [], i, _ => by simp [known]
  | v :: r, 0, h => h
  | v :: r, i + 1, h => by
    have : known r = true := by cases v <;> simp_all [known]
    exact known_drop r i this
theorem known_app : ∀ {l m : List Value}, known l = true → known m = true → known (l ++ m) = true
  | [], m, _, h => h
  | v :: r, m, h, k => by cases v <;> simp_all [known, known_app (l := r) (m := m)]

/-- A row of one's own is cut. -/
theorem OwnSl.cut {n0 z m u : Nat} {a : Option Addr} {cs : List Value} (o : OwnSl h n0 n a z m cs) (hu : u ≤ m) : OwnSl (h.app (.cut (sb a) u z)) n0 n a z u (cs.take (u * z)) := by
  have hl : u * z ≤ m * z := Nat.mul_le_mul_right _ hu
  refine ⟨o.le, by rw [List.length_take, o.len]; omega, known_take _ _ o.kn, ?_⟩
  rcases o.or with ⟨k1, k2⟩ | ⟨k1, k2, k3, k4, k5⟩
  · exact .inl ⟨k1, by omega⟩
  · refine .inr ⟨k1, k2, k3, by rw [cut_info, if_pos rfl], ?_⟩
    apply List.ext_getElem
    · rw [rd_length, List.length_take, o.len]; omega
    · intro j h1 h2
      rw [rd_length] at h1
      have e1 := rd_getD (h.app (.cut (sb a) u z)) (sb a) (u * z) 0 j h1
      have e2 : (rd (h.app (.cut (sb a) u z)) (sb a) 0 (u * z)).getD j (.tuple #[]) = (rd (h.app (.cut (sb a) u z)) (sb a) 0 (u * z))[j]'(by rw [rd_length]; exact h1) := by simp [List.getD, rd_length, h1]
      have e3 := rd_getD h (sb a) (m * z) 0 j (by omega)
      rw [k5] at e3
      rw [← e2, e1, cut_cell, if_neg (by omega), ← e3]
      simp [List.getD, show j < cs.length by rw [o.len]; omega]
theorem ExtX.cut {u z : Nat} {a : Option Addr} (e : ExtX n a h h1) (ha : a ≠ none) : ExtX n a h (h1.app (.cut (sb a) u z)) := fun x hx hne => by
  have hx' : x ≠ sb a := hne.resolve_left ha
  have h2 := e x hx hne
  exact ⟨by rw [cut_info, if_neg hx']; exact h2.1, fun i => by rw [cut_cell, if_neg (fun q => hx' q.1)]; exact h2.2 i⟩
/-- Cells from i on are set. -/
def splice {α : Type} (cs : List α) (i : Nat) (vs : List α) : List α := cs.take i ++ vs ++ cs.drop (i + vs.length)
theorem splice_length {α : Type} (cs : List α) (i : Nat) (vs : List α) (h : i + vs.length ≤ cs.length) : (splice cs i vs).length = cs.length := by
  simp only [splice, List.length_append, List.length_take, List.length_drop]; omega
theorem splice_map {α β : Type} (f : α → β) (cs : List α) (i : Nat) (vs : List α) : (splice cs i vs).map f = splice (cs.map f) i (vs.map f) := by
  simp [splice, List.map_take, List.map_drop]
theorem OwnSl.splice {n0 z m i : Nat} {a : Option Addr} {cs vs : List Value} (o : OwnSl h n0 n a z m cs) (hi : i + vs.length ≤ m * z) (hv : known vs = true) : OwnSl (h.app (.sets (sb a) (so a + i) vs)) n0 n a z m (Abs.splice cs i vs) := by
  have hl := o.len
  refine ⟨o.le, by rw [splice_length _ _ _ (by omega)]; exact hl, known_app (known_app (known_take _ _ o.kn) hv) (known_drop _ _ o.kn), ?_⟩
  rcases o.or with ⟨k1, k2⟩ | ⟨k1, k2, k3, k4, k5⟩
  · exact .inl ⟨k1, k2⟩
  · refine .inr ⟨k1, k2, k3, i_sets k4, ?_⟩
    have hso : so a = 0 := by rw [k1]; rfl
    apply List.ext_getElem
    · rw [rd_length, splice_length _ _ _ (by omega)]; exact hl.symm
    · intro j h1 h2
      rw [rd_length] at h1
      have e1 := rd_getD (h.app (.sets (sb a) (so a + i) vs)) (sb a) (m * z) 0 j h1
      have e2 := rd_getD h (sb a) (m * z) 0 j h1
      rw [k5] at e2
      have e3 : (rd (h.app (.sets (sb a) (so a + i) vs)) (sb a) 0 (m * z)).getD j (.tuple #[]) = (rd (h.app (.sets (sb a) (so a + i) vs)) (sb a) 0 (m * z))[j]'(by rw [rd_length]; exact h1) := by simp [List.getD, rd_length, h1]
      rw [← e3, e1]
      simp only [AH.app, Dl.sets, Nat.zero_add, hso] at e2 ⊢
      by_cases hj : i ≤ j ∧ j < i + vs.length
      · rw [if_pos ⟨trivial, hj⟩, Option.getD_some]
        simp only [Abs.splice]
        rw [List.getElem_append_left (by simp only [List.length_append, List.length_take]; omega), List.getElem_append_right (by rw [List.length_take]; omega)]
        have : min i cs.length = i := by omega
        simp [List.getD, this, show j - i < vs.length by omega]
      · rw [if_neg (fun q => hj q.2), Option.getD_none, ← e2]
        simp only [Abs.splice, List.getD]
        by_cases hlt : j < i
        · rw [List.getElem_append_left (by simp only [List.length_append, List.length_take]; omega), List.getElem_append_left (by rw [List.length_take]; omega)]
          rw [List.getElem?_eq_getElem (by omega)]; simp
        · rw [List.getElem_append_right (by simp only [List.length_append, List.length_take]; omega)]
          rw [List.getElem?_eq_getElem (by omega)]
          simp only [List.getElem_drop, List.length_append, List.length_take, Option.getD_some]
          congr 1; omega
theorem OwnSl.spliceB {n0 m i : Nat} {a : Option Addr} {l s : List UInt8} (o : OwnSl h n0 n a 1 m (bytesV l)) (hi : i + s.length ≤ m) : OwnSl (h.app (.sets (sb a) (so a + i) (bytesV s))) n0 n a 1 m (bytesV (Abs.splice l i s)) := by
  have := o.splice (i := i) (vs := bytesV s) (by rw [bytesV_length]; omega) (bytesV_known s)
  have e : bytesV (Abs.splice l i s) = Abs.splice (bytesV l) i (bytesV s) := splice_map _ _ _ _
  rw [e]; exact this
theorem ExtX.sets' {o' : Nat} {vs : List Value} {a : Option Addr} (e : ExtX n a h h1) (ha : a ≠ none) : ExtX n a h (h1.app (.sets (sb a) o' vs)) := e.sets (fun q => ha q)
theorem lenOf_slice {a : Option Addr} {m : Nat} {c : Value} {w : World} (h : ∃ ρ, VRel ρ (.slice a m m) c) : (Builtin.lenOf c).run P w = .ok m w := by
  obtain ⟨ρ, h⟩ := h
  cases h <;> rfl
/-- copy of bytes to a row of one's own, from its i-th place on, in a region that draws its order. -/
theorem RD.copyB {q : Tmp} {t t2 e : TypeId} {d : TypeDesc} {by_ : Nat} {zv : Value} {x y : Operand} {a c : Option Addr} {n0 m i k nb : Nat} {l s : List UInt8} [hu : Uc P t (.slice e)] [hz : Tc P e d 1 by_ zv]
    (hw : wants ops ⟨some q, .call { callee := .builtin .copy, args := #[x, y], argTypes := #[t, t2] }, ty, pos, after, gd⟩ env = some true) (hx : Opd env x (.slice (sub a i) k k)) (hy : Opd env y (.slice c s.length s.length)) (hO : OwnSl h n0 nb a 1 m (bytesV l)) (S : SlB h nb c s)
    (hik : i + k = m) (hs0 : 0 < s.length) (hsk : s.length ≤ k) (hT : a ≠ none → T (sb a)) (hnb : nb ≤ n) (hc : CF ops ps.length (· < nb) (· = sb a) ps.length ps)
    (K : OwnSl (h.app (.sets (sb a) (so a + i) (bytesV s))) n0 nb a 1 m (bytesV (Abs.splice l i s)) → RD P T ops (⟨(· < nb), (· = sb a), n, n⟩ :: ps) os ((q, .int .i64 s.length) :: env) n (h.app (.sets (sb a) (so a + i) (bytesV s))) Q) :
    RD P T ops ps (⟨some q, .call { callee := .builtin .copy, args := #[x, y], argTypes := #[t, t2] }, ty, pos, after, gd⟩ :: os) env n h Q := by
  have hO' := hO
  rcases hO.or with ⟨k1, k2⟩ | ⟨k1, k2, k3, k4, k5⟩
  · omega
  have hso : so a = 0 := by rw [k1]; rfl
  have hx' : ev env x = .slice (some ⟨sb a, so a + i, none⟩) k k := by rw [hx.ev, k1]; rfl
  have S' : SlB (h.below nb) nb c s := S.ext (AH.below_ext h nb) (Nat.le_refl _)
  have hop := op_copy (P := P) (T := T) (n := n) (g := h.below nb) (env := env) (dst := some q) (ty := ty) (pos := pos) (after := after) (gd := gd) (t := t) (t2 := t2) (z := 1) (k := s.length) (kk := s.length) (m := k) (v := .slice c s.length s.length) hu.out hz.out (by decide) hx' hy.ev
    S'.src (full_slice) (fun c w h => lenOf_slice h) (by omega) (mm := ⟨m * 1, 0, true, 1⟩) (i_below k3 k4) (Nat.zero_le _) (by rw [hso]; simp only [Nat.mul_one]; omega) (.inl (hT (by rw [k1]; simp))) (by omega)
  refine RD.op (· < nb) (· = sb a) hw hop (AH.below_le _ _) (fun _ hx => AH.below_looks hx) (fun _ e => Nat.lt_of_lt_of_le e hnb) (fun b hb => .inl (sets_touches hb)) hc (.refl _) (K ?_)
  exact hO'.spliceB (by omega)
theorem RS.sliceCut {q : Tmp} {t e : TypeId} {d : TypeDesc} {z by_ : Nat} {zv : Value} {x y : Operand} {a : Option Addr} {n0 m u : Nat} {kk : IntKind} {cs : List Value} [hu : Uc P t (.slice e)] [hz : Tc P e d z by_ zv]
    (hw : wants ops ⟨some q, .slice t x none (some y) none, ty, pos, after, gd⟩ env = some true) (hx : Opd env x (.slice a m m)) (hy : Opd env y (.int kk (u : Nat))) (hO : OwnSl h n0 n a z m cs) (hum : u ≤ m)
    (hT : a ≠ none → T (sb a)) (K : ∀ h1, OwnSl h1 n0 n a z u (cs.take (u * z)) → ExtX n a h h1 → RS P T ops os ((q, .slice a u u) :: env) n h1 Q) : RS P T ops (⟨some q, .slice t x none (some y) none, ty, pos, after, gd⟩ :: os) env n h Q := by
  rcases hO.or with ⟨k1, k2⟩ | ⟨k1, k2, k3, k4, k5⟩
  · subst k1; subst k2
    obtain rfl : u = 0 := by omega
    have := op_sliceNil (P := P) (T := T) (n := n) (g := h) (dst := some q) (ty := ty) (pos := pos) (after := after) (gd := gd) (lo := none) (hi := some y) hu.out hz.out hx.ev rfl ⟨kk, hy.ev⟩
    refine RS.put hw rfl this (K h (by simpa using OwnSl.nil hO.le) (fun _ _ _ => ⟨rfl, fun _ => rfl⟩))
  · have hx' := hx.ev
    rw [k1] at hx'
    have hso : so a = 0 := by rw [k1]; rfl
    have := op_sliceCut (P := P) (T := T) (n := n) (g := h) (dst := some q) (ty := ty) (pos := pos) (after := after) (gd := gd) hu.out hz.out hx' hy.ev hum k4 (.inl (hT (by rw [k1]; simp))) k3
    refine RS.mem hw rfl this ?_
    rw [← k1]
    exact K _ (hO.cut hum) (ExtX.cut (fun _ _ _ => ⟨rfl, fun _ => rfl⟩) (by rw [k1]; simp))
/-- clear of a row of one's own. -/
theorem op_clear {t e : TypeId} {x : Operand} {d : TypeDesc} {z by_ b o k : Nat} {zv : Value} {mm : Meta} (hu : P.underlying t = some (.slice e)) (hz : TI P e d z by_ zv) (hz0 : z ≠ 0) (hzz : zv.cells.size = z) (hf : zv.cells.all (flat 8) = true) (hkn : known (zrow zv.cells.toList k) = true)
    (hx : ev env x = .slice (some ⟨b, o, none⟩) k k) (hm : g.info b = some mm) (hlk : mm.lock ≤ o) (hin : o + k * z ≤ mm.size) (hT : T b ∨ n ≤ b) (hb : b < n) :
    OpEv P T ⟨dst, .call { callee := .builtin .clear, args := #[x], argTypes := #[t] }, ty, pos, after, gd⟩ env n g (.tuple #[]) n (.sets b o (zrow zv.cells.toList k)) where
  le := Nat.le_refl _
  within := within_sets hT hb
  run := fun rq w0 ρ w H a next Q hl hf' hsim hop K => by
    have h1 := hop x (by simp [Op.operands, Call.operands]); rw [hx] at h1
    have hM := hl.info b mm hm
    obtain ⟨L, hL, kz, k2, k3, k4⟩ := hsim.info b mm hM
    have hr : ∀ w, (underlying t).run P w = .ok (.slice e) w := fun w => by simp [underlying, hu]
    have hxl : (zrow zv.cells.toList k).length = k * z := by rw [zrow_length, Array.length_toList, hzz]
    have hcl : (Builtin.zeroCells zv.cells k).toList.length = k * z := by simp [Builtin.zeroCells, hzz]
    have e0 : (#[t] : Array TypeId)[0]? = some t := rfl
    have key : ∀ (A : Addr) (C : Nat), a.eval x = .slice (some A) k C → (k = 0 ∨ A = ⟨L.blk, L.off + o, none⟩) →
        (Oper.wpIn (FW rq) 0 P ⟨dst, .call { callee := .builtin .clear, args := #[x], argTypes := #[t] }, ty, pos, after, gd⟩ a w next Q) := by
      intro A C hcx hA
      have e2 : (#[Value.slice (some A) k C] : Array Value)[0]? = some (.slice (some A) k C) := rfl
      by_cases hk0 : k = 0
      · subst hk0
        have hxs : zrow zv.cells.toList 0 = [] := List.eq_nil_of_length_eq_zero (by rw [hxl, Nat.zero_mul])
        have hrun : (Builtin.clear_ #[t] ty #[.slice (some A) 0 C]).run P w = .ok (.tuple #[]) w := by
          simp only [Builtin.clear_, e0, e2, Sem.run_bind, hr, Result.andThen_ok, Sem.run_pure]
        have hexec : (execOp a.eval ⟨dst, .call { callee := .builtin .clear, args := #[x], argTypes := #[t] }, ty, pos, after, gd⟩).run P w = .ok (.value (.tuple #[])) w := by
          simp [execOp, resolve, invoke, builtin, hcx, hrun]
        refine wpA_value hexec ?_
        exact K ρ _ _ (.refl _ _ _) (.unk _) (by rw [hxs, app_sets_nil]; exact hsim)
      · have hA := hA.resolve_left hk0
        subst hA
        obtain ⟨k', rfl⟩ : ∃ k', k = k' + 1 := ⟨k - 1, by omega⟩
        obtain ⟨e4, e5⟩ := hsim.storeCells (P := P) (o := o) hM hL (zrow zv.cells.toList (k' + 1)) (Builtin.zeroCells zv.cells (k' + 1)).toList (by omega) (fun j hj => ⟨by omega, by split <;> omega⟩) (fun j hj => by
          have := zrow_rel (ρ := ρ) hf (k' + 1) (k' + 1) (Nat.le_refl _) j hj
          have e9 : (Builtin.zeroCells zv.cells (k' + 1)).toList.getD j (.tuple #[]) = (Builtin.zeroCells zv.cells (k' + 1)).getD j (.tuple #[]) := by simp [Array.getD_eq_getD_getElem?, List.getD]
          rw [e9]; exact this) hkn
        have hrun : (Builtin.clear_ #[t] ty #[.slice (some ⟨L.blk, L.off + o, none⟩) (k' + 1) C]).run P w = .ok (.tuple #[]) (w.setCells L.blk (L.off + o) (Builtin.zeroCells zv.cells (k' + 1)).toList) := by
          simp only [Builtin.clear_, e0, e2, Sem.run_bind, hr, Result.andThen_ok, hz.run_zeroValue, e4, Sem.run_pure]
        have hexec : (execOp a.eval ⟨dst, .call { callee := .builtin .clear, args := #[x], argTypes := #[t] }, ty, pos, after, gd⟩).run P w = .ok (.value (.tuple #[])) (w.setCells L.blk (L.off + o) (Builtin.zeroCells zv.cells (k' + 1)).toList) := by
          simp [execOp, resolve, invoke, builtin, hcx, hrun]
        refine wpA_value hexec ?_
        exact K ρ _ _ (.refl _ _ _) (.unk _) e5
    generalize hcx : a.eval x = q at h1
    cases h1 with
    | @slice _ _ _ L' C hL' hmC hcc =>
      rw [hL] at hL'; cases hL'
      exact key _ C hcx (.inr rfl)
    | slice0 A hL' => exact key A 0 hcx (.inl (by omega))
theorem RS.clear {t e : TypeId} {d : TypeDesc} {z by_ : Nat} {zv : Value} {x : Operand} {a : Option Addr} {n0 m i k : Nat} {cs : List Value} [hu : Uc P t (.slice e)] [hz : Tc P e d z by_ zv]
    (hw : wants ops ⟨none, .call { callee := .builtin .clear, args := #[x], argTypes := #[t] }, ty, pos, after, gd⟩ env = some true) (hx : Opd env x (.slice (sub a (i * z)) k k)) (hO : OwnSl h n0 n a z m cs) (hik : i + k = m) (ha : a ≠ none) (hT : T (sb a))
    (hkn : known (zrow zv.cells.toList k) = true)
    (K : OwnSl (h.app (.sets (sb a) (so a + i * z) (zrow zv.cells.toList k))) n0 n a z m (Abs.splice cs (i * z) (zrow zv.cells.toList k)) → RS P T ops os env n (h.app (.sets (sb a) (so a + i * z) (zrow zv.cells.toList k))) Q)
    (c1 : Nat.beq z 0 = false := by rfl) (c2 : zv.cells.size = z := by rfl) (c4 : zv.cells.all (flat 8) = true := by first | rfl | (simp [Value.cells, flat]; done)) :
    RS P T ops (⟨none, .call { callee := .builtin .clear, args := #[x], argTypes := #[t] }, ty, pos, after, gd⟩ :: os) env n h Q := by
  have hz0 : z ≠ 0 := fun h => by subst h; simp at c1
  rcases hO.or with ⟨k1, k2⟩ | ⟨k1, k2, k3, k4, k5⟩
  · exact absurd k1 ha
  have hso : so a = 0 := by rw [k1]; rfl
  have hx' : ev env x = .slice (some ⟨sb a, so a + i * z, none⟩) k k := by rw [hx.ev, k1]; rfl
  have hop := op_clear (P := P) (T := T) (n := n) (g := h) (env := env) (dst := none) (ty := ty) (pos := pos) (after := after) (gd := gd) (t := t) hu.out hz.out hz0 c2 c4 hkn hx' k4 (Nat.zero_le _) (by rw [hso]; simp only [Nat.zero_add]; rw [← Nat.add_mul, hik]; exact Nat.le_refl _) (.inl hT) k3
  refine RS.op hw hop (.refl _) (K (hO.splice ?_ hkn))
  rw [zrow_length, Array.length_toList, c2, ← Nat.add_mul, hik]
  exact Nat.le_refl _
end
end Go.Abs

/- Structs of numbers, truths and texts, held against each other. -/
namespace Go.Abs
open Go.RowKit

def scal : Value → Bool
  | .int _ _ | .bool _ | .string _ => true
  | _ => false
theorem scal_inv {ρ : Ren} {v c : Value} (h : VRel ρ v c) (hs : scal v = true) : c = v := by
  cases h <;> first | rfl | (simp [scal] at hs)
section
variable {P : Program} {T : Nat → Prop} {env : Env} {n : Nat} {g : AH}
variable {dst : Option Tmp} {ty : TypeId} {pos : String} {after : Array Edge} {gd : Option (Nat × Bool)}
theorem agg_inv {ρ : Ren} {xs : Array Value} {c : Value} (h : VRel ρ (.agg xs) c) (hs : ∀ i, i < xs.size → scal (xs.getD i (.tuple #[])) = true) : c = .agg xs := by
  cases h with
  | @agg _ ys hz hv =>
    congr 1
    apply Array.ext hz.symm
    intro i h1 h2
    have k := scal_inv (hv i) (hs i h2)
    simpa [Array.getD, h1, h2] using k
theorem op_eqA {op : BinOp} {t t' : TypeId} {x y : Operand} {xs ys : Array Value} {b : Bool} (hop : op = .eql ∨ op = .neq) (hg : P.eqGuardType P.depth t = false) (hx : ev env x = .agg xs) (hy : ev env y = .agg ys)
    (hsx : ∀ i, i < xs.size → scal (xs.getD i (.tuple #[])) = true) (hsy : ∀ i, i < ys.size → scal (ys.getD i (.tuple #[])) = true) (hrun : ∀ w, (binOp op t (.agg xs) (.agg ys)).run P w = .ok (.bool b) w) :
    OpEv P T ⟨dst, .binOp op t x y t', ty, pos, after, gd⟩ env n g (.bool b) n .nil :=
  .calc fun ρ w ce h => by
    have h1 := h x (by simp [Op.operands]); rw [hx] at h1
    have h2 := h y (by simp [Op.operands]); rw [hy] at h2
    have e1 := agg_inv h1 hsx
    have e2 := agg_inv h2 hsy
    have e3 := run_eqGuard_agg (P := P) w op t x y xs ys hg
    refine ⟨.bool b, ?_, .bool b⟩
    simp [execOp, e1, e2, e3, hrun w]
end
end Go.Abs
