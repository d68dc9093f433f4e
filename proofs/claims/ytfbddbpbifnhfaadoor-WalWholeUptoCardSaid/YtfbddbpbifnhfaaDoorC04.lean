/- Contracts and laws that a statement of this seat is proved by (part 4). -/
import Derived.Test.YtfbddbpbifnhfaaDoorC03
import Derived.OpenShut
import Derived.Carry
import Derived.Laws.StructEq
import Derived.Lib.SlBytesConst
import Derived.Shelf.Bytes.SlCountOne
import Derived.Laws.Externs
import Derived.Shelf.Bytes.SlIndexAt
import Derived.Lib.IndexLaws
set_option linter.unusedSimpArgs false
set_option linter.unusedVariables false
/- Rows that a function owns and appends to; results; calls (written by gen_own.py). -/
namespace Go.Abs
open Go.RowKit

/-- A slice of m elements of z cells, cs, from the begin of a block of its own with a number from n0 on; or none yet. -/
structure OwnSl (h : AH) (n0 n : Nat) (a : Option Addr) (z m : Nat) (cs : List Value) : Prop where
  le : n0 ≤ n
  len : cs.length = m * z
  kn : known cs = true
  or : (a = none ∧ m = 0) ∨ (a = some ⟨sb a, 0, none⟩ ∧ n0 ≤ sb a ∧ sb a < n ∧ h.info (sb a) = some ⟨m * z, 0, true, z⟩ ∧ rd h (sb a) 0 (m * z) = cs)

section
variable {h h1 : AH} {n0 n n1 : Nat} {a : Option Addr} {z m : Nat} {cs : List Value}
theorem OwnSl.nil (hn : n0 ≤ n) : OwnSl h n0 n none z 0 [] := ⟨hn, by simp, rfl, .inl ⟨rfl, rfl⟩⟩
theorem OwnSl.slr (o : OwnSl h n0 n a z m cs) : SlR h n a z m (fun j => cs.getD j (.tuple #[])) := by
  rcases o.or with ⟨k1, k2⟩ | ⟨k1, k2, k3, k4, k5⟩
  · subst k1; subst k2; exact .nil
  · have e : so a = 0 := by rw [k1]; rfl
    refine ⟨.inr ⟨by rw [e]; exact k1, k3, _, k4, rfl⟩, fun j hj => ?_⟩
    have := rd_getD h (sb a) (m * z) 0 j hj
    rw [k5] at this
    rw [e]; exact this.symm
theorem OwnSl.ext (o : OwnSl h n0 n a z m cs) (e : Ext n h h1) (hn : n ≤ n1) : OwnSl h1 n0 n1 a z m cs := by
  refine ⟨Nat.le_trans o.le hn, o.len, o.kn, ?_⟩
  rcases o.or with k | ⟨k1, k2, k3, k4, k5⟩
  · exact .inl k
  · exact .inr ⟨k1, k2, by omega, by rw [e.info _ k3]; exact k4, by rw [rd_ext e k3]; exact k5⟩
theorem ExtX.ext (e : ExtX n a h h1) (o : OwnSl h n0 n a z m cs) : Ext n0 h h1 := by
  have hn := o.le
  rcases o.or with ⟨k1, _⟩ | ⟨k1, k2, k3, _⟩
  · exact ⟨fun b hb => (e b (by omega) (.inl k1)).1, fun b i hb => (e b (by omega) (.inl k1)).2 i⟩
  · exact ⟨fun b hb => (e b (by omega) (.inr (by omega))).1, fun b i hb => (e b (by omega) (.inr (by omega))).2 i⟩
theorem OwnSl.new (hn : n0 ≤ n) (hlen : cs.length = m * z) (hk : known cs = true) : OwnSl (h.app (.new n ⟨m * z, 0, true, z⟩ cs)) n0 (n + 1) (some ⟨n, 0, none⟩) z m cs := by
  refine ⟨by omega, hlen, hk, .inr ⟨rfl, hn, by show n < n + 1; omega, i_new, ?_⟩⟩
  exact r_new hlen.symm
theorem OwnSl.new1 (hn : n0 ≤ n) (hlen : cs.length = m) (hk : known cs = true) : OwnSl (h.app (.new n ⟨m, 0, true, 1⟩ cs)) n0 (n + 1) (some ⟨n, 0, none⟩) 1 m cs := by
  have := OwnSl.new (h := h) (z := 1) (m := m) (cs := cs) hn (by simpa using hlen) hk
  rwa [Nat.mul_one] at this
theorem OwnSl.mono (o : OwnSl h n0 n a z m cs) {n0' : Nat} (hl : n0' ≤ n0) : OwnSl h n0' n a z m cs := by
  have := o.le
  refine ⟨by omega, o.len, o.kn, ?_⟩
  rcases o.or with k | ⟨k1, k2, k3⟩
  · exact .inl k
  · exact .inr ⟨k1, by omega, k3⟩
/-- Another block changes. -/
theorem OwnSl.sets {b o' : Nat} {vs : List Value} (o : OwnSl h n0 n a z m cs) (hb : b < n0) : OwnSl (h.app (.sets b o' vs)) n0 n a z m cs := by
  refine ⟨o.le, o.len, o.kn, ?_⟩
  rcases o.or with k | ⟨k1, k2, k3, k4, k5⟩
  · exact .inl k
  · exact .inr ⟨k1, k2, k3, i_sets k4, by rw [r_sets_ne (by omega) k5]⟩

theorem OwnSl.setsN {b o' : Nat} {vs : List Value} (o : OwnSl h n0 n a z m cs) (hb : a = none ∨ sb a ≠ b) : OwnSl (h.app (.sets b o' vs)) n0 n a z m cs := by
  refine ⟨o.le, o.len, o.kn, ?_⟩
  rcases o.or with k | ⟨k1, k2, k3, k4, k5⟩
  · exact .inl k
  · refine .inr ⟨k1, k2, k3, i_sets k4, ?_⟩
    rcases hb with hb | hb
    · rw [hb] at k1; cases k1
    · rw [r_sets_ne hb k5]
/-- A slice's elements as a source. -/
theorem SlR.src {f : Nat → Value} (s : SlR h n a z m f) (hk : known ((List.range (m * z)).map f) = true) : Src h z (.slice a m m) m ((List.range (m * z)).map f) := by
  rcases s.shape with ⟨k1, k2⟩ | ⟨k1, _⟩
  · subst k1; subst k2
    simp; exact .nil
  · have := SlR.rd s (Ext.refl n h) (i := 0) (k := m * z) (by omega)
    simp only [Nat.add_zero, Nat.zero_add] at this
    have e : (fun j => f j) = f := rfl
    rw [e] at this
    rw [← this] at hk ⊢
    rw [show Value.slice a m m = Value.slice (some ⟨sb a, so a, none⟩) m m by rw [← k1]]
    exact .slice (Nat.le_refl _) hk
theorem OwnSl.src (o : OwnSl h n0 n a z m cs) : Src h z (.slice a m m) m cs := by
  rcases o.or with ⟨k1, k2⟩ | ⟨k1, k2, k3, k4, k5⟩
  · subst k1; subst k2
    have : cs = [] := List.eq_nil_of_length_eq_zero (by have := o.len; omega)
    subst this; exact .nil
  · have hk := o.kn
    rw [← k5] at hk ⊢
    rw [show Value.slice a m m = Value.slice (some ⟨sb a, 0, none⟩) m m by rw [← k1]]
    exact .slice (Nat.le_refl _) hk
theorem OwnSl.slb {h : AH} {n0 n : Nat} {a : Option Addr} {l : List UInt8} (o : OwnSl h n0 n a 1 l.length (bytesV l)) : SlB h n a l :=
  o.slr.congr fun j hj => by simp [bytesV, bytesF, List.getD, show j < l.length by omega]
theorem SlB.src {h : AH} {n : Nat} {a : Option Addr} {l : List UInt8} (s : SlB h n a l) : Src h 1 (.slice a l.length l.length) l.length (bytesV l) := by
  have e : (List.range (l.length * 1)).map (bytesF l) = bytesV l := by
    apply List.ext_getElem
    · simp [bytesV]
    · intro i h1 h2
      have hi : i < l.length := by simpa [bytesV] using h2
      simp [bytesV, bytesF, List.getD, hi]
  have := SlR.src s (by rw [e]; exact bytesV_known l)
  rwa [e] at this
theorem SlR.two {h : AH} {n : Nat} {a : Option Addr} {z m : Nat} {f : Nat → Value} (s : SlR h n a z m f) : (a = none ∧ m = 0) ∨ ∃ b o, a = some ⟨b, o, none⟩ := by
  rcases s.shape with k | k
  · exact .inl k
  · exact .inr ⟨_, _, k.1⟩
theorem OwnSl.facts (o : OwnSl h n0 n a z m cs) (hm : 0 < m) : so a = 0 ∧ n0 ≤ sb a ∧ sb a < n ∧ h.info (sb a) = some ⟨m * z, 0, true, z⟩ ∧ SlA a m ∧ ∀ j, j < m * z → h.cell (sb a) (so a + j) = cs.getD j (.tuple #[]) := by
  have hs := o.slr
  rcases o.or with ⟨k1, k2⟩ | ⟨k1, k2, k3, k4, k5⟩
  · omega
  · exact ⟨by rw [k1]; rfl, k2, k3, k4, hs.sla, hs.cell⟩
/-- One of its cells is set. -/
theorem OwnSl.set1 {i : Nat} {v : Value} (o : OwnSl h n0 n a z m cs) (hi : i < m * z) (hv : known [v] = true) : OwnSl (h.app (.sets (sb a) (so a + i) [v])) n0 n a z m (cs.set i v) := by
  have hm : 0 < m := Nat.pos_of_ne_zero fun h0 => by subst h0; simp at hi
  have hk : ∀ (l : List Value) (i : Nat), known l = true → known (l.set i v) = true := by
    intro l
    induction l with
    | nil => intro i h; exact h
    | cons x l ih =>
      intro i h
      cases i with
      | zero => cases x <;> simp_all [known] <;> (cases v <;> simp_all [known])
      | succ i => cases x <;> simp_all [known]
  refine ⟨o.le, by simp [o.len], hk _ _ o.kn, ?_⟩
  rcases o.or with ⟨k1, k2⟩ | ⟨k1, k2, k3, k4, k5⟩
  · omega
  · have e : so a = 0 := by rw [k1]; rfl
    refine .inr ⟨k1, k2, k3, i_sets k4, ?_⟩
    apply List.ext_getElem
    · rw [rd_length]; simp [o.len]
    · intro j h1 h2
      rw [rd_length] at h1
      have e1 := rd_getD (h.app (.sets (sb a) (so a + i) [v])) (sb a) (m * z) 0 j h1
      have e2 : (rd (h.app (.sets (sb a) (so a + i) [v])) (sb a) 0 (m * z)).getD j (.tuple #[]) = (rd (h.app (.sets (sb a) (so a + i) [v])) (sb a) 0 (m * z))[j]'(by rw [rd_length]; exact h1) := by simp [List.getD, rd_length, h1]
      rw [← e2, e1]
      have h3 : j < cs.length := by rw [o.len]; exact h1
      by_cases hj : j = i
      · subst hj
        rw [c_in (v := v) (by omega) (by rw [e]; simp)]
        simp
      · rw [c_out (v := h.cell (sb a) (0 + j)) (by right; simp only [List.length_cons, List.length_nil]; omega) rfl]
        have := rd_getD h (sb a) (m * z) 0 j h1
        rw [k5] at this
        rw [← this]
        simp [List.getD, h3, List.getElem_set_ne (Ne.symm hj)]
theorem SlR.take {f : Nat → Value} {u : Nat} (s : SlR h n a z m f) (hu : u ≤ m) : SlR h n a z u f := by
  refine ⟨?_, fun j hj => s.cell j (Nat.lt_of_lt_of_le hj (Nat.mul_le_mul_right _ hu))⟩
  rcases s.shape with ⟨k1, k2⟩ | k
  · exact .inl ⟨k1, by omega⟩
  · exact .inr k
theorem SlB.take {u : Nat} {l : List UInt8} (s : SlB h n a l) (hu : u ≤ l.length) : SlB h n a (l.take u) := by
  have := SlR.take s hu
  have e : (l.take u).length = u := by simp; omega
  unfold SlB
  rw [e]
  refine this.congr fun j hj => ?_
  simp only [bytesF, List.getD, List.getElem?_take]
  rw [if_pos (by omega)]
theorem OwnSl.slbE {l : List UInt8} (o : OwnSl h n0 n a 1 m (bytesV l)) : SlB h n a l := by
  have : m = l.length := by have := o.len; rw [bytesV_length] at this; omega
  subst this; exact o.slb
theorem bytesV_set (l : List UInt8) (i v : Nat) (hv : v < 256) : (bytesV l).set i (.int .u8 (v : Nat)) = bytesV (l.set i (UInt8.ofNat v)) := by
  simp only [bytesV, List.map_set]
  congr 2
  simp [UInt8.toNat_ofNat', Nat.mod_eq_of_lt hv]
theorem SlB.takeA {h : AH} {n : Nat} {a : Option Addr} {l : List UInt8} (S : SlB h n a l) (u : Nat) : SlB h n a (l.take u) := by
  by_cases hu : u ≤ l.length
  · exact S.take hu
  · rw [List.take_of_length_le (by omega)]; exact S
theorem SlB.cut {i u : Nat} {l : List UInt8} (s : SlB h n a l) (hi : i ≤ u) (hu : u ≤ l.length) : SlB h n (Abs.sub a i) ((l.take u).drop i) := by
  have := SlR.sub s hi hu
  rw [Nat.mul_one] at this
  have e : ((l.take u).drop i).length = u - i := by simp; omega
  unfold SlB
  rw [e]
  refine this.congr fun j hj => ?_
  simp only [bytesF, List.getD, List.getElem?_drop, List.getElem?_take]
  rw [if_pos (by omega)]
theorem full_slice {a : Option Addr} {m c : Nat} : full (.slice a m c) m := rfl
end

section
variable {P : Program} {T W : Nat → Prop} {ops : Array Oper} {os : List Oper} {env : Env} {n n1 : Nat} {h h1 g : AH} {Q : Env → Nat → AH → Prop}
variable {dst : Option Tmp} {ty : TypeId} {pos : String} {after : Array Edge} {gd : Option (Nat × Bool)}

theorem SlR.extX {h h1 : AH} {n z m : Nat} {a c : Option Addr} {f : Nat → Value} (s : SlR h n a z m f) (e : ExtX n c h h1) (hne : c = none ∨ a = none ∨ sb a ≠ sb c) : SlR h1 n a z m f := by
  rcases s.shape with ⟨k1, k2⟩ | ⟨k1, k2, mm, k3, k4⟩
  · subst k1; subst k2; exact SlR.nil
  · have hx : c = none ∨ sb a ≠ sb c := by
      rcases hne with q | q | q
      · exact .inl q
      · rw [q] at k1; cases k1
      · exact .inr q
    have := e (sb a) k2 hx
    exact ⟨.inr ⟨k1, k2, mm, by rw [this.1]; exact k3, k4⟩, fun j hj => (this.2 _).trans (s.cell j hj)⟩
theorem OwnSl.at' {h : AH} {n0 n z m : Nat} {a : Option Addr} {cs : List Value} (o : OwnSl h n0 n a z m cs) : a = none ∨ n0 ≤ sb a ∧ sb a < n := by
  rcases o.or with ⟨k, _⟩ | ⟨_, k1, k2, _⟩
  · exact .inl k
  · exact .inr ⟨k1, k2⟩
theorem OwnSl.extX {h h1 : AH} {n0 n n1 z m : Nat} {a c : Option Addr} {cs : List Value} (o : OwnSl h n0 n a z m cs) (e : ExtX n c h h1) (hn : n ≤ n1) (hne : c = none ∨ a = none ∨ sb a ≠ sb c) : OwnSl h1 n0 n1 a z m cs := by
  refine ⟨by have := o.le; omega, o.len, o.kn, ?_⟩
  rcases o.or with k | ⟨k1, k2, k3, k4, k5⟩
  · exact .inl k
  · have hx : c = none ∨ sb a ≠ sb c := by
      rcases hne with q | q | q
      · exact .inl q
      · rw [q] at k1; cases k1
      · exact .inr q
    have := e (sb a) k3 hx
    exact .inr ⟨k1, k2, by omega, by rw [this.1]; exact k4, by rw [rd_congr this.2]; exact k5⟩
theorem OwnSl.extW {W : Nat → Prop} {h h1 : AH} {n0 n n1 n2 z m : Nat} {a : Option Addr} {cs : List Value} (o : OwnSl h n0 n a z m cs) (e : ExtW W n2 h h1) (hn : n ≤ n1) (hn2 : n ≤ n2) (hW : a ≠ none → ¬ W (sb a)) : OwnSl h1 n0 n1 a z m cs := by
  refine ⟨by have := o.le; omega, o.len, o.kn, ?_⟩
  rcases o.or with k | ⟨k1, k2, k3, k4, k5⟩
  · exact .inl k
  · have hw := hW (by rw [k1]; simp)
    exact .inr ⟨k1, k2, by omega, by rw [e.info _ (by omega) hw]; exact k4, by rw [rd_congr (fun i => e.cell _ i (by omega) hw)]; exact k5⟩
theorem ExtW.ofX {W : Nat → Prop} {h h1 : AH} {n : Nat} {a : Option Addr} (e : ExtX n a h h1) (hW : a ≠ none → W (sb a)) : ExtW W n h h1 := by
  have hx : ∀ b, ¬ W b → a = none ∨ b ≠ sb a := fun b hw => by
    by_cases q : a = none
    · exact .inl q
    · exact .inr fun e => hw (e ▸ hW q)
  exact ⟨fun b hb hw => (e b hb (hx b hw)).1, fun b i hb hw => (e b hb (hx b hw)).2 i⟩
/-- append(nil, y...) in a region that draws its order. -/
theorem RD.appendN {q : Tmp} {t t2 e : TypeId} {d d2 : TypeDesc} {z by_ : Nat} {zv : Value} {x y : Operand} {m : Nat} {a : Option Addr} {f : Nat → Value} {h0 : AH} {n0 : Nat} {ps : List Ft} [hu : Uc P t (.slice e)] [hz : Tc P e d z by_ zv] [hu2 : Uc P t2 d2]
    (hw : wants ops ⟨some q, .call { callee := .builtin .append, args := #[x, y], argTypes := #[t, t2] }, ty, pos, after, gd⟩ env = some true) (hx : Opd env x (.slice none 0 0)) (hy : Opd env y (.slice a m m)) (S : SlR h0 n0 a z m f) (E : Ext n0 h0 h) (hn : n0 ≤ n) (hb : sb a < n)
    (hk : known ((List.range (m * z)).map f) = true) (hbig : m * by_ ≤ 140737488355328) (hc : CF ops ps.length (· = sb a) none' ps.length ps)
    (K : ∀ a' n1 h1, n ≤ n1 → OwnSl h1 n n1 a' z m ((List.range (m * z)).map f) → Ext n h h1 → RD P T ops (⟨(· = sb a), none', n, n1⟩ :: ps) os ((q, .slice a' m m) :: env) n1 h1 Q)
    (c1 : Nat.beq z 0 = false := by rfl) (c2 : zv.cells.size = z := by rfl) (c3 : Nat.beq by_ 0 = false := by rfl) (c4 : notIntD d2 = true := by rfl) :
    RD P T ops ps (⟨some q, .call { callee := .builtin .append, args := #[x, y], argTypes := #[t, t2] }, ty, pos, after, gd⟩ :: os) env n h Q := by
  have hz0 : z ≠ 0 := fun h => by subst h; simp at c1
  have hb0 : by_ ≠ 0 := fun h => by subst h; simp at c3
  have he : EL P t t2 z by_ := ⟨e, d, zv, d2, hu.out, hz.out, hz0, c2, hb0, hu2.out, c4⟩
  by_cases hm : m = 0
  · subst hm
    have h0' : Src AH.empty z (.slice a 0 0) 0 [] := by
      rcases S.shape with ⟨k1, _⟩ | ⟨k1, _⟩
      · subst k1; exact Src.nil
      · rw [k1]
        have := Src.slice (g := AH.empty) (z := z) (b := sb a) (o := so a) (m := 0) (k := 0) (Nat.le_refl _) (by simp [rd, known])
        simpa [rd] using this
    refine RD.op (· = sb a) none' hw (o_append0 he hx hy h0' full_slice) (AH.empty_le _) empty_looks (fun _ e => by subst e; exact hb) (fun b hb => (Dl.touches_nil hb).elim) hc (h1 := h) (by rw [AH.app_nil]; exact .refl _) ?_
    exact K none n h (Nat.le_refl _) (by simpa using OwnSl.nil (Nat.le_refl _)) (Ext.refl _ _)
  · rcases S.shape with ⟨_, k⟩ | ⟨k1, k2, mm, k3, k4⟩
    · exact absurd k hm
    · have S' : SlR (h.only (sb a)) n0 a z m f := ⟨.inr ⟨k1, k2, mm, i_only (by rw [E.info _ k2]; exact k3), k4⟩, fun j hj => c_only ((E.cell _ _ k2).trans (S.cell j hj))⟩
      have hsr := S'.src hk
      have hlx := hsr.length
      refine RD.op (· = sb a) none' hw (o_appendNil he hx hy hsr full_slice hm hbig) (AH.only_le _ _) (fun _ hx => AH.only_looks hx) (fun _ e => by subst e; omega) (fun b hb => ?_) hc (.refl _) (K _ _ _ (Nat.le_succ _) ?_ (Ext.appNew (Nat.le_refl _) (Ext.refl _ _)))
      · rcases hb with h1 | ⟨i, h1⟩ <;> (simp only [Dl.new] at h1; split at h1) <;> first | omega | exact absurd rfl h1
      · rw [hlx]; exact .new (Nat.le_refl _) hlx hk
/-- A call of a function value that looks at no memory. -/
theorem RD.callv0 {d : Tmp} {f : FuncId} {x : Operand} {xs : List Operand} {vs : List Value} {ts : Array TypeId} {r : Value} {ps : List Ft} (hw : wants ops ⟨some d, .call { callee := .value x, args := xs.toArray, argTypes := ts }, ty, pos, after, gd⟩ env = some true)
    (hf : Opd env x (.func (.func f) #[] #[])) (hx : Opds env xs vs) (hev : Ev P none' f vs.toArray n .empty r n .empty) (k : RD P T ops (.no n n :: ps) os ((d, r) :: env) n h Q) :
    RD P T ops ps (⟨some d, .call { callee := .value x, args := xs.toArray, argTypes := ts }, ty, pos, after, gd⟩ :: os) env n h Q := by
  have hev2 : Ev P none' f (xs.toArray.map (ev env) ++ #[]) n .empty r n .empty := by rw [hx.mapA]; simpa using hev
  obtain ⟨dl, hle, hwi, ho⟩ := op_callv (T := T) (ty := ty) (dst := some d) (pos := pos) (after := after) (gd := gd) (ts := ts) hf.ev hev2 (fun _ h => h.elim)
  have hno : ∀ b, ¬ dl.touches b := fun b hb => by
    have := hwi b hb
    rcases this.1 with h1 | h1
    · exact h1
    · omega
  refine RD.op none' none' hw ho (AH.empty_le _) empty_looks (fun _ h => h.elim) (fun b hb => absurd hb (hno b)) (CF.pure ps) ?_ k
  have e : h.app dl = h := by
    have hi : ∀ b, dl.info b = none := fun b => Classical.byContradiction fun q => hno b (.inl q)
    have hc : ∀ b i, dl.cell b i = none := fun b i => Classical.byContradiction fun q => hno b (.inr ⟨i, q⟩)
    simp [AH.app, hi, hc]
  rw [e]; exact .refl _
/-- A call that only answers: memory is as it was. -/
theorem RD.callP {d : Tmp} {f : FuncId} {xs : List Operand} {vs : List Value} {ts : Array TypeId} {r : Value} {ps : List Ft} (nb : Nat) (hw : wants ops ⟨some d, .call { callee := .value (.func f), args := xs.toArray, argTypes := ts }, ty, pos, after, gd⟩ env = some true)
    (hx : Opds env xs vs) (hev : Ev P none' f vs.toArray n (h.below nb) r n (h.below nb)) (hnb : nb ≤ n) (hc : CF ops ps.length (· < nb) none' ps.length ps) (k : RD P T ops (⟨(· < nb), none', n, n⟩ :: ps) os ((d, r) :: env) n h Q) :
    RD P T ops ps (⟨some d, .call { callee := .value (.func f), args := xs.toArray, argTypes := ts }, ty, pos, after, gd⟩ :: os) env n h Q := by
  rw [← hx.mapA] at hev
  obtain ⟨dl, hle, hwi, ho⟩ := op_call (T := T) (ty := ty) (dst := some d) (pos := pos) (after := after) (gd := gd) (ts := ts) hev (fun _ h => h.elim)
  have hno : ∀ b, ¬ dl.touches b := fun b hb => by
    have := hwi b hb
    rcases this.1 with h1 | h1
    · exact h1
    · omega
  refine RD.op (· < nb) none' hw ho (AH.below_le _ _) (fun _ hx => AH.below_looks hx) (fun _ e => Nat.lt_of_lt_of_le e hnb) (fun b hb => absurd hb (hno b)) hc ?_ k
  have e : h.app dl = h := by
    have hi : ∀ b, dl.info b = none := fun b => Classical.byContradiction fun q => hno b (.inl q)
    have hc : ∀ b i, dl.cell b i = none := fun b i => Classical.byContradiction fun q => hno b (.inr ⟨i, q⟩)
    simp [AH.app, hi, hc]
  rw [e]; exact .refl _
/-- append(x, make(l)...) to a row of one's own. -/
theorem RS.appendZT {q : Tmp} {t t2 e : TypeId} {d : TypeDesc} {kk qq : IntKind} {z by_ : Nat} {zv : Value} {x y : Operand} {a : Option Addr} {n0 m : Nat} {l : Int} {cs : List Value} [hu : Uc P t (.slice e)] [hz : Tc P e d z by_ zv] [hu2 : Uc P t2 (.int qq)]
    (hw : wants ops ⟨some q, .call { callee := .builtin .append, args := #[x, y], argTypes := #[t, t2] }, ty, pos, after, gd⟩ env = some true) (hx : Opd env x (.slice a m m)) (hy : Opd env y (.int kk l)) (hO : OwnSl h n0 n a z m cs) (hl : 0 < l)
    (hT : a ≠ none → T (sb a)) (hbig : (m + l.toNat) * by_ ≤ 140737488355328) (hkn : known (zrow zv.cells.toList l.toNat) = true)
    (K : ∀ a' n1 h1, n ≤ n1 → OwnSl h1 n0 n1 a' z (m + l.toNat) (cs ++ zrow zv.cells.toList l.toNat) → ExtX n a h h1 → (a' = a ∨ n ≤ sb a') → RS P T ops os ((q, .slice a' (m + l.toNat) (m + l.toNat)) :: env) n1 h1 Q)
    (c1 : Nat.beq z 0 = false := by rfl) (c2 : zv.cells.size = z := by rfl) (c3 : Nat.beq by_ 0 = false := by rfl) (c4 : zv.cells.all (flat 8) = true := by first | rfl | (simp [Value.cells, flat]; done)) :
    RS P T ops (⟨some q, .call { callee := .builtin .append, args := #[x, y], argTypes := #[t, t2] }, ty, pos, after, gd⟩ :: os) env n h Q := by
  have hz0 : z ≠ 0 := fun h => by subst h; simp at c1
  have hb0 : by_ ≠ 0 := fun h => by subst h; simp at c3
  have hlim : l.toNat * by_ ≤ 140737488355328 := Nat.le_trans (Nat.mul_le_mul_right _ (by omega)) hbig
  have hY : AppY P t t2 ty e z by_ zv h (ev env y) l.toNat (zrow zv.cells.toList l.toNat) := by
    rw [hy.ev]; exact AppY.zeros hu.out hz.out hz0 hb0 c2 c4 hu2.out (by omega) hlim hkn
  have hlx := hY.len
  have happ : ∀ (l m : List Value), known l = true → known m = true → known (l ++ m) = true := by
    intro l m hl hm
    induction l with
    | nil => exact hm
    | cons v l ih => cases v <;> simp_all [known]
  rcases hO.or with ⟨k1, k2⟩ | ⟨k1, k2, k3, k4, k5⟩
  · subst k1; subst k2
    have : cs = [] := List.eq_nil_of_length_eq_zero (by have := hO.len; omega)
    subst this
    simp only [Nat.zero_add, List.nil_append] at K hbig
    refine RS.mem hw rfl (op_appendNilY hu.out hz.out hz0 c2 hx.ev hY (by omega) hlim) (K _ _ _ (Nat.le_succ _) ?_ ?_ (.inr (Nat.le_refl _)))
    · rw [hlx]; exact .new hO.le hlx hkn
    · exact fun x hx _ => ⟨by simp [AH.app, Dl.new, show x ≠ n by omega], fun i => by simp [AH.app, Dl.new, show x ≠ n by omega]⟩
  · have hx' := hx.ev
    rw [k1] at hx'
    have hop := op_appendY (P := P) (T := T) (n := n) (g := h) (env := env) (dst := some q) (ty := ty) (pos := pos) (after := after) (gd := gd) (mm := ⟨m * z, 0, true, z⟩) false hu.out hz.out hz0 c2 hx' hY k4 rfl rfl rfl (by rw [k5]; exact hO.kn) (.inl (hT (by rw [k1]; simp))) k3 (by omega) hbig
    rw [k5] at hop
    refine RS.mem hw rfl hop (K _ _ _ (Nat.le_succ _) ?_ ?_ (.inr (Nat.le_refl _)))
    · have hl2 : (cs ++ zrow zv.cells.toList l.toNat).length = (m + l.toNat) * z := by rw [List.length_append, hO.len, hlx, Nat.add_mul]
      refine ⟨by have := hO.le; omega, hl2, happ _ _ hO.kn hkn, .inr ⟨rfl, by have := hO.le; show n0 ≤ n; omega, by show n < n + 1; omega, ?_, ?_⟩⟩
      · have := i_take (h := h) (b := sb a) (n := n) (sz := m * z) (lk := 0) (ez := z) (keep := false) (cs := cs ++ zrow zv.cells.toList l.toNat)
        rw [hl2] at this; exact this
      · exact r_take hl2.symm
    · intro x hx hne
      have hne' : x ≠ sb a := by
        rcases hne with h | h
        · rw [h] at k1; cases k1
        · exact h
      exact ⟨by simp [AH.app, Dl.takeover, show x ≠ n by omega, hne'], fun i => by simp [AH.app, Dl.takeover, show x ≠ n by omega, hne']⟩
/-- A method, called through an interface. -/
theorem RS.invoke {d : Tmp} {f : FuncId} {x : Operand} {t : TypeId} {v : Value} {nm : String} {xs : List Operand} {vs : List Value} {ts : Array TypeId} {W : Nat → Prop} {QC : Value → Nat → AH → Prop} [Mc P t nm f]
    (hw : wants ops ⟨some d, .call { callee := .invoke x nm, args := xs.toArray, argTypes := ts }, ty, pos, after, gd⟩ env = some true) (hi : Opd env x (.iface t v)) (hx : Opds env xs vs) (hev : RF P W f (v :: vs).toArray n h QC) (hW : ∀ b, W b → T b)
    (k : ∀ r n1 h1, n ≤ n1 → QC r n1 h1 → RS P T ops os ((d, r) :: env) n1 h1 Q) : RS P T ops (⟨some d, .call { callee := .invoke x nm, args := xs.toArray, argTypes := ts }, ty, pos, after, gd⟩ :: os) env n h Q := by
  obtain ⟨r, n1, h1, hev, hq⟩ := hev
  have hev2 : Ev P W f (#[v] ++ xs.toArray.map (ev env)) n h r n1 h1 := by rw [hx.mapA]; simpa using hev
  obtain ⟨dl, hle, _, ho⟩ := op_invokeC (T := T) (name := nm) (ty := ty) (dst := some d) (pos := pos) (after := after) (gd := gd) (ts := ts) hi.ev hev2 hW
  exact RS.op hw ho hle (k r n1 h1 ho.le hq)
/-- The same in a region that draws its order: it looks at what lies below nb and turns W. -/
theorem RD.invoke {d : Tmp} {f : FuncId} {x : Operand} {t : TypeId} {v : Value} {nm : String} {xs : List Operand} {vs : List Value} {ts : Array TypeId} {W : Nat → Prop} {QC : Value → Nat → AH → Prop} {ps : List Ft} [Mc P t nm f] (nb : Nat)
    (hw : wants ops ⟨some d, .call { callee := .invoke x nm, args := xs.toArray, argTypes := ts }, ty, pos, after, gd⟩ env = some true) (hi : Opd env x (.iface t v)) (hx : Opds env xs vs) (hev : RF P W f (v :: vs).toArray n (h.below nb) QC) (hW : ∀ b, W b → T b)
    (hnb : nb ≤ n) (hc : CF ops ps.length (· < nb) W ps.length ps) (k : ∀ r n1 h1, n ≤ n1 → QC r n1 h1 → RD P T ops (⟨(· < nb), W, n, n1⟩ :: ps) os ((d, r) :: env) n1 h1 Q) :
    RD P T ops ps (⟨some d, .call { callee := .invoke x nm, args := xs.toArray, argTypes := ts }, ty, pos, after, gd⟩ :: os) env n h Q := by
  obtain ⟨r, n1, h1, hev, hq⟩ := hev
  have hev2 : Ev P W f (#[v] ++ xs.toArray.map (ev env)) n (h.below nb) r n1 h1 := by rw [hx.mapA]; simpa using hev
  obtain ⟨dl, hle, hwi, ho⟩ := op_invokeC (T := T) (name := nm) (ty := ty) (dst := some d) (pos := pos) (after := after) (gd := gd) (ts := ts) hi.ev hev2 hW
  exact RD.op (· < nb) W hw ho (AH.below_le _ _) (fun _ hx => AH.below_looks hx) (fun _ e => Nat.lt_of_lt_of_le e hnb) (fun b hb => (hwi b hb).1) hc (hle.trans ((AH.below_le h nb).app dl)) (k r n1 h1 ho.le hq)
/-- A call of a function value that holds what it has captured. -/
theorem RS.callv {d : Tmp} {f : FuncId} {x : Operand} {caps : List Value} {xs : List Operand} {vs : List Value} {ts : Array TypeId} {W : Nat → Prop} {QC : Value → Nat → AH → Prop}
    (hw : wants ops ⟨some d, .call { callee := .value x, args := xs.toArray, argTypes := ts }, ty, pos, after, gd⟩ env = some true) (hf : Opd env x (.func (.func f) #[] caps.toArray)) (hx : Opds env xs vs) (hev : RF P W f (vs ++ caps).toArray n h QC) (hW : ∀ b, W b → T b)
    (k : ∀ r n1 h1, n ≤ n1 → QC r n1 h1 → RS P T ops os ((d, r) :: env) n1 h1 Q) : RS P T ops (⟨some d, .call { callee := .value x, args := xs.toArray, argTypes := ts }, ty, pos, after, gd⟩ :: os) env n h Q := by
  obtain ⟨r, n1, h1, hev, hq⟩ := hev
  have hev2 : Ev P W f (xs.toArray.map (ev env) ++ caps.toArray) n h r n1 h1 := by rw [hx.mapA]; simpa using hev
  obtain ⟨dl, hle, _, ho⟩ := op_callv (T := T) (ty := ty) (dst := some d) (pos := pos) (after := after) (gd := gd) (ts := ts) hf.ev hev2 hW
  exact RS.op hw ho hle (k r n1 h1 ho.le hq)
/-- append to a row of one's own. -/
theorem RS.appendT {q : Tmp} {t t2 e : TypeId} {d d2 : TypeDesc} {z by_ : Nat} {zv : Value} {x y : Operand} {a : Option Addr} {n0 m k : Nat} {v : Value} {xs cs : List Value} [hu : Uc P t (.slice e)] [hz : Tc P e d z by_ zv] [hu2 : Uc P t2 d2]
    (hw : wants ops ⟨some q, .call { callee := .builtin .append, args := #[x, y], argTypes := #[t, t2] }, ty, pos, after, gd⟩ env = some true) (hx : Opd env x (.slice a m m)) (hy : Opd env y v) (hO : OwnSl h n0 n a z m cs) (hs : Src h z v k xs) (hf : full v k)
    (hT : a ≠ none → T (sb a)) (hbig : (m + k) * by_ ≤ 140737488355328)
    (K : ∀ a' n1 h1, n ≤ n1 → OwnSl h1 n0 n1 a' z (m + k) (cs ++ xs) → ExtX n a h h1 → (a' = a ∨ n ≤ sb a') → RS P T ops os ((q, .slice a' (m + k) (m + k)) :: env) n1 h1 Q)
    (c1 : Nat.beq z 0 = false := by rfl) (c2 : zv.cells.size = z := by rfl) (c3 : Nat.beq by_ 0 = false := by rfl) (c4 : notIntD d2 = true := by rfl) :
    RS P T ops (⟨some q, .call { callee := .builtin .append, args := #[x, y], argTypes := #[t, t2] }, ty, pos, after, gd⟩ :: os) env n h Q := by
  have hz0 : z ≠ 0 := fun h => by subst h; simp at c1
  have hb0 : by_ ≠ 0 := fun h => by subst h; simp at c3
  have he : EL P t t2 z by_ := ⟨e, d, zv, d2, hu.out, hz.out, hz0, c2, hb0, hu2.out, c4⟩
  have hlx := hs.length
  have hkx := hs.known
  have happ : ∀ (l m : List Value), known l = true → known m = true → known (l ++ m) = true := by
    intro l m hl hm
    induction l with
    | nil => exact hm
    | cons v l ih => cases v <;> simp_all [known]
  by_cases hk0 : k = 0
  · subst hk0
    have : xs = [] := List.eq_nil_of_length_eq_zero (by simpa using hlx)
    subst this
    refine RS.put hw rfl (o_append0 he hx hy hs hf) (K a n h (Nat.le_refl _) (by simpa using hO) (fun _ _ _ => ⟨rfl, fun _ => rfl⟩) (.inl rfl))
  · rcases hO.or with ⟨k1, k2⟩ | ⟨k1, k2, k3, k4, k5⟩
    · subst k1; subst k2
      have : cs = [] := List.eq_nil_of_length_eq_zero (by have := hO.len; omega)
      subst this
      simp only [Nat.zero_add, List.nil_append] at K hbig
      refine RS.mem hw rfl (o_appendNil he hx hy hs hf hk0 hbig) (K _ _ _ (Nat.le_succ _) ?_ ?_ (.inr (Nat.le_refl _)))
      · rw [hlx]; exact .new hO.le hlx hkx
      · exact fun x hx _ => ⟨by simp [AH.app, Dl.new, show x ≠ n by omega], fun i => by simp [AH.app, Dl.new, show x ≠ n by omega]⟩
    · have hx' := hx
      rw [k1] at hx'
      refine RS.mem hw rfl (o_append false he hx' hy hs hf k4 k5 hO.kn (.inl (hT (by rw [k1]; simp))) k3 hk0 hbig) (K _ _ _ (Nat.le_succ _) ?_ ?_ (.inr (Nat.le_refl _)))
      · have hl2 : (cs ++ xs).length = (m + k) * z := by rw [List.length_append, hO.len, hlx, Nat.add_mul]
        refine ⟨by have := hO.le; omega, hl2, happ _ _ hO.kn hkx, .inr ⟨rfl, by have := hO.le; show n0 ≤ n; omega, by show n < n + 1; omega, ?_, ?_⟩⟩
        · have := i_take (h := h) (b := sb a) (n := n) (sz := m * z) (lk := 0) (ez := z) (keep := false) (cs := cs ++ xs)
          rw [hl2] at this; exact this
        · exact r_take hl2.symm
      · intro x hx hne
        have hne' : x ≠ sb a := by
          rcases hne with h | h
          · rw [h] at k1; cases k1
          · exact h
        exact ⟨by simp [AH.app, Dl.takeover, show x ≠ n by omega, hne'], fun i => by simp [AH.app, Dl.takeover, show x ≠ n by omega, hne']⟩

/-- append to a row of one's own, made by this function. -/
theorem RS.append {q : Tmp} {t t2 e : TypeId} {d d2 : TypeDesc} {z by_ : Nat} {zv : Value} {x y : Operand} {a : Option Addr} {n0 m k : Nat} {v : Value} {xs cs : List Value} [hu : Uc P t (.slice e)] [hz : Tc P e d z by_ zv] [hu2 : Uc P t2 d2]
    (hw : wants ops ⟨some q, .call { callee := .builtin .append, args := #[x, y], argTypes := #[t, t2] }, ty, pos, after, gd⟩ env = some true) (hx : Opd env x (.slice a m m)) (hy : Opd env y v) (hO : OwnSl h n0 n a z m cs) (hs : Src h z v k xs) (hf : full v k)
    (hT : ∀ b, n0 ≤ b → T b) (hbig : (m + k) * by_ ≤ 140737488355328)
    (K : ∀ a' n1 h1, n ≤ n1 → OwnSl h1 n0 n1 a' z (m + k) (cs ++ xs) → ExtX n a h h1 → (a' = a ∨ n ≤ sb a') → RS P T ops os ((q, .slice a' (m + k) (m + k)) :: env) n1 h1 Q)
    (c1 : Nat.beq z 0 = false := by rfl) (c2 : zv.cells.size = z := by rfl) (c3 : Nat.beq by_ 0 = false := by rfl) (c4 : notIntD d2 = true := by rfl) :
    RS P T ops (⟨some q, .call { callee := .builtin .append, args := #[x, y], argTypes := #[t, t2] }, ty, pos, after, gd⟩ :: os) env n h Q :=
  RS.appendT hw hx hy hO hs hf (fun q => hT _ (hO.at'.resolve_left q).1) hbig K c1 c2 c3 c4

/-- A contract that tells the answer alone, where that holds no address. -/
theorem RF.pure {f : FuncId} {args : Array Value} {v : Value} (hv : flat 8 v = true) (k : ∀ m, n ≤ m → RF P none' f args m h (fun r _ _ => r = v)) : Ev P none' f args n h v n h :=
  Ev.pure (fun _ h => h) hv fun m hm => by
    obtain ⟨r, n', h', hev, rfl⟩ := k m hm
    exact ⟨n', h', hev⟩
theorem none'W {T : Nat → Prop} : ∀ b, none' b → T b := fun _ h => h.elim
end
end Go.Abs

/- What a law's arguments read as, told type by type; lists of data. -/
namespace Go.Abs
open Go.RowKit

theorem list_ex {α : Type} (p : Nat → α → Prop) : ∀ (k : Nat), (∀ i, i < k → ∃ x, p i x) → ∃ l : List α, l.length = k ∧ ∀ i x, l[i]? = some x → p i x
  | 0, _ => ⟨[], rfl, fun i x h => by simp at h⟩
  | k + 1, hp => by
    obtain ⟨l, h1, h2⟩ := list_ex p k fun i hi => hp i (by omega)
    obtain ⟨x, hx⟩ := hp k (by omega)
    refine ⟨l ++ [x], by simp [h1], fun i y h => ?_⟩
    by_cases hi : i < k
    · rw [List.getElem?_append_left (by omega)] at h; exact h2 i y h
    · rw [List.getElem?_append_right (by omega)] at h
      by_cases e : i = k
      · subst e; simp [h1] at h; subst h; exact hx
      · rw [List.getElem?_eq_none (by simp; omega)] at h; cases h

theorem rd_map (h : AH) (b : Nat) : ∀ (k o : Nat), rd h b o k = (List.range k).map fun j => h.cell b (o + j) := by
  intro k o
  apply List.ext_getElem
  · simp [rd_length]
  · intro i h1 h2
    rw [rd_length] at h1
    have := rd_getD h b k o i h1
    simp [List.getD, rd_length, h1] at this
    simpa using this

/-- A list, of which the elements ahead of place i are turned. -/
def updI {α : Type} (f : Nat → α → α) (l : List α) (i : Nat) : List α := l.mapIdx fun j x => if j < i then f j x else x
theorem updI_length {α : Type} (f : Nat → α → α) (l : List α) (i : Nat) : (updI f l i).length = l.length := by simp [updI]
theorem updI_getElem? {α : Type} (f : Nat → α → α) (l : List α) (i j : Nat) : (updI f l i)[j]? = l[j]?.map fun x => if j < i then f j x else x := by simp [updI]
theorem updI_zero {α : Type} (f : Nat → α → α) (l : List α) : updI f l 0 = l := by
  apply List.ext_getElem?
  intro j; rw [updI_getElem?]; cases l[j]? <;> simp
theorem updI_all {α : Type} (f : Nat → α → α) (l : List α) {i : Nat} (h : l.length ≤ i) : updI f l i = l.mapIdx f := by
  apply List.ext_getElem?
  intro j; rw [updI_getElem?, List.getElem?_mapIdx]
  by_cases hj : j < l.length
  · rw [List.getElem?_eq_getElem hj]; simp; omega
  · rw [List.getElem?_eq_none (by omega)]; rfl
theorem updI_at {α : Type} (f : Nat → α → α) (l : List α) (i : Nat) : (updI f l i)[i]? = l[i]? := by
  rw [updI_getElem?]; cases l[i]? <;> simp
theorem updI_getD {α : Type} (f : Nat → α → α) (l : List α) (i : Nat) (d : α) : (updI f l i).getD i d = l.getD i d := by simp only [List.getD, updI_at]
theorem updI_succ {α : Type} (f : Nat → α → α) (l : List α) (i : Nat) (d : α) (h : i < l.length) : updI f l (i + 1) = (updI f l i).set i (f i (l.getD i d)) := by
  apply List.ext_getElem?
  intro j
  rw [List.getElem?_set, updI_getElem?, updI_length, updI_getElem?]
  by_cases e : i = j
  · subst e; rw [if_pos rfl, if_pos h]; simp [List.getD, h]
  · rw [if_neg e]
    congr 1; funext x
    have : j < i + 1 ↔ j < i := by omega
    simp only [this]

/-- Truths' cells. -/
def boolsV (t : List Bool) : List Value := t.map .bool
def boolsF (t : List Bool) : Nat → Value := fun j => .bool (t.getD j false)
abbrev SlT (h : AH) (n : Nat) (a : Option Addr) (t : List Bool) : Prop := SlR h n a 1 t.length (boolsF t)
/-- Whole numbers' cells. -/
def intsV (k : IntKind) (l : List Int) : List Value := l.map (.int k)
def intsF (k : IntKind) (l : List Int) : Nat → Value := fun j => .int k (l.getD j 0)
abbrev SlN (h : AH) (n : Nat) (a : Option Addr) (k : IntKind) (l : List Int) : Prop := SlR h n a 1 l.length (intsF k l)
theorem OwnSl.slt {h : AH} {n0 n m : Nat} {a : Option Addr} {t : List Bool} (o : OwnSl h n0 n a 1 m (boolsV t)) : SlT h n a t := by
  have : m = t.length := by have := o.len; simp [boolsV] at this; omega
  subst this
  exact o.slr.congr fun j hj => by simp [boolsV, boolsF, List.getD, show j < t.length by omega]
theorem OwnSl.sln {h : AH} {n0 n m : Nat} {a : Option Addr} {k : IntKind} {l : List Int} (o : OwnSl h n0 n a 1 m (intsV k l)) : SlN h n a k l := by
  have : m = l.length := by have := o.len; simp [intsV] at this; omega
  subst this
  exact o.slr.congr fun j hj => by simp [intsV, intsF, List.getD, show j < l.length by omega]

section
variable {H : Type} {P : Program} {h : AH} {n : Nat} {t e : TypeId} {cs : List Value} {d : DataW H}
theorem RepD.bool_ (hu : P.underlying t = some .bool) (r : RepD P h t cs d) : ∃ b, cs = [.bool b] := by
  cases r with
  | bool k => exact ⟨_, rfl⟩
  | int k _ => rw [hu] at k; cases k
  | str k _ => rw [hu] at k; cases k
  | nil k => rw [hu] at k; cases k
  | slice k _ _ _ => rw [hu] at k; cases k
  | struct k _ _ _ => rw [hu] at k; cases k
theorem RepD.int_ {q : IntKind} (hu : P.underlying t = some (.int q)) (r : RepD P h t cs d) : ∃ x, cs = [.int q x] ∧ d = .lit (.int q x) ∧ (Lit.int q x).wf = true := by
  cases r with
  | bool k => rw [hu] at k; cases k
  | int k w => rw [hu] at k; cases k; exact ⟨_, rfl, rfl, w⟩
  | str k _ => rw [hu] at k; cases k
  | nil k => rw [hu] at k; cases k
  | slice k _ _ _ => rw [hu] at k; cases k
  | struct k _ _ _ => rw [hu] at k; cases k
theorem RepD.str_ (hu : P.underlying t = some .string) (r : RepD P h t cs d) : ∃ l : List UInt8, cs = [.string ⟨l.toArray⟩] ∧ d = .lit (.string l) := by
  cases r with
  | bool k => rw [hu] at k; cases k
  | int k _ => rw [hu] at k; cases k
  | @str _ s k _ => exact ⟨s.data.toList, by simp, rfl⟩
  | nil k => rw [hu] at k; cases k
  | slice k _ _ _ => rw [hu] at k; cases k
  | struct k _ _ _ => rw [hu] at k; cases k
theorem RepD.struct_ {fs : Array Field} (hu : P.underlying t = some (.struct fs)) (r : RepD P h t cs d) : ∃ parts, d = .agg parts ∧ cs.length = P.cellsOf t ∧ parts.length = fs.size ∧
    ∀ (i : Nat) (f : Field) (d : DataW H), fs[i]? = some f → parts[i]? = some d → RepD P h f.type ((cs.drop f.offset).take (P.cellsOf f.type)) d := by
  cases r with
  | bool k => rw [hu] at k; cases k
  | int k _ => rw [hu] at k; cases k
  | str k _ => rw [hu] at k; cases k
  | nil k => rw [hu] at k; cases k
  | slice k _ _ _ => rw [hu] at k; cases k
  | struct k h1 h2 h3 => rw [hu] at k; cases k; exact ⟨_, rfl, h1, h2, h3⟩
/-- The cells of element i. -/
def elC (h : AH) (a : Option Addr) (z i : Nat) : List Value := (List.range z).map fun j => h.cell (sb a) (so a + (i * z + j))
theorem RepD.slice_ (lo : Low n h) (hu : P.underlying t = some (.slice e)) (r : RepD P h t cs d) : ∃ (a : Option Addr) (elems spare : List (DataW H)), cs = [.slice a elems.length elems.length] ∧ ((d = .nil ∧ elems = []) ∨ d = .slice elems spare) ∧
    SlR h n a (P.cellsOf e) elems.length (fun j => h.cell (sb a) (so a + j)) ∧ ∀ (i : Nat) (x : DataW H), elems[i]? = some x → RepD P h e (elC h a (P.cellsOf e) i) x := by
  cases r with
  | bool k => rw [hu] at k; cases k
  | int k _ => rw [hu] at k; cases k
  | str k _ => rw [hu] at k; cases k
  | nil k => exact ⟨none, [], [], rfl, .inl ⟨rfl, rfl⟩, SlR.nil, fun i x h => by simp at h⟩
  | @slice _ e' b elems spare k hi hl he =>
    rw [hu] at k; cases k
    have hb : b < n := by
      rcases Nat.lt_or_ge b n with h1 | h1
      · exact h1
      · rw [(lo b h1).1] at hi; cases hi
    refine ⟨some ⟨b, 0, none⟩, elems, spare, rfl, .inr rfl, ⟨.inr ⟨rfl, hb, _, hi, rfl⟩, fun j hj => rfl⟩, fun i x hx => ?_⟩
    have := he i x hx
    rw [rd_map] at this
    simpa [elC, sb, so] using this
  | struct k _ _ _ => rw [hu] at k; cases k
/-- A slice whose elements are told by p. -/
theorem RepD.list_ {α : Type} (p : List Value → DataW H → α → Prop) (lo : Low n h) (hu : P.underlying t = some (.slice e)) (hp : ∀ cs d, RepD P h e cs d → ∃ x, p cs d x) (r : RepD P h t cs d) : ∃ (a : Option Addr) (l : List α) (elems spare : List (DataW H)),
    cs = [.slice a l.length l.length] ∧ ((d = .nil ∧ elems = []) ∨ d = .slice elems spare) ∧ elems.length = l.length ∧
    SlR h n a (P.cellsOf e) l.length (fun j => h.cell (sb a) (so a + j)) ∧ ∀ (i : Nat) (x : α), l[i]? = some x → ∃ d, elems[i]? = some d ∧ p (elC h a (P.cellsOf e) i) d x := by
  obtain ⟨a, elems, spare, h1, h2, h3, h4⟩ := r.slice_ lo hu
  obtain ⟨l, k1, k2⟩ := list_ex (fun i x => ∃ d, elems[i]? = some d ∧ p (elC h a (P.cellsOf e) i) d x) elems.length fun i hi => by
    obtain ⟨x, hx⟩ := hp _ _ (h4 i elems[i] (by simp [hi]))
    exact ⟨x, _, by simp [hi], hx⟩
  exact ⟨a, l, elems, spare, by rw [k1]; exact h1, h2, k1.symm, by rw [k1]; exact h3, k2⟩
theorem elC_one {a : Option Addr} {i : Nat} : elC h a 1 i = [h.cell (sb a) (so a + i)] := by simp [elC]
theorem RepD.bools_ (lo : Low n h) (hu : P.underlying t = some (.slice e)) (he : P.underlying e = some .bool) (hz : P.cellsOf e = 1) (r : RepD P h t cs d) : ∃ (a : Option Addr) (l : List Bool) (elems spare : List (DataW H)),
    cs = [.slice a l.length l.length] ∧ ((d = .nil ∧ elems = []) ∨ d = .slice elems spare) ∧ elems.length = l.length ∧ SlT h n a l := by
  obtain ⟨a, l, elems, spare, h1, h2, h3, h4, h5⟩ := r.list_ (fun cs _ (x : Bool) => cs = [.bool x]) lo hu fun _ _ r => r.bool_ he
  rw [hz] at h4 h5
  refine ⟨a, l, elems, spare, h1, h2, h3, h4.congr fun j hj => ?_⟩
  obtain ⟨_, _, k⟩ := h5 j l[j] (by simp [show j < l.length by omega])
  rw [elC_one] at k
  simp only [List.cons.injEq, and_true] at k
  rw [k]; simp [boolsF, List.getD, show j < l.length by omega]
theorem RepD.ints_ {q : IntKind} (lo : Low n h) (hu : P.underlying t = some (.slice e)) (he : P.underlying e = some (.int q)) (hz : P.cellsOf e = 1) (r : RepD P h t cs d) : ∃ (a : Option Addr) (l : List Int) (elems spare : List (DataW H)),
    cs = [.slice a l.length l.length] ∧ ((d = .nil ∧ elems = []) ∨ d = .slice elems spare) ∧ elems.length = l.length ∧ SlN h n a q l ∧ ∀ x, x ∈ l → (Lit.int q x).wf = true := by
  obtain ⟨a, l, elems, spare, h1, h2, h3, h4, h5⟩ := r.list_ (fun cs _ (x : Int) => cs = [.int q x] ∧ (Lit.int q x).wf = true) lo hu fun _ _ r => by
    obtain ⟨x, k1, _, k2⟩ := r.int_ he; exact ⟨x, k1, k2⟩
  rw [hz] at h4 h5
  refine ⟨a, l, elems, spare, h1, h2, h3, h4.congr fun j hj => ?_, fun x hx => ?_⟩
  · obtain ⟨_, _, k, _⟩ := h5 j l[j] (by simp [show j < l.length by omega])
    rw [elC_one] at k
    simp only [List.cons.injEq, and_true] at k
    rw [k]; simp [intsF, List.getD, show j < l.length by omega]
  · obtain ⟨j, hj⟩ := List.getElem?_of_mem hx
    obtain ⟨_, _, _, k⟩ := h5 j x hj
    exact k
theorem RepD.bytes_ (lo : Low n h) (hu : P.underlying t = some (.slice e)) (he : P.underlying e = some (.int .u8)) (hz : P.cellsOf e = 1) (r : RepD P h t cs d) : ∃ (a : Option Addr) (l : List UInt8) (elems spare : List (DataW H)),
    cs = [.slice a l.length l.length] ∧ ((d = .nil ∧ elems = []) ∨ d = .slice elems spare) ∧ elems.length = l.length ∧ SlB h n a l := by
  obtain ⟨a, l, elems, spare, h1, h2, h3, h4, h5⟩ := r.ints_ lo hu he hz
  refine ⟨a, l.map fun x => UInt8.ofNat x.toNat, elems, spare, by simpa using h1, h2, by simpa using h3, ?_⟩
  have : SlR h n a 1 (l.map fun x => UInt8.ofNat x.toNat).length (intsF .u8 l) := by simpa using h4
  refine this.congr fun j hj => ?_
  have hj : j < l.length := by simpa using hj
  have hw := h5 l[j] (List.getElem_mem hj)
  simp [Lit.wf, IntKind.min, IntKind.max, IntKind.signed, IntKind.bits] at hw
  simp [intsF, bytesF, List.getD, hj]
  omega
end

section
variable {H : Type} {enc : TypeId × Value → H} {P : Program}
theorem RepArgs.cons_ {h : AH} {t : TypeId} {ts : List TypeId} {as_ : List Value} {ds : List (DataW H)} (r : RepArgs P h (t :: ts) as_ ds) : ∃ a d as' ds', as_ = a :: as' ∧ ds = d :: ds' ∧ RepA P h t a d ∧ RepArgs P h ts as' ds' := by
  cases r with
  | cons x r => exact ⟨_, _, _, _, rfl, rfl, x, r⟩
theorem RepArgs.nil_ {h : AH} {as_ : List Value} {ds : List (DataW H)} (r : RepArgs P h [] as_ ds) : as_ = [] ∧ ds = [] := by
  cases r; exact ⟨rfl, rfl⟩
/-- What is no struct lies in one cell. -/
theorem RepA.one {h : AH} {t : TypeId} {a : Value} {d : DataW H} {u : TypeDesc} (hu : P.underlying t = some u) (hs : ∀ fs, u ≠ .struct fs) (r : RepA P h t a d) : RepD P h t [a] d := by
  unfold RepA at r
  rw [hu] at r
  cases u with
  | struct fs => exact absurd rfl (hs fs)
  | _ => exact r
theorem RepA.agg {h : AH} {t : TypeId} {a : Value} {d : DataW H} {fs : Array Field} (hu : P.underlying t = some (.struct fs)) (r : RepA P h t a d) : ∃ cs : List Value, a = .agg cs.toArray ∧ RepD P h t cs d := by
  unfold RepA at r
  rw [hu] at r
  exact r
theorem trodAll_after (hl : laidOutB P = true) {W W' : World} (hb : Below W.heap.size W W') : ∀ (ts : List TypeId) (vs : List Value) (ds : List (DataW H)) (ps : List MemPlace), ts.all (fun t => P.readableRec t && decide (t < P.types.size)) = true →
    DataW.TrodAll enc P W 0 (fun _ => true) true ts vs ds ps → DataW.TrodAll enc P W' 0 (fun b => decide (b < W.heap.size)) true ts vs ds ps
  | [], vs, ds, ps, _, h => by
    obtain ⟨rfl, rfl, rfl⟩ := ChangeShapes.trodAll_nil h
    exact rfl
  | t :: ts, vs, ds, ps, hts, h => by
    simp only [List.all_cons, Bool.and_eq_true, decide_eq_true_eq] at hts
    obtain ⟨v, vs', d, ds', p, q, rfl, rfl, rfl, h1, h2⟩ := ChangeShapes.trodAll_cons h
    have hlt : ∀ x ∈ p, x.block < W.heap.size := by obtain ⟨m, hm⟩ := h1; exact DataW.trod_lt m _ _ _ hm
    exact trodAll_cons_mk (Below.trod hl hts.1.1 hts.1.2 h1 hb hlt) (trodAll_after hl hb ts vs' ds' q (by simpa using hts.2) h2)
end
end Go.Abs

/- A row of one's own is cut, copied to, cleared. -/
namespace Go.Abs
open Go.RowKit

/-- Of block b the first k elements of z cells stay told. -/
@[irreducible] def Dl.cut (b k z : Nat) : Dl := ⟨fun x => if x = b then some (some ⟨k * z, 0, true, z⟩) else none, fun x i => if x = b ∧ k * z ≤ i then some (.tuple #[]) else none⟩
section
variable {h : AH} {b k z : Nat}
theorem cut_info (x : Nat) : (h.app (.cut b k z)).info x = if x = b then some ⟨k * z, 0, true, z⟩ else h.info x := by
  unfold Dl.cut; by_cases e : x = b <;> simp [AH.app, e]
theorem cut_cell (x i : Nat) : (h.app (.cut b k z)).cell x i = if x = b ∧ k * z ≤ i then .tuple #[] else h.cell x i := by
  unfold Dl.cut
  simp only [AH.app]
  split <;> rfl
theorem cut_touches {x : Nat} (h : (Dl.cut b k z).touches x) : x = b := by
  unfold Dl.cut at h
  rcases h with h | ⟨i, h⟩
  · simp only at h; split at h
    · assumption
    · exact absurd rfl h
  · simp only at h; split at h
    · rename_i q; exact q.1
    · exact absurd rfl h
theorem Sim.cut {w0 : Base} {w : World} {ρ : Ren} {H : AH} {m : Nat} (s : Sim w0 ρ H w) (hm : H.info b = some ⟨m * z, 0, true, z⟩) (hk : k ≤ m) : Sim w0 ρ (H.app (.cut b k z)) w := by
  refine s.shrink (fun x m' hx => ?_) (fun x m' o hx ho => ?_) (fun x i => ?_)
  · rw [cut_info] at hx
    by_cases e : x = b
    · subst e
      rw [if_pos rfl] at hx; cases hx
      exact ⟨_, hm, rfl, Nat.mul_le_mul_right _ hk, Nat.zero_le _, fun L i _ ho => ⟨Nat.zero_le _, by simpa using ho.2⟩⟩
    · rw [if_neg e] at hx
      obtain ⟨L, _, _, _, q, _⟩ := s.info x m' hx
      exact ⟨m', hx, rfl, Nat.le_refl _, q, fun _ _ _ ho => ho⟩
  · rw [cut_info] at hx
    by_cases e : x = b
    · rw [if_pos e] at hx; cases hx; cases ho
    · rw [if_neg e] at hx; exact hx
  · rw [cut_cell]
    by_cases e : x = b ∧ k * z ≤ i
    · rw [if_pos e]; exact .inl rfl
    · rw [if_neg e]; exact .inr rfl
end

section
variable {P : Program} {T W : Nat → Prop} {ops : Array Oper} {os : List Oper} {env : Env} {n n1 : Nat} {h h1 g : AH} {Q : Env → Nat → AH → Prop} {ps : List Ft}
variable {dst : Option Tmp} {ty : TypeId} {pos : String} {after : Array Edge} {gd : Option (Nat × Bool)}

/-- What is told may be told otherwise. -/
theorem OpEv.ghost {o : Oper} {v : Value} {n' : Nat} {d d2 : Dl} (k : OpEv P T o env n g v n' d) (hw : Within T n n' d2) (hs : ∀ w0 ρ w H, (g.app d).le H → Sim w0 ρ H w → Sim w0 ρ (H.app d2) w) : OpEv P T o env n g v n' (d.comp d2) where
  le := k.le
  within := fun b hb => by
    rcases Dl.touches_comp hb with q | q
    · exact k.within b q
    · exact hw b q
  run := fun r w0 ρ w H a next Q hl hf hsim hop K =>
    k.run r w0 ρ w H a next Q hl hf hsim hop fun ρ' c w' hg hv hs' => K ρ' c w' hg hv (by rw [AH.app_comp]; exact hs w0 ρ' w' _ (hl.app d) hs')
theorem op_sliceCut {t e : TypeId} {x y : Operand} {b m : Nat} {u : Nat} {kk : IntKind} {d : TypeDesc} {z by_ : Nat} {zv : Value} (hu : P.underlying t = some (.slice e)) (hz : TI P e d z by_ zv) (hx : ev env x = .slice (some ⟨b, 0, none⟩) m m)
    (hy : ev env y = .int kk (u : Nat)) (hum : u ≤ m) (hm : g.info b = some ⟨m * z, 0, true, z⟩) (hT : T b ∨ n ≤ b) (hb : b < n) :
    OpEv P T ⟨dst, .slice t x none (some y) none, ty, pos, after, gd⟩ env n g (.slice (some ⟨b, 0, none⟩) u u) n (.cut b u z) := by
  have h1 := op_slice (P := P) (T := T) (n := n) (g := g) (env := env) (dst := dst) (ty := ty) (pos := pos) (after := after) (gd := gd) (t := t) (x := x) (lo := none) (hi := some y) (l := 0) (h := u) hu hz hx rfl ⟨kk, hy⟩ (Nat.zero_le _) hum hm (.inr rfl)
  simp only [Nat.zero_mul, Nat.add_zero, Nat.sub_zero] at h1
  have h2 := h1.ghost (d2 := .cut b u z) (fun x hx => by rw [cut_touches hx]; exact ⟨hT, hb⟩) (fun w0 ρ w H hl hs => hs.cut (hl.info b _ (by rw [AH.app_nil]; exact hm)) hum)
  rwa [Dl.nil_comp] at h2

theorem known_take : ∀ (l : List Value) (i : Nat), known l = true → known (l.take i) = true
  | [], i, _ => by simp [known]
  | v :: r, 0, _ => by simp [known]
  | v :: r, i + 1, h => by cases v <;> simp_all [known, known_take r i]
theorem known_drop : ∀ (l : List Value) (i : Nat), known l = true → known (l.drop i) = true
  | [], i, _ => by simp [known]
  | v :: r, 0, h => h
  | v :: r, i + 1, h => by
    have : known r = true := by cases v <;> simp_all [known]
    exact known_drop r i this
theorem known_app : ∀ {l m : List Value}, known l = true → known m = true → known (l ++ m) = true
  | [], m, _, h => h
  | v :: r, m, h, k => by cases v <;> simp_all [known, known_app (l := r) (m := m)]

/-- A row of one's own is cut. -/
theorem OwnSl.cut {n0 z m u : Nat} {a : Option Addr} {cs : List Value} (o : OwnSl h n0 n a z m cs) (hu : u ≤ m) : OwnSl (h.app (.cut (sb a) u z)) n0 n a z u (cs.take (u * z)) := by
  have hl : u * z ≤ m * z := Nat.mul_le_mul_right _ hu
  refine ⟨o.le, by rw [List.length_take, o.len]; omega, known_take _ _ o.kn, ?_⟩
  rcases o.or with ⟨k1, k2⟩ | ⟨k1, k2, k3, k4, k5⟩
  · exact .inl ⟨k1, by omega⟩
  · refine .inr ⟨k1, k2, k3, by rw [cut_info, if_pos rfl], ?_⟩
    apply List.ext_getElem
    · rw [rd_length, List.length_take, o.len]; omega
    · intro j h1 h2
      rw [rd_length] at h1
      have e1 := rd_getD (h.app (.cut (sb a) u z)) (sb a) (u * z) 0 j h1
      have e2 : (rd (h.app (.cut (sb a) u z)) (sb a) 0 (u * z)).getD j (.tuple #[]) = (rd (h.app (.cut (sb a) u z)) (sb a) 0 (u * z))[j]'(by rw [rd_length]; exact h1) := by simp [List.getD, rd_length, h1]
      have e3 := rd_getD h (sb a) (m * z) 0 j (by omega)
      rw [k5] at e3
      rw [← e2, e1, cut_cell, if_neg (by omega), ← e3]
      simp [List.getD, show j < cs.length by rw [o.len]; omega]
theorem ExtX.cut {u z : Nat} {a : Option Addr} (e : ExtX n a h h1) (ha : a ≠ none) : ExtX n a h (h1.app (.cut (sb a) u z)) := fun x hx hne => by
  have hx' : x ≠ sb a := hne.resolve_left ha
  have h2 := e x hx hne
  exact ⟨by rw [cut_info, if_neg hx']; exact h2.1, fun i => by rw [cut_cell, if_neg (fun q => hx' q.1)]; exact h2.2 i⟩
/-- Cells from i on are set. -/
def splice {α : Type} (cs : List α) (i : Nat) (vs : List α) : List α := cs.take i ++ vs ++ cs.drop (i + vs.length)
theorem splice_length {α : Type} (cs : List α) (i : Nat) (vs : List α) (h : i + vs.length ≤ cs.length) : (splice cs i vs).length = cs.length := by
  simp only [splice, List.length_append, List.length_take, List.length_drop]; omega
theorem splice_map {α β : Type} (f : α → β) (cs : List α) (i : Nat) (vs : List α) : (splice cs i vs).map f = splice (cs.map f) i (vs.map f) := by
  simp [splice, List.map_take, List.map_drop]
theorem OwnSl.splice {n0 z m i : Nat} {a : Option Addr} {cs vs : List Value} (o : OwnSl h n0 n a z m cs) (hi : i + vs.length ≤ m * z) (hv : known vs = true) : OwnSl (h.app (.sets (sb a) (so a + i) vs)) n0 n a z m (Abs.splice cs i vs) := by
  have hl := o.len
  refine ⟨o.le, by rw [splice_length _ _ _ (by omega)]; exact hl, known_app (known_app (known_take _ _ o.kn) hv) (known_drop _ _ o.kn), ?_⟩
  rcases o.or with ⟨k1, k2⟩ | ⟨k1, k2, k3, k4, k5⟩
  · exact .inl ⟨k1, k2⟩
  · refine .inr ⟨k1, k2, k3, i_sets k4, ?_⟩
    have hso : so a = 0 := by rw [k1]; rfl
    apply List.ext_getElem
    · rw [rd_length, splice_length _ _ _ (by omega)]; exact hl.symm
    · intro j h1 h2
      rw [rd_length] at h1
      have e1 := rd_getD (h.app (.sets (sb a) (so a + i) vs)) (sb a) (m * z) 0 j h1
      have e2 := rd_getD h (sb a) (m * z) 0 j h1
      rw [k5] at e2
      have e3 : (rd (h.app (.sets (sb a) (so a + i) vs)) (sb a) 0 (m * z)).getD j (.tuple #[]) = (rd (h.app (.sets (sb a) (so a + i) vs)) (sb a) 0 (m * z))[j]'(by rw [rd_length]; exact h1) := by simp [List.getD, rd_length, h1]
      rw [← e3, e1]
      simp only [AH.app, Dl.sets, Nat.zero_add, hso] at e2 ⊢
      by_cases hj : i ≤ j ∧ j < i + vs.length
      · rw [if_pos ⟨trivial, hj⟩, Option.getD_some]
        simp only [Abs.splice]
        rw [List.getElem_append_left (by simp only [List.length_append, List.length_take]; omega), List.getElem_append_right (by rw [List.length_take]; omega)]
        have : min i cs.length = i := by omega
        simp [List.getD, this, show j - i < vs.length by omega]
      · rw [if_neg (fun q => hj q.2), Option.getD_none, ← e2]
        simp only [Abs.splice, List.getD]
        by_cases hlt : j < i
        · rw [List.getElem_append_left (by simp only [List.length_append, List.length_take]; omega), List.getElem_append_left (by rw [List.length_take]; omega)]
          rw [List.getElem?_eq_getElem (by omega)]; simp
        · rw [List.getElem_append_right (by simp only [List.length_append, List.length_take]; omega)]
          rw [List.getElem?_eq_getElem (by omega)]
          simp only [List.getElem_drop, List.length_append, List.length_take, Option.getD_some]
          congr 1; omega
theorem OwnSl.spliceB {n0 m i : Nat} {a : Option Addr} {l s : List UInt8} (o : OwnSl h n0 n a 1 m (bytesV l)) (hi : i + s.length ≤ m) : OwnSl (h.app (.sets (sb a) (so a + i) (bytesV s))) n0 n a 1 m (bytesV (Abs.splice l i s)) := by
  have := o.splice (i := i) (vs := bytesV s) (by rw [bytesV_length]; omega) (bytesV_known s)
  have e : bytesV (Abs.splice l i s) = Abs.splice (bytesV l) i (bytesV s) := splice_map _ _ _ _
  rw [e]; exact this
theorem ExtX.sets' {o' : Nat} {vs : List Value} {a : Option Addr} (e : ExtX n a h h1) (ha : a ≠ none) : ExtX n a h (h1.app (.sets (sb a) o' vs)) := e.sets (fun q => ha q)
theorem lenOf_slice {a : Option Addr} {m : Nat} {c : Value} {w : World} (h : ∃ ρ, VRel ρ (.slice a m m) c) : (Builtin.lenOf c).run P w = .ok m w := by
  obtain ⟨ρ, h⟩ := h
  cases h <;> rfl
/-- copy of bytes to a row of one's own, from its i-th place on, in a region that draws its order. -/
theorem RD.copyB {q : Tmp} {t t2 e : TypeId} {d : TypeDesc} {by_ : Nat} {zv : Value} {x y : Operand} {a c : Option Addr} {n0 m i k nb : Nat} {l s : List UInt8} [hu : Uc P t (.slice e)] [hz : Tc P e d 1 by_ zv]
    (hw : wants ops ⟨some q, .call { callee := .builtin .copy, args := #[x, y], argTypes := #[t, t2] }, ty, pos, after, gd⟩ env = some true) (hx : Opd env x (.slice (sub a i) k k)) (hy : Opd env y (.slice c s.length s.length)) (hO : OwnSl h n0 nb a 1 m (bytesV l)) (S : SlB h nb c s)
    (hik : i + k = m) (hs0 : 0 < s.length) (hsk : s.length ≤ k) (hT : a ≠ none → T (sb a)) (hnb : nb ≤ n) (hc : CF ops ps.length (· < nb) (· = sb a) ps.length ps)
    (K : OwnSl (h.app (.sets (sb a) (so a + i) (bytesV s))) n0 nb a 1 m (bytesV (Abs.splice l i s)) → RD P T ops (⟨(· < nb), (· = sb a), n, n⟩ :: ps) os ((q, .int .i64 s.length) :: env) n (h.app (.sets (sb a) (so a + i) (bytesV s))) Q) :
    RD P T ops ps (⟨some q, .call { callee := .builtin .copy, args := #[x, y], argTypes := #[t, t2] }, ty, pos, after, gd⟩ :: os) env n h Q := by
  have hO' := hO
  rcases hO.or with ⟨k1, k2⟩ | ⟨k1, k2, k3, k4, k5⟩
  · omega
  have hso : so a = 0 := by rw [k1]; rfl
  have hx' : ev env x = .slice (some ⟨sb a, so a + i, none⟩) k k := by rw [hx.ev, k1]; rfl
  have S' : SlB (h.below nb) nb c s := S.ext (AH.below_ext h nb) (Nat.le_refl _)
  have hop := op_copy (P := P) (T := T) (n := n) (g := h.below nb) (env := env) (dst := some q) (ty := ty) (pos := pos) (after := after) (gd := gd) (t := t) (t2 := t2) (z := 1) (k := s.length) (kk := s.length) (m := k) (v := .slice c s.length s.length) hu.out hz.out (by decide) hx' hy.ev
    S'.src (full_slice) (fun c w h => lenOf_slice h) (by omega) (mm := ⟨m * 1, 0, true, 1⟩) (i_below k3 k4) (Nat.zero_le _) (by rw [hso]; simp only [Nat.mul_one]; omega) (.inl (hT (by rw [k1]; simp))) (by omega)
  refine RD.op (· < nb) (· = sb a) hw hop (AH.below_le _ _) (fun _ hx => AH.below_looks hx) (fun _ e => Nat.lt_of_lt_of_le e hnb) (fun b hb => .inl (sets_touches hb)) hc (.refl _) (K ?_)
  exact hO'.spliceB (by omega)
theorem RS.sliceCut {q : Tmp} {t e : TypeId} {d : TypeDesc} {z by_ : Nat} {zv : Value} {x y : Operand} {a : Option Addr} {n0 m u : Nat} {kk : IntKind} {cs : List Value} [hu : Uc P t (.slice e)] [hz : Tc P e d z by_ zv]
    (hw : wants ops ⟨some q, .slice t x none (some y) none, ty, pos, after, gd⟩ env = some true) (hx : Opd env x (.slice a m m)) (hy : Opd env y (.int kk (u : Nat))) (hO : OwnSl h n0 n a z m cs) (hum : u ≤ m)
    (hT : a ≠ none → T (sb a)) (K : ∀ h1, OwnSl h1 n0 n a z u (cs.take (u * z)) → ExtX n a h h1 → RS P T ops os ((q, .slice a u u) :: env) n h1 Q) : RS P T ops (⟨some q, .slice t x none (some y) none, ty, pos, after, gd⟩ :: os) env n h Q := by
  rcases hO.or with ⟨k1, k2⟩ | ⟨k1, k2, k3, k4, k5⟩
  · subst k1; subst k2
    obtain rfl : u = 0 := by omega
    have := op_sliceNil (P := P) (T := T) (n := n) (g := h) (dst := some q) (ty := ty) (pos := pos) (after := after) (gd := gd) (lo := none) (hi := some y) hu.out hz.out hx.ev rfl ⟨kk, hy.ev⟩
    refine RS.put hw rfl this (K h (by simpa using OwnSl.nil hO.le) (fun _ _ _ => ⟨rfl, fun _ => rfl⟩))
  · have hx' := hx.ev
    rw [k1] at hx'
    have hso : so a = 0 := by rw [k1]; rfl
    have := op_sliceCut (P := P) (T := T) (n := n) (g := h) (dst := some q) (ty := ty) (pos := pos) (after := after) (gd := gd) hu.out hz.out hx' hy.ev hum k4 (.inl (hT (by rw [k1]; simp))) k3
    refine RS.mem hw rfl this ?_
    rw [← k1]
    exact K _ (hO.cut hum) (ExtX.cut (fun _ _ _ => ⟨rfl, fun _ => rfl⟩) (by rw [k1]; simp))
/-- clear of a row of one's own. -/
theorem op_clear {t e : TypeId} {x : Operand} {d : TypeDesc} {z by_ b o k : Nat} {zv : Value} {mm : Meta} (hu : P.underlying t = some (.slice e)) (hz : TI P e d z by_ zv) (hz0 : z ≠ 0) (hzz : zv.cells.size = z) (hf : zv.cells.all (flat 8) = true) (hkn : known (zrow zv.cells.toList k) = true)
    (hx : ev env x = .slice (some ⟨b, o, none⟩) k k) (hm : g.info b = some mm) (hlk : mm.lock ≤ o) (hin : o + k * z ≤ mm.size) (hT : T b ∨ n ≤ b) (hb : b < n) :
    OpEv P T ⟨dst, .call { callee := .builtin .clear, args := #[x], argTypes := #[t] }, ty, pos, after, gd⟩ env n g (.tuple #[]) n (.sets b o (zrow zv.cells.toList k)) where
  le := Nat.le_refl _
  within := within_sets hT hb
  run := fun rq w0 ρ w H a next Q hl hf' hsim hop K => by
    have h1 := hop x (by simp [Op.operands, Call.operands]); rw [hx] at h1
    have hM := hl.info b mm hm
    obtain ⟨L, hL, kz, k2, k3, k4⟩ := hsim.info b mm hM
    have hr : ∀ w, (underlying t).run P w = .ok (.slice e) w := fun w => by simp [underlying, hu]
    have hxl : (zrow zv.cells.toList k).length = k * z := by rw [zrow_length, Array.length_toList, hzz]
    have hcl : (Builtin.zeroCells zv.cells k).toList.length = k * z := by simp [Builtin.zeroCells, hzz]
    have e0 : (#[t] : Array TypeId)[0]? = some t := rfl
    have key : ∀ (A : Addr) (C : Nat), a.eval x = .slice (some A) k C → (k = 0 ∨ A = ⟨L.blk, L.off + o, none⟩) →
        (Oper.wpIn (FW rq) 0 P ⟨dst, .call { callee := .builtin .clear, args := #[x], argTypes := #[t] }, ty, pos, after, gd⟩ a w next Q) := by
      intro A C hcx hA
      have e2 : (#[Value.slice (some A) k C] : Array Value)[0]? = some (.slice (some A) k C) := rfl
      by_cases hk0 : k = 0
      · subst hk0
        have hxs : zrow zv.cells.toList 0 = [] := List.eq_nil_of_length_eq_zero (by rw [hxl, Nat.zero_mul])
        have hrun : (Builtin.clear_ #[t] ty #[.slice (some A) 0 C]).run P w = .ok (.tuple #[]) w := by
          simp only [Builtin.clear_, e0, e2, Sem.run_bind, hr, Result.andThen_ok, Sem.run_pure]
        have hexec : (execOp a.eval ⟨dst, .call { callee := .builtin .clear, args := #[x], argTypes := #[t] }, ty, pos, after, gd⟩).run P w = .ok (.value (.tuple #[])) w := by
          simp [execOp, resolve, invoke, builtin, hcx, hrun]
        refine wpA_value hexec ?_
        exact K ρ _ _ (.refl _ _ _) (.unk _) (by rw [hxs, app_sets_nil]; exact hsim)
      · have hA := hA.resolve_left hk0
        subst hA
        obtain ⟨k', rfl⟩ : ∃ k', k = k' + 1 := ⟨k - 1, by omega⟩
        obtain ⟨e4, e5⟩ := hsim.storeCells (P := P) (o := o) hM hL (zrow zv.cells.toList (k' + 1)) (Builtin.zeroCells zv.cells (k' + 1)).toList (by omega) (fun j hj => ⟨by omega, by split <;> omega⟩) (fun j hj => by
          have := zrow_rel (ρ := ρ) hf (k' + 1) (k' + 1) (Nat.le_refl _) j hj
          have e9 : (Builtin.zeroCells zv.cells (k' + 1)).toList.getD j (.tuple #[]) = (Builtin.zeroCells zv.cells (k' + 1)).getD j (.tuple #[]) := by simp [Array.getD_eq_getD_getElem?, List.getD]
          rw [e9]; exact this) hkn
        have hrun : (Builtin.clear_ #[t] ty #[.slice (some ⟨L.blk, L.off + o, none⟩) (k' + 1) C]).run P w = .ok (.tuple #[]) (w.setCells L.blk (L.off + o) (Builtin.zeroCells zv.cells (k' + 1)).toList) := by
          simp only [Builtin.clear_, e0, e2, Sem.run_bind, hr, Result.andThen_ok, hz.run_zeroValue, e4, Sem.run_pure]
        have hexec : (execOp a.eval ⟨dst, .call { callee := .builtin .clear, args := #[x], argTypes := #[t] }, ty, pos, after, gd⟩).run P w = .ok (.value (.tuple #[])) (w.setCells L.blk (L.off + o) (Builtin.zeroCells zv.cells (k' + 1)).toList) := by
          simp [execOp, resolve, invoke, builtin, hcx, hrun]
        refine wpA_value hexec ?_
        exact K ρ _ _ (.refl _ _ _) (.unk _) e5
    generalize hcx : a.eval x = q at h1
    cases h1 with
    | @slice _ _ _ L' C hL' hmC hcc =>
      rw [hL] at hL'; cases hL'
      exact key _ C hcx (.inr rfl)
    | slice0 A hL' => exact key A 0 hcx (.inl (by omega))
theorem RS.clear {t e : TypeId} {d : TypeDesc} {z by_ : Nat} {zv : Value} {x : Operand} {a : Option Addr} {n0 m i k : Nat} {cs : List Value} [hu : Uc P t (.slice e)] [hz : Tc P e d z by_ zv]
    (hw : wants ops ⟨none, .call { callee := .builtin .clear, args := #[x], argTypes := #[t] }, ty, pos, after, gd⟩ env = some true) (hx : Opd env x (.slice (sub a (i * z)) k k)) (hO : OwnSl h n0 n a z m cs) (hik : i + k = m) (ha : a ≠ none) (hT : T (sb a))
    (hkn : known (zrow zv.cells.toList k) = true)
    (K : OwnSl (h.app (.sets (sb a) (so a + i * z) (zrow zv.cells.toList k))) n0 n a z m (Abs.splice cs (i * z) (zrow zv.cells.toList k)) → RS P T ops os env n (h.app (.sets (sb a) (so a + i * z) (zrow zv.cells.toList k))) Q)
    (c1 : Nat.beq z 0 = false := by rfl) (c2 : zv.cells.size = z := by rfl) (c4 : zv.cells.all (flat 8) = true := by first | rfl | (simp [Value.cells, flat]; done)) :
    RS P T ops (⟨none, .call { callee := .builtin .clear, args := #[x], argTypes := #[t] }, ty, pos, after, gd⟩ :: os) env n h Q := by
  have hz0 : z ≠ 0 := fun h => by subst h; simp at c1
  rcases hO.or with ⟨k1, k2⟩ | ⟨k1, k2, k3, k4, k5⟩
  · exact absurd k1 ha
  have hso : so a = 0 := by rw [k1]; rfl
  have hx' : ev env x = .slice (some ⟨sb a, so a + i * z, none⟩) k k := by rw [hx.ev, k1]; rfl
  have hop := op_clear (P := P) (T := T) (n := n) (g := h) (env := env) (dst := none) (ty := ty) (pos := pos) (after := after) (gd := gd) (t := t) hu.out hz.out hz0 c2 c4 hkn hx' k4 (Nat.zero_le _) (by rw [hso]; simp only [Nat.zero_add]; rw [← Nat.add_mul, hik]; exact Nat.le_refl _) (.inl hT) k3
  refine RS.op hw hop (.refl _) (K (hO.splice ?_ hkn))
  rw [zrow_length, Array.length_toList, c2, ← Nat.add_mul, hik]
  exact Nat.le_refl _
end
end Go.Abs

/- Structs of numbers, truths and texts, held against each other. -/
namespace Go.Abs
open Go.RowKit

def scal : Value → Bool
  | .int _ _ | .bool _ | .string _ => true
  | _ => false
theorem scal_inv {ρ : Ren} {v c : Value} (h : VRel ρ v c) (hs : scal v = true) : c = v := by
  cases h <;> first | rfl | (simp [scal] at hs)
section
variable {P : Program} {T : Nat → Prop} {env : Env} {n : Nat} {g : AH}
variable {dst : Option Tmp} {ty : TypeId} {pos : String} {after : Array Edge} {gd : Option (Nat × Bool)}
theorem agg_inv {ρ : Ren} {xs : Array Value} {c : Value} (h : VRel ρ (.agg xs) c) (hs : ∀ i, i < xs.size → scal (xs.getD i (.tuple #[])) = true) : c = .agg xs := by
  cases h with
  | @agg _ ys hz hv =>
    congr 1
    apply Array.ext hz.symm
    intro i h1 h2
    have k := scal_inv (hv i) (hs i h2)
    simpa [Array.getD, h1, h2] using k
theorem op_eqA {op : BinOp} {t t' : TypeId} {x y : Operand} {xs ys : Array Value} {b : Bool} (hop : op = .eql ∨ op = .neq) (hg : P.eqGuardType P.depth t = false) (hx : ev env x = .agg xs) (hy : ev env y = .agg ys)
    (hsx : ∀ i, i < xs.size → scal (xs.getD i (.tuple #[])) = true) (hsy : ∀ i, i < ys.size → scal (ys.getD i (.tuple #[])) = true) (hrun : ∀ w, (binOp op t (.agg xs) (.agg ys)).run P w = .ok (.bool b) w) :
    OpEv P T ⟨dst, .binOp op t x y t', ty, pos, after, gd⟩ env n g (.bool b) n .nil :=
  .calc fun ρ w ce h => by
    have h1 := h x (by simp [Op.operands]); rw [hx] at h1
    have h2 := h y (by simp [Op.operands]); rw [hy] at h2
    have e1 := agg_inv h1 hsx
    have e2 := agg_inv h2 hsy
    have e3 := run_eqGuard_agg (P := P) w op t x y xs ys hg
    refine ⟨.bool b, ?_, .bool b⟩
    simp [execOp, e1, e2, e3, hrun w]
end
end Go.Abs

/- A row of bytes that is converted to its own type: behind its last cell it is marked. -/
namespace Go.Abs
open Go.RowKit

theorem KeepsObjs.freeze (w : World) (a : Addr) (k : Nat) : KeepsObjs w (w.freeze a k) := fun l o h hc => by
  unfold World.freeze
  split
  · exact h
  · simp only [Array.getElem?_modify]
    split
    · rw [h]
      cases o <;> first | rfl | exact absurd rfl (hc _ _ _)
    · exact h
theorem freeze_heap {w : World} {a : Addr} {k l : Nat} (h : l ≠ a.block) : (w.freeze a k).heap[l]? = w.heap[l]? := by
  unfold World.freeze
  split
  · rfl
  · simp only [Array.getElem?_modify]
    rw [if_neg (fun e => h e.symm)]
theorem freeze_cells {w : World} {a : Addr} {c : Array Value} {e : TypeId} {lo hi : Nat} (h : w.heap[a.block]? = some (.cells c e (lo, hi))) :
    (w.freeze a 1).heap[a.block]? = some (.cells c e (if lo == hi then (a.off, a.off + 1) else (min lo a.off, max hi (a.off + 1)))) := by
  unfold World.freeze
  rw [if_neg (by decide)]
  simp only [Array.getElem?_modify, if_true, h, Option.map_some]
theorem freeze_size (w : World) (a : Addr) (k : Nat) : (w.freeze a k).heap.size = w.heap.size := by
  unfold World.freeze
  split <;> simp
section
variable {P : Program} {T : Nat → Prop} {env : Env} {n : Nat} {g : AH} {dst : Option Tmp} {ty : TypeId} {pos : String} {after : Array Edge} {gd : Option (Nat × Bool)}
theorem op_convSame {t e : TypeId} {x : Operand} {b o m : Nat} {mm : Meta} (hu : P.underlying t = some (.slice e)) (he : P.underlying e = some (.int .u8)) (hx : ev env x = .slice (some ⟨b, o, none⟩) m m) (hm0 : 0 < m) (hm : g.info b = some mm) (hlk : mm.lock < mm.size) :
    OpEv P T ⟨dst, .convert t t x, ty, pos, after, gd⟩ env n g (.slice (some ⟨b, o, none⟩) m m) n .nil where
  le := Nat.le_refl _
  within := .nil _ _ _
  run := fun rq w0 ρ w H a next Q hl hf hsim hop K => by
    have h1 := hop x (by simp [Op.operands]); rw [hx] at h1
    have hM := hl.info b mm hm
    obtain ⟨L, hL, kz, k2, k3, k4⟩ := hsim.info b mm hM
    obtain ⟨q1, ⟨v, q2⟩, q3⟩ := k4 mm.lock ⟨Nat.le_refl _, by split <;> omega⟩
    have hr : ∀ w, (underlying t).run P w = .ok (.slice e) w := fun w => by simp [underlying, hu]
    have hre : ∀ w, (underlying e).run P w = .ok (.int .u8) w := fun w => by simp [underlying, he]
    generalize hcx : a.eval x = q at h1
    cases h1 with
    | slice0 A hL' => omega
    | @slice _ _ _ L' C hL' hmC hcc =>
      rw [hL] at hL'; cases hL'
      have hblk : ∃ c ty lo hi, w.heap[L.blk]? = some (.cells c ty (lo, hi)) := by
        unfold World.cell? at q2
        dsimp only at q2
        cases hq : w.heap[L.blk]? with
        | none => rw [hq] at q2; cases q2
        | some ob =>
          rw [hq] at q2
          cases ob with
          | cells c ty fz => exact ⟨c, ty, fz.1, fz.2, rfl⟩
          | _ => cases q2
      obtain ⟨c, ety, lo, hi, hblk⟩ := hblk
      have hsh : w.shape? L.blk = some (ety, c.size) := by unfold World.shape?; rw [hblk]
      have hcl := q3 c ety lo hi hblk
      have hnew := freeze_cells (w := w) (a := ⟨L.blk, c.size, none⟩) hblk
      have hcell : ∀ (l i : Nat), (w.freeze ⟨L.blk, c.size, none⟩ 1).cell? ⟨l, i, none⟩ = w.cell? ⟨l, i, none⟩ := fun l i => by
        unfold World.cell?
        dsimp only
        by_cases hq : l = L.blk
        · subst hq
          rw [hnew, hblk]
        · rw [freeze_heap (by simpa using hq)]
      have hex : (execOp a.eval ⟨dst, .convert t t x, ty, pos, after, gd⟩).run P w = .ok (.value (.slice (some ⟨L.blk, L.off + o, none⟩) m C)) (w.freeze ⟨L.blk, c.size, none⟩ 1) := by
        simp [execOp, hcx, convert, hr, hre, markStringish, hsh]
      refine wpA_value hex ?_
      refine K ρ _ _ (.refl _ _ _) (.slice C hL hmC hcc) ?_
      rw [AH.app_nil]
      refine hsim.move ⟨hsim.base.os, hsim.base.tape, hsim.base.output, by rw [freeze_size]; exact hsim.base.size, fun k hk => ?_⟩ (.freeze _ _ _) (fun b L i v _ h => by rw [hcell]; exact h) fun b L' i v hL' hc hz => ?_
      · rw [freeze_heap (by dsimp only; omega)]
        exact hsim.base.block k hk
      · by_cases hq : L'.blk = L.blk
        · rw [hq] at hz ⊢
          intro c' t' lo' hi' hh
          rw [hnew] at hh
          simp only [Option.some.injEq, Obj.cells.injEq] at hh
          obtain ⟨e1, e2, e3⟩ := hh
          subst e1
          have hz' := hz c ety lo hi hblk
          split at e3
          · cases e3; exact .inr (Nat.le_refl _)
          · rename_i hne
            have hne : lo ≠ hi := by simpa using hne
            cases e3; right; have := hz'.resolve_left hne; omega
        · exact hz.of (freeze_heap (by simpa using hq))
end
end Go.Abs

/- Arrays that are values: built of parts, looked at by a place. -/
namespace Go.Abs
open Go.RowKit

section
variable {P : Program} {T : Nat → Prop} {env : Env} {n : Nat} {g : AH} {dst : Option Tmp} {ty : TypeId} {pos : String} {after : Array Edge} {gd : Option (Nat × Bool)}
theorem op_buildA {t e : TypeId} {k : Nat} {d : TypeDesc} {parts : Array (Nat × Operand)} {z by_ sz eb : Nat} {zv ez : Value} {cs : Array Value} (hz : TI P t (.array k e) z by_ zv) (he : TI P e d sz eb ez) (hf : zv.cells.all (flat 8) = true)
    (hok : parts.toList.all (fun p => okV (ev env p.2)) = true) (hc : Instr.fill (fun i => some (i * sz, sz)) zv.cells (parts.toList.map fun p => (p.1, ev env p.2)) = some cs) :
    OpEv P T ⟨dst, .build t parts, ty, pos, after, gd⟩ env n g (.agg cs) n .nil :=
  .calc fun ρ w ce h => by
    have hall : ∀ (l : List (Nat × Operand)), l.all (fun p => okV (ev env p.2)) = true → (∀ p, p ∈ l → VRel ρ (ev env p.2) (ce p.2)) →
        All2 (fun p q : Nat × Value => p.1 = q.1 ∧ VRel ρ p.2 q.2 ∧ okV p.2 = true) (l.map fun p => (p.1, ev env p.2)) (l.map fun p => (p.1, ce p.2)) := by
      intro l
      induction l with
      | nil => intros; exact .nil
      | cons p l ih =>
        intro h1 h2
        simp only [List.all_cons, Bool.and_eq_true] at h1
        exact .cons ⟨rfl, h2 p (by simp), h1.1⟩ (ih h1.2 fun q hq => h2 q (by simp [hq]))
    obtain ⟨ds, h1, h2⟩ := fill_rel (ρ := ρ) (fun i => some (i * sz, sz)) _ _ _ _ cs (flatAll hf) (hall parts.toList hok fun p hp => h p.2 (by
      simp only [Op.operands]; simp; exact ⟨p.1, by simpa using hp⟩)) hc
    refine ⟨.agg ds, ?_, .agg h2.size h2.at_⟩
    have e : (parts.map fun (p : Nat × Operand) => (p.1, ce p.2)).toList = parts.toList.map fun p => (p.1, ce p.2) := by simp
    have e' : (parts.map fun (x : Nat × Operand) => match x with | (i, x) => (i, ce x)) = parts.map fun (p : Nat × Operand) => (p.1, ce p.2) := rfl
    simp only [execOp, Instr.build, Sem.run_bind, hz.run_zeroValue, hz.run_underlying, he.run_sizeOf, Result.andThen_ok, e', e, h1, Sem.run_pure]
theorem op_indexA {t e : TypeId} {x y : Operand} {k : IntKind} {i : Int} {m : Nat} {cs : Array Value} {d : TypeDesc} {z by_ : Nat} {zv v : Value} (hu : P.underlying t = some (.array m e)) (hz : TI P e d z by_ zv) (hx : ev env x = .agg cs) (hy : ev env y = .int k i) (h0 : 0 ≤ i) (hi : i < m)
    (ha : isAggD d = false) (hv : cs[i.toNat * z]? = some v) : OpEv P T ⟨dst, .index t x y, ty, pos, after, gd⟩ env n g v n .nil :=
  .calc fun ρ w ce h => by
    have h1 := h x (by simp [Op.operands]); rw [hx] at h1
    have h2 := h y (by simp [Op.operands]); rw [hy] at h2
    have hr : (underlying t).run P w = .ok (.array m e) w := by simp [underlying, hu]
    generalize hc : ce x = c at h1
    cases h1 with
    | @agg _ ys hs hh =>
      have hi1 : i.toNat * z < cs.size := (Array.getElem?_eq_some_iff.1 hv).1
      have hi2 : i.toNat * z < ys.size := by omega
      refine ⟨ys.getD (i.toNat * z) (.tuple #[]), ?_, ?_⟩
      · simp [execOp, Instr.index, hr, hc, h2.int_inv, asIntOf, h0, hi, part, hz.run_isAgg, ha, hz.run_sizeOf, hi2, Array.getD]
      · have := hh (i.toNat * z)
        rw [Array.getD_eq_getD_getElem?, hv] at this
        exact this
theorem op_indexAgg {t e : TypeId} {x y : Operand} {k : IntKind} {i : Int} {m : Nat} {cs : Array Value} {d : TypeDesc} {z by_ : Nat} {zv : Value} (hu : P.underlying t = some (.array m e)) (hz : TI P e d z by_ zv) (hx : ev env x = .agg cs) (hy : ev env y = .int k i) (h0 : 0 ≤ i) (hi : i < m)
    (ha : isAggD d = true) : OpEv P T ⟨dst, .index t x y, ty, pos, after, gd⟩ env n g (.agg (cs.extract (i.toNat * z) (i.toNat * z + z))) n .nil :=
  .calc fun ρ w ce h => by
    have h1 := h x (by simp [Op.operands]); rw [hx] at h1
    have h2 := h y (by simp [Op.operands]); rw [hy] at h2
    have hr : (underlying t).run P w = .ok (.array m e) w := by simp [underlying, hu]
    generalize hc : ce x = c at h1
    cases h1 with
    | @agg _ ys hs hh =>
      refine ⟨.agg (ys.extract (i.toNat * z) (i.toNat * z + z)), ?_, .agg (by simp [hs]) fun j => ?_⟩
      · simp [execOp, Instr.index, hr, hc, h2.int_inv, asIntOf, h0, hi, part, hz.run_isAgg, ha, hz.run_sizeOf]
      · have := hh (i.toNat * z + j)
        simp only [Array.getD_eq_getD_getElem?, Array.getElem?_extract] at *
        rw [hs]
        split
        · exact this
        · exact .unk _
end
end Go.Abs

/- Rows of rows, all of one's own. -/
namespace Go.Abs
open Go.RowKit

/-- A row: where it lies, how many elements, their cells. -/
abbrev RowO := Option Addr × Nat × List Value
def RowO.v (e : RowO) : Value := .slice e.1 e.2.1 e.2.1
/-- Blocks of two slices are two. -/
def Apart (a b : Option Addr) : Prop := a = none ∨ b = none ∨ sb a ≠ sb b
theorem Apart.symm {a b : Option Addr} (h : Apart a b) : Apart b a := h.elim (fun q => .inr (.inl q)) fun q => q.elim .inl fun q => .inr (.inr (Ne.symm q))
theorem Apart.nil {a : Option Addr} : Apart a none := .inr (.inl rfl)
theorem Apart.of {a b : Option Addr} {n : Nat} (ha : a = none ∨ sb a < n) (hb : b = none ∨ n ≤ sb b) : Apart a b := by
  rcases ha with q | q
  · exact .inl q
  · rcases hb with w | w
    · exact .inr (.inl w)
    · exact .inr (.inr (by omega))
/-- The rows lie in blocks from m0 on, the row of them from n0 on. -/
structure OwnRR (h : AH) (n0 m0 n : Nat) (a : Option Addr) (z : Nat) (L : List RowO) : Prop where
  out : OwnSl h n0 n a 1 L.length (L.map RowO.v)
  inn : ∀ (i : Nat) (e : RowO), L[i]? = some e → OwnSl h m0 n e.1 z e.2.1 e.2.2
  sep : ∀ (i : Nat) (e : RowO), L[i]? = some e → Apart a e.1
  dis : ∀ (i j : Nat) (e f : RowO), L[i]? = some e → L[j]? = some f → i ≠ j → Apart e.1 f.1
theorem OwnRR.ext {h h1 : AH} {n0 m0 n n1 z : Nat} {a : Option Addr} {L : List RowO} (o : OwnRR h n0 m0 n a z L) (E : Ext n h h1) (hn : n ≤ n1) : OwnRR h1 n0 m0 n1 a z L :=
  ⟨o.out.ext E hn, fun i e q => (o.inn i e q).ext E hn, o.sep, o.dis⟩
theorem OwnRR.extX {h h1 : AH} {n0 m0 n n1 z : Nat} {a c : Option Addr} {L : List RowO} (o : OwnRR h n0 m0 n a z L) (E : ExtX n c h h1) (hn : n ≤ n1) (ha : Apart c a) (hi : ∀ (i : Nat) (e : RowO), L[i]? = some e → Apart c e.1) : OwnRR h1 n0 m0 n1 a z L :=
  ⟨o.out.extX E hn (ha.elim .inl fun q => q.elim (.inr ∘ .inl) fun q => .inr (.inr (Ne.symm q))), fun i e q => (o.inn i e q).extX E hn ((hi i e q).elim .inl fun q => q.elim (.inr ∘ .inl) fun q => .inr (.inr (Ne.symm q))), o.sep, o.dis⟩
theorem OwnRR.setsN {h : AH} {n0 m0 n z b o' : Nat} {vs : List Value} {a : Option Addr} {L : List RowO} (o : OwnRR h n0 m0 n a z L) (ha : a = none ∨ sb a ≠ b) (hi : b < m0) : OwnRR (h.app (.sets b o' vs)) n0 m0 n a z L :=
  ⟨o.out.setsN ha, fun i e q => (o.inn i e q).sets hi, o.sep, o.dis⟩
theorem OwnRR.nil {h : AH} {n0 m0 n z : Nat} (hn : n0 ≤ n) : OwnRR h n0 m0 n none z [] := ⟨OwnSl.nil hn, fun i e q => (by cases q), fun i e q => (by cases q), fun i j e f q => (by cases q)⟩
/-- One row has been turned, and its place in the row of rows. -/
theorem OwnRR.upd {h h1 : AH} {n0 m0 n n1 z j m : Nat} {a c : Option Addr} {cs : List Value} {L : List RowO} {e : RowO} (o : OwnRR h n0 m0 n a z L) (hj : L[j]? = some e) (E : ExtX n e.1 h h1) (hn : n ≤ n1) (o1 : OwnSl h1 m0 n1 c z m cs) (hc : c = e.1 ∨ n ≤ sb c) :
    OwnRR (h1.app (.sets (sb a) (so a + j) [.slice c m m])) n0 m0 n1 a z (L.set j (c, m, cs)) := by
  have hjl := (List.getElem?_eq_some_iff.1 hj).1
  have hkn : known [Value.slice c m m] = true := rfl
  have hsep := o.sep j e hj
  have hout1 : OwnSl h1 n0 n1 a 1 L.length (L.map RowO.v) := o.out.extX E hn (by rcases hsep with q | q | q; exact .inr (.inl q); exact .inl q; exact .inr (.inr q))
  obtain ⟨hso, hsl, hsu, -, hsA, -⟩ := o.out.facts (by omega)
  have hane : a ≠ none := by
    rcases hsA with q | q
    · omega
    · rw [q]; simp
  have hnew : ∀ f : RowO, (∃ i, L[i]? = some f ∧ i ≠ j) → Apart c f.1 := by
    rintro f ⟨i, hf, hne⟩
    rcases hc with q | q
    · rw [q]; exact o.dis j i e f hj hf (Ne.symm hne)
    · refine (Apart.of (n := n) ?_ (.inr q)).symm
      exact (o.inn i f hf).at'.imp id fun w => w.2
  have hacj : Apart a c := by
    rcases hc with q | q
    · rw [q]; exact hsep
    · exact Apart.of (n := n) (.inr hsu) (.inr q)
  have hget : ∀ (i : Nat) (f : RowO), (L.set j (c, m, cs))[i]? = some f → (i = j ∧ f = (c, m, cs)) ∨ (i ≠ j ∧ L[i]? = some f) := by
    intro i f hf
    by_cases e1 : i = j
    · subst e1
      rw [List.getElem?_set_self hjl] at hf
      exact .inl ⟨rfl, (Option.some.inj hf).symm⟩
    · rw [List.getElem?_set_ne (Ne.symm e1)] at hf
      exact .inr ⟨e1, hf⟩
  have hsetN : ∀ {k mm : Nat} {b : Option Addr} {vs : List Value}, Apart a b → OwnSl h1 m0 n1 b k mm vs → OwnSl (h1.app (.sets (sb a) (so a + j) [.slice c m m])) m0 n1 b k mm vs := by
    intro k mm b vs hap hob
    refine hob.setsN ?_
    rcases hap with q | q | q
    · exact absurd q hane
    · exact .inl q
    · exact .inr (Ne.symm q)
  refine ⟨?_, fun i f hf => ?_, fun i f hf => ?_, fun i k f g hf hg hne => ?_⟩
  · have := hout1.set1 (i := j) (v := .slice c m m) (by omega) hkn
    rw [List.length_set, List.map_set]; exact this
  · rcases hget i f hf with ⟨-, rfl⟩ | ⟨hne, hf⟩
    · exact hsetN hacj o1
    · refine hsetN (o.sep i f hf) ((o.inn i f hf).extX E hn ?_)
      rcases o.dis j i e f hj hf (Ne.symm hne) with q | q | q
      · exact .inl q
      · exact .inr (.inl q)
      · exact .inr (.inr (Ne.symm q))
  · rcases hget i f hf with ⟨-, rfl⟩ | ⟨hne, hf⟩
    · exact hacj
    · exact o.sep i f hf
  · rcases hget i f hf with ⟨e1, rfl⟩ | ⟨n1, hf⟩
    · rcases hget k g hg with ⟨e2, rfl⟩ | ⟨n2, hg⟩
      · omega
      · exact hnew g ⟨k, hg, n2⟩
    · rcases hget k g hg with ⟨e2, rfl⟩ | ⟨n2, hg⟩
      · exact (hnew f ⟨i, hf, n1⟩).symm
      · exact o.dis i k f g hf hg hne
/-- One more row. -/
theorem OwnRR.push {h h1 : AH} {n0 m0 n n1 z : Nat} {a c : Option Addr} {L : List RowO} {e : RowO} (o : OwnRR h n0 m0 n a z L) (oe : OwnSl h m0 n e.1 z e.2.1 e.2.2) (he : Apart a e.1) (hd : ∀ (i : Nat) (f : RowO), L[i]? = some f → Apart e.1 f.1)
    (E : ExtX n a h h1) (hn : n ≤ n1) (o1 : OwnSl h1 n0 n1 c 1 (L.length + 1) (L.map RowO.v ++ [e.v])) (hc : c = a ∨ n ≤ sb c) : OwnRR h1 n0 m0 n1 c z (L ++ [e]) := by
  have hap : ∀ {b : Option Addr}, Apart a b → (b = none ∨ sb b < n) → Apart c b := by
    intro b h1 h2
    rcases hc with q | q
    · rw [q]; exact h1
    · exact (Apart.of h2 (.inr q)).symm
  have hlt : ∀ {k mm : Nat} {b : Option Addr} {vs : List Value}, OwnSl h m0 n b k mm vs → b = none ∨ sb b < n := fun o => o.at'.imp id fun q => q.2
  have hget : ∀ (i : Nat) (f : RowO), (L ++ [e])[i]? = some f → (L[i]? = some f ∧ i < L.length) ∨ (i = L.length ∧ f = e) := by
    intro i f hf
    by_cases e1 : i < L.length
    · rw [List.getElem?_append_left e1] at hf; exact .inl ⟨hf, e1⟩
    · rw [List.getElem?_append_right (by omega)] at hf
      have : i - L.length = 0 := by
        have := (List.getElem?_eq_some_iff.1 hf).1
        simp at this; omega
      rw [this] at hf
      exact .inr ⟨by omega, (Option.some.inj hf).symm⟩
  have hX : ∀ {b : Option Addr} {vs : List Value} {k mm : Nat}, Apart a b → OwnSl h m0 n b k mm vs → OwnSl h1 m0 n1 b k mm vs := fun hab ob => ob.extX E hn (hab.elim .inl fun q => q.elim (.inr ∘ .inl) fun q => .inr (.inr (Ne.symm q)))
  refine ⟨?_, fun i f hf => ?_, fun i f hf => ?_, fun i k f g hf hg hne => ?_⟩
  · rw [List.length_append, List.map_append]; exact o1
  · rcases hget i f hf with ⟨hf, -⟩ | ⟨-, rfl⟩
    · exact hX (o.sep i f hf) (o.inn i f hf)
    · exact hX he oe
  · rcases hget i f hf with ⟨hf, -⟩ | ⟨-, rfl⟩
    · exact hap (o.sep i f hf) (hlt (o.inn i f hf))
    · exact hap he (hlt oe)
  · rcases hget i f hf with ⟨q1, hi⟩ | ⟨hi, q1⟩
    · rcases hget k g hg with ⟨q2, hk⟩ | ⟨hk, q2⟩
      · exact o.dis i k f g q1 q2 hne
      · rw [q2]; exact (hd i f q1).symm
    · rcases hget k g hg with ⟨q2, hk⟩ | ⟨hk, q2⟩
      · rw [q1]; exact hd k g q2
      · omega
theorem OwnRR.at_ {h : AH} {n0 m0 n z j : Nat} {a : Option Addr} {L : List RowO} {e : RowO} (o : OwnRR h n0 m0 n a z L) (hj : L[j]? = some e) : SlA a L.length ∧ sb a < n ∧ n0 ≤ sb a ∧ h.cell (sb a) (so a + j) = .slice e.1 e.2.1 e.2.1 := by
  have hjl := (List.getElem?_eq_some_iff.1 hj).1
  obtain ⟨hso, hsl, hsu, -, hsA, hc⟩ := o.out.facts (by omega)
  refine ⟨hsA, hsu, hsl, (hc j (by omega)).trans ?_⟩
  simp [List.getD, hj, RowO.v]
theorem OwnRR.mono {h : AH} {n0 m0 n z n0' m0' : Nat} {a : Option Addr} {L : List RowO} (o : OwnRR h n0 m0 n a z L) (h1 : n0' ≤ n0) (h2 : m0' ≤ m0) : OwnRR h n0' m0' n a z L :=
  ⟨o.out.mono h1, fun i e q => (o.inn i e q).mono h2, o.sep, o.dis⟩
/-- The blocks of an address. -/
def inA (a : Option Addr) (b : Nat) : Prop := a ≠ none ∧ b = sb a
section
variable {P : Program} {T : Nat → Prop} {ops : Array Oper} {os : List Oper} {env : Env} {n : Nat} {h : AH} {Q : Env → Nat → AH → Prop} {ty : TypeId} {pos : String} {after : Array Edge} {gd : Option (Nat × Bool)}
theorem RD.appendT {q : Tmp} {t t2 e : TypeId} {d d2 : TypeDesc} {z by_ : Nat} {zv : Value} {x y : Operand} {a : Option Addr} {n0 m k : Nat} {v : Value} {xs cs : List Value} {ps : List Ft} [hu : Uc P t (.slice e)] [hz : Tc P e d z by_ zv] [hu2 : Uc P t2 d2] (nb : Nat)
    (hw : wants ops ⟨some q, .call { callee := .builtin .append, args := #[x, y], argTypes := #[t, t2] }, ty, pos, after, gd⟩ env = some true) (hx : Opd env x (.slice a m m)) (hy : Opd env y v) (hO : OwnSl h n0 nb a z m cs) (hs : Src (h.below nb) z v k xs) (hf : full v k)
    (hT : a ≠ none → T (sb a)) (hbig : (m + k) * by_ ≤ 140737488355328) (hnb : nb ≤ n) (hc : CF ops ps.length (· < nb) (inA a) ps.length ps)
    (K : ∀ a' n1 h1, n ≤ n1 → OwnSl h1 n0 n1 a' z (m + k) (cs ++ xs) → ExtX n a h h1 → (a' = a ∨ n ≤ sb a') → RD P T ops (⟨(· < nb), inA a, n, n1⟩ :: ps) os ((q, .slice a' (m + k) (m + k)) :: env) n1 h1 Q)
    (c1 : Nat.beq z 0 = false := by rfl) (c2 : zv.cells.size = z := by rfl) (c3 : Nat.beq by_ 0 = false := by rfl) (c4 : notIntD d2 = true := by rfl) :
    RD P T ops ps (⟨some q, .call { callee := .builtin .append, args := #[x, y], argTypes := #[t, t2] }, ty, pos, after, gd⟩ :: os) env n h Q := by
  have hz0 : z ≠ 0 := fun h => by subst h; simp at c1
  have hb0 : by_ ≠ 0 := fun h => by subst h; simp at c3
  have he : EL P t t2 z by_ := ⟨e, d, zv, d2, hu.out, hz.out, hz0, c2, hb0, hu2.out, c4⟩
  have hlx := hs.length
  have hkx := hs.known
  have hle0 := hO.le
  have happ : ∀ (l m : List Value), known l = true → known m = true → known (l ++ m) = true := by
    intro l m hl hm
    induction l with
    | nil => exact hm
    | cons v l ih => cases v <;> simp_all [known]
  by_cases hk0 : k = 0
  · subst hk0
    have : xs = [] := List.eq_nil_of_length_eq_zero (by simpa using hlx)
    subst this
    refine RD.op (· < nb) (inA a) hw (o_append0 he hx hy hs hf) (AH.below_le _ _) (fun _ hx => AH.below_looks hx) (fun _ hb => Nat.lt_of_lt_of_le hb hnb) (fun b hb => (Dl.touches_nil hb).elim) hc (h1 := h) (by rw [AH.app_nil]; exact .refl _) ?_
    exact K a n h (Nat.le_refl _) (by simpa using hO.ext (Ext.refl _ _) hnb) (fun _ _ _ => ⟨rfl, fun _ => rfl⟩) (.inl rfl)
  · rcases hO.or with ⟨k1, k2⟩ | ⟨k1, k2, k3, k4, k5⟩
    · subst k1; subst k2
      have : cs = [] := List.eq_nil_of_length_eq_zero (by have := hO.len; omega)
      subst this
      simp only [Nat.zero_add, List.nil_append] at K hbig
      refine RD.op (· < nb) (inA none) hw (o_appendNil he hx hy hs hf hk0 hbig) (AH.below_le _ _) (fun _ hx => AH.below_looks hx) (fun _ hb => Nat.lt_of_lt_of_le hb hnb) (fun b hb => ?_) hc (.refl _) (K _ _ _ (Nat.le_succ _) ?_ ?_ (.inr (Nat.le_refl _)))
      · rcases hb with h1 | ⟨i, h1⟩ <;> (simp only [Dl.new] at h1; split at h1) <;> first | omega | exact absurd rfl h1
      · rw [hlx]; exact .new (by omega) hlx hkx
      · exact fun x hx _ => ⟨by simp [AH.app, Dl.new, show x ≠ n by omega], fun i => by simp [AH.app, Dl.new, show x ≠ n by omega]⟩
    · have hx' := hx
      rw [k1] at hx'
      have k4' : (h.below nb).info (sb a) = some ⟨m * z, 0, true, z⟩ := i_below k3 k4
      have k5' : rd (h.below nb) (sb a) 0 (m * z) = cs := r_below k3 k5
      refine RD.op (· < nb) (inA a) hw (o_append false he hx' hy hs hf k4' k5' hO.kn (.inl (hT (by rw [k1]; simp))) (by omega) hk0 hbig) (AH.below_le _ _) (fun _ hx => AH.below_looks hx) (fun _ hb => Nat.lt_of_lt_of_le hb hnb) (fun b hb => ?_) hc (.refl _) (K _ _ _ (Nat.le_succ _) ?_ ?_ (.inr (Nat.le_refl _)))
      · by_cases e1 : b = sb a
        · exact .inl ⟨by rw [k1]; simp, e1⟩
        · by_cases e2 : b = n
          · exact .inr (by omega)
          · exfalso
            rcases hb with h1 | ⟨i, h1⟩
            · simp [Dl.takeover, e1, e2] at h1
            · simp [Dl.takeover, e1, e2] at h1
      · have hl2 : (cs ++ xs).length = (m + k) * z := by rw [List.length_append, hO.len, hlx, Nat.add_mul]
        refine ⟨by omega, hl2, happ _ _ hO.kn hkx, .inr ⟨rfl, by show n0 ≤ n; omega, by show n < n + 1; omega, ?_, ?_⟩⟩
        · have := i_take (h := h) (b := sb a) (n := n) (sz := m * z) (lk := 0) (ez := z) (keep := false) (cs := cs ++ xs)
          rw [hl2] at this; exact this
        · exact r_take hl2.symm
      · intro x hx hne
        have hne' : x ≠ sb a := by
          rcases hne with h | h
          · rw [h] at k1; cases k1
          · exact h
        exact ⟨by simp [AH.app, Dl.takeover, show x ≠ n by omega, hne'], fun i => by simp [AH.app, Dl.takeover, show x ≠ n by omega, hne']⟩
/-- No zeros are appended. -/
theorem op_append0Z {T : Nat → Prop} {env : Env} {n : Nat} {g : AH} {dst : Option Tmp} {t t2 e : TypeId} {kk qq : IntKind} {x y : Operand} {d : TypeDesc} {z by_ : Nat} {zv : Value} {a : Option Addr} {m c : Nat} (hu : P.underlying t = some (.slice e)) (hz : TI P e d z by_ zv)
    (ht2 : P.underlying t2 = some (.int qq)) (hx : ev env x = .slice a m c) (hy : ev env y = .int kk 0) :
    OpEv P T ⟨dst, .call { callee := .builtin .append, args := #[x, y], argTypes := #[t, t2] }, ty, pos, after, gd⟩ env n g (ev env x) n .nil :=
  .look fun w0 ρ w H ce hl hs hop => by
    have h1 := hop x (by simp [Op.operands, Call.operands])
    have h2 := hop y (by simp [Op.operands, Call.operands])
    rw [hy] at h2
    have hcy : ce y = .int kk 0 := h2.int_inv
    have hr : (underlying t).run P w = .ok (.slice e) w := by simp [underlying, hu]
    have hr2 : (underlying t2).run P w = .ok (.int qq) w := by simp [underlying, ht2]
    obtain ⟨i, hi1, hi2⟩ := hz.info
    have hti : (typeInfo e).run P w = .ok i w := by simp [typeInfo, hi1]
    refine ⟨ce x, ?_, h1⟩
    rw [hx] at h1
    have hwr : IntKind.i64.wrap 0 = 0 := wrap64' (Int.le_refl _) (by omega)
    have hlim2 : ¬ ((0 : Int) * (i.bytes : Int) > 2 ^ 48) := by
      rw [Int.zero_mul]
      have : (2 : Int) ^ 48 = 281474976710656 := by decide
      omega
    have key : ∀ (A : Option Addr) (C : Nat), m ≤ C → ce x = .slice A m C → (Builtin.append_ #[t, t2] ty #[ce x, ce y]).run P w = .ok (ce x) w := by
      intro A C hC hcx
      rw [hcx, hcy]
      have e0 : (#[t, t2] : Array TypeId)[0]? = some t := rfl
      have e1 : (#[t, t2] : Array TypeId)[1]? = some t2 := rfl
      have e2 : (#[Value.slice A m C, .int kk 0] : Array Value)[0]? = some (.slice A m C) := rfl
      have e3 : (#[Value.slice A m C, .int kk 0] : Array Value)[1]? = some (.int kk 0) := rfl
      simp only [Builtin.append_, e0, e1, e2, e3]
      simp only [Sem.run_bind, hr, hr2, Result.andThen_ok, hz.run_sizeOf, Sem.run_pure, Sem.run_map, asInt, asIntOf, if_true, hwr, if_neg (Int.lt_irrefl 0), hti, if_neg hlim2, Int.toNat_zero, Nat.add_zero, if_pos hC, Nat.zero_mul]
      cases A with
      | none => simp
      | some A => simp [storeCells]
    have : (Builtin.append_ #[t, t2] ty #[ce x, ce y]).run P w = .ok (ce x) w := by
      generalize hcx : ce x = q at h1
      rw [← hcx]
      cases h1 with
      | slice C h hn hc => exact key _ C hn hcx
      | slice0 A h => exact key _ 0 (Nat.le_refl _) hcx
      | nilSlice => exact key _ 0 (Nat.le_refl _) hcx
    simp [execOp, resolve, invoke, builtin, this]
/-- append(x, make(l)...) to a row of one's own, or the caller's, in a region that draws its order. -/
theorem RD.appendZT {q : Tmp} {t t2 e : TypeId} {d : TypeDesc} {kk qq : IntKind} {z by_ : Nat} {zv : Value} {x y : Operand} {a : Option Addr} {n0 m : Nat} {l : Int} {cs : List Value} {ps : List Ft} [hu : Uc P t (.slice e)] [hz : Tc P e d z by_ zv] [hu2 : Uc P t2 (.int qq)] (nb : Nat)
    (hw : wants ops ⟨some q, .call { callee := .builtin .append, args := #[x, y], argTypes := #[t, t2] }, ty, pos, after, gd⟩ env = some true) (hx : Opd env x (.slice a m m)) (hy : Opd env y (.int kk l)) (hO : OwnSl h n0 nb a z m cs) (hl : 0 ≤ l)
    (hT : a ≠ none → T (sb a)) (hbig : (m + l.toNat) * by_ ≤ 140737488355328) (hkn : known (zrow zv.cells.toList l.toNat) = true) (hnb : nb ≤ n) (hc : CF ops ps.length (· < nb) (inA a) ps.length ps)
    (K : ∀ a' n1 h1, n ≤ n1 → OwnSl h1 n0 n1 a' z (m + l.toNat) (cs ++ zrow zv.cells.toList l.toNat) → ExtX n a h h1 → (a' = a ∨ n ≤ sb a') → RD P T ops (⟨(· < nb), inA a, n, n1⟩ :: ps) os ((q, .slice a' (m + l.toNat) (m + l.toNat)) :: env) n1 h1 Q)
    (c1 : Nat.beq z 0 = false := by rfl) (c2 : zv.cells.size = z := by rfl) (c3 : Nat.beq by_ 0 = false := by rfl) (c4 : zv.cells.all (flat 8) = true := by first | rfl | (simp [Value.cells, flat]; done)) :
    RD P T ops ps (⟨some q, .call { callee := .builtin .append, args := #[x, y], argTypes := #[t, t2] }, ty, pos, after, gd⟩ :: os) env n h Q := by
  have hz0 : z ≠ 0 := fun h => by subst h; simp at c1
  have hb0 : by_ ≠ 0 := fun h => by subst h; simp at c3
  have hlim : l.toNat * by_ ≤ 140737488355328 := Nat.le_trans (Nat.mul_le_mul_right _ (by omega)) hbig
  have hle0 := hO.le
  have happ : ∀ (l m : List Value), known l = true → known m = true → known (l ++ m) = true := by
    intro l m hl hm
    induction l with
    | nil => exact hm
    | cons v l ih => cases v <;> simp_all [known]
  by_cases hk0 : l = 0
  · subst hk0
    have e0 : zrow zv.cells.toList (0 : Int).toNat = [] := List.eq_nil_of_length_eq_zero (by rw [zrow_length]; simp)
    rw [e0, List.append_nil] at K
    have hoz := op_append0Z (P := P) (T := T) (n := n) (g := h.below nb) (dst := some q) (ty := ty) (pos := pos) (after := after) (gd := gd) hu.out hz.out hu2.out hx.ev hy.ev
    rw [hx.ev] at hoz
    refine RD.op (· < nb) (inA a) hw hoz (AH.below_le _ _) (fun _ hx => AH.below_looks hx) (fun _ hb => Nat.lt_of_lt_of_le hb hnb) (fun b hb => (Dl.touches_nil hb).elim) hc (h1 := h) (by rw [AH.app_nil]; exact .refl _) ?_
    exact K a n h (Nat.le_refl _) (hO.ext (Ext.refl _ _) hnb) (fun _ _ _ => ⟨rfl, fun _ => rfl⟩) (.inl rfl)
  have hY : AppY P t t2 ty e z by_ zv (h.below nb) (ev env y) l.toNat (zrow zv.cells.toList l.toNat) := by
    rw [hy.ev]; exact AppY.zeros hu.out hz.out hz0 hb0 c2 c4 hu2.out hl hlim hkn
  have hlx := hY.len
  rcases hO.or with ⟨k1, k2⟩ | ⟨k1, k2, k3, k4, k5⟩
  · subst k1; subst k2
    have : cs = [] := List.eq_nil_of_length_eq_zero (by have := hO.len; omega)
    subst this
    simp only [Nat.zero_add, List.nil_append] at K hbig
    refine RD.op (· < nb) (inA none) hw (op_appendNilY hu.out hz.out hz0 c2 hx.ev hY (by omega) hlim) (AH.below_le _ _) (fun _ hx => AH.below_looks hx) (fun _ hb => Nat.lt_of_lt_of_le hb hnb) (fun b hb => ?_) hc (.refl _) (K _ _ _ (Nat.le_succ _) ?_ ?_ (.inr (Nat.le_refl _)))
    · rcases hb with h1 | ⟨i, h1⟩ <;> (simp only [Dl.new] at h1; split at h1) <;> first | omega | exact absurd rfl h1
    · rw [hlx]; exact .new (by omega) hlx hkn
    · exact fun x hx _ => ⟨by simp [AH.app, Dl.new, show x ≠ n by omega], fun i => by simp [AH.app, Dl.new, show x ≠ n by omega]⟩
  · have hx' := hx.ev
    rw [k1] at hx'
    have k4' : (h.below nb).info (sb a) = some ⟨m * z, 0, true, z⟩ := i_below k3 k4
    have k5' : rd (h.below nb) (sb a) 0 (m * z) = cs := r_below k3 k5
    have hop := op_appendY (P := P) (T := T) (n := n) (g := h.below nb) (env := env) (dst := some q) (ty := ty) (pos := pos) (after := after) (gd := gd) (mm := ⟨m * z, 0, true, z⟩) false hu.out hz.out hz0 c2 hx' hY k4' rfl rfl rfl (by rw [k5']; exact hO.kn) (.inl (hT (by rw [k1]; simp))) (by omega) (by omega) hbig
    rw [k5'] at hop
    refine RD.op (· < nb) (inA a) hw hop (AH.below_le _ _) (fun _ hx => AH.below_looks hx) (fun _ hb => Nat.lt_of_lt_of_le hb hnb) (fun b hb => ?_) hc (.refl _) (K _ _ _ (Nat.le_succ _) ?_ ?_ (.inr (Nat.le_refl _)))
    · by_cases e1 : b = sb a
      · exact .inl ⟨by rw [k1]; simp, e1⟩
      · by_cases e2 : b = n
        · exact .inr (by omega)
        · exfalso
          rcases hb with h1 | ⟨i, h1⟩
          · simp [Dl.takeover, e1, e2] at h1
          · simp [Dl.takeover, e1, e2] at h1
    · have hl2 : (cs ++ zrow zv.cells.toList l.toNat).length = (m + l.toNat) * z := by rw [List.length_append, hO.len, hlx, Nat.add_mul]
      refine ⟨by omega, hl2, happ _ _ hO.kn hkn, .inr ⟨rfl, by show n0 ≤ n; omega, by show n < n + 1; omega, ?_, ?_⟩⟩
      · have := i_take (h := h) (b := sb a) (n := n) (sz := m * z) (lk := 0) (ez := z) (keep := false) (cs := cs ++ zrow zv.cells.toList l.toNat)
        rw [hl2] at this; exact this
      · exact r_take hl2.symm
    · intro x hx hne
      have hne' : x ≠ sb a := by
        rcases hne with h | h
        · rw [h] at k1; cases k1
        · exact h
      exact ⟨by simp [AH.app, Dl.takeover, show x ≠ n by omega, hne'], fun i => by simp [AH.app, Dl.takeover, show x ≠ n by omega, hne']⟩
end
theorem known_cons (v : Value) (l : List Value) : known (v :: l) = true ↔ known [v] = true ∧ known l = true := by
  cases v <;> simp [known]
theorem known_all : ∀ l : List Value, known l = true ↔ ∀ v ∈ l, known [v] = true
  | [] => by simp [known]
  | v :: l => by rw [known_cons, known_all l]; simp
theorem known_zrow {z : List Value} {m : Nat} (h : known z = true) : known (zrow z m) = true := by
  rw [known_all] at h ⊢
  intro v hv
  simp only [zrow, List.mem_map, List.mem_range] at hv
  obtain ⟨i, hi, rfl⟩ := hv
  have hz : 0 < z.length := by
    rcases Nat.eq_zero_or_pos z.length with q | q
    · rw [q] at hi; simp at hi
    · exact q
  have hl := Nat.mod_lt i hz
  refine h _ ?_
  simp only [List.getD, List.getElem?_eq_getElem hl, Option.getD_some]
  exact List.getElem_mem _
theorem splice_all {α : Type} (cs vs : List α) (h : vs.length = cs.length) : splice cs 0 vs = vs := by
  simp [splice, h]
section
variable {P : Program} {T : Nat → Prop} {N : Nat} {ops : Array Oper} {os : List Oper} {env : Env} {n : Nat} {g h : AH} {ps : List Ft}
/-- The heap by a short name. -/
theorem RS.heap {Q : Env → Nat → AH → Prop} (e : g = h) (k : RS P T ops os env n g Q) : RS P T ops os env n h Q := e ▸ k
theorem RD.heap {Q : Env → Nat → AH → Prop} (e : g = h) (k : RD P T ops ps os env n g Q) : RD P T ops ps os env n h Q := e ▸ k
theorem RC.heap {c : Code} {Q : Exit → Env → Nat → AH → Prop} (e : g = h) (k : RC P T N c env n g Q) : RC P T N c env n h Q := e ▸ k
end
theorem flatMap_getD {α : Type} {C : α → List Value} {z : Nat} (hC : ∀ x, (C x).length = z) : ∀ (l : List α) (i r : Nat) (x : α), l[i]? = some x → r < z → (l.flatMap C).getD (i * z + r) (.tuple #[]) = (C x).getD r (.tuple #[])
  | [], i, r, x, h, _ => by simp at h
  | y :: l, 0, r, x, h, hr => by
    simp only [List.getElem?_cons_zero, Option.some.injEq] at h
    subst h
    simp only [List.flatMap_cons, List.getD, Nat.zero_mul, Nat.zero_add]
    rw [List.getElem?_append_left (by rw [hC]; exact hr)]
  | y :: l, i + 1, r, x, h, hr => by
    have := flatMap_getD hC l i r x (by simpa using h) hr
    simp only [List.flatMap_cons, List.getD] at this ⊢
    rw [List.getElem?_append_right (by rw [hC, Nat.add_mul]; omega), hC, show (i + 1) * z + r - z = i * z + r by rw [Nat.add_mul]; omega]
    exact this
/-- A slice whose elements' cells are told one by one. -/
theorem SlR.of_el {α : Type} {C : α → List Value} {h : AH} {n z : Nat} {a : Option Addr} {l : List α} {f : Nat → Value} (S : SlR h n a z l.length f) (hC : ∀ x, (C x).length = z) (hx : ∀ (i : Nat) (x : α), l[i]? = some x → elC h a z i = C x) :
    SlR h n a z l.length (fun j => (l.flatMap C).getD j (.tuple #[])) := by
  refine ⟨S.shape, fun j hj => ?_⟩
  have hz : 0 < z := by
    rcases Nat.eq_zero_or_pos z with q | q
    · subst q; omega
    · exact q
  have hi : j / z < l.length := Nat.div_lt_of_lt_mul (by rw [Nat.mul_comm]; exact hj)
  have hr : j % z < z := Nat.mod_lt j hz
  have hq : l[j / z]? = some l[j / z] := List.getElem?_eq_getElem hi
  have he : j = j / z * z + j % z := by rw [Nat.mul_comm]; exact (Nat.div_add_mod j z).symm
  have h1 := hx _ _ hq
  have h2 := flatMap_getD hC l _ (j % z) _ hq hr
  show h.cell (sb a) (so a + j) = (l.flatMap C).getD j (.tuple #[])
  rw [show (l.flatMap C).getD j (.tuple #[]) = (C l[j / z]).getD (j % z) (.tuple #[]) by rw [← h2, ← he], ← h1]
  simp only [elC, List.getD, List.getElem?_map, List.getElem?_range hr, Option.map_some, Option.getD_some]
  rw [← he]
section
variable {P : Program} {T : Nat → Prop} {env : Env} {n : Nat} {g : AH} {dst : Option Tmp} {ty : TypeId} {pos : String} {after : Array Edge} {gd : Option (Nat × Bool)}
/-- x[l:u:u], with elements. -/
theorem op_slice3l {t e : TypeId} {x w0 y q : Operand} {b o m l u : Nat} {mm : Meta} {k0 k1 k2 : IntKind} {d : TypeDesc} {z by_ : Nat} {zv : Value} (hu : P.underlying t = some (.slice e)) (hz : TI P e d z by_ zv) (hx : ev env x = .slice (some ⟨b, o, none⟩) m m)
    (hlo : ev env w0 = .int k0 (l : Nat)) (hhi : ev env y = .int k1 (u : Nat)) (hmx : ev env q = .int k2 (u : Nat)) (hlu : l < u) (hum : u ≤ m) (hm : g.info b = some mm) (hsz : mm.sz = 0 ∨ mm.sz = z) :
    OpEv P T ⟨dst, .slice t x (some w0) (some y) (some q), ty, pos, after, gd⟩ env n g (.slice (some ⟨b, o + l * z, none⟩) (u - l) (u - l)) n .nil :=
  .look fun w0' ρ w H ce hl hs hop => by
    have h1 := hop x (by simp [Op.operands]); rw [hx] at h1
    have h0 := hop w0 (by simp [Op.operands]); rw [hlo] at h0
    have h2 := hop y (by simp [Op.operands]); rw [hhi] at h2
    have h3 := hop q (by simp [Op.operands]); rw [hmx] at h3
    have hr : (underlying t).run P w = .ok (.slice e) w := by simp [underlying, hu]
    have hne : ¬ u = l := by omega
    have key : ∀ (a : Addr) (c : Nat), m ≤ c → (Instr.sliceAt t (.slice (some a) m c) (some (ce w0)) (some (ce y)) (some (ce q))).run P w = .ok (.slice (some (a.add (l * z))) (u - l) (u - l)) w := by
      intro a c hmc
      have hlu' : l ≤ u := by omega
      have huc : u ≤ c := by omega
      have hb : (Instr.sliceBounds true m c (some (ce w0)) (some (ce y)) (some (ce q))).run P w = .ok (l, u, u) w := by
        simp [Instr.sliceBounds, Instr.sliceBound, h0.int_inv, h2.int_inv, h3.int_inv, asIntOf, hlu', huc]
      simp only [Instr.sliceAt, Instr.slice, Sem.run_bind, hr, Result.andThen_ok, hb, hz.run_sizeOf, Sem.run_pure, Option.map_some]
      simp [hne]
    generalize hc : ce x = c at h1
    cases h1 with
    | @slice _ _ _ L c' hL hn hcc =>
      refine ⟨.slice (some ((⟨L.blk, L.off + o, none⟩ : Addr).add (l * z))) (u - l) (u - l), ?_, ?_⟩
      · simp only [execOp, hc, Option.map_some, Sem.run_bind, key _ _ hn, Result.andThen_ok, Sem.run_pure]
      · rw [addr_add, Nat.add_assoc]
        refine .slice _ hL (Nat.le_refl _) fun hz0 => ?_
        obtain ⟨L', k1, k2, _⟩ := hs.info b mm (hl.info b mm hm)
        rw [hL] at k1; cases k1
        have h5 := hcc hz0
        have hsz' : L.sz = z := by
          rcases hsz with q | q
          · rw [k2, q] at hz0; exact absurd rfl hz0
          · rw [k2]; exact q
        rw [hsz'] at h5 ⊢
        have e1 : o + l * z + (u - l) * z = o + u * z := by
          rw [Nat.add_assoc, ← Nat.add_mul]; congr 2; omega
        have e2 : u * z ≤ c' * z := Nat.mul_le_mul_right _ (by omega)
        omega
    | @slice0 _ _ L a hL => omega
theorem RS.slice3 {ops : Array Oper} {os : List Oper} {Q : Env → Nat → AH → Prop} {r : Tmp} {t e : TypeId} {x w0 y q : Operand} {a : Option Addr} {m l u z by_ n0 : Nat} {k0 k1 k2 : IntKind} {d : TypeDesc} {zv : Value} [hu : Uc P t (.slice e)] [hz : Tc P e d z by_ zv]
    (hw : wants ops ⟨some r, .slice t x (some w0) (some y) (some q), ty, pos, after, gd⟩ env = some true) (hx : Opd env x (.slice a m m)) (hlo : Opd env w0 (.int k0 (l : Nat))) (hhi : Opd env y (.int k1 (u : Nat))) (hmx : Opd env q (.int k2 (u : Nat))) (S : Shp g n0 a z m) (hlu : l < u) (hum : u ≤ m)
    (K : RS P T ops os ((r, .slice (sub a (l * z)) (u - l) (u - l)) :: env) n g Q) : RS P T ops (⟨some r, .slice t x (some w0) (some y) (some q), ty, pos, after, gd⟩ :: os) env n g Q := by
  obtain ⟨hra, -, mm, hmm, hsz⟩ := S.out.resolve_left (fun q => by omega)
  have hx' := hx
  rw [hra] at hx'
  have := op_slice3l (P := P) (T := T) (n := n) (g := g) (dst := some r) (ty := ty) (pos := pos) (after := after) (gd := gd) hu.out hz.out hx'.ev hlo.ev hhi.ev hmx.ev hlu hum hmm (.inr hsz)
  refine RS.mem hw rfl this ?_
  rw [AH.app_nil]
  have e1 : sub a (l * z) = some ⟨sb a, so a + l * z, none⟩ := by rw [hra]; rfl
  rw [← e1]; exact K
end
end Go.Abs

/- Functions that tell another function values which they make. -/
namespace Go.Abs

/-- What a function that is told values does: of value i, val tells. -/
structure IterP (P : Program) (W : Nat → Prop) (fv : Value) (k : Nat) (val : Nat → List Value → Nat → AH → Prop) (I : Nat → Nat → AH → Prop) (D : Nat → AH → Prop) : Prop where
  mono : ∀ i n h n' h', I i n h → n ≤ n' → Ext n h h' → I i n' h'
  step : ∀ (i : Nat) (vs : List Value) n h, i < k → val i vs n h → I i n h → VF P W fv vs.toArray n h fun r n' h' => (r = .bool true ∧ I (i + 1) n' h') ∨ (r = .bool false ∧ D n' h')
/-- f, with what it captured, tells a function k values; K: what it needs of memory. -/
def IterFP (P : Program) (f : FuncId) (caps : List Value) (k : Nat) (val : Nat → List Value → Nat → AH → Prop) (K : Nat → AH → Prop) : Prop :=
  ∀ (W : Nat → Prop) (fv : Value) (I : Nat → Nat → AH → Prop) (D : Nat → AH → Prop) (n : Nat) (h : AH), IterP P W fv k val I D → (∀ i n h, I i n h → K n h) → I 0 n h → 0 < n →
    RF P W f (fv :: caps).toArray n h fun _ n' h' => I k n' h' ∨ D n' h'
end Go.Abs

/- Contracts taken from codec (written by port.py). -/
namespace Go.Proofs.YtfbddbpbifnhfaaDoor.Cd
open Go.Abs
/-- How many bits a number has. -/
def bl (m : Nat) : Nat := if m = 0 then 0 else Nat.log2 m + 1
/-- How many bytes a number takes; at least one. -/
def nb (m : Nat) : Nat := max 1 ((bl m + 7) / 8)
/-- The bytes of a number, the great ones first. -/
def be (k m : Nat) : List UInt8 := (List.range k).map fun i => UInt8.ofNat (m / 256 ^ (k - 1 - i))
def formUp (n : Nat) : List UInt8 := if n < 120 then [UInt8.ofNat (128 + n)] else UInt8.ofNat (247 + nb (n - 120)) :: be (nb (n - 120)) (n - 120)
def turn (l : List UInt8) : List UInt8 := l.map (255 - ·)
def form (n : Int) : List UInt8 := if n < 0 then turn (formUp (-n - 1).toNat) else formUp n.toNat
theorem bl_le {m k : Nat} (h : m < 2 ^ k) : bl m ≤ k := by
  unfold bl
  split
  · omega
  · rename_i q
    have := (Nat.log2_lt q).2 h
    omega
theorem bl_shift {m k : Nat} (h : 2 ^ k ≤ m) : bl m = k + bl (m / 2 ^ k) := by
  have hm : m ≠ 0 := fun e => by subst e; have := Nat.two_pow_pos k; omega
  have hd : 0 < m / 2 ^ k := Nat.div_pos h (Nat.two_pow_pos k)
  unfold bl
  rw [if_neg hm, if_neg (by omega)]
  have h1 : Nat.log2 m = Nat.log2 (m / 2 ^ k) + k := by
    rw [Nat.log2_eq_iff hm]
    have hd' : m / 2 ^ k ≠ 0 := by omega
    have a1 := Nat.log2_self_le hd'
    have a2 : m / 2 ^ k < 2 ^ (Nat.log2 (m / 2 ^ k) + 1) := Nat.lt_log2_self
    have hp := Nat.two_pow_pos k
    constructor
    · rw [Nat.pow_add]
      exact Nat.le_trans (Nat.mul_le_mul_right _ a1) (Nat.div_mul_le_self m (2 ^ k))
    · rw [show Nat.log2 (m / 2 ^ k) + k + 1 = (Nat.log2 (m / 2 ^ k) + 1) + k by omega, Nat.pow_add]
      exact (Nat.div_lt_iff_lt_mul hp).1 a2
  omega
theorem be_length (k m : Nat) : (be k m).length = k := by simp [be]
theorem nb_pos (m : Nat) : 1 ≤ nb m := Nat.le_max_left _ _
theorem nb_le {m : Nat} (h : m < 2 ^ 63) : nb m ≤ 8 := by
  have := bl_le h
  unfold nb; omega
theorem formUp_length (n : Nat) : (formUp n).length = if n < 120 then 1 else 1 + nb (n - 120) := by
  unfold formUp
  split
  · rfl
  · rw [List.length_cons, be_length]; omega
theorem form_length (n : Int) : (form n).length = (formUp (if n < 0 then (-n - 1).toNat else n.toNat)).length := by
  unfold form turn
  split <;> simp
end Go.Proofs.YtfbddbpbifnhfaaDoor.Cd

/- Contracts taken from codec (written by port.py). -/
namespace Go.Proofs.YtfbddbpbifnhfaaDoor.Cd
open Go.Abs
theorem shD (x : Int) (y : Nat) (hx : x = y) (k : Int) (c : Nat) (hc : 2 ^ k.toNat = c) : ((x.toNat >>> k.toNat : Nat) : Int) = ((y / c : Nat) : Int) := by
  subst hx
  rw [Int.toNat_natCast, Nat.shiftRight_eq_div_pow, hc]
set_option maxHeartbeats 4000000 in
theorem len64_ev (m : Nat) (hm : m < 18446744073709551616) (n : Nat) (h : AH) : Ev Tryd.prog none' 82 #[.int .u64 (m : Nat)] n h (.int .i64 (bl m : Nat)) n h := by
  refine RF.pure rfl fun n' hn => ?_
  refine RF.of Tryd.func82 rfl rfl (Nat.le_of_ble_eq_true rfl) ?_; dsimp only [argEnv]
  have s8 := shD (m : Int) m rfl 8 256 rfl
  have s16 := shD (m : Int) m rfl 16 65536 rfl
  have s32 := shD (m : Int) m rfl 32 4294967296 rfl
  have s168 := shD _ _ s16 8 256 rfl
  have s328 := shD _ _ s32 8 256 rfl
  have s3216 := shD _ _ s32 16 65536 rfl
  have s32168 := shD _ _ s3216 8 256 rfl
  rcases (by omega : m < 256 ∨ (256 ≤ m ∧ m < 65536) ∨ (65536 ≤ m ∧ m < 16777216) ∨ (16777216 ≤ m ∧ m < 4294967296) ∨ (4294967296 ≤ m ∧ m < 1099511627776) ∨ (1099511627776 ≤ m ∧ m < 281474976710656) ∨ (281474976710656 ≤ m ∧ m < 72057594037927936) ∨ 72057594037927936 ≤ m) with q | q | q | q | q | q | q | q
  all_goals repeat' (first | refine stpS ?_ | (refine stp2 ?_ ?_ <;> intro _))
  · have hk : m < 256 := by omega
    refine RS.put (v := .int .u8 (UInt8.ofNat (bl (m))).toNat) rfl rfl (op_indexS Uc.out (Opd.ev opd) (Opd.ev opd) (Int.natCast_nonneg _) ?_) ?_
    · rw [Int.toNat_natCast]
      generalize m = k at hk ⊢
      revert hk
      revert k
      decide +kernel
    · have hb := bl_le (k := 8) hk
      rw [show (UInt8.ofNat (bl (m))).toNat = bl (m) by rw [UInt8.toNat_ofNat', Nat.mod_eq_of_lt (by omega)]]
      repeat' (first | refine stpS ?_ | (refine stp2 ?_ ?_ <;> intro _))
      exact congrArg (Value.int .i64) (by omega)
  · have hk : m / 256 < 256 := by omega
    rw [s8]
    refine RS.put (v := .int .u8 (UInt8.ofNat (bl (m / 256))).toNat) rfl rfl (op_indexS Uc.out (Opd.ev opd) (Opd.ev opd) (Int.natCast_nonneg _) ?_) ?_
    · rw [Int.toNat_natCast]
      generalize m / 256 = k at hk ⊢
      revert hk
      revert k
      decide +kernel
    · have hb := bl_le (k := 8) hk
      have hs : bl m = 8 + bl (m / 256) := by
        have := bl_shift (m := m) (k := 8) (by omega)
        rw [this]
      rw [show (UInt8.ofNat (bl (m / 256))).toNat = bl (m / 256) by rw [UInt8.toNat_ofNat', Nat.mod_eq_of_lt (by omega)]]
      repeat' (first | refine stpS ?_ | (refine stp2 ?_ ?_ <;> intro _))
      exact congrArg (Value.int .i64) (by omega)
  · have hk : m / 65536 < 256 := by omega
    rw [s16]
    refine RS.put (v := .int .u8 (UInt8.ofNat (bl (m / 65536))).toNat) rfl rfl (op_indexS Uc.out (Opd.ev opd) (Opd.ev opd) (Int.natCast_nonneg _) ?_) ?_
    · rw [Int.toNat_natCast]
      generalize m / 65536 = k at hk ⊢
      revert hk
      revert k
      decide +kernel
    · have hb := bl_le (k := 8) hk
      have hs : bl m = 16 + bl (m / 65536) := by
        have := bl_shift (m := m) (k := 16) (by omega)
        rw [this]
      rw [show (UInt8.ofNat (bl (m / 65536))).toNat = bl (m / 65536) by rw [UInt8.toNat_ofNat', Nat.mod_eq_of_lt (by omega)]]
      repeat' (first | refine stpS ?_ | (refine stp2 ?_ ?_ <;> intro _))
      exact congrArg (Value.int .i64) (by omega)
  · have hk : m / 65536 / 256 < 256 := by omega
    rw [s168]
    refine RS.put (v := .int .u8 (UInt8.ofNat (bl (m / 65536 / 256))).toNat) rfl rfl (op_indexS Uc.out (Opd.ev opd) (Opd.ev opd) (Int.natCast_nonneg _) ?_) ?_
    · rw [Int.toNat_natCast]
      generalize m / 65536 / 256 = k at hk ⊢
      revert hk
      revert k
      decide +kernel
    · have hb := bl_le (k := 8) hk
      have hs : bl m = 24 + bl (m / 65536 / 256) := by
        have := bl_shift (m := m) (k := 24) (by omega)
        rw [this]; congr 2; simp only [Nat.div_div_eq_div_mul]
      rw [show (UInt8.ofNat (bl (m / 65536 / 256))).toNat = bl (m / 65536 / 256) by rw [UInt8.toNat_ofNat', Nat.mod_eq_of_lt (by omega)]]
      repeat' (first | refine stpS ?_ | (refine stp2 ?_ ?_ <;> intro _))
      exact congrArg (Value.int .i64) (by omega)
  · have hk : m / 4294967296 < 256 := by omega
    rw [s32]
    refine RS.put (v := .int .u8 (UInt8.ofNat (bl (m / 4294967296))).toNat) rfl rfl (op_indexS Uc.out (Opd.ev opd) (Opd.ev opd) (Int.natCast_nonneg _) ?_) ?_
    · rw [Int.toNat_natCast]
      generalize m / 4294967296 = k at hk ⊢
      revert hk
      revert k
      decide +kernel
    · have hb := bl_le (k := 8) hk
      have hs : bl m = 32 + bl (m / 4294967296) := by
        have := bl_shift (m := m) (k := 32) (by omega)
        rw [this]
      rw [show (UInt8.ofNat (bl (m / 4294967296))).toNat = bl (m / 4294967296) by rw [UInt8.toNat_ofNat', Nat.mod_eq_of_lt (by omega)]]
      repeat' (first | refine stpS ?_ | (refine stp2 ?_ ?_ <;> intro _))
      exact congrArg (Value.int .i64) (by omega)
  · have hk : m / 4294967296 / 256 < 256 := by omega
    rw [s328]
    refine RS.put (v := .int .u8 (UInt8.ofNat (bl (m / 4294967296 / 256))).toNat) rfl rfl (op_indexS Uc.out (Opd.ev opd) (Opd.ev opd) (Int.natCast_nonneg _) ?_) ?_
    · rw [Int.toNat_natCast]
      generalize m / 4294967296 / 256 = k at hk ⊢
      revert hk
      revert k
      decide +kernel
    · have hb := bl_le (k := 8) hk
      have hs : bl m = 40 + bl (m / 4294967296 / 256) := by
        have := bl_shift (m := m) (k := 40) (by omega)
        rw [this]; congr 2; simp only [Nat.div_div_eq_div_mul]
      rw [show (UInt8.ofNat (bl (m / 4294967296 / 256))).toNat = bl (m / 4294967296 / 256) by rw [UInt8.toNat_ofNat', Nat.mod_eq_of_lt (by omega)]]
      repeat' (first | refine stpS ?_ | (refine stp2 ?_ ?_ <;> intro _))
      exact congrArg (Value.int .i64) (by omega)
  · have hk : m / 4294967296 / 65536 < 256 := by omega
    rw [s3216]
    refine RS.put (v := .int .u8 (UInt8.ofNat (bl (m / 4294967296 / 65536))).toNat) rfl rfl (op_indexS Uc.out (Opd.ev opd) (Opd.ev opd) (Int.natCast_nonneg _) ?_) ?_
    · rw [Int.toNat_natCast]
      generalize m / 4294967296 / 65536 = k at hk ⊢
      revert hk
      revert k
      decide +kernel
    · have hb := bl_le (k := 8) hk
      have hs : bl m = 48 + bl (m / 4294967296 / 65536) := by
        have := bl_shift (m := m) (k := 48) (by omega)
        rw [this]; congr 2; simp only [Nat.div_div_eq_div_mul]
      rw [show (UInt8.ofNat (bl (m / 4294967296 / 65536))).toNat = bl (m / 4294967296 / 65536) by rw [UInt8.toNat_ofNat', Nat.mod_eq_of_lt (by omega)]]
      repeat' (first | refine stpS ?_ | (refine stp2 ?_ ?_ <;> intro _))
      exact congrArg (Value.int .i64) (by omega)
  · have hk : m / 4294967296 / 65536 / 256 < 256 := by omega
    rw [s32168]
    refine RS.put (v := .int .u8 (UInt8.ofNat (bl (m / 4294967296 / 65536 / 256))).toNat) rfl rfl (op_indexS Uc.out (Opd.ev opd) (Opd.ev opd) (Int.natCast_nonneg _) ?_) ?_
    · rw [Int.toNat_natCast]
      generalize m / 4294967296 / 65536 / 256 = k at hk ⊢
      revert hk
      revert k
      decide +kernel
    · have hb := bl_le (k := 8) hk
      have hs : bl m = 56 + bl (m / 4294967296 / 65536 / 256) := by
        have := bl_shift (m := m) (k := 56) (by omega)
        rw [this]; congr 2; simp only [Nat.div_div_eq_div_mul]
      rw [show (UInt8.ofNat (bl (m / 4294967296 / 65536 / 256))).toNat = bl (m / 4294967296 / 65536 / 256) by rw [UInt8.toNat_ofNat', Nat.mod_eq_of_lt (by omega)]]
      repeat' (first | refine stpS ?_ | (refine stp2 ?_ ?_ <;> intro _))
      exact congrArg (Value.int .i64) (by omega)
end Go.Proofs.YtfbddbpbifnhfaaDoor.Cd

/- Contracts taken from codec (written by port.py). -/
namespace Go.Proofs.YtfbddbpbifnhfaaDoor.Cd
open Go.Abs Go.RowKit
theorem not_i64 {a : Int} (hlo : -9223372036854775808 ≤ a) (hhi : a < 9223372036854775808) :
    IntKind.i64.wrap (BitVec.ofInt IntKind.i64.bits (if IntKind.i64.signed then -1 else IntKind.i64.max) ^^^ BitVec.ofInt IntKind.i64.bits a).toNat = -a - 1 := by
  have e : (BitVec.ofInt 64 (-1) ^^^ BitVec.ofInt 64 a) = ~~~ BitVec.ofInt 64 a := by
    rw [show BitVec.ofInt 64 (-1) = BitVec.allOnes 64 by decide, BitVec.allOnes_xor]
  show IntKind.i64.wrap ((BitVec.ofInt 64 (-1) ^^^ BitVec.ofInt 64 a).toNat : Nat) = -a - 1
  rw [e, BitVec.toNat_not, BitVec.toNat_ofInt]
  simp only [IntKind.wrap, show IntKind.i64.bits = 64 from rfl, show IntKind.i64.signed = true from rfl, Bool.true_and, decide_eq_true_eq]
  split <;> omega
theorem o_notI {P : Program} {T : Nat → Prop} {env : Env} {n : Nat} {g : AH} {dst : Option Tmp} {ty : TypeId} {pos : String} {after : Array Edge} {gd : Option (Nat × Bool)} {t : TypeId} {x : Operand} {a : Int} (hx : Opd env x (.int .i64 a)) (hlo : -9223372036854775808 ≤ a) (hhi : a < 9223372036854775808) :
    OpEv P T ⟨dst, .unOp .xor t x, ty, pos, after, gd⟩ env n g (.int .i64 (-a - 1)) n .nil := by
  have := op_compl (P := P) (T := T) (n := n) (g := g) (dst := dst) (ty := ty) (pos := pos) (after := after) (gd := gd) (t := t) hx.ev
  rwa [not_i64 hlo hhi] at this
end Go.Proofs.YtfbddbpbifnhfaaDoor.Cd

/- Contracts taken from codec (written by port.py). -/
namespace Go.Proofs.YtfbddbpbifnhfaaDoor.Cd
open Go.Abs
theorem len64I_ev (x : Int) (h0 : 0 ≤ x) (hx : x < 18446744073709551616) (n : Nat) (h : AH) : Ev Tryd.prog none' 82 #[.int .u64 x] n h (.int .i64 (bl x.toNat : Nat)) n h := by
  have := len64_ev x.toNat (by omega) n h
  rwa [Int.toNat_of_nonneg h0] at this
theorem form_lenN {v : Int} (q : v < 0) : (form v).length = if (-v - 1).toNat < 120 then 1 else 1 + nb ((-v - 1).toNat - 120) := by
  rw [form_length, formUp_length, if_pos q]
theorem form_lenP {v : Int} (q : ¬ v < 0) : (form v).length = if v.toNat < 120 then 1 else 1 + nb (v.toNat - 120) := by
  rw [form_length, formUp_length, if_neg q]
set_option maxHeartbeats 4000000 in
theorem size_ev (v : Int) (hlo : -9223372036854775808 ≤ v) (hhi : v < 9223372036854775808) (n : Nat) (h : AH) : Ev Tryd.prog none' 76 #[.int .i64 v] n h (.int .i64 ((form v).length : Nat)) n h := by
  refine RF.pure rfl fun n' hn => ?_
  refine RF.of Tryd.func76 rfl rfl (Nat.le_of_ble_eq_true rfl) ?_; dsimp only [argEnv]
  rcases (by omega : v < -120 ∨ (-120 ≤ v ∧ v < 0) ∨ (0 ≤ v ∧ v < 120) ∨ 120 ≤ v) with q | q | q | q
  · have hL := form_lenN (v := v) (by omega)
    rw [if_neg (by omega)] at hL
    have hbl := bl_le (m := (-v - 1 - 120).toNat) (k := 63) (by omega)
    rw [show (-v - 1).toNat - 120 = (-v - 1 - 120).toNat by omega] at hL
    repeat (first | (refine RS.put (v := .int .i64 (-v - 1)) rfl rfl (o_notI (Opd.tmp Look.here) hlo hhi) ?_) | refine stpS ?_)
    repeat' (first | refine stpS ?_ | (refine stp2 ?_ ?_ <;> intro _) | refine RS.call1 rfl opds (len64I_ev _ (by omega) (by omega) _ _) none'W ?_)
    rw [hL]
    unfold nb
    exact congrArg (Value.int .i64) (by omega)
  · have hL := form_lenN (v := v) (by omega)
    rw [if_pos (by omega)] at hL
    rw [hL]
    repeat (first | (refine RS.put (v := .int .i64 (-v - 1)) rfl rfl (o_notI (Opd.tmp Look.here) hlo hhi) ?_) | refine stpS ?_)
    repeat' (first | refine stpS ?_ | (refine stp2 ?_ ?_ <;> intro _))
    rfl
  · have hL := form_lenP (v := v) (by omega)
    rw [if_pos (by omega)] at hL
    rw [hL]
    repeat' (first | refine stpS ?_ | (refine stp2 ?_ ?_ <;> intro _))
    rfl
  · have hL := form_lenP (v := v) (by omega)
    rw [if_neg (by omega)] at hL
    have hbl := bl_le (m := (v - 120).toNat) (k := 63) (by omega)
    rw [show v.toNat - 120 = (v - 120).toNat by omega] at hL
    repeat' (first | refine stpS ?_ | (refine stp2 ?_ ?_ <;> intro _) | refine RS.call1 rfl opds (len64I_ev _ (by omega) (by omega) _ _) none'W ?_)
    rw [hL]
    unfold nb
    exact congrArg (Value.int .i64) (by omega)
end Go.Proofs.YtfbddbpbifnhfaaDoor.Cd

/- Contracts taken from codec (written by port.py). -/
namespace Go.Proofs.YtfbddbpbifnhfaaDoor.Cd
open Go.Abs
theorem bytesV_take_succ (l : List UInt8) (i : Nat) (hi : i < l.length) : bytesV (l.take (i + 1)) = bytesV (l.take i) ++ [.int .u8 (l.getD i 0).toNat] := by
  unfold bytesV
  rw [List.take_succ_eq_append_getElem hi, List.map_append]
  simp [List.getD, hi]
theorem turn_getD (l : List UInt8) (i : Nat) (hi : i < l.length) : ((turn l).getD i 0).toNat = 255 - (l.getD i 0).toNat := by
  unfold turn
  have : (l.map fun x => 255 - x)[i]? = some (255 - l[i]) := by simp [hi]
  rw [List.getD_eq_getElem?_getD, this, Option.getD_some, List.getD_eq_getElem?_getD, List.getElem?_eq_getElem hi, Option.getD_some]
  generalize l[i] = x
  have := x.toNat_lt
  rw [UInt8.toNat_sub_of_le _ _ (by rw [UInt8.le_iff_toNat_le]; show x.toNat ≤ 255; omega)]
  rfl
theorem turn_length (l : List UInt8) : (turn l).length = l.length := by simp [turn]
set_option maxHeartbeats 4000000 in
theorem turned_rf (l : List UInt8) (a : Option Addr) (m n : Nat) (h : AH) (S : SlB h n a l) (e : m = l.length) (hm : m ≤ 1099511627776) :
    RF Tryd.prog none' 74 #[.slice a m m] n h (fun r n' h' => ∃ a', r = .slice a' l.length l.length ∧ Ext n h h' ∧ OwnSl h' n n' a' 1 l.length (bytesV (turn l))) := by
  subst e
  refine RF.of Tryd.func74 rfl rfl (Nat.le_of_ble_eq_true rfl) ?_; dsimp only [argEnv]
  repeat' (first | refine stpS ?_ | (refine stp2 ?_ ?_ <;> intro _))
  refine RC.loop ?_
  refine RL.inv (α := Nat × Option Addr) (fun s => [(4, .int .i64 (s.1 : Nat)), (3, .slice s.2 s.1 s.1), (0, .slice a l.length l.length)])
    (fun s n1 h1 => s.1 ≤ l.length ∧ n ≤ n1 ∧ Ext n h h1 ∧ OwnSl h1 n n1 s.2 1 s.1 (bytesV ((turn l).take s.1)))
    (fun s => l.length - s.1) (0, none) envs ⟨by omega, by omega, Ext.refl _ _, OwnSl.nil (by omega)⟩ ?_
  rintro ⟨i, a'⟩ n1 h1 ⟨hi, hn, hE, hO⟩
  dsimp only at hi hn hE hO ⊢
  have hS := S.ext hE hn
  have hb : (l.getD (i : Int).toNat 0).toNat < 256 := UInt8.toNat_lt _
  repeat' (first | refine stpS ?_ | (refine stp2 ?_ ?_ <;> intro _))
  · rename_i hlt
    refine RS.append rfl opd opd (hO.ext ext (Nat.le_succ _)) (OwnSl.src (OwnSl.new1 (n0 := n1) (m := 1) (Nat.le_refl _) rfl rfl)) full_slice (fun b hb => Or.inr (by omega)) (by omega) ?_
    intro a2 n2 h2 hle2 hO2 hX hnew
    have hE2 := hX.ext (hO.ext ext (Nat.le_succ _))
    repeat' (first | refine stpS ?_ | (refine stp2 ?_ ?_ <;> intro _))
    refine nextC.normal ⟨(i + 1, a2), by dsimp only; omega, envs, by dsimp only; omega, by omega, ext, ?_⟩
    dsimp only
    rw [bytesV_take_succ _ _ (by rw [turn_length]; omega), turn_getD _ _ (by omega)]
    rw [Int.toNat_natCast] at hO2 hb
    rw [Int.natCast_sub (by omega)]
    exact hO2
  · rename_i hlt
    have e : i = l.length := by omega
    subst e
    refine ⟨a', rfl, ext, ?_⟩
    rw [List.take_of_length_le (by rw [turn_length]; omega)] at hO
    exact hO
end Go.Proofs.YtfbddbpbifnhfaaDoor.Cd

/- Contracts taken from codec (written by port.py). -/
namespace Go.Proofs.YtfbddbpbifnhfaaDoor.Cd
open Go.Abs
theorem lt_bl {m k : Nat} : k < bl m ↔ 2 ^ k ≤ m := by
  unfold bl
  split
  · rename_i q; subst q
    have := Nat.two_pow_pos k
    omega
  · rename_i q
    rw [← Nat.le_log2 q]; omega
theorem pow256 (j : Nat) : 256 ^ j = 2 ^ (8 * j) := by rw [Nat.pow_mul]
theorem nb_more {m j : Nat} (hj : 0 < j) : 0 < m / 256 ^ j ↔ j < nb m := by
  have h1 : 0 < m / 256 ^ j ↔ 8 * j < bl m := by
    rw [lt_bl, ← pow256]
    have := Nat.pow_pos (n := j) (show 0 < 256 by omega)
    rw [Nat.div_pos_iff]; omega
  rw [h1]; unfold nb; omega
def le (k m : Nat) : List UInt8 := (List.range k).map fun i => UInt8.ofNat (m / 256 ^ i)
theorem le_length (k m : Nat) : (le k m).length = k := by simp [le]
theorem bytesV_le_succ (k m : Nat) : bytesV (le (k + 1) m) = bytesV (le k m) ++ [.int .u8 ((m / 256 ^ k % 256 : Nat) : Int)] := by
  unfold bytesV le
  rw [List.range_succ, List.map_append, List.map_append]
  simp [UInt8.toNat_ofNat']
theorem be_getD {k m i : Nat} (hi : i < k) : (be k m).getD i 0 = (le k m).getD (k - 1 - i) 0 := by
  unfold be le
  simp [List.getD, show k - 1 - i < k by omega, hi]
set_option maxHeartbeats 4000000 in
theorem up_rf (x : Nat) (hx : x < 9223372036854775808) (n : Nat) (h : AH) :
    RF Tryd.prog none' 75 #[.int .i64 (x : Nat)] n h (fun r n' h' => ∃ a', r = .slice a' (formUp x).length (formUp x).length ∧ Ext n h h' ∧ OwnSl h' n n' a' 1 (formUp x).length (bytesV (formUp x))) := by
  refine RF.of Tryd.func75 rfl rfl (Nat.le_of_ble_eq_true rfl) ?_; dsimp only [argEnv]
  by_cases hs : x < 120
  · have hf : formUp x = [UInt8.ofNat (128 + x)] := by unfold formUp; rw [if_pos hs]
    rw [hf]
    have e : bytesV [UInt8.ofNat (128 + x)] = [.int .u8 (128 + (x : Int))] := by
      simp only [bytesV, List.map_cons, List.map_nil, UInt8.toNat_ofNat']
      rw [Nat.mod_eq_of_lt (by omega)]
      rfl
    rw [e]
    repeat' (first | refine stpS ?_ | (refine stp2 ?_ ?_ <;> intro _))
    exact ⟨_, rfl, ext, OwnSl.new1 (Nat.le_refl _) rfl rfl⟩
  have hf : formUp x = UInt8.ofNat (247 + nb (x - 120)) :: be (nb (x - 120)) (x - 120) := by unfold formUp; rw [if_neg hs]
  obtain ⟨m, hm⟩ : ∃ m, m = x - 120 := ⟨_, rfl⟩
  have hxm : (x : Int) - 120 = m := by omega
  rw [← hm] at hf
  have hnb := nb_le (m := m) (by omega)
  have hnp := nb_pos m
  rw [hf]
  repeat' (first | refine stpS ?_ | (refine stp2 ?_ ?_ <;> intro _))
  rw [hxm, show (m : Int) = ((m / 256 ^ 0 : Nat) : Int) by simp]
  refine RC.loop ?_
  refine RL.inv (α := Nat × Option Addr) (fun s => [(4, .slice s.2 s.1 s.1), (3, .int .i64 ((m / 256 ^ s.1 : Nat) : Int))])
    (fun s n1 h1 => s.1 ≤ nb m ∧ n ≤ n1 ∧ Ext n h h1 ∧ OwnSl h1 n n1 s.2 1 s.1 (bytesV (le s.1 m)))
    (fun s => nb m - s.1) (0, none) envs ⟨by omega, by omega, Ext.refl _ _, OwnSl.nil (by omega)⟩ ?_
  rintro ⟨j, a'⟩ n1 h1 ⟨hj, hn, hE, hO⟩
  dsimp only at hj hn hE hO ⊢
  have hmore := nb_more (m := m) (j := j)
  have hsucc := bytesV_le_succ j m
  have hdiv : m / 256 ^ (j + 1) = m / 256 ^ j / 256 := by rw [Nat.pow_succ, Nat.div_div_eq_div_mul]
  have hle : m / 256 ^ j ≤ m := Nat.div_le_self _ _
  generalize hy : m / 256 ^ j = y at *
  have step : (j < nb m ∧ 0 < y) ∨ (j < nb m ∧ y = 0 ∧ j = 0) ∨ (y = 0 ∧ 0 < j ∧ j = nb m) := by
    rcases Nat.eq_zero_or_pos y with r | r
    · rcases Nat.eq_zero_or_pos j with q | q
      · exact .inr (.inl ⟨by omega, r, q⟩)
      · exact .inr (.inr ⟨r, q, by have := hmore q; omega⟩)
    · rcases Nat.eq_zero_or_pos j with q | q
      · exact .inl ⟨by omega, r⟩
      · exact .inl ⟨(hmore q).1 r, r⟩
  rcases step with ⟨q1, q2⟩ | ⟨q1, q2, q3⟩ | ⟨q1, q2, q3⟩
  · repeat' (first | refine stpS ?_ | (refine stp2 ?_ ?_ <;> intro _))
    refine RS.append rfl opd opd (hO.ext ext (Nat.le_succ _)) (OwnSl.src (OwnSl.new1 (n0 := n1) (m := 1) (Nat.le_refl _) rfl rfl)) full_slice (fun b hb => Or.inr (by omega)) (by omega) ?_
    intro a2 n2 h2 hle2 hO2 hX hnew
    have hE2 := hX.ext (hO.ext ext (Nat.le_succ _))
    repeat' (first | refine stpS ?_ | (refine stp2 ?_ ?_ <;> intro _))
    refine nextC.normal ⟨(j + 1, a2), by dsimp only; omega, ?_, by dsimp only; omega, by omega, ext, ?_⟩
    · dsimp only
      rw [hdiv, Int.natCast_ediv]
      exact envs
    · dsimp only
      rw [hsucc]; exact hO2
  · repeat' (first | refine stpS ?_ | (refine stp2 ?_ ?_ <;> intro _))
    refine RS.append rfl opd opd (hO.ext ext (Nat.le_succ _)) (OwnSl.src (OwnSl.new1 (n0 := n1) (m := 1) (Nat.le_refl _) rfl rfl)) full_slice (fun b hb => Or.inr (by omega)) (by omega) ?_
    intro a2 n2 h2 hle2 hO2 hX hnew
    have hE2 := hX.ext (hO.ext ext (Nat.le_succ _))
    repeat' (first | refine stpS ?_ | (refine stp2 ?_ ?_ <;> intro _))
    refine nextC.normal ⟨(j + 1, a2), by dsimp only; omega, ?_, by dsimp only; omega, by omega, ext, ?_⟩
    · dsimp only
      rw [hdiv, Int.natCast_ediv]
      exact envs
    · dsimp only
      rw [hsucc]; exact hO2
  · have hS : SlB h1 n1 a' (le j m) := OwnSl.slbE hO
    have hll := le_length j m
    obtain ⟨-, -, -, -, hA, -⟩ := hO.facts (by omega)
    rw [← q3]
    have hbl := be_length j m
    clear hmore hsucc hdiv hy hnp
    repeat' (first | refine stpS ?_ | (refine stp2 ?_ ?_ <;> intro _))
    refine RC.loop ?_
    refine RL.inv (α := Int × Nat × Option Addr) (fun s => [(6, .int .i64 s.1), (5, .slice s.2.2 (s.2.1 + 1) (s.2.1 + 1)), (4, .slice a' j j)])
      (fun s n2 h2 => s.1 = j - 1 - s.2.1 ∧ s.2.1 ≤ j ∧ n1 + 1 ≤ n2 ∧ Ext n1 h1 h2 ∧ OwnSl h2 n1 n2 s.2.2 1 (s.2.1 + 1) (bytesV (UInt8.ofNat (247 + j) :: (be j m).take s.2.1)))
      (fun s => j - s.2.1) (_, 0, some ⟨n1, 0, none⟩) envs ⟨by dsimp only; omega, by dsimp only; omega, by omega, ext, ?_⟩ ?_
    · dsimp only
      have e : bytesV (UInt8.ofNat (247 + j) :: (be j m).take 0) = [.int .u8 (247 + (j : Int))] := by
        simp only [bytesV, List.take_zero, List.map_cons, List.map_nil, UInt8.toNat_ofNat']
        rw [Nat.mod_eq_of_lt (by omega)]
        rfl
      rw [e]
      exact OwnSl.new1 (Nat.le_refl _) rfl rfl
    rintro ⟨z, i, a5⟩ n2 h2 ⟨hz, hi, hn2, hE2, hO2⟩
    dsimp only at hz hi hn2 hE2 hO2 ⊢
    have hS2 : SlB h2 n2 a' (le j m) := hS.ext hE2 (by omega)
    have hb : ((le j m).getD z.toNat 0).toNat < 256 := UInt8.toNat_lt _
    repeat' (first | refine stpS ?_ | (refine stp2 ?_ ?_ <;> intro _))
    · rename_i hlt
      refine RS.append rfl opd opd (hO2.ext ext (Nat.le_succ _)) (OwnSl.src (OwnSl.new1 (n0 := n2) (m := 1) (Nat.le_refl _) rfl rfl)) full_slice (fun b hb => Or.inr (by omega)) (by omega) ?_
      intro a6 n3 h3 hle3 hO3 hX3 hnew3
      have hE3 := hX3.ext (hO2.ext ext (Nat.le_succ _))
      repeat' (first | refine stpS ?_ | (refine stp2 ?_ ?_ <;> intro _))
      refine nextC.normal ⟨(z - 1, i + 1, a6), by dsimp only; omega, envs, by dsimp only; omega, by dsimp only; omega, by omega, ext, ?_⟩
      dsimp only
      have e : bytesV (UInt8.ofNat (247 + j) :: (be j m).take (i + 1)) = bytesV (UInt8.ofNat (247 + j) :: (be j m).take i) ++ [.int .u8 ((le j m).getD z.toNat 0).toNat] := by
        have h1 := bytesV_take_succ (be j m) i (by omega)
        rw [be_getD (by omega), show j - 1 - i = z.toNat by omega] at h1
        show _ :: bytesV ((be j m).take (i + 1)) = _
        rw [h1]; rfl
      rw [e]; exact hO3
    · rename_i hlt
      have e : i = j := by omega
      subst e
      refine ⟨a5, by rw [List.length_cons, hbl], ext, ?_⟩
      rw [List.take_of_length_le (by omega)] at hO2
      rw [List.length_cons, hbl]
      exact hO2.mono (by omega)
end Go.Proofs.YtfbddbpbifnhfaaDoor.Cd

/- Contracts taken from codec (written by port.py). -/
namespace Go.Proofs.YtfbddbpbifnhfaaDoor.Cd
open Go.Abs
set_option maxHeartbeats 4000000 in
theorem refInt_rf (v : Int) (hlo : -9223372036854775808 ≤ v) (hhi : v < 9223372036854775808) (n : Nat) (h : AH) :
    RF Tryd.prog none' 59 #[.int .i64 v] n h (fun r n' h' => ∃ a', r = .slice a' (form v).length (form v).length ∧ Ext n h h' ∧ OwnSl h' n n' a' 1 (form v).length (bytesV (form v))) := by
  refine RF.of Tryd.func59 rfl rfl (Nat.le_of_ble_eq_true rfl) ?_; dsimp only [argEnv]
  by_cases q : v < 0
  · have hf : form v = turn (formUp (-v - 1).toNat) := by unfold form; rw [if_pos q]
    obtain ⟨x, hx⟩ : ∃ x : Nat, x = (-v - 1).toNat := ⟨_, rfl⟩
    have hxv : -(v + 1) = (x : Int) := by omega
    rw [← hx] at hf
    have hfl : (formUp x).length ≤ 9 := by
      rw [formUp_length]
      have := nb_le (m := x - 120) (by omega)
      split <;> omega
    repeat' (first | refine stpS ?_ | (refine stp2 ?_ ?_ <;> intro _))
    rw [hxv]
    refine RS.call rfl opds (up_rf x (by omega) _ _) none'W ?_
    rintro r n1 h1 hle ⟨a1, rfl, hE1, hO1⟩
    have S1 : SlB h1 n1 a1 (formUp x) := OwnSl.slbE hO1
    repeat' (first | refine stpS ?_ | (refine stp2 ?_ ?_ <;> intro _))
    refine RS.call rfl opds (turned_rf (formUp x) a1 _ _ _ S1 rfl (by omega)) none'W ?_
    rintro r n2 h2 hle2 ⟨a2, rfl, hE2, hO2⟩
    repeat' (first | refine stpS ?_ | (refine stp2 ?_ ?_ <;> intro _))
    have hl : (form v).length = (formUp x).length := by rw [hf, turn_length]
    refine ⟨a2, by rw [hl], ext, ?_⟩
    rw [hl, hf]
    exact hO2.mono hle
  · have hf : form v = formUp v.toNat := by unfold form; rw [if_neg q]
    obtain ⟨x, hx⟩ : ∃ x : Nat, x = v.toNat := ⟨_, rfl⟩
    have hxv : v = (x : Int) := by omega
    rw [← hx] at hf
    rw [hf]
    subst hxv
    repeat' (first | refine stpS ?_ | (refine stp2 ?_ ?_ <;> intro _))
    refine RS.call rfl opds (up_rf x (by omega) _ _) none'W ?_
    rintro r n1 h1 hle ⟨a1, rfl, hE1, hO1⟩
    repeat' (first | refine stpS ?_ | (refine stp2 ?_ ?_ <;> intro _))
    exact ⟨a1, rfl, ext, hO1⟩
end Go.Proofs.YtfbddbpbifnhfaaDoor.Cd

/- Contracts taken from codec (written by port.py). -/
namespace Go.Proofs.YtfbddbpbifnhfaaDoor.Cd
open Go.Abs
def Put (a : Option Addr) (l : List UInt8) (v : Int) (m n0 n : Nat) (h : AH) (r : Value) (n' : Nat) (h' : AH) : Prop :=
  ∃ a', r = .slice a' (m + (form v).length) (m + (form v).length) ∧ OwnSl h' n0 n' a' 1 (m + (form v).length) (bytesV (l ++ form v)) ∧ ExtX n a h h' ∧ (a' = a ∨ n ≤ sb a')
theorem ExtX.step {n m k : Nat} {a a' : Option Addr} {h h1 h2 h3 : AH} (e : ExtX n a h h1) (g : Ext m h1 h2) (f : ExtX k a' h2 h3) (hm : n ≤ m) (hk : n ≤ k) (ha : a' = a ∨ n ≤ sb a') : ExtX n a h h3 := fun x hx hne => by
  have h1 := e x hx hne
  have hx2 : x < m := by omega
  have h3 := f x (by omega) (by
    rcases ha with r | r
    · rw [r]; exact hne
    · exact .inr (by omega))
  exact ⟨by rw [h3.1, g.info x hx2, h1.1], fun i => by rw [h3.2, g.cell x i hx2, h1.2]⟩
theorem bytesV_app (l k : List UInt8) : bytesV (l ++ k) = bytesV l ++ bytesV k := by simp [bytesV]
set_option maxHeartbeats 4000000 in
theorem putP_rf (l : List UInt8) (v : Int) (h0 : 0 ≤ v) (hhi : v < 9223372036854775808) (a : Option Addr) (m n0 n : Nat) (h : AH) (hO : OwnSl h n0 n a 1 m (bytesV l)) (hm : m ≤ 1099511627776) :
    RF Tryd.prog (inA a) 70 #[.slice a m m, .int .i64 v] n h (Put a l v m n0 n h) := by
  refine RF.of Tryd.func70 rfl rfl (Nat.le_of_ble_eq_true rfl) ?_; dsimp only [argEnv]
  have hml : m = l.length := by have := hO.len; simp [bytesV] at this; omega
  have hfl : (form v).length = if v.toNat < 120 then 1 else 1 + nb (v.toNat - 120) := form_lenP (by omega)
  have hf : form v = formUp v.toNat := by unfold form; rw [if_neg (by omega)]
  by_cases q : v < 120
  · rw [if_pos (by omega)] at hfl
    have hf1 : form v = [UInt8.ofNat (128 + v.toNat)] := by rw [hf]; unfold formUp; rw [if_pos (by omega)]
    repeat' (first | refine stpS ?_ | (refine stp2 ?_ ?_ <;> intro _) | refine RS.call1 rfl opds (size_ev _ (by omega) (by omega) _ _) none'W ?_)
    refine RS.appendT rfl opd opd (hO.ext ext (Nat.le_succ _)) (OwnSl.src (OwnSl.new1 (n0 := n) (m := 1) (Nat.le_refl _) rfl rfl)) full_slice (fun q => .inl ⟨q, rfl⟩) (by omega) ?_
    intro a2 n2 h2 hle2 hO2 hX hnew
    repeat' (first | refine stpS ?_ | (refine stp2 ?_ ?_ <;> intro _))
    refine ⟨a2, by rw [hfl], ?_, ExtX.step ExtX.refl ext hX (Nat.le_refl _) (by omega) (.inl rfl), hnew.imp_right fun q => by omega⟩
    rw [hfl, bytesV_app, hf1]
    have e : bytesV [UInt8.ofNat (128 + v.toNat)] = [.int .u8 (128 + v)] := by
      simp only [bytesV, List.map_cons, List.map_nil, UInt8.toNat_ofNat']
      rw [Nat.mod_eq_of_lt (by omega), show ((128 + v.toNat : Nat) : Int) = 128 + v by omega]
    rw [e]; exact hO2
  · rw [if_neg (by omega)] at hfl
    obtain ⟨x, hx⟩ : ∃ x : Nat, x = v.toNat - 120 := ⟨_, rfl⟩
    rw [← hx] at hfl
    have hf1 : form v = UInt8.ofNat (247 + nb x) :: be (nb x) x := by rw [hf]; unfold formUp; rw [if_neg (by omega), ← hx]
    have hnb := nb_le (m := x) (by omega)
    have hnp := nb_pos x
    repeat' (first | refine stpS ?_ | (refine stp2 ?_ ?_ <;> intro _) | refine RS.call1 rfl opds (size_ev _ (by omega) (by omega) _ _) none'W ?_)
    refine RS.appendT rfl opd opd (hO.ext ext (Nat.le_succ _)) (OwnSl.src (OwnSl.new1 (n0 := n) (m := 1) (Nat.le_refl _) rfl rfl)) full_slice (fun q => .inl ⟨q, rfl⟩) (by omega) ?_
    intro a2 n2 h2 hle2 hO2 hX hnew
    have hbl := be_length (nb x) x
    have hX2 : ExtX n a h h2 := ExtX.step ExtX.refl ext hX (Nat.le_refl _) (by omega) (.inl rfl)
    have e1 : bytesV (l ++ UInt8.ofNat (247 + nb x) :: (be (nb x) x).take 0) = bytesV l ++ [.int .u8 (247 + (((form v).length : Nat) - 1))] := by
      rw [bytesV_app]
      simp only [bytesV, List.take_zero, List.map_cons, List.map_nil, UInt8.toNat_ofNat']
      rw [Nat.mod_eq_of_lt (by omega), show ((247 + nb x : Nat) : Int) = 247 + ((form v).length - 1) by omega]
    rw [← e1] at hO2
    repeat' (first | refine stpS ?_ | (refine stp2 ?_ ?_ <;> intro _))
    refine RC.loop ?_
    refine RL.inv (α := Int × Nat × Option Addr) (fun s => [(7, .int .i64 s.1), (0, .slice s.2.2 (m + 1 + s.2.1) (m + 1 + s.2.1)), (1, .int .i64 v)])
      (fun s n1 h1 => s.1 = nb x - 1 - s.2.1 ∧ s.2.1 ≤ nb x ∧ n ≤ n1 ∧ ExtX n a h h1 ∧ OwnSl h1 n0 n1 s.2.2 1 (m + 1 + s.2.1) (bytesV (l ++ UInt8.ofNat (247 + nb x) :: (be (nb x) x).take s.2.1)) ∧ (s.2.2 = a ∨ n ≤ sb s.2.2))
      (fun s => nb x - s.2.1) (_, 0, a2) envs ⟨by dsimp only; omega, by dsimp only; omega, by omega, hX2, hO2, hnew.imp_right fun q => by show n ≤ sb a2; omega⟩ ?_
    rintro ⟨z, i, a3⟩ n3 h3 ⟨hz, hi, hn3, hX3, hO3, hw3⟩
    dsimp only at hz hi hn3 hX3 hO3 hw3 ⊢
    by_cases hlt : 0 ≤ z
    · have hw : ((((v - 120).toNat >>> (8 * z).toNat : Nat) : Int) % 256) = (((be (nb x) x).getD i 0).toNat : Nat) := by
        have hd : (be (nb x) x).getD i 0 = UInt8.ofNat (x / 256 ^ z.toNat) := by
          unfold be
          rw [show z.toNat = nb x - 1 - i by omega]
          simp [List.getD, show i < nb x by omega]
        rw [hd, UInt8.toNat_ofNat', Nat.shiftRight_eq_div_pow, show (v - 120).toNat = x by omega, show (8 * z).toNat = 8 * z.toNat by omega, ← pow256]
        rfl
      repeat (first | (refine RS.put (v := .int .u8 ((((v - 120).toNat >>> (8 * z).toNat : Nat) : Int) % 256)) rfl rfl (o_convM_u8 (Opd.tmp Look.here)) ?_) | refine stpS ?_)
      rw [hw]
      have hb : ((be (nb x) x).getD i 0).toNat < 256 := UInt8.toNat_lt _
      refine RS.appendT rfl opd opd (hO3.ext ext (Nat.le_succ _)) (OwnSl.src (OwnSl.new1 (n0 := n3) (m := 1) (Nat.le_refl _) rfl rfl)) full_slice (fun q => hw3.elim (fun e => .inl (by subst e; exact ⟨q, rfl⟩)) .inr) (by omega) ?_
      intro a4 n4 h4 hle4 hO4 hX4 hnew4
      have hX5 : ExtX n a h h4 := ExtX.step hX3 ext hX4 hn3 (by omega) hw3
      repeat' (first | refine stpS ?_ | (refine stp2 ?_ ?_ <;> intro _))
      refine nextC.normal ⟨(z - 1, i + 1, a4), by dsimp only; omega, envs, by dsimp only; omega, by dsimp only; omega, by omega, hX5, ?_, ?_⟩
      · dsimp only
        have e : bytesV (l ++ UInt8.ofNat (247 + nb x) :: (be (nb x) x).take (i + 1)) = bytesV (l ++ UInt8.ofNat (247 + nb x) :: (be (nb x) x).take i) ++ [.int .u8 ((be (nb x) x).getD i 0).toNat] := by
          have h1 := bytesV_take_succ (be (nb x) x) i (by omega)
          rw [bytesV_app, bytesV_app, List.append_assoc]
          show _ ++ _ :: bytesV ((be (nb x) x).take (i + 1)) = _
          rw [h1]; rfl
        rw [e]; exact hO4
      · dsimp only
        rcases hnew4 with e | e
        · rw [e]; exact hw3
        · exact .inr (by omega)
    · repeat' (first | refine stpS ?_ | (refine stp2 ?_ ?_ <;> intro _))
      have e : i = nb x := by omega
      subst e
      rw [List.take_of_length_le (by omega), ← hf1] at hO3
      refine ⟨a3, by rw [hfl, Nat.add_assoc], ?_, hX3, hw3⟩
      rw [hfl, ← Nat.add_assoc]
      exact hO3
end Go.Proofs.YtfbddbpbifnhfaaDoor.Cd

/- Contracts taken from codec (written by port.py). -/
namespace Go.Proofs.YtfbddbpbifnhfaaDoor.Cd
open Go.Abs
/-- The bytes while the form is turned: i of its bytes are. -/
def cur (l f : List UInt8) (i : Nat) : List UInt8 := l ++ (turn (f.take i) ++ f.drop i)
theorem cur_length (l f : List UInt8) (i : Nat) : (cur l f i).length = l.length + f.length := by
  simp [cur, turn]; omega
theorem set_mid (A B D : List Value) (c v : Value) : (A ++ (B ++ c :: D)).set (A.length + B.length) v = A ++ (B ++ v :: D) := by
  rw [List.set_append_right _ _ (by omega), Nat.add_sub_cancel_left, List.set_append_right _ _ (by omega), Nat.sub_self]; rfl
theorem xor255 : ∀ x : Nat, x < 256 → x ^^^ 255 = 255 - x := by decide +kernel
theorem cur_succ (l f : List UInt8) (i : Nat) (hi : i < f.length) :
    bytesV (cur l f (i + 1)) = (bytesV (cur l f i)).set (l.length + i) (.int .u8 ((((((cur l f i).getD (l.length + i) 0).toNat : Nat) : Int).toNat ^^^ (255 : Int).toNat : Nat) : Int)) := by
  have hd : f.drop i = f[i] :: f.drop (i + 1) := List.drop_eq_getElem_cons hi
  have ht : f.take (i + 1) = f.take i ++ [f[i]] := List.take_succ_eq_append_getElem hi
  have htl : (turn (f.take i)).length = i := by simp [turn]; omega
  have hg : (cur l f i).getD (l.length + i) 0 = f[i] := by
    unfold cur
    rw [hd, List.getD_eq_getElem?_getD, List.getElem?_append_right (by omega), Nat.add_sub_cancel_left, List.getElem?_append_right (by omega), htl, Nat.sub_self]
    rfl
  rw [hg, Int.toNat_natCast, show (255 : Int).toNat = 255 from rfl, xor255 _ f[i].toNat_lt]
  unfold cur
  rw [hd, ht]
  have e1 : turn (f.take i ++ [f[i]]) = turn (f.take i) ++ [255 - f[i]] := by unfold turn; rw [List.map_append]; rfl
  rw [e1, List.append_assoc]
  simp only [bytesV_app]
  have hx : (255 - f[i]).toNat = 255 - f[i].toNat := by
    have := f[i].toNat_lt
    rw [UInt8.toNat_sub_of_le _ _ (by rw [UInt8.le_iff_toNat_le]; show f[i].toNat ≤ 255; omega)]
    rfl
  have hA : (bytesV l).length = l.length := by simp [bytesV]
  have hB : (bytesV (turn (f.take i))).length = i := by simp [bytesV, htl]
  have := set_mid (bytesV l) (bytesV (turn (f.take i))) (bytesV (f.drop (i + 1))) (.int .u8 f[i].toNat) (.int .u8 (255 - f[i].toNat : Nat))
  rw [hA, hB] at this
  show bytesV l ++ (bytesV (turn (f.take i)) ++ (.int .u8 (255 - f[i]).toNat :: bytesV (f.drop (i + 1)))) = _
  rw [hx]
  exact this.symm
theorem form_pos (v : Int) : 1 ≤ (form v).length := by
  rw [form_length, formUp_length]
  generalize (if v < 0 then (-v - 1).toNat else v.toNat) = y
  split <;> omega
theorem form_le (v : Int) (hlo : -9223372036854775808 ≤ v) (hhi : v < 9223372036854775808) : (form v).length ≤ 9 := by
  rw [form_length, formUp_length]
  obtain ⟨y, hy⟩ : ∃ y, y = if v < 0 then (-v - 1).toNat else v.toNat := ⟨_, rfl⟩
  have hy2 : y < 9223372036854775808 := by rw [hy]; split <;> omega
  rw [← hy]
  have := nb_le (m := y - 120) (by omega)
  split <;> omega
set_option maxHeartbeats 4000000 in
theorem put_rf (l : List UInt8) (v : Int) (hlo : -9223372036854775808 ≤ v) (hhi : v < 9223372036854775808) (a : Option Addr) (m n0 n : Nat) (h : AH) (hO : OwnSl h n0 n a 1 m (bytesV l)) (hm : m ≤ 1099511627776) :
    RF Tryd.prog (inA a) 70 #[.slice a m m, .int .i64 v] n h (Put a l v m n0 n h) := by
  by_cases q : 0 ≤ v
  · exact putP_rf l v q hhi a m n0 n h hO hm
  refine RF.of Tryd.func70 rfl rfl (Nat.le_of_ble_eq_true rfl) ?_; dsimp only [argEnv]
  have hml : m = l.length := by have := hO.len; simp [bytesV] at this; omega
  obtain ⟨w, hw⟩ : ∃ w, w = -v - 1 := ⟨_, rfl⟩
  have hf : form v = turn (form w) := by
    unfold form
    rw [if_pos (by omega), if_neg (by omega), hw]
  have hfp := form_pos w
  have hfl := form_le w (by omega) (by omega)
  repeat (first | (refine RS.put (v := .int .i64 (-v - 1)) rfl rfl (o_notI (Opd.tmp Look.here) hlo hhi) ?_) | refine stpS ?_)
  rw [← hw]
  refine RS.call rfl opds (putP_rf l w (by omega) (by omega) a m n0 n _ hO hm) (fun b hb => .inl hb) ?_
  rintro r n1 h1 hle ⟨a1, rfl, hO1, hX1, hn1⟩
  have hS1 : SlB h1 n1 a1 (l ++ form w) := OwnSl.slbE hO1
  obtain ⟨-, -, hhi1, hI1, hA1, -⟩ := hO1.facts (by omega)
  have hSI : SlI h1 a1 1 (m + (form w).length) := SlI.of hO1.slr (Ext.refl _ _)
  repeat' (first | refine stpS ?_ | (refine stp2 ?_ ?_ <;> intro _))
  rw [show m + (form w).length - (m : Int).toNat = (form w).length by omega]
  have e0 : l ++ form w = cur l (form w) 0 := by simp [cur, turn]
  rw [e0] at hO1
  have hTs : a1 ≠ none → inA a (sb a1) ∨ n ≤ sb a1 := fun q => hn1.elim (fun e => .inl (by subst e; exact ⟨q, rfl⟩)) .inr
  refine RC.loop ?_
  refine RL.inv (α := Nat) (fun i => [(20, .int .i64 (i : Nat)), (19, .int .i64 ((form w).length : Nat)), (0, .slice a1 (m + (form w).length) (m + (form w).length)), (5, .int .i64 m)])
    (fun i n2 h2 => i ≤ (form w).length ∧ n1 = n2 ∧ ExtX n a h h2 ∧ OwnSl h2 n0 n2 a1 1 (m + (form w).length) (bytesV (cur l (form w) i)))
    (fun i => (form w).length - i) 0 envs ⟨by omega, rfl, hX1, hO1⟩ ?_
  rintro i n2 h2 ⟨hi, rfl, hX2, hO2⟩
  have hS2 : SlB h2 n1 a1 (cur l (form w) i) := OwnSl.slbE hO2
  obtain ⟨hso, -, -, hI2, -, -⟩ := hO2.facts (by omega)
  have hcl := cur_length l (form w) i
  have hb : ((cur l (form w) i).getD ((m : Int) + (i : Int)).toNat 0).toNat < 256 := UInt8.toNat_lt _
  have hTs' := hTs (fun e => by
    rcases hA1 with ⟨-, k⟩ | k
    · omega
    · rw [e] at k; cases k)
  by_cases hlt : i < (form w).length
  · repeat' (first | refine stpS ?_ | (refine stp2 ?_ ?_ <;> intro _))
    have hset := hO2.set1 (i := m + i) (v := .int .u8 (((((((cur l (form w) i).getD (l.length + i) 0).toNat : Nat) : Int).toNat ^^^ (255 : Int).toNat : Nat) : Int))) (by omega) rfl
    have hcs := cur_succ l (form w) i hlt
    rw [← hml] at hcs hset
    rw [← hcs] at hset
    rw [show ((m : Int) + (i : Int)).toNat = m + i by omega]
    refine nextC.normal ⟨i + 1, by omega, envs, by omega, rfl, ?_, hset⟩
    exact ExtX.step hX2 (Ext.refl n1 _) (k := n) (a' := a1) (fun x hx hne => ⟨by simp [AH.app, Dl.sets], fun j => by
      rcases hne with e | e
      · exact absurd e (fun e => by
          rcases hA1 with ⟨-, k⟩ | k
          · omega
          · rw [e] at k; cases k)
      · simp [AH.app, Dl.sets, e]⟩) hle (Nat.le_refl _) hn1
  · repeat' (first | refine stpS ?_ | (refine stp2 ?_ ?_ <;> intro _))
    have e : i = (form w).length := by omega
    subst e
    have hl : (form v).length = (form w).length := by rw [hf, turn_length]
    refine ⟨a1, by rw [hl], ?_, hX2, hn1⟩
    rw [hl, hf]
    have e2 : cur l (form w) (form w).length = l ++ turn (form w) := by simp [cur]
    rw [e2] at hO2
    exact hO2
end Go.Proofs.YtfbddbpbifnhfaaDoor.Cd

/- Contracts taken from codec (written by port.py). -/
namespace Go.Proofs.YtfbddbpbifnhfaaDoor.Cd
open Go.Abs
set_option maxHeartbeats 4000000 in
theorem equal_ev (t u : List UInt8) (a b : Option Addr) (m k n : Nat) (h : AH) (S : SlB h n a t) (S2 : SlB h n b u) (e : m = t.length) (e2 : k = u.length) :
    Ev Tryd.prog none' 10 #[.slice a m m, .slice b k k] n h (.bool (decide (t = u))) n h := by
  subst e; subst e2
  refine RF.pure rfl fun n' hn => ?_
  have S := S.ext (Ext.refl n h) hn
  have S2 := S2.ext (Ext.refl n h) hn
  refine RF.of Tryd.func10 rfl rfl (Nat.le_of_ble_eq_true rfl) ?_; dsimp only [argEnv]
  have hba : ∀ x y : List UInt8, ((⟨x.toArray⟩ : ByteArray) = ⟨y.toArray⟩) ↔ x = y := by
    intro x y; constructor
    · intro q; injection q with q; simpa using congrArg Array.toList q
    · intro q; rw [q]
  repeat' (first | refine stpS ?_ | (refine stp2 ?_ ?_ <;> intro _))
  · rename_i q
    have := (hba _ _).1 q
    simp [this]
  · rename_i q
    have : ¬ t = u := fun h => q ((hba _ _).2 h)
    simp [this]
/-- An int that 64 bits hold. -/
def In64 (l : List Int) : Prop := ∀ v, v ∈ l → -9223372036854775808 ≤ v ∧ v < 9223372036854775808
theorem In64.at_ {l : List Int} (k : In64 l) (i : Nat) (hi : i < l.length) : -9223372036854775808 ≤ l.getD i 0 ∧ l.getD i 0 < 9223372036854775808 := by
  rw [List.getD_eq_getElem?_getD, List.getElem?_eq_getElem hi]
  exact k _ (List.getElem_mem hi)
def Row (l : List UInt8) (n : Nat) (h : AH) (r : Value) (n' : Nat) (h' : AH) : Prop :=
  ∃ a', r = .slice a' l.length l.length ∧ Ext n h h' ∧ OwnSl h' n n' a' 1 l.length (bytesV l)
end Go.Proofs.YtfbddbpbifnhfaaDoor.Cd

/- Contracts taken from codec (written by port.py). -/
namespace Go.Proofs.YtfbddbpbifnhfaaDoor.Cd
open Go.Abs Go.RowKit
theorem op_cap0 {P : Program} {T : Nat → Prop} {env : Env} {n : Nat} {g : AH} {dst : Option Tmp} {ty : TypeId} {pos : String} {after : Array Edge} {gd : Option (Nat × Bool)} {x : Operand} {t e : TypeId} [hu : Uc P t (.slice e)] (hx : Opd env x (.slice none 0 0)) :
    OpEv P T ⟨dst, .call { callee := .builtin .cap, args := #[x], argTypes := #[t] }, ty, pos, after, gd⟩ env n g (.int .i64 0) n .nil :=
  .calc fun ρ w ce h => by
    have h1 := h x (by simp [Op.operands, Call.operands]); rw [hx.ev] at h1
    have hr : (underlying t).run P w = .ok (.slice e) w := by simp [underlying, hu.out]
    generalize hc : ce x = cc at h1
    refine ⟨_, ?_, .int _ _⟩
    cases h1
    simp [execOp, resolve, invoke, builtin, Builtin.cap_, hr, hc, goInt]
theorem known_replicate (v : Value) (k : Nat) (h : known [v] = true) : known (List.replicate k v) = true := by
  induction k with
  | zero => rfl
  | succ k ih => rw [List.replicate_succ]; cases v <;> simp_all [known]
set_option maxHeartbeats 4000000 in
theorem grow_rf (k : Int) (h0 : 0 ≤ k) (hk : k ≤ 1099511627776) (n : Nat) (h : AH) :
    RF Tryd.prog none' 73 #[.slice none 0 0, .int .i64 k] n h (fun r n' h' => ∃ a', r = .slice a' 0 0 ∧ Ext n h h' ∧ OwnSl h' n n' a' 1 0 []) := by
  refine RF.of Tryd.func73 rfl rfl (Nat.le_of_ble_eq_true rfl) ?_; dsimp only [argEnv]
  repeat' (first | refine stpS ?_ | (refine stp2 ?_ ?_ <;> intro _))
  refine RS.put (v := .int .i64 0) rfl rfl (op_cap0 opd) ?_
  by_cases q : 0 < k
  · repeat' (first | refine stpS ?_ | (refine stp2 ?_ ?_ <;> intro _))
    refine RS.put (v := .int .i64 0) rfl rfl (op_cap0 opd) ?_
    have ek : k - (0 - ((0 : Nat) : Int)) = k := by omega
    repeat' (first | refine stpS ?_ | (refine stp2 ?_ ?_ <;> intro _))
    rw [ek]
    refine RS.put (v := .slice none 0 0) rfl rfl (op_sliceNil (lo := none) Uc.out Tc.out (Opd.ev opd) rfl ⟨_, Opd.ev opd⟩) ?_
    repeat' (first | refine stpS ?_ | (refine stp2 ?_ ?_ <;> intro _))
    refine RS.appendZT rfl opd opd (OwnSl.nil (h := h) (n0 := n) (z := 1) (Nat.le_refl n)) q (fun q => absurd rfl q) (by omega) (by show known (zrow [.int .u8 0] _) = true; rw [zrow_one]; exact known_replicate _ _ rfl) ?_
    intro a2 n2 h2 hle2 hO2 hX2 hnew
    repeat' (first | refine stpS ?_ | (refine stp2 ?_ ?_ <;> intro _))
    refine RS.sliceCut (u := 0) rfl opd opd hO2 (Nat.zero_le _) (fun q => .inr (hnew.resolve_left q)) ?_
    intro h3 hO3 hX3
    have hE2 := hX2.ext (OwnSl.nil (h := h) (n0 := n) (z := 1) (Nat.le_refl n))
    have hE3 := hX3.ext hO2
    repeat' (first | refine stpS ?_ | (refine stp2 ?_ ?_ <;> intro _))
    exact ⟨a2, rfl, ext, hO3⟩
  · repeat' (first | refine stpS ?_ | (refine stp2 ?_ ?_ <;> intro _))
    exact ⟨none, rfl, ext, OwnSl.nil (Nat.le_refl _)⟩
end Go.Proofs.YtfbddbpbifnhfaaDoor.Cd

/- Contracts taken from codec (written by port.py). -/
namespace Go.Proofs.YtfbddbpbifnhfaaDoor.Cd
open Go.Abs
def rowsF (ad : Nat → Option Addr) (ls : List (List UInt8)) : Nat → Value := fun j => .slice (ad j) (ls.getD j []).length (ls.getD j []).length
/-- A row of rows of bytes. -/
structure SlQ (h : AH) (n : Nat) (a : Option Addr) (ad : Nat → Option Addr) (ls : List (List UInt8)) : Prop where
  out : SlR h n a 1 ls.length (rowsF ad ls)
  row : ∀ j, j < ls.length → SlB h n (ad j) (ls.getD j [])
theorem SlQ.ext {h h1 : AH} {n n1 : Nat} {a : Option Addr} {ad : Nat → Option Addr} {ls : List (List UInt8)} (S : SlQ h n a ad ls) (E : Ext n h h1) (hn : n ≤ n1) : SlQ h1 n1 a ad ls :=
  ⟨S.out.ext E hn, fun j hj => (S.row j hj).ext E hn⟩
theorem flat_succ (ls : List (List UInt8)) (i : Nat) (hi : i < ls.length) : (ls.take (i + 1)).flatten = (ls.take i).flatten ++ ls.getD i [] := by
  rw [List.take_succ_eq_append_getElem hi, List.flatten_append]
  simp [List.getD, hi]
theorem flat_le (ls : List (List UInt8)) (i : Nat) : (ls.take i).flatten.length ≤ ls.flatten.length := by
  have : ls.flatten = (ls.take i).flatten ++ (ls.drop i).flatten := by rw [← List.flatten_append, List.take_append_drop]
  rw [this, List.length_append]; omega
set_option maxHeartbeats 4000000 in
theorem concat_rf (ls : List (List UInt8)) (ad : Nat → Option Addr) (a : Option Addr) (m n : Nat) (h : AH) (S : SlQ h n a ad ls) (e : m = ls.length) (hm : m ≤ 1099511627776) (ht : ls.flatten.length ≤ 1099511627776) :
    RF Tryd.prog none' 58 #[.slice a m m] n h (Row ls.flatten n h) := by
  subst e
  refine RF.of Tryd.func58 rfl rfl (Nat.le_of_ble_eq_true rfl) ?_; dsimp only [argEnv]
  repeat' (first | refine stpS ?_ | (refine stp2 ?_ ?_ <;> intro _))
  refine RC.loop ?_
  refine RL.inv (α := Nat) (fun i => [(11, .int .i64 (i : Nat)), (10, .int .i64 (ls.length : Nat)), (9, .slice a ls.length ls.length), (3, .int .i64 ((ls.take i).flatten.length : Nat)), (0, .slice a ls.length ls.length)])
    (fun i n1 h1 => i ≤ ls.length ∧ n1 = n ∧ h1 = h)
    (fun i => ls.length - i) 0 envs ⟨by omega, rfl, rfl⟩ ?_
  rintro i n1 h1 ⟨hi, rfl, rfl⟩
  have hfl := flat_le ls i
  have S1 := S.out
  by_cases hlt : i < ls.length
  · have hsu := flat_succ ls i hlt
    have hfl2 := flat_le ls (i + 1)
    rw [hsu, List.length_append] at hfl2
    have hfl3 : (ls.take i).flatten.length + (ls.getD (i : Int).toNat []).length ≤ ls.flatten.length := by rw [Int.toNat_natCast]; exact hfl2
    have hl : (ls.take (i + 1)).flatten.length = (ls.take i).flatten.length + (ls.getD (i : Int).toNat []).length := by rw [hsu, List.length_append, Int.toNat_natCast]
    repeat' (first | refine stpS ?_ | (refine stp2 ?_ ?_ <;> intro _))
    refine nextC.normal ⟨i + 1, by omega, ?_, by omega, rfl, rfl⟩
    rw [hl, Int.natCast_add]
    exact envs
  · have e : i = ls.length := by omega
    rw [e, List.take_of_length_le (Nat.le_refl _)]
    repeat' (first | refine stpS ?_ | (refine stp2 ?_ ?_ <;> intro _))
    refine RS.call rfl opds (grow_rf _ (by omega) (by omega) _ _) none'W ?_
    rintro r n2 h2 hle ⟨a2, rfl, hE2, hO2⟩
    repeat' (first | refine stpS ?_ | (refine stp2 ?_ ?_ <;> intro _))
    refine RC.loop ?_
    refine RL.inv (α := Nat × Option Addr) (fun s => [(27, .int .i64 (s.1 : Nat)), (26, .int .i64 (ls.length : Nat)), (25, .slice a ls.length ls.length), (6, .slice s.2 (ls.take s.1).flatten.length (ls.take s.1).flatten.length)])
      (fun s n3 h3 => s.1 ≤ ls.length ∧ n1 ≤ n3 ∧ Ext n1 h1 h3 ∧ OwnSl h3 n1 n3 s.2 1 (ls.take s.1).flatten.length (bytesV (ls.take s.1).flatten))
      (fun s => ls.length - s.1) (0, a2) envs ⟨by omega, by omega, hE2, hO2⟩ ?_
    rintro ⟨j, a3⟩ n3 h3 ⟨hj, hn3, hE3, hO3⟩
    dsimp only at hj hn3 hE3 hO3 ⊢
    have S3 := S.ext hE3 hn3
    have S3o := S3.out
    by_cases hlt2 : j < ls.length
    · have hsu := flat_succ ls j hlt2
      have hfl2 := flat_le ls (j + 1)
      rw [hsu, List.length_append] at hfl2
      repeat' (first | refine stpS ?_ | (refine stp2 ?_ ?_ <;> intro _))
      rw [show (j : Int).toNat = j by omega]
      rw [show rowsF ad ls j = .slice (ad j) (ls.getD j []).length (ls.getD j []).length from rfl]
      refine RS.append rfl opd opd hO3 (SlB.src (S3.row j hlt2)) full_slice (fun b hb => Or.inr (by omega)) (by omega) ?_
      intro a4 n4 h4 hle4 hO4 hX4 hnew4
      have hE4 := hX4.ext hO3
      rw [← bytesV_app, ← List.length_append, ← hsu] at hO4
      rw [← List.length_append, ← hsu]
      repeat' (first | refine stpS ?_ | (refine stp2 ?_ ?_ <;> intro _))
      exact nextC.normal ⟨(j + 1, a4), by dsimp only; omega, envs, by dsimp only; omega, by omega, ext, hO4⟩
    · repeat' (first | refine stpS ?_ | (refine stp2 ?_ ?_ <;> intro _))
      have e : j = ls.length := by omega
      rw [e, List.take_of_length_le (Nat.le_refl _)] at hO3 ⊢
      exact ⟨a3, rfl, ext, hO3⟩
end Go.Proofs.YtfbddbpbifnhfaaDoor.Cd

/- Contracts taken from codec (written by port.py). -/
namespace Go.Proofs.YtfbddbpbifnhfaaDoor.Cd
open Go.Abs
def step (c : Nat) : Nat := if c % 2 = 1 then (c / 2) ^^^ 2197175160 else c / 2
def stepN : Nat → Nat → Nat
  | 0, c => c
  | k + 1, c => step (stepN k c)
def byteStep (c : Nat) (b : UInt8) : Nat := stepN 8 (c ^^^ b.toNat)
def crcR (l : List UInt8) : Nat := l.foldl byteStep 4294967295
def crc (l : List UInt8) : Nat := 4294967295 - crcR l
theorem step_lt {c : Nat} (h : c < 4294967296) : step c < 4294967296 := by
  unfold step
  split
  · exact Nat.xor_lt_two_pow (n := 32) (by omega) (by omega)
  · omega
theorem stepN_lt {c : Nat} (h : c < 4294967296) (k : Nat) : stepN k c < 4294967296 := by
  induction k with
  | zero => exact h
  | succ k ih => exact step_lt ih
theorem xor_lt {c d : Nat} (h : c < 4294967296) (g : d < 4294967296) : c ^^^ d < 4294967296 := Nat.xor_lt_two_pow (n := 32) h g
theorem byteStep_lt {c : Nat} (h : c < 4294967296) (b : UInt8) : byteStep c b < 4294967296 := stepN_lt (xor_lt h (by have := b.toNat_lt; omega)) 8
theorem foldl_lt (l : List UInt8) : ∀ c, c < 4294967296 → l.foldl byteStep c < 4294967296 := by
  induction l with
  | nil => exact fun c h => h
  | cons b l ih => exact fun c h => ih _ (byteStep_lt h b)
theorem crcR_lt (l : List UInt8) : crcR l < 4294967296 := foldl_lt l _ (by omega)
theorem crcR_succ (l : List UInt8) (i : Nat) (hi : i < l.length) : crcR (l.take (i + 1)) = byteStep (crcR (l.take i)) (l.getD i 0) := by
  unfold crcR
  rw [List.take_succ_eq_append_getElem hi, List.foldl_append]
  simp [List.getD, hi]
set_option maxHeartbeats 4000000 in
theorem refSum_ev (l : List UInt8) (a : Option Addr) (m n : Nat) (h : AH) (S : SlB h n a l) (e : m = l.length) (hm : m ≤ 1099511627776) :
    Ev Tryd.prog none' 34 #[.slice a m m] n h (.int .u32 (crc l : Nat)) n h := by
  subst e
  refine RF.pure rfl fun n' hn => ?_
  have S := S.ext (Ext.refl n h) hn
  refine RF.of Tryd.func34 rfl rfl (Nat.le_of_ble_eq_true rfl) ?_; dsimp only [argEnv]
  repeat' (first | refine stpS ?_ | (refine stp2 ?_ ?_ <;> intro _))
  refine RC.loop ?_
  refine RL.inv (α := Nat) (fun i => [(4, .int .i64 (i : Nat)), (3, .int .u32 (crcR (l.take i) : Nat)), (0, .slice a l.length l.length)])
    (fun i n1 h1 => i ≤ l.length ∧ n1 = n' ∧ h1 = h)
    (fun i => l.length - i) 0 envs ⟨by omega, rfl, rfl⟩ ?_
  rintro i n1 h1 ⟨hi, rfl, rfl⟩
  have hc := crcR_lt (l.take i)
  by_cases hlt : i < l.length
  · have hsu := crcR_succ l i hlt
    have hb : (l.getD (i : Int).toNat 0).toNat < 256 := UInt8.toNat_lt _
    repeat' (first | refine stpS ?_ | (refine stp2 ?_ ?_ <;> intro _))
    simp only [Int.toNat_natCast]
    obtain ⟨c0, hc0⟩ : ∃ c0, c0 = crcR (l.take i) ^^^ (l.getD i 0).toNat := ⟨_, rfl⟩
    have hc0l : c0 < 4294967296 := by rw [hc0]; exact xor_lt hc (by have := (l.getD i 0).toNat_lt; omega)
    have hby : crcR (l.take (i + 1)) = stepN 8 c0 := by rw [hsu, hc0]; rfl
    rw [← hc0]
    refine RC.loop ?_
    refine RL.inv (α := Nat) (fun k => [(5, .int .i64 (k : Nat)), (3, .int .u32 (stepN k c0 : Nat)), (4, .int .i64 (i : Nat)), (0, .slice a l.length l.length)])
      (fun k n2 h2 => k ≤ 8 ∧ n2 = n1 ∧ h2 = h1)
      (fun k => 8 - k) 0 envs ⟨by omega, rfl, rfl⟩ ?_
    rintro k n2 h2 ⟨hk, rfl, rfl⟩
    have hsl := stepN_lt hc0l k
    have hst : stepN (k + 1) c0 = step (stepN k c0) := rfl
    unfold step at hst
    by_cases hk8 : k < 8
    · by_cases hodd : stepN k c0 % 2 = 1
      · rw [if_pos hodd] at hst
        repeat' (first | refine stpS ?_ | (refine stp2 ?_ ?_ <;> intro _))
        rw [show ((stepN k c0 : Int) / 2).toNat = stepN k c0 / 2 by omega, show Int.toNat 2197175160 = 2197175160 from rfl, ← hst]
        exact nextC.normal ⟨k + 1, by omega, envs, by omega, rfl, rfl⟩
      · rw [if_neg hodd] at hst
        repeat' (first | refine stpS ?_ | (refine stp2 ?_ ?_ <;> intro _))
        refine nextC.normal ⟨k + 1, by omega, ?_, by omega, rfl, rfl⟩
        rw [hst, Int.natCast_ediv]
        exact envs
    · obtain rfl : k = 8 := by omega
      rw [← hby]
      repeat' (first | refine stpS ?_ | (refine stp2 ?_ ?_ <;> intro _))
      exact nextC.normal ⟨i + 1, by omega, envs, by omega, rfl, rfl⟩
  · obtain rfl : i = l.length := by omega
    rw [List.take_of_length_le (Nat.le_refl _)] at hc ⊢
    repeat' (first | refine stpS ?_ | (refine stp2 ?_ ?_ <;> intro _))
    exact congrArg (Value.int .u32) (by unfold crc; omega)
end Go.Proofs.YtfbddbpbifnhfaaDoor.Cd

/- Contracts taken from codec (written by port.py). -/
namespace Go.Proofs.YtfbddbpbifnhfaaDoor.Cd
open Go.Abs
theorem step_xor (a b : Nat) : step (a ^^^ b) = step a ^^^ step b := by
  unfold step
  have h1 : (a ^^^ b) / 2 = a / 2 ^^^ b / 2 := Nat.xor_div_two
  have h2 : (a ^^^ b) % 2 = a % 2 ^^^ b % 2 := Nat.xor_mod_two_pow (n := 1)
  rw [h1]
  rcases Nat.mod_two_eq_zero_or_one a with ha | ha <;> rcases Nat.mod_two_eq_zero_or_one b with hb | hb <;> rw [ha, hb] at h2 <;> simp only [h2, ha, hb]
  · rfl
  · simp [Nat.xor_assoc]
  · simp only [show (1 ^^^ 0 : Nat) = 1 from rfl, if_true, show ¬ (0 : Nat) = 1 by omega, if_false]
    rw [Nat.xor_assoc, Nat.xor_assoc, Nat.xor_comm (b / 2)]
  · simp only [show ¬ (1 ^^^ 1 : Nat) = 1 by decide, if_true, if_false]
    rw [Nat.xor_assoc, ← Nat.xor_assoc 2197175160, Nat.xor_comm 2197175160 (b / 2), Nat.xor_assoc (b / 2), Nat.xor_self, Nat.xor_zero]
theorem step_even (a : Nat) : step (2 * a) = a := by
  unfold step
  rw [if_neg (by omega)]; omega
theorem step_nz {c : Nat} (h : c < 4294967296) (h0 : c ≠ 0) : step c ≠ 0 := by
  unfold step
  split
  · intro e
    have h1 : c / 2 < 2 ^ 31 := by omega
    have h2 : (c / 2 ^^^ 2197175160).testBit 31 = true := by
      rw [Nat.testBit_xor, Nat.testBit_lt_two_pow h1]; decide
    rw [e] at h2
    simp at h2
  · omega
theorem stepN_nz {c : Nat} (h : c < 4294967296) (h0 : c ≠ 0) (k : Nat) : stepN k c ≠ 0 := by
  induction k with
  | zero => exact h0
  | succ k ih => exact step_nz (stepN_lt h k) ih
theorem stepN_zero (k : Nat) : stepN k 0 = 0 := by
  induction k with
  | zero => rfl
  | succ k ih => show step (stepN k 0) = 0; rw [ih]; rfl
theorem stepN_succ' (k c : Nat) : stepN (k + 1) c = stepN k (step c) := by
  induction k with
  | zero => rfl
  | succ k ih => show step (stepN (k + 1) c) = step (stepN k (step c)); rw [ih]
theorem stepN_xor (k a b : Nat) : stepN k (a ^^^ b) = stepN k a ^^^ stepN k b := by
  induction k with
  | zero => rfl
  | succ k ih => show step (stepN k (a ^^^ b)) = step (stepN k a) ^^^ step (stepN k b); rw [ih, step_xor]
/-- Bits, the least first. -/
def bitsF (w : List Nat) (c : Nat) : Nat := w.foldl (fun c x => step (c ^^^ x)) c
def valB : List Nat → Nat
  | [] => 0
  | x :: w => x + 2 * valB w
def Bit (w : List Nat) : Prop := ∀ x, x ∈ w → x < 2
theorem Bit.tail {x : Nat} {w : List Nat} (h : Bit (x :: w)) : Bit w := fun y hy => h y (List.mem_cons_of_mem _ hy)
theorem add_xor {x v : Nat} (h : x < 2) : x + 2 * v = x ^^^ 2 * v := by
  have := Nat.two_pow_add_eq_or_of_lt (i := 1) (b := x) (by omega) v
  apply Nat.eq_of_testBit_eq
  intro i
  cases i with
  | zero =>
    rw [Nat.testBit_xor]
    simp only [Nat.testBit_zero]
    rcases (show x = 0 ∨ x = 1 by omega) with rfl | rfl
    · simp
    · have : (1 + 2 * v) % 2 = 1 := by omega
      have : 2 * v % 2 = 0 := by omega
      simp [*]
  | succ i =>
    rw [Nat.testBit_xor]
    simp only [Nat.testBit_succ]
    have h1 : (x + 2 * v) / 2 = v := by omega
    have h2 : x / 2 = 0 := by omega
    have h3 : 2 * v / 2 = v := by omega
    rw [h1, h2, h3]; simp
theorem bitsF_val : ∀ (w : List Nat) (c : Nat), Bit w → bitsF w c = stepN w.length (c ^^^ valB w)
  | [], c, _ => by simp [bitsF, valB, stepN]
  | x :: w, c, h => by
    have ih := bitsF_val w (step (c ^^^ x)) h.tail
    show bitsF w (step (c ^^^ x)) = stepN (w.length + 1) (c ^^^ valB (x :: w))
    rw [ih, stepN_succ']
    congr 1
    show _ = step (c ^^^ (x + 2 * valB w))
    rw [add_xor (h x (.head _)), ← Nat.xor_assoc, step_xor (c ^^^ x), step_even]
def bitsB (b : UInt8) : List Nat := (List.range 8).map fun i => b.toNat / 2 ^ i % 2
theorem bitsB_val (b : UInt8) : valB (bitsB b) = b.toNat := by
  have hb := b.toNat_lt
  simp [bitsB, List.range_succ, valB]
  omega
theorem bitsB_bit (b : UInt8) : Bit (bitsB b) := fun x hx => by
  obtain ⟨i, -, rfl⟩ := List.mem_map.1 hx
  exact Nat.mod_lt _ (by omega)
theorem bitsB_length (b : UInt8) : (bitsB b).length = 8 := by simp [bitsB]
def bitsL (l : List UInt8) : List Nat := l.flatMap bitsB
theorem bitsL_bit (l : List UInt8) : Bit (bitsL l) := fun x hx => by
  obtain ⟨b, -, hb⟩ := List.mem_flatMap.1 hx
  exact bitsB_bit b x hb
theorem byteStep_bits (c : Nat) (b : UInt8) : byteStep c b = bitsF (bitsB b) c := by
  rw [bitsF_val _ _ (bitsB_bit b), bitsB_length, bitsB_val]; rfl
theorem fold_bits (l : List UInt8) : ∀ c, l.foldl byteStep c = bitsF (bitsL l) c := by
  induction l with
  | nil => intro c; rfl
  | cons b l ih =>
    intro c
    show l.foldl byteStep (byteStep c b) = _
    rw [ih, byteStep_bits]
    show _ = bitsF (bitsB b ++ bitsL l) c
    unfold bitsF
    rw [List.foldl_append]
/-- Bytes, held against each other bit by bit. -/
def xorL (l m : List UInt8) : List UInt8 := List.zipWith (· ^^^ ·) l m
theorem byteStep_xor (c d : Nat) (a b : UInt8) : byteStep (c ^^^ d) (a ^^^ b) = byteStep c a ^^^ byteStep d b := by
  unfold byteStep
  rw [← stepN_xor, UInt8.toNat_xor]
  congr 1
  rw [Nat.xor_assoc, Nat.xor_assoc, ← Nat.xor_assoc d, Nat.xor_comm d, Nat.xor_assoc a.toNat]
theorem fold_xor : ∀ (l e : List UInt8) (c d : Nat), l.length = e.length → (xorL l e).foldl byteStep (c ^^^ d) = l.foldl byteStep c ^^^ e.foldl byteStep d
  | [], [], c, d, _ => rfl
  | a :: l, b :: e, c, d, h => by
    show (xorL l e).foldl byteStep (byteStep (c ^^^ d) (a ^^^ b)) = l.foldl byteStep (byteStep c a) ^^^ e.foldl byteStep (byteStep d b)
    rw [byteStep_xor]
    exact fold_xor l e _ _ (by simpa using h)
  | [], _ :: _, _, _, h => by simp at h
  | _ :: _, [], _, _, h => by simp at h
theorem crcR_xor (l e : List UInt8) (h : l.length = e.length) : crcR (xorL l e) = crcR l ^^^ e.foldl byteStep 0 := by
  have := fold_xor l e 4294967295 0 h
  rw [Nat.xor_zero] at this
  exact this
/-- All bits that are set lie within 32. -/
def Burst (e : List UInt8) (s : Nat) : Prop := ∀ k, (bitsL e).getD k 0 ≠ 0 → s ≤ k ∧ k < s + 32
theorem valB_lt : ∀ (w : List Nat), Bit w → valB w < 2 ^ w.length
  | [], _ => by simp [valB]
  | x :: w, h => by
    have := valB_lt w h.tail
    have := h x (.head _)
    show x + 2 * valB w < 2 ^ (w.length + 1)
    rw [Nat.pow_succ]; omega
theorem valB_zero : ∀ (w : List Nat), (∀ k, w.getD k 0 = 0) → valB w = 0
  | [], _ => rfl
  | x :: w, h => by
    have h0 := h 0
    have := valB_zero w fun k => by simpa using h (k + 1)
    have h0 : x = 0 := by simpa using h0
    show x + 2 * valB w = 0
    omega
theorem valB_nz : ∀ (w : List Nat) (k : Nat), w.getD k 0 ≠ 0 → valB w ≠ 0
  | [], k, h => absurd (by simp) h
  | x :: w, 0, h => by
    have h : x ≠ 0 := by simpa using h
    show x + 2 * valB w ≠ 0
    omega
  | x :: w, k + 1, h => by
    have := valB_nz w k (by simpa using h)
    show x + 2 * valB w ≠ 0
    omega
theorem Bit.sub {w v : List Nat} (h : Bit w) (hs : ∀ x, x ∈ v → x ∈ w) : Bit v := fun x hx => h x (hs x hx)
theorem bitsF_app (v w : List Nat) (c : Nat) : bitsF (v ++ w) c = bitsF w (bitsF v c) := by unfold bitsF; rw [List.foldl_append]
theorem burst_nz {e : List UInt8} {s k : Nat} (h : Burst e s) (hk : (bitsL e).getD k 0 ≠ 0) : e.foldl byteStep 0 ≠ 0 := by
  obtain ⟨hk1, hk2⟩ := h k hk
  rw [fold_bits]
  have hb := bitsL_bit e
  obtain ⟨B, hB⟩ : ∃ B, B = bitsL e := ⟨_, rfl⟩
  have h' : ∀ k, B.getD k 0 ≠ 0 → s ≤ k ∧ k < s + 32 := fun k q => h k (hB ▸ q)
  rw [← hB] at hk hb ⊢
  have e1 : B = B.take s ++ ((B.drop s).take 32 ++ (B.drop s).drop 32) := by rw [List.take_append_drop, List.take_append_drop]
  have g1 : ∀ j, (B.take s).getD j 0 = 0 := fun j => by
    rw [List.getD_eq_getElem?_getD, List.getElem?_take]
    split
    · rename_i q
      rw [← List.getD_eq_getElem?_getD]
      by_cases z : B.getD j 0 = 0
      · exact z
      · have := h' j z; omega
    · rfl
  have g3 : ∀ j, ((B.drop s).drop 32).getD j 0 = 0 := fun j => by
    rw [List.drop_drop, List.getD_eq_getElem?_getD, List.getElem?_drop, ← List.getD_eq_getElem?_getD]
    by_cases z : B.getD (s + 32 + j) 0 = 0
    · exact z
    · have := h' _ z; omega
  have g2 : ((B.drop s).take 32).getD (k - s) 0 ≠ 0 := by
    rw [List.getD_eq_getElem?_getD, List.getElem?_take, if_pos (by omega), List.getElem?_drop, ← List.getD_eq_getElem?_getD, show s + (k - s) = k by omega]
    exact hk
  have b1 : Bit (B.take s) := hb.sub fun x hx => List.mem_of_mem_take hx
  have b2 : Bit ((B.drop s).take 32) := hb.sub fun x hx => List.mem_of_mem_drop (List.mem_of_mem_take hx)
  have b3 : Bit ((B.drop s).drop 32) := hb.sub fun x hx => List.mem_of_mem_drop (List.mem_of_mem_drop hx)
  rw [e1, bitsF_app, bitsF_app, bitsF_val _ _ b1, valB_zero _ g1, Nat.xor_self, stepN_zero, bitsF_val _ _ b2, Nat.zero_xor, bitsF_val _ _ b3, valB_zero _ g3, Nat.xor_zero]
  have hv := valB_lt _ b2
  have hl : ((B.drop s).take 32).length ≤ 32 := by rw [List.length_take]; omega
  have hp : 2 ^ ((B.drop s).take 32).length ≤ 2 ^ 32 := Nat.pow_le_pow_right (by omega) hl
  have hv32 : valB ((B.drop s).take 32) < 4294967296 := by omega
  exact stepN_nz (stepN_lt hv32 _) (stepN_nz hv32 (valB_nz _ _ g2) _) _
end Go.Proofs.YtfbddbpbifnhfaaDoor.Cd

/- Contracts taken from codec (written by port.py). -/
namespace Go.Proofs.YtfbddbpbifnhfaaDoor.Cd
open Go.Abs
set_option maxHeartbeats 4000000 in
theorem sum_ev (ls : List (List UInt8)) (ad : Nat → Option Addr) (a : Option Addr) (m n : Nat) (h : AH) (S : SlQ h n a ad ls) (e : m = ls.length) (hm : m ≤ 1099511627776) (ht : ls.flatten.length ≤ 1099511627776) :
    Ev Tryd.prog none' 31 #[.slice a m m] n h (.int .u32 (crc ls.flatten : Nat)) n h := by
  subst e
  refine RF.pure rfl fun n' hn => ?_
  have S := S.ext (Ext.refl n h) hn
  refine RF.of Tryd.func31 rfl rfl (Nat.le_of_ble_eq_true rfl) ?_; dsimp only [argEnv]
  repeat' (first | refine stpS ?_ | (refine stp2 ?_ ?_ <;> intro _))
  refine RS.call rfl opds (concat_rf ls ad a _ _ _ S rfl hm ht) none'W ?_
  rintro r n1 h1 hle ⟨a1, rfl, hE1, hO1⟩
  generalize ls.flatten = l at *
  have S1 : SlB h1 n1 a1 l := OwnSl.slbE hO1
  repeat' (first | refine stpS ?_ | (refine stp2 ?_ ?_ <;> intro _))
  refine RC.loop ?_
  refine RL.inv (α := Nat) (fun i => [(9, .int .i64 (i : Nat)), (8, .int .i64 (l.length : Nat)), (7, .slice a1 l.length l.length), (3, .int .u32 (crcR (l.take i) : Nat))])
    (fun i n2 h2 => i ≤ l.length ∧ n2 = n1 ∧ h2 = h1)
    (fun i => l.length - i) 0 envs ⟨by omega, rfl, rfl⟩ ?_
  rintro i n2 h2 ⟨hi, rfl, rfl⟩
  have hc := crcR_lt (l.take i)
  by_cases hlt : i < l.length
  · have hsu := crcR_succ l i hlt
    have hb : (l.getD (i : Int).toNat 0).toNat < 256 := UInt8.toNat_lt _
    repeat' (first | refine stpS ?_ | (refine stp2 ?_ ?_ <;> intro _))
    simp only [Int.toNat_natCast]
    obtain ⟨c0, hc0⟩ : ∃ c0, c0 = crcR (l.take i) ^^^ (l.getD i 0).toNat := ⟨_, rfl⟩
    have hc0l : c0 < 4294967296 := by rw [hc0]; exact xor_lt hc (by have := (l.getD i 0).toNat_lt; omega)
    have hby : crcR (l.take (i + 1)) = stepN 8 c0 := by rw [hsu, hc0]; rfl
    rw [← hc0]
    refine RC.loop ?_
    refine RL.inv (α := Nat) (fun k => [(17, .int .i64 (k : Nat)), (3, .int .u32 (stepN k c0 : Nat)), (9, .int .i64 (i : Nat)), (8, .int .i64 (l.length : Nat)), (7, .slice a1 l.length l.length)])
      (fun k n3 h3 => k ≤ 8 ∧ n3 = n2 ∧ h3 = h2)
      (fun k => 8 - k) 0 envs ⟨by omega, rfl, rfl⟩ ?_
    rintro k n3 h3 ⟨hk, rfl, rfl⟩
    have hsl := stepN_lt hc0l k
    have hst : stepN (k + 1) c0 = step (stepN k c0) := rfl
    unfold step at hst
    by_cases hk8 : k < 8
    · iterate 40 (try refine stpS ?_)
      by_cases hodd : stepN k c0 % 2 = 1
      · rw [if_pos hodd] at hst
        have hw : IntKind.u32.wrap (0 - (stepN k c0 : Int) % 2) = 4294967295 := by
          rw [show (stepN k c0 : Int) % 2 = 1 by omega]; rfl
        rw [hw]
        repeat' (first | refine stpS ?_ | (refine stp2 ?_ ?_ <;> intro _))
        rw [show ((stepN k c0 : Int) / 2).toNat = stepN k c0 / 2 by omega, show ((2197175160 : Int) % 4294967296).toNat = 2197175160 from rfl, ← hst]
        exact nextC.normal ⟨k + 1, by omega, envs, by omega, rfl, rfl⟩
      · rw [if_neg hodd] at hst
        have hw : IntKind.u32.wrap (0 - (stepN k c0 : Int) % 2) = 0 := by
          rw [show (stepN k c0 : Int) % 2 = 0 by omega]; rfl
        rw [hw]
        repeat' (first | refine stpS ?_ | (refine stp2 ?_ ?_ <;> intro _))
        rw [show ((stepN k c0 : Int) / 2).toNat = stepN k c0 / 2 by omega, show ((2197175160 : Int) % 1).toNat = 0 from rfl, Nat.xor_zero, ← hst]
        exact nextC.normal ⟨k + 1, by omega, envs, by omega, rfl, rfl⟩
    · obtain rfl : k = 8 := by omega
      rw [← hby]
      repeat' (first | refine stpS ?_ | (refine stp2 ?_ ?_ <;> intro _))
      exact nextC.normal ⟨i + 1, by omega, envs, by omega, rfl, rfl⟩
  · obtain rfl : i = l.length := by omega
    rw [List.take_of_length_le (Nat.le_refl _)] at hc ⊢
    repeat' (first | refine stpS ?_ | (refine stp2 ?_ ?_ <;> intro _))
    exact congrArg (Value.int .u32) (by unfold crc; omega)
end Go.Proofs.YtfbddbpbifnhfaaDoor.Cd

/- Contracts taken from codec (written by port.py). -/
namespace Go.Proofs.YtfbddbpbifnhfaaDoor.Cd
open Go.Abs
/-- A writer that a call made: the block w, its bytes b at a. -/
structure WrR (h : AH) (n0 n w : Nat) (a : Option Addr) (b : List UInt8) : Prop where
  lo : n0 ≤ w
  hi : w < n
  inf : h.info w = some ⟨2, 0, true, 0⟩
  made : h.cell w 0 = .bool true
  sl : h.cell w 1 = .slice a b.length b.length
  own : OwnSl h n0 n a 1 b.length (bytesV b)
  ne : a = none ∨ sb a ≠ w
  le : b.length ≤ 1048576
def inW (w : Nat) (a : Option Addr) (x : Nat) : Prop := x = w ∨ inA a x
set_option maxHeartbeats 4000000 in
theorem newWriter_rf (n : Nat) (h : AH) : RF Tryd.prog none' 43 #[] n h (fun r n' h' => r = .pointer (some ⟨n, 0, none⟩) ∧ Ext n h h' ∧ WrR h' n n' n none []) := by
  refine RF.of Tryd.func43 rfl rfl (Nat.le_of_ble_eq_true rfl) ?_; dsimp only [argEnv]
  repeat' (first | refine stpS ?_ | (refine stp2 ?_ ?_ <;> intro _))
  exact ⟨rfl, ext, ⟨Nat.le_refl _, by omega, info, cell, cell, OwnSl.nil (by omega), .inl rfl, by simp⟩⟩
set_option maxHeartbeats 4000000 in
theorem more_rf (w : Nat) (a c : Option Addr) (b x : List UInt8) (m n0 n : Nat) (h : AH) (R : WrR h n0 n w a b) (S : SlB h n c x) (e : m = x.length) (hm : m ≤ 1099511627776) :
    RF Tryd.prog (inW w a) 69 #[.pointer (some ⟨w, 0, none⟩), .slice c m m] n h (fun r n' h' => ∃ a', r = .int .i64 (if x.length + b.length ≤ 1048576 then 0 else 3) ∧
      WrR h' n0 n' w a' (if x.length + b.length ≤ 1048576 then b ++ x else b) ∧ ExtW (inW w a) n h h' ∧ (a' = a ∨ n ≤ sb a')) := by
  subst e
  refine RF.of Tryd.func69 rfl rfl (Nat.le_of_ble_eq_true rfl) ?_; dsimp only [argEnv]
  obtain ⟨hlo, hhi, hinf, hmade, hsl, hown, hne, hle⟩ := R
  have hT : inW w a w ∨ n ≤ w := .inl (.inl rfl)
  by_cases q : x.length + b.length ≤ 1048576
  · rw [if_pos q, if_pos q]
    repeat' (first | refine stpS ?_ | (refine stp2 ?_ ?_ <;> intro _))
    refine RS.appendT rfl opd opd hown (SlB.src S) full_slice (fun q => .inl (.inr ⟨q, rfl⟩)) (by omega) ?_
    intro a2 n2 h2 hle2 hO2 hX hnew
    have hne' : a = none ∨ w ≠ sb a := hne.imp_right Ne.symm
    have hinf2 : h2.info w = some ⟨2, 0, true, 0⟩ := (hX w hhi hne').1.trans hinf
    have hmade2 : h2.cell w 0 = .bool true := ((hX w hhi hne').2 0).trans hmade
    have hne2 : a2 = none ∨ sb a2 ≠ w := by
      rcases hnew with k | k
      · rw [k]; exact hne
      · exact .inr (by omega)
    have hwn2 : w < n2 := by omega
    repeat' (first | refine stpS ?_ | (refine stp2 ?_ ?_ <;> intro _))
    refine ⟨a2, rfl, ⟨hlo, hwn2, ?_, ?_, ?_, ?_, hne2, by rw [List.length_append]; omega⟩, ?_, hnew⟩
    · rw [sets_info]; exact hinf2
    · exact cell
    · rw [List.length_append]; exact cell
    · rw [List.length_append, bytesV_app]
      exact hO2.setsN hne2
    · refine ⟨fun k hk hW => ?_, fun k i hk hW => ?_⟩
      · rw [sets_info]
        exact (hX k hk (by
          by_cases e : a = none
          · exact .inl e
          · exact .inr fun e2 => hW (.inr ⟨e, e2⟩))).1
      · rw [c_out (.inl fun e => hW (.inl e)) rfl]
        exact (hX k hk (by
          by_cases e : a = none
          · exact .inl e
          · exact .inr fun e2 => hW (.inr ⟨e, e2⟩))).2 i
  · rw [if_neg q, if_neg q]
    repeat' (first | refine stpS ?_ | (refine stp2 ?_ ?_ <;> intro _))
    exact ⟨a, rfl, ⟨hlo, hhi, hinf, hmade, hsl, hown, hne, hle⟩, ExtW.refl _ _ _, .inl rfl⟩
end Go.Proofs.YtfbddbpbifnhfaaDoor.Cd

/- Contracts taken from codec (written by port.py). -/
namespace Go.Proofs.YtfbddbpbifnhfaaDoor.Cd
open Go.Abs
theorem WrR.ext {h h1 : AH} {n0 n n1 w : Nat} {a : Option Addr} {b : List UInt8} (R : WrR h n0 n w a b) (E : Ext n h h1) (hn : n ≤ n1) : WrR h1 n0 n1 w a b :=
  ⟨R.lo, Nat.lt_of_lt_of_le R.hi hn, (E.info w R.hi).trans R.inf, (E.cell w 0 R.hi).trans R.made, (E.cell w 1 R.hi).trans R.sl, R.own.ext E hn, R.ne, R.le⟩
/-- x is put at a writer's end, or does not fit. -/
def WrTo (w : Nat) (a : Option Addr) (b x : List UInt8) (n0 n : Nat) (h : AH) (r : Value) (n' : Nat) (h' : AH) : Prop :=
  ∃ a', r = .int .i64 (if x.length + b.length ≤ 1048576 then 0 else 3) ∧ WrR h' n0 n' w a' (if x.length + b.length ≤ 1048576 then b ++ x else b) ∧ ExtW (inW w a) n h h' ∧ (a' = a ∨ n ≤ sb a')
set_option maxHeartbeats 4000000 in
theorem wInt_rf (w : Nat) (a : Option Addr) (b : List UInt8) (v : Int) (hlo : -9223372036854775808 ≤ v) (hhi : v < 9223372036854775808) (n0 n : Nat) (h : AH) (R : WrR h n0 n w a b) :
    RF Tryd.prog (inW w a) 44 #[.pointer (some ⟨w, 0, none⟩), .int .i64 v] n h (WrTo w a b (form v) n0 n h) := by
  refine RF.of Tryd.func44 rfl rfl (Nat.le_of_ble_eq_true rfl) ?_; dsimp only [argEnv]
  have hfl := form_le v hlo hhi
  repeat' (first | refine stpS ?_ | (refine stp2 ?_ ?_ <;> intro _))
  refine RS.call rfl opds (put_rf [] v hlo hhi none 0 n n h (OwnSl.nil (Nat.le_refl _)) (by omega)) (fun b hb => absurd rfl hb.1) ?_
  rintro r n1 h1 hle ⟨c, rfl, hO, hX, -⟩
  have hE : Ext n h h1 := ⟨fun k hk => (hX k hk (.inl rfl)).1, fun k i hk => (hX k hk (.inl rfl)).2 i⟩
  have S : SlB h1 n1 c (form v) := OwnSl.slbE (m := 0 + (form v).length) hO
  have R1 := R.ext hE hle
  have hmore := more_rf w a c b (form v) (0 + (form v).length) n0 n1 h1 R1 S (by omega) (by omega)
  refine RS.call rfl opds hmore (fun x hx => .inl hx) ?_
  rintro r n2 h2 hle2 ⟨a', rfl, hR2, hX2, hw2⟩
  repeat' (first | refine stpS ?_ | (refine stp2 ?_ ?_ <;> intro _))
  exact ⟨a', rfl, hR2, hX2.via hle (fun _ _ k => k) (ExtW.of hE (Nat.le_refl _)), hw2.imp_right fun k => by omega⟩
end Go.Proofs.YtfbddbpbifnhfaaDoor.Cd

/- Contracts taken from codec (written by port.py). -/
namespace Go.Proofs.YtfbddbpbifnhfaaDoor.Cd
open Go.Abs
set_option maxHeartbeats 4000000 in
theorem clone_rf (l : List UInt8) (a : Option Addr) (m n : Nat) (h : AH) (S : SlB h n a l) (e : m = l.length) (hm : m ≤ 1099511627776) :
    RF Tryd.prog none' 11 #[.slice a m m] n h (fun r n' h' => ∃ a', r = .slice a' m m ∧ Ext n h h' ∧ OwnSl h' n n' a' 1 m (bytesV l)) := by
  subst e
  refine RF.of Tryd.func11 rfl rfl (Nat.le_of_ble_eq_true rfl) ?_; dsimp only [argEnv]
  rcases S.two with ⟨ha, hl⟩ | ⟨b, o, ha⟩
  · have : l = [] := List.eq_nil_of_length_eq_zero hl
    subst this; subst ha
    repeat' (first | refine stpS ?_ | (refine stp2 ?_ ?_ <;> intro _))
    exact ⟨none, rfl, ext, OwnSl.nil (by omega)⟩
  · subst ha
    repeat' (first | refine stpS ?_ | (refine stp2 ?_ ?_ <;> intro _))
    refine RS.append rfl opd opd (OwnSl.new (z := 1) (m := 0) (cs := []) (Nat.le_refl n) rfl rfl) (SlB.src (S.ext ext (Nat.le_refl _))) full_slice (fun b hb => Or.inr (by omega)) (by omega) ?_
    intro a' n1 h1 hle hO hX hnew
    have hE := hX.ext (OwnSl.new (z := 1) (m := 0) (cs := []) (Nat.le_refl n) rfl rfl)
    simp only [Nat.zero_add, List.nil_append] at hO ⊢
    repeat' (first | refine stpS ?_ | (refine stp2 ?_ ?_ <;> intro _))
    exact ⟨a', rfl, ext, hO⟩
set_option maxHeartbeats 4000000 in
theorem wOut_rf (w : Nat) (a : Option Addr) (b : List UInt8) (n0 n : Nat) (h : AH) (R : WrR h n0 n w a b) :
    RF Tryd.prog none' 46 #[.pointer (some ⟨w, 0, none⟩)] n h (Row b n h) := by
  refine RF.of Tryd.func46 rfl rfl (Nat.le_of_ble_eq_true rfl) ?_; dsimp only [argEnv]
  have S : SlB h n a b := OwnSl.slbE R.own
  obtain ⟨hlo, hhi, hinf, hmade, hsl, hown, hne, hle⟩ := R
  repeat' (first | refine stpS ?_ | (refine stp2 ?_ ?_ <;> intro _))
  refine RS.call rfl opds (clone_rf b a _ n h S rfl (by omega)) none'W ?_
  rintro r n1 h1 hle1 ⟨a', rfl, hE1, hO1⟩
  repeat' (first | refine stpS ?_ | (refine stp2 ?_ ?_ <;> intro _))
  exact ⟨a', rfl, ext, hO1⟩
end Go.Proofs.YtfbddbpbifnhfaaDoor.Cd

/- Contracts taken from codec (written by port.py). -/
namespace Go.Proofs.YtfbddbpbifnhfaaDoor.Cd
open Go.Abs
def escB (c : UInt8) : List UInt8 := if c.toNat = 0 then [c, 1] else [c]
def esc (l : List UInt8) : List UInt8 := l.flatMap escB
def formB (l : List UInt8) : List UInt8 := esc l ++ [0, 0]
theorem escB_le (c : UInt8) : (escB c).length ≤ 2 := by unfold escB; split <;> simp
theorem esc_le (l : List UInt8) : (esc l).length ≤ 2 * l.length := by
  induction l with
  | nil => simp [esc]
  | cons c l ih =>
    have := escB_le c
    simp only [esc, List.flatMap_cons, List.length_append, List.length_cons] at ih ⊢
    omega
end Go.Proofs.YtfbddbpbifnhfaaDoor.Cd

/- Contracts taken from codec (written by port.py). -/
namespace Go.Proofs.YtfbddbpbifnhfaaDoor.Cd
open Go.Abs
variable {P : Program} {T : Nat → Prop} {env : Env} {n : Nat} {g : AH} {dst : Option Tmp} {ty : TypeId} {pos : String} {after : Array Edge} {gd : Option (Nat × Bool)}
theorem op_count {f : FuncId} {fn : Func} {ts : Array TypeId} {x y : Operand} {b o m : Nat} {l : List UInt8} {c : Int} (hf : P.funcs[f]? = some fn) (hname : (fn.name == "runtime.NumGoroutine") = false) (hb : fn.body.isNone = true) (hn : Extern.findNext fn = none)
    (he : Extern.find fn = some Extern.BytealgCount.count) (hx : ev env x = .slice (some ⟨b, o, none⟩) m m) (hy : ev env y = .int .u8 c) (hr : rd g b o m = bytesV l) :
    OpEv P T ⟨dst, .call { callee := .value (.func f), args := #[x, y], argTypes := ts }, ty, pos, after, gd⟩ env n g (.int .i64 (l.count c.toNat.toUInt8 : Nat)) n .nil :=
  .look fun w0 ρ w H ce hl hsim hop => by
    have h1 := hop x (by simp [Op.operands, Call.operands]); rw [hx] at h1
    have h3 := hop y (by simp [Op.operands, Call.operands]); rw [hy] at h3
    have hcy : ce y = .int .u8 c := h3.int_inv
    have h2 := hop (.func f) (by simp [Op.operands, Call.operands])
    have hcf0 : ce (.func f) = .func (.func f) #[] #[] := by
      have e0 : ev env (.func f) = .func (.func f) #[] #[] := rfl
      rw [e0] at h2
      generalize ce (.func f) = q at h2
      cases h2 with
      | @func _ _ ys hs _ =>
        have : ys = #[] := Array.eq_empty_of_size_eq_zero (by simpa using hs.symm)
        rw [this]
    refine ⟨.int .i64 (l.count c.toNat.toUInt8 : Nat), ?_, .int _ _⟩
    have hm : m = l.length := by rw [← rd_length g b m o, hr, bytesV_length]
    have hbo : ∀ l : List UInt8, Lib.bytesOf (l.map fun b => (b.toNat : Int)) = l := by
      intro l
      simp [Lib.bytesOf, Function.comp_def]
    generalize hc : ce x = cx at h1
    cases h1 with
    | @slice _ _ _ L C h hn2 hcap =>
      obtain ⟨cs, c1, c2, c3⟩ := hsim.rd (P := P) hl h (k := m) (o := o) (by rw [hr]; exact bytesV_known l)
      have hcell : ∀ i, i < m → w.cell? (Addr.add ⟨L.blk, L.off + o, none⟩ i) = some (.int .u8 ((l.map fun b => (b.toNat : Int)).getD i 0)) := by
        intro i hi
        have k := c2 i hi
        rw [hr] at k
        have hi2 : i < l.length := by omega
        have e1 : (bytesV l).getD i (.tuple #[]) = .int .u8 (l[i]).toNat := by simp [bytesV, List.getD, hi2]
        have k2 := k.2
        rw [e1] at k2
        have k1 := k.1
        rw [k2.int_inv] at k1
        have e2 : (l.map fun b => (b.toNat : Int)).getD i 0 = (l[i]).toNat := by simp [List.getD, hi2]
        rw [e2, addr_add]
        exact k1
      have hrun := Lib.run_countAt (P := P) w ⟨L.blk, L.off + o, none⟩ m C (l.map fun b => (b.toNat : Int)) (by simp [hm]) hcell c
      rw [hbo] at hrun
      have hcf := run_callFunc_extern hf hname hb hn he #[.slice (some ⟨L.blk, L.off + o, none⟩) m C, .int .u8 c] w
      rw [hrun] at hcf
      simp [execOp, resolve, invoke, hc, hcy, hcf, hcf0, Deferred.ofValue, Lib.countByte]
    | slice0 a h =>
      have : l = [] := List.eq_nil_of_length_eq_zero hm.symm
      subst this
      have hrun := Lib.run_countAt (P := P) w a 0 0 [] rfl (fun i hi => absurd hi (by omega)) c
      have hcf := run_callFunc_extern hf hname hb hn he #[.slice (some a) 0 0, .int .u8 c] w
      rw [hrun] at hcf
      simp [execOp, resolve, invoke, hc, hcy, hcf, hcf0, Deferred.ofValue, Lib.countByte, Lib.bytesOf]
theorem op_count0 {f : FuncId} {fn : Func} {ts : Array TypeId} {x y : Operand} {c : Int} (hf : P.funcs[f]? = some fn) (hname : (fn.name == "runtime.NumGoroutine") = false) (hb : fn.body.isNone = true) (hn : Extern.findNext fn = none)
    (he : Extern.find fn = some Extern.BytealgCount.count) (hx : ev env x = .slice none 0 0) (hy : ev env y = .int .u8 c) :
    OpEv P T ⟨dst, .call { callee := .value (.func f), args := #[x, y], argTypes := ts }, ty, pos, after, gd⟩ env n g (.int .i64 0) n .nil :=
  .look fun w0 ρ w H ce hl hsim hop => by
    have h1 := hop x (by simp [Op.operands, Call.operands]); rw [hx] at h1
    have h3 := hop y (by simp [Op.operands, Call.operands]); rw [hy] at h3
    have hcy : ce y = .int .u8 c := h3.int_inv
    have h2 := hop (.func f) (by simp [Op.operands, Call.operands])
    have hcf0 : ce (.func f) = .func (.func f) #[] #[] := by
      have e0 : ev env (.func f) = .func (.func f) #[] #[] := rfl
      rw [e0] at h2
      generalize ce (.func f) = q at h2
      cases h2 with
      | @func _ _ ys hs _ =>
        have : ys = #[] := Array.eq_empty_of_size_eq_zero (by simpa using hs.symm)
        rw [this]
    refine ⟨.int .i64 0, ?_, .int _ _⟩
    have hc : ce x = .slice none 0 0 := by generalize ce x = q at h1; cases h1; rfl
    have hrun := Lib.run_countNil (P := P) w 0 0 c
    have hcf := run_callFunc_extern hf hname hb hn he #[.slice none 0 0, .int .u8 c] w
    rw [hrun] at hcf
    simp [execOp, resolve, invoke, hc, hcy, hcf, hcf0, Deferred.ofValue]
set_option maxHeartbeats 4000000 in
theorem count_ev (l : List UInt8) (c : UInt8) (a d : Option Addr) (m n : Nat) (h : AH) (S : SlB h n a l) (S2 : SlB h n d [c]) (e : m = l.length) (hm : m ≤ 1099511627776) :
    Ev Tryd.prog none' 85 #[.slice a m m, .slice d 1 1] n h (.int .i64 (l.count c : Nat)) n h := by
  subst e
  refine RF.pure rfl fun n' hn => ?_
  have S := S.ext (Ext.refl n h) hn
  have S2 := S2.ext (Ext.refl n h) hn
  refine RF.of Tryd.func85 rfl rfl (Nat.le_of_ble_eq_true rfl) ?_; dsimp only [argEnv]
  have hd0 : h.cell (sb d) (so d + (0 : Int).toNat) = .int .u8 c.toNat := S2.cell 0 (by simp)
  repeat' (first | refine stpS ?_ | (refine stp2 ?_ ?_ <;> intro _))
  rcases S.shape with ⟨ha, hl⟩ | ⟨ha, -, -⟩
  · have : l = [] := List.eq_nil_of_length_eq_zero hl
    subst this; subst ha
    refine RS.put (v := .int .i64 0) rfl rfl (op_count0 (f := 90) Tryd.func90 (by kernel_rfl) (by kernel_rfl) (by kernel_rfl) (by kernel_rfl) (Opd.ev opd) (Opd.ev opd)) ?_
    repeat' (first | refine stpS ?_ | (refine stp2 ?_ ?_ <;> intro _))
    rfl
  · have hrd : rd h (sb a) (so a) l.length = bytesV l := Go.Abs.SlB.rd S (Ext.refl n' h)
    rw [ha]
    refine RS.put (v := .int .i64 (l.count ((c.toNat : Int).toNat.toUInt8) : Nat)) rfl rfl (op_count (f := 90) (l := l) Tryd.func90 (by kernel_rfl) (by kernel_rfl) (by kernel_rfl) (by kernel_rfl) (Opd.ev opd) (Opd.ev opd) hrd) ?_
    have hcc : (c.toNat : Int).toNat.toUInt8 = c := by rw [Int.toNat_natCast]; exact UInt8.ofNat_toNat
    rw [hcc]
    repeat' (first | refine stpS ?_ | (refine stp2 ?_ ?_ <;> intro _))
    rfl
end Go.Proofs.YtfbddbpbifnhfaaDoor.Cd

/- Contracts taken from codec (written by port.py). -/
namespace Go.Proofs.YtfbddbpbifnhfaaDoor.Cd
open Go.Abs
variable {P : Program} {T : Nat → Prop} {env : Env} {n : Nat} {g : AH} {dst : Option Tmp} {ty : TypeId} {pos : String} {after : Array Edge} {gd : Option (Nat × Bool)}
theorem op_indexByte {f : FuncId} {fn : Func} {ts : Array TypeId} {x y : Operand} {b o m : Nat} {l : List UInt8} {c : Int} (hf : P.funcs[f]? = some fn) (hname : (fn.name == "runtime.NumGoroutine") = false) (hb : fn.body.isNone = true) (hn : Extern.findNext fn = none)
    (he : Extern.find fn = some Extern.BytealgIndexByte.indexByte) (hx : ev env x = .slice (some ⟨b, o, none⟩) m m) (hy : ev env y = .int .u8 c) (hr : rd g b o m = bytesV l) :
    OpEv P T ⟨dst, .call { callee := .value (.func f), args := #[x, y], argTypes := ts }, ty, pos, after, gd⟩ env n g (.int .i64 (Lib.indexByte l c.toNat.toUInt8)) n .nil :=
  .look fun w0 ρ w H ce hl hsim hop => by
    have h1 := hop x (by simp [Op.operands, Call.operands]); rw [hx] at h1
    have h3 := hop y (by simp [Op.operands, Call.operands]); rw [hy] at h3
    have hcy : ce y = .int .u8 c := h3.int_inv
    have h2 := hop (.func f) (by simp [Op.operands, Call.operands])
    have hcf0 : ce (.func f) = .func (.func f) #[] #[] := by
      have e0 : ev env (.func f) = .func (.func f) #[] #[] := rfl
      rw [e0] at h2
      generalize ce (.func f) = q at h2
      cases h2 with
      | @func _ _ ys hs _ =>
        have : ys = #[] := Array.eq_empty_of_size_eq_zero (by simpa using hs.symm)
        rw [this]
    refine ⟨.int .i64 (Lib.indexByte l c.toNat.toUInt8), ?_, .int _ _⟩
    have hm : m = l.length := by rw [← rd_length g b m o, hr, bytesV_length]
    have hbo : ∀ l : List UInt8, Lib.bytesOf (l.map fun b => (b.toNat : Int)) = l := by
      intro l
      simp [Lib.bytesOf, Function.comp_def]
    generalize hc : ce x = cx at h1
    cases h1 with
    | @slice _ _ _ L C h hn2 hcap =>
      obtain ⟨cs, c1, c2, c3⟩ := hsim.rd (P := P) hl h (k := m) (o := o) (by rw [hr]; exact bytesV_known l)
      have hcell : ∀ i, i < m → w.cell? (Addr.add ⟨L.blk, L.off + o, none⟩ i) = some (.int .u8 ((l.map fun b => (b.toNat : Int)).getD i 0)) := by
        intro i hi
        have k := c2 i hi
        rw [hr] at k
        have hi2 : i < l.length := by omega
        have e1 : (bytesV l).getD i (.tuple #[]) = .int .u8 (l[i]).toNat := by simp [bytesV, List.getD, hi2]
        have k2 := k.2
        rw [e1] at k2
        have k1 := k.1
        rw [k2.int_inv] at k1
        have e2 : (l.map fun b => (b.toNat : Int)).getD i 0 = (l[i]).toNat := by simp [List.getD, hi2]
        rw [e2, addr_add]
        exact k1
      have hrun := Lib.run_indexByteAt (P := P) w ⟨L.blk, L.off + o, none⟩ m C (l.map fun b => (b.toNat : Int)) (by simp [hm]) hcell c
      rw [hbo] at hrun
      have hcf := run_callFunc_extern hf hname hb hn he #[.slice (some ⟨L.blk, L.off + o, none⟩) m C, .int .u8 c] w
      rw [hrun] at hcf
      simp [execOp, resolve, invoke, hc, hcy, hcf, hcf0, Deferred.ofValue]
    | slice0 a h =>
      have : l = [] := List.eq_nil_of_length_eq_zero hm.symm
      subst this
      have hrun := Lib.run_indexByteAt (P := P) w a 0 0 [] rfl (fun i hi => absurd hi (by omega)) c
      have hcf := run_callFunc_extern hf hname hb hn he #[.slice (some a) 0 0, .int .u8 c] w
      rw [hrun] at hcf
      simp [execOp, resolve, invoke, hc, hcy, hcf, hcf0, Deferred.ofValue, Lib.bytesOf]
end Go.Proofs.YtfbddbpbifnhfaaDoor.Cd

/- Contracts taken from codec (written by port.py). -/
namespace Go.Proofs.YtfbddbpbifnhfaaDoor.Cd
open Go.Abs
set_option maxHeartbeats 4000000 in
theorem indexByte_ev (l : List UInt8) (c : UInt8) (a : Option Addr) (m n : Nat) (h : AH) (S : SlB h n a l) (hl : 0 < l.length) (e : m = l.length) :
    Ev Tryd.prog none' 84 #[.slice a m m, .int .u8 c.toNat] n h (.int .i64 (Lib.indexByte l c)) n h := by
  subst e
  refine RF.pure rfl fun n' hn => ?_
  have S := S.ext (Ext.refl n h) hn
  refine RF.of Tryd.func84 rfl rfl (Nat.le_of_ble_eq_true rfl) ?_; dsimp only [argEnv]
  repeat' (first | refine stpS ?_ | (refine stp2 ?_ ?_ <;> intro _))
  rcases S.shape with ⟨ha, hl⟩ | ⟨ha, -, -⟩
  · omega
  · have hrd : rd h (sb a) (so a) l.length = bytesV l := Go.Abs.SlB.rd S (Ext.refl n' h)
    rw [ha]
    refine RS.put (v := .int .i64 (Lib.indexByte l ((c.toNat : Int).toNat.toUInt8))) rfl rfl (op_indexByte (f := 88) (l := l) Tryd.func88 (by kernel_rfl) (by kernel_rfl) (by kernel_rfl) (by kernel_rfl) (Opd.ev opd) (Opd.ev opd) hrd) ?_
    have hcc : (c.toNat : Int).toNat.toUInt8 = c := by rw [Int.toNat_natCast]; exact UInt8.ofNat_toNat
    rw [hcc]
    repeat' (first | refine stpS ?_ | (refine stp2 ?_ ?_ <;> intro _))
    rfl
set_option maxHeartbeats 4000000 in
theorem index_ev (l : List UInt8) (c : UInt8) (a d : Option Addr) (m n : Nat) (h : AH) (S : SlB h n a l) (S2 : SlB h n d [c]) (hl : 0 < l.length) (e : m = l.length) :
    Ev Tryd.prog none' 86 #[.slice a m m, .slice d 1 1] n h (.int .i64 (Lib.indexByte l c)) n h := by
  subst e
  refine RF.pure rfl fun n' hn => ?_
  have S := S.ext (Ext.refl n h) hn
  have S2 := S2.ext (Ext.refl n h) hn
  refine RF.of Tryd.func86 rfl rfl (Nat.le_of_ble_eq_true rfl) ?_; dsimp only [argEnv]
  have hd0 : h.cell (sb d) (so d + (0 : Int).toNat) = .int .u8 c.toNat := S2.cell 0 (by simp)
  repeat' (first | refine stpS ?_ | (refine stp2 ?_ ?_ <;> intro _) | refine RS.call1 rfl opds (indexByte_ev l c a _ _ _ S hl rfl) none'W ?_)
  rfl
end Go.Proofs.YtfbddbpbifnhfaaDoor.Cd

/- Contracts taken from codec (written by port.py). -/
namespace Go.Proofs.YtfbddbpbifnhfaaDoor.Cd
open Go.Abs
theorem esc_app (l m : List UInt8) : esc (l ++ m) = esc l ++ esc m := by simp [esc]
theorem esc_length (l : List UInt8) : (esc l).length = l.length + l.count 0 := by
  induction l with
  | nil => rfl
  | cons c l ih =>
    simp only [esc, List.flatMap_cons, List.length_append, List.length_cons] at ih ⊢
    rw [ih, List.count_cons]
    unfold escB
    by_cases h : c = 0
    · subst h; simp; omega
    · have h2 : ¬ c.toNat = 0 := fun e => h (by simpa using (UInt8.toNat_inj (a := c) (b := 0)).1 e)
      rw [if_neg h2]
      simp [h]; omega
theorem esc_none {l : List UInt8} (h : ∀ k : Nat, l[k]? ≠ some 0) : esc l = l := by
  induction l with
  | nil => rfl
  | cons c l ih =>
    have h0 : ¬ c.toNat = 0 := fun e => h 0 (by simpa using (UInt8.toNat_inj (a := c) (b := 0)).1 e)
    have := ih fun k => by simpa using h (k + 1)
    unfold esc at this ⊢
    rw [List.flatMap_cons, this]
    unfold escB
    rw [if_neg h0]; rfl
theorem index_at {l : List UInt8} {s : Nat} (h : 0 < (l.drop s).count 0) : ∃ k : Nat, Lib.indexByte (l.drop s) 0 = k ∧ s + k + 1 ≤ l.length ∧ (l.drop (s + k + 1)).count 0 + 1 = (l.drop s).count 0 ∧ esc (l.take (s + k + 1)) = esc (l.take s) ++ (l.take (s + k)).drop s ++ [0, 1] := by
  have hge := Lib.indexByte_ge (l.drop s) 0
  have hne : Lib.indexByte (l.drop s) 0 ≠ -1 := fun e => by
    have := Lib.indexByte_none e
    have h2 := List.count_eq_zero.2 (fun hm => by
      obtain ⟨k, hk⟩ := List.getElem?_of_mem hm
      exact this k hk)
    omega
  obtain ⟨k, hk⟩ : ∃ k : Nat, Lib.indexByte (l.drop s) 0 = k := ⟨(Lib.indexByte (l.drop s) 0).toNat, by omega⟩
  obtain ⟨h1, h2⟩ := Lib.indexByte_some hk
  rw [List.getElem?_drop] at h1
  have hlt : s + k < l.length := by
    by_cases q : s + k < l.length
    · exact q
    · rw [List.getElem?_eq_none (by omega)] at h1; cases h1
  have hat : l[s + k] = 0 := by rw [List.getElem?_eq_getElem hlt] at h1; exact Option.some.inj h1
  have hmid : ∀ i : Nat, ((l.take (s + k)).drop s)[i]? ≠ some 0 := fun i => by
    by_cases q : i < k
    · have := h2 i q
      rw [List.getElem?_drop] at this ⊢
      rw [List.getElem?_take, if_pos (by omega)]; exact this
    · rw [List.getElem?_eq_none (by rw [List.length_drop, List.length_take]; omega)]; simp
  have e0 : l.take (s + k) = l.take s ++ (l.take (s + k)).drop s := by
    have := (List.take_append_drop s (l.take (s + k))).symm
    rw [List.take_take, Nat.min_eq_left (by omega)] at this; exact this
  have e1 : l.take (s + k + 1) = l.take s ++ (l.take (s + k)).drop s ++ [0] := by
    rw [List.take_succ_eq_append_getElem hlt, hat, ← e0]
  refine ⟨k, hk, by omega, ?_, ?_⟩
  · have e2 : l.drop s = (l.take (s + k)).drop s ++ 0 :: l.drop (s + k + 1) := by
      have a1 : l.drop s = (l.take (s + k)).drop s ++ l.drop (s + k) := by
        have := List.drop_append (i := s) (l₁ := l.take (s + k)) (l₂ := l.drop (s + k))
        rw [List.take_append_drop, List.length_take, Nat.min_eq_left (by omega), show s - (s + k) = 0 by omega, List.drop_zero] at this
        exact this
      rw [a1, List.drop_eq_getElem_cons hlt, hat]
    have e3 : ((l.take (s + k)).drop s).count 0 = 0 := List.count_eq_zero.2 fun hm => by
      obtain ⟨i, hi⟩ := List.getElem?_of_mem hm
      exact hmid i hi
    rw [e2, List.count_append, e3, List.count_cons]
    simp
  · rw [e1, esc_app, esc_app, esc_none hmid]
    rfl
theorem esc_end {l : List UInt8} {s : Nat} (h : (l.drop s).count 0 = 0) : esc l = esc (l.take s) ++ l.drop s := by
  have := esc_app (l.take s) (l.drop s)
  rw [List.take_append_drop] at this
  rw [this, esc_none (l := l.drop s)]
  intro k hk
  exact (List.count_eq_zero.1 h) (List.mem_of_getElem? hk)
theorem splice_room {α : Type} (z : α) (p x : List α) (M : Nat) (h : p.length + x.length ≤ M) : splice (p ++ List.replicate (M - p.length) z) p.length x = (p ++ x) ++ List.replicate (M - (p ++ x).length) z := by
  unfold splice
  have h1 : (p ++ List.replicate (M - p.length) z).take p.length = p := by simp
  have h2 : (p ++ List.replicate (M - p.length) z).drop (p.length + x.length) = List.replicate (M - (p ++ x).length) z := by
    rw [List.drop_append, List.drop_eq_nil_of_le (by omega), List.nil_append, List.drop_replicate, List.length_append]
    congr 1; omega
  rw [h1, h2]
section
variable {P : Program} {T : Nat → Prop} {ops : Array Oper} {os : List Oper} {env : Env} {n : Nat} {h : AH} {dst : Option Tmp} {ty : TypeId} {pos : String} {after : Array Edge} {gd : Option (Nat × Bool)} {Q : Env → Nat → AH → Prop} {ps : List Ft}
theorem RS.gen (F : AH → Prop) (hF : F h) (k : ∀ h, F h → RS P T ops os env n h Q) : RS P T ops os env n h Q := k h hF
theorem RD.gen (F : AH → Prop) (hF : F h) (k : ∀ h, F h → RD P T ops ps os env n h Q) : RD P T ops ps os env n h Q := k h hF
/-- copy of bytes to a row of one's own that is there, from its i-th place on. -/
theorem RS.copyO {q : Tmp} {t t2 e : TypeId} {d : TypeDesc} {by_ : Nat} {zv : Value} {x y : Operand} {a c : Option Addr} {n0 m i k : Nat} {l s : List UInt8} [hu : Uc P t (.slice e)] [hz : Tc P e d 1 by_ zv]
    (hw : wants ops ⟨some q, .call { callee := .builtin .copy, args := #[x, y], argTypes := #[t, t2] }, ty, pos, after, gd⟩ env = some true) (hx : Opd env x (.slice (sub a i) k k)) (hy : Opd env y (.slice c s.length s.length)) (hO : OwnSl h n0 n a 1 m (bytesV l)) (S : SlB h n c s)
    (hik : i + k = m) (ha : a ≠ none) (hsk : s.length ≤ k) (hT : T (sb a) ∨ n ≤ sb a)
    (K : OwnSl (h.app (.sets (sb a) (so a + i) (bytesV s))) n0 n a 1 m (bytesV (Abs.splice l i s)) → RS P T ops os ((q, .int .i64 s.length) :: env) n (h.app (.sets (sb a) (so a + i) (bytesV s))) Q) :
    RS P T ops (⟨some q, .call { callee := .builtin .copy, args := #[x, y], argTypes := #[t, t2] }, ty, pos, after, gd⟩ :: os) env n h Q := by
  have hO' := hO
  rcases hO.or with ⟨k1, k2⟩ | ⟨k1, k2, k3, k4, k5⟩
  · exact absurd k1 ha
  have hso : so a = 0 := by rw [k1]; rfl
  have hx' : ev env x = .slice (some ⟨sb a, so a + i, none⟩) k k := by rw [hx.ev, k1]; rfl
  have hop := op_copy (P := P) (T := T) (n := n) (g := h) (env := env) (dst := some q) (ty := ty) (pos := pos) (after := after) (gd := gd) (t := t) (t2 := t2) (z := 1) (k := s.length) (kk := s.length) (m := k) (v := .slice c s.length s.length) hu.out hz.out (by decide) hx' hy.ev
    S.src (full_slice) (fun c w h => lenOf_slice h) (by omega) (mm := ⟨m * 1, 0, true, 1⟩) k4 (Nat.zero_le _) (by rw [hso]; simp only [Nat.mul_one]; omega) hT k3
  exact RS.mem hw rfl hop (K (hO'.spliceB (by omega)))
theorem RD.copyO {q : Tmp} {t t2 e : TypeId} {d : TypeDesc} {by_ : Nat} {zv : Value} {x y : Operand} {a c : Option Addr} {n0 m i k nb : Nat} {l s : List UInt8} [hu : Uc P t (.slice e)] [hz : Tc P e d 1 by_ zv]
    (hw : wants ops ⟨some q, .call { callee := .builtin .copy, args := #[x, y], argTypes := #[t, t2] }, ty, pos, after, gd⟩ env = some true) (hx : Opd env x (.slice (sub a i) k k)) (hy : Opd env y (.slice c s.length s.length)) (hO : OwnSl h n0 nb a 1 m (bytesV l)) (S : SlB h nb c s)
    (hik : i + k = m) (ha : a ≠ none) (hsk : s.length ≤ k) (hT : T (sb a) ∨ n ≤ sb a) (hnb : nb ≤ n) (hc : CF ops ps.length (· < nb) (· = sb a) ps.length ps)
    (K : OwnSl (h.app (.sets (sb a) (so a + i) (bytesV s))) n0 nb a 1 m (bytesV (Abs.splice l i s)) → RD P T ops (⟨(· < nb), (· = sb a), n, n⟩ :: ps) os ((q, .int .i64 s.length) :: env) n (h.app (.sets (sb a) (so a + i) (bytesV s))) Q) :
    RD P T ops ps (⟨some q, .call { callee := .builtin .copy, args := #[x, y], argTypes := #[t, t2] }, ty, pos, after, gd⟩ :: os) env n h Q := by
  have hO' := hO
  rcases hO.or with ⟨k1, k2⟩ | ⟨k1, k2, k3, k4, k5⟩
  · exact absurd k1 ha
  have hso : so a = 0 := by rw [k1]; rfl
  have hx' : ev env x = .slice (some ⟨sb a, so a + i, none⟩) k k := by rw [hx.ev, k1]; rfl
  have S' : SlB (h.below nb) nb c s := S.ext (AH.below_ext h nb) (Nat.le_refl _)
  have hop := op_copy (P := P) (T := T) (n := n) (g := h.below nb) (env := env) (dst := some q) (ty := ty) (pos := pos) (after := after) (gd := gd) (t := t) (t2 := t2) (z := 1) (k := s.length) (kk := s.length) (m := k) (v := .slice c s.length s.length) hu.out hz.out (by decide) hx' hy.ev
    S'.src (full_slice) (fun c w h => lenOf_slice h) (by omega) (mm := ⟨m * 1, 0, true, 1⟩) (i_below k3 k4) (Nat.zero_le _) (by rw [hso]; simp only [Nat.mul_one]; omega) hT (by omega)
  refine RD.op (· < nb) (· = sb a) hw hop (AH.below_le _ _) (fun _ hx => AH.below_looks hx) (fun _ e => Nat.lt_of_lt_of_le e hnb) (fun b hb => .inl (sets_touches hb)) hc (.refl _) (K ?_)
  exact hO'.spliceB (by omega)
end
end Go.Proofs.YtfbddbpbifnhfaaDoor.Cd

/- Contracts taken from codec (written by port.py). -/
namespace Go.Proofs.YtfbddbpbifnhfaaDoor.Cd
open Go.Abs
set_option maxHeartbeats 4000000 in
theorem replace_rf (l : List UInt8) (a d0 d1 : Option Addr) (m n : Nat) (h : AH) (S : SlB h n a l) (S0 : SlB h n d0 [0]) (S1 : SlB h n d1 [0, 1]) (e : m = l.length) (hm : m ≤ 1099511627776) :
    RF Tryd.prog none' 80 #[.slice a m m, .slice d0 1 1, .slice d1 2 2, .int .i64 (-1)] n h (fun r n' h' => ∃ a', r = .slice a' (esc l).length (esc l).length ∧ Ext n h h' ∧ OwnSl h' n n' a' 1 (esc l).length (bytesV (esc l))) := by
  subst e
  have hel := esc_length l
  have hcl : l.count 0 ≤ l.length := List.count_le_length
  refine RF.of Tryd.func80 rfl rfl (Nat.le_of_ble_eq_true rfl) ?_; dsimp only [argEnv]
  by_cases hz : l.count 0 = 0
  · have h0 : esc l = l := by
      have := esc_end (l := l) (s := 0) (by simpa using hz)
      simpa [esc] using this
    repeat' (first | refine stpS ?_ | (refine stp2 ?_ ?_ <;> intro _) | refine RS.call1 rfl opds (count_ev l 0 a d0 _ _ _ S S0 rfl hm) none'W ?_)
    refine RS.append rfl opd opd (OwnSl.nil (n0 := n) (Nat.le_refl n)) (SlB.src S) full_slice (fun b hb => Or.inr (by omega)) (by omega) ?_
    intro a2 n2 h2 hle2 hO2 hX2 hnew
    have hE2 := hX2.ext (OwnSl.nil (h := h) (n0 := n) (z := 1) (Nat.le_refl n))
    simp only [Nat.zero_add, List.nil_append] at hO2 ⊢
    rw [h0]
    repeat' (first | refine stpS ?_ | (refine stp2 ?_ ?_ <;> intro _))
    exact ⟨a2, rfl, ext, hO2⟩
  · repeat' (first | refine stpS ?_ | (refine stp2 ?_ ?_ <;> intro _) | refine RS.call1 rfl opds (count_ev l 0 a d0 _ _ _ S S0 rfl hm) none'W ?_)
    have hM : ((l.length : Int) + (l.count 0 : Nat) * ((2 : Nat) - (1 : Nat) : Int)).toNat = (esc l).length := by omega
    rw [hM]
    have hO0 : OwnSl (h.app (.new n ⟨(esc l).length, 0, true, 1⟩ (List.replicate (esc l).length (.int .u8 0)))) n (n + 1) (some ⟨n, 0, none⟩) 1 (esc l).length (bytesV (List.replicate (esc l).length 0)) := by
      have e9 : List.replicate (esc l).length (Value.int .u8 0) = bytesV (List.replicate (esc l).length 0) := by simp [bytesV]
      rw [e9]
      exact OwnSl.new1 (Nat.le_refl n) (by rw [bytesV_length, List.length_replicate]) (bytesV_known _)
    have hE0 : Ext n h (h.app (.new n ⟨(esc l).length, 0, true, 1⟩ (List.replicate (esc l).length (.int .u8 0)))) := ext
    refine RC.gen (fun g => OwnSl g n (n + 1) (some ⟨n, 0, none⟩) 1 (esc l).length (bytesV (List.replicate (esc l).length 0)) ∧ Ext n h g) ⟨hO0, hE0⟩ ?_
    rintro g ⟨hO, hE⟩
    obtain ⟨aN, haN⟩ : ∃ aN : Option Addr, aN = some ⟨n, 0, none⟩ := ⟨_, rfl⟩
    have hsb : sb aN = n := by rw [haN]; rfl
    have hne : aN ≠ none := by rw [haN]; simp
    rw [← haN] at hO ⊢
    have hs0 : sub aN 0 = aN := by rw [haN]; rfl
    clear haN hO0 hE0
    refine RC.loop ?_
    refine RL.inv (α := Nat × Nat) (fun s => [(49, .int .i64 (s.1 : Nat)), (48, .int .i64 (l.count 0 : Nat)), (12, .int .i64 (s.2 : Nat)), (11, .int .i64 ((esc (l.take s.2)).length : Nat)), (10, .slice aN (esc l).length (esc l).length), (0, .slice a l.length l.length), (1, .slice d0 1 1), (2, .slice d1 2 2)])
      (fun s n1 h1 => s.2 ≤ l.length ∧ (l.drop s.2).count 0 + s.1 = l.count 0 ∧ n1 = n + 1 ∧ Ext n h h1 ∧ OwnSl h1 n n1 aN 1 (esc l).length (bytesV (esc (l.take s.2) ++ List.replicate ((esc l).length - (esc (l.take s.2)).length) 0)))
      (fun s => l.count 0 - s.1) (0, 0) envs ⟨by omega, by simp, rfl, hE, by simpa [esc] using hO⟩ ?_
    rintro ⟨i, s⟩ n1 h1 ⟨hs, hcn, rfl, hE1, hO1⟩
    dsimp only at hs hcn hE1 hO1 ⊢
    have hS1 : SlB h1 (n + 1) a l := S.ext hE1 (by omega)
    have hS0 : SlB h1 (n + 1) d0 [0] := S0.ext hE1 (by omega)
    have hS2 : SlB h1 (n + 1) d1 [0, 1] := S1.ext hE1 (by omega)
    have hw : (esc (l.take s)).length ≤ (esc l).length := by
      have := congrArg List.length (esc_app (l.take s) (l.drop s))
      rw [List.take_append_drop, List.length_append] at this
      omega
    have hIN : SlI h1 aN 1 (esc l).length := SlI.of hO1.slr (Ext.refl _ _)
    have hlN : sb aN < n + 1 := by omega
    by_cases hlt : i < l.count 0
    · obtain ⟨k, hk, hkl, hkc, hke⟩ := index_at (l := l) (s := s) (by omega)
      have hSd : SlB h1 (n + 1) (sub a s) (l.drop s) := by
        have := hS1.cut (i := s) (u := l.length) hs (Nat.le_refl _)
        rwa [List.take_length] at this
      have hidx := index_ev (l.drop s) 0 (sub a s) d0 (l.length - s) _ _ hSd hS0 (by rw [List.length_drop]; omega) (by rw [List.length_drop])
      rw [hk] at hidx
      have hSm : SlB h1 (n + 1) (sub a s) ((l.take (s + k)).drop s) := hS1.cut (by omega) (by omega)
      have hml : ((l.take (s + k)).drop s).length = k := by rw [List.length_drop, List.length_take]; omega
      have hle : (esc (l.take s)).length + k + 2 ≤ (esc l).length := by
        have h1 := congrArg List.length hke
        have h2 := congrArg List.length (esc_app (l.take (s + k + 1)) (l.drop (s + k + 1)))
        rw [List.take_append_drop, List.length_append] at h2
        rw [List.length_append, List.length_append, hml] at h1
        have : ([0, 1] : List UInt8).length = 2 := rfl
        omega
      repeat' (first | refine stpS ?_ | (refine stp2 ?_ ?_ <;> intro _))
      rw [show (s : Int).toNat = s by omega]
      refine RS.call1 rfl opds hidx none'W ?_
      repeat' (first | refine stp ?_ | (refine stp2 ?_ ?_ <;> intro _))
      rw [show (s : Int).toNat = s by omega, show ((s : Int) + (k : Int)).toNat - s = ((l.take (s + k)).drop s).length by omega]
      rw [Int.toNat_natCast]
      refine RD.copyO (nb := n + 1) (k := (esc l).length - (esc (l.take s)).length) rfl opd opd hO1 hSm (by omega) hne (by omega) (.inl (.inr (by omega))) (Nat.le_refl _) cfw ?_
      intro hO2
      have hE2 : Ext n h (h1.app (.sets (sb aN) (so aN + (esc (l.take s)).length) (bytesV ((l.take (s + k)).drop s)))) := hE1.appSets (by omega)
      rw [splice_room _ _ _ _ (by omega)] at hO2
      refine RD.gen (fun g => OwnSl g n (n + 1) aN 1 (esc l).length (bytesV (esc (l.take s) ++ (l.take (s + k)).drop s ++ List.replicate ((esc l).length - (esc (l.take s) ++ (l.take (s + k)).drop s).length) 0)) ∧ Ext n h g) ⟨hO2, hE2⟩ ?_
      clear hO2 hE2
      rintro g2 ⟨hO2, hE2⟩
      have hS2' : SlB g2 (n + 1) d1 [0, 1] := S1.ext hE2 (by omega)
      have hIN2 : SlI g2 aN 1 (esc l).length := SlI.of hO2.slr (Ext.refl _ _)
      have hl3 : (esc (l.take s) ++ (l.take (s + k)).drop s).length = (esc (l.take s)).length + k := by rw [List.length_append, hml]
      have hl4 : (esc (l.take (s + k + 1))).length = (esc (l.take s) ++ (l.take (s + k)).drop s).length + 2 := by rw [hke, List.length_append]; rfl
      repeat' (first | refine stp ?_ | (refine stp2 ?_ ?_ <;> intro _))
      rw [show ((esc (l.take s)).length : Int) + (((l.take (s + k)).drop s).length : Nat) = ((esc (l.take s) ++ (l.take (s + k)).drop s).length : Nat) by rw [List.length_append]; omega]
      rw [Int.toNat_natCast]
      refine RS.copyO (k := (esc l).length - (esc (l.take s) ++ (l.take (s + k)).drop s).length) (s := [0, 1]) rfl opd opd hO2 hS2' (by omega) hne (by show 2 ≤ _; omega) (.inl (.inr (by omega))) ?_
      intro hO3
      have hE3 := hE2.appSets (b := sb aN) (o := so aN + (esc (l.take s) ++ (l.take (s + k)).drop s).length) (vs := bytesV [0, 1]) (by omega)
      rw [splice_room _ _ _ _ (by show _ + 2 ≤ _; omega), ← hke] at hO3
      rw [show (([0, 1] : List UInt8).length : Int) = 2 from rfl]
      repeat' (first | refine stpS ?_ | (refine stp2 ?_ ?_ <;> intro _))
      refine nextC.normal ⟨(i + 1, s + k + 1), by dsimp only; omega, ?_, by dsimp only; omega, by dsimp only; omega, rfl, hE3, hO3⟩
      dsimp only
      rw [show ((esc (l.take (s + k + 1))).length : Int) = ((esc (l.take s) ++ (l.take (s + k)).drop s).length : Nat) + 2 by omega]
      rw [show ((s + k + 1 : Nat) : Int) = (s : Int) + k + (1 : Nat) by omega, show ((i + 1 : Nat) : Int) = (i : Int) + 1 by omega]
      exact envs
    · have hz0 : (l.drop s).count 0 = 0 := by omega
      have hend := esc_end hz0
      have hSd : SlB h1 (n + 1) (sub a s) (l.drop s) := by
        have := hS1.cut (i := s) (u := l.length) hs (Nat.le_refl _)
        rwa [List.take_length] at this
      have hle : (esc (l.take s)).length + (l.drop s).length = (esc l).length := by
        have := congrArg List.length hend
        rw [List.length_append] at this
        omega
      have hdl : (l.drop s).length = l.length - s := List.length_drop
      repeat' (first | refine stp ?_ | (refine stp2 ?_ ?_ <;> intro _))
      rw [show (s : Int).toNat = s by omega, Int.toNat_natCast, ← hdl]
      refine RD.copyO (nb := n + 1) (k := (esc l).length - (esc (l.take s)).length) rfl opd opd hO1 hSd (by omega) hne (by omega) (.inl (.inr (by omega))) (Nat.le_refl _) cfw ?_
      intro hO2
      have hE2 : Ext n h (h1.app (.sets (sb aN) (so aN + (esc (l.take s)).length) (bytesV (l.drop s)))) := hE1.appSets (by omega)
      rw [splice_room _ _ _ _ (by omega), ← hend, Nat.sub_self] at hO2
      rw [show List.replicate 0 (0 : UInt8) = [] from rfl, List.append_nil] at hO2
      refine RD.gen (fun g => OwnSl g n (n + 1) aN 1 (esc l).length (bytesV (esc l)) ∧ Ext n h g) ⟨hO2, hE2⟩ ?_
      clear hO2 hE2
      rintro g2 ⟨hO2, hE2⟩
      have hIN2 : SlI g2 aN 1 (esc l).length := SlI.of hO2.slr (Ext.refl _ _)
      repeat' (first | refine stp ?_ | (refine stp2 ?_ ?_ <;> intro _))
      rw [show ((esc (l.take s)).length : Int) + ((l.drop s).length : Nat) = ((esc l).length : Nat) by omega]
      refine ⟨aN, ?_, hE2, hO2⟩
      rw [show Int.toNat 0 = 0 from rfl, hs0, Int.toNat_natCast, Nat.sub_zero]
      done
end Go.Proofs.YtfbddbpbifnhfaaDoor.Cd

/- Contracts taken from codec (written by port.py). -/
namespace Go.Proofs.YtfbddbpbifnhfaaDoor.Cd
open Go.Abs
set_option maxHeartbeats 4000000 in
theorem replaceAll_rf (l : List UInt8) (a d0 d1 : Option Addr) (m n : Nat) (h : AH) (S : SlB h n a l) (S0 : SlB h n d0 [0]) (S1 : SlB h n d1 [0, 1]) (e : m = l.length) (hm : m ≤ 1099511627776) :
    RF Tryd.prog none' 71 #[.slice a m m, .slice d0 1 1, .slice d1 2 2] n h (fun r n' h' => ∃ a', r = .slice a' (esc l).length (esc l).length ∧ Ext n h h' ∧ OwnSl h' n n' a' 1 (esc l).length (bytesV (esc l))) := by
  refine RF.of Tryd.func71 rfl rfl (Nat.le_of_ble_eq_true rfl) ?_; dsimp only [argEnv]
  repeat' (first | refine stpS ?_ | (refine stp2 ?_ ?_ <;> intro _))
  refine RS.call rfl opds (replace_rf l a d0 d1 m n h S S0 S1 e hm) none'W ?_
  rintro r n1 h1 hle ⟨a', rfl, hE, hO⟩
  repeat' (first | refine stpS ?_ | (refine stp2 ?_ ?_ <;> intro _))
  exact ⟨a', rfl, hE, hO⟩
set_option maxHeartbeats 4000000 in
theorem wBytes_rf (w : Nat) (a c : Option Addr) (b l : List UInt8) (m n0 n : Nat) (h : AH) (R : WrR h n0 n w a b) (S : SlB h n c l) (e : m = l.length) (hm : m ≤ 1073741824) :
    RF Tryd.prog (inW w a) 45 #[.pointer (some ⟨w, 0, none⟩), .slice c m m] n h (WrTo w a b (formB l) n0 n h) := by
  subst e
  refine RF.of Tryd.func45 rfl rfl (Nat.le_of_ble_eq_true rfl) ?_; dsimp only [argEnv]
  have hel := esc_length l
  have hcl : l.count 0 ≤ l.length := List.count_le_length
  repeat' (first | refine stpS ?_ | (refine stp2 ?_ ?_ <;> intro _))
  obtain ⟨g, hg⟩ : ∃ g, g = (h.app (.new n ⟨([.int .u8 0] : List Value).length, 0, true, 1⟩ [.int .u8 0])).app (.new (n + 1) ⟨([.int .u8 0, .int .u8 1] : List Value).length, 0, true, 1⟩ [.int .u8 0, .int .u8 1]) := ⟨_, rfl⟩
  refine RS.heap hg ?_
  have hE : Ext n h g := by rw [hg]; exact ext
  have hS0 : SlB g (n + 1 + 1) (some ⟨n, 0, none⟩) [0] := by
    rw [hg]
    have := OwnSl.new1 (h := h) (n0 := n) (n := n) (m := 1) (cs := [.int .u8 0]) (Nat.le_refl n) rfl rfl
    exact OwnSl.slbE (this.ext (n1 := n + 1 + 1) ext (by omega))
  have hS1 : SlB g (n + 1 + 1) (some ⟨n + 1, 0, none⟩) [0, 1] := by
    rw [hg]
    exact OwnSl.slbE (OwnSl.new1 (n0 := n) (n := n + 1) (m := 2) (cs := [.int .u8 0, .int .u8 1]) (Nat.le_succ n) rfl rfl)
  clear hg
  refine RS.call rfl opds (replaceAll_rf l c _ _ _ _ g (S.ext hE (by omega)) hS0 hS1 rfl (by omega)) none'W ?_
  rintro r n1 h1 hle ⟨c1, rfl, hE1, hO1⟩
  repeat' (first | refine stpS ?_ | (refine stp2 ?_ ?_ <;> intro _))
  refine RS.append rfl opd opd (hO1.ext (n1 := n1 + 1) ext (by omega)) (OwnSl.src (OwnSl.new1 (n0 := n1) (m := 2) (Nat.le_refl _) rfl rfl)) full_slice (fun b hb => .inr (by omega)) (by omega) ?_
  intro c2 n2 h2 hle2 hO2 hX2 hnew2
  have hE1' : Ext (n + 1 + 1) h1 (h1.app (.new n1 ⟨([.int .u8 0, .int .u8 0] : List Value).length, 0, true, 1⟩ [.int .u8 0, .int .u8 0])) := ext
  have hE2 : Ext n h h2 := (hE.trans (by omega) hE1).trans (Nat.le_add_right n 2) (hE1'.then (hX2.ext (hO1.ext (n1 := n1 + 1) ext (by omega))))
  have hfb : (formB l).length = (esc l).length + 2 := by unfold formB; rw [List.length_append]; rfl
  have R2 := R.ext (n1 := n2) hE2 (by omega)
  have hO3 : SlB h2 n2 c2 (formB l) := by
    unfold formB
    refine OwnSl.slbE (n0 := n + 1 + 1) (m := (esc l).length + 2) ?_
    rw [bytesV_app]; exact hO2
  refine RS.call rfl opds (more_rf w a c2 b (formB l) ((esc l).length + 2) n0 n2 h2 R2 hO3 hfb.symm (by omega)) (fun x hx => .inl hx) ?_
  rintro r n3 h3 hle3 ⟨a', rfl, hR3, hX3, hw3⟩
  repeat' (first | refine stpS ?_ | (refine stp2 ?_ ?_ <;> intro _))
  exact ⟨a', rfl, hR3, hX3.via (by omega) (fun _ _ k => k) (ExtW.of hE2 (Nat.le_refl _)), hw3.imp_right fun k => by omega⟩
theorem slb_new (l : List UInt8) (n : Nat) (h : AH) : SlB (h.app (.new n ⟨l.length, 0, true, 1⟩ (bytesV l))) (n + 1) (some ⟨n, 0, none⟩) l :=
  OwnSl.slbE (OwnSl.new1 (n0 := n) (n := n) (m := l.length) (cs := bytesV l) (Nat.le_refl n) (by rw [bytesV_length]) (bytesV_known _))
theorem WrR.lo_of {h : AH} {n0 n w : Nat} {a : Option Addr} {b : List UInt8} (R : WrR h n0 n w a b) : ∀ x, inW w a x → n0 ≤ x := fun x hx => by
  rcases hx with rfl | ⟨h1, h2⟩
  · exact R.lo
  · rw [h2]; exact (R.own.at'.resolve_left h1).1
def rowV (x : Option Addr × List UInt8) : Value := .slice x.1 x.2.length x.2.length
theorem slq_new (L : List (Option Addr × List UInt8)) {n : Nat} {h : AH} (hL : ∀ x, x ∈ L → SlB h n x.1 x.2) : SlQ (h.app (.new n ⟨L.length, 0, true, 1⟩ (L.map rowV))) (n + 1) (some ⟨n, 0, none⟩) (fun j => (L.getD j (none, [])).1) (L.map (·.2)) := by
  have hk : ∀ j, j < (L.map (·.2)).length → L.getD j (none, []) ∈ L ∧ (L.map (·.2)).getD j [] = (L.getD j (none, [])).2 ∧ (L.map rowV).getD j (.tuple #[]) = rowV (L.getD j (none, [])) := fun j hj => by
    have hj : j < L.length := by simpa using hj
    refine ⟨?_, ?_, ?_⟩
    · rw [List.getD_eq_getElem?_getD, List.getElem?_eq_getElem hj]; exact List.getElem_mem hj
    · simp [List.getD, hj]
    · simp [List.getD, hj]
  refine ⟨SlR.new (Nat.lt_succ_self n) info rfl fun j hj => ?_, fun j hj => ?_⟩
  · rw [Nat.mul_one] at hj
    obtain ⟨k1, k2, k3⟩ := hk j hj
    have : (h.app (.new n ⟨L.length, 0, true, 1⟩ (L.map rowV))).cell n j = (L.map rowV).getD j (.tuple #[]) := by
      have hj' : j < L.length := by simpa using hj
      exact c_new (by simp [List.getD, hj'])
    rw [this, k3]
    unfold rowsF rowV
    rw [k2]
  · obtain ⟨k1, k2, k3⟩ := hk j hj
    rw [k2]
    exact (hL _ k1).ext ext (Nat.le_succ n)
end Go.Proofs.YtfbddbpbifnhfaaDoor.Cd

/- Contracts taken from codec (written by port.py). -/
namespace Go.Proofs.YtfbddbpbifnhfaaDoor.Cd
open Go.Abs
def flipU (low : Bool) (c : UInt8) : UInt8 := if low then 255 - c else c
def val (l : List UInt8) : Nat := l.foldl (fun m c => m * 256 + c.toNat) 0
def sgn (low : Bool) (n : Nat) : Int := if low then -(n : Int) - 1 else n
/-- The int that bytes begin with, its length, the error. -/
def pI (b : List UInt8) : Int × Nat × Nat :=
  match b with
  | [] => (0, 0, 30)
  | c :: r =>
    if (flipU (decide (c.toNat < 128)) c).toNat < 248 then (sgn (decide (c.toNat < 128)) ((flipU (decide (c.toNat < 128)) c).toNat - 128), 1, 0)
    else if r.length < (flipU (decide (c.toNat < 128)) c).toNat - 247 then (0, 0, 30)
    else if 9223372036854775687 < val ((r.take ((flipU (decide (c.toNat < 128)) c).toNat - 247)).map (flipU (decide (c.toNat < 128)))) then (0, 0, 31)
    else if nb (val ((r.take ((flipU (decide (c.toNat < 128)) c).toNat - 247)).map (flipU (decide (c.toNat < 128))))) ≠ (flipU (decide (c.toNat < 128)) c).toNat - 247 then (0, 0, 31)
    else (sgn (decide (c.toNat < 128)) (val ((r.take ((flipU (decide (c.toNat < 128)) c).toNat - 247)).map (flipU (decide (c.toNat < 128)))) + 120), 1 + ((flipU (decide (c.toNat < 128)) c).toNat - 247), 0)
theorem flip_flip (low : Bool) (c : UInt8) : flipU low (flipU low c) = c := by
  unfold flipU
  cases low
  · rfl
  · simp only [if_true]
    apply UInt8.toNat_inj.1
    have := c.toNat_lt
    simp only [UInt8.toNat_sub, UInt8.reduceToNat]
    omega
theorem flip_nat (c : UInt8) : (flipU true c).toNat = 255 - c.toNat := by
  unfold flipU
  have := c.toNat_lt
  simp only [if_true, UInt8.toNat_sub, UInt8.reduceToNat]
  omega
theorem flip_map (low : Bool) (l : List UInt8) : (l.map (flipU low)).map (flipU low) = l := by
  rw [List.map_map]
  have : (flipU low ∘ flipU low) = id := by funext c; exact flip_flip low c
  rw [this, List.map_id]
theorem turn_flip (l : List UInt8) : turn l = l.map (flipU true) := by
  unfold turn flipU
  simp
theorem flip_false (l : List UInt8) : l.map (flipU false) = l := by
  have : flipU false = id := by funext c; rfl
  rw [this, List.map_id]
/-- The form of an int by its sign. -/
theorem form_sgn (low : Bool) (k : Nat) : form (sgn low k) = (formUp k).map (flipU low) := by
  unfold form sgn
  cases low
  · simp only [Bool.false_eq_true, if_false]
    rw [if_neg (by omega), flip_false, Int.toNat_natCast]
  · simp only [if_true]
    rw [if_pos (by omega), turn_flip]
    congr 2; omega
theorem sgn_ex (n : Int) : ∃ low k, n = sgn low k ∧ (-9223372036854775808 ≤ n → n < 9223372036854775808 → k < 9223372036854775808) := by
  by_cases h : n < 0
  · exact ⟨true, (-n - 1).toNat, by unfold sgn; simp only [if_true]; omega, fun h1 h2 => by omega⟩
  · exact ⟨false, n.toNat, by unfold sgn; simp only [Bool.false_eq_true, if_false]; omega, fun h1 h2 => by omega⟩
theorem be_snoc (k m : Nat) : be (k + 1) m = be k (m / 256) ++ [UInt8.ofNat m] := by
  unfold be
  rw [List.range_succ, List.map_append]
  congr 1
  · apply List.map_congr_left
    intro i hi
    have hi : i < k := List.mem_range.1 hi
    rw [show k + 1 - 1 - i = (k - 1 - i) + 1 by omega, Nat.pow_succ, Nat.mul_comm, ← Nat.div_div_eq_div_mul]
  · simp
theorem val_snoc (l : List UInt8) (c : UInt8) : val (l ++ [c]) = val l * 256 + c.toNat := by
  unfold val
  rw [List.foldl_append]; rfl
theorem val_be (k : Nat) : ∀ m, m < 256 ^ k → val (be k m) = m := by
  induction k with
  | zero => intro m h; have : m = 0 := by simpa using h
            subst this; rfl
  | succ k ih =>
    intro m h
    rw [be_snoc, val_snoc, ih (m / 256) (by rw [Nat.pow_succ] at h; exact Nat.div_lt_of_lt_mul (by rw [Nat.mul_comm]; exact h))]
    have : (UInt8.ofNat m).toNat = m % 256 := UInt8.toNat_ofNat'
    rw [this]; omega
theorem be_val (l : List UInt8) : be l.length (val l) = l := by
  induction h : l.length generalizing l with
  | zero => have := List.eq_nil_of_length_eq_zero h; subst this; rfl
  | succ k ih =>
    have hne : l ≠ [] := fun e => by subst e; cases h
    obtain ⟨p, c, rfl⟩ : ∃ p c, l = p ++ [c] := ⟨l.dropLast, l.getLast hne, (List.dropLast_concat_getLast hne).symm⟩
    have hp : p.length = k := by simpa using h
    rw [be_snoc, val_snoc]
    have hc := c.toNat_lt
    have h1 : (val p * 256 + c.toNat) / 256 = val p := by omega
    have h2 : UInt8.ofNat (val p * 256 + c.toNat) = c := by
      apply UInt8.toNat_inj.1
      rw [UInt8.toNat_ofNat']; omega
    rw [h1, h2, ih p hp]
theorem val_lt (l : List UInt8) : val l < 256 ^ l.length := by
  induction h : l.length generalizing l with
  | zero => have := List.eq_nil_of_length_eq_zero h; subst this; simp [val]
  | succ k ih =>
    have hne : l ≠ [] := fun e => by subst e; cases h
    obtain ⟨p, c, rfl⟩ : ∃ p c, l = p ++ [c] := ⟨l.dropLast, l.getLast hne, (List.dropLast_concat_getLast hne).symm⟩
    have hp : p.length = k := by simpa using h
    have := ih p hp
    have hc := c.toNat_lt
    rw [val_snoc, Nat.pow_succ]
    omega
theorem lt_pow_bl (m : Nat) : m < 2 ^ bl m := by
  unfold bl
  split
  · simp [*]
  · exact Nat.lt_log2_self
theorem lt_pow_nb (m : Nat) : m < 256 ^ nb m := by
  have h1 := lt_pow_bl m
  have h2 : bl m ≤ 8 * nb m := by unfold nb; omega
  have h3 : 2 ^ bl m ≤ 2 ^ (8 * nb m) := Nat.pow_le_pow_right (by omega) h2
  rw [Nat.pow_mul] at h3
  exact Nat.lt_of_lt_of_le h1 h3
theorem low_flip (low : Bool) (c : UInt8) (h : 128 ≤ c.toNat) : decide ((flipU low c).toNat < 128) = low := by
  cases low
  · simp [flipU]; omega
  · have := flip_nat c
    have := c.toNat_lt
    simp; omega
/-- What was put is read. -/
theorem pI_form (n : Int) (h1 : -9223372036854775808 ≤ n) (h2 : n < 9223372036854775808) (r : List UInt8) : pI (form n ++ r) = (n, (form n).length, 0) := by
  obtain ⟨low, k, rfl, hk⟩ := sgn_ex n
  have hk := hk h1 h2
  rw [form_sgn]
  unfold formUp
  by_cases hs : k < 120
  · rw [if_pos hs]
    have hc : (UInt8.ofNat (128 + k)).toNat = 128 + k := by rw [UInt8.toNat_ofNat']; omega
    simp only [List.map_cons, List.map_nil, List.cons_append, List.nil_append, pI]
    rw [low_flip low _ (by omega), flip_flip, hc, if_pos (by omega)]
    simp only [Nat.add_sub_cancel_left, List.length_cons, List.length_nil]
  · rw [if_neg hs]
    have hn1 := nb_pos (k - 120)
    have hn2 := nb_le (m := k - 120) (by omega)
    have hc : (UInt8.ofNat (247 + nb (k - 120))).toNat = 247 + nb (k - 120) := by rw [UInt8.toNat_ofNat']; omega
    simp only [List.map_cons, List.cons_append, pI]
    rw [low_flip low _ (by omega), flip_flip, hc, if_neg (by omega)]
    have hl : ((be (nb (k - 120)) (k - 120)).map (flipU low)).length = nb (k - 120) := by rw [List.length_map, be_length]
    rw [show 247 + nb (k - 120) - 247 = nb (k - 120) by omega, if_neg (by rw [List.length_append]; omega), List.take_append_of_le_length (by omega), List.take_of_length_le (by omega), flip_map, val_be _ _ (lt_pow_nb _)]
    rw [if_neg (by omega), if_neg (by simp), show k - 120 + 120 = k by omega]
    simp only [List.length_cons, hl]
    rw [Nat.add_comm]
/-- What is read was put. -/
theorem pI_ok {b : List UInt8} {n : Int} {k : Nat} (h : pI b = (n, k, 0)) : -9223372036854775808 ≤ n ∧ n < 9223372036854775808 ∧ 1 ≤ k ∧ k ≤ b.length ∧ form n = b.take k := by
  unfold pI at h
  cases b with
  | nil => simp at h
  | cons c r =>
    simp only at h
    obtain ⟨low, hlow⟩ : ∃ low, low = decide (c.toNat < 128) := ⟨_, rfl⟩
    rw [← hlow] at h
    obtain ⟨f, hf⟩ : ∃ f, f = (flipU low c).toNat := ⟨_, rfl⟩
    have hfl : f < 256 := by rw [hf]; exact UInt8.toNat_lt _
    have hf128 : 128 ≤ f := by
      rw [hf, hlow]
      by_cases q : c.toNat < 128
      · rw [decide_eq_true q, flip_nat]; omega
      · rw [decide_eq_false q]; unfold flipU; simp; omega
    have hcf : flipU low (UInt8.ofNat f) = c := by
      rw [hf, UInt8.ofNat_toNat, flip_flip]
    rw [← hf] at h
    by_cases h1 : f < 248
    · rw [if_pos h1] at h
      simp only [Prod.mk.injEq, and_true] at h
      obtain ⟨rfl, rfl⟩ := h
      have hb : -9223372036854775808 ≤ sgn low (f - 128) ∧ sgn low (f - 128) < 9223372036854775808 := by unfold sgn; split <;> omega
      refine ⟨hb.1, hb.2, Nat.le_refl _, by simp, ?_⟩
      rw [form_sgn]
      unfold formUp
      rw [if_pos (by omega), show 128 + (f - 128) = f by omega]
      simp [hcf]
    · rw [if_neg h1] at h
      by_cases h2 : r.length < f - 247
      · rw [if_pos h2] at h; simp at h
      · rw [if_neg h2] at h
        obtain ⟨l, hl⟩ : ∃ l, l = r.take (f - 247) := ⟨_, rfl⟩
        have hll : l.length = f - 247 := by rw [hl, List.length_take]; omega
        rw [← hl] at h
        obtain ⟨m, hm⟩ : ∃ m, m = val (l.map (flipU low)) := ⟨_, rfl⟩
        rw [← hm] at h
        by_cases h3 : 9223372036854775687 < m
        · rw [if_pos h3] at h; simp at h
        · rw [if_neg h3] at h
          by_cases h4 : nb m = f - 247
          · rw [if_neg (by simpa using h4)] at h
            simp only [Prod.mk.injEq, and_true] at h
            obtain ⟨rfl, rfl⟩ := h
            have hb : -9223372036854775808 ≤ sgn low (m + 120) ∧ sgn low (m + 120) < 9223372036854775808 := by unfold sgn; split <;> omega
            refine ⟨hb.1, hb.2, by omega, by rw [List.length_cons]; omega, ?_⟩
            rw [form_sgn]
            unfold formUp
            rw [if_neg (by omega), Nat.add_sub_cancel, h4, show 247 + (f - 247) = f by omega]
            have hbe : be (f - 247) m = l.map (flipU low) := by
              have := be_val (l.map (flipU low))
              rw [List.length_map, hll, ← hm] at this
              exact this
            rw [hbe, List.map_cons, flip_map, hcf, hl, Nat.add_comm 1, List.take_succ_cons]
          · rw [if_pos (by simpa using h4)] at h; simp at h
end Go.Proofs.YtfbddbpbifnhfaaDoor.Cd

/- Contracts taken from codec (written by port.py). -/
namespace Go.Proofs.YtfbddbpbifnhfaaDoor.Cd
open Go.Abs Go.RowKit
variable {P : Program} {T : Nat → Prop} {env : Env} {n : Nat} {g : AH} {dst : Option Tmp} {ty : TypeId} {pos : String} {after : Array Edge} {gd : Option (Nat × Bool)}
theorem xorN_i64 {a : Int} (hlo : -9223372036854775808 ≤ a) (hhi : a < 9223372036854775808) : IntKind.i64.wrap ((BitVec.ofInt 64 a ^^^ BitVec.ofInt 64 (-1)).toNat : Nat) = -a - 1 := by
  have e : (BitVec.ofInt 64 a ^^^ BitVec.ofInt 64 (-1)) = ~~~ BitVec.ofInt 64 a := by
    rw [show BitVec.ofInt 64 (-1) = BitVec.allOnes 64 by decide, BitVec.xor_allOnes]
  rw [e, BitVec.toNat_not, BitVec.toNat_ofInt]
  simp only [IntKind.wrap, show IntKind.i64.bits = 64 from rfl, show IntKind.i64.signed = true from rfl, Bool.true_and, decide_eq_true_eq]
  split <;> omega
theorem o_xorN {t t' : TypeId} {x y : Operand} {a b : Int} (hx : Opd env x (.int .i64 a)) (hy : Opd env y (.int .i64 b)) (hb : b = -1) (hlo : -9223372036854775808 ≤ a) (hhi : a < 9223372036854775808) :
    OpEv P T ⟨dst, .binOp .xor t x y t', ty, pos, after, gd⟩ env n g (.int .i64 (-a - 1)) n .nil := by
  subst hb
  exact op_bin hx.ev hy.ev (by
    show some (Value.int .i64 (IntKind.wrap .i64 _)) = _
    rw [show IntKind.bits .i64 = 64 from rfl, xorN_i64 hlo hhi])
theorem and1_i64 {a : Int} (hlo : -9223372036854775808 ≤ a) (hhi : a < 9223372036854775808) : IntKind.i64.wrap ((BitVec.ofInt 64 a &&& BitVec.ofInt 64 1).toNat : Nat) = a % 2 := by
  rw [BitVec.toNat_and, BitVec.toNat_ofInt, show (BitVec.ofInt 64 1).toNat = 1 from rfl, Nat.and_one_is_mod]
  simp only [IntKind.wrap, show IntKind.i64.bits = 64 from rfl, show IntKind.i64.signed = true from rfl, Bool.true_and, decide_eq_true_eq]
  split <;> omega
theorem o_and1 {t t' : TypeId} {x y : Operand} {a : Int} (hx : Opd env x (.int .i64 a)) (hy : Opd env y (.int .i64 1)) (hlo : -9223372036854775808 ≤ a) (hhi : a < 9223372036854775808) :
    OpEv P T ⟨dst, .binOp .and t x y t', ty, pos, after, gd⟩ env n g (.int .i64 (a % 2)) n .nil :=
  op_bin hx.ev hy.ev (by
    show some (Value.int .i64 (IntKind.wrap .i64 _)) = _
    rw [show IntKind.bits .i64 = 64 from rfl, and1_i64 hlo hhi])
end Go.Proofs.YtfbddbpbifnhfaaDoor.Cd
