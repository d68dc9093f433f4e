/- Rows that a function owns and appends to; results; calls (written by gen_own.py). -/
import Derived.Test.YtchfnjfmlhacfaaAbsTy
namespace Go.Abs
open Go.RowKit

/-- A slice of m elements of z cells, cs, from the begin of a block of its own with a number from n0 on; or none yet. -/
structure OwnSl (h : AH) (n0 n : Nat) (a : Option Addr) (z m : Nat) (cs : List Value) : Prop where
  le : n0 ≤ n
  len : cs.length = m * z
  kn : known cs = true
  or : (a = none ∧ m = 0) ∨ (a = some ⟨sb a, 0, none⟩ ∧ n0 ≤ sb a ∧ sb a < n ∧ h.info (sb a) = some ⟨m * z, 0, true, z⟩ ∧ rd h (sb a) 0 (m * z) = cs)

section
variable {h h1 : AH} {n0 n n1 : Nat} {a : Option Addr} {z m : Nat} {cs : List Value}
theorem OwnSl.nil (hn : n0 ≤ n) : OwnSl h n0 n none z 0 [] := ⟨hn, by simp, rfl, .inl ⟨rfl, rfl⟩⟩
theorem OwnSl.slr (o : OwnSl h n0 n a z m cs) : SlR h n a z m (fun j => cs.getD j (.tuple #[])) := by
  rcases o.or with ⟨k1, k2⟩ | ⟨k1, k2, k3, k4, k5⟩
  · subst k1; subst k2; exact .nil
  · have e : so a = 0 := by rw [k1]; rfl
    refine ⟨.inr ⟨by rw [e]; exact k1, k3, _, k4, rfl⟩, fun j hj => ?_⟩
    have := rd_getD h (sb a) (m * z) 0 j hj
    rw [k5] at this
    rw [e]; exact this.symm
theorem OwnSl.ext (o : OwnSl h n0 n a z m cs) (e : Ext n h h1) (hn : n ≤ n1) : OwnSl h1 n0 n1 a z m cs := by
  refine ⟨Nat.le_trans o.le hn, o.len, o.kn, ?_⟩
  rcases o.or with k | ⟨k1, k2, k3, k4, k5⟩
  · exact .inl k
  · exact .inr ⟨k1, k2, by omega, by rw [e.info _ k3]; exact k4, by rw [rd_ext e k3]; exact k5⟩
theorem ExtX.ext (e : ExtX n a h h1) (o : OwnSl h n0 n a z m cs) : Ext n0 h h1 := by
  have hn := o.le
  rcases o.or with ⟨k1, _⟩ | ⟨k1, k2, k3, _⟩
  · exact ⟨fun b hb => (e b (by omega) (.inl k1)).1, fun b i hb => (e b (by omega) (.inl k1)).2 i⟩
  · exact ⟨fun b hb => (e b (by omega) (.inr (by omega))).1, fun b i hb => (e b (by omega) (.inr (by omega))).2 i⟩
theorem OwnSl.new (hn : n0 ≤ n) (hlen : cs.length = m * z) (hk : known cs = true) : OwnSl (h.app (.new n ⟨m * z, 0, true, z⟩ cs)) n0 (n + 1) (some ⟨n, 0, none⟩) z m cs := by
  refine ⟨by omega, hlen, hk, .inr ⟨rfl, hn, by show n < n + 1; omega, i_new, ?_⟩⟩
  exact r_new hlen.symm
theorem OwnSl.new1 (hn : n0 ≤ n) (hlen : cs.length = m) (hk : known cs = true) : OwnSl (h.app (.new n ⟨m, 0, true, 1⟩ cs)) n0 (n + 1) (some ⟨n, 0, none⟩) 1 m cs := by
  have := OwnSl.new (h := h) (z := 1) (m := m) (cs := cs) hn (by simpa using hlen) hk
  rwa [Nat.mul_one] at this
theorem OwnSl.mono (o : OwnSl h n0 n a z m cs) {n0' : Nat} (hl : n0' ≤ n0) : OwnSl h n0' n a z m cs := by
  have := o.le
  refine ⟨by omega, o.len, o.kn, ?_⟩
  rcases o.or with k | ⟨k1, k2, k3⟩
  · exact .inl k
  · exact .inr ⟨k1, by omega, k3⟩
/-- Another block changes. -/
theorem OwnSl.sets {b o' : Nat} {vs : List Value} (o : OwnSl h n0 n a z m cs) (hb : b < n0) : OwnSl (h.app (.sets b o' vs)) n0 n a z m cs := by
  refine ⟨o.le, o.len, o.kn, ?_⟩
  rcases o.or with k | ⟨k1, k2, k3, k4, k5⟩
  · exact .inl k
  · exact .inr ⟨k1, k2, k3, i_sets k4, by rw [r_sets_ne (by omega) k5]⟩

theorem OwnSl.setsN {b o' : Nat} {vs : List Value} (o : OwnSl h n0 n a z m cs) (hb : a = none ∨ sb a ≠ b) : OwnSl (h.app (.sets b o' vs)) n0 n a z m cs := by
  refine ⟨o.le, o.len, o.kn, ?_⟩
  rcases o.or with k | ⟨k1, k2, k3, k4, k5⟩
  · exact .inl k
  · refine .inr ⟨k1, k2, k3, i_sets k4, ?_⟩
    rcases hb with hb | hb
    · rw [hb] at k1; cases k1
    · rw [r_sets_ne hb k5]
/-- A slice's elements as a source. -/
theorem SlR.src {f : Nat → Value} (s : SlR h n a z m f) (hk : known ((List.range (m * z)).map f) = true) : Src h z (.slice a m m) m ((List.range (m * z)).map f) := by
  rcases s.shape with ⟨k1, k2⟩ | ⟨k1, _⟩
  · subst k1; subst k2
    simp; exact .nil
  · have := SlR.rd s (Ext.refl n h) (i := 0) (k := m * z) (by omega)
    simp only [Nat.add_zero, Nat.zero_add] at this
    have e : (fun j => f j) = f := rfl
    rw [e] at this
    rw [← this] at hk ⊢
    rw [show Value.slice a m m = Value.slice (some ⟨sb a, so a, none⟩) m m by rw [← k1]]
    exact .slice (Nat.le_refl _) hk
theorem OwnSl.src (o : OwnSl h n0 n a z m cs) : Src h z (.slice a m m) m cs := by
  rcases o.or with ⟨k1, k2⟩ | ⟨k1, k2, k3, k4, k5⟩
  · subst k1; subst k2
    have : cs = [] := List.eq_nil_of_length_eq_zero (by have := o.len; omega)
    subst this; exact .nil
  · have hk := o.kn
    rw [← k5] at hk ⊢
    rw [show Value.slice a m m = Value.slice (some ⟨sb a, 0, none⟩) m m by rw [← k1]]
    exact .slice (Nat.le_refl _) hk
theorem OwnSl.slb {h : AH} {n0 n : Nat} {a : Option Addr} {l : List UInt8} (o : OwnSl h n0 n a 1 l.length (bytesV l)) : SlB h n a l :=
  o.slr.congr fun j hj => by simp [bytesV, bytesF, List.getD, show j < l.length by omega]
theorem SlB.src {h : AH} {n : Nat} {a : Option Addr} {l : List UInt8} (s : SlB h n a l) : Src h 1 (.slice a l.length l.length) l.length (bytesV l) := by
  have e : (List.range (l.length * 1)).map (bytesF l) = bytesV l := by
    apply List.ext_getElem
    · simp [bytesV]
    · intro i h1 h2
      have hi : i < l.length := by simpa [bytesV] using h2
      simp [bytesV, bytesF, List.getD, hi]
  have := SlR.src s (by rw [e]; exact bytesV_known l)
  rwa [e] at this
theorem SlR.two {h : AH} {n : Nat} {a : Option Addr} {z m : Nat} {f : Nat → Value} (s : SlR h n a z m f) : (a = none ∧ m = 0) ∨ ∃ b o, a = some ⟨b, o, none⟩ := by
  rcases s.shape with k | k
  · exact .inl k
  · exact .inr ⟨_, _, k.1⟩
theorem OwnSl.facts (o : OwnSl h n0 n a z m cs) (hm : 0 < m) : so a = 0 ∧ n0 ≤ sb a ∧ sb a < n ∧ h.info (sb a) = some ⟨m * z, 0, true, z⟩ ∧ SlA a m ∧ ∀ j, j < m * z → h.cell (sb a) (so a + j) = cs.getD j (.tuple #[]) := by
  have hs := o.slr
  rcases o.or with ⟨k1, k2⟩ | ⟨k1, k2, k3, k4, k5⟩
  · omega
  · exact ⟨by rw [k1]; rfl, k2, k3, k4, hs.sla, hs.cell⟩
/-- One of its cells is set. -/
theorem OwnSl.set1 {i : Nat} {v : Value} (o : OwnSl h n0 n a z m cs) (hi : i < m * z) (hv : known [v] = true) : OwnSl (h.app (.sets (sb a) (so a + i) [v])) n0 n a z m (cs.set i v) := by
  have hm : 0 < m := Nat.pos_of_ne_zero fun h0 => by subst h0; simp at hi
  have hk : ∀ (l : List Value) (i : Nat), known l = true → known (l.set i v) = true := by
    intro l
    induction l with
    | nil => intro i h; exact h
    | cons x l ih =>
      intro i h
      cases i with
      | zero => cases x <;> simp_all [known] <;> (cases v <;> simp_all [known])
      | succ i => cases x <;> simp_all [known]
  refine ⟨o.le, by simp [o.len], hk _ _ o.kn, ?_⟩
  rcases o.or with ⟨k1, k2⟩ | ⟨k1, k2, k3, k4, k5⟩
  · omega
  · have e : so a = 0 := by rw [k1]; rfl
    refine .inr ⟨k1, k2, k3, i_sets k4, ?_⟩
    apply List.ext_getElem
    · rw [rd_length]; simp [o.len]
    · intro j h1 h2
      rw [rd_length] at h1
      have e1 := rd_getD (h.app (.sets (sb a) (so a + i) [v])) (sb a) (m * z) 0 j h1
      have e2 : (rd (h.app (.sets (sb a) (so a + i) [v])) (sb a) 0 (m * z)).getD j (.tuple #[]) = (rd (h.app (.sets (sb a) (so a + i) [v])) (sb a) 0 (m * z))[j]'(by rw [rd_length]; exact h1) := by simp [List.getD, rd_length, h1]
      rw [← e2, e1]
      have h3 : j < cs.length := by rw [o.len]; exact h1
      by_cases hj : j = i
      · subst hj
        rw [c_in (v := v) (by omega) (by rw [e]; simp)]
        simp
      · rw [c_out (v := h.cell (sb a) (0 + j)) (by right; simp only [List.length_cons, List.length_nil]; omega) rfl]
        have := rd_getD h (sb a) (m * z) 0 j h1
        rw [k5] at this
        rw [← this]
        simp [List.getD, h3, List.getElem_set_ne (Ne.symm hj)]
theorem SlR.take {f : Nat → Value} {u : Nat} (s : SlR h n a z m f) (hu : u ≤ m) : SlR h n a z u f := by
  refine ⟨?_, fun j hj => s.cell j (Nat.lt_of_lt_of_le hj (Nat.mul_le_mul_right _ hu))⟩
  rcases s.shape with ⟨k1, k2⟩ | k
  · exact .inl ⟨k1, by omega⟩
  · exact .inr k
theorem SlB.take {u : Nat} {l : List UInt8} (s : SlB h n a l) (hu : u ≤ l.length) : SlB h n a (l.take u) := by
  have := SlR.take s hu
  have e : (l.take u).length = u := by simp; omega
  unfold SlB
  rw [e]
  refine this.congr fun j hj => ?_
  simp only [bytesF, List.getD, List.getElem?_take]
  rw [if_pos (by omega)]
theorem OwnSl.slbE {l : List UInt8} (o : OwnSl h n0 n a 1 m (bytesV l)) : SlB h n a l := by
  have : m = l.length := by have := o.len; rw [bytesV_length] at this; omega
  subst this; exact o.slb
theorem bytesV_set (l : List UInt8) (i v : Nat) (hv : v < 256) : (bytesV l).set i (.int .u8 (v : Nat)) = bytesV (l.set i (UInt8.ofNat v)) := by
  simp only [bytesV, List.map_set]
  congr 2
  simp [UInt8.toNat_ofNat', Nat.mod_eq_of_lt hv]
theorem SlB.takeA {h : AH} {n : Nat} {a : Option Addr} {l : List UInt8} (S : SlB h n a l) (u : Nat) : SlB h n a (l.take u) := by
  by_cases hu : u ≤ l.length
  · exact S.take hu
  · rw [List.take_of_length_le (by omega)]; exact S
theorem SlB.cut {i u : Nat} {l : List UInt8} (s : SlB h n a l) (hi : i ≤ u) (hu : u ≤ l.length) : SlB h n (Abs.sub a i) ((l.take u).drop i) := by
  have := SlR.sub s hi hu
  rw [Nat.mul_one] at this
  have e : ((l.take u).drop i).length = u - i := by simp; omega
  unfold SlB
  rw [e]
  refine this.congr fun j hj => ?_
  simp only [bytesF, List.getD, List.getElem?_drop, List.getElem?_take]
  rw [if_pos (by omega)]
theorem full_slice {a : Option Addr} {m c : Nat} : full (.slice a m c) m := rfl
end

section
variable {P : Program} {T W : Nat → Prop} {ops : Array Oper} {os : List Oper} {env : Env} {n n1 : Nat} {h h1 g : AH} {Q : Env → Nat → AH → Prop}
variable {dst : Option Tmp} {ty : TypeId} {pos : String} {after : Array Edge} {gd : Option (Nat × Bool)}

theorem SlR.extX {h h1 : AH} {n z m : Nat} {a c : Option Addr} {f : Nat → Value} (s : SlR h n a z m f) (e : ExtX n c h h1) (hne : c = none ∨ a = none ∨ sb a ≠ sb c) : SlR h1 n a z m f := by
  rcases s.shape with ⟨k1, k2⟩ | ⟨k1, k2, mm, k3, k4⟩
  · subst k1; subst k2; exact SlR.nil
  · have hx : c = none ∨ sb a ≠ sb c := by
      rcases hne with q | q | q
      · exact .inl q
      · rw [q] at k1; cases k1
      · exact .inr q
    have := e (sb a) k2 hx
    exact ⟨.inr ⟨k1, k2, mm, by rw [this.1]; exact k3, k4⟩, fun j hj => (this.2 _).trans (s.cell j hj)⟩
theorem OwnSl.at' {h : AH} {n0 n z m : Nat} {a : Option Addr} {cs : List Value} (o : OwnSl h n0 n a z m cs) : a = none ∨ n0 ≤ sb a ∧ sb a < n := by
  rcases o.or with ⟨k, _⟩ | ⟨_, k1, k2, _⟩
  · exact .inl k
  · exact .inr ⟨k1, k2⟩
theorem OwnSl.extX {h h1 : AH} {n0 n n1 z m : Nat} {a c : Option Addr} {cs : List Value} (o : OwnSl h n0 n a z m cs) (e : ExtX n c h h1) (hn : n ≤ n1) (hne : c = none ∨ a = none ∨ sb a ≠ sb c) : OwnSl h1 n0 n1 a z m cs := by
  refine ⟨by have := o.le; omega, o.len, o.kn, ?_⟩
  rcases o.or with k | ⟨k1, k2, k3, k4, k5⟩
  · exact .inl k
  · have hx : c = none ∨ sb a ≠ sb c := by
      rcases hne with q | q | q
      · exact .inl q
      · rw [q] at k1; cases k1
      · exact .inr q
    have := e (sb a) k3 hx
    exact .inr ⟨k1, k2, by omega, by rw [this.1]; exact k4, by rw [rd_congr this.2]; exact k5⟩
theorem OwnSl.extW {W : Nat → Prop} {h h1 : AH} {n0 n n1 n2 z m : Nat} {a : Option Addr} {cs : List Value} (o : OwnSl h n0 n a z m cs) (e : ExtW W n2 h h1) (hn : n ≤ n1) (hn2 : n ≤ n2) (hW : a ≠ none → ¬ W (sb a)) : OwnSl h1 n0 n1 a z m cs := by
  refine ⟨by have := o.le; omega, o.len, o.kn, ?_⟩
  rcases o.or with k | ⟨k1, k2, k3, k4, k5⟩
  · exact .inl k
  · have hw := hW (by rw [k1]; simp)
    exact .inr ⟨k1, k2, by omega, by rw [e.info _ (by omega) hw]; exact k4, by rw [rd_congr (fun i => e.cell _ i (by omega) hw)]; exact k5⟩
theorem ExtW.ofX {W : Nat → Prop} {h h1 : AH} {n : Nat} {a : Option Addr} (e : ExtX n a h h1) (hW : a ≠ none → W (sb a)) : ExtW W n h h1 := by
  have hx : ∀ b, ¬ W b → a = none ∨ b ≠ sb a := fun b hw => by
    by_cases q : a = none
    · exact .inl q
    · exact .inr fun e => hw (e ▸ hW q)
  exact ⟨fun b hb hw => (e b hb (hx b hw)).1, fun b i hb hw => (e b hb (hx b hw)).2 i⟩
/-- append(nil, y...) in a region that draws its order. -/
theorem RD.appendN {q : Tmp} {t t2 e : TypeId} {d d2 : TypeDesc} {z by_ : Nat} {zv : Value} {x y : Operand} {m : Nat} {a : Option Addr} {f : Nat → Value} {h0 : AH} {n0 : Nat} {ps : List Ft} [hu : Uc P t (.slice e)] [hz : Tc P e d z by_ zv] [hu2 : Uc P t2 d2]
    (hw : wants ops ⟨some q, .call { callee := .builtin .append, args := #[x, y], argTypes := #[t, t2] }, ty, pos, after, gd⟩ env = some true) (hx : Opd env x (.slice none 0 0)) (hy : Opd env y (.slice a m m)) (S : SlR h0 n0 a z m f) (E : Ext n0 h0 h) (hn : n0 ≤ n) (hb : sb a < n)
    (hk : known ((List.range (m * z)).map f) = true) (hbig : m * by_ ≤ 140737488355328) (hc : CF ops ps.length (· = sb a) none' ps.length ps)
    (K : ∀ a' n1 h1, n ≤ n1 → OwnSl h1 n n1 a' z m ((List.range (m * z)).map f) → Ext n h h1 → RD P T ops (⟨(· = sb a), none', n, n1⟩ :: ps) os ((q, .slice a' m m) :: env) n1 h1 Q)
    (c1 : Nat.beq z 0 = false := by rfl) (c2 : zv.cells.size = z := by rfl) (c3 : Nat.beq by_ 0 = false := by rfl) (c4 : notIntD d2 = true := by rfl) :
    RD P T ops ps (⟨some q, .call { callee := .builtin .append, args := #[x, y], argTypes := #[t, t2] }, ty, pos, after, gd⟩ :: os) env n h Q := by
  have hz0 : z ≠ 0 := fun h => by subst h; simp at c1
  have hb0 : by_ ≠ 0 := fun h => by subst h; simp at c3
  have he : EL P t t2 z by_ := ⟨e, d, zv, d2, hu.out, hz.out, hz0, c2, hb0, hu2.out, c4⟩
  by_cases hm : m = 0
  · subst hm
    have h0' : Src AH.empty z (.slice a 0 0) 0 [] := by
      rcases S.shape with ⟨k1, _⟩ | ⟨k1, _⟩
      · subst k1; exact Src.nil
      · rw [k1]
        have := Src.slice (g := AH.empty) (z := z) (b := sb a) (o := so a) (m := 0) (k := 0) (Nat.le_refl _) (by simp [rd, known])
        simpa [rd] using this
    refine RD.op (· = sb a) none' hw (o_append0 he hx hy h0' full_slice) (AH.empty_le _) empty_looks (fun _ e => by subst e; exact hb) (fun b hb => (Dl.touches_nil hb).elim) hc (h1 := h) (by rw [AH.app_nil]; exact .refl _) ?_
    exact K none n h (Nat.le_refl _) (by simpa using OwnSl.nil (Nat.le_refl _)) (Ext.refl _ _)
  · rcases S.shape with ⟨_, k⟩ | ⟨k1, k2, mm, k3, k4⟩
    · exact absurd k hm
    · have S' : SlR (h.only (sb a)) n0 a z m f := ⟨.inr ⟨k1, k2, mm, i_only (by rw [E.info _ k2]; exact k3), k4⟩, fun j hj => c_only ((E.cell _ _ k2).trans (S.cell j hj))⟩
      have hsr := S'.src hk
      have hlx := hsr.length
      refine RD.op (· = sb a) none' hw (o_appendNil he hx hy hsr full_slice hm hbig) (AH.only_le _ _) (fun _ hx => AH.only_looks hx) (fun _ e => by subst e; omega) (fun b hb => ?_) hc (.refl _) (K _ _ _ (Nat.le_succ _) ?_ (Ext.appNew (Nat.le_refl _) (Ext.refl _ _)))
      · rcases hb with h1 | ⟨i, h1⟩ <;> (simp only [Dl.new] at h1; split at h1) <;> first | omega | exact absurd rfl h1
      · rw [hlx]; exact .new (Nat.le_refl _) hlx hk
/-- A call of a function value that looks at no memory. -/
theorem RD.callv0 {d : Tmp} {f : FuncId} {x : Operand} {xs : List Operand} {vs : List Value} {ts : Array TypeId} {r : Value} {ps : List Ft} (hw : wants ops ⟨some d, .call { callee := .value x, args := xs.toArray, argTypes := ts }, ty, pos, after, gd⟩ env = some true)
    (hf : Opd env x (.func (.func f) #[] #[])) (hx : Opds env xs vs) (hev : Ev P none' f vs.toArray n .empty r n .empty) (k : RD P T ops (.no n n :: ps) os ((d, r) :: env) n h Q) :
    RD P T ops ps (⟨some d, .call { callee := .value x, args := xs.toArray, argTypes := ts }, ty, pos, after, gd⟩ :: os) env n h Q := by
  have hev2 : Ev P none' f (xs.toArray.map (ev env) ++ #[]) n .empty r n .empty := by rw [hx.mapA]; simpa using hev
  obtain ⟨dl, hle, hwi, ho⟩ := op_callv (T := T) (ty := ty) (dst := some d) (pos := pos) (after := after) (gd := gd) (ts := ts) hf.ev hev2 (fun _ h => h.elim)
  have hno : ∀ b, ¬ dl.touches b := fun b hb => by
    have := hwi b hb
    rcases this.1 with h1 | h1
    · exact h1
    · omega
  refine RD.op none' none' hw ho (AH.empty_le _) empty_looks (fun _ h => h.elim) (fun b hb => absurd hb (hno b)) (CF.pure ps) ?_ k
  have e : h.app dl = h := by
    have hi : ∀ b, dl.info b = none := fun b => Classical.byContradiction fun q => hno b (.inl q)
    have hc : ∀ b i, dl.cell b i = none := fun b i => Classical.byContradiction fun q => hno b (.inr ⟨i, q⟩)
    simp [AH.app, hi, hc]
  rw [e]; exact .refl _
/-- A call that only answers: memory is as it was. -/
theorem RD.callP {d : Tmp} {f : FuncId} {xs : List Operand} {vs : List Value} {ts : Array TypeId} {r : Value} {ps : List Ft} (nb : Nat) (hw : wants ops ⟨some d, .call { callee := .value (.func f), args := xs.toArray, argTypes := ts }, ty, pos, after, gd⟩ env = some true)
    (hx : Opds env xs vs) (hev : Ev P none' f vs.toArray n (h.below nb) r n (h.below nb)) (hnb : nb ≤ n) (hc : CF ops ps.length (· < nb) none' ps.length ps) (k : RD P T ops (⟨(· < nb), none', n, n⟩ :: ps) os ((d, r) :: env) n h Q) :
    RD P T ops ps (⟨some d, .call { callee := .value (.func f), args := xs.toArray, argTypes := ts }, ty, pos, after, gd⟩ :: os) env n h Q := by
  rw [← hx.mapA] at hev
  obtain ⟨dl, hle, hwi, ho⟩ := op_call (T := T) (ty := ty) (dst := some d) (pos := pos) (after := after) (gd := gd) (ts := ts) hev (fun _ h => h.elim)
  have hno : ∀ b, ¬ dl.touches b := fun b hb => by
    have := hwi b hb
    rcases this.1 with h1 | h1
    · exact h1
    · omega
  refine RD.op (· < nb) none' hw ho (AH.below_le _ _) (fun _ hx => AH.below_looks hx) (fun _ e => Nat.lt_of_lt_of_le e hnb) (fun b hb => absurd hb (hno b)) hc ?_ k
  have e : h.app dl = h := by
    have hi : ∀ b, dl.info b = none := fun b => Classical.byContradiction fun q => hno b (.inl q)
    have hc : ∀ b i, dl.cell b i = none := fun b i => Classical.byContradiction fun q => hno b (.inr ⟨i, q⟩)
    simp [AH.app, hi, hc]
  rw [e]; exact .refl _
/-- append(x, make(l)...) to a row of one's own. -/
theorem RS.appendZT {q : Tmp} {t t2 e : TypeId} {d : TypeDesc} {kk qq : IntKind} {z by_ : Nat} {zv : Value} {x y : Operand} {a : Option Addr} {n0 m : Nat} {l : Int} {cs : List Value} [hu : Uc P t (.slice e)] [hz : Tc P e d z by_ zv] [hu2 : Uc P t2 (.int qq)]
    (hw : wants ops ⟨some q, .call { callee := .builtin .append, args := #[x, y], argTypes := #[t, t2] }, ty, pos, after, gd⟩ env = some true) (hx : Opd env x (.slice a m m)) (hy : Opd env y (.int kk l)) (hO : OwnSl h n0 n a z m cs) (hl : 0 < l)
    (hT : a ≠ none → T (sb a)) (hbig : (m + l.toNat) * by_ ≤ 140737488355328) (hkn : known (zrow zv.cells.toList l.toNat) = true)
    (K : ∀ a' n1 h1, n ≤ n1 → OwnSl h1 n0 n1 a' z (m + l.toNat) (cs ++ zrow zv.cells.toList l.toNat) → ExtX n a h h1 → (a' = a ∨ n ≤ sb a') → RS P T ops os ((q, .slice a' (m + l.toNat) (m + l.toNat)) :: env) n1 h1 Q)
    (c1 : Nat.beq z 0 = false := by rfl) (c2 : zv.cells.size = z := by rfl) (c3 : Nat.beq by_ 0 = false := by rfl) (c4 : zv.cells.all (flat 8) = true := by first | rfl | (simp [Value.cells, flat]; done)) :
    RS P T ops (⟨some q, .call { callee := .builtin .append, args := #[x, y], argTypes := #[t, t2] }, ty, pos, after, gd⟩ :: os) env n h Q := by
  have hz0 : z ≠ 0 := fun h => by subst h; simp at c1
  have hb0 : by_ ≠ 0 := fun h => by subst h; simp at c3
  have hlim : l.toNat * by_ ≤ 140737488355328 := Nat.le_trans (Nat.mul_le_mul_right _ (by omega)) hbig
  have hY : AppY P t t2 ty e z by_ zv h (ev env y) l.toNat (zrow zv.cells.toList l.toNat) := by
    rw [hy.ev]; exact AppY.zeros hu.out hz.out hz0 hb0 c2 c4 hu2.out (by omega) hlim hkn
  have hlx := hY.len
  have happ : ∀ (l m : List Value), known l = true → known m = true → known (l ++ m) = true := by
    intro l m hl hm
    induction l with
    | nil => exact hm
    | cons v l ih => cases v <;> simp_all [known]
  rcases hO.or with ⟨k1, k2⟩ | ⟨k1, k2, k3, k4, k5⟩
  · subst k1; subst k2
    have : cs = [] := List.eq_nil_of_length_eq_zero (by have := hO.len; omega)
    subst this
    simp only [Nat.zero_add, List.nil_append] at K hbig
    refine RS.mem hw rfl (op_appendNilY hu.out hz.out hz0 c2 hx.ev hY (by omega) hlim) (K _ _ _ (Nat.le_succ _) ?_ ?_ (.inr (Nat.le_refl _)))
    · rw [hlx]; exact .new hO.le hlx hkn
    · exact fun x hx _ => ⟨by simp [AH.app, Dl.new, show x ≠ n by omega], fun i => by simp [AH.app, Dl.new, show x ≠ n by omega]⟩
  · have hx' := hx.ev
    rw [k1] at hx'
    have hop := op_appendY (P := P) (T := T) (n := n) (g := h) (env := env) (dst := some q) (ty := ty) (pos := pos) (after := after) (gd := gd) (mm := ⟨m * z, 0, true, z⟩) false hu.out hz.out hz0 c2 hx' hY k4 rfl rfl rfl (by rw [k5]; exact hO.kn) (.inl (hT (by rw [k1]; simp))) k3 (by omega) hbig
    rw [k5] at hop
    refine RS.mem hw rfl hop (K _ _ _ (Nat.le_succ _) ?_ ?_ (.inr (Nat.le_refl _)))
    · have hl2 : (cs ++ zrow zv.cells.toList l.toNat).length = (m + l.toNat) * z := by rw [List.length_append, hO.len, hlx, Nat.add_mul]
      refine ⟨by have := hO.le; omega, hl2, happ _ _ hO.kn hkn, .inr ⟨rfl, by have := hO.le; show n0 ≤ n; omega, by show n < n + 1; omega, ?_, ?_⟩⟩
      · have := i_take (h := h) (b := sb a) (n := n) (sz := m * z) (lk := 0) (ez := z) (keep := false) (cs := cs ++ zrow zv.cells.toList l.toNat)
        rw [hl2] at this; exact this
      · exact r_take hl2.symm
    · intro x hx hne
      have hne' : x ≠ sb a := by
        rcases hne with h | h
        · rw [h] at k1; cases k1
        · exact h
      exact ⟨by simp [AH.app, Dl.takeover, show x ≠ n by omega, hne'], fun i => by simp [AH.app, Dl.takeover, show x ≠ n by omega, hne']⟩
/-- A method, called through an interface. -/
theorem RS.invoke {d : Tmp} {f : FuncId} {x : Operand} {t : TypeId} {v : Value} {nm : String} {xs : List Operand} {vs : List Value} {ts : Array TypeId} {W : Nat → Prop} {QC : Value → Nat → AH → Prop} [Mc P t nm f]
    (hw : wants ops ⟨some d, .call { callee := .invoke x nm, args := xs.toArray, argTypes := ts }, ty, pos, after, gd⟩ env = some true) (hi : Opd env x (.iface t v)) (hx : Opds env xs vs) (hev : RF P W f (v :: vs).toArray n h QC) (hW : ∀ b, W b → T b)
    (k : ∀ r n1 h1, n ≤ n1 → QC r n1 h1 → RS P T ops os ((d, r) :: env) n1 h1 Q) : RS P T ops (⟨some d, .call { callee := .invoke x nm, args := xs.toArray, argTypes := ts }, ty, pos, after, gd⟩ :: os) env n h Q := by
  obtain ⟨r, n1, h1, hev, hq⟩ := hev
  have hev2 : Ev P W f (#[v] ++ xs.toArray.map (ev env)) n h r n1 h1 := by rw [hx.mapA]; simpa using hev
  obtain ⟨dl, hle, _, ho⟩ := op_invokeC (T := T) (name := nm) (ty := ty) (dst := some d) (pos := pos) (after := after) (gd := gd) (ts := ts) hi.ev hev2 hW
  exact RS.op hw ho hle (k r n1 h1 ho.le hq)
/-- The same in a region that draws its order: it looks at what lies below nb and turns W. -/
theorem RD.invoke {d : Tmp} {f : FuncId} {x : Operand} {t : TypeId} {v : Value} {nm : String} {xs : List Operand} {vs : List Value} {ts : Array TypeId} {W : Nat → Prop} {QC : Value → Nat → AH → Prop} {ps : List Ft} [Mc P t nm f] (nb : Nat)
    (hw : wants ops ⟨some d, .call { callee := .invoke x nm, args := xs.toArray, argTypes := ts }, ty, pos, after, gd⟩ env = some true) (hi : Opd env x (.iface t v)) (hx : Opds env xs vs) (hev : RF P W f (v :: vs).toArray n (h.below nb) QC) (hW : ∀ b, W b → T b)
    (hnb : nb ≤ n) (hc : CF ops ps.length (· < nb) W ps.length ps) (k : ∀ r n1 h1, n ≤ n1 → QC r n1 h1 → RD P T ops (⟨(· < nb), W, n, n1⟩ :: ps) os ((d, r) :: env) n1 h1 Q) :
    RD P T ops ps (⟨some d, .call { callee := .invoke x nm, args := xs.toArray, argTypes := ts }, ty, pos, after, gd⟩ :: os) env n h Q := by
  obtain ⟨r, n1, h1, hev, hq⟩ := hev
  have hev2 : Ev P W f (#[v] ++ xs.toArray.map (ev env)) n (h.below nb) r n1 h1 := by rw [hx.mapA]; simpa using hev
  obtain ⟨dl, hle, hwi, ho⟩ := op_invokeC (T := T) (name := nm) (ty := ty) (dst := some d) (pos := pos) (after := after) (gd := gd) (ts := ts) hi.ev hev2 hW
  exact RD.op (· < nb) W hw ho (AH.below_le _ _) (fun _ hx => AH.below_looks hx) (fun _ e => Nat.lt_of_lt_of_le e hnb) (fun b hb => (hwi b hb).1) hc (hle.trans ((AH.below_le h nb).app dl)) (k r n1 h1 ho.le hq)
/-- A call of a function value that holds what it has captured. -/
theorem RS.callv {d : Tmp} {f : FuncId} {x : Operand} {caps : List Value} {xs : List Operand} {vs : List Value} {ts : Array TypeId} {W : Nat → Prop} {QC : Value → Nat → AH → Prop}
    (hw : wants ops ⟨some d, .call { callee := .value x, args := xs.toArray, argTypes := ts }, ty, pos, after, gd⟩ env = some true) (hf : Opd env x (.func (.func f) #[] caps.toArray)) (hx : Opds env xs vs) (hev : RF P W f (vs ++ caps).toArray n h QC) (hW : ∀ b, W b → T b)
    (k : ∀ r n1 h1, n ≤ n1 → QC r n1 h1 → RS P T ops os ((d, r) :: env) n1 h1 Q) : RS P T ops (⟨some d, .call { callee := .value x, args := xs.toArray, argTypes := ts }, ty, pos, after, gd⟩ :: os) env n h Q := by
  obtain ⟨r, n1, h1, hev, hq⟩ := hev
  have hev2 : Ev P W f (xs.toArray.map (ev env) ++ caps.toArray) n h r n1 h1 := by rw [hx.mapA]; simpa using hev
  obtain ⟨dl, hle, _, ho⟩ := op_callv (T := T) (ty := ty) (dst := some d) (pos := pos) (after := after) (gd := gd) (ts := ts) hf.ev hev2 hW
  exact RS.op hw ho hle (k r n1 h1 ho.le hq)
/-- append to a row of one's own. -/
theorem RS.appendT {q : Tmp} {t t2 e : TypeId} {d d2 : TypeDesc} {z by_ : Nat} {zv : Value} {x y : Operand} {a : Option Addr} {n0 m k : Nat} {v : Value} {xs cs : List Value} [hu : Uc P t (.slice e)] [hz : Tc P e d z by_ zv] [hu2 : Uc P t2 d2]
    (hw : wants ops ⟨some q, .call { callee := .builtin .append, args := #[x, y], argTypes := #[t, t2] }, ty, pos, after, gd⟩ env = some true) (hx : Opd env x (.slice a m m)) (hy : Opd env y v) (hO : OwnSl h n0 n a z m cs) (hs : Src h z v k xs) (hf : full v k)
    (hT : a ≠ none → T (sb a)) (hbig : (m + k) * by_ ≤ 140737488355328)
    (K : ∀ a' n1 h1, n ≤ n1 → OwnSl h1 n0 n1 a' z (m + k) (cs ++ xs) → ExtX n a h h1 → (a' = a ∨ n ≤ sb a') → RS P T ops os ((q, .slice a' (m + k) (m + k)) :: env) n1 h1 Q)
    (c1 : Nat.beq z 0 = false := by rfl) (c2 : zv.cells.size = z := by rfl) (c3 : Nat.beq by_ 0 = false := by rfl) (c4 : notIntD d2 = true := by rfl) :
    RS P T ops (⟨some q, .call { callee := .builtin .append, args := #[x, y], argTypes := #[t, t2] }, ty, pos, after, gd⟩ :: os) env n h Q := by
  have hz0 : z ≠ 0 := fun h => by subst h; simp at c1
  have hb0 : by_ ≠ 0 := fun h => by subst h; simp at c3
  have he : EL P t t2 z by_ := ⟨e, d, zv, d2, hu.out, hz.out, hz0, c2, hb0, hu2.out, c4⟩
  have hlx := hs.length
  have hkx := hs.known
  have happ : ∀ (l m : List Value), known l = true → known m = true → known (l ++ m) = true := by
    intro l m hl hm
    induction l with
    | nil => exact hm
    | cons v l ih => cases v <;> simp_all [known]
  by_cases hk0 : k = 0
  · subst hk0
    have : xs = [] := List.eq_nil_of_length_eq_zero (by simpa using hlx)
    subst this
    refine RS.put hw rfl (o_append0 he hx hy hs hf) (K a n h (Nat.le_refl _) (by simpa using hO) (fun _ _ _ => ⟨rfl, fun _ => rfl⟩) (.inl rfl))
  · rcases hO.or with ⟨k1, k2⟩ | ⟨k1, k2, k3, k4, k5⟩
    · subst k1; subst k2
      have : cs = [] := List.eq_nil_of_length_eq_zero (by have := hO.len; omega)
      subst this
      simp only [Nat.zero_add, List.nil_append] at K hbig
      refine RS.mem hw rfl (o_appendNil he hx hy hs hf hk0 hbig) (K _ _ _ (Nat.le_succ _) ?_ ?_ (.inr (Nat.le_refl _)))
      · rw [hlx]; exact .new hO.le hlx hkx
      · exact fun x hx _ => ⟨by simp [AH.app, Dl.new, show x ≠ n by omega], fun i => by simp [AH.app, Dl.new, show x ≠ n by omega]⟩
    · have hx' := hx
      rw [k1] at hx'
      refine RS.mem hw rfl (o_append false he hx' hy hs hf k4 k5 hO.kn (.inl (hT (by rw [k1]; simp))) k3 hk0 hbig) (K _ _ _ (Nat.le_succ _) ?_ ?_ (.inr (Nat.le_refl _)))
      · have hl2 : (cs ++ xs).length = (m + k) * z := by rw [List.length_append, hO.len, hlx, Nat.add_mul]
        refine ⟨by have := hO.le; omega, hl2, happ _ _ hO.kn hkx, .inr ⟨rfl, by have := hO.le; show n0 ≤ n; omega, by show n < n + 1; omega, ?_, ?_⟩⟩
        · have := i_take (h := h) (b := sb a) (n := n) (sz := m * z) (lk := 0) (ez := z) (keep := false) (cs := cs ++ xs)
          rw [hl2] at this; exact this
        · exact r_take hl2.symm
      · intro x hx hne
        have hne' : x ≠ sb a := by
          rcases hne with h | h
          · rw [h] at k1; cases k1
          · exact h
        exact ⟨by simp [AH.app, Dl.takeover, show x ≠ n by omega, hne'], fun i => by simp [AH.app, Dl.takeover, show x ≠ n by omega, hne']⟩

/-- append to a row of one's own, made by this function. -/
theorem RS.append {q : Tmp} {t t2 e : TypeId} {d d2 : TypeDesc} {z by_ : Nat} {zv : Value} {x y : Operand} {a : Option Addr} {n0 m k : Nat} {v : Value} {xs cs : List Value} [hu : Uc P t (.slice e)] [hz : Tc P e d z by_ zv] [hu2 : Uc P t2 d2]
    (hw : wants ops ⟨some q, .call { callee := .builtin .append, args := #[x, y], argTypes := #[t, t2] }, ty, pos, after, gd⟩ env = some true) (hx : Opd env x (.slice a m m)) (hy : Opd env y v) (hO : OwnSl h n0 n a z m cs) (hs : Src h z v k xs) (hf : full v k)
    (hT : ∀ b, n0 ≤ b → T b) (hbig : (m + k) * by_ ≤ 140737488355328)
    (K : ∀ a' n1 h1, n ≤ n1 → OwnSl h1 n0 n1 a' z (m + k) (cs ++ xs) → ExtX n a h h1 → (a' = a ∨ n ≤ sb a') → RS P T ops os ((q, .slice a' (m + k) (m + k)) :: env) n1 h1 Q)
    (c1 : Nat.beq z 0 = false := by rfl) (c2 : zv.cells.size = z := by rfl) (c3 : Nat.beq by_ 0 = false := by rfl) (c4 : notIntD d2 = true := by rfl) :
    RS P T ops (⟨some q, .call { callee := .builtin .append, args := #[x, y], argTypes := #[t, t2] }, ty, pos, after, gd⟩ :: os) env n h Q :=
  RS.appendT hw hx hy hO hs hf (fun q => hT _ (hO.at'.resolve_left q).1) hbig K c1 c2 c3 c4

/-- A contract that tells the answer alone, where that holds no address. -/
theorem RF.pure {f : FuncId} {args : Array Value} {v : Value} (hv : flat 8 v = true) (k : ∀ m, n ≤ m → RF P none' f args m h (fun r _ _ => r = v)) : Ev P none' f args n h v n h :=
  Ev.pure (fun _ h => h) hv fun m hm => by
    obtain ⟨r, n', h', hev, rfl⟩ := k m hm
    exact ⟨n', h', hev⟩
theorem none'W {T : Nat → Prop} : ∀ b, none' b → T b := fun _ h => h.elim
end
end Go.Abs
