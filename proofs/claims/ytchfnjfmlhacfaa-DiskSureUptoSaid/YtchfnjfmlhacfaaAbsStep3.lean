/- Stepping: the end of a function; rows that are made, cut, appended to. -/
import Derived.Test.YtchfnjfmlhacfaaAbsStep2
import Derived.Test.YtchfnjfmlhacfaaAbsEntry
namespace Go.Abs
open Go.RowKit

/-- What a result variable holds, looked up. -/
inductive RV (P : Program) (env : Env) (h : AH) : ResultVar → Value → Prop
  | tmp {t v} (hl : Look env t v) : RV P env h (.tmp t) v
  | cell {a b o : Nat} {t : TypeId} {d : TypeDesc} {by_ : Nat} {zv v : Value} (hl : Look env a (.pointer (some ⟨b, o, none⟩))) (hz : TI P t d 1 by_ zv) (ha : isAggD d = false) (hv : h.cell b o = v) (hk : v ≠ .tuple #[]) : RV P env h (.cell a t) v
  | agg {a b o : Nat} {t : TypeId} {d : TypeDesc} {z by_ : Nat} {zv : Value} {vs : List Value} (hl : Look env a (.pointer (some ⟨b, o, none⟩))) (hz : TI P t d z by_ zv) (ha : isAggD d = true) (hv : rd h b o z = vs) (hk : known vs = true) : RV P env h (.cell a t) (.agg vs.toArray)
theorem RV.res {P : Program} {env : Env} {h : AH} {rv : ResultVar} {v : Value} (r : RV P env h rv v) : ResV P env h rv v := by
  cases r with
  | tmp hl => rw [← hl.get]; exact .tmp
  | cell hl hz ha hv hk => exact .cell hz hl.get ha hv hk
  | agg hl hz ha hv hk => subst hv; exact .agg hz hl.get ha hk

section
variable {P : Program} {fn : Func} {Q : Value → Nat → AH → Prop} {env : Env} {n : Nat} {h : AH}
theorem endC.one {rv : ResultVar} {v : Value} (hr : fn.results.toList = [rv]) (x : RV P env h rv v) (k : Q v n h) : endC P fn Q .ret env n h :=
  ⟨.inr rfl, [v], by rw [hr]; exact .cons x.res .nil, k⟩
theorem endC.two {r1 r2 : ResultVar} {v1 v2 : Value} (hr : fn.results.toList = [r1, r2]) (x : RV P env h r1 v1) (y : RV P env h r2 v2) (k : Q (.tuple #[v1, v2]) n h) : endC P fn Q .ret env n h :=
  ⟨.inr rfl, [v1, v2], by rw [hr]; exact .cons x.res (.cons y.res .nil), k⟩
theorem endC.three {r1 r2 r3 : ResultVar} {v1 v2 v3 : Value} (hr : fn.results.toList = [r1, r2, r3]) (x : RV P env h r1 v1) (y : RV P env h r2 v2) (z : RV P env h r3 v3) (k : Q (.tuple #[v1, v2, v3]) n h) : endC P fn Q .ret env n h :=
  ⟨.inr rfl, [v1, v2, v3], by rw [hr]; exact .cons x.res (.cons y.res (.cons z.res .nil)), k⟩
theorem endC.none0 (hr : fn.results.toList = []) (k : Q (.tuple #[]) n h) : endC P fn Q .ret env n h :=
  ⟨.inr rfl, [], by rw [hr]; exact .nil, k⟩
theorem endC.noneN (hr : fn.results.toList = []) (k : Q (.tuple #[]) n h) : endC P fn Q .normal env n h :=
  ⟨.inl rfl, [], by rw [hr]; exact .nil, k⟩
end

/-- A row of known cells. -/
def Row (h : AH) (b o : Nat) (cs : List Value) : Prop := rd h b o cs.length = cs

section
variable {P : Program} {T W : Nat → Prop} {ops : Array Oper} {os : List Oper} {env : Env} {n n1 : Nat} {h h1 g : AH} {Q : Env → Nat → AH → Prop}
variable {dst : Option Tmp} {ty : TypeId} {pos : String} {after : Array Edge} {gd : Option (Nat × Bool)}

theorem op_buildSlice0 {t e : TypeId} {d : TypeDesc} {z by_ : Nat} {zv : Value} (hu : P.underlying t = some (.slice e)) (hz : TI P e d z by_ zv) :
    OpEv P T ⟨dst, .buildSlice t 0 #[], ty, pos, after, gd⟩ env n g (.slice (some ⟨n, 0, none⟩) 0 0) (n + 1) (.new n ⟨0, 0, true, z⟩ []) :=
  op_new (cs := []) (x := z) fun w0 ρ w H ce hl hs hop => by
    have hr : (underlying t).run P w = .ok (.slice e) w := by simp [underlying, hu]
    refine ⟨w, #[], e, .slice (some ⟨w.heap.size, 0, none⟩) 0 0, hs, by simp, fun i hi => by simp at hi, ?_, ?_⟩
    · simp [execOp, Instr.buildSlice, hr, hz.run_sizeOf, newRow, Instr.fill]; congr 2; exact Array.eq_empty_of_size_eq_zero (by simp)
    · exact .slice0 (L := ⟨w.heap.size, 0, 0, z⟩) _ (Ren.set_self _ _ _)

theorem RS.build0 {t e : TypeId} {s : Tmp} {d : TypeDesc} {z by_ : Nat} {zv : Value} (hw : wants ops ⟨some s, .buildSlice t 0 #[], ty, pos, after, gd⟩ env = some true) (hu : P.underlying t = some (.slice e)) (hz : TI P e d z by_ zv)
    (k : RS P T ops os ((s, .slice (some ⟨n, 0, none⟩) 0 0) :: env) (n + 1) (h.app (.new n ⟨0, 0, true, z⟩ [])) Q) : RS P T ops (⟨some s, .buildSlice t 0 #[], ty, pos, after, gd⟩ :: os) env n h Q :=
  RS.mem hw rfl (op_buildSlice0 hu hz) k

/-- What an append's element type is like. -/
structure EL (P : Program) (t t2 : TypeId) (z by_ : Nat) : Prop where
  out : ∃ e d zv d2, P.underlying t = some (.slice e) ∧ TI P e d z by_ zv ∧ z ≠ 0 ∧ zv.cells.size = z ∧ by_ ≠ 0 ∧ P.underlying t2 = some d2 ∧ notIntD d2 = true

/-- append(x, y...): nothing is appended. -/
theorem o_append0 {t t2 : TypeId} {x y : Operand} {a : Option Addr} {m c z by_ : Nat} {v : Value} (he : EL P t t2 z by_) (hx : Opd env x (.slice a m c)) (hy : Opd env y v) (hs : Src g z v 0 []) (hf : full v 0) :
    OpEv P T ⟨dst, .call { callee := .builtin .append, args := #[x, y], argTypes := #[t, t2] }, ty, pos, after, gd⟩ env n g (.slice a m c) n .nil := by
  obtain ⟨e, d, zv, d2, h1, h2, h3, h4, h5, h6, h7⟩ := he
  have := op_append0 (P := P) (T := T) (n := n) (g := g) (env := env) (dst := dst) (ty := ty) (pos := pos) (after := after) (gd := gd) h1 h2 h3 h6 h7 hx.ev (hy.ev.symm ▸ hs) (hy.ev.symm ▸ hf)
  rw [hx.ev] at this; exact this
theorem o_appendNil {t t2 : TypeId} {x y : Operand} {z by_ k : Nat} {v : Value} {xs : List Value} (he : EL P t t2 z by_) (hx : Opd env x (.slice none 0 0)) (hy : Opd env y v) (hs : Src g z v k xs) (hf : full v k) (hk0 : k ≠ 0) (hbig : k * by_ ≤ 140737488355328) :
    OpEv P T ⟨dst, .call { callee := .builtin .append, args := #[x, y], argTypes := #[t, t2] }, ty, pos, after, gd⟩ env n g (.slice (some ⟨n, 0, none⟩) k k) (n + 1) (.new n ⟨xs.length, 0, true, z⟩ xs) := by
  obtain ⟨e, d, zv, d2, h1, h2, h3, h4, h5, h6, h7⟩ := he
  exact op_appendNil h1 h2 h3 h4 h5 h6 h7 hx.ev (hy.ev.symm ▸ hs) (hy.ev.symm ▸ hf) hk0 hbig
theorem o_append {t t2 : TypeId} {x y : Operand} {z by_ k b m lk : Nat} {v : Value} {xs cs : List Value} (keep : Bool) (he : EL P t t2 z by_) (hx : Opd env x (.slice (some ⟨b, 0, none⟩) m m)) (hy : Opd env y v) (hs : Src g z v k xs) (hf : full v k)
    (hi : g.info b = some ⟨m * z, lk, true, z⟩) (hr : rd g b 0 (m * z) = cs) (hkn : known cs = true) (hT : T b ∨ n ≤ b) (hbn : b < n) (hk0 : k ≠ 0) (hbig : (m + k) * by_ ≤ 140737488355328) :
    OpEv P T ⟨dst, .call { callee := .builtin .append, args := #[x, y], argTypes := #[t, t2] }, ty, pos, after, gd⟩ env n g (.slice (some ⟨n, 0, none⟩) (m + k) (m + k)) (n + 1)
      (.takeover b n keep (m * z) (if keep then m * z else lk) z (cs ++ xs)) := by
  obtain ⟨e, d, zv, d2, h1, h2, h3, h4, h5, h6, h7⟩ := he
  subst hr
  exact op_append (mm := ⟨m * z, lk, true, z⟩) keep h1 h2 h3 h4 h5 h6 h7 hx.ev (hy.ev.symm ▸ hs) (hy.ev.symm ▸ hf) hi rfl rfl rfl hkn hT hbn hk0 hbig

theorem o_slice {t e : TypeId} {x : Operand} {lo hi : Option Operand} {b o m : Nat} {l u : Nat} {mm : Meta} {d : TypeDesc} {z by_ : Nat} {zv : Value} (hx : Opd env x (.slice (some ⟨b, o, none⟩) m m)) (hu : P.underlying t = some (.slice e))
    (hz : TI P e d z by_ zv) (hlo : bound env lo 0 l) (hhi : bound env hi m u) (hlh : l ≤ u) (hhm : u ≤ m) (hm : g.info b = some mm) (hsz : mm.sz = 0 ∨ mm.sz = z) :
    OpEv P T ⟨dst, .slice t x lo hi none, ty, pos, after, gd⟩ env n g (.slice (some ⟨b, o + l * z, none⟩) (u - l) (u - l)) n .nil := op_slice hu hz hx.ev hlo hhi hlh hhm hm hsz
theorem bound.none {dflt : Int} : bound env none dflt dflt := rfl
theorem bound.some {y : Operand} {dflt v : Int} {k : IntKind} (h : Opd env y (.int k v)) : bound env (Option.some y) dflt v := ⟨k, h.ev⟩
theorem bound.someN {y : Operand} {dflt v : Int} {k : IntKind} {w : Nat} (h : Opd env y (.int k v)) (e : v = w) : bound env (Option.some y) dflt w := ⟨k, e ▸ h.ev⟩

/-! The heap behind an append. -/
theorem c_take {h : AH} {b n sz lk ez i : Nat} {keep : Bool} {cs : List Value} {v : Value} (hv : cs[i]? = some v) : (h.app (.takeover b n keep sz lk ez cs)).cell n i = v := by simp [AH.app, Dl.takeover, List.getD, hv]
theorem c_take_ne {h : AH} {b n sz lk ez i x : Nat} {keep : Bool} {cs : List Value} {v : Value} (h1 : x ≠ n) (h2 : x ≠ b) (k : h.cell x i = v) : (h.app (.takeover b n keep sz lk ez cs)).cell x i = v := by simp [AH.app, Dl.takeover, h1, h2, k]
theorem i_take {h : AH} {b n sz lk ez : Nat} {keep : Bool} {cs : List Value} : (h.app (.takeover b n keep sz lk ez cs)).info n = some ⟨cs.length, lk, true, ez⟩ := by simp [AH.app, Dl.takeover]
theorem i_take_ne {h : AH} {b n sz lk ez x : Nat} {keep : Bool} {cs : List Value} {q : Option Meta} (h1 : x ≠ n) (h2 : x ≠ b) (k : h.info x = q) : (h.app (.takeover b n keep sz lk ez cs)).info x = q := by simp [AH.app, Dl.takeover, h1, h2, k]
theorem c_ext {h h1 : AH} {m b i : Nat} {v : Value} (e : Ext m h h1) (hb : b < m) (k : h.cell b i = v) : h1.cell b i = v := (e.cell b i hb).trans k
theorem i_ext {h h1 : AH} {m b : Nat} {q : Option Meta} (e : Ext m h h1) (hb : b < m) (k : h.info b = q) : h1.info b = q := (e.info b hb).trans k

theorem rd_congr {h h1 : AH} {b : Nat} (e : ∀ i, h1.cell b i = h.cell b i) : ∀ (k o : Nat), rd h1 b o k = rd h b o k
  | 0, _ => rfl
  | k + 1, o => by simp only [rd, e o, rd_congr e k (o + 1)]
theorem r_new_ne {h : AH} {n b o k : Nat} {m : Meta} {cs vs : List Value} (hb : b ≠ n) (q : rd h b o k = vs) : rd (h.app (.new n m cs)) b o k = vs := by
  rw [rd_congr (h := h) (fun i => by simp [AH.app, Dl.new, hb])]; exact q
theorem r_take_ne {h : AH} {b n sz lk ez x o k : Nat} {keep : Bool} {cs vs : List Value} (h1 : x ≠ n) (h2 : x ≠ b) (q : rd h x o k = vs) : rd (h.app (.takeover b n keep sz lk ez cs)) x o k = vs := by
  rw [rd_congr (h := h) (fun i => by simp [AH.app, Dl.takeover, h1, h2])]; exact q
theorem r_sets_ne {h : AH} {b x o o2 k : Nat} {cs vs : List Value} (h1 : x ≠ b) (q : rd h x o k = vs) : rd (h.app (.sets b o2 cs)) x o k = vs := by
  rw [rd_congr (h := h) (fun i => by simp [AH.app, Dl.sets, h1])]; exact q
theorem r_ext {h h1 : AH} {m b o k : Nat} {vs : List Value} (e : Ext m h h1) (hb : b < m) (q : rd h b o k = vs) : rd h1 b o k = vs := by rw [rd_ext e hb]; exact q
theorem r_new {h : AH} {n k : Nat} {m : Meta} {cs : List Value} (hk : k = cs.length) : rd (h.app (.new n m cs)) n 0 k = cs := by
  rw [rd_new _ _ _ _ _ _ (by omega), List.drop_zero, List.take_of_length_le (by omega)]
theorem r_take {h : AH} {b n sz lk ez k : Nat} {keep : Bool} {cs : List Value} (hk : k = cs.length) : rd (h.app (.takeover b n keep sz lk ez cs)) n 0 k = cs := by
  have : rd (h.app (.takeover b n keep sz lk ez cs)) n 0 k = rd (h.app (.new n ⟨0, 0, true, 0⟩ cs)) n 0 k := rd_congr (fun i => by simp [AH.app, Dl.takeover, Dl.new]) _ _
  rw [this]; exact r_new hk
theorem cell_of_rd {h : AH} {b o k i : Nat} {vs : List Value} {v : Value} (q : rd h b o k = vs) (hv : vs[i]? = some v) : h.cell b (o + i) = v := by
  have hi : i < vs.length := (List.getElem?_eq_some_iff.1 hv).1
  rw [← q, rd_length] at hi
  have := rd_getD h b k o i hi
  rw [q] at this
  rw [← this]; simp [List.getD, hv]
theorem rd_sub {h : AH} {b o k i j : Nat} {vs : List Value} (q : rd h b o k = vs) (hi : i + j ≤ k) : rd h b (o + i) j = (vs.drop i).take j := by
  subst q
  apply List.ext_getElem
  · simp [rd_length]; omega
  · intro x h1 h2
    rw [rd_length] at h1
    have e1 := rd_getD h b j (o + i) x h1
    have e2 := rd_getD h b k o (i + x) (by omega)
    have e3 : (rd h b (o + i) j).getD x (.tuple #[]) = (rd h b (o + i) j)[x]'(by rw [rd_length]; exact h1) := by simp [List.getD, rd_length, h1]
    have e4 : (rd h b o k).getD (i + x) (.tuple #[]) = (rd h b o k)[i + x]'(by rw [rd_length]; omega) := by
      have : i + x < (rd h b o k).length := by rw [rd_length]; omega
      simp [List.getD, this]
    rw [← e3, e1]
    simp only [List.getElem_take, List.getElem_drop]
    rw [← e4, e2]; congr 1; omega

end
end Go.Abs
