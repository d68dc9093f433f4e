/- A row of one's own is cut, copied to, cleared. -/
import Derived.Test.YtchfnjfmlhacfaaAbsOwn
import Derived.Test.YtchfnjfmlhacfaaAbsCopy
namespace Go.Abs
open Go.RowKit

/-- Of block b the first k elements of z cells stay told. -/
@[irreducible] def Dl.cut (b k z : Nat) : Dl := ⟨fun x => if x = b then some (some ⟨k * z, 0, true, z⟩) else none, fun x i => if x = b ∧ k * z ≤ i then some (.tuple #[]) else none⟩
section
variable {h : AH} {b k z : Nat}
theorem cut_info (x : Nat) : (h.app (.cut b k z)).info x = if x = b then some ⟨k * z, 0, true, z⟩ else h.info x := by
  unfold Dl.cut; by_cases e : x = b <;> simp [AH.app, e]
theorem cut_cell (x i : Nat) : (h.app (.cut b k z)).cell x i = if x = b ∧ k * z ≤ i then .tuple #[] else h.cell x i := by
  unfold Dl.cut
  simp only [AH.app]
  split <;> rfl
theorem cut_touches {x : Nat} (h : (Dl.cut b k z).touches x) : x = b := by
  unfold Dl.cut at h
  rcases h with h | ⟨i, h⟩
  · simp only at h; split at h
    · assumption
    · exact absurd rfl h
  · simp only at h; split at h
    · rename_i q; exact q.1
    · exact absurd rfl h
theorem Sim.cut {w0 : Base} {w : World} {ρ : Ren} {H : AH} {m : Nat} (s : Sim w0 ρ H w) (hm : H.info b = some ⟨m * z, 0, true, z⟩) (hk : k ≤ m) : Sim w0 ρ (H.app (.cut b k z)) w := by
  refine s.shrink (fun x m' hx => ?_) (fun x m' o hx ho => ?_) (fun x i => ?_)
  · rw [cut_info] at hx
    by_cases e : x = b
    · subst e
      rw [if_pos rfl] at hx; cases hx
      exact ⟨_, hm, rfl, Nat.mul_le_mul_right _ hk, Nat.zero_le _, fun L i _ ho => ⟨Nat.zero_le _, by simpa using ho.2⟩⟩
    · rw [if_neg e] at hx
      obtain ⟨L, _, _, _, q, _⟩ := s.info x m' hx
      exact ⟨m', hx, rfl, Nat.le_refl _, q, fun _ _ _ ho => ho⟩
  · rw [cut_info] at hx
    by_cases e : x = b
    · rw [if_pos e] at hx; cases hx; cases ho
    · rw [if_neg e] at hx; exact hx
  · rw [cut_cell]
    by_cases e : x = b ∧ k * z ≤ i
    · rw [if_pos e]; exact .inl rfl
    · rw [if_neg e]; exact .inr rfl
end

section
variable {P : Program} {T W : Nat → Prop} {ops : Array Oper} {os : List Oper} {env : Env} {n n1 : Nat} {h h1 g : AH} {Q : Env → Nat → AH → Prop} {ps : List Ft}
variable {dst : Option Tmp} {ty : TypeId} {pos : String} {after : Array Edge} {gd : Option (Nat × Bool)}

/-- What is told may be told otherwise. -/
theorem OpEv.ghost {o : Oper} {v : Value} {n' : Nat} {d d2 : Dl} (k : OpEv P T o env n g v n' d) (hw : Within T n n' d2) (hs : ∀ w0 ρ w H, (g.app d).le H → Sim w0 ρ H w → Sim w0 ρ (H.app d2) w) : OpEv P T o env n g v n' (d.comp d2) where
  le := k.le
  within := fun b hb => by
    rcases Dl.touches_comp hb with q | q
    · exact k.within b q
    · exact hw b q
  run := fun r w0 ρ w H a next Q hl hf hsim hop K =>
    k.run r w0 ρ w H a next Q hl hf hsim hop fun ρ' c w' hg hv hs' => K ρ' c w' hg hv (by rw [AH.app_comp]; exact hs w0 ρ' w' _ (hl.app d) hs')
theorem op_sliceCut {t e : TypeId} {x y : Operand} {b m : Nat} {u : Nat} {kk : IntKind} {d : TypeDesc} {z by_ : Nat} {zv : Value} (hu : P.underlying t = some (.slice e)) (hz : TI P e d z by_ zv) (hx : ev env x = .slice (some ⟨b, 0, none⟩) m m)
    (hy : ev env y = .int kk (u : Nat)) (hum : u ≤ m) (hm : g.info b = some ⟨m * z, 0, true, z⟩) (hT : T b ∨ n ≤ b) (hb : b < n) :
    OpEv P T ⟨dst, .slice t x none (some y) none, ty, pos, after, gd⟩ env n g (.slice (some ⟨b, 0, none⟩) u u) n (.cut b u z) := by
  have h1 := op_slice (P := P) (T := T) (n := n) (g := g) (env := env) (dst := dst) (ty := ty) (pos := pos) (after := after) (gd := gd) (t := t) (x := x) (lo := none) (hi := some y) (l := 0) (h := u) hu hz hx rfl ⟨kk, hy⟩ (Nat.zero_le _) hum hm (.inr rfl)
  simp only [Nat.zero_mul, Nat.add_zero, Nat.sub_zero] at h1
  have h2 := h1.ghost (d2 := .cut b u z) (fun x hx => by rw [cut_touches hx]; exact ⟨hT, hb⟩) (fun w0 ρ w H hl hs => hs.cut (hl.info b _ (by rw [AH.app_nil]; exact hm)) hum)
  rwa [Dl.nil_comp] at h2

theorem known_take : ∀ (l : List Value) (i : Nat), known l = true → known (l.take i) = true
  | [], i, _ => by simp [known]
  | v :: r, 0, _ => by simp [known]
  | v :: r, i + 1, h => by cases v <;> simp_all [known, known_take r i]
theorem known_drop : ∀ (l : List Value) (i : Nat), known l = true → known (l.drop i) = true
  | [], i, _ => by simp [known]
  | v :: r, 0, h => h
  | v :: r, i + 1, h => by
    have : known r = true := by cases v <;> simp_all [known]
    exact known_drop r i this
theorem known_app : ∀ {l m : List Value}, known l = true → known m = true → known (l ++ m) = true
  | [], m, _, h => h
  | v :: r, m, h, k => by cases v <;> simp_all [known, known_app (l := r) (m := m)]

/-- A row of one's own is cut. -/
theorem OwnSl.cut {n0 z m u : Nat} {a : Option Addr} {cs : List Value} (o : OwnSl h n0 n a z m cs) (hu : u ≤ m) : OwnSl (h.app (.cut (sb a) u z)) n0 n a z u (cs.take (u * z)) := by
  have hl : u * z ≤ m * z := Nat.mul_le_mul_right _ hu
  refine ⟨o.le, by rw [List.length_take, o.len]; omega, known_take _ _ o.kn, ?_⟩
  rcases o.or with ⟨k1, k2⟩ | ⟨k1, k2, k3, k4, k5⟩
  · exact .inl ⟨k1, by omega⟩
  · refine .inr ⟨k1, k2, k3, by rw [cut_info, if_pos rfl], ?_⟩
    apply List.ext_getElem
    · rw [rd_length, List.length_take, o.len]; omega
    · intro j h1 h2
      rw [rd_length] at h1
      have e1 := rd_getD (h.app (.cut (sb a) u z)) (sb a) (u * z) 0 j h1
      have e2 : (rd (h.app (.cut (sb a) u z)) (sb a) 0 (u * z)).getD j (.tuple #[]) = (rd (h.app (.cut (sb a) u z)) (sb a) 0 (u * z))[j]'(by rw [rd_length]; exact h1) := by simp [List.getD, rd_length, h1]
      have e3 := rd_getD h (sb a) (m * z) 0 j (by omega)
      rw [k5] at e3
      rw [← e2, e1, cut_cell, if_neg (by omega), ← e3]
      simp [List.getD, show j < cs.length by rw [o.len]; omega]
theorem ExtX.cut {u z : Nat} {a : Option Addr} (e : ExtX n a h h1) (ha : a ≠ none) : ExtX n a h (h1.app (.cut (sb a) u z)) := fun x hx hne => by
  have hx' : x ≠ sb a := hne.resolve_left ha
  have h2 := e x hx hne
  exact ⟨by rw [cut_info, if_neg hx']; exact h2.1, fun i => by rw [cut_cell, if_neg (fun q => hx' q.1)]; exact h2.2 i⟩
/-- Cells from i on are set. -/
def splice {α : Type} (cs : List α) (i : Nat) (vs : List α) : List α := cs.take i ++ vs ++ cs.drop (i + vs.length)
theorem splice_length {α : Type} (cs : List α) (i : Nat) (vs : List α) (h : i + vs.length ≤ cs.length) : (splice cs i vs).length = cs.length := by
  simp only [splice, List.length_append, List.length_take, List.length_drop]; omega
theorem splice_map {α β : Type} (f : α → β) (cs : List α) (i : Nat) (vs : List α) : (splice cs i vs).map f = splice (cs.map f) i (vs.map f) := by
  simp [splice, List.map_take, List.map_drop]
theorem OwnSl.splice {n0 z m i : Nat} {a : Option Addr} {cs vs : List Value} (o : OwnSl h n0 n a z m cs) (hi : i + vs.length ≤ m * z) (hv : known vs = true) : OwnSl (h.app (.sets (sb a) (so a + i) vs)) n0 n a z m (Abs.splice cs i vs) := by
  have hl := o.len
  refine ⟨o.le, by rw [splice_length _ _ _ (by omega)]; exact hl, known_app (known_app (known_take _ _ o.kn) hv) (known_drop _ _ o.kn), ?_⟩
  rcases o.or with ⟨k1, k2⟩ | ⟨k1, k2, k3, k4, k5⟩
  · exact .inl ⟨k1, k2⟩
  · refine .inr ⟨k1, k2, k3, i_sets k4, ?_⟩
    have hso : so a = 0 := by rw [k1]; rfl
    apply List.ext_getElem
    · rw [rd_length, splice_length _ _ _ (by omega)]; exact hl.symm
    · intro j h1 h2
      rw [rd_length] at h1
      have e1 := rd_getD (h.app (.sets (sb a) (so a + i) vs)) (sb a) (m * z) 0 j h1
      have e2 := rd_getD h (sb a) (m * z) 0 j h1
      rw [k5] at e2
      have e3 : (rd (h.app (.sets (sb a) (so a + i) vs)) (sb a) 0 (m * z)).getD j (.tuple #[]) = (rd (h.app (.sets (sb a) (so a + i) vs)) (sb a) 0 (m * z))[j]'(by rw [rd_length]; exact h1) := by simp [List.getD, rd_length, h1]
      rw [← e3, e1]
      simp only [AH.app, Dl.sets, Nat.zero_add, hso] at e2 ⊢
      by_cases hj : i ≤ j ∧ j < i + vs.length
      · rw [if_pos ⟨trivial, hj⟩, Option.getD_some]
        simp only [Abs.splice]
        rw [List.getElem_append_left (by simp only [List.length_append, List.length_take]; omega), List.getElem_append_right (by rw [List.length_take]; omega)]
        have : min i cs.length = i := by omega
        simp [List.getD, this, show j - i < vs.length by omega]
      · rw [if_neg (fun q => hj q.2), Option.getD_none, ← e2]
        simp only [Abs.splice, List.getD]
        by_cases hlt : j < i
        · rw [List.getElem_append_left (by simp only [List.length_append, List.length_take]; omega), List.getElem_append_left (by rw [List.length_take]; omega)]
          rw [List.getElem?_eq_getElem (by omega)]; simp
        · rw [List.getElem_append_right (by simp only [List.length_append, List.length_take]; omega)]
          rw [List.getElem?_eq_getElem (by omega)]
          simp only [List.getElem_drop, List.length_append, List.length_take, Option.getD_some]
          congr 1; omega
theorem OwnSl.spliceB {n0 m i : Nat} {a : Option Addr} {l s : List UInt8} (o : OwnSl h n0 n a 1 m (bytesV l)) (hi : i + s.length ≤ m) : OwnSl (h.app (.sets (sb a) (so a + i) (bytesV s))) n0 n a 1 m (bytesV (Abs.splice l i s)) := by
  have := o.splice (i := i) (vs := bytesV s) (by rw [bytesV_length]; omega) (bytesV_known s)
  have e : bytesV (Abs.splice l i s) = Abs.splice (bytesV l) i (bytesV s) := splice_map _ _ _ _
  rw [e]; exact this
theorem ExtX.sets' {o' : Nat} {vs : List Value} {a : Option Addr} (e : ExtX n a h h1) (ha : a ≠ none) : ExtX n a h (h1.app (.sets (sb a) o' vs)) := e.sets (fun q => ha q)
theorem lenOf_slice {a : Option Addr} {m : Nat} {c : Value} {w : World} (h : ∃ ρ, VRel ρ (.slice a m m) c) : (Builtin.lenOf c).run P w = .ok m w := by
  obtain ⟨ρ, h⟩ := h
  cases h <;> rfl
/-- copy of bytes to a row of one's own, from its i-th place on, in a region that draws its order. -/
theorem RD.copyB {q : Tmp} {t t2 e : TypeId} {d : TypeDesc} {by_ : Nat} {zv : Value} {x y : Operand} {a c : Option Addr} {n0 m i k nb : Nat} {l s : List UInt8} [hu : Uc P t (.slice e)] [hz : Tc P e d 1 by_ zv]
    (hw : wants ops ⟨some q, .call { callee := .builtin .copy, args := #[x, y], argTypes := #[t, t2] }, ty, pos, after, gd⟩ env = some true) (hx : Opd env x (.slice (sub a i) k k)) (hy : Opd env y (.slice c s.length s.length)) (hO : OwnSl h n0 nb a 1 m (bytesV l)) (S : SlB h nb c s)
    (hik : i + k = m) (hs0 : 0 < s.length) (hsk : s.length ≤ k) (hT : a ≠ none → T (sb a)) (hnb : nb ≤ n) (hc : CF ops ps.length (· < nb) (· = sb a) ps.length ps)
    (K : OwnSl (h.app (.sets (sb a) (so a + i) (bytesV s))) n0 nb a 1 m (bytesV (Abs.splice l i s)) → RD P T ops (⟨(· < nb), (· = sb a), n, n⟩ :: ps) os ((q, .int .i64 s.length) :: env) n (h.app (.sets (sb a) (so a + i) (bytesV s))) Q) :
    RD P T ops ps (⟨some q, .call { callee := .builtin .copy, args := #[x, y], argTypes := #[t, t2] }, ty, pos, after, gd⟩ :: os) env n h Q := by
  have hO' := hO
  rcases hO.or with ⟨k1, k2⟩ | ⟨k1, k2, k3, k4, k5⟩
  · omega
  have hso : so a = 0 := by rw [k1]; rfl
  have hx' : ev env x = .slice (some ⟨sb a, so a + i, none⟩) k k := by rw [hx.ev, k1]; rfl
  have S' : SlB (h.below nb) nb c s := S.ext (AH.below_ext h nb) (Nat.le_refl _)
  have hop := op_copy (P := P) (T := T) (n := n) (g := h.below nb) (env := env) (dst := some q) (ty := ty) (pos := pos) (after := after) (gd := gd) (t := t) (t2 := t2) (z := 1) (k := s.length) (kk := s.length) (m := k) (v := .slice c s.length s.length) hu.out hz.out (by decide) hx' hy.ev
    S'.src (full_slice) (fun c w h => lenOf_slice h) (by omega) (mm := ⟨m * 1, 0, true, 1⟩) (i_below k3 k4) (Nat.zero_le _) (by rw [hso]; simp only [Nat.mul_one]; omega) (.inl (hT (by rw [k1]; simp))) (by omega)
  refine RD.op (· < nb) (· = sb a) hw hop (AH.below_le _ _) (fun _ hx => AH.below_looks hx) (fun _ e => Nat.lt_of_lt_of_le e hnb) (fun b hb => .inl (sets_touches hb)) hc (.refl _) (K ?_)
  exact hO'.spliceB (by omega)
theorem RS.sliceCut {q : Tmp} {t e : TypeId} {d : TypeDesc} {z by_ : Nat} {zv : Value} {x y : Operand} {a : Option Addr} {n0 m u : Nat} {kk : IntKind} {cs : List Value} [hu : Uc P t (.slice e)] [hz : Tc P e d z by_ zv]
    (hw : wants ops ⟨some q, .slice t x none (some y) none, ty, pos, after, gd⟩ env = some true) (hx : Opd env x (.slice a m m)) (hy : Opd env y (.int kk (u : Nat))) (hO : OwnSl h n0 n a z m cs) (hum : u ≤ m)
    (hT : a ≠ none → T (sb a)) (K : ∀ h1, OwnSl h1 n0 n a z u (cs.take (u * z)) → ExtX n a h h1 → RS P T ops os ((q, .slice a u u) :: env) n h1 Q) : RS P T ops (⟨some q, .slice t x none (some y) none, ty, pos, after, gd⟩ :: os) env n h Q := by
  rcases hO.or with ⟨k1, k2⟩ | ⟨k1, k2, k3, k4, k5⟩
  · subst k1; subst k2
    obtain rfl : u = 0 := by omega
    have := op_sliceNil (P := P) (T := T) (n := n) (g := h) (dst := some q) (ty := ty) (pos := pos) (after := after) (gd := gd) (lo := none) (hi := some y) hu.out hz.out hx.ev rfl ⟨kk, hy.ev⟩
    refine RS.put hw rfl this (K h (by simpa using OwnSl.nil hO.le) (fun _ _ _ => ⟨rfl, fun _ => rfl⟩))
  · have hx' := hx.ev
    rw [k1] at hx'
    have hso : so a = 0 := by rw [k1]; rfl
    have := op_sliceCut (P := P) (T := T) (n := n) (g := h) (dst := some q) (ty := ty) (pos := pos) (after := after) (gd := gd) hu.out hz.out hx' hy.ev hum k4 (.inl (hT (by rw [k1]; simp))) k3
    refine RS.mem hw rfl this ?_
    rw [← k1]
    exact K _ (hO.cut hum) (ExtX.cut (fun _ _ _ => ⟨rfl, fun _ => rfl⟩) (by rw [k1]; simp))
/-- clear of a row of one's own. -/
theorem op_clear {t e : TypeId} {x : Operand} {d : TypeDesc} {z by_ b o k : Nat} {zv : Value} {mm : Meta} (hu : P.underlying t = some (.slice e)) (hz : TI P e d z by_ zv) (hz0 : z ≠ 0) (hzz : zv.cells.size = z) (hf : zv.cells.all (flat 8) = true) (hkn : known (zrow zv.cells.toList k) = true)
    (hx : ev env x = .slice (some ⟨b, o, none⟩) k k) (hm : g.info b = some mm) (hlk : mm.lock ≤ o) (hin : o + k * z ≤ mm.size) (hT : T b ∨ n ≤ b) (hb : b < n) :
    OpEv P T ⟨dst, .call { callee := .builtin .clear, args := #[x], argTypes := #[t] }, ty, pos, after, gd⟩ env n g (.tuple #[]) n (.sets b o (zrow zv.cells.toList k)) where
  le := Nat.le_refl _
  within := within_sets hT hb
  run := fun rq w0 ρ w H a next Q hl hf' hsim hop K => by
    have h1 := hop x (by simp [Op.operands, Call.operands]); rw [hx] at h1
    have hM := hl.info b mm hm
    obtain ⟨L, hL, kz, k2, k3, k4⟩ := hsim.info b mm hM
    have hr : ∀ w, (underlying t).run P w = .ok (.slice e) w := fun w => by simp [underlying, hu]
    have hxl : (zrow zv.cells.toList k).length = k * z := by rw [zrow_length, Array.length_toList, hzz]
    have hcl : (Builtin.zeroCells zv.cells k).toList.length = k * z := by simp [Builtin.zeroCells, hzz]
    have e0 : (#[t] : Array TypeId)[0]? = some t := rfl
    have key : ∀ (A : Addr) (C : Nat), a.eval x = .slice (some A) k C → (k = 0 ∨ A = ⟨L.blk, L.off + o, none⟩) →
        (Oper.wpIn (FW rq) 0 P ⟨dst, .call { callee := .builtin .clear, args := #[x], argTypes := #[t] }, ty, pos, after, gd⟩ a w next Q) := by
      intro A C hcx hA
      have e2 : (#[Value.slice (some A) k C] : Array Value)[0]? = some (.slice (some A) k C) := rfl
      by_cases hk0 : k = 0
      · subst hk0
        have hxs : zrow zv.cells.toList 0 = [] := List.eq_nil_of_length_eq_zero (by rw [hxl, Nat.zero_mul])
        have hrun : (Builtin.clear_ #[t] ty #[.slice (some A) 0 C]).run P w = .ok (.tuple #[]) w := by
          simp only [Builtin.clear_, e0, e2, Sem.run_bind, hr, Result.andThen_ok, Sem.run_pure]
        have hexec : (execOp a.eval ⟨dst, .call { callee := .builtin .clear, args := #[x], argTypes := #[t] }, ty, pos, after, gd⟩).run P w = .ok (.value (.tuple #[])) w := by
          simp [execOp, resolve, invoke, builtin, hcx, hrun]
        refine wpA_value hexec ?_
        exact K ρ _ _ (.refl _ _ _) (.unk _) (by rw [hxs, app_sets_nil]; exact hsim)
      · have hA := hA.resolve_left hk0
        subst hA
        obtain ⟨k', rfl⟩ : ∃ k', k = k' + 1 := ⟨k - 1, by omega⟩
        obtain ⟨e4, e5⟩ := hsim.storeCells (P := P) (o := o) hM hL (zrow zv.cells.toList (k' + 1)) (Builtin.zeroCells zv.cells (k' + 1)).toList (by omega) (fun j hj => ⟨by omega, by split <;> omega⟩) (fun j hj => by
          have := zrow_rel (ρ := ρ) hf (k' + 1) (k' + 1) (Nat.le_refl _) j hj
          have e9 : (Builtin.zeroCells zv.cells (k' + 1)).toList.getD j (.tuple #[]) = (Builtin.zeroCells zv.cells (k' + 1)).getD j (.tuple #[]) := by simp [Array.getD_eq_getD_getElem?, List.getD]
          rw [e9]; exact this) hkn
        have hrun : (Builtin.clear_ #[t] ty #[.slice (some ⟨L.blk, L.off + o, none⟩) (k' + 1) C]).run P w = .ok (.tuple #[]) (w.setCells L.blk (L.off + o) (Builtin.zeroCells zv.cells (k' + 1)).toList) := by
          simp only [Builtin.clear_, e0, e2, Sem.run_bind, hr, Result.andThen_ok, hz.run_zeroValue, e4, Sem.run_pure]
        have hexec : (execOp a.eval ⟨dst, .call { callee := .builtin .clear, args := #[x], argTypes := #[t] }, ty, pos, after, gd⟩).run P w = .ok (.value (.tuple #[])) (w.setCells L.blk (L.off + o) (Builtin.zeroCells zv.cells (k' + 1)).toList) := by
          simp [execOp, resolve, invoke, builtin, hcx, hrun]
        refine wpA_value hexec ?_
        exact K ρ _ _ (.refl _ _ _) (.unk _) e5
    generalize hcx : a.eval x = q at h1
    cases h1 with
    | @slice _ _ _ L' C hL' hmC hcc =>
      rw [hL] at hL'; cases hL'
      exact key _ C hcx (.inr rfl)
    | slice0 A hL' => exact key A 0 hcx (.inl (by omega))
theorem RS.clear {t e : TypeId} {d : TypeDesc} {z by_ : Nat} {zv : Value} {x : Operand} {a : Option Addr} {n0 m i k : Nat} {cs : List Value} [hu : Uc P t (.slice e)] [hz : Tc P e d z by_ zv]
    (hw : wants ops ⟨none, .call { callee := .builtin .clear, args := #[x], argTypes := #[t] }, ty, pos, after, gd⟩ env = some true) (hx : Opd env x (.slice (sub a (i * z)) k k)) (hO : OwnSl h n0 n a z m cs) (hik : i + k = m) (ha : a ≠ none) (hT : T (sb a))
    (hkn : known (zrow zv.cells.toList k) = true)
    (K : OwnSl (h.app (.sets (sb a) (so a + i * z) (zrow zv.cells.toList k))) n0 n a z m (Abs.splice cs (i * z) (zrow zv.cells.toList k)) → RS P T ops os env n (h.app (.sets (sb a) (so a + i * z) (zrow zv.cells.toList k))) Q)
    (c1 : Nat.beq z 0 = false := by rfl) (c2 : zv.cells.size = z := by rfl) (c4 : zv.cells.all (flat 8) = true := by first | rfl | (simp [Value.cells, flat]; done)) :
    RS P T ops (⟨none, .call { callee := .builtin .clear, args := #[x], argTypes := #[t] }, ty, pos, after, gd⟩ :: os) env n h Q := by
  have hz0 : z ≠ 0 := fun h => by subst h; simp at c1
  rcases hO.or with ⟨k1, k2⟩ | ⟨k1, k2, k3, k4, k5⟩
  · exact absurd k1 ha
  have hso : so a = 0 := by rw [k1]; rfl
  have hx' : ev env x = .slice (some ⟨sb a, so a + i * z, none⟩) k k := by rw [hx.ev, k1]; rfl
  have hop := op_clear (P := P) (T := T) (n := n) (g := h) (env := env) (dst := none) (ty := ty) (pos := pos) (after := after) (gd := gd) (t := t) hu.out hz.out hz0 c2 c4 hkn hx' k4 (Nat.zero_le _) (by rw [hso]; simp only [Nat.zero_add]; rw [← Nat.add_mul, hik]; exact Nat.le_refl _) (.inl hT) k3
  refine RS.op hw hop (.refl _) (K (hO.splice ?_ hkn))
  rw [zrow_length, Array.length_toList, c2, ← Nat.add_mul, hik]
  exact Nat.le_refl _
end
end Go.Abs
