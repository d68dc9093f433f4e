/- Contracts and laws that a statement of this seat is proved by (part 4). -/
import Derived.Test.YtfbddbpbifnhfaaGreatDoorC03
import Derived.Lib.SlBytesConst
import Derived.Shelf.Bytes.SlCountOne
import Derived.Laws.Externs
import Derived.Shelf.Bytes.SlIndexAt
import Derived.Lib.IndexLaws
set_option linter.unusedSimpArgs false
set_option linter.unusedVariables false
/- A row of bytes that is converted to its own type: behind its last cell it is marked. -/
namespace Go.Abs
open Go.RowKit

theorem KeepsObjs.freeze (w : World) (a : Addr) (k : Nat) : KeepsObjs w (w.freeze a k) := fun l o h hc => by
  unfold World.freeze
  split
  · exact h
  · simp only [Array.getElem?_modify]
    split
    · rw [h]
      cases o <;> first | rfl | exact absurd rfl (hc _ _ _)
    · exact h
theorem freeze_heap {w : World} {a : Addr} {k l : Nat} (h : l ≠ a.block) : (w.freeze a k).heap[l]? = w.heap[l]? := by
  unfold World.freeze
  split
  · rfl
  · simp only [Array.getElem?_modify]
    rw [if_neg (fun e => h e.symm)]
theorem freeze_cells {w : World} {a : Addr} {c : Array Value} {e : TypeId} {lo hi : Nat} (h : w.heap[a.block]? = some (.cells c e (lo, hi))) :
    (w.freeze a 1).heap[a.block]? = some (.cells c e (if lo == hi then (a.off, a.off + 1) else (min lo a.off, max hi (a.off + 1)))) := by
  unfold World.freeze
  rw [if_neg (by decide)]
  simp only [Array.getElem?_modify, if_true, h, Option.map_some]
theorem freeze_size (w : World) (a : Addr) (k : Nat) : (w.freeze a k).heap.size = w.heap.size := by
  unfold World.freeze
  split <;> simp
section
variable {P : Program} {T : Nat → Prop} {env : Env} {n : Nat} {g : AH} {dst : Option Tmp} {ty : TypeId} {pos : String} {after : Array Edge} {gd : Option (Nat × Bool)}
theorem op_convSame {t e : TypeId} {x : Operand} {b o m : Nat} {mm : Meta} (hu : P.underlying t = some (.slice e)) (he : P.underlying e = some (.int .u8)) (hx : ev env x = .slice (some ⟨b, o, none⟩) m m) (hm0 : 0 < m) (hm : g.info b = some mm) (hlk : mm.lock < mm.size) :
    OpEv P T ⟨dst, .convert t t x, ty, pos, after, gd⟩ env n g (.slice (some ⟨b, o, none⟩) m m) n .nil where
  le := Nat.le_refl _
  within := .nil _ _ _
  run := fun rq w0 ρ w H a next Q hl hf hsim hop K => by
    have h1 := hop x (by simp [Op.operands]); rw [hx] at h1
    have hM := hl.info b mm hm
    obtain ⟨L, hL, kz, k2, k3, k4⟩ := hsim.info b mm hM
    obtain ⟨q1, ⟨v, q2⟩, q3⟩ := k4 mm.lock ⟨Nat.le_refl _, by split <;> omega⟩
    have hr : ∀ w, (underlying t).run P w = .ok (.slice e) w := fun w => by simp [underlying, hu]
    have hre : ∀ w, (underlying e).run P w = .ok (.int .u8) w := fun w => by simp [underlying, he]
    generalize hcx : a.eval x = q at h1
    cases h1 with
    | slice0 A hL' => omega
    | @slice _ _ _ L' C hL' hmC hcc =>
      rw [hL] at hL'; cases hL'
      have hblk : ∃ c ty lo hi, w.heap[L.blk]? = some (.cells c ty (lo, hi)) := by
        unfold World.cell? at q2
        dsimp only at q2
        cases hq : w.heap[L.blk]? with
        | none => rw [hq] at q2; cases q2
        | some ob =>
          rw [hq] at q2
          cases ob with
          | cells c ty fz => exact ⟨c, ty, fz.1, fz.2, rfl⟩
          | _ => cases q2
      obtain ⟨c, ety, lo, hi, hblk⟩ := hblk
      have hsh : w.shape? L.blk = some (ety, c.size) := by unfold World.shape?; rw [hblk]
      have hcl := q3 c ety lo hi hblk
      have hnew := freeze_cells (w := w) (a := ⟨L.blk, c.size, none⟩) hblk
      have hcell : ∀ (l i : Nat), (w.freeze ⟨L.blk, c.size, none⟩ 1).cell? ⟨l, i, none⟩ = w.cell? ⟨l, i, none⟩ := fun l i => by
        unfold World.cell?
        dsimp only
        by_cases hq : l = L.blk
        · subst hq
          rw [hnew, hblk]
        · rw [freeze_heap (by simpa using hq)]
      have hex : (execOp a.eval ⟨dst, .convert t t x, ty, pos, after, gd⟩).run P w = .ok (.value (.slice (some ⟨L.blk, L.off + o, none⟩) m C)) (w.freeze ⟨L.blk, c.size, none⟩ 1) := by
        simp [execOp, hcx, convert, hr, hre, markStringish, hsh]
      refine wpA_value hex ?_
      refine K ρ _ _ (.refl _ _ _) (.slice C hL hmC hcc) ?_
      rw [AH.app_nil]
      refine hsim.move ⟨hsim.base.os, hsim.base.tape, hsim.base.output, by rw [freeze_size]; exact hsim.base.size, fun k hk => ?_⟩ (.freeze _ _ _) (fun b L i v _ h => by rw [hcell]; exact h) fun b L' i v hL' hc hz => ?_
      · rw [freeze_heap (by dsimp only; omega)]
        exact hsim.base.block k hk
      · by_cases hq : L'.blk = L.blk
        · rw [hq] at hz ⊢
          intro c' t' lo' hi' hh
          rw [hnew] at hh
          simp only [Option.some.injEq, Obj.cells.injEq] at hh
          obtain ⟨e1, e2, e3⟩ := hh
          subst e1
          have hz' := hz c ety lo hi hblk
          split at e3
          · cases e3; exact .inr (Nat.le_refl _)
          · rename_i hne
            have hne : lo ≠ hi := by simpa using hne
            cases e3; right; have := hz'.resolve_left hne; omega
        · exact hz.of (freeze_heap (by simpa using hq))
end
end Go.Abs

/- Arrays that are values: built of parts, looked at by a place. -/
namespace Go.Abs
open Go.RowKit

section
variable {P : Program} {T : Nat → Prop} {env : Env} {n : Nat} {g : AH} {dst : Option Tmp} {ty : TypeId} {pos : String} {after : Array Edge} {gd : Option (Nat × Bool)}
theorem op_buildA {t e : TypeId} {k : Nat} {d : TypeDesc} {parts : Array (Nat × Operand)} {z by_ sz eb : Nat} {zv ez : Value} {cs : Array Value} (hz : TI P t (.array k e) z by_ zv) (he : TI P e d sz eb ez) (hf : zv.cells.all (flat 8) = true)
    (hok : parts.toList.all (fun p => okV (ev env p.2)) = true) (hc : Instr.fill (fun i => some (i * sz, sz)) zv.cells (parts.toList.map fun p => (p.1, ev env p.2)) = some cs) :
    OpEv P T ⟨dst, .build t parts, ty, pos, after, gd⟩ env n g (.agg cs) n .nil :=
  .calc fun ρ w ce h => by
    have hall : ∀ (l : List (Nat × Operand)), l.all (fun p => okV (ev env p.2)) = true → (∀ p, p ∈ l → VRel ρ (ev env p.2) (ce p.2)) →
        All2 (fun p q : Nat × Value => p.1 = q.1 ∧ VRel ρ p.2 q.2 ∧ okV p.2 = true) (l.map fun p => (p.1, ev env p.2)) (l.map fun p => (p.1, ce p.2)) := by
      intro l
      induction l with
      | nil => intros; exact .nil
      | cons p l ih =>
        intro h1 h2
        simp only [List.all_cons, Bool.and_eq_true] at h1
        exact .cons ⟨rfl, h2 p (by simp), h1.1⟩ (ih h1.2 fun q hq => h2 q (by simp [hq]))
    obtain ⟨ds, h1, h2⟩ := fill_rel (ρ := ρ) (fun i => some (i * sz, sz)) _ _ _ _ cs (flatAll hf) (hall parts.toList hok fun p hp => h p.2 (by
      simp only [Op.operands]; simp; exact ⟨p.1, by simpa using hp⟩)) hc
    refine ⟨.agg ds, ?_, .agg h2.size h2.at_⟩
    have e : (parts.map fun (p : Nat × Operand) => (p.1, ce p.2)).toList = parts.toList.map fun p => (p.1, ce p.2) := by simp
    have e' : (parts.map fun (x : Nat × Operand) => match x with | (i, x) => (i, ce x)) = parts.map fun (p : Nat × Operand) => (p.1, ce p.2) := rfl
    simp only [execOp, Instr.build, Sem.run_bind, hz.run_zeroValue, hz.run_underlying, he.run_sizeOf, Result.andThen_ok, e', e, h1, Sem.run_pure]
theorem op_indexA {t e : TypeId} {x y : Operand} {k : IntKind} {i : Int} {m : Nat} {cs : Array Value} {d : TypeDesc} {z by_ : Nat} {zv v : Value} (hu : P.underlying t = some (.array m e)) (hz : TI P e d z by_ zv) (hx : ev env x = .agg cs) (hy : ev env y = .int k i) (h0 : 0 ≤ i) (hi : i < m)
    (ha : isAggD d = false) (hv : cs[i.toNat * z]? = some v) : OpEv P T ⟨dst, .index t x y, ty, pos, after, gd⟩ env n g v n .nil :=
  .calc fun ρ w ce h => by
    have h1 := h x (by simp [Op.operands]); rw [hx] at h1
    have h2 := h y (by simp [Op.operands]); rw [hy] at h2
    have hr : (underlying t).run P w = .ok (.array m e) w := by simp [underlying, hu]
    generalize hc : ce x = c at h1
    cases h1 with
    | @agg _ ys hs hh =>
      have hi1 : i.toNat * z < cs.size := (Array.getElem?_eq_some_iff.1 hv).1
      have hi2 : i.toNat * z < ys.size := by omega
      refine ⟨ys.getD (i.toNat * z) (.tuple #[]), ?_, ?_⟩
      · simp [execOp, Instr.index, hr, hc, h2.int_inv, asIntOf, h0, hi, part, hz.run_isAgg, ha, hz.run_sizeOf, hi2, Array.getD]
      · have := hh (i.toNat * z)
        rw [Array.getD_eq_getD_getElem?, hv] at this
        exact this
theorem op_indexAgg {t e : TypeId} {x y : Operand} {k : IntKind} {i : Int} {m : Nat} {cs : Array Value} {d : TypeDesc} {z by_ : Nat} {zv : Value} (hu : P.underlying t = some (.array m e)) (hz : TI P e d z by_ zv) (hx : ev env x = .agg cs) (hy : ev env y = .int k i) (h0 : 0 ≤ i) (hi : i < m)
    (ha : isAggD d = true) : OpEv P T ⟨dst, .index t x y, ty, pos, after, gd⟩ env n g (.agg (cs.extract (i.toNat * z) (i.toNat * z + z))) n .nil :=
  .calc fun ρ w ce h => by
    have h1 := h x (by simp [Op.operands]); rw [hx] at h1
    have h2 := h y (by simp [Op.operands]); rw [hy] at h2
    have hr : (underlying t).run P w = .ok (.array m e) w := by simp [underlying, hu]
    generalize hc : ce x = c at h1
    cases h1 with
    | @agg _ ys hs hh =>
      refine ⟨.agg (ys.extract (i.toNat * z) (i.toNat * z + z)), ?_, .agg (by simp [hs]) fun j => ?_⟩
      · simp [execOp, Instr.index, hr, hc, h2.int_inv, asIntOf, h0, hi, part, hz.run_isAgg, ha, hz.run_sizeOf]
      · have := hh (i.toNat * z + j)
        simp only [Array.getD_eq_getD_getElem?, Array.getElem?_extract] at *
        rw [hs]
        split
        · exact this
        · exact .unk _
end
end Go.Abs

/- Rows of rows, all of one's own. -/
namespace Go.Abs
open Go.RowKit

abbrev RowO := Option Addr × Nat × List Value
def RowO.v (e : RowO) : Value := .slice e.1 e.2.1 e.2.1
def Apart (a b : Option Addr) : Prop := a = none ∨ b = none ∨ sb a ≠ sb b
theorem Apart.symm {a b : Option Addr} (h : Apart a b) : Apart b a := h.elim (fun q => .inr (.inl q)) fun q => q.elim .inl fun q => .inr (.inr (Ne.symm q))
theorem Apart.nil {a : Option Addr} : Apart a none := .inr (.inl rfl)
theorem Apart.of {a b : Option Addr} {n : Nat} (ha : a = none ∨ sb a < n) (hb : b = none ∨ n ≤ sb b) : Apart a b := by
  rcases ha with q | q
  · exact .inl q
  · rcases hb with w | w
    · exact .inr (.inl w)
    · exact .inr (.inr (by omega))
structure OwnRR (h : AH) (n0 m0 n : Nat) (a : Option Addr) (z : Nat) (L : List RowO) : Prop where
  out : OwnSl h n0 n a 1 L.length (L.map RowO.v)
  inn : ∀ (i : Nat) (e : RowO), L[i]? = some e → OwnSl h m0 n e.1 z e.2.1 e.2.2
  sep : ∀ (i : Nat) (e : RowO), L[i]? = some e → Apart a e.1
  dis : ∀ (i j : Nat) (e f : RowO), L[i]? = some e → L[j]? = some f → i ≠ j → Apart e.1 f.1
theorem OwnRR.ext {h h1 : AH} {n0 m0 n n1 z : Nat} {a : Option Addr} {L : List RowO} (o : OwnRR h n0 m0 n a z L) (E : Ext n h h1) (hn : n ≤ n1) : OwnRR h1 n0 m0 n1 a z L :=
  ⟨o.out.ext E hn, fun i e q => (o.inn i e q).ext E hn, o.sep, o.dis⟩
theorem OwnRR.extX {h h1 : AH} {n0 m0 n n1 z : Nat} {a c : Option Addr} {L : List RowO} (o : OwnRR h n0 m0 n a z L) (E : ExtX n c h h1) (hn : n ≤ n1) (ha : Apart c a) (hi : ∀ (i : Nat) (e : RowO), L[i]? = some e → Apart c e.1) : OwnRR h1 n0 m0 n1 a z L :=
  ⟨o.out.extX E hn (ha.elim .inl fun q => q.elim (.inr ∘ .inl) fun q => .inr (.inr (Ne.symm q))), fun i e q => (o.inn i e q).extX E hn ((hi i e q).elim .inl fun q => q.elim (.inr ∘ .inl) fun q => .inr (.inr (Ne.symm q))), o.sep, o.dis⟩
theorem OwnRR.setsN {h : AH} {n0 m0 n z b o' : Nat} {vs : List Value} {a : Option Addr} {L : List RowO} (o : OwnRR h n0 m0 n a z L) (ha : a = none ∨ sb a ≠ b) (hi : b < m0) : OwnRR (h.app (.sets b o' vs)) n0 m0 n a z L :=
  ⟨o.out.setsN ha, fun i e q => (o.inn i e q).sets hi, o.sep, o.dis⟩
theorem OwnRR.nil {h : AH} {n0 m0 n z : Nat} (hn : n0 ≤ n) : OwnRR h n0 m0 n none z [] := ⟨OwnSl.nil hn, fun i e q => (by cases q), fun i e q => (by cases q), fun i j e f q => (by cases q)⟩
theorem OwnRR.upd {h h1 : AH} {n0 m0 n n1 z j m : Nat} {a c : Option Addr} {cs : List Value} {L : List RowO} {e : RowO} (o : OwnRR h n0 m0 n a z L) (hj : L[j]? = some e) (E : ExtX n e.1 h h1) (hn : n ≤ n1) (o1 : OwnSl h1 m0 n1 c z m cs) (hc : c = e.1 ∨ n ≤ sb c) :
    OwnRR (h1.app (.sets (sb a) (so a + j) [.slice c m m])) n0 m0 n1 a z (L.set j (c, m, cs)) := by
  have hjl := (List.getElem?_eq_some_iff.1 hj).1
  have hkn : known [Value.slice c m m] = true := rfl
  have hsep := o.sep j e hj
  have hout1 : OwnSl h1 n0 n1 a 1 L.length (L.map RowO.v) := o.out.extX E hn (by rcases hsep with q | q | q; exact .inr (.inl q); exact .inl q; exact .inr (.inr q))
  obtain ⟨hso, hsl, hsu, -, hsA, -⟩ := o.out.facts (by omega)
  have hane : a ≠ none := by
    rcases hsA with q | q
    · omega
    · rw [q]; simp
  have hnew : ∀ f : RowO, (∃ i, L[i]? = some f ∧ i ≠ j) → Apart c f.1 := by
    rintro f ⟨i, hf, hne⟩
    rcases hc with q | q
    · rw [q]; exact o.dis j i e f hj hf (Ne.symm hne)
    · refine (Apart.of (n := n) ?_ (.inr q)).symm
      exact (o.inn i f hf).at'.imp id fun w => w.2
  have hacj : Apart a c := by
    rcases hc with q | q
    · rw [q]; exact hsep
    · exact Apart.of (n := n) (.inr hsu) (.inr q)
  have hget : ∀ (i : Nat) (f : RowO), (L.set j (c, m, cs))[i]? = some f → (i = j ∧ f = (c, m, cs)) ∨ (i ≠ j ∧ L[i]? = some f) := by
    intro i f hf
    by_cases e1 : i = j
    · subst e1
      rw [List.getElem?_set_self hjl] at hf
      exact .inl ⟨rfl, (Option.some.inj hf).symm⟩
    · rw [List.getElem?_set_ne (Ne.symm e1)] at hf
      exact .inr ⟨e1, hf⟩
  have hsetN : ∀ {k mm : Nat} {b : Option Addr} {vs : List Value}, Apart a b → OwnSl h1 m0 n1 b k mm vs → OwnSl (h1.app (.sets (sb a) (so a + j) [.slice c m m])) m0 n1 b k mm vs := by
    intro k mm b vs hap hob
    refine hob.setsN ?_
    rcases hap with q | q | q
    · exact absurd q hane
    · exact .inl q
    · exact .inr (Ne.symm q)
  refine ⟨?_, fun i f hf => ?_, fun i f hf => ?_, fun i k f g hf hg hne => ?_⟩
  · have := hout1.set1 (i := j) (v := .slice c m m) (by omega) hkn
    rw [List.length_set, List.map_set]; exact this
  · rcases hget i f hf with ⟨-, rfl⟩ | ⟨hne, hf⟩
    · exact hsetN hacj o1
    · refine hsetN (o.sep i f hf) ((o.inn i f hf).extX E hn ?_)
      rcases o.dis j i e f hj hf (Ne.symm hne) with q | q | q
      · exact .inl q
      · exact .inr (.inl q)
      · exact .inr (.inr (Ne.symm q))
  · rcases hget i f hf with ⟨-, rfl⟩ | ⟨hne, hf⟩
    · exact hacj
    · exact o.sep i f hf
  · rcases hget i f hf with ⟨e1, rfl⟩ | ⟨n1, hf⟩
    · rcases hget k g hg with ⟨e2, rfl⟩ | ⟨n2, hg⟩
      · omega
      · exact hnew g ⟨k, hg, n2⟩
    · rcases hget k g hg with ⟨e2, rfl⟩ | ⟨n2, hg⟩
      · exact (hnew f ⟨i, hf, n1⟩).symm
      · exact o.dis i k f g hf hg hne
theorem OwnRR.push {h h1 : AH} {n0 m0 n n1 z : Nat} {a c : Option Addr} {L : List RowO} {e : RowO} (o : OwnRR h n0 m0 n a z L) (oe : OwnSl h m0 n e.1 z e.2.1 e.2.2) (he : Apart a e.1) (hd : ∀ (i : Nat) (f : RowO), L[i]? = some f → Apart e.1 f.1)
    (E : ExtX n a h h1) (hn : n ≤ n1) (o1 : OwnSl h1 n0 n1 c 1 (L.length + 1) (L.map RowO.v ++ [e.v])) (hc : c = a ∨ n ≤ sb c) : OwnRR h1 n0 m0 n1 c z (L ++ [e]) := by
  have hap : ∀ {b : Option Addr}, Apart a b → (b = none ∨ sb b < n) → Apart c b := by
    intro b h1 h2
    rcases hc with q | q
    · rw [q]; exact h1
    · exact (Apart.of h2 (.inr q)).symm
  have hlt : ∀ {k mm : Nat} {b : Option Addr} {vs : List Value}, OwnSl h m0 n b k mm vs → b = none ∨ sb b < n := fun o => o.at'.imp id fun q => q.2
  have hget : ∀ (i : Nat) (f : RowO), (L ++ [e])[i]? = some f → (L[i]? = some f ∧ i < L.length) ∨ (i = L.length ∧ f = e) := by
    intro i f hf
    by_cases e1 : i < L.length
    · rw [List.getElem?_append_left e1] at hf; exact .inl ⟨hf, e1⟩
    · rw [List.getElem?_append_right (by omega)] at hf
      have : i - L.length = 0 := by
        have := (List.getElem?_eq_some_iff.1 hf).1
        simp at this; omega
      rw [this] at hf
      exact .inr ⟨by omega, (Option.some.inj hf).symm⟩
  have hX : ∀ {b : Option Addr} {vs : List Value} {k mm : Nat}, Apart a b → OwnSl h m0 n b k mm vs → OwnSl h1 m0 n1 b k mm vs := fun hab ob => ob.extX E hn (hab.elim .inl fun q => q.elim (.inr ∘ .inl) fun q => .inr (.inr (Ne.symm q)))
  refine ⟨?_, fun i f hf => ?_, fun i f hf => ?_, fun i k f g hf hg hne => ?_⟩
  · rw [List.length_append, List.map_append]; exact o1
  · rcases hget i f hf with ⟨hf, -⟩ | ⟨-, rfl⟩
    · exact hX (o.sep i f hf) (o.inn i f hf)
    · exact hX he oe
  · rcases hget i f hf with ⟨hf, -⟩ | ⟨-, rfl⟩
    · exact hap (o.sep i f hf) (hlt (o.inn i f hf))
    · exact hap he (hlt oe)
  · rcases hget i f hf with ⟨q1, hi⟩ | ⟨hi, q1⟩
    · rcases hget k g hg with ⟨q2, hk⟩ | ⟨hk, q2⟩
      · exact o.dis i k f g q1 q2 hne
      · rw [q2]; exact (hd i f q1).symm
    · rcases hget k g hg with ⟨q2, hk⟩ | ⟨hk, q2⟩
      · rw [q1]; exact hd k g q2
      · omega
theorem OwnRR.at_ {h : AH} {n0 m0 n z j : Nat} {a : Option Addr} {L : List RowO} {e : RowO} (o : OwnRR h n0 m0 n a z L) (hj : L[j]? = some e) : SlA a L.length ∧ sb a < n ∧ n0 ≤ sb a ∧ h.cell (sb a) (so a + j) = .slice e.1 e.2.1 e.2.1 := by
  have hjl := (List.getElem?_eq_some_iff.1 hj).1
  obtain ⟨hso, hsl, hsu, -, hsA, hc⟩ := o.out.facts (by omega)
  refine ⟨hsA, hsu, hsl, (hc j (by omega)).trans ?_⟩
  simp [List.getD, hj, RowO.v]
theorem OwnRR.mono {h : AH} {n0 m0 n z n0' m0' : Nat} {a : Option Addr} {L : List RowO} (o : OwnRR h n0 m0 n a z L) (h1 : n0' ≤ n0) (h2 : m0' ≤ m0) : OwnRR h n0' m0' n a z L :=
  ⟨o.out.mono h1, fun i e q => (o.inn i e q).mono h2, o.sep, o.dis⟩
def inA (a : Option Addr) (b : Nat) : Prop := a ≠ none ∧ b = sb a
section
variable {P : Program} {T : Nat → Prop} {ops : Array Oper} {os : List Oper} {env : Env} {n : Nat} {h : AH} {Q : Env → Nat → AH → Prop} {ty : TypeId} {pos : String} {after : Array Edge} {gd : Option (Nat × Bool)}
theorem RD.appendT {q : Tmp} {t t2 e : TypeId} {d d2 : TypeDesc} {z by_ : Nat} {zv : Value} {x y : Operand} {a : Option Addr} {n0 m k : Nat} {v : Value} {xs cs : List Value} {ps : List Ft} [hu : Uc P t (.slice e)] [hz : Tc P e d z by_ zv] [hu2 : Uc P t2 d2] (nb : Nat)
    (hw : wants ops ⟨some q, .call { callee := .builtin .append, args := #[x, y], argTypes := #[t, t2] }, ty, pos, after, gd⟩ env = some true) (hx : Opd env x (.slice a m m)) (hy : Opd env y v) (hO : OwnSl h n0 nb a z m cs) (hs : Src (h.below nb) z v k xs) (hf : full v k)
    (hT : a ≠ none → T (sb a)) (hbig : (m + k) * by_ ≤ 140737488355328) (hnb : nb ≤ n) (hc : CF ops ps.length (· < nb) (inA a) ps.length ps)
    (K : ∀ a' n1 h1, n ≤ n1 → OwnSl h1 n0 n1 a' z (m + k) (cs ++ xs) → ExtX n a h h1 → (a' = a ∨ n ≤ sb a') → RD P T ops (⟨(· < nb), inA a, n, n1⟩ :: ps) os ((q, .slice a' (m + k) (m + k)) :: env) n1 h1 Q)
    (c1 : Nat.beq z 0 = false := by rfl) (c2 : zv.cells.size = z := by rfl) (c3 : Nat.beq by_ 0 = false := by rfl) (c4 : notIntD d2 = true := by rfl) :
    RD P T ops ps (⟨some q, .call { callee := .builtin .append, args := #[x, y], argTypes := #[t, t2] }, ty, pos, after, gd⟩ :: os) env n h Q := by
  have hz0 : z ≠ 0 := fun h => by subst h; simp at c1
  have hb0 : by_ ≠ 0 := fun h => by subst h; simp at c3
  have he : EL P t t2 z by_ := ⟨e, d, zv, d2, hu.out, hz.out, hz0, c2, hb0, hu2.out, c4⟩
  have hlx := hs.length
  have hkx := hs.known
  have hle0 := hO.le
  have happ : ∀ (l m : List Value), known l = true → known m = true → known (l ++ m) = true := by
    intro l m hl hm
    induction l with
    | nil => exact hm
    | cons v l ih => cases v <;> simp_all [known]
  by_cases hk0 : k = 0
  · subst hk0
    have : xs = [] := List.eq_nil_of_length_eq_zero (by simpa using hlx)
    subst this
    refine RD.op (· < nb) (inA a) hw (o_append0 he hx hy hs hf) (AH.below_le _ _) (fun _ hx => AH.below_looks hx) (fun _ hb => Nat.lt_of_lt_of_le hb hnb) (fun b hb => (Dl.touches_nil hb).elim) hc (h1 := h) (by rw [AH.app_nil]; exact .refl _) ?_
    exact K a n h (Nat.le_refl _) (by simpa using hO.ext (Ext.refl _ _) hnb) (fun _ _ _ => ⟨rfl, fun _ => rfl⟩) (.inl rfl)
  · rcases hO.or with ⟨k1, k2⟩ | ⟨k1, k2, k3, k4, k5⟩
    · subst k1; subst k2
      have : cs = [] := List.eq_nil_of_length_eq_zero (by have := hO.len; omega)
      subst this
      simp only [Nat.zero_add, List.nil_append] at K hbig
      refine RD.op (· < nb) (inA none) hw (o_appendNil he hx hy hs hf hk0 hbig) (AH.below_le _ _) (fun _ hx => AH.below_looks hx) (fun _ hb => Nat.lt_of_lt_of_le hb hnb) (fun b hb => ?_) hc (.refl _) (K _ _ _ (Nat.le_succ _) ?_ ?_ (.inr (Nat.le_refl _)))
      · rcases hb with h1 | ⟨i, h1⟩ <;> (simp only [Dl.new] at h1; split at h1) <;> first | omega | exact absurd rfl h1
      · rw [hlx]; exact .new (by omega) hlx hkx
      · exact fun x hx _ => ⟨by simp [AH.app, Dl.new, show x ≠ n by omega], fun i => by simp [AH.app, Dl.new, show x ≠ n by omega]⟩
    · have hx' := hx
      rw [k1] at hx'
      have k4' : (h.below nb).info (sb a) = some ⟨m * z, 0, true, z⟩ := i_below k3 k4
      have k5' : rd (h.below nb) (sb a) 0 (m * z) = cs := r_below k3 k5
      refine RD.op (· < nb) (inA a) hw (o_append false he hx' hy hs hf k4' k5' hO.kn (.inl (hT (by rw [k1]; simp))) (by omega) hk0 hbig) (AH.below_le _ _) (fun _ hx => AH.below_looks hx) (fun _ hb => Nat.lt_of_lt_of_le hb hnb) (fun b hb => ?_) hc (.refl _) (K _ _ _ (Nat.le_succ _) ?_ ?_ (.inr (Nat.le_refl _)))
      · by_cases e1 : b = sb a
        · exact .inl ⟨by rw [k1]; simp, e1⟩
        · by_cases e2 : b = n
          · exact .inr (by omega)
          · exfalso
            rcases hb with h1 | ⟨i, h1⟩
            · simp [Dl.takeover, e1, e2] at h1
            · simp [Dl.takeover, e1, e2] at h1
      · have hl2 : (cs ++ xs).length = (m + k) * z := by rw [List.length_append, hO.len, hlx, Nat.add_mul]
        refine ⟨by omega, hl2, happ _ _ hO.kn hkx, .inr ⟨rfl, by show n0 ≤ n; omega, by show n < n + 1; omega, ?_, ?_⟩⟩
        · have := i_take (h := h) (b := sb a) (n := n) (sz := m * z) (lk := 0) (ez := z) (keep := false) (cs := cs ++ xs)
          rw [hl2] at this; exact this
        · exact r_take hl2.symm
      · intro x hx hne
        have hne' : x ≠ sb a := by
          rcases hne with h | h
          · rw [h] at k1; cases k1
          · exact h
        exact ⟨by simp [AH.app, Dl.takeover, show x ≠ n by omega, hne'], fun i => by simp [AH.app, Dl.takeover, show x ≠ n by omega, hne']⟩
theorem op_append0Z {T : Nat → Prop} {env : Env} {n : Nat} {g : AH} {dst : Option Tmp} {t t2 e : TypeId} {kk qq : IntKind} {x y : Operand} {d : TypeDesc} {z by_ : Nat} {zv : Value} {a : Option Addr} {m c : Nat} (hu : P.underlying t = some (.slice e)) (hz : TI P e d z by_ zv)
    (ht2 : P.underlying t2 = some (.int qq)) (hx : ev env x = .slice a m c) (hy : ev env y = .int kk 0) :
    OpEv P T ⟨dst, .call { callee := .builtin .append, args := #[x, y], argTypes := #[t, t2] }, ty, pos, after, gd⟩ env n g (ev env x) n .nil :=
  .look fun w0 ρ w H ce hl hs hop => by
    have h1 := hop x (by simp [Op.operands, Call.operands])
    have h2 := hop y (by simp [Op.operands, Call.operands])
    rw [hy] at h2
    have hcy : ce y = .int kk 0 := h2.int_inv
    have hr : (underlying t).run P w = .ok (.slice e) w := by simp [underlying, hu]
    have hr2 : (underlying t2).run P w = .ok (.int qq) w := by simp [underlying, ht2]
    obtain ⟨i, hi1, hi2⟩ := hz.info
    have hti : (typeInfo e).run P w = .ok i w := by simp [typeInfo, hi1]
    refine ⟨ce x, ?_, h1⟩
    rw [hx] at h1
    have hwr : IntKind.i64.wrap 0 = 0 := wrap64' (Int.le_refl _) (by omega)
    have hlim2 : ¬ ((0 : Int) * (i.bytes : Int) > 2 ^ 48) := by
      rw [Int.zero_mul]
      have : (2 : Int) ^ 48 = 281474976710656 := by decide
      omega
    have key : ∀ (A : Option Addr) (C : Nat), m ≤ C → ce x = .slice A m C → (Builtin.append_ #[t, t2] ty #[ce x, ce y]).run P w = .ok (ce x) w := by
      intro A C hC hcx
      rw [hcx, hcy]
      have e0 : (#[t, t2] : Array TypeId)[0]? = some t := rfl
      have e1 : (#[t, t2] : Array TypeId)[1]? = some t2 := rfl
      have e2 : (#[Value.slice A m C, .int kk 0] : Array Value)[0]? = some (.slice A m C) := rfl
      have e3 : (#[Value.slice A m C, .int kk 0] : Array Value)[1]? = some (.int kk 0) := rfl
      simp only [Builtin.append_, e0, e1, e2, e3]
      simp only [Sem.run_bind, hr, hr2, Result.andThen_ok, hz.run_sizeOf, Sem.run_pure, Sem.run_map, asInt, asIntOf, if_true, hwr, if_neg (Int.lt_irrefl 0), hti, if_neg hlim2, Int.toNat_zero, Nat.add_zero, if_pos hC, Nat.zero_mul]
      cases A with
      | none => simp
      | some A => simp [storeCells]
    have : (Builtin.append_ #[t, t2] ty #[ce x, ce y]).run P w = .ok (ce x) w := by
      generalize hcx : ce x = q at h1
      rw [← hcx]
      cases h1 with
      | slice C h hn hc => exact key _ C hn hcx
      | slice0 A h => exact key _ 0 (Nat.le_refl _) hcx
      | nilSlice => exact key _ 0 (Nat.le_refl _) hcx
    simp [execOp, resolve, invoke, builtin, this]
theorem RD.appendZT {q : Tmp} {t t2 e : TypeId} {d : TypeDesc} {kk qq : IntKind} {z by_ : Nat} {zv : Value} {x y : Operand} {a : Option Addr} {n0 m : Nat} {l : Int} {cs : List Value} {ps : List Ft} [hu : Uc P t (.slice e)] [hz : Tc P e d z by_ zv] [hu2 : Uc P t2 (.int qq)] (nb : Nat)
    (hw : wants ops ⟨some q, .call { callee := .builtin .append, args := #[x, y], argTypes := #[t, t2] }, ty, pos, after, gd⟩ env = some true) (hx : Opd env x (.slice a m m)) (hy : Opd env y (.int kk l)) (hO : OwnSl h n0 nb a z m cs) (hl : 0 ≤ l)
    (hT : a ≠ none → T (sb a)) (hbig : (m + l.toNat) * by_ ≤ 140737488355328) (hkn : known (zrow zv.cells.toList l.toNat) = true) (hnb : nb ≤ n) (hc : CF ops ps.length (· < nb) (inA a) ps.length ps)
    (K : ∀ a' n1 h1, n ≤ n1 → OwnSl h1 n0 n1 a' z (m + l.toNat) (cs ++ zrow zv.cells.toList l.toNat) → ExtX n a h h1 → (a' = a ∨ n ≤ sb a') → RD P T ops (⟨(· < nb), inA a, n, n1⟩ :: ps) os ((q, .slice a' (m + l.toNat) (m + l.toNat)) :: env) n1 h1 Q)
    (c1 : Nat.beq z 0 = false := by rfl) (c2 : zv.cells.size = z := by rfl) (c3 : Nat.beq by_ 0 = false := by rfl) (c4 : zv.cells.all (flat 8) = true := by first | rfl | (simp [Value.cells, flat]; done)) :
    RD P T ops ps (⟨some q, .call { callee := .builtin .append, args := #[x, y], argTypes := #[t, t2] }, ty, pos, after, gd⟩ :: os) env n h Q := by
  have hz0 : z ≠ 0 := fun h => by subst h; simp at c1
  have hb0 : by_ ≠ 0 := fun h => by subst h; simp at c3
  have hlim : l.toNat * by_ ≤ 140737488355328 := Nat.le_trans (Nat.mul_le_mul_right _ (by omega)) hbig
  have hle0 := hO.le
  have happ : ∀ (l m : List Value), known l = true → known m = true → known (l ++ m) = true := by
    intro l m hl hm
    induction l with
    | nil => exact hm
    | cons v l ih => cases v <;> simp_all [known]
  by_cases hk0 : l = 0
  · subst hk0
    have e0 : zrow zv.cells.toList (0 : Int).toNat = [] := List.eq_nil_of_length_eq_zero (by rw [zrow_length]; simp)
    rw [e0, List.append_nil] at K
    have hoz := op_append0Z (P := P) (T := T) (n := n) (g := h.below nb) (dst := some q) (ty := ty) (pos := pos) (after := after) (gd := gd) hu.out hz.out hu2.out hx.ev hy.ev
    rw [hx.ev] at hoz
    refine RD.op (· < nb) (inA a) hw hoz (AH.below_le _ _) (fun _ hx => AH.below_looks hx) (fun _ hb => Nat.lt_of_lt_of_le hb hnb) (fun b hb => (Dl.touches_nil hb).elim) hc (h1 := h) (by rw [AH.app_nil]; exact .refl _) ?_
    exact K a n h (Nat.le_refl _) (hO.ext (Ext.refl _ _) hnb) (fun _ _ _ => ⟨rfl, fun _ => rfl⟩) (.inl rfl)
  have hY : AppY P t t2 ty e z by_ zv (h.below nb) (ev env y) l.toNat (zrow zv.cells.toList l.toNat) := by
    rw [hy.ev]; exact AppY.zeros hu.out hz.out hz0 hb0 c2 c4 hu2.out hl hlim hkn
  have hlx := hY.len
  rcases hO.or with ⟨k1, k2⟩ | ⟨k1, k2, k3, k4, k5⟩
  · subst k1; subst k2
    have : cs = [] := List.eq_nil_of_length_eq_zero (by have := hO.len; omega)
    subst this
    simp only [Nat.zero_add, List.nil_append] at K hbig
    refine RD.op (· < nb) (inA none) hw (op_appendNilY hu.out hz.out hz0 c2 hx.ev hY (by omega) hlim) (AH.below_le _ _) (fun _ hx => AH.below_looks hx) (fun _ hb => Nat.lt_of_lt_of_le hb hnb) (fun b hb => ?_) hc (.refl _) (K _ _ _ (Nat.le_succ _) ?_ ?_ (.inr (Nat.le_refl _)))
    · rcases hb with h1 | ⟨i, h1⟩ <;> (simp only [Dl.new] at h1; split at h1) <;> first | omega | exact absurd rfl h1
    · rw [hlx]; exact .new (by omega) hlx hkn
    · exact fun x hx _ => ⟨by simp [AH.app, Dl.new, show x ≠ n by omega], fun i => by simp [AH.app, Dl.new, show x ≠ n by omega]⟩
  · have hx' := hx.ev
    rw [k1] at hx'
    have k4' : (h.below nb).info (sb a) = some ⟨m * z, 0, true, z⟩ := i_below k3 k4
    have k5' : rd (h.below nb) (sb a) 0 (m * z) = cs := r_below k3 k5
    have hop := op_appendY (P := P) (T := T) (n := n) (g := h.below nb) (env := env) (dst := some q) (ty := ty) (pos := pos) (after := after) (gd := gd) (mm := ⟨m * z, 0, true, z⟩) false hu.out hz.out hz0 c2 hx' hY k4' rfl rfl rfl (by rw [k5']; exact hO.kn) (.inl (hT (by rw [k1]; simp))) (by omega) (by omega) hbig
    rw [k5'] at hop
    refine RD.op (· < nb) (inA a) hw hop (AH.below_le _ _) (fun _ hx => AH.below_looks hx) (fun _ hb => Nat.lt_of_lt_of_le hb hnb) (fun b hb => ?_) hc (.refl _) (K _ _ _ (Nat.le_succ _) ?_ ?_ (.inr (Nat.le_refl _)))
    · by_cases e1 : b = sb a
      · exact .inl ⟨by rw [k1]; simp, e1⟩
      · by_cases e2 : b = n
        · exact .inr (by omega)
        · exfalso
          rcases hb with h1 | ⟨i, h1⟩
          · simp [Dl.takeover, e1, e2] at h1
          · simp [Dl.takeover, e1, e2] at h1
    · have hl2 : (cs ++ zrow zv.cells.toList l.toNat).length = (m + l.toNat) * z := by rw [List.length_append, hO.len, hlx, Nat.add_mul]
      refine ⟨by omega, hl2, happ _ _ hO.kn hkn, .inr ⟨rfl, by show n0 ≤ n; omega, by show n < n + 1; omega, ?_, ?_⟩⟩
      · have := i_take (h := h) (b := sb a) (n := n) (sz := m * z) (lk := 0) (ez := z) (keep := false) (cs := cs ++ zrow zv.cells.toList l.toNat)
        rw [hl2] at this; exact this
      · exact r_take hl2.symm
    · intro x hx hne
      have hne' : x ≠ sb a := by
        rcases hne with h | h
        · rw [h] at k1; cases k1
        · exact h
      exact ⟨by simp [AH.app, Dl.takeover, show x ≠ n by omega, hne'], fun i => by simp [AH.app, Dl.takeover, show x ≠ n by omega, hne']⟩
end
section
variable {P : Program} {T : Nat → Prop} {N : Nat} {ops : Array Oper} {os : List Oper} {env : Env} {n : Nat} {g h : AH} {ps : List Ft}
theorem RS.heap {Q : Env → Nat → AH → Prop} (e : g = h) (k : RS P T ops os env n g Q) : RS P T ops os env n h Q := e ▸ k
theorem RD.heap {Q : Env → Nat → AH → Prop} (e : g = h) (k : RD P T ops ps os env n g Q) : RD P T ops ps os env n h Q := e ▸ k
theorem RC.heap {c : Code} {Q : Exit → Env → Nat → AH → Prop} (e : g = h) (k : RC P T N c env n g Q) : RC P T N c env n h Q := e ▸ k
end
section
variable {P : Program} {T : Nat → Prop} {env : Env} {n : Nat} {g : AH} {dst : Option Tmp} {ty : TypeId} {pos : String} {after : Array Edge} {gd : Option (Nat × Bool)}
end
end Go.Abs

/- Functions that tell another function values which they make. -/
namespace Go.Abs

structure IterP (P : Program) (W : Nat → Prop) (fv : Value) (k : Nat) (val : Nat → List Value → Nat → AH → Prop) (I : Nat → Nat → AH → Prop) (D : Nat → AH → Prop) : Prop where
  mono : ∀ i n h n' h', I i n h → n ≤ n' → Ext n h h' → I i n' h'
  step : ∀ (i : Nat) (vs : List Value) n h, i < k → val i vs n h → I i n h → VF P W fv vs.toArray n h fun r n' h' => (r = .bool true ∧ I (i + 1) n' h') ∨ (r = .bool false ∧ D n' h')
def IterFP (P : Program) (f : FuncId) (caps : List Value) (k : Nat) (val : Nat → List Value → Nat → AH → Prop) (K : Nat → AH → Prop) : Prop :=
  ∀ (W : Nat → Prop) (fv : Value) (I : Nat → Nat → AH → Prop) (D : Nat → AH → Prop) (n : Nat) (h : AH), IterP P W fv k val I D → (∀ i n h, I i n h → K n h) → I 0 n h → 0 < n →
    RF P W f (fv :: caps).toArray n h fun _ n' h' => I k n' h' ∨ D n' h'
end Go.Abs

/- Contracts taken from codec (written by port.py). -/
namespace Go.Proofs.YtfbddbpbifnhfaaGreatDoor.Cd
open Go.Abs
def bl (m : Nat) : Nat := if m = 0 then 0 else Nat.log2 m + 1
def nb (m : Nat) : Nat := max 1 ((bl m + 7) / 8)
def be (k m : Nat) : List UInt8 := (List.range k).map fun i => UInt8.ofNat (m / 256 ^ (k - 1 - i))
def formUp (n : Nat) : List UInt8 := if n < 120 then [UInt8.ofNat (128 + n)] else UInt8.ofNat (247 + nb (n - 120)) :: be (nb (n - 120)) (n - 120)
def turn (l : List UInt8) : List UInt8 := l.map (255 - ·)
def form (n : Int) : List UInt8 := if n < 0 then turn (formUp (-n - 1).toNat) else formUp n.toNat
theorem bl_le {m k : Nat} (h : m < 2 ^ k) : bl m ≤ k := by
  unfold bl
  split
  · omega
  · rename_i q
    have := (Nat.log2_lt q).2 h
    omega
theorem bl_shift {m k : Nat} (h : 2 ^ k ≤ m) : bl m = k + bl (m / 2 ^ k) := by
  have hm : m ≠ 0 := fun e => by subst e; have := Nat.two_pow_pos k; omega
  have hd : 0 < m / 2 ^ k := Nat.div_pos h (Nat.two_pow_pos k)
  unfold bl
  rw [if_neg hm, if_neg (by omega)]
  have h1 : Nat.log2 m = Nat.log2 (m / 2 ^ k) + k := by
    rw [Nat.log2_eq_iff hm]
    have hd' : m / 2 ^ k ≠ 0 := by omega
    have a1 := Nat.log2_self_le hd'
    have a2 : m / 2 ^ k < 2 ^ (Nat.log2 (m / 2 ^ k) + 1) := Nat.lt_log2_self
    have hp := Nat.two_pow_pos k
    constructor
    · rw [Nat.pow_add]
      exact Nat.le_trans (Nat.mul_le_mul_right _ a1) (Nat.div_mul_le_self m (2 ^ k))
    · rw [show Nat.log2 (m / 2 ^ k) + k + 1 = (Nat.log2 (m / 2 ^ k) + 1) + k by omega, Nat.pow_add]
      exact (Nat.div_lt_iff_lt_mul hp).1 a2
  omega
theorem be_length (k m : Nat) : (be k m).length = k := by simp [be]
theorem nb_pos (m : Nat) : 1 ≤ nb m := Nat.le_max_left _ _
theorem nb_le {m : Nat} (h : m < 2 ^ 63) : nb m ≤ 8 := by
  have := bl_le h
  unfold nb; omega
theorem formUp_length (n : Nat) : (formUp n).length = if n < 120 then 1 else 1 + nb (n - 120) := by
  unfold formUp
  split
  · rfl
  · rw [List.length_cons, be_length]; omega
theorem form_length (n : Int) : (form n).length = (formUp (if n < 0 then (-n - 1).toNat else n.toNat)).length := by
  unfold form turn
  split <;> simp
end Go.Proofs.YtfbddbpbifnhfaaGreatDoor.Cd

/- Contracts taken from codec (written by port.py). -/
namespace Go.Proofs.YtfbddbpbifnhfaaGreatDoor.Cd
open Go.Abs
theorem shD (x : Int) (y : Nat) (hx : x = y) (k : Int) (c : Nat) (hc : 2 ^ k.toNat = c) : ((x.toNat >>> k.toNat : Nat) : Int) = ((y / c : Nat) : Int) := by
  subst hx
  rw [Int.toNat_natCast, Nat.shiftRight_eq_div_pow, hc]
set_option maxHeartbeats 4000000 in
theorem len64_ev (m : Nat) (hm : m < 18446744073709551616) (n : Nat) (h : AH) : Ev Tryz.prog none' 110 #[.int .u64 (m : Nat)] n h (.int .i64 (bl m : Nat)) n h := by
  refine RF.pure rfl fun n' hn => ?_
  refine RF.of Tryz.func110 rfl rfl (Nat.le_of_ble_eq_true rfl) ?_; dsimp only [argEnv]
  have s8 := shD (m : Int) m rfl 8 256 rfl
  have s16 := shD (m : Int) m rfl 16 65536 rfl
  have s32 := shD (m : Int) m rfl 32 4294967296 rfl
  have s168 := shD _ _ s16 8 256 rfl
  have s328 := shD _ _ s32 8 256 rfl
  have s3216 := shD _ _ s32 16 65536 rfl
  have s32168 := shD _ _ s3216 8 256 rfl
  rcases (by omega : m < 256 ∨ (256 ≤ m ∧ m < 65536) ∨ (65536 ≤ m ∧ m < 16777216) ∨ (16777216 ≤ m ∧ m < 4294967296) ∨ (4294967296 ≤ m ∧ m < 1099511627776) ∨ (1099511627776 ≤ m ∧ m < 281474976710656) ∨ (281474976710656 ≤ m ∧ m < 72057594037927936) ∨ 72057594037927936 ≤ m) with q | q | q | q | q | q | q | q
  all_goals repeat' (first | refine stpS ?_ | (refine stp2 ?_ ?_ <;> intro _))
  · have hk : m < 256 := by omega
    refine RS.put (v := .int .u8 (UInt8.ofNat (bl (m))).toNat) rfl rfl (op_indexS Uc.out (Opd.ev opd) (Opd.ev opd) (Int.natCast_nonneg _) ?_) ?_
    · rw [Int.toNat_natCast]
      generalize m = k at hk ⊢
      revert hk
      revert k
      decide +kernel
    · have hb := bl_le (k := 8) hk
      rw [show (UInt8.ofNat (bl (m))).toNat = bl (m) by rw [UInt8.toNat_ofNat', Nat.mod_eq_of_lt (by omega)]]
      repeat' (first | refine stpS ?_ | (refine stp2 ?_ ?_ <;> intro _))
      exact congrArg (Value.int .i64) (by omega)
  · have hk : m / 256 < 256 := by omega
    rw [s8]
    refine RS.put (v := .int .u8 (UInt8.ofNat (bl (m / 256))).toNat) rfl rfl (op_indexS Uc.out (Opd.ev opd) (Opd.ev opd) (Int.natCast_nonneg _) ?_) ?_
    · rw [Int.toNat_natCast]
      generalize m / 256 = k at hk ⊢
      revert hk
      revert k
      decide +kernel
    · have hb := bl_le (k := 8) hk
      have hs : bl m = 8 + bl (m / 256) := by
        have := bl_shift (m := m) (k := 8) (by omega)
        rw [this]
      rw [show (UInt8.ofNat (bl (m / 256))).toNat = bl (m / 256) by rw [UInt8.toNat_ofNat', Nat.mod_eq_of_lt (by omega)]]
      repeat' (first | refine stpS ?_ | (refine stp2 ?_ ?_ <;> intro _))
      exact congrArg (Value.int .i64) (by omega)
  · have hk : m / 65536 < 256 := by omega
    rw [s16]
    refine RS.put (v := .int .u8 (UInt8.ofNat (bl (m / 65536))).toNat) rfl rfl (op_indexS Uc.out (Opd.ev opd) (Opd.ev opd) (Int.natCast_nonneg _) ?_) ?_
    · rw [Int.toNat_natCast]
      generalize m / 65536 = k at hk ⊢
      revert hk
      revert k
      decide +kernel
    · have hb := bl_le (k := 8) hk
      have hs : bl m = 16 + bl (m / 65536) := by
        have := bl_shift (m := m) (k := 16) (by omega)
        rw [this]
      rw [show (UInt8.ofNat (bl (m / 65536))).toNat = bl (m / 65536) by rw [UInt8.toNat_ofNat', Nat.mod_eq_of_lt (by omega)]]
      repeat' (first | refine stpS ?_ | (refine stp2 ?_ ?_ <;> intro _))
      exact congrArg (Value.int .i64) (by omega)
  · have hk : m / 65536 / 256 < 256 := by omega
    rw [s168]
    refine RS.put (v := .int .u8 (UInt8.ofNat (bl (m / 65536 / 256))).toNat) rfl rfl (op_indexS Uc.out (Opd.ev opd) (Opd.ev opd) (Int.natCast_nonneg _) ?_) ?_
    · rw [Int.toNat_natCast]
      generalize m / 65536 / 256 = k at hk ⊢
      revert hk
      revert k
      decide +kernel
    · have hb := bl_le (k := 8) hk
      have hs : bl m = 24 + bl (m / 65536 / 256) := by
        have := bl_shift (m := m) (k := 24) (by omega)
        rw [this]; congr 2; simp only [Nat.div_div_eq_div_mul]
      rw [show (UInt8.ofNat (bl (m / 65536 / 256))).toNat = bl (m / 65536 / 256) by rw [UInt8.toNat_ofNat', Nat.mod_eq_of_lt (by omega)]]
      repeat' (first | refine stpS ?_ | (refine stp2 ?_ ?_ <;> intro _))
      exact congrArg (Value.int .i64) (by omega)
  · have hk : m / 4294967296 < 256 := by omega
    rw [s32]
    refine RS.put (v := .int .u8 (UInt8.ofNat (bl (m / 4294967296))).toNat) rfl rfl (op_indexS Uc.out (Opd.ev opd) (Opd.ev opd) (Int.natCast_nonneg _) ?_) ?_
    · rw [Int.toNat_natCast]
      generalize m / 4294967296 = k at hk ⊢
      revert hk
      revert k
      decide +kernel
    · have hb := bl_le (k := 8) hk
      have hs : bl m = 32 + bl (m / 4294967296) := by
        have := bl_shift (m := m) (k := 32) (by omega)
        rw [this]
      rw [show (UInt8.ofNat (bl (m / 4294967296))).toNat = bl (m / 4294967296) by rw [UInt8.toNat_ofNat', Nat.mod_eq_of_lt (by omega)]]
      repeat' (first | refine stpS ?_ | (refine stp2 ?_ ?_ <;> intro _))
      exact congrArg (Value.int .i64) (by omega)
  · have hk : m / 4294967296 / 256 < 256 := by omega
    rw [s328]
    refine RS.put (v := .int .u8 (UInt8.ofNat (bl (m / 4294967296 / 256))).toNat) rfl rfl (op_indexS Uc.out (Opd.ev opd) (Opd.ev opd) (Int.natCast_nonneg _) ?_) ?_
    · rw [Int.toNat_natCast]
      generalize m / 4294967296 / 256 = k at hk ⊢
      revert hk
      revert k
      decide +kernel
    · have hb := bl_le (k := 8) hk
      have hs : bl m = 40 + bl (m / 4294967296 / 256) := by
        have := bl_shift (m := m) (k := 40) (by omega)
        rw [this]; congr 2; simp only [Nat.div_div_eq_div_mul]
      rw [show (UInt8.ofNat (bl (m / 4294967296 / 256))).toNat = bl (m / 4294967296 / 256) by rw [UInt8.toNat_ofNat', Nat.mod_eq_of_lt (by omega)]]
      repeat' (first | refine stpS ?_ | (refine stp2 ?_ ?_ <;> intro _))
      exact congrArg (Value.int .i64) (by omega)
  · have hk : m / 4294967296 / 65536 < 256 := by omega
    rw [s3216]
    refine RS.put (v := .int .u8 (UInt8.ofNat (bl (m / 4294967296 / 65536))).toNat) rfl rfl (op_indexS Uc.out (Opd.ev opd) (Opd.ev opd) (Int.natCast_nonneg _) ?_) ?_
    · rw [Int.toNat_natCast]
      generalize m / 4294967296 / 65536 = k at hk ⊢
      revert hk
      revert k
      decide +kernel
    · have hb := bl_le (k := 8) hk
      have hs : bl m = 48 + bl (m / 4294967296 / 65536) := by
        have := bl_shift (m := m) (k := 48) (by omega)
        rw [this]; congr 2; simp only [Nat.div_div_eq_div_mul]
      rw [show (UInt8.ofNat (bl (m / 4294967296 / 65536))).toNat = bl (m / 4294967296 / 65536) by rw [UInt8.toNat_ofNat', Nat.mod_eq_of_lt (by omega)]]
      repeat' (first | refine stpS ?_ | (refine stp2 ?_ ?_ <;> intro _))
      exact congrArg (Value.int .i64) (by omega)
  · have hk : m / 4294967296 / 65536 / 256 < 256 := by omega
    rw [s32168]
    refine RS.put (v := .int .u8 (UInt8.ofNat (bl (m / 4294967296 / 65536 / 256))).toNat) rfl rfl (op_indexS Uc.out (Opd.ev opd) (Opd.ev opd) (Int.natCast_nonneg _) ?_) ?_
    · rw [Int.toNat_natCast]
      generalize m / 4294967296 / 65536 / 256 = k at hk ⊢
      revert hk
      revert k
      decide +kernel
    · have hb := bl_le (k := 8) hk
      have hs : bl m = 56 + bl (m / 4294967296 / 65536 / 256) := by
        have := bl_shift (m := m) (k := 56) (by omega)
        rw [this]; congr 2; simp only [Nat.div_div_eq_div_mul]
      rw [show (UInt8.ofNat (bl (m / 4294967296 / 65536 / 256))).toNat = bl (m / 4294967296 / 65536 / 256) by rw [UInt8.toNat_ofNat', Nat.mod_eq_of_lt (by omega)]]
      repeat' (first | refine stpS ?_ | (refine stp2 ?_ ?_ <;> intro _))
      exact congrArg (Value.int .i64) (by omega)
end Go.Proofs.YtfbddbpbifnhfaaGreatDoor.Cd

/- Contracts taken from codec (written by port.py). -/
namespace Go.Proofs.YtfbddbpbifnhfaaGreatDoor.Cd
open Go.Abs Go.RowKit
theorem not_i64 {a : Int} (hlo : -9223372036854775808 ≤ a) (hhi : a < 9223372036854775808) :
    IntKind.i64.wrap (BitVec.ofInt IntKind.i64.bits (if IntKind.i64.signed then -1 else IntKind.i64.max) ^^^ BitVec.ofInt IntKind.i64.bits a).toNat = -a - 1 := by
  have e : (BitVec.ofInt 64 (-1) ^^^ BitVec.ofInt 64 a) = ~~~ BitVec.ofInt 64 a := by
    rw [show BitVec.ofInt 64 (-1) = BitVec.allOnes 64 by decide, BitVec.allOnes_xor]
  show IntKind.i64.wrap ((BitVec.ofInt 64 (-1) ^^^ BitVec.ofInt 64 a).toNat : Nat) = -a - 1
  rw [e, BitVec.toNat_not, BitVec.toNat_ofInt]
  simp only [IntKind.wrap, show IntKind.i64.bits = 64 from rfl, show IntKind.i64.signed = true from rfl, Bool.true_and, decide_eq_true_eq]
  split <;> omega
theorem o_notI {P : Program} {T : Nat → Prop} {env : Env} {n : Nat} {g : AH} {dst : Option Tmp} {ty : TypeId} {pos : String} {after : Array Edge} {gd : Option (Nat × Bool)} {t : TypeId} {x : Operand} {a : Int} (hx : Opd env x (.int .i64 a)) (hlo : -9223372036854775808 ≤ a) (hhi : a < 9223372036854775808) :
    OpEv P T ⟨dst, .unOp .xor t x, ty, pos, after, gd⟩ env n g (.int .i64 (-a - 1)) n .nil := by
  have := op_compl (P := P) (T := T) (n := n) (g := g) (dst := dst) (ty := ty) (pos := pos) (after := after) (gd := gd) (t := t) hx.ev
  rwa [not_i64 hlo hhi] at this
end Go.Proofs.YtfbddbpbifnhfaaGreatDoor.Cd

/- Contracts taken from codec (written by port.py). -/
namespace Go.Proofs.YtfbddbpbifnhfaaGreatDoor.Cd
open Go.Abs
theorem len64I_ev (x : Int) (h0 : 0 ≤ x) (hx : x < 18446744073709551616) (n : Nat) (h : AH) : Ev Tryz.prog none' 110 #[.int .u64 x] n h (.int .i64 (bl x.toNat : Nat)) n h := by
  have := len64_ev x.toNat (by omega) n h
  rwa [Int.toNat_of_nonneg h0] at this
theorem form_lenN {v : Int} (q : v < 0) : (form v).length = if (-v - 1).toNat < 120 then 1 else 1 + nb ((-v - 1).toNat - 120) := by
  rw [form_length, formUp_length, if_pos q]
theorem form_lenP {v : Int} (q : ¬ v < 0) : (form v).length = if v.toNat < 120 then 1 else 1 + nb (v.toNat - 120) := by
  rw [form_length, formUp_length, if_neg q]
set_option maxHeartbeats 4000000 in
theorem size_ev (v : Int) (hlo : -9223372036854775808 ≤ v) (hhi : v < 9223372036854775808) (n : Nat) (h : AH) : Ev Tryz.prog none' 96 #[.int .i64 v] n h (.int .i64 ((form v).length : Nat)) n h := by
  refine RF.pure rfl fun n' hn => ?_
  refine RF.of Tryz.func96 rfl rfl (Nat.le_of_ble_eq_true rfl) ?_; dsimp only [argEnv]
  rcases (by omega : v < -120 ∨ (-120 ≤ v ∧ v < 0) ∨ (0 ≤ v ∧ v < 120) ∨ 120 ≤ v) with q | q | q | q
  · have hL := form_lenN (v := v) (by omega)
    rw [if_neg (by omega)] at hL
    have hbl := bl_le (m := (-v - 1 - 120).toNat) (k := 63) (by omega)
    rw [show (-v - 1).toNat - 120 = (-v - 1 - 120).toNat by omega] at hL
    repeat (first | (refine RS.put (v := .int .i64 (-v - 1)) rfl rfl (o_notI (Opd.tmp Look.here) hlo hhi) ?_) | refine stpS ?_)
    repeat' (first | refine stpS ?_ | (refine stp2 ?_ ?_ <;> intro _) | refine RS.call1 rfl opds (len64I_ev _ (by omega) (by omega) _ _) none'W ?_)
    rw [hL]
    unfold nb
    exact congrArg (Value.int .i64) (by omega)
  · have hL := form_lenN (v := v) (by omega)
    rw [if_pos (by omega)] at hL
    rw [hL]
    repeat (first | (refine RS.put (v := .int .i64 (-v - 1)) rfl rfl (o_notI (Opd.tmp Look.here) hlo hhi) ?_) | refine stpS ?_)
    repeat' (first | refine stpS ?_ | (refine stp2 ?_ ?_ <;> intro _))
    rfl
  · have hL := form_lenP (v := v) (by omega)
    rw [if_pos (by omega)] at hL
    rw [hL]
    repeat' (first | refine stpS ?_ | (refine stp2 ?_ ?_ <;> intro _))
    rfl
  · have hL := form_lenP (v := v) (by omega)
    rw [if_neg (by omega)] at hL
    have hbl := bl_le (m := (v - 120).toNat) (k := 63) (by omega)
    rw [show v.toNat - 120 = (v - 120).toNat by omega] at hL
    repeat' (first | refine stpS ?_ | (refine stp2 ?_ ?_ <;> intro _) | refine RS.call1 rfl opds (len64I_ev _ (by omega) (by omega) _ _) none'W ?_)
    rw [hL]
    unfold nb
    exact congrArg (Value.int .i64) (by omega)
end Go.Proofs.YtfbddbpbifnhfaaGreatDoor.Cd

/- Contracts taken from codec (written by port.py). -/
namespace Go.Proofs.YtfbddbpbifnhfaaGreatDoor.Cd
open Go.Abs
theorem bytesV_take_succ (l : List UInt8) (i : Nat) (hi : i < l.length) : bytesV (l.take (i + 1)) = bytesV (l.take i) ++ [.int .u8 (l.getD i 0).toNat] := by
  unfold bytesV
  rw [List.take_succ_eq_append_getElem hi, List.map_append]
  simp [List.getD, hi]
theorem turn_getD (l : List UInt8) (i : Nat) (hi : i < l.length) : ((turn l).getD i 0).toNat = 255 - (l.getD i 0).toNat := by
  unfold turn
  have : (l.map fun x => 255 - x)[i]? = some (255 - l[i]) := by simp [hi]
  rw [List.getD_eq_getElem?_getD, this, Option.getD_some, List.getD_eq_getElem?_getD, List.getElem?_eq_getElem hi, Option.getD_some]
  generalize l[i] = x
  have := x.toNat_lt
  rw [UInt8.toNat_sub_of_le _ _ (by rw [UInt8.le_iff_toNat_le]; show x.toNat ≤ 255; omega)]
  rfl
theorem turn_length (l : List UInt8) : (turn l).length = l.length := by simp [turn]
set_option maxHeartbeats 4000000 in
theorem turned_rf (l : List UInt8) (a : Option Addr) (m n : Nat) (h : AH) (S : SlB h n a l) (e : m = l.length) (hm : m ≤ 1099511627776) :
    RF Tryz.prog none' 99 #[.slice a m m] n h (fun r n' h' => ∃ a', r = .slice a' l.length l.length ∧ Ext n h h' ∧ OwnSl h' n n' a' 1 l.length (bytesV (turn l))) := by
  subst e
  refine RF.of Tryz.func99 rfl rfl (Nat.le_of_ble_eq_true rfl) ?_; dsimp only [argEnv]
  repeat' (first | refine stpS ?_ | (refine stp2 ?_ ?_ <;> intro _))
  refine RC.loop ?_
  refine RL.inv (α := Nat × Option Addr) (fun s => [(4, .int .i64 (s.1 : Nat)), (3, .slice s.2 s.1 s.1), (0, .slice a l.length l.length)])
    (fun s n1 h1 => s.1 ≤ l.length ∧ n ≤ n1 ∧ Ext n h h1 ∧ OwnSl h1 n n1 s.2 1 s.1 (bytesV ((turn l).take s.1)))
    (fun s => l.length - s.1) (0, none) envs ⟨by omega, by omega, Ext.refl _ _, OwnSl.nil (by omega)⟩ ?_
  rintro ⟨i, a'⟩ n1 h1 ⟨hi, hn, hE, hO⟩
  dsimp only at hi hn hE hO ⊢
  have hS := S.ext hE hn
  have hb : (l.getD (i : Int).toNat 0).toNat < 256 := UInt8.toNat_lt _
  repeat' (first | refine stpS ?_ | (refine stp2 ?_ ?_ <;> intro _))
  · rename_i hlt
    refine RS.append rfl opd opd (hO.ext ext (Nat.le_succ _)) (OwnSl.src (OwnSl.new1 (n0 := n1) (m := 1) (Nat.le_refl _) rfl rfl)) full_slice (fun b hb => Or.inr (by omega)) (by omega) ?_
    intro a2 n2 h2 hle2 hO2 hX hnew
    have hE2 := hX.ext (hO.ext ext (Nat.le_succ _))
    repeat' (first | refine stpS ?_ | (refine stp2 ?_ ?_ <;> intro _))
    refine nextC.normal ⟨(i + 1, a2), by dsimp only; omega, envs, by dsimp only; omega, by omega, ext, ?_⟩
    dsimp only
    rw [bytesV_take_succ _ _ (by rw [turn_length]; omega), turn_getD _ _ (by omega)]
    rw [Int.toNat_natCast] at hO2 hb
    rw [Int.natCast_sub (by omega)]
    exact hO2
  · rename_i hlt
    have e : i = l.length := by omega
    subst e
    refine ⟨a', rfl, ext, ?_⟩
    rw [List.take_of_length_le (by rw [turn_length]; omega)] at hO
    exact hO
end Go.Proofs.YtfbddbpbifnhfaaGreatDoor.Cd

/- Contracts taken from codec (written by port.py). -/
namespace Go.Proofs.YtfbddbpbifnhfaaGreatDoor.Cd
open Go.Abs
theorem lt_bl {m k : Nat} : k < bl m ↔ 2 ^ k ≤ m := by
  unfold bl
  split
  · rename_i q; subst q
    have := Nat.two_pow_pos k
    omega
  · rename_i q
    rw [← Nat.le_log2 q]; omega
theorem pow256 (j : Nat) : 256 ^ j = 2 ^ (8 * j) := by rw [Nat.pow_mul]
theorem nb_more {m j : Nat} (hj : 0 < j) : 0 < m / 256 ^ j ↔ j < nb m := by
  have h1 : 0 < m / 256 ^ j ↔ 8 * j < bl m := by
    rw [lt_bl, ← pow256]
    have := Nat.pow_pos (n := j) (show 0 < 256 by omega)
    rw [Nat.div_pos_iff]; omega
  rw [h1]; unfold nb; omega
def le (k m : Nat) : List UInt8 := (List.range k).map fun i => UInt8.ofNat (m / 256 ^ i)
theorem le_length (k m : Nat) : (le k m).length = k := by simp [le]
theorem bytesV_le_succ (k m : Nat) : bytesV (le (k + 1) m) = bytesV (le k m) ++ [.int .u8 ((m / 256 ^ k % 256 : Nat) : Int)] := by
  unfold bytesV le
  rw [List.range_succ, List.map_append, List.map_append]
  simp [UInt8.toNat_ofNat']
theorem be_getD {k m i : Nat} (hi : i < k) : (be k m).getD i 0 = (le k m).getD (k - 1 - i) 0 := by
  unfold be le
  simp [List.getD, show k - 1 - i < k by omega, hi]
set_option maxHeartbeats 4000000 in
theorem up_rf (x : Nat) (hx : x < 9223372036854775808) (n : Nat) (h : AH) :
    RF Tryz.prog none' 100 #[.int .i64 (x : Nat)] n h (fun r n' h' => ∃ a', r = .slice a' (formUp x).length (formUp x).length ∧ Ext n h h' ∧ OwnSl h' n n' a' 1 (formUp x).length (bytesV (formUp x))) := by
  refine RF.of Tryz.func100 rfl rfl (Nat.le_of_ble_eq_true rfl) ?_; dsimp only [argEnv]
  by_cases hs : x < 120
  · have hf : formUp x = [UInt8.ofNat (128 + x)] := by unfold formUp; rw [if_pos hs]
    rw [hf]
    have e : bytesV [UInt8.ofNat (128 + x)] = [.int .u8 (128 + (x : Int))] := by
      simp only [bytesV, List.map_cons, List.map_nil, UInt8.toNat_ofNat']
      rw [Nat.mod_eq_of_lt (by omega)]
      rfl
    rw [e]
    repeat' (first | refine stpS ?_ | (refine stp2 ?_ ?_ <;> intro _))
    exact ⟨_, rfl, ext, OwnSl.new1 (Nat.le_refl _) rfl rfl⟩
  have hf : formUp x = UInt8.ofNat (247 + nb (x - 120)) :: be (nb (x - 120)) (x - 120) := by unfold formUp; rw [if_neg hs]
  obtain ⟨m, hm⟩ : ∃ m, m = x - 120 := ⟨_, rfl⟩
  have hxm : (x : Int) - 120 = m := by omega
  rw [← hm] at hf
  have hnb := nb_le (m := m) (by omega)
  have hnp := nb_pos m
  rw [hf]
  repeat' (first | refine stpS ?_ | (refine stp2 ?_ ?_ <;> intro _))
  rw [hxm, show (m : Int) = ((m / 256 ^ 0 : Nat) : Int) by simp]
  refine RC.loop ?_
  refine RL.inv (α := Nat × Option Addr) (fun s => [(4, .slice s.2 s.1 s.1), (3, .int .i64 ((m / 256 ^ s.1 : Nat) : Int))])
    (fun s n1 h1 => s.1 ≤ nb m ∧ n ≤ n1 ∧ Ext n h h1 ∧ OwnSl h1 n n1 s.2 1 s.1 (bytesV (le s.1 m)))
    (fun s => nb m - s.1) (0, none) envs ⟨by omega, by omega, Ext.refl _ _, OwnSl.nil (by omega)⟩ ?_
  rintro ⟨j, a'⟩ n1 h1 ⟨hj, hn, hE, hO⟩
  dsimp only at hj hn hE hO ⊢
  have hmore := nb_more (m := m) (j := j)
  have hsucc := bytesV_le_succ j m
  have hdiv : m / 256 ^ (j + 1) = m / 256 ^ j / 256 := by rw [Nat.pow_succ, Nat.div_div_eq_div_mul]
  have hle : m / 256 ^ j ≤ m := Nat.div_le_self _ _
  generalize hy : m / 256 ^ j = y at *
  have step : (j < nb m ∧ 0 < y) ∨ (j < nb m ∧ y = 0 ∧ j = 0) ∨ (y = 0 ∧ 0 < j ∧ j = nb m) := by
    rcases Nat.eq_zero_or_pos y with r | r
    · rcases Nat.eq_zero_or_pos j with q | q
      · exact .inr (.inl ⟨by omega, r, q⟩)
      · exact .inr (.inr ⟨r, q, by have := hmore q; omega⟩)
    · rcases Nat.eq_zero_or_pos j with q | q
      · exact .inl ⟨by omega, r⟩
      · exact .inl ⟨(hmore q).1 r, r⟩
  rcases step with ⟨q1, q2⟩ | ⟨q1, q2, q3⟩ | ⟨q1, q2, q3⟩
  · repeat' (first | refine stpS ?_ | (refine stp2 ?_ ?_ <;> intro _))
    refine RS.append rfl opd opd (hO.ext ext (Nat.le_succ _)) (OwnSl.src (OwnSl.new1 (n0 := n1) (m := 1) (Nat.le_refl _) rfl rfl)) full_slice (fun b hb => Or.inr (by omega)) (by omega) ?_
    intro a2 n2 h2 hle2 hO2 hX hnew
    have hE2 := hX.ext (hO.ext ext (Nat.le_succ _))
    repeat' (first | refine stpS ?_ | (refine stp2 ?_ ?_ <;> intro _))
    refine nextC.normal ⟨(j + 1, a2), by dsimp only; omega, ?_, by dsimp only; omega, by omega, ext, ?_⟩
    · dsimp only
      rw [hdiv, Int.natCast_ediv]
      exact envs
    · dsimp only
      rw [hsucc]; exact hO2
  · repeat' (first | refine stpS ?_ | (refine stp2 ?_ ?_ <;> intro _))
    refine RS.append rfl opd opd (hO.ext ext (Nat.le_succ _)) (OwnSl.src (OwnSl.new1 (n0 := n1) (m := 1) (Nat.le_refl _) rfl rfl)) full_slice (fun b hb => Or.inr (by omega)) (by omega) ?_
    intro a2 n2 h2 hle2 hO2 hX hnew
    have hE2 := hX.ext (hO.ext ext (Nat.le_succ _))
    repeat' (first | refine stpS ?_ | (refine stp2 ?_ ?_ <;> intro _))
    refine nextC.normal ⟨(j + 1, a2), by dsimp only; omega, ?_, by dsimp only; omega, by omega, ext, ?_⟩
    · dsimp only
      rw [hdiv, Int.natCast_ediv]
      exact envs
    · dsimp only
      rw [hsucc]; exact hO2
  · have hS : SlB h1 n1 a' (le j m) := OwnSl.slbE hO
    have hll := le_length j m
    obtain ⟨-, -, -, -, hA, -⟩ := hO.facts (by omega)
    rw [← q3]
    have hbl := be_length j m
    clear hmore hsucc hdiv hy hnp
    repeat' (first | refine stpS ?_ | (refine stp2 ?_ ?_ <;> intro _))
    refine RC.loop ?_
    refine RL.inv (α := Int × Nat × Option Addr) (fun s => [(6, .int .i64 s.1), (5, .slice s.2.2 (s.2.1 + 1) (s.2.1 + 1)), (4, .slice a' j j)])
      (fun s n2 h2 => s.1 = j - 1 - s.2.1 ∧ s.2.1 ≤ j ∧ n1 + 1 ≤ n2 ∧ Ext n1 h1 h2 ∧ OwnSl h2 n1 n2 s.2.2 1 (s.2.1 + 1) (bytesV (UInt8.ofNat (247 + j) :: (be j m).take s.2.1)))
      (fun s => j - s.2.1) (_, 0, some ⟨n1, 0, none⟩) envs ⟨by dsimp only; omega, by dsimp only; omega, by omega, ext, ?_⟩ ?_
    · dsimp only
      have e : bytesV (UInt8.ofNat (247 + j) :: (be j m).take 0) = [.int .u8 (247 + (j : Int))] := by
        simp only [bytesV, List.take_zero, List.map_cons, List.map_nil, UInt8.toNat_ofNat']
        rw [Nat.mod_eq_of_lt (by omega)]
        rfl
      rw [e]
      exact OwnSl.new1 (Nat.le_refl _) rfl rfl
    rintro ⟨z, i, a5⟩ n2 h2 ⟨hz, hi, hn2, hE2, hO2⟩
    dsimp only at hz hi hn2 hE2 hO2 ⊢
    have hS2 : SlB h2 n2 a' (le j m) := hS.ext hE2 (by omega)
    have hb : ((le j m).getD z.toNat 0).toNat < 256 := UInt8.toNat_lt _
    repeat' (first | refine stpS ?_ | (refine stp2 ?_ ?_ <;> intro _))
    · rename_i hlt
      refine RS.append rfl opd opd (hO2.ext ext (Nat.le_succ _)) (OwnSl.src (OwnSl.new1 (n0 := n2) (m := 1) (Nat.le_refl _) rfl rfl)) full_slice (fun b hb => Or.inr (by omega)) (by omega) ?_
      intro a6 n3 h3 hle3 hO3 hX3 hnew3
      have hE3 := hX3.ext (hO2.ext ext (Nat.le_succ _))
      repeat' (first | refine stpS ?_ | (refine stp2 ?_ ?_ <;> intro _))
      refine nextC.normal ⟨(z - 1, i + 1, a6), by dsimp only; omega, envs, by dsimp only; omega, by dsimp only; omega, by omega, ext, ?_⟩
      dsimp only
      have e : bytesV (UInt8.ofNat (247 + j) :: (be j m).take (i + 1)) = bytesV (UInt8.ofNat (247 + j) :: (be j m).take i) ++ [.int .u8 ((le j m).getD z.toNat 0).toNat] := by
        have h1 := bytesV_take_succ (be j m) i (by omega)
        rw [be_getD (by omega), show j - 1 - i = z.toNat by omega] at h1
        show _ :: bytesV ((be j m).take (i + 1)) = _
        rw [h1]; rfl
      rw [e]; exact hO3
    · rename_i hlt
      have e : i = j := by omega
      subst e
      refine ⟨a5, by rw [List.length_cons, hbl], ext, ?_⟩
      rw [List.take_of_length_le (by omega)] at hO2
      rw [List.length_cons, hbl]
      exact hO2.mono (by omega)
end Go.Proofs.YtfbddbpbifnhfaaGreatDoor.Cd

/- Contracts taken from codec (written by port.py). -/
namespace Go.Proofs.YtfbddbpbifnhfaaGreatDoor.Cd
open Go.Abs
set_option maxHeartbeats 4000000 in
theorem refInt_rf (v : Int) (hlo : -9223372036854775808 ≤ v) (hhi : v < 9223372036854775808) (n : Nat) (h : AH) :
    RF Tryz.prog none' 84 #[.int .i64 v] n h (fun r n' h' => ∃ a', r = .slice a' (form v).length (form v).length ∧ Ext n h h' ∧ OwnSl h' n n' a' 1 (form v).length (bytesV (form v))) := by
  refine RF.of Tryz.func84 rfl rfl (Nat.le_of_ble_eq_true rfl) ?_; dsimp only [argEnv]
  by_cases q : v < 0
  · have hf : form v = turn (formUp (-v - 1).toNat) := by unfold form; rw [if_pos q]
    obtain ⟨x, hx⟩ : ∃ x : Nat, x = (-v - 1).toNat := ⟨_, rfl⟩
    have hxv : -(v + 1) = (x : Int) := by omega
    rw [← hx] at hf
    have hfl : (formUp x).length ≤ 9 := by
      rw [formUp_length]
      have := nb_le (m := x - 120) (by omega)
      split <;> omega
    repeat' (first | refine stpS ?_ | (refine stp2 ?_ ?_ <;> intro _))
    rw [hxv]
    refine RS.call rfl opds (up_rf x (by omega) _ _) none'W ?_
    rintro r n1 h1 hle ⟨a1, rfl, hE1, hO1⟩
    have S1 : SlB h1 n1 a1 (formUp x) := OwnSl.slbE hO1
    repeat' (first | refine stpS ?_ | (refine stp2 ?_ ?_ <;> intro _))
    refine RS.call rfl opds (turned_rf (formUp x) a1 _ _ _ S1 rfl (by omega)) none'W ?_
    rintro r n2 h2 hle2 ⟨a2, rfl, hE2, hO2⟩
    repeat' (first | refine stpS ?_ | (refine stp2 ?_ ?_ <;> intro _))
    have hl : (form v).length = (formUp x).length := by rw [hf, turn_length]
    refine ⟨a2, by rw [hl], ext, ?_⟩
    rw [hl, hf]
    exact hO2.mono hle
  · have hf : form v = formUp v.toNat := by unfold form; rw [if_neg q]
    obtain ⟨x, hx⟩ : ∃ x : Nat, x = v.toNat := ⟨_, rfl⟩
    have hxv : v = (x : Int) := by omega
    rw [← hx] at hf
    rw [hf]
    subst hxv
    repeat' (first | refine stpS ?_ | (refine stp2 ?_ ?_ <;> intro _))
    refine RS.call rfl opds (up_rf x (by omega) _ _) none'W ?_
    rintro r n1 h1 hle ⟨a1, rfl, hE1, hO1⟩
    repeat' (first | refine stpS ?_ | (refine stp2 ?_ ?_ <;> intro _))
    exact ⟨a1, rfl, ext, hO1⟩
end Go.Proofs.YtfbddbpbifnhfaaGreatDoor.Cd

/- Contracts taken from codec (written by port.py). -/
namespace Go.Proofs.YtfbddbpbifnhfaaGreatDoor.Cd
open Go.Abs
def Put (a : Option Addr) (l : List UInt8) (v : Int) (m n0 n : Nat) (h : AH) (r : Value) (n' : Nat) (h' : AH) : Prop :=
  ∃ a', r = .slice a' (m + (form v).length) (m + (form v).length) ∧ OwnSl h' n0 n' a' 1 (m + (form v).length) (bytesV (l ++ form v)) ∧ ExtX n a h h' ∧ (a' = a ∨ n ≤ sb a')
theorem ExtX.step {n m k : Nat} {a a' : Option Addr} {h h1 h2 h3 : AH} (e : ExtX n a h h1) (g : Ext m h1 h2) (f : ExtX k a' h2 h3) (hm : n ≤ m) (hk : n ≤ k) (ha : a' = a ∨ n ≤ sb a') : ExtX n a h h3 := fun x hx hne => by
  have h1 := e x hx hne
  have hx2 : x < m := by omega
  have h3 := f x (by omega) (by
    rcases ha with r | r
    · rw [r]; exact hne
    · exact .inr (by omega))
  exact ⟨by rw [h3.1, g.info x hx2, h1.1], fun i => by rw [h3.2, g.cell x i hx2, h1.2]⟩
theorem bytesV_app (l k : List UInt8) : bytesV (l ++ k) = bytesV l ++ bytesV k := by simp [bytesV]
set_option maxHeartbeats 4000000 in
theorem putP_rf (l : List UInt8) (v : Int) (h0 : 0 ≤ v) (hhi : v < 9223372036854775808) (a : Option Addr) (m n0 n : Nat) (h : AH) (hO : OwnSl h n0 n a 1 m (bytesV l)) (hm : m ≤ 1099511627776) :
    RF Tryz.prog (inA a) 80 #[.slice a m m, .int .i64 v] n h (Put a l v m n0 n h) := by
  refine RF.of Tryz.func80 rfl rfl (Nat.le_of_ble_eq_true rfl) ?_; dsimp only [argEnv]
  have hml : m = l.length := by have := hO.len; simp [bytesV] at this; omega
  have hfl : (form v).length = if v.toNat < 120 then 1 else 1 + nb (v.toNat - 120) := form_lenP (by omega)
  have hf : form v = formUp v.toNat := by unfold form; rw [if_neg (by omega)]
  by_cases q : v < 120
  · rw [if_pos (by omega)] at hfl
    have hf1 : form v = [UInt8.ofNat (128 + v.toNat)] := by rw [hf]; unfold formUp; rw [if_pos (by omega)]
    repeat' (first | refine stpS ?_ | (refine stp2 ?_ ?_ <;> intro _) | refine RS.call1 rfl opds (size_ev _ (by omega) (by omega) _ _) none'W ?_)
    refine RS.appendT rfl opd opd (hO.ext ext (Nat.le_succ _)) (OwnSl.src (OwnSl.new1 (n0 := n) (m := 1) (Nat.le_refl _) rfl rfl)) full_slice (fun q => .inl ⟨q, rfl⟩) (by omega) ?_
    intro a2 n2 h2 hle2 hO2 hX hnew
    repeat' (first | refine stpS ?_ | (refine stp2 ?_ ?_ <;> intro _))
    refine ⟨a2, by rw [hfl], ?_, ExtX.step ExtX.refl ext hX (Nat.le_refl _) (by omega) (.inl rfl), hnew.imp_right fun q => by omega⟩
    rw [hfl, bytesV_app, hf1]
    have e : bytesV [UInt8.ofNat (128 + v.toNat)] = [.int .u8 (128 + v)] := by
      simp only [bytesV, List.map_cons, List.map_nil, UInt8.toNat_ofNat']
      rw [Nat.mod_eq_of_lt (by omega), show ((128 + v.toNat : Nat) : Int) = 128 + v by omega]
    rw [e]; exact hO2
  · rw [if_neg (by omega)] at hfl
    obtain ⟨x, hx⟩ : ∃ x : Nat, x = v.toNat - 120 := ⟨_, rfl⟩
    rw [← hx] at hfl
    have hf1 : form v = UInt8.ofNat (247 + nb x) :: be (nb x) x := by rw [hf]; unfold formUp; rw [if_neg (by omega), ← hx]
    have hnb := nb_le (m := x) (by omega)
    have hnp := nb_pos x
    repeat' (first | refine stpS ?_ | (refine stp2 ?_ ?_ <;> intro _) | refine RS.call1 rfl opds (size_ev _ (by omega) (by omega) _ _) none'W ?_)
    refine RS.appendT rfl opd opd (hO.ext ext (Nat.le_succ _)) (OwnSl.src (OwnSl.new1 (n0 := n) (m := 1) (Nat.le_refl _) rfl rfl)) full_slice (fun q => .inl ⟨q, rfl⟩) (by omega) ?_
    intro a2 n2 h2 hle2 hO2 hX hnew
    have hbl := be_length (nb x) x
    have hX2 : ExtX n a h h2 := ExtX.step ExtX.refl ext hX (Nat.le_refl _) (by omega) (.inl rfl)
    have e1 : bytesV (l ++ UInt8.ofNat (247 + nb x) :: (be (nb x) x).take 0) = bytesV l ++ [.int .u8 (247 + (((form v).length : Nat) - 1))] := by
      rw [bytesV_app]
      simp only [bytesV, List.take_zero, List.map_cons, List.map_nil, UInt8.toNat_ofNat']
      rw [Nat.mod_eq_of_lt (by omega), show ((247 + nb x : Nat) : Int) = 247 + ((form v).length - 1) by omega]
    rw [← e1] at hO2
    repeat' (first | refine stpS ?_ | (refine stp2 ?_ ?_ <;> intro _))
    refine RC.loop ?_
    refine RL.inv (α := Int × Nat × Option Addr) (fun s => [(7, .int .i64 s.1), (0, .slice s.2.2 (m + 1 + s.2.1) (m + 1 + s.2.1)), (1, .int .i64 v)])
      (fun s n1 h1 => s.1 = nb x - 1 - s.2.1 ∧ s.2.1 ≤ nb x ∧ n ≤ n1 ∧ ExtX n a h h1 ∧ OwnSl h1 n0 n1 s.2.2 1 (m + 1 + s.2.1) (bytesV (l ++ UInt8.ofNat (247 + nb x) :: (be (nb x) x).take s.2.1)) ∧ (s.2.2 = a ∨ n ≤ sb s.2.2))
      (fun s => nb x - s.2.1) (_, 0, a2) envs ⟨by dsimp only; omega, by dsimp only; omega, by omega, hX2, hO2, hnew.imp_right fun q => by show n ≤ sb a2; omega⟩ ?_
    rintro ⟨z, i, a3⟩ n3 h3 ⟨hz, hi, hn3, hX3, hO3, hw3⟩
    dsimp only at hz hi hn3 hX3 hO3 hw3 ⊢
    by_cases hlt : 0 ≤ z
    · have hw : ((((v - 120).toNat >>> (8 * z).toNat : Nat) : Int) % 256) = (((be (nb x) x).getD i 0).toNat : Nat) := by
        have hd : (be (nb x) x).getD i 0 = UInt8.ofNat (x / 256 ^ z.toNat) := by
          unfold be
          rw [show z.toNat = nb x - 1 - i by omega]
          simp [List.getD, show i < nb x by omega]
        rw [hd, UInt8.toNat_ofNat', Nat.shiftRight_eq_div_pow, show (v - 120).toNat = x by omega, show (8 * z).toNat = 8 * z.toNat by omega, ← pow256]
        rfl
      repeat (first | (refine RS.put (v := .int .u8 ((((v - 120).toNat >>> (8 * z).toNat : Nat) : Int) % 256)) rfl rfl (o_convM_u8 (Opd.tmp Look.here)) ?_) | refine stpS ?_)
      rw [hw]
      have hb : ((be (nb x) x).getD i 0).toNat < 256 := UInt8.toNat_lt _
      refine RS.appendT rfl opd opd (hO3.ext ext (Nat.le_succ _)) (OwnSl.src (OwnSl.new1 (n0 := n3) (m := 1) (Nat.le_refl _) rfl rfl)) full_slice (fun q => hw3.elim (fun e => .inl (by subst e; exact ⟨q, rfl⟩)) .inr) (by omega) ?_
      intro a4 n4 h4 hle4 hO4 hX4 hnew4
      have hX5 : ExtX n a h h4 := ExtX.step hX3 ext hX4 hn3 (by omega) hw3
      repeat' (first | refine stpS ?_ | (refine stp2 ?_ ?_ <;> intro _))
      refine nextC.normal ⟨(z - 1, i + 1, a4), by dsimp only; omega, envs, by dsimp only; omega, by dsimp only; omega, by omega, hX5, ?_, ?_⟩
      · dsimp only
        have e : bytesV (l ++ UInt8.ofNat (247 + nb x) :: (be (nb x) x).take (i + 1)) = bytesV (l ++ UInt8.ofNat (247 + nb x) :: (be (nb x) x).take i) ++ [.int .u8 ((be (nb x) x).getD i 0).toNat] := by
          have h1 := bytesV_take_succ (be (nb x) x) i (by omega)
          rw [bytesV_app, bytesV_app, List.append_assoc]
          show _ ++ _ :: bytesV ((be (nb x) x).take (i + 1)) = _
          rw [h1]; rfl
        rw [e]; exact hO4
      · dsimp only
        rcases hnew4 with e | e
        · rw [e]; exact hw3
        · exact .inr (by omega)
    · repeat' (first | refine stpS ?_ | (refine stp2 ?_ ?_ <;> intro _))
      have e : i = nb x := by omega
      subst e
      rw [List.take_of_length_le (by omega), ← hf1] at hO3
      refine ⟨a3, by rw [hfl, Nat.add_assoc], ?_, hX3, hw3⟩
      rw [hfl, ← Nat.add_assoc]
      exact hO3
end Go.Proofs.YtfbddbpbifnhfaaGreatDoor.Cd

/- Contracts taken from codec (written by port.py). -/
namespace Go.Proofs.YtfbddbpbifnhfaaGreatDoor.Cd
open Go.Abs
def cur (l f : List UInt8) (i : Nat) : List UInt8 := l ++ (turn (f.take i) ++ f.drop i)
theorem cur_length (l f : List UInt8) (i : Nat) : (cur l f i).length = l.length + f.length := by
  simp [cur, turn]; omega
theorem set_mid (A B D : List Value) (c v : Value) : (A ++ (B ++ c :: D)).set (A.length + B.length) v = A ++ (B ++ v :: D) := by
  rw [List.set_append_right _ _ (by omega), Nat.add_sub_cancel_left, List.set_append_right _ _ (by omega), Nat.sub_self]; rfl
theorem xor255 : ∀ x : Nat, x < 256 → x ^^^ 255 = 255 - x := by decide +kernel
theorem cur_succ (l f : List UInt8) (i : Nat) (hi : i < f.length) :
    bytesV (cur l f (i + 1)) = (bytesV (cur l f i)).set (l.length + i) (.int .u8 ((((((cur l f i).getD (l.length + i) 0).toNat : Nat) : Int).toNat ^^^ (255 : Int).toNat : Nat) : Int)) := by
  have hd : f.drop i = f[i] :: f.drop (i + 1) := List.drop_eq_getElem_cons hi
  have ht : f.take (i + 1) = f.take i ++ [f[i]] := List.take_succ_eq_append_getElem hi
  have htl : (turn (f.take i)).length = i := by simp [turn]; omega
  have hg : (cur l f i).getD (l.length + i) 0 = f[i] := by
    unfold cur
    rw [hd, List.getD_eq_getElem?_getD, List.getElem?_append_right (by omega), Nat.add_sub_cancel_left, List.getElem?_append_right (by omega), htl, Nat.sub_self]
    rfl
  rw [hg, Int.toNat_natCast, show (255 : Int).toNat = 255 from rfl, xor255 _ f[i].toNat_lt]
  unfold cur
  rw [hd, ht]
  have e1 : turn (f.take i ++ [f[i]]) = turn (f.take i) ++ [255 - f[i]] := by unfold turn; rw [List.map_append]; rfl
  rw [e1, List.append_assoc]
  simp only [bytesV_app]
  have hx : (255 - f[i]).toNat = 255 - f[i].toNat := by
    have := f[i].toNat_lt
    rw [UInt8.toNat_sub_of_le _ _ (by rw [UInt8.le_iff_toNat_le]; show f[i].toNat ≤ 255; omega)]
    rfl
  have hA : (bytesV l).length = l.length := by simp [bytesV]
  have hB : (bytesV (turn (f.take i))).length = i := by simp [bytesV, htl]
  have := set_mid (bytesV l) (bytesV (turn (f.take i))) (bytesV (f.drop (i + 1))) (.int .u8 f[i].toNat) (.int .u8 (255 - f[i].toNat : Nat))
  rw [hA, hB] at this
  show bytesV l ++ (bytesV (turn (f.take i)) ++ (.int .u8 (255 - f[i]).toNat :: bytesV (f.drop (i + 1)))) = _
  rw [hx]
  exact this.symm
theorem form_pos (v : Int) : 1 ≤ (form v).length := by
  rw [form_length, formUp_length]
  generalize (if v < 0 then (-v - 1).toNat else v.toNat) = y
  split <;> omega
theorem form_le (v : Int) (hlo : -9223372036854775808 ≤ v) (hhi : v < 9223372036854775808) : (form v).length ≤ 9 := by
  rw [form_length, formUp_length]
  obtain ⟨y, hy⟩ : ∃ y, y = if v < 0 then (-v - 1).toNat else v.toNat := ⟨_, rfl⟩
  have hy2 : y < 9223372036854775808 := by rw [hy]; split <;> omega
  rw [← hy]
  have := nb_le (m := y - 120) (by omega)
  split <;> omega
set_option maxHeartbeats 4000000 in
theorem put_rf (l : List UInt8) (v : Int) (hlo : -9223372036854775808 ≤ v) (hhi : v < 9223372036854775808) (a : Option Addr) (m n0 n : Nat) (h : AH) (hO : OwnSl h n0 n a 1 m (bytesV l)) (hm : m ≤ 1099511627776) :
    RF Tryz.prog (inA a) 80 #[.slice a m m, .int .i64 v] n h (Put a l v m n0 n h) := by
  by_cases q : 0 ≤ v
  · exact putP_rf l v q hhi a m n0 n h hO hm
  refine RF.of Tryz.func80 rfl rfl (Nat.le_of_ble_eq_true rfl) ?_; dsimp only [argEnv]
  have hml : m = l.length := by have := hO.len; simp [bytesV] at this; omega
  obtain ⟨w, hw⟩ : ∃ w, w = -v - 1 := ⟨_, rfl⟩
  have hf : form v = turn (form w) := by
    unfold form
    rw [if_pos (by omega), if_neg (by omega), hw]
  have hfp := form_pos w
  have hfl := form_le w (by omega) (by omega)
  repeat (first | (refine RS.put (v := .int .i64 (-v - 1)) rfl rfl (o_notI (Opd.tmp Look.here) hlo hhi) ?_) | refine stpS ?_)
  rw [← hw]
  refine RS.call rfl opds (putP_rf l w (by omega) (by omega) a m n0 n _ hO hm) (fun b hb => .inl hb) ?_
  rintro r n1 h1 hle ⟨a1, rfl, hO1, hX1, hn1⟩
  have hS1 : SlB h1 n1 a1 (l ++ form w) := OwnSl.slbE hO1
  obtain ⟨-, -, hhi1, hI1, hA1, -⟩ := hO1.facts (by omega)
  have hSI : SlI h1 a1 1 (m + (form w).length) := SlI.of hO1.slr (Ext.refl _ _)
  repeat' (first | refine stpS ?_ | (refine stp2 ?_ ?_ <;> intro _))
  rw [show m + (form w).length - (m : Int).toNat = (form w).length by omega]
  have e0 : l ++ form w = cur l (form w) 0 := by simp [cur, turn]
  rw [e0] at hO1
  have hTs : a1 ≠ none → inA a (sb a1) ∨ n ≤ sb a1 := fun q => hn1.elim (fun e => .inl (by subst e; exact ⟨q, rfl⟩)) .inr
  refine RC.loop ?_
  refine RL.inv (α := Nat) (fun i => [(20, .int .i64 (i : Nat)), (19, .int .i64 ((form w).length : Nat)), (0, .slice a1 (m + (form w).length) (m + (form w).length)), (5, .int .i64 m)])
    (fun i n2 h2 => i ≤ (form w).length ∧ n1 = n2 ∧ ExtX n a h h2 ∧ OwnSl h2 n0 n2 a1 1 (m + (form w).length) (bytesV (cur l (form w) i)))
    (fun i => (form w).length - i) 0 envs ⟨by omega, rfl, hX1, hO1⟩ ?_
  rintro i n2 h2 ⟨hi, rfl, hX2, hO2⟩
  have hS2 : SlB h2 n1 a1 (cur l (form w) i) := OwnSl.slbE hO2
  obtain ⟨hso, -, -, hI2, -, -⟩ := hO2.facts (by omega)
  have hcl := cur_length l (form w) i
  have hb : ((cur l (form w) i).getD ((m : Int) + (i : Int)).toNat 0).toNat < 256 := UInt8.toNat_lt _
  have hTs' := hTs (fun e => by
    rcases hA1 with ⟨-, k⟩ | k
    · omega
    · rw [e] at k; cases k)
  by_cases hlt : i < (form w).length
  · repeat' (first | refine stpS ?_ | (refine stp2 ?_ ?_ <;> intro _))
    have hset := hO2.set1 (i := m + i) (v := .int .u8 (((((((cur l (form w) i).getD (l.length + i) 0).toNat : Nat) : Int).toNat ^^^ (255 : Int).toNat : Nat) : Int))) (by omega) rfl
    have hcs := cur_succ l (form w) i hlt
    rw [← hml] at hcs hset
    rw [← hcs] at hset
    rw [show ((m : Int) + (i : Int)).toNat = m + i by omega]
    refine nextC.normal ⟨i + 1, by omega, envs, by omega, rfl, ?_, hset⟩
    exact ExtX.step hX2 (Ext.refl n1 _) (k := n) (a' := a1) (fun x hx hne => ⟨by simp [AH.app, Dl.sets], fun j => by
      rcases hne with e | e
      · exact absurd e (fun e => by
          rcases hA1 with ⟨-, k⟩ | k
          · omega
          · rw [e] at k; cases k)
      · simp [AH.app, Dl.sets, e]⟩) hle (Nat.le_refl _) hn1
  · repeat' (first | refine stpS ?_ | (refine stp2 ?_ ?_ <;> intro _))
    have e : i = (form w).length := by omega
    subst e
    have hl : (form v).length = (form w).length := by rw [hf, turn_length]
    refine ⟨a1, by rw [hl], ?_, hX2, hn1⟩
    rw [hl, hf]
    have e2 : cur l (form w) (form w).length = l ++ turn (form w) := by simp [cur]
    rw [e2] at hO2
    exact hO2
end Go.Proofs.YtfbddbpbifnhfaaGreatDoor.Cd

/- Contracts taken from codec (written by port.py). -/
namespace Go.Proofs.YtfbddbpbifnhfaaGreatDoor.Cd
open Go.Abs
set_option maxHeartbeats 4000000 in
theorem equal_ev (t u : List UInt8) (a b : Option Addr) (m k n : Nat) (h : AH) (S : SlB h n a t) (S2 : SlB h n b u) (e : m = t.length) (e2 : k = u.length) :
    Ev Tryz.prog none' 12 #[.slice a m m, .slice b k k] n h (.bool (decide (t = u))) n h := by
  subst e; subst e2
  refine RF.pure rfl fun n' hn => ?_
  have S := S.ext (Ext.refl n h) hn
  have S2 := S2.ext (Ext.refl n h) hn
  refine RF.of Tryz.func12 rfl rfl (Nat.le_of_ble_eq_true rfl) ?_; dsimp only [argEnv]
  have hba : ∀ x y : List UInt8, ((⟨x.toArray⟩ : ByteArray) = ⟨y.toArray⟩) ↔ x = y := by
    intro x y; constructor
    · intro q; injection q with q; simpa using congrArg Array.toList q
    · intro q; rw [q]
  repeat' (first | refine stpS ?_ | (refine stp2 ?_ ?_ <;> intro _))
  · rename_i q
    have := (hba _ _).1 q
    simp [this]
  · rename_i q
    have : ¬ t = u := fun h => q ((hba _ _).2 h)
    simp [this]
def In64 (l : List Int) : Prop := ∀ v, v ∈ l → -9223372036854775808 ≤ v ∧ v < 9223372036854775808
theorem In64.at_ {l : List Int} (k : In64 l) (i : Nat) (hi : i < l.length) : -9223372036854775808 ≤ l.getD i 0 ∧ l.getD i 0 < 9223372036854775808 := by
  rw [List.getD_eq_getElem?_getD, List.getElem?_eq_getElem hi]
  exact k _ (List.getElem_mem hi)
def Row (l : List UInt8) (n : Nat) (h : AH) (r : Value) (n' : Nat) (h' : AH) : Prop :=
  ∃ a', r = .slice a' l.length l.length ∧ Ext n h h' ∧ OwnSl h' n n' a' 1 l.length (bytesV l)
end Go.Proofs.YtfbddbpbifnhfaaGreatDoor.Cd

/- Contracts taken from codec (written by port.py). -/
namespace Go.Proofs.YtfbddbpbifnhfaaGreatDoor.Cd
open Go.Abs Go.RowKit
theorem op_cap0 {P : Program} {T : Nat → Prop} {env : Env} {n : Nat} {g : AH} {dst : Option Tmp} {ty : TypeId} {pos : String} {after : Array Edge} {gd : Option (Nat × Bool)} {x : Operand} {t e : TypeId} [hu : Uc P t (.slice e)] (hx : Opd env x (.slice none 0 0)) :
    OpEv P T ⟨dst, .call { callee := .builtin .cap, args := #[x], argTypes := #[t] }, ty, pos, after, gd⟩ env n g (.int .i64 0) n .nil :=
  .calc fun ρ w ce h => by
    have h1 := h x (by simp [Op.operands, Call.operands]); rw [hx.ev] at h1
    have hr : (underlying t).run P w = .ok (.slice e) w := by simp [underlying, hu.out]
    generalize hc : ce x = cc at h1
    refine ⟨_, ?_, .int _ _⟩
    cases h1
    simp [execOp, resolve, invoke, builtin, Builtin.cap_, hr, hc, goInt]
theorem known_replicate (v : Value) (k : Nat) (h : known [v] = true) : known (List.replicate k v) = true := by
  induction k with
  | zero => rfl
  | succ k ih => rw [List.replicate_succ]; cases v <;> simp_all [known]
set_option maxHeartbeats 4000000 in
theorem grow_rf (k : Int) (h0 : 0 ≤ k) (hk : k ≤ 1099511627776) (n : Nat) (h : AH) :
    RF Tryz.prog none' 109 #[.slice none 0 0, .int .i64 k] n h (fun r n' h' => ∃ a', r = .slice a' 0 0 ∧ Ext n h h' ∧ OwnSl h' n n' a' 1 0 []) := by
  refine RF.of Tryz.func109 rfl rfl (Nat.le_of_ble_eq_true rfl) ?_; dsimp only [argEnv]
  repeat' (first | refine stpS ?_ | (refine stp2 ?_ ?_ <;> intro _))
  refine RS.put (v := .int .i64 0) rfl rfl (op_cap0 opd) ?_
  by_cases q : 0 < k
  · repeat' (first | refine stpS ?_ | (refine stp2 ?_ ?_ <;> intro _))
    refine RS.put (v := .int .i64 0) rfl rfl (op_cap0 opd) ?_
    have ek : k - (0 - ((0 : Nat) : Int)) = k := by omega
    repeat' (first | refine stpS ?_ | (refine stp2 ?_ ?_ <;> intro _))
    rw [ek]
    refine RS.put (v := .slice none 0 0) rfl rfl (op_sliceNil (lo := none) Uc.out Tc.out (Opd.ev opd) rfl ⟨_, Opd.ev opd⟩) ?_
    repeat' (first | refine stpS ?_ | (refine stp2 ?_ ?_ <;> intro _))
    refine RS.appendZT rfl opd opd (OwnSl.nil (h := h) (n0 := n) (z := 1) (Nat.le_refl n)) q (fun q => absurd rfl q) (by omega) (by show known (zrow [.int .u8 0] _) = true; rw [zrow_one]; exact known_replicate _ _ rfl) ?_
    intro a2 n2 h2 hle2 hO2 hX2 hnew
    repeat' (first | refine stpS ?_ | (refine stp2 ?_ ?_ <;> intro _))
    refine RS.sliceCut (u := 0) rfl opd opd hO2 (Nat.zero_le _) (fun q => .inr (hnew.resolve_left q)) ?_
    intro h3 hO3 hX3
    have hE2 := hX2.ext (OwnSl.nil (h := h) (n0 := n) (z := 1) (Nat.le_refl n))
    have hE3 := hX3.ext hO2
    repeat' (first | refine stpS ?_ | (refine stp2 ?_ ?_ <;> intro _))
    exact ⟨a2, rfl, ext, hO3⟩
  · repeat' (first | refine stpS ?_ | (refine stp2 ?_ ?_ <;> intro _))
    exact ⟨none, rfl, ext, OwnSl.nil (Nat.le_refl _)⟩
end Go.Proofs.YtfbddbpbifnhfaaGreatDoor.Cd

/- Contracts taken from codec (written by port.py). -/
namespace Go.Proofs.YtfbddbpbifnhfaaGreatDoor.Cd
open Go.Abs
def rowsF (ad : Nat → Option Addr) (ls : List (List UInt8)) : Nat → Value := fun j => .slice (ad j) (ls.getD j []).length (ls.getD j []).length
structure SlQ (h : AH) (n : Nat) (a : Option Addr) (ad : Nat → Option Addr) (ls : List (List UInt8)) : Prop where
  out : SlR h n a 1 ls.length (rowsF ad ls)
  row : ∀ j, j < ls.length → SlB h n (ad j) (ls.getD j [])
theorem SlQ.ext {h h1 : AH} {n n1 : Nat} {a : Option Addr} {ad : Nat → Option Addr} {ls : List (List UInt8)} (S : SlQ h n a ad ls) (E : Ext n h h1) (hn : n ≤ n1) : SlQ h1 n1 a ad ls :=
  ⟨S.out.ext E hn, fun j hj => (S.row j hj).ext E hn⟩
theorem flat_succ (ls : List (List UInt8)) (i : Nat) (hi : i < ls.length) : (ls.take (i + 1)).flatten = (ls.take i).flatten ++ ls.getD i [] := by
  rw [List.take_succ_eq_append_getElem hi, List.flatten_append]
  simp [List.getD, hi]
theorem flat_le (ls : List (List UInt8)) (i : Nat) : (ls.take i).flatten.length ≤ ls.flatten.length := by
  have : ls.flatten = (ls.take i).flatten ++ (ls.drop i).flatten := by rw [← List.flatten_append, List.take_append_drop]
  rw [this, List.length_append]; omega
set_option maxHeartbeats 4000000 in
theorem concat_rf (ls : List (List UInt8)) (ad : Nat → Option Addr) (a : Option Addr) (m n : Nat) (h : AH) (S : SlQ h n a ad ls) (e : m = ls.length) (hm : m ≤ 1099511627776) (ht : ls.flatten.length ≤ 1099511627776) :
    RF Tryz.prog none' 94 #[.slice a m m] n h (Row ls.flatten n h) := by
  subst e
  refine RF.of Tryz.func94 rfl rfl (Nat.le_of_ble_eq_true rfl) ?_; dsimp only [argEnv]
  repeat' (first | refine stpS ?_ | (refine stp2 ?_ ?_ <;> intro _))
  refine RC.loop ?_
  refine RL.inv (α := Nat) (fun i => [(11, .int .i64 (i : Nat)), (10, .int .i64 (ls.length : Nat)), (9, .slice a ls.length ls.length), (3, .int .i64 ((ls.take i).flatten.length : Nat)), (0, .slice a ls.length ls.length)])
    (fun i n1 h1 => i ≤ ls.length ∧ n1 = n ∧ h1 = h)
    (fun i => ls.length - i) 0 envs ⟨by omega, rfl, rfl⟩ ?_
  rintro i n1 h1 ⟨hi, rfl, rfl⟩
  have hfl := flat_le ls i
  have S1 := S.out
  by_cases hlt : i < ls.length
  · have hsu := flat_succ ls i hlt
    have hfl2 := flat_le ls (i + 1)
    rw [hsu, List.length_append] at hfl2
    have hfl3 : (ls.take i).flatten.length + (ls.getD (i : Int).toNat []).length ≤ ls.flatten.length := by rw [Int.toNat_natCast]; exact hfl2
    have hl : (ls.take (i + 1)).flatten.length = (ls.take i).flatten.length + (ls.getD (i : Int).toNat []).length := by rw [hsu, List.length_append, Int.toNat_natCast]
    repeat' (first | refine stpS ?_ | (refine stp2 ?_ ?_ <;> intro _))
    refine nextC.normal ⟨i + 1, by omega, ?_, by omega, rfl, rfl⟩
    rw [hl, Int.natCast_add]
    exact envs
  · have e : i = ls.length := by omega
    rw [e, List.take_of_length_le (Nat.le_refl _)]
    repeat' (first | refine stpS ?_ | (refine stp2 ?_ ?_ <;> intro _))
    refine RS.call rfl opds (grow_rf _ (by omega) (by omega) _ _) none'W ?_
    rintro r n2 h2 hle ⟨a2, rfl, hE2, hO2⟩
    repeat' (first | refine stpS ?_ | (refine stp2 ?_ ?_ <;> intro _))
    refine RC.loop ?_
    refine RL.inv (α := Nat × Option Addr) (fun s => [(27, .int .i64 (s.1 : Nat)), (26, .int .i64 (ls.length : Nat)), (25, .slice a ls.length ls.length), (6, .slice s.2 (ls.take s.1).flatten.length (ls.take s.1).flatten.length)])
      (fun s n3 h3 => s.1 ≤ ls.length ∧ n1 ≤ n3 ∧ Ext n1 h1 h3 ∧ OwnSl h3 n1 n3 s.2 1 (ls.take s.1).flatten.length (bytesV (ls.take s.1).flatten))
      (fun s => ls.length - s.1) (0, a2) envs ⟨by omega, by omega, hE2, hO2⟩ ?_
    rintro ⟨j, a3⟩ n3 h3 ⟨hj, hn3, hE3, hO3⟩
    dsimp only at hj hn3 hE3 hO3 ⊢
    have S3 := S.ext hE3 hn3
    have S3o := S3.out
    by_cases hlt2 : j < ls.length
    · have hsu := flat_succ ls j hlt2
      have hfl2 := flat_le ls (j + 1)
      rw [hsu, List.length_append] at hfl2
      repeat' (first | refine stpS ?_ | (refine stp2 ?_ ?_ <;> intro _))
      rw [show (j : Int).toNat = j by omega]
      rw [show rowsF ad ls j = .slice (ad j) (ls.getD j []).length (ls.getD j []).length from rfl]
      refine RS.append rfl opd opd hO3 (SlB.src (S3.row j hlt2)) full_slice (fun b hb => Or.inr (by omega)) (by omega) ?_
      intro a4 n4 h4 hle4 hO4 hX4 hnew4
      have hE4 := hX4.ext hO3
      rw [← bytesV_app, ← List.length_append, ← hsu] at hO4
      rw [← List.length_append, ← hsu]
      repeat' (first | refine stpS ?_ | (refine stp2 ?_ ?_ <;> intro _))
      exact nextC.normal ⟨(j + 1, a4), by dsimp only; omega, envs, by dsimp only; omega, by omega, ext, hO4⟩
    · repeat' (first | refine stpS ?_ | (refine stp2 ?_ ?_ <;> intro _))
      have e : j = ls.length := by omega
      rw [e, List.take_of_length_le (Nat.le_refl _)] at hO3 ⊢
      exact ⟨a3, rfl, ext, hO3⟩
end Go.Proofs.YtfbddbpbifnhfaaGreatDoor.Cd

/- Contracts taken from codec (written by port.py). -/
namespace Go.Proofs.YtfbddbpbifnhfaaGreatDoor.Cd
open Go.Abs
def step (c : Nat) : Nat := if c % 2 = 1 then (c / 2) ^^^ 2197175160 else c / 2
def stepN : Nat → Nat → Nat
  | 0, c => c
  | k + 1, c => step (stepN k c)
def byteStep (c : Nat) (b : UInt8) : Nat := stepN 8 (c ^^^ b.toNat)
def crcR (l : List UInt8) : Nat := l.foldl byteStep 4294967295
def crc (l : List UInt8) : Nat := 4294967295 - crcR l
theorem step_lt {c : Nat} (h : c < 4294967296) : step c < 4294967296 := by
  unfold step
  split
  · exact Nat.xor_lt_two_pow (n := 32) (by omega) (by omega)
  · omega
theorem stepN_lt {c : Nat} (h : c < 4294967296) (k : Nat) : stepN k c < 4294967296 := by
  induction k with
  | zero => exact h
  | succ k ih => exact step_lt ih
theorem xor_lt {c d : Nat} (h : c < 4294967296) (g : d < 4294967296) : c ^^^ d < 4294967296 := Nat.xor_lt_two_pow (n := 32) h g
theorem byteStep_lt {c : Nat} (h : c < 4294967296) (b : UInt8) : byteStep c b < 4294967296 := stepN_lt (xor_lt h (by have := b.toNat_lt; omega)) 8
theorem foldl_lt (l : List UInt8) : ∀ c, c < 4294967296 → l.foldl byteStep c < 4294967296 := by
  induction l with
  | nil => exact fun c h => h
  | cons b l ih => exact fun c h => ih _ (byteStep_lt h b)
theorem crcR_lt (l : List UInt8) : crcR l < 4294967296 := foldl_lt l _ (by omega)
theorem crcR_succ (l : List UInt8) (i : Nat) (hi : i < l.length) : crcR (l.take (i + 1)) = byteStep (crcR (l.take i)) (l.getD i 0) := by
  unfold crcR
  rw [List.take_succ_eq_append_getElem hi, List.foldl_append]
  simp [List.getD, hi]
set_option maxHeartbeats 4000000 in
theorem refSum_ev (l : List UInt8) (a : Option Addr) (m n : Nat) (h : AH) (S : SlB h n a l) (e : m = l.length) (hm : m ≤ 1099511627776) :
    Ev Tryz.prog none' 87 #[.slice a m m] n h (.int .u32 (crc l : Nat)) n h := by
  subst e
  refine RF.pure rfl fun n' hn => ?_
  have S := S.ext (Ext.refl n h) hn
  refine RF.of Tryz.func87 rfl rfl (Nat.le_of_ble_eq_true rfl) ?_; dsimp only [argEnv]
  repeat' (first | refine stpS ?_ | (refine stp2 ?_ ?_ <;> intro _))
  refine RC.loop ?_
  refine RL.inv (α := Nat) (fun i => [(4, .int .i64 (i : Nat)), (3, .int .u32 (crcR (l.take i) : Nat)), (0, .slice a l.length l.length)])
    (fun i n1 h1 => i ≤ l.length ∧ n1 = n' ∧ h1 = h)
    (fun i => l.length - i) 0 envs ⟨by omega, rfl, rfl⟩ ?_
  rintro i n1 h1 ⟨hi, rfl, rfl⟩
  have hc := crcR_lt (l.take i)
  by_cases hlt : i < l.length
  · have hsu := crcR_succ l i hlt
    have hb : (l.getD (i : Int).toNat 0).toNat < 256 := UInt8.toNat_lt _
    repeat' (first | refine stpS ?_ | (refine stp2 ?_ ?_ <;> intro _))
    simp only [Int.toNat_natCast]
    obtain ⟨c0, hc0⟩ : ∃ c0, c0 = crcR (l.take i) ^^^ (l.getD i 0).toNat := ⟨_, rfl⟩
    have hc0l : c0 < 4294967296 := by rw [hc0]; exact xor_lt hc (by have := (l.getD i 0).toNat_lt; omega)
    have hby : crcR (l.take (i + 1)) = stepN 8 c0 := by rw [hsu, hc0]; rfl
    rw [← hc0]
    refine RC.loop ?_
    refine RL.inv (α := Nat) (fun k => [(5, .int .i64 (k : Nat)), (3, .int .u32 (stepN k c0 : Nat)), (4, .int .i64 (i : Nat)), (0, .slice a l.length l.length)])
      (fun k n2 h2 => k ≤ 8 ∧ n2 = n1 ∧ h2 = h1)
      (fun k => 8 - k) 0 envs ⟨by omega, rfl, rfl⟩ ?_
    rintro k n2 h2 ⟨hk, rfl, rfl⟩
    have hsl := stepN_lt hc0l k
    have hst : stepN (k + 1) c0 = step (stepN k c0) := rfl
    unfold step at hst
    by_cases hk8 : k < 8
    · by_cases hodd : stepN k c0 % 2 = 1
      · rw [if_pos hodd] at hst
        repeat' (first | refine stpS ?_ | (refine stp2 ?_ ?_ <;> intro _))
        rw [show ((stepN k c0 : Int) / 2).toNat = stepN k c0 / 2 by omega, show Int.toNat 2197175160 = 2197175160 from rfl, ← hst]
        exact nextC.normal ⟨k + 1, by omega, envs, by omega, rfl, rfl⟩
      · rw [if_neg hodd] at hst
        repeat' (first | refine stpS ?_ | (refine stp2 ?_ ?_ <;> intro _))
        refine nextC.normal ⟨k + 1, by omega, ?_, by omega, rfl, rfl⟩
        rw [hst, Int.natCast_ediv]
        exact envs
    · obtain rfl : k = 8 := by omega
      rw [← hby]
      repeat' (first | refine stpS ?_ | (refine stp2 ?_ ?_ <;> intro _))
      exact nextC.normal ⟨i + 1, by omega, envs, by omega, rfl, rfl⟩
  · obtain rfl : i = l.length := by omega
    rw [List.take_of_length_le (Nat.le_refl _)] at hc ⊢
    repeat' (first | refine stpS ?_ | (refine stp2 ?_ ?_ <;> intro _))
    exact congrArg (Value.int .u32) (by unfold crc; omega)
end Go.Proofs.YtfbddbpbifnhfaaGreatDoor.Cd

/- Contracts taken from codec (written by port.py). -/
namespace Go.Proofs.YtfbddbpbifnhfaaGreatDoor.Cd
open Go.Abs
def bitsF (w : List Nat) (c : Nat) : Nat := w.foldl (fun c x => step (c ^^^ x)) c
def valB : List Nat → Nat
  | [] => 0
  | x :: w => x + 2 * valB w
def Bit (w : List Nat) : Prop := ∀ x, x ∈ w → x < 2
theorem Bit.tail {x : Nat} {w : List Nat} (h : Bit (x :: w)) : Bit w := fun y hy => h y (List.mem_cons_of_mem _ hy)
def bitsB (b : UInt8) : List Nat := (List.range 8).map fun i => b.toNat / 2 ^ i % 2
def bitsL (l : List UInt8) : List Nat := l.flatMap bitsB
def xorL (l m : List UInt8) : List UInt8 := List.zipWith (· ^^^ ·) l m
def Burst (e : List UInt8) (s : Nat) : Prop := ∀ k, (bitsL e).getD k 0 ≠ 0 → s ≤ k ∧ k < s + 32
theorem Bit.sub {w v : List Nat} (h : Bit w) (hs : ∀ x, x ∈ v → x ∈ w) : Bit v := fun x hx => h x (hs x hx)
end Go.Proofs.YtfbddbpbifnhfaaGreatDoor.Cd

/- Contracts taken from codec (written by port.py). -/
namespace Go.Proofs.YtfbddbpbifnhfaaGreatDoor.Cd
open Go.Abs
set_option maxHeartbeats 4000000 in
theorem sum_ev (ls : List (List UInt8)) (ad : Nat → Option Addr) (a : Option Addr) (m n : Nat) (h : AH) (S : SlQ h n a ad ls) (e : m = ls.length) (hm : m ≤ 1099511627776) (ht : ls.flatten.length ≤ 1099511627776) :
    Ev Tryz.prog none' 74 #[.slice a m m] n h (.int .u32 (crc ls.flatten : Nat)) n h := by
  subst e
  refine RF.pure rfl fun n' hn => ?_
  have S := S.ext (Ext.refl n h) hn
  refine RF.of Tryz.func74 rfl rfl (Nat.le_of_ble_eq_true rfl) ?_; dsimp only [argEnv]
  repeat' (first | refine stpS ?_ | (refine stp2 ?_ ?_ <;> intro _))
  refine RS.call rfl opds (concat_rf ls ad a _ _ _ S rfl hm ht) none'W ?_
  rintro r n1 h1 hle ⟨a1, rfl, hE1, hO1⟩
  generalize ls.flatten = l at *
  have S1 : SlB h1 n1 a1 l := OwnSl.slbE hO1
  repeat' (first | refine stpS ?_ | (refine stp2 ?_ ?_ <;> intro _))
  refine RC.loop ?_
  refine RL.inv (α := Nat) (fun i => [(9, .int .i64 (i : Nat)), (8, .int .i64 (l.length : Nat)), (7, .slice a1 l.length l.length), (3, .int .u32 (crcR (l.take i) : Nat))])
    (fun i n2 h2 => i ≤ l.length ∧ n2 = n1 ∧ h2 = h1)
    (fun i => l.length - i) 0 envs ⟨by omega, rfl, rfl⟩ ?_
  rintro i n2 h2 ⟨hi, rfl, rfl⟩
  have hc := crcR_lt (l.take i)
  by_cases hlt : i < l.length
  · have hsu := crcR_succ l i hlt
    have hb : (l.getD (i : Int).toNat 0).toNat < 256 := UInt8.toNat_lt _
    repeat' (first | refine stpS ?_ | (refine stp2 ?_ ?_ <;> intro _))
    simp only [Int.toNat_natCast]
    obtain ⟨c0, hc0⟩ : ∃ c0, c0 = crcR (l.take i) ^^^ (l.getD i 0).toNat := ⟨_, rfl⟩
    have hc0l : c0 < 4294967296 := by rw [hc0]; exact xor_lt hc (by have := (l.getD i 0).toNat_lt; omega)
    have hby : crcR (l.take (i + 1)) = stepN 8 c0 := by rw [hsu, hc0]; rfl
    rw [← hc0]
    refine RC.loop ?_
    refine RL.inv (α := Nat) (fun k => [(17, .int .i64 (k : Nat)), (3, .int .u32 (stepN k c0 : Nat)), (9, .int .i64 (i : Nat)), (8, .int .i64 (l.length : Nat)), (7, .slice a1 l.length l.length)])
      (fun k n3 h3 => k ≤ 8 ∧ n3 = n2 ∧ h3 = h2)
      (fun k => 8 - k) 0 envs ⟨by omega, rfl, rfl⟩ ?_
    rintro k n3 h3 ⟨hk, rfl, rfl⟩
    have hsl := stepN_lt hc0l k
    have hst : stepN (k + 1) c0 = step (stepN k c0) := rfl
    unfold step at hst
    by_cases hk8 : k < 8
    · iterate 40 (try refine stpS ?_)
      by_cases hodd : stepN k c0 % 2 = 1
      · rw [if_pos hodd] at hst
        have hw : IntKind.u32.wrap (0 - (stepN k c0 : Int) % 2) = 4294967295 := by
          rw [show (stepN k c0 : Int) % 2 = 1 by omega]; rfl
        rw [hw]
        repeat' (first | refine stpS ?_ | (refine stp2 ?_ ?_ <;> intro _))
        rw [show ((stepN k c0 : Int) / 2).toNat = stepN k c0 / 2 by omega, show ((2197175160 : Int) % 4294967296).toNat = 2197175160 from rfl, ← hst]
        exact nextC.normal ⟨k + 1, by omega, envs, by omega, rfl, rfl⟩
      · rw [if_neg hodd] at hst
        have hw : IntKind.u32.wrap (0 - (stepN k c0 : Int) % 2) = 0 := by
          rw [show (stepN k c0 : Int) % 2 = 0 by omega]; rfl
        rw [hw]
        repeat' (first | refine stpS ?_ | (refine stp2 ?_ ?_ <;> intro _))
        rw [show ((stepN k c0 : Int) / 2).toNat = stepN k c0 / 2 by omega, show ((2197175160 : Int) % 1).toNat = 0 from rfl, Nat.xor_zero, ← hst]
        exact nextC.normal ⟨k + 1, by omega, envs, by omega, rfl, rfl⟩
    · obtain rfl : k = 8 := by omega
      rw [← hby]
      repeat' (first | refine stpS ?_ | (refine stp2 ?_ ?_ <;> intro _))
      exact nextC.normal ⟨i + 1, by omega, envs, by omega, rfl, rfl⟩
  · obtain rfl : i = l.length := by omega
    rw [List.take_of_length_le (Nat.le_refl _)] at hc ⊢
    repeat' (first | refine stpS ?_ | (refine stp2 ?_ ?_ <;> intro _))
    exact congrArg (Value.int .u32) (by unfold crc; omega)
end Go.Proofs.YtfbddbpbifnhfaaGreatDoor.Cd

/- Contracts taken from codec (written by port.py). -/
namespace Go.Proofs.YtfbddbpbifnhfaaGreatDoor.Cd
open Go.Abs
structure WrR (h : AH) (n0 n w : Nat) (a : Option Addr) (b : List UInt8) : Prop where
  lo : n0 ≤ w
  hi : w < n
  inf : h.info w = some ⟨2, 0, true, 0⟩
  made : h.cell w 0 = .bool true
  sl : h.cell w 1 = .slice a b.length b.length
  own : OwnSl h n0 n a 1 b.length (bytesV b)
  ne : a = none ∨ sb a ≠ w
  le : b.length ≤ 1048576
def inW (w : Nat) (a : Option Addr) (x : Nat) : Prop := x = w ∨ inA a x
set_option maxHeartbeats 4000000 in
theorem newWriter_rf (n : Nat) (h : AH) : RF Tryz.prog none' 46 #[] n h (fun r n' h' => r = .pointer (some ⟨n, 0, none⟩) ∧ Ext n h h' ∧ WrR h' n n' n none []) := by
  refine RF.of Tryz.func46 rfl rfl (Nat.le_of_ble_eq_true rfl) ?_; dsimp only [argEnv]
  repeat' (first | refine stpS ?_ | (refine stp2 ?_ ?_ <;> intro _))
  exact ⟨rfl, ext, ⟨Nat.le_refl _, by omega, info, cell, cell, OwnSl.nil (by omega), .inl rfl, by simp⟩⟩
set_option maxHeartbeats 4000000 in
theorem more_rf (w : Nat) (a c : Option Addr) (b x : List UInt8) (m n0 n : Nat) (h : AH) (R : WrR h n0 n w a b) (S : SlB h n c x) (e : m = x.length) (hm : m ≤ 1099511627776) :
    RF Tryz.prog (inW w a) 79 #[.pointer (some ⟨w, 0, none⟩), .slice c m m] n h (fun r n' h' => ∃ a', r = .int .i64 (if x.length + b.length ≤ 1048576 then 0 else 3) ∧
      WrR h' n0 n' w a' (if x.length + b.length ≤ 1048576 then b ++ x else b) ∧ ExtW (inW w a) n h h' ∧ (a' = a ∨ n ≤ sb a')) := by
  subst e
  refine RF.of Tryz.func79 rfl rfl (Nat.le_of_ble_eq_true rfl) ?_; dsimp only [argEnv]
  obtain ⟨hlo, hhi, hinf, hmade, hsl, hown, hne, hle⟩ := R
  have hT : inW w a w ∨ n ≤ w := .inl (.inl rfl)
  by_cases q : x.length + b.length ≤ 1048576
  · rw [if_pos q, if_pos q]
    repeat' (first | refine stpS ?_ | (refine stp2 ?_ ?_ <;> intro _))
    refine RS.appendT rfl opd opd hown (SlB.src S) full_slice (fun q => .inl (.inr ⟨q, rfl⟩)) (by omega) ?_
    intro a2 n2 h2 hle2 hO2 hX hnew
    have hne' : a = none ∨ w ≠ sb a := hne.imp_right Ne.symm
    have hinf2 : h2.info w = some ⟨2, 0, true, 0⟩ := (hX w hhi hne').1.trans hinf
    have hmade2 : h2.cell w 0 = .bool true := ((hX w hhi hne').2 0).trans hmade
    have hne2 : a2 = none ∨ sb a2 ≠ w := by
      rcases hnew with k | k
      · rw [k]; exact hne
      · exact .inr (by omega)
    have hwn2 : w < n2 := by omega
    repeat' (first | refine stpS ?_ | (refine stp2 ?_ ?_ <;> intro _))
    refine ⟨a2, rfl, ⟨hlo, hwn2, ?_, ?_, ?_, ?_, hne2, by rw [List.length_append]; omega⟩, ?_, hnew⟩
    · rw [sets_info]; exact hinf2
    · exact cell
    · rw [List.length_append]; exact cell
    · rw [List.length_append, bytesV_app]
      exact hO2.setsN hne2
    · refine ⟨fun k hk hW => ?_, fun k i hk hW => ?_⟩
      · rw [sets_info]
        exact (hX k hk (by
          by_cases e : a = none
          · exact .inl e
          · exact .inr fun e2 => hW (.inr ⟨e, e2⟩))).1
      · rw [c_out (.inl fun e => hW (.inl e)) rfl]
        exact (hX k hk (by
          by_cases e : a = none
          · exact .inl e
          · exact .inr fun e2 => hW (.inr ⟨e, e2⟩))).2 i
  · rw [if_neg q, if_neg q]
    repeat' (first | refine stpS ?_ | (refine stp2 ?_ ?_ <;> intro _))
    exact ⟨a, rfl, ⟨hlo, hhi, hinf, hmade, hsl, hown, hne, hle⟩, ExtW.refl _ _ _, .inl rfl⟩
end Go.Proofs.YtfbddbpbifnhfaaGreatDoor.Cd

/- Contracts taken from codec (written by port.py). -/
namespace Go.Proofs.YtfbddbpbifnhfaaGreatDoor.Cd
open Go.Abs
theorem WrR.ext {h h1 : AH} {n0 n n1 w : Nat} {a : Option Addr} {b : List UInt8} (R : WrR h n0 n w a b) (E : Ext n h h1) (hn : n ≤ n1) : WrR h1 n0 n1 w a b :=
  ⟨R.lo, Nat.lt_of_lt_of_le R.hi hn, (E.info w R.hi).trans R.inf, (E.cell w 0 R.hi).trans R.made, (E.cell w 1 R.hi).trans R.sl, R.own.ext E hn, R.ne, R.le⟩
def WrTo (w : Nat) (a : Option Addr) (b x : List UInt8) (n0 n : Nat) (h : AH) (r : Value) (n' : Nat) (h' : AH) : Prop :=
  ∃ a', r = .int .i64 (if x.length + b.length ≤ 1048576 then 0 else 3) ∧ WrR h' n0 n' w a' (if x.length + b.length ≤ 1048576 then b ++ x else b) ∧ ExtW (inW w a) n h h' ∧ (a' = a ∨ n ≤ sb a')
set_option maxHeartbeats 4000000 in
theorem wInt_rf (w : Nat) (a : Option Addr) (b : List UInt8) (v : Int) (hlo : -9223372036854775808 ≤ v) (hhi : v < 9223372036854775808) (n0 n : Nat) (h : AH) (R : WrR h n0 n w a b) :
    RF Tryz.prog (inW w a) 47 #[.pointer (some ⟨w, 0, none⟩), .int .i64 v] n h (WrTo w a b (form v) n0 n h) := by
  refine RF.of Tryz.func47 rfl rfl (Nat.le_of_ble_eq_true rfl) ?_; dsimp only [argEnv]
  have hfl := form_le v hlo hhi
  repeat' (first | refine stpS ?_ | (refine stp2 ?_ ?_ <;> intro _))
  refine RS.call rfl opds (put_rf [] v hlo hhi none 0 n n h (OwnSl.nil (Nat.le_refl _)) (by omega)) (fun b hb => absurd rfl hb.1) ?_
  rintro r n1 h1 hle ⟨c, rfl, hO, hX, -⟩
  have hE : Ext n h h1 := ⟨fun k hk => (hX k hk (.inl rfl)).1, fun k i hk => (hX k hk (.inl rfl)).2 i⟩
  have S : SlB h1 n1 c (form v) := OwnSl.slbE (m := 0 + (form v).length) hO
  have R1 := R.ext hE hle
  have hmore := more_rf w a c b (form v) (0 + (form v).length) n0 n1 h1 R1 S (by omega) (by omega)
  refine RS.call rfl opds hmore (fun x hx => .inl hx) ?_
  rintro r n2 h2 hle2 ⟨a', rfl, hR2, hX2, hw2⟩
  repeat' (first | refine stpS ?_ | (refine stp2 ?_ ?_ <;> intro _))
  exact ⟨a', rfl, hR2, hX2.via hle (fun _ _ k => k) (ExtW.of hE (Nat.le_refl _)), hw2.imp_right fun k => by omega⟩
end Go.Proofs.YtfbddbpbifnhfaaGreatDoor.Cd

/- Contracts taken from codec (written by port.py). -/
namespace Go.Proofs.YtfbddbpbifnhfaaGreatDoor.Cd
open Go.Abs
set_option maxHeartbeats 4000000 in
theorem clone_rf (l : List UInt8) (a : Option Addr) (m n : Nat) (h : AH) (S : SlB h n a l) (e : m = l.length) (hm : m ≤ 1099511627776) :
    RF Tryz.prog none' 38 #[.slice a m m] n h (fun r n' h' => ∃ a', r = .slice a' m m ∧ Ext n h h' ∧ OwnSl h' n n' a' 1 m (bytesV l)) := by
  subst e
  refine RF.of Tryz.func38 rfl rfl (Nat.le_of_ble_eq_true rfl) ?_; dsimp only [argEnv]
  rcases S.two with ⟨ha, hl⟩ | ⟨b, o, ha⟩
  · have : l = [] := List.eq_nil_of_length_eq_zero hl
    subst this; subst ha
    repeat' (first | refine stpS ?_ | (refine stp2 ?_ ?_ <;> intro _))
    exact ⟨none, rfl, ext, OwnSl.nil (by omega)⟩
  · subst ha
    repeat' (first | refine stpS ?_ | (refine stp2 ?_ ?_ <;> intro _))
    refine RS.append rfl opd opd (OwnSl.new (z := 1) (m := 0) (cs := []) (Nat.le_refl n) rfl rfl) (SlB.src (S.ext ext (Nat.le_refl _))) full_slice (fun b hb => Or.inr (by omega)) (by omega) ?_
    intro a' n1 h1 hle hO hX hnew
    have hE := hX.ext (OwnSl.new (z := 1) (m := 0) (cs := []) (Nat.le_refl n) rfl rfl)
    simp only [Nat.zero_add, List.nil_append] at hO ⊢
    repeat' (first | refine stpS ?_ | (refine stp2 ?_ ?_ <;> intro _))
    exact ⟨a', rfl, ext, hO⟩
set_option maxHeartbeats 4000000 in
theorem wOut_rf (w : Nat) (a : Option Addr) (b : List UInt8) (n0 n : Nat) (h : AH) (R : WrR h n0 n w a b) :
    RF Tryz.prog none' 49 #[.pointer (some ⟨w, 0, none⟩)] n h (Row b n h) := by
  refine RF.of Tryz.func49 rfl rfl (Nat.le_of_ble_eq_true rfl) ?_; dsimp only [argEnv]
  have S : SlB h n a b := OwnSl.slbE R.own
  obtain ⟨hlo, hhi, hinf, hmade, hsl, hown, hne, hle⟩ := R
  repeat' (first | refine stpS ?_ | (refine stp2 ?_ ?_ <;> intro _))
  refine RS.call rfl opds (clone_rf b a _ n h S rfl (by omega)) none'W ?_
  rintro r n1 h1 hle1 ⟨a', rfl, hE1, hO1⟩
  repeat' (first | refine stpS ?_ | (refine stp2 ?_ ?_ <;> intro _))
  exact ⟨a', rfl, ext, hO1⟩
end Go.Proofs.YtfbddbpbifnhfaaGreatDoor.Cd

/- Contracts taken from codec (written by port.py). -/
namespace Go.Proofs.YtfbddbpbifnhfaaGreatDoor.Cd
open Go.Abs
def escB (c : UInt8) : List UInt8 := if c.toNat = 0 then [c, 1] else [c]
def esc (l : List UInt8) : List UInt8 := l.flatMap escB
def formB (l : List UInt8) : List UInt8 := esc l ++ [0, 0]
theorem escB_le (c : UInt8) : (escB c).length ≤ 2 := by unfold escB; split <;> simp
theorem esc_le (l : List UInt8) : (esc l).length ≤ 2 * l.length := by
  induction l with
  | nil => simp [esc]
  | cons c l ih =>
    have := escB_le c
    simp only [esc, List.flatMap_cons, List.length_append, List.length_cons] at ih ⊢
    omega
theorem esc_take_le (l : List UInt8) (i : Nat) : (esc (l.take i)).length ≤ 2 * l.length := by
  have := esc_le (l.take i)
  rw [List.length_take] at this
  omega
theorem esc_succ (l : List UInt8) (i : Nat) (hi : i < l.length) : esc (l.take (i + 1)) = esc (l.take i) ++ escB (l.getD i 0) := by
  unfold esc
  rw [List.take_succ_eq_append_getElem hi, List.flatMap_append]
  simp [List.getD, hi]
set_option maxHeartbeats 4000000 in
theorem refBytes_rf (l : List UInt8) (a : Option Addr) (m n : Nat) (h : AH) (S : SlB h n a l) (e : m = l.length) (hm : m ≤ 1099511627776) :
    RF Tryz.prog none' 85 #[.slice a m m] n h (Row (formB l) n h) := by
  subst e
  refine RF.of Tryz.func85 rfl rfl (Nat.le_of_ble_eq_true rfl) ?_; dsimp only [argEnv]
  repeat' (first | refine stpS ?_ | (refine stp2 ?_ ?_ <;> intro _))
  refine RC.loop ?_
  refine RL.inv (α := Nat × Option Addr) (fun s => [(4, .int .i64 (s.1 : Nat)), (3, .slice s.2 (esc (l.take s.1)).length (esc (l.take s.1)).length), (0, .slice a l.length l.length)])
    (fun s n1 h1 => s.1 ≤ l.length ∧ n ≤ n1 ∧ Ext n h h1 ∧ OwnSl h1 n n1 s.2 1 (esc (l.take s.1)).length (bytesV (esc (l.take s.1))))
    (fun s => l.length - s.1) (0, none) envs ⟨by omega, by omega, Ext.refl _ _, OwnSl.nil (by omega)⟩ ?_
  rintro ⟨i, a'⟩ n1 h1 ⟨hi, hn, hE, hO⟩
  dsimp only at hi hn hE hO ⊢
  have hS : SlB h1 n1 a l := S.ext hE hn
  have hel := esc_take_le l i
  by_cases hlt : i < l.length
  · have hb : (l.getD (i : Int).toNat 0).toNat < 256 := UInt8.toNat_lt _
    have hsu := esc_succ l i hlt
    repeat' (first | refine stpS ?_ | (refine stp2 ?_ ?_ <;> intro _))
    refine RS.append rfl opd opd (hO.ext ext (Nat.le_succ _)) (OwnSl.src (OwnSl.new1 (n0 := n1) (m := 1) (Nat.le_refl _) rfl rfl)) full_slice (fun b hb => Or.inr (by omega)) (by omega) ?_
    intro a2 n2 h2 hle2 hO2 hX2 hnew2
    have hE2 := hX2.ext (hO.ext ext (Nat.le_succ _))
    have hS2 : SlB h2 n2 a l := S.ext ext (by omega)
    by_cases hz : (l.getD (i : Int).toNat 0).toNat = 0
    · repeat' (first | refine stpS ?_ | (refine stp2 ?_ ?_ <;> intro _))
      refine RS.append rfl opd opd (hO2.ext ext (Nat.le_succ _)) (OwnSl.src (OwnSl.new1 (n0 := n2) (m := 1) (Nat.le_refl _) rfl rfl)) full_slice (fun b hb => Or.inr (by omega)) (by omega) ?_
      intro a3 n3 h3 hle3 hO3 hX3 hnew3
      have hE3 := hX3.ext (hO2.ext ext (Nat.le_succ _))
      repeat' (first | refine stpS ?_ | (refine stp2 ?_ ?_ <;> intro _))
      rw [Int.toNat_natCast] at hz
      have he : escB (l.getD i 0) = [l.getD i 0, 1] := by unfold escB; rw [if_pos hz]
      have hl : (esc (l.take (i + 1))).length = (esc (l.take i)).length + 1 + 1 := by rw [hsu, List.length_append, he]; rfl
      refine nextC.normal ⟨(i + 1, a3), by dsimp only; omega, ?_, by dsimp only; omega, by omega, ext, ?_⟩
      · dsimp only
        rw [hl]; exact envs
      · dsimp only
        have hv : bytesV (esc (l.take (i + 1))) = (bytesV (esc (l.take i)) ++ [.int .u8 (l.getD i 0).toNat]) ++ [.int .u8 1] := by
          rw [hsu, he, bytesV_app, List.append_assoc]; rfl
        rw [hl, hv]
        rw [Int.toNat_natCast] at hO3
        exact hO3
    · repeat' (first | refine stpS ?_ | (refine stp2 ?_ ?_ <;> intro _))
      rw [Int.toNat_natCast] at hz
      have he : escB (l.getD i 0) = [l.getD i 0] := by unfold escB; rw [if_neg hz]
      have hl : (esc (l.take (i + 1))).length = (esc (l.take i)).length + 1 := by rw [hsu, List.length_append, he]; rfl
      refine nextC.normal ⟨(i + 1, a2), by dsimp only; omega, ?_, by dsimp only; omega, by omega, ext, ?_⟩
      · dsimp only
        rw [hl]; exact envs
      · dsimp only
        have hv : bytesV (esc (l.take (i + 1))) = bytesV (esc (l.take i)) ++ [.int .u8 (l.getD i 0).toNat] := by
          rw [hsu, he, bytesV_app]; rfl
        rw [hl, hv]
        rw [Int.toNat_natCast] at hO2
        exact hO2
  · repeat' (first | refine stpS ?_ | (refine stp2 ?_ ?_ <;> intro _))
    refine RS.append rfl opd opd (hO.ext ext (Nat.le_succ _)) (OwnSl.src (OwnSl.new1 (n0 := n1) (m := 2) (Nat.le_refl _) rfl rfl)) full_slice (fun b hb => Or.inr (by omega)) (by omega) ?_
    intro a2 n2 h2 hle2 hO2 hX2 hnew2
    have hE2 := hX2.ext (hO.ext ext (Nat.le_succ _))
    obtain rfl : i = l.length := by omega
    rw [List.take_of_length_le (Nat.le_refl _)] at hO2 ⊢
    repeat' (first | refine stpS ?_ | (refine stp2 ?_ ?_ <;> intro _))
    have hl : (formB l).length = (esc l).length + 2 := by unfold formB; rw [List.length_append]; rfl
    refine ⟨a2, by rw [hl], ext, ?_⟩
    rw [hl]
    unfold formB
    rw [bytesV_app]
    exact hO2
end Go.Proofs.YtfbddbpbifnhfaaGreatDoor.Cd

/- Contracts taken from codec (written by port.py). -/
namespace Go.Proofs.YtfbddbpbifnhfaaGreatDoor.Cd
open Go.Abs
variable {P : Program} {T : Nat → Prop} {env : Env} {n : Nat} {g : AH} {dst : Option Tmp} {ty : TypeId} {pos : String} {after : Array Edge} {gd : Option (Nat × Bool)}
theorem op_count {f : FuncId} {fn : Func} {ts : Array TypeId} {x y : Operand} {b o m : Nat} {l : List UInt8} {c : Int} (hf : P.funcs[f]? = some fn) (hname : (fn.name == "runtime.NumGoroutine") = false) (hb : fn.body.isNone = true) (hn : Extern.findNext fn = none)
    (he : Extern.find fn = some Extern.BytealgCount.count) (hx : ev env x = .slice (some ⟨b, o, none⟩) m m) (hy : ev env y = .int .u8 c) (hr : rd g b o m = bytesV l) :
    OpEv P T ⟨dst, .call { callee := .value (.func f), args := #[x, y], argTypes := ts }, ty, pos, after, gd⟩ env n g (.int .i64 (l.count c.toNat.toUInt8 : Nat)) n .nil :=
  .look fun w0 ρ w H ce hl hsim hop => by
    have h1 := hop x (by simp [Op.operands, Call.operands]); rw [hx] at h1
    have h3 := hop y (by simp [Op.operands, Call.operands]); rw [hy] at h3
    have hcy : ce y = .int .u8 c := h3.int_inv
    have h2 := hop (.func f) (by simp [Op.operands, Call.operands])
    have hcf0 : ce (.func f) = .func (.func f) #[] #[] := by
      have e0 : ev env (.func f) = .func (.func f) #[] #[] := rfl
      rw [e0] at h2
      generalize ce (.func f) = q at h2
      cases h2 with
      | @func _ _ ys hs _ =>
        have : ys = #[] := Array.eq_empty_of_size_eq_zero (by simpa using hs.symm)
        rw [this]
    refine ⟨.int .i64 (l.count c.toNat.toUInt8 : Nat), ?_, .int _ _⟩
    have hm : m = l.length := by rw [← rd_length g b m o, hr, bytesV_length]
    have hbo : ∀ l : List UInt8, Lib.bytesOf (l.map fun b => (b.toNat : Int)) = l := by
      intro l
      simp [Lib.bytesOf, Function.comp_def]
    generalize hc : ce x = cx at h1
    cases h1 with
    | @slice _ _ _ L C h hn2 hcap =>
      obtain ⟨cs, c1, c2, c3⟩ := hsim.rd (P := P) hl h (k := m) (o := o) (by rw [hr]; exact bytesV_known l)
      have hcell : ∀ i, i < m → w.cell? (Addr.add ⟨L.blk, L.off + o, none⟩ i) = some (.int .u8 ((l.map fun b => (b.toNat : Int)).getD i 0)) := by
        intro i hi
        have k := c2 i hi
        rw [hr] at k
        have hi2 : i < l.length := by omega
        have e1 : (bytesV l).getD i (.tuple #[]) = .int .u8 (l[i]).toNat := by simp [bytesV, List.getD, hi2]
        have k2 := k.2
        rw [e1] at k2
        have k1 := k.1
        rw [k2.int_inv] at k1
        have e2 : (l.map fun b => (b.toNat : Int)).getD i 0 = (l[i]).toNat := by simp [List.getD, hi2]
        rw [e2, addr_add]
        exact k1
      have hrun := Lib.run_countAt (P := P) w ⟨L.blk, L.off + o, none⟩ m C (l.map fun b => (b.toNat : Int)) (by simp [hm]) hcell c
      rw [hbo] at hrun
      have hcf := run_callFunc_extern hf hname hb hn he #[.slice (some ⟨L.blk, L.off + o, none⟩) m C, .int .u8 c] w
      rw [hrun] at hcf
      simp [execOp, resolve, invoke, hc, hcy, hcf, hcf0, Deferred.ofValue, Lib.countByte]
    | slice0 a h =>
      have : l = [] := List.eq_nil_of_length_eq_zero hm.symm
      subst this
      have hrun := Lib.run_countAt (P := P) w a 0 0 [] rfl (fun i hi => absurd hi (by omega)) c
      have hcf := run_callFunc_extern hf hname hb hn he #[.slice (some a) 0 0, .int .u8 c] w
      rw [hrun] at hcf
      simp [execOp, resolve, invoke, hc, hcy, hcf, hcf0, Deferred.ofValue, Lib.countByte, Lib.bytesOf]
theorem op_count0 {f : FuncId} {fn : Func} {ts : Array TypeId} {x y : Operand} {c : Int} (hf : P.funcs[f]? = some fn) (hname : (fn.name == "runtime.NumGoroutine") = false) (hb : fn.body.isNone = true) (hn : Extern.findNext fn = none)
    (he : Extern.find fn = some Extern.BytealgCount.count) (hx : ev env x = .slice none 0 0) (hy : ev env y = .int .u8 c) :
    OpEv P T ⟨dst, .call { callee := .value (.func f), args := #[x, y], argTypes := ts }, ty, pos, after, gd⟩ env n g (.int .i64 0) n .nil :=
  .look fun w0 ρ w H ce hl hsim hop => by
    have h1 := hop x (by simp [Op.operands, Call.operands]); rw [hx] at h1
    have h3 := hop y (by simp [Op.operands, Call.operands]); rw [hy] at h3
    have hcy : ce y = .int .u8 c := h3.int_inv
    have h2 := hop (.func f) (by simp [Op.operands, Call.operands])
    have hcf0 : ce (.func f) = .func (.func f) #[] #[] := by
      have e0 : ev env (.func f) = .func (.func f) #[] #[] := rfl
      rw [e0] at h2
      generalize ce (.func f) = q at h2
      cases h2 with
      | @func _ _ ys hs _ =>
        have : ys = #[] := Array.eq_empty_of_size_eq_zero (by simpa using hs.symm)
        rw [this]
    refine ⟨.int .i64 0, ?_, .int _ _⟩
    have hc : ce x = .slice none 0 0 := by generalize ce x = q at h1; cases h1; rfl
    have hrun := Lib.run_countNil (P := P) w 0 0 c
    have hcf := run_callFunc_extern hf hname hb hn he #[.slice none 0 0, .int .u8 c] w
    rw [hrun] at hcf
    simp [execOp, resolve, invoke, hc, hcy, hcf, hcf0, Deferred.ofValue]
set_option maxHeartbeats 4000000 in
theorem count_ev (l : List UInt8) (c : UInt8) (a d : Option Addr) (m n : Nat) (h : AH) (S : SlB h n a l) (S2 : SlB h n d [c]) (e : m = l.length) (hm : m ≤ 1099511627776) :
    Ev Tryz.prog none' 111 #[.slice a m m, .slice d 1 1] n h (.int .i64 (l.count c : Nat)) n h := by
  subst e
  refine RF.pure rfl fun n' hn => ?_
  have S := S.ext (Ext.refl n h) hn
  have S2 := S2.ext (Ext.refl n h) hn
  refine RF.of Tryz.func111 rfl rfl (Nat.le_of_ble_eq_true rfl) ?_; dsimp only [argEnv]
  have hd0 : h.cell (sb d) (so d + (0 : Int).toNat) = .int .u8 c.toNat := S2.cell 0 (by simp)
  repeat' (first | refine stpS ?_ | (refine stp2 ?_ ?_ <;> intro _))
  rcases S.shape with ⟨ha, hl⟩ | ⟨ha, -, -⟩
  · have : l = [] := List.eq_nil_of_length_eq_zero hl
    subst this; subst ha
    refine RS.put (v := .int .i64 0) rfl rfl (op_count0 (f := 116) Tryz.func116 (by kernel_rfl) (by kernel_rfl) (by kernel_rfl) (by kernel_rfl) (Opd.ev opd) (Opd.ev opd)) ?_
    repeat' (first | refine stpS ?_ | (refine stp2 ?_ ?_ <;> intro _))
    rfl
  · have hrd : rd h (sb a) (so a) l.length = bytesV l := Go.Abs.SlB.rd S (Ext.refl n' h)
    rw [ha]
    refine RS.put (v := .int .i64 (l.count ((c.toNat : Int).toNat.toUInt8) : Nat)) rfl rfl (op_count (f := 116) (l := l) Tryz.func116 (by kernel_rfl) (by kernel_rfl) (by kernel_rfl) (by kernel_rfl) (Opd.ev opd) (Opd.ev opd) hrd) ?_
    have hcc : (c.toNat : Int).toNat.toUInt8 = c := by rw [Int.toNat_natCast]; exact UInt8.ofNat_toNat
    rw [hcc]
    repeat' (first | refine stpS ?_ | (refine stp2 ?_ ?_ <;> intro _))
    rfl
end Go.Proofs.YtfbddbpbifnhfaaGreatDoor.Cd

/- Contracts taken from codec (written by port.py). -/
namespace Go.Proofs.YtfbddbpbifnhfaaGreatDoor.Cd
open Go.Abs
variable {P : Program} {T : Nat → Prop} {env : Env} {n : Nat} {g : AH} {dst : Option Tmp} {ty : TypeId} {pos : String} {after : Array Edge} {gd : Option (Nat × Bool)}
theorem op_indexByte {f : FuncId} {fn : Func} {ts : Array TypeId} {x y : Operand} {b o m : Nat} {l : List UInt8} {c : Int} (hf : P.funcs[f]? = some fn) (hname : (fn.name == "runtime.NumGoroutine") = false) (hb : fn.body.isNone = true) (hn : Extern.findNext fn = none)
    (he : Extern.find fn = some Extern.BytealgIndexByte.indexByte) (hx : ev env x = .slice (some ⟨b, o, none⟩) m m) (hy : ev env y = .int .u8 c) (hr : rd g b o m = bytesV l) :
    OpEv P T ⟨dst, .call { callee := .value (.func f), args := #[x, y], argTypes := ts }, ty, pos, after, gd⟩ env n g (.int .i64 (Lib.indexByte l c.toNat.toUInt8)) n .nil :=
  .look fun w0 ρ w H ce hl hsim hop => by
    have h1 := hop x (by simp [Op.operands, Call.operands]); rw [hx] at h1
    have h3 := hop y (by simp [Op.operands, Call.operands]); rw [hy] at h3
    have hcy : ce y = .int .u8 c := h3.int_inv
    have h2 := hop (.func f) (by simp [Op.operands, Call.operands])
    have hcf0 : ce (.func f) = .func (.func f) #[] #[] := by
      have e0 : ev env (.func f) = .func (.func f) #[] #[] := rfl
      rw [e0] at h2
      generalize ce (.func f) = q at h2
      cases h2 with
      | @func _ _ ys hs _ =>
        have : ys = #[] := Array.eq_empty_of_size_eq_zero (by simpa using hs.symm)
        rw [this]
    refine ⟨.int .i64 (Lib.indexByte l c.toNat.toUInt8), ?_, .int _ _⟩
    have hm : m = l.length := by rw [← rd_length g b m o, hr, bytesV_length]
    have hbo : ∀ l : List UInt8, Lib.bytesOf (l.map fun b => (b.toNat : Int)) = l := by
      intro l
      simp [Lib.bytesOf, Function.comp_def]
    generalize hc : ce x = cx at h1
    cases h1 with
    | @slice _ _ _ L C h hn2 hcap =>
      obtain ⟨cs, c1, c2, c3⟩ := hsim.rd (P := P) hl h (k := m) (o := o) (by rw [hr]; exact bytesV_known l)
      have hcell : ∀ i, i < m → w.cell? (Addr.add ⟨L.blk, L.off + o, none⟩ i) = some (.int .u8 ((l.map fun b => (b.toNat : Int)).getD i 0)) := by
        intro i hi
        have k := c2 i hi
        rw [hr] at k
        have hi2 : i < l.length := by omega
        have e1 : (bytesV l).getD i (.tuple #[]) = .int .u8 (l[i]).toNat := by simp [bytesV, List.getD, hi2]
        have k2 := k.2
        rw [e1] at k2
        have k1 := k.1
        rw [k2.int_inv] at k1
        have e2 : (l.map fun b => (b.toNat : Int)).getD i 0 = (l[i]).toNat := by simp [List.getD, hi2]
        rw [e2, addr_add]
        exact k1
      have hrun := Lib.run_indexByteAt (P := P) w ⟨L.blk, L.off + o, none⟩ m C (l.map fun b => (b.toNat : Int)) (by simp [hm]) hcell c
      rw [hbo] at hrun
      have hcf := run_callFunc_extern hf hname hb hn he #[.slice (some ⟨L.blk, L.off + o, none⟩) m C, .int .u8 c] w
      rw [hrun] at hcf
      simp [execOp, resolve, invoke, hc, hcy, hcf, hcf0, Deferred.ofValue]
    | slice0 a h =>
      have : l = [] := List.eq_nil_of_length_eq_zero hm.symm
      subst this
      have hrun := Lib.run_indexByteAt (P := P) w a 0 0 [] rfl (fun i hi => absurd hi (by omega)) c
      have hcf := run_callFunc_extern hf hname hb hn he #[.slice (some a) 0 0, .int .u8 c] w
      rw [hrun] at hcf
      simp [execOp, resolve, invoke, hc, hcy, hcf, hcf0, Deferred.ofValue, Lib.bytesOf]
end Go.Proofs.YtfbddbpbifnhfaaGreatDoor.Cd

/- Contracts taken from codec (written by port.py). -/
namespace Go.Proofs.YtfbddbpbifnhfaaGreatDoor.Cd
open Go.Abs
set_option maxHeartbeats 4000000 in
theorem indexByte_ev (l : List UInt8) (c : UInt8) (a : Option Addr) (m n : Nat) (h : AH) (S : SlB h n a l) (hl : 0 < l.length) (e : m = l.length) :
    Ev Tryz.prog none' 108 #[.slice a m m, .int .u8 c.toNat] n h (.int .i64 (Lib.indexByte l c)) n h := by
  subst e
  refine RF.pure rfl fun n' hn => ?_
  have S := S.ext (Ext.refl n h) hn
  refine RF.of Tryz.func108 rfl rfl (Nat.le_of_ble_eq_true rfl) ?_; dsimp only [argEnv]
  repeat' (first | refine stpS ?_ | (refine stp2 ?_ ?_ <;> intro _))
  rcases S.shape with ⟨ha, hl⟩ | ⟨ha, -, -⟩
  · omega
  · have hrd : rd h (sb a) (so a) l.length = bytesV l := Go.Abs.SlB.rd S (Ext.refl n' h)
    rw [ha]
    refine RS.put (v := .int .i64 (Lib.indexByte l ((c.toNat : Int).toNat.toUInt8))) rfl rfl (op_indexByte (f := 114) (l := l) Tryz.func114 (by kernel_rfl) (by kernel_rfl) (by kernel_rfl) (by kernel_rfl) (Opd.ev opd) (Opd.ev opd) hrd) ?_
    have hcc : (c.toNat : Int).toNat.toUInt8 = c := by rw [Int.toNat_natCast]; exact UInt8.ofNat_toNat
    rw [hcc]
    repeat' (first | refine stpS ?_ | (refine stp2 ?_ ?_ <;> intro _))
    rfl
set_option maxHeartbeats 4000000 in
theorem index_ev (l : List UInt8) (c : UInt8) (a d : Option Addr) (m n : Nat) (h : AH) (S : SlB h n a l) (S2 : SlB h n d [c]) (hl : 0 < l.length) (e : m = l.length) :
    Ev Tryz.prog none' 112 #[.slice a m m, .slice d 1 1] n h (.int .i64 (Lib.indexByte l c)) n h := by
  subst e
  refine RF.pure rfl fun n' hn => ?_
  have S := S.ext (Ext.refl n h) hn
  have S2 := S2.ext (Ext.refl n h) hn
  refine RF.of Tryz.func112 rfl rfl (Nat.le_of_ble_eq_true rfl) ?_; dsimp only [argEnv]
  have hd0 : h.cell (sb d) (so d + (0 : Int).toNat) = .int .u8 c.toNat := S2.cell 0 (by simp)
  repeat' (first | refine stpS ?_ | (refine stp2 ?_ ?_ <;> intro _) | refine RS.call1 rfl opds (indexByte_ev l c a _ _ _ S hl rfl) none'W ?_)
  rfl
end Go.Proofs.YtfbddbpbifnhfaaGreatDoor.Cd

/- Contracts taken from codec (written by port.py). -/
namespace Go.Proofs.YtfbddbpbifnhfaaGreatDoor.Cd
open Go.Abs
theorem esc_app (l m : List UInt8) : esc (l ++ m) = esc l ++ esc m := by simp [esc]
theorem esc_length (l : List UInt8) : (esc l).length = l.length + l.count 0 := by
  induction l with
  | nil => rfl
  | cons c l ih =>
    simp only [esc, List.flatMap_cons, List.length_append, List.length_cons] at ih ⊢
    rw [ih, List.count_cons]
    unfold escB
    by_cases h : c = 0
    · subst h; simp; omega
    · have h2 : ¬ c.toNat = 0 := fun e => h (by simpa using (UInt8.toNat_inj (a := c) (b := 0)).1 e)
      rw [if_neg h2]
      simp [h]; omega
theorem esc_none {l : List UInt8} (h : ∀ k : Nat, l[k]? ≠ some 0) : esc l = l := by
  induction l with
  | nil => rfl
  | cons c l ih =>
    have h0 : ¬ c.toNat = 0 := fun e => h 0 (by simpa using (UInt8.toNat_inj (a := c) (b := 0)).1 e)
    have := ih fun k => by simpa using h (k + 1)
    unfold esc at this ⊢
    rw [List.flatMap_cons, this]
    unfold escB
    rw [if_neg h0]; rfl
theorem index_at {l : List UInt8} {s : Nat} (h : 0 < (l.drop s).count 0) : ∃ k : Nat, Lib.indexByte (l.drop s) 0 = k ∧ s + k + 1 ≤ l.length ∧ (l.drop (s + k + 1)).count 0 + 1 = (l.drop s).count 0 ∧ esc (l.take (s + k + 1)) = esc (l.take s) ++ (l.take (s + k)).drop s ++ [0, 1] := by
  have hge := Lib.indexByte_ge (l.drop s) 0
  have hne : Lib.indexByte (l.drop s) 0 ≠ -1 := fun e => by
    have := Lib.indexByte_none e
    have h2 := List.count_eq_zero.2 (fun hm => by
      obtain ⟨k, hk⟩ := List.getElem?_of_mem hm
      exact this k hk)
    omega
  obtain ⟨k, hk⟩ : ∃ k : Nat, Lib.indexByte (l.drop s) 0 = k := ⟨(Lib.indexByte (l.drop s) 0).toNat, by omega⟩
  obtain ⟨h1, h2⟩ := Lib.indexByte_some hk
  rw [List.getElem?_drop] at h1
  have hlt : s + k < l.length := by
    by_cases q : s + k < l.length
    · exact q
    · rw [List.getElem?_eq_none (by omega)] at h1; cases h1
  have hat : l[s + k] = 0 := by rw [List.getElem?_eq_getElem hlt] at h1; exact Option.some.inj h1
  have hmid : ∀ i : Nat, ((l.take (s + k)).drop s)[i]? ≠ some 0 := fun i => by
    by_cases q : i < k
    · have := h2 i q
      rw [List.getElem?_drop] at this ⊢
      rw [List.getElem?_take, if_pos (by omega)]; exact this
    · rw [List.getElem?_eq_none (by rw [List.length_drop, List.length_take]; omega)]; simp
  have e0 : l.take (s + k) = l.take s ++ (l.take (s + k)).drop s := by
    have := (List.take_append_drop s (l.take (s + k))).symm
    rw [List.take_take, Nat.min_eq_left (by omega)] at this; exact this
  have e1 : l.take (s + k + 1) = l.take s ++ (l.take (s + k)).drop s ++ [0] := by
    rw [List.take_succ_eq_append_getElem hlt, hat, ← e0]
  refine ⟨k, hk, by omega, ?_, ?_⟩
  · have e2 : l.drop s = (l.take (s + k)).drop s ++ 0 :: l.drop (s + k + 1) := by
      have a1 : l.drop s = (l.take (s + k)).drop s ++ l.drop (s + k) := by
        have := List.drop_append (i := s) (l₁ := l.take (s + k)) (l₂ := l.drop (s + k))
        rw [List.take_append_drop, List.length_take, Nat.min_eq_left (by omega), show s - (s + k) = 0 by omega, List.drop_zero] at this
        exact this
      rw [a1, List.drop_eq_getElem_cons hlt, hat]
    have e3 : ((l.take (s + k)).drop s).count 0 = 0 := List.count_eq_zero.2 fun hm => by
      obtain ⟨i, hi⟩ := List.getElem?_of_mem hm
      exact hmid i hi
    rw [e2, List.count_append, e3, List.count_cons]
    simp
  · rw [e1, esc_app, esc_app, esc_none hmid]
    rfl
theorem esc_end {l : List UInt8} {s : Nat} (h : (l.drop s).count 0 = 0) : esc l = esc (l.take s) ++ l.drop s := by
  have := esc_app (l.take s) (l.drop s)
  rw [List.take_append_drop] at this
  rw [this, esc_none (l := l.drop s)]
  intro k hk
  exact (List.count_eq_zero.1 h) (List.mem_of_getElem? hk)
theorem splice_room {α : Type} (z : α) (p x : List α) (M : Nat) (h : p.length + x.length ≤ M) : splice (p ++ List.replicate (M - p.length) z) p.length x = (p ++ x) ++ List.replicate (M - (p ++ x).length) z := by
  unfold splice
  have h1 : (p ++ List.replicate (M - p.length) z).take p.length = p := by simp
  have h2 : (p ++ List.replicate (M - p.length) z).drop (p.length + x.length) = List.replicate (M - (p ++ x).length) z := by
    rw [List.drop_append, List.drop_eq_nil_of_le (by omega), List.nil_append, List.drop_replicate, List.length_append]
    congr 1; omega
  rw [h1, h2]
section
variable {P : Program} {T : Nat → Prop} {ops : Array Oper} {os : List Oper} {env : Env} {n : Nat} {h : AH} {dst : Option Tmp} {ty : TypeId} {pos : String} {after : Array Edge} {gd : Option (Nat × Bool)} {Q : Env → Nat → AH → Prop} {ps : List Ft}
theorem RS.gen (F : AH → Prop) (hF : F h) (k : ∀ h, F h → RS P T ops os env n h Q) : RS P T ops os env n h Q := k h hF
theorem RD.gen (F : AH → Prop) (hF : F h) (k : ∀ h, F h → RD P T ops ps os env n h Q) : RD P T ops ps os env n h Q := k h hF
theorem RS.copyO {q : Tmp} {t t2 e : TypeId} {d : TypeDesc} {by_ : Nat} {zv : Value} {x y : Operand} {a c : Option Addr} {n0 m i k : Nat} {l s : List UInt8} [hu : Uc P t (.slice e)] [hz : Tc P e d 1 by_ zv]
    (hw : wants ops ⟨some q, .call { callee := .builtin .copy, args := #[x, y], argTypes := #[t, t2] }, ty, pos, after, gd⟩ env = some true) (hx : Opd env x (.slice (sub a i) k k)) (hy : Opd env y (.slice c s.length s.length)) (hO : OwnSl h n0 n a 1 m (bytesV l)) (S : SlB h n c s)
    (hik : i + k = m) (ha : a ≠ none) (hsk : s.length ≤ k) (hT : T (sb a) ∨ n ≤ sb a)
    (K : OwnSl (h.app (.sets (sb a) (so a + i) (bytesV s))) n0 n a 1 m (bytesV (Abs.splice l i s)) → RS P T ops os ((q, .int .i64 s.length) :: env) n (h.app (.sets (sb a) (so a + i) (bytesV s))) Q) :
    RS P T ops (⟨some q, .call { callee := .builtin .copy, args := #[x, y], argTypes := #[t, t2] }, ty, pos, after, gd⟩ :: os) env n h Q := by
  have hO' := hO
  rcases hO.or with ⟨k1, k2⟩ | ⟨k1, k2, k3, k4, k5⟩
  · exact absurd k1 ha
  have hso : so a = 0 := by rw [k1]; rfl
  have hx' : ev env x = .slice (some ⟨sb a, so a + i, none⟩) k k := by rw [hx.ev, k1]; rfl
  have hop := op_copy (P := P) (T := T) (n := n) (g := h) (env := env) (dst := some q) (ty := ty) (pos := pos) (after := after) (gd := gd) (t := t) (t2 := t2) (z := 1) (k := s.length) (kk := s.length) (m := k) (v := .slice c s.length s.length) hu.out hz.out (by decide) hx' hy.ev
    S.src (full_slice) (fun c w h => lenOf_slice h) (by omega) (mm := ⟨m * 1, 0, true, 1⟩) k4 (Nat.zero_le _) (by rw [hso]; simp only [Nat.mul_one]; omega) hT k3
  exact RS.mem hw rfl hop (K (hO'.spliceB (by omega)))
theorem RD.copyO {q : Tmp} {t t2 e : TypeId} {d : TypeDesc} {by_ : Nat} {zv : Value} {x y : Operand} {a c : Option Addr} {n0 m i k nb : Nat} {l s : List UInt8} [hu : Uc P t (.slice e)] [hz : Tc P e d 1 by_ zv]
    (hw : wants ops ⟨some q, .call { callee := .builtin .copy, args := #[x, y], argTypes := #[t, t2] }, ty, pos, after, gd⟩ env = some true) (hx : Opd env x (.slice (sub a i) k k)) (hy : Opd env y (.slice c s.length s.length)) (hO : OwnSl h n0 nb a 1 m (bytesV l)) (S : SlB h nb c s)
    (hik : i + k = m) (ha : a ≠ none) (hsk : s.length ≤ k) (hT : T (sb a) ∨ n ≤ sb a) (hnb : nb ≤ n) (hc : CF ops ps.length (· < nb) (· = sb a) ps.length ps)
    (K : OwnSl (h.app (.sets (sb a) (so a + i) (bytesV s))) n0 nb a 1 m (bytesV (Abs.splice l i s)) → RD P T ops (⟨(· < nb), (· = sb a), n, n⟩ :: ps) os ((q, .int .i64 s.length) :: env) n (h.app (.sets (sb a) (so a + i) (bytesV s))) Q) :
    RD P T ops ps (⟨some q, .call { callee := .builtin .copy, args := #[x, y], argTypes := #[t, t2] }, ty, pos, after, gd⟩ :: os) env n h Q := by
  have hO' := hO
  rcases hO.or with ⟨k1, k2⟩ | ⟨k1, k2, k3, k4, k5⟩
  · exact absurd k1 ha
  have hso : so a = 0 := by rw [k1]; rfl
  have hx' : ev env x = .slice (some ⟨sb a, so a + i, none⟩) k k := by rw [hx.ev, k1]; rfl
  have S' : SlB (h.below nb) nb c s := S.ext (AH.below_ext h nb) (Nat.le_refl _)
  have hop := op_copy (P := P) (T := T) (n := n) (g := h.below nb) (env := env) (dst := some q) (ty := ty) (pos := pos) (after := after) (gd := gd) (t := t) (t2 := t2) (z := 1) (k := s.length) (kk := s.length) (m := k) (v := .slice c s.length s.length) hu.out hz.out (by decide) hx' hy.ev
    S'.src (full_slice) (fun c w h => lenOf_slice h) (by omega) (mm := ⟨m * 1, 0, true, 1⟩) (i_below k3 k4) (Nat.zero_le _) (by rw [hso]; simp only [Nat.mul_one]; omega) hT (by omega)
  refine RD.op (· < nb) (· = sb a) hw hop (AH.below_le _ _) (fun _ hx => AH.below_looks hx) (fun _ e => Nat.lt_of_lt_of_le e hnb) (fun b hb => .inl (sets_touches hb)) hc (.refl _) (K ?_)
  exact hO'.spliceB (by omega)
end
end Go.Proofs.YtfbddbpbifnhfaaGreatDoor.Cd

/- Contracts taken from codec (written by port.py). -/
namespace Go.Proofs.YtfbddbpbifnhfaaGreatDoor.Cd
open Go.Abs
set_option maxHeartbeats 4000000 in
theorem replace_rf (l : List UInt8) (a d0 d1 : Option Addr) (m n : Nat) (h : AH) (S : SlB h n a l) (S0 : SlB h n d0 [0]) (S1 : SlB h n d1 [0, 1]) (e : m = l.length) (hm : m ≤ 1099511627776) :
    RF Tryz.prog none' 97 #[.slice a m m, .slice d0 1 1, .slice d1 2 2, .int .i64 (-1)] n h (fun r n' h' => ∃ a', r = .slice a' (esc l).length (esc l).length ∧ Ext n h h' ∧ OwnSl h' n n' a' 1 (esc l).length (bytesV (esc l))) := by
  subst e
  have hel := esc_length l
  have hcl : l.count 0 ≤ l.length := List.count_le_length
  refine RF.of Tryz.func97 rfl rfl (Nat.le_of_ble_eq_true rfl) ?_; dsimp only [argEnv]
  by_cases hz : l.count 0 = 0
  · have h0 : esc l = l := by
      have := esc_end (l := l) (s := 0) (by simpa using hz)
      simpa [esc] using this
    repeat' (first | refine stpS ?_ | (refine stp2 ?_ ?_ <;> intro _) | refine RS.call1 rfl opds (count_ev l 0 a d0 _ _ _ S S0 rfl hm) none'W ?_)
    refine RS.append rfl opd opd (OwnSl.nil (n0 := n) (Nat.le_refl n)) (SlB.src S) full_slice (fun b hb => Or.inr (by omega)) (by omega) ?_
    intro a2 n2 h2 hle2 hO2 hX2 hnew
    have hE2 := hX2.ext (OwnSl.nil (h := h) (n0 := n) (z := 1) (Nat.le_refl n))
    simp only [Nat.zero_add, List.nil_append] at hO2 ⊢
    rw [h0]
    repeat' (first | refine stpS ?_ | (refine stp2 ?_ ?_ <;> intro _))
    exact ⟨a2, rfl, ext, hO2⟩
  · repeat' (first | refine stpS ?_ | (refine stp2 ?_ ?_ <;> intro _) | refine RS.call1 rfl opds (count_ev l 0 a d0 _ _ _ S S0 rfl hm) none'W ?_)
    have hM : ((l.length : Int) + (l.count 0 : Nat) * ((2 : Nat) - (1 : Nat) : Int)).toNat = (esc l).length := by omega
    rw [hM]
    have hO0 : OwnSl (h.app (.new n ⟨(esc l).length, 0, true, 1⟩ (List.replicate (esc l).length (.int .u8 0)))) n (n + 1) (some ⟨n, 0, none⟩) 1 (esc l).length (bytesV (List.replicate (esc l).length 0)) := by
      have e9 : List.replicate (esc l).length (Value.int .u8 0) = bytesV (List.replicate (esc l).length 0) := by simp [bytesV]
      rw [e9]
      exact OwnSl.new1 (Nat.le_refl n) (by rw [bytesV_length, List.length_replicate]) (bytesV_known _)
    have hE0 : Ext n h (h.app (.new n ⟨(esc l).length, 0, true, 1⟩ (List.replicate (esc l).length (.int .u8 0)))) := ext
    refine RC.gen (fun g => OwnSl g n (n + 1) (some ⟨n, 0, none⟩) 1 (esc l).length (bytesV (List.replicate (esc l).length 0)) ∧ Ext n h g) ⟨hO0, hE0⟩ ?_
    rintro g ⟨hO, hE⟩
    obtain ⟨aN, haN⟩ : ∃ aN : Option Addr, aN = some ⟨n, 0, none⟩ := ⟨_, rfl⟩
    have hsb : sb aN = n := by rw [haN]; rfl
    have hne : aN ≠ none := by rw [haN]; simp
    rw [← haN] at hO ⊢
    have hs0 : sub aN 0 = aN := by rw [haN]; rfl
    clear haN hO0 hE0
    refine RC.loop ?_
    refine RL.inv (α := Nat × Nat) (fun s => [(49, .int .i64 (s.1 : Nat)), (48, .int .i64 (l.count 0 : Nat)), (12, .int .i64 (s.2 : Nat)), (11, .int .i64 ((esc (l.take s.2)).length : Nat)), (10, .slice aN (esc l).length (esc l).length), (0, .slice a l.length l.length), (1, .slice d0 1 1), (2, .slice d1 2 2)])
      (fun s n1 h1 => s.2 ≤ l.length ∧ (l.drop s.2).count 0 + s.1 = l.count 0 ∧ n1 = n + 1 ∧ Ext n h h1 ∧ OwnSl h1 n n1 aN 1 (esc l).length (bytesV (esc (l.take s.2) ++ List.replicate ((esc l).length - (esc (l.take s.2)).length) 0)))
      (fun s => l.count 0 - s.1) (0, 0) envs ⟨by omega, by simp, rfl, hE, by simpa [esc] using hO⟩ ?_
    rintro ⟨i, s⟩ n1 h1 ⟨hs, hcn, rfl, hE1, hO1⟩
    dsimp only at hs hcn hE1 hO1 ⊢
    have hS1 : SlB h1 (n + 1) a l := S.ext hE1 (by omega)
    have hS0 : SlB h1 (n + 1) d0 [0] := S0.ext hE1 (by omega)
    have hS2 : SlB h1 (n + 1) d1 [0, 1] := S1.ext hE1 (by omega)
    have hw : (esc (l.take s)).length ≤ (esc l).length := by
      have := congrArg List.length (esc_app (l.take s) (l.drop s))
      rw [List.take_append_drop, List.length_append] at this
      omega
    have hIN : SlI h1 aN 1 (esc l).length := SlI.of hO1.slr (Ext.refl _ _)
    have hlN : sb aN < n + 1 := by omega
    by_cases hlt : i < l.count 0
    · obtain ⟨k, hk, hkl, hkc, hke⟩ := index_at (l := l) (s := s) (by omega)
      have hSd : SlB h1 (n + 1) (sub a s) (l.drop s) := by
        have := hS1.cut (i := s) (u := l.length) hs (Nat.le_refl _)
        rwa [List.take_length] at this
      have hidx := index_ev (l.drop s) 0 (sub a s) d0 (l.length - s) _ _ hSd hS0 (by rw [List.length_drop]; omega) (by rw [List.length_drop])
      rw [hk] at hidx
      have hSm : SlB h1 (n + 1) (sub a s) ((l.take (s + k)).drop s) := hS1.cut (by omega) (by omega)
      have hml : ((l.take (s + k)).drop s).length = k := by rw [List.length_drop, List.length_take]; omega
      have hle : (esc (l.take s)).length + k + 2 ≤ (esc l).length := by
        have h1 := congrArg List.length hke
        have h2 := congrArg List.length (esc_app (l.take (s + k + 1)) (l.drop (s + k + 1)))
        rw [List.take_append_drop, List.length_append] at h2
        rw [List.length_append, List.length_append, hml] at h1
        have : ([0, 1] : List UInt8).length = 2 := rfl
        omega
      repeat' (first | refine stpS ?_ | (refine stp2 ?_ ?_ <;> intro _))
      rw [show (s : Int).toNat = s by omega]
      refine RS.call1 rfl opds hidx none'W ?_
      repeat' (first | refine stp ?_ | (refine stp2 ?_ ?_ <;> intro _))
      rw [show (s : Int).toNat = s by omega, show ((s : Int) + (k : Int)).toNat - s = ((l.take (s + k)).drop s).length by omega]
      rw [Int.toNat_natCast]
      refine RD.copyO (nb := n + 1) (k := (esc l).length - (esc (l.take s)).length) rfl opd opd hO1 hSm (by omega) hne (by omega) (.inl (.inr (by omega))) (Nat.le_refl _) cfw ?_
      intro hO2
      have hE2 : Ext n h (h1.app (.sets (sb aN) (so aN + (esc (l.take s)).length) (bytesV ((l.take (s + k)).drop s)))) := hE1.appSets (by omega)
      rw [splice_room _ _ _ _ (by omega)] at hO2
      refine RD.gen (fun g => OwnSl g n (n + 1) aN 1 (esc l).length (bytesV (esc (l.take s) ++ (l.take (s + k)).drop s ++ List.replicate ((esc l).length - (esc (l.take s) ++ (l.take (s + k)).drop s).length) 0)) ∧ Ext n h g) ⟨hO2, hE2⟩ ?_
      clear hO2 hE2
      rintro g2 ⟨hO2, hE2⟩
      have hS2' : SlB g2 (n + 1) d1 [0, 1] := S1.ext hE2 (by omega)
      have hIN2 : SlI g2 aN 1 (esc l).length := SlI.of hO2.slr (Ext.refl _ _)
      have hl3 : (esc (l.take s) ++ (l.take (s + k)).drop s).length = (esc (l.take s)).length + k := by rw [List.length_append, hml]
      have hl4 : (esc (l.take (s + k + 1))).length = (esc (l.take s) ++ (l.take (s + k)).drop s).length + 2 := by rw [hke, List.length_append]; rfl
      repeat' (first | refine stp ?_ | (refine stp2 ?_ ?_ <;> intro _))
      rw [show ((esc (l.take s)).length : Int) + (((l.take (s + k)).drop s).length : Nat) = ((esc (l.take s) ++ (l.take (s + k)).drop s).length : Nat) by rw [List.length_append]; omega]
      rw [Int.toNat_natCast]
      refine RS.copyO (k := (esc l).length - (esc (l.take s) ++ (l.take (s + k)).drop s).length) (s := [0, 1]) rfl opd opd hO2 hS2' (by omega) hne (by show 2 ≤ _; omega) (.inl (.inr (by omega))) ?_
      intro hO3
      have hE3 := hE2.appSets (b := sb aN) (o := so aN + (esc (l.take s) ++ (l.take (s + k)).drop s).length) (vs := bytesV [0, 1]) (by omega)
      rw [splice_room _ _ _ _ (by show _ + 2 ≤ _; omega), ← hke] at hO3
      rw [show (([0, 1] : List UInt8).length : Int) = 2 from rfl]
      repeat' (first | refine stpS ?_ | (refine stp2 ?_ ?_ <;> intro _))
      refine nextC.normal ⟨(i + 1, s + k + 1), by dsimp only; omega, ?_, by dsimp only; omega, by dsimp only; omega, rfl, hE3, hO3⟩
      dsimp only
      rw [show ((esc (l.take (s + k + 1))).length : Int) = ((esc (l.take s) ++ (l.take (s + k)).drop s).length : Nat) + 2 by omega]
      rw [show ((s + k + 1 : Nat) : Int) = (s : Int) + k + (1 : Nat) by omega, show ((i + 1 : Nat) : Int) = (i : Int) + 1 by omega]
      exact envs
    · have hz0 : (l.drop s).count 0 = 0 := by omega
      have hend := esc_end hz0
      have hSd : SlB h1 (n + 1) (sub a s) (l.drop s) := by
        have := hS1.cut (i := s) (u := l.length) hs (Nat.le_refl _)
        rwa [List.take_length] at this
      have hle : (esc (l.take s)).length + (l.drop s).length = (esc l).length := by
        have := congrArg List.length hend
        rw [List.length_append] at this
        omega
      have hdl : (l.drop s).length = l.length - s := List.length_drop
      repeat' (first | refine stp ?_ | (refine stp2 ?_ ?_ <;> intro _))
      rw [show (s : Int).toNat = s by omega, Int.toNat_natCast, ← hdl]
      refine RD.copyO (nb := n + 1) (k := (esc l).length - (esc (l.take s)).length) rfl opd opd hO1 hSd (by omega) hne (by omega) (.inl (.inr (by omega))) (Nat.le_refl _) cfw ?_
      intro hO2
      have hE2 : Ext n h (h1.app (.sets (sb aN) (so aN + (esc (l.take s)).length) (bytesV (l.drop s)))) := hE1.appSets (by omega)
      rw [splice_room _ _ _ _ (by omega), ← hend, Nat.sub_self] at hO2
      rw [show List.replicate 0 (0 : UInt8) = [] from rfl, List.append_nil] at hO2
      refine RD.gen (fun g => OwnSl g n (n + 1) aN 1 (esc l).length (bytesV (esc l)) ∧ Ext n h g) ⟨hO2, hE2⟩ ?_
      clear hO2 hE2
      rintro g2 ⟨hO2, hE2⟩
      have hIN2 : SlI g2 aN 1 (esc l).length := SlI.of hO2.slr (Ext.refl _ _)
      repeat' (first | refine stp ?_ | (refine stp2 ?_ ?_ <;> intro _))
      rw [show ((esc (l.take s)).length : Int) + ((l.drop s).length : Nat) = ((esc l).length : Nat) by omega]
      refine ⟨aN, ?_, hE2, hO2⟩
      rw [show Int.toNat 0 = 0 from rfl, hs0, Int.toNat_natCast, Nat.sub_zero]
      done
end Go.Proofs.YtfbddbpbifnhfaaGreatDoor.Cd

/- Contracts taken from codec (written by port.py). -/
namespace Go.Proofs.YtfbddbpbifnhfaaGreatDoor.Cd
open Go.Abs
set_option maxHeartbeats 4000000 in
theorem replaceAll_rf (l : List UInt8) (a d0 d1 : Option Addr) (m n : Nat) (h : AH) (S : SlB h n a l) (S0 : SlB h n d0 [0]) (S1 : SlB h n d1 [0, 1]) (e : m = l.length) (hm : m ≤ 1099511627776) :
    RF Tryz.prog none' 81 #[.slice a m m, .slice d0 1 1, .slice d1 2 2] n h (fun r n' h' => ∃ a', r = .slice a' (esc l).length (esc l).length ∧ Ext n h h' ∧ OwnSl h' n n' a' 1 (esc l).length (bytesV (esc l))) := by
  refine RF.of Tryz.func81 rfl rfl (Nat.le_of_ble_eq_true rfl) ?_; dsimp only [argEnv]
  repeat' (first | refine stpS ?_ | (refine stp2 ?_ ?_ <;> intro _))
  refine RS.call rfl opds (replace_rf l a d0 d1 m n h S S0 S1 e hm) none'W ?_
  rintro r n1 h1 hle ⟨a', rfl, hE, hO⟩
  repeat' (first | refine stpS ?_ | (refine stp2 ?_ ?_ <;> intro _))
  exact ⟨a', rfl, hE, hO⟩
set_option maxHeartbeats 4000000 in
theorem wBytes_rf (w : Nat) (a c : Option Addr) (b l : List UInt8) (m n0 n : Nat) (h : AH) (R : WrR h n0 n w a b) (S : SlB h n c l) (e : m = l.length) (hm : m ≤ 1073741824) :
    RF Tryz.prog (inW w a) 48 #[.pointer (some ⟨w, 0, none⟩), .slice c m m] n h (WrTo w a b (formB l) n0 n h) := by
  subst e
  refine RF.of Tryz.func48 rfl rfl (Nat.le_of_ble_eq_true rfl) ?_; dsimp only [argEnv]
  have hel := esc_length l
  have hcl : l.count 0 ≤ l.length := List.count_le_length
  repeat' (first | refine stpS ?_ | (refine stp2 ?_ ?_ <;> intro _))
  obtain ⟨g, hg⟩ : ∃ g, g = (h.app (.new n ⟨([.int .u8 0] : List Value).length, 0, true, 1⟩ [.int .u8 0])).app (.new (n + 1) ⟨([.int .u8 0, .int .u8 1] : List Value).length, 0, true, 1⟩ [.int .u8 0, .int .u8 1]) := ⟨_, rfl⟩
  refine RS.heap hg ?_
  have hE : Ext n h g := by rw [hg]; exact ext
  have hS0 : SlB g (n + 1 + 1) (some ⟨n, 0, none⟩) [0] := by
    rw [hg]
    have := OwnSl.new1 (h := h) (n0 := n) (n := n) (m := 1) (cs := [.int .u8 0]) (Nat.le_refl n) rfl rfl
    exact OwnSl.slbE (this.ext (n1 := n + 1 + 1) ext (by omega))
  have hS1 : SlB g (n + 1 + 1) (some ⟨n + 1, 0, none⟩) [0, 1] := by
    rw [hg]
    exact OwnSl.slbE (OwnSl.new1 (n0 := n) (n := n + 1) (m := 2) (cs := [.int .u8 0, .int .u8 1]) (Nat.le_succ n) rfl rfl)
  clear hg
  refine RS.call rfl opds (replaceAll_rf l c _ _ _ _ g (S.ext hE (by omega)) hS0 hS1 rfl (by omega)) none'W ?_
  rintro r n1 h1 hle ⟨c1, rfl, hE1, hO1⟩
  repeat' (first | refine stpS ?_ | (refine stp2 ?_ ?_ <;> intro _))
  refine RS.append rfl opd opd (hO1.ext (n1 := n1 + 1) ext (by omega)) (OwnSl.src (OwnSl.new1 (n0 := n1) (m := 2) (Nat.le_refl _) rfl rfl)) full_slice (fun b hb => .inr (by omega)) (by omega) ?_
  intro c2 n2 h2 hle2 hO2 hX2 hnew2
  have hE1' : Ext (n + 1 + 1) h1 (h1.app (.new n1 ⟨([.int .u8 0, .int .u8 0] : List Value).length, 0, true, 1⟩ [.int .u8 0, .int .u8 0])) := ext
  have hE2 : Ext n h h2 := (hE.trans (by omega) hE1).trans (Nat.le_add_right n 2) (hE1'.then (hX2.ext (hO1.ext (n1 := n1 + 1) ext (by omega))))
  have hfb : (formB l).length = (esc l).length + 2 := by unfold formB; rw [List.length_append]; rfl
  have R2 := R.ext (n1 := n2) hE2 (by omega)
  have hO3 : SlB h2 n2 c2 (formB l) := by
    unfold formB
    refine OwnSl.slbE (n0 := n + 1 + 1) (m := (esc l).length + 2) ?_
    rw [bytesV_app]; exact hO2
  refine RS.call rfl opds (more_rf w a c2 b (formB l) ((esc l).length + 2) n0 n2 h2 R2 hO3 hfb.symm (by omega)) (fun x hx => .inl hx) ?_
  rintro r n3 h3 hle3 ⟨a', rfl, hR3, hX3, hw3⟩
  repeat' (first | refine stpS ?_ | (refine stp2 ?_ ?_ <;> intro _))
  exact ⟨a', rfl, hR3, hX3.via (by omega) (fun _ _ k => k) (ExtW.of hE2 (Nat.le_refl _)), hw3.imp_right fun k => by omega⟩
theorem slb_new (l : List UInt8) (n : Nat) (h : AH) : SlB (h.app (.new n ⟨l.length, 0, true, 1⟩ (bytesV l))) (n + 1) (some ⟨n, 0, none⟩) l :=
  OwnSl.slbE (OwnSl.new1 (n0 := n) (n := n) (m := l.length) (cs := bytesV l) (Nat.le_refl n) (by rw [bytesV_length]) (bytesV_known _))
theorem WrR.lo_of {h : AH} {n0 n w : Nat} {a : Option Addr} {b : List UInt8} (R : WrR h n0 n w a b) : ∀ x, inW w a x → n0 ≤ x := fun x hx => by
  rcases hx with rfl | ⟨h1, h2⟩
  · exact R.lo
  · rw [h2]; exact (R.own.at'.resolve_left h1).1
def rowV (x : Option Addr × List UInt8) : Value := .slice x.1 x.2.length x.2.length
theorem slq_new (L : List (Option Addr × List UInt8)) {n : Nat} {h : AH} (hL : ∀ x, x ∈ L → SlB h n x.1 x.2) : SlQ (h.app (.new n ⟨L.length, 0, true, 1⟩ (L.map rowV))) (n + 1) (some ⟨n, 0, none⟩) (fun j => (L.getD j (none, [])).1) (L.map (·.2)) := by
  have hk : ∀ j, j < (L.map (·.2)).length → L.getD j (none, []) ∈ L ∧ (L.map (·.2)).getD j [] = (L.getD j (none, [])).2 ∧ (L.map rowV).getD j (.tuple #[]) = rowV (L.getD j (none, [])) := fun j hj => by
    have hj : j < L.length := by simpa using hj
    refine ⟨?_, ?_, ?_⟩
    · rw [List.getD_eq_getElem?_getD, List.getElem?_eq_getElem hj]; exact List.getElem_mem hj
    · simp [List.getD, hj]
    · simp [List.getD, hj]
  refine ⟨SlR.new (Nat.lt_succ_self n) info rfl fun j hj => ?_, fun j hj => ?_⟩
  · rw [Nat.mul_one] at hj
    obtain ⟨k1, k2, k3⟩ := hk j hj
    have : (h.app (.new n ⟨L.length, 0, true, 1⟩ (L.map rowV))).cell n j = (L.map rowV).getD j (.tuple #[]) := by
      have hj' : j < L.length := by simpa using hj
      exact c_new (by simp [List.getD, hj'])
    rw [this, k3]
    unfold rowsF rowV
    rw [k2]
  · obtain ⟨k1, k2, k3⟩ := hk j hj
    rw [k2]
    exact (hL _ k1).ext ext (Nat.le_succ n)
end Go.Proofs.YtfbddbpbifnhfaaGreatDoor.Cd

/- Contracts taken from codec (written by port.py). -/
namespace Go.Proofs.YtfbddbpbifnhfaaGreatDoor.Cd
open Go.Abs
def flipU (low : Bool) (c : UInt8) : UInt8 := if low then 255 - c else c
def val (l : List UInt8) : Nat := l.foldl (fun m c => m * 256 + c.toNat) 0
def sgn (low : Bool) (n : Nat) : Int := if low then -(n : Int) - 1 else n
def pI (b : List UInt8) : Int × Nat × Nat :=
  match b with
  | [] => (0, 0, 30)
  | c :: r =>
    if (flipU (decide (c.toNat < 128)) c).toNat < 248 then (sgn (decide (c.toNat < 128)) ((flipU (decide (c.toNat < 128)) c).toNat - 128), 1, 0)
    else if r.length < (flipU (decide (c.toNat < 128)) c).toNat - 247 then (0, 0, 30)
    else if 9223372036854775687 < val ((r.take ((flipU (decide (c.toNat < 128)) c).toNat - 247)).map (flipU (decide (c.toNat < 128)))) then (0, 0, 31)
    else if nb (val ((r.take ((flipU (decide (c.toNat < 128)) c).toNat - 247)).map (flipU (decide (c.toNat < 128))))) ≠ (flipU (decide (c.toNat < 128)) c).toNat - 247 then (0, 0, 31)
    else (sgn (decide (c.toNat < 128)) (val ((r.take ((flipU (decide (c.toNat < 128)) c).toNat - 247)).map (flipU (decide (c.toNat < 128)))) + 120), 1 + ((flipU (decide (c.toNat < 128)) c).toNat - 247), 0)
theorem flip_flip (low : Bool) (c : UInt8) : flipU low (flipU low c) = c := by
  unfold flipU
  cases low
  · rfl
  · simp only [if_true]
    apply UInt8.toNat_inj.1
    have := c.toNat_lt
    simp only [UInt8.toNat_sub, UInt8.reduceToNat]
    omega
theorem flip_nat (c : UInt8) : (flipU true c).toNat = 255 - c.toNat := by
  unfold flipU
  have := c.toNat_lt
  simp only [if_true, UInt8.toNat_sub, UInt8.reduceToNat]
  omega
theorem flip_map (low : Bool) (l : List UInt8) : (l.map (flipU low)).map (flipU low) = l := by
  rw [List.map_map]
  have : (flipU low ∘ flipU low) = id := by funext c; exact flip_flip low c
  rw [this, List.map_id]
theorem turn_flip (l : List UInt8) : turn l = l.map (flipU true) := by
  unfold turn flipU
  simp
theorem flip_false (l : List UInt8) : l.map (flipU false) = l := by
  have : flipU false = id := by funext c; rfl
  rw [this, List.map_id]
theorem form_sgn (low : Bool) (k : Nat) : form (sgn low k) = (formUp k).map (flipU low) := by
  unfold form sgn
  cases low
  · simp only [Bool.false_eq_true, if_false]
    rw [if_neg (by omega), flip_false, Int.toNat_natCast]
  · simp only [if_true]
    rw [if_pos (by omega), turn_flip]
    congr 2; omega
theorem sgn_ex (n : Int) : ∃ low k, n = sgn low k ∧ (-9223372036854775808 ≤ n → n < 9223372036854775808 → k < 9223372036854775808) := by
  by_cases h : n < 0
  · exact ⟨true, (-n - 1).toNat, by unfold sgn; simp only [if_true]; omega, fun h1 h2 => by omega⟩
  · exact ⟨false, n.toNat, by unfold sgn; simp only [Bool.false_eq_true, if_false]; omega, fun h1 h2 => by omega⟩
theorem be_snoc (k m : Nat) : be (k + 1) m = be k (m / 256) ++ [UInt8.ofNat m] := by
  unfold be
  rw [List.range_succ, List.map_append]
  congr 1
  · apply List.map_congr_left
    intro i hi
    have hi : i < k := List.mem_range.1 hi
    rw [show k + 1 - 1 - i = (k - 1 - i) + 1 by omega, Nat.pow_succ, Nat.mul_comm, ← Nat.div_div_eq_div_mul]
  · simp
theorem val_snoc (l : List UInt8) (c : UInt8) : val (l ++ [c]) = val l * 256 + c.toNat := by
  unfold val
  rw [List.foldl_append]; rfl
theorem val_be (k : Nat) : ∀ m, m < 256 ^ k → val (be k m) = m := by
  induction k with
  | zero => intro m h; have : m = 0 := by simpa using h
            subst this; rfl
  | succ k ih =>
    intro m h
    rw [be_snoc, val_snoc, ih (m / 256) (by rw [Nat.pow_succ] at h; exact Nat.div_lt_of_lt_mul (by rw [Nat.mul_comm]; exact h))]
    have : (UInt8.ofNat m).toNat = m % 256 := UInt8.toNat_ofNat'
    rw [this]; omega
theorem be_val (l : List UInt8) : be l.length (val l) = l := by
  induction h : l.length generalizing l with
  | zero => have := List.eq_nil_of_length_eq_zero h; subst this; rfl
  | succ k ih =>
    have hne : l ≠ [] := fun e => by subst e; cases h
    obtain ⟨p, c, rfl⟩ : ∃ p c, l = p ++ [c] := ⟨l.dropLast, l.getLast hne, (List.dropLast_concat_getLast hne).symm⟩
    have hp : p.length = k := by simpa using h
    rw [be_snoc, val_snoc]
    have hc := c.toNat_lt
    have h1 : (val p * 256 + c.toNat) / 256 = val p := by omega
    have h2 : UInt8.ofNat (val p * 256 + c.toNat) = c := by
      apply UInt8.toNat_inj.1
      rw [UInt8.toNat_ofNat']; omega
    rw [h1, h2, ih p hp]
theorem val_lt (l : List UInt8) : val l < 256 ^ l.length := by
  induction h : l.length generalizing l with
  | zero => have := List.eq_nil_of_length_eq_zero h; subst this; simp [val]
  | succ k ih =>
    have hne : l ≠ [] := fun e => by subst e; cases h
    obtain ⟨p, c, rfl⟩ : ∃ p c, l = p ++ [c] := ⟨l.dropLast, l.getLast hne, (List.dropLast_concat_getLast hne).symm⟩
    have hp : p.length = k := by simpa using h
    have := ih p hp
    have hc := c.toNat_lt
    rw [val_snoc, Nat.pow_succ]
    omega
theorem lt_pow_bl (m : Nat) : m < 2 ^ bl m := by
  unfold bl
  split
  · simp [*]
  · exact Nat.lt_log2_self
theorem lt_pow_nb (m : Nat) : m < 256 ^ nb m := by
  have h1 := lt_pow_bl m
  have h2 : bl m ≤ 8 * nb m := by unfold nb; omega
  have h3 : 2 ^ bl m ≤ 2 ^ (8 * nb m) := Nat.pow_le_pow_right (by omega) h2
  rw [Nat.pow_mul] at h3
  exact Nat.lt_of_lt_of_le h1 h3
theorem low_flip (low : Bool) (c : UInt8) (h : 128 ≤ c.toNat) : decide ((flipU low c).toNat < 128) = low := by
  cases low
  · simp [flipU]; omega
  · have := flip_nat c
    have := c.toNat_lt
    simp; omega
theorem pI_form (n : Int) (h1 : -9223372036854775808 ≤ n) (h2 : n < 9223372036854775808) (r : List UInt8) : pI (form n ++ r) = (n, (form n).length, 0) := by
  obtain ⟨low, k, rfl, hk⟩ := sgn_ex n
  have hk := hk h1 h2
  rw [form_sgn]
  unfold formUp
  by_cases hs : k < 120
  · rw [if_pos hs]
    have hc : (UInt8.ofNat (128 + k)).toNat = 128 + k := by rw [UInt8.toNat_ofNat']; omega
    simp only [List.map_cons, List.map_nil, List.cons_append, List.nil_append, pI]
    rw [low_flip low _ (by omega), flip_flip, hc, if_pos (by omega)]
    simp only [Nat.add_sub_cancel_left, List.length_cons, List.length_nil]
  · rw [if_neg hs]
    have hn1 := nb_pos (k - 120)
    have hn2 := nb_le (m := k - 120) (by omega)
    have hc : (UInt8.ofNat (247 + nb (k - 120))).toNat = 247 + nb (k - 120) := by rw [UInt8.toNat_ofNat']; omega
    simp only [List.map_cons, List.cons_append, pI]
    rw [low_flip low _ (by omega), flip_flip, hc, if_neg (by omega)]
    have hl : ((be (nb (k - 120)) (k - 120)).map (flipU low)).length = nb (k - 120) := by rw [List.length_map, be_length]
    rw [show 247 + nb (k - 120) - 247 = nb (k - 120) by omega, if_neg (by rw [List.length_append]; omega), List.take_append_of_le_length (by omega), List.take_of_length_le (by omega), flip_map, val_be _ _ (lt_pow_nb _)]
    rw [if_neg (by omega), if_neg (by simp), show k - 120 + 120 = k by omega]
    simp only [List.length_cons, hl]
    rw [Nat.add_comm]
theorem pI_ok {b : List UInt8} {n : Int} {k : Nat} (h : pI b = (n, k, 0)) : -9223372036854775808 ≤ n ∧ n < 9223372036854775808 ∧ 1 ≤ k ∧ k ≤ b.length ∧ form n = b.take k := by
  unfold pI at h
  cases b with
  | nil => simp at h
  | cons c r =>
    simp only at h
    obtain ⟨low, hlow⟩ : ∃ low, low = decide (c.toNat < 128) := ⟨_, rfl⟩
    rw [← hlow] at h
    obtain ⟨f, hf⟩ : ∃ f, f = (flipU low c).toNat := ⟨_, rfl⟩
    have hfl : f < 256 := by rw [hf]; exact UInt8.toNat_lt _
    have hf128 : 128 ≤ f := by
      rw [hf, hlow]
      by_cases q : c.toNat < 128
      · rw [decide_eq_true q, flip_nat]; omega
      · rw [decide_eq_false q]; unfold flipU; simp; omega
    have hcf : flipU low (UInt8.ofNat f) = c := by
      rw [hf, UInt8.ofNat_toNat, flip_flip]
    rw [← hf] at h
    by_cases h1 : f < 248
    · rw [if_pos h1] at h
      simp only [Prod.mk.injEq, and_true] at h
      obtain ⟨rfl, rfl⟩ := h
      have hb : -9223372036854775808 ≤ sgn low (f - 128) ∧ sgn low (f - 128) < 9223372036854775808 := by unfold sgn; split <;> omega
      refine ⟨hb.1, hb.2, Nat.le_refl _, by simp, ?_⟩
      rw [form_sgn]
      unfold formUp
      rw [if_pos (by omega), show 128 + (f - 128) = f by omega]
      simp [hcf]
    · rw [if_neg h1] at h
      by_cases h2 : r.length < f - 247
      · rw [if_pos h2] at h; simp at h
      · rw [if_neg h2] at h
        obtain ⟨l, hl⟩ : ∃ l, l = r.take (f - 247) := ⟨_, rfl⟩
        have hll : l.length = f - 247 := by rw [hl, List.length_take]; omega
        rw [← hl] at h
        obtain ⟨m, hm⟩ : ∃ m, m = val (l.map (flipU low)) := ⟨_, rfl⟩
        rw [← hm] at h
        by_cases h3 : 9223372036854775687 < m
        · rw [if_pos h3] at h; simp at h
        · rw [if_neg h3] at h
          by_cases h4 : nb m = f - 247
          · rw [if_neg (by simpa using h4)] at h
            simp only [Prod.mk.injEq, and_true] at h
            obtain ⟨rfl, rfl⟩ := h
            have hb : -9223372036854775808 ≤ sgn low (m + 120) ∧ sgn low (m + 120) < 9223372036854775808 := by unfold sgn; split <;> omega
            refine ⟨hb.1, hb.2, by omega, by rw [List.length_cons]; omega, ?_⟩
            rw [form_sgn]
            unfold formUp
            rw [if_neg (by omega), Nat.add_sub_cancel, h4, show 247 + (f - 247) = f by omega]
            have hbe : be (f - 247) m = l.map (flipU low) := by
              have := be_val (l.map (flipU low))
              rw [List.length_map, hll, ← hm] at this
              exact this
            rw [hbe, List.map_cons, flip_map, hcf, hl, Nat.add_comm 1, List.take_succ_cons]
          · rw [if_pos (by simpa using h4)] at h; simp at h
end Go.Proofs.YtfbddbpbifnhfaaGreatDoor.Cd

/- Contracts taken from codec (written by port.py). -/
namespace Go.Proofs.YtfbddbpbifnhfaaGreatDoor.Cd
open Go.Abs Go.RowKit
variable {P : Program} {T : Nat → Prop} {env : Env} {n : Nat} {g : AH} {dst : Option Tmp} {ty : TypeId} {pos : String} {after : Array Edge} {gd : Option (Nat × Bool)}
theorem xorN_i64 {a : Int} (hlo : -9223372036854775808 ≤ a) (hhi : a < 9223372036854775808) : IntKind.i64.wrap ((BitVec.ofInt 64 a ^^^ BitVec.ofInt 64 (-1)).toNat : Nat) = -a - 1 := by
  have e : (BitVec.ofInt 64 a ^^^ BitVec.ofInt 64 (-1)) = ~~~ BitVec.ofInt 64 a := by
    rw [show BitVec.ofInt 64 (-1) = BitVec.allOnes 64 by decide, BitVec.xor_allOnes]
  rw [e, BitVec.toNat_not, BitVec.toNat_ofInt]
  simp only [IntKind.wrap, show IntKind.i64.bits = 64 from rfl, show IntKind.i64.signed = true from rfl, Bool.true_and, decide_eq_true_eq]
  split <;> omega
theorem o_xorN {t t' : TypeId} {x y : Operand} {a b : Int} (hx : Opd env x (.int .i64 a)) (hy : Opd env y (.int .i64 b)) (hb : b = -1) (hlo : -9223372036854775808 ≤ a) (hhi : a < 9223372036854775808) :
    OpEv P T ⟨dst, .binOp .xor t x y t', ty, pos, after, gd⟩ env n g (.int .i64 (-a - 1)) n .nil := by
  subst hb
  exact op_bin hx.ev hy.ev (by
    show some (Value.int .i64 (IntKind.wrap .i64 _)) = _
    rw [show IntKind.bits .i64 = 64 from rfl, xorN_i64 hlo hhi])
end Go.Proofs.YtfbddbpbifnhfaaGreatDoor.Cd

/- Contracts taken from codec (written by port.py). -/
namespace Go.Proofs.YtfbddbpbifnhfaaGreatDoor.Cd
open Go.Abs
def pIV (x : Int × Nat × Nat) : Value := .tuple #[.int .i64 x.1, .int .i64 (x.2.1 : Nat), .int .i64 (x.2.2 : Nat)]
theorem val_succ (low : Bool) (r : List UInt8) (i : Nat) (hi : i < r.length) : val ((r.take (i + 1)).map (flipU low)) = val ((r.take i).map (flipU low)) * 256 + (flipU low (r.getD i 0)).toNat := by
  rw [List.take_succ_eq_append_getElem hi, List.map_append, List.map_cons, List.map_nil, val_snoc]
  simp [List.getD, hi]
theorem val_take_lt (low : Bool) (r : List UInt8) (i : Nat) (hi : i ≤ 7) : val ((r.take i).map (flipU low)) < 72057594037927936 := by
  have h1 := val_lt ((r.take i).map (flipU low))
  have h2 : ((r.take i).map (flipU low)).length ≤ 7 := by rw [List.length_map, List.length_take]; omega
  have h3 : 256 ^ ((r.take i).map (flipU low)).length ≤ 256 ^ 7 := Nat.pow_le_pow_right (by omega) h2
  omega
theorem or_byte (m b : Nat) (hm : m < 72057594037927936) (hb : b < 256) : (m <<< 8) % 18446744073709551616 ||| b = m * 256 + b := by
  rw [Nat.mod_eq_of_lt (by rw [Nat.shiftLeft_eq]; omega), ← Nat.shiftLeft_add_eq_or_of_lt (i := 8) (by omega), Nat.shiftLeft_eq]
set_option maxHeartbeats 4000000 in
theorem get_ev (b : List UInt8) (a : Option Addr) (m n : Nat) (h : AH) (S : SlB h n a b) (e : m = b.length) (hm : m ≤ 1099511627776) :
    Ev Tryz.prog none' 106 #[.slice a m m] n h (pIV (pI b)) n h := by
  subst e
  refine RF.pure (by simp [pIV, flat]) fun n' hn => ?_
  have S := S.ext (Ext.refl n h) hn
  refine RF.of Tryz.func106 rfl rfl (Nat.le_of_ble_eq_true rfl) ?_; dsimp only [argEnv]
  cases b with
  | nil =>
    repeat' (first | refine stpS ?_ | (refine stp2 ?_ ?_ <;> intro _))
    rfl
  | cons c r =>
    have hc := c.toNat_lt
    have q0 : ((c :: r).getD (Int.toNat 0) 0).toNat = c.toNat := rfl
    have q1 : (((((c :: r).getD (Int.toNat 0) 0).toNat : Nat) : Int).toNat ^^^ Int.toNat 255) = 255 - c.toNat := xor255 c.toNat hc
    have q2 : (((((c :: r).getD (Int.toNat 0) 0).toNat : Nat) : Int).toNat ^^^ Int.toNat 0) = c.toNat := Nat.xor_zero _
    have ql : (c :: r).length = r.length + 1 := rfl
    by_cases hlow : c.toNat < 128
    · have hfx : (flipU true c).toNat = 255 - c.toNat := flip_nat c
      have hdec : decide (c.toNat < 128) = true := decide_eq_true hlow
      have hpI : pI (c :: r) = pI (c :: r) := rfl
      conv at hpI => rhs; unfold pI
      simp only [hdec, hfx] at hpI
      by_cases hs : 255 - c.toNat < 248
      · rw [if_pos hs] at hpI
        repeat' (first | refine stpS ?_ | (refine stp2 ?_ ?_ <;> intro _))
        refine RS.put rfl rfl (o_xorN opd opd (by rfl) (by omega) (by omega)) ?_
        repeat' (first | refine stpS ?_ | (refine stp2 ?_ ?_ <;> intro _))
        rw [q1, hpI]
        have e1 : -(((255 - c.toNat : Nat) : Int) - 128) - 1 = sgn true (255 - c.toNat - 128) := by unfold sgn; simp only [if_true]; omega
        rw [e1]; rfl
      · rw [if_neg hs] at hpI
        by_cases hr : r.length < 255 - c.toNat - 247
        · rw [if_pos hr] at hpI
          repeat' (first | refine stpS ?_ | (refine stp2 ?_ ?_ <;> intro _))
          rw [hpI]; rfl
        · rw [if_neg hr] at hpI
          have hSd : SlB h n' (sub a (Int.toNat 1)) r := by
            have := SlB.cut S (i := 1) (u := (c :: r).length) (by omega) (Nat.le_refl _)
            rwa [List.take_length] at this
          have hSe : SlR h n' (sub a (Int.toNat 1)) 1 ((c :: r).length - Int.toNat 1) (bytesF r) := hSd
          obtain ⟨k, hk⟩ : ∃ k, k = 255 - c.toNat - 247 := ⟨_, rfl⟩
          have hSk : SlR h n' (sub a (Int.toNat 1)) 1 k (bytesF r) := SlR.take hSd (by omega)
          rw [← hk] at hpI
          repeat' (first | refine stpS ?_ | (refine stp2 ?_ ?_ <;> intro _))
          rw [q1, show (((255 - c.toNat : Nat) : Int) - 247) = (k : Nat) by omega, Int.toNat_natCast]
          refine RC.loop ?_
          refine RL.inv (α := Nat) (fun i => [(46, .int .i64 (i : Nat)), (45, .int .i64 (k : Nat)), (44, .slice (sub a (Int.toNat 1)) k k), (8, .int .u64 (val ((r.take i).map (flipU true)) : Nat)), (5, .int .u8 255), (7, .int .i64 (k : Nat))])
            (fun i n1 h1 => i ≤ k ∧ n1 = n' ∧ h1 = h)
            (fun i => k - i) 0 envs ⟨by omega, rfl, rfl⟩ ?_
          rintro i n1 h1 ⟨hi, rfl, rfl⟩
          by_cases hlt : i < k
          · have hv := val_take_lt true r i (by omega)
            have hvs := val_succ true r i (by omega)
            have hb : (r.getD (i : Int).toNat 0).toNat < 256 := UInt8.toNat_lt _
            have hb' : (r.getD i 0).toNat < 256 := UInt8.toNat_lt _
            have hx : ((((r.getD (i : Int).toNat 0).toNat : Nat) : Int).toNat ^^^ Int.toNat 255) = (flipU true (r.getD i 0)).toNat := by
              rw [Int.toNat_natCast, Int.toNat_natCast]
              exact (xor255 _ hb).trans (flip_nat _).symm
            have hfb : (flipU true (r.getD i 0)).toNat < 256 := UInt8.toNat_lt _
            repeat' (first | refine stpS ?_ | (refine stp2 ?_ ?_ <;> intro _))
            simp only [Int.toNat_natCast]
            simp only [Int.toNat_natCast] at hx
            rw [hx, show Int.toNat 8 = 8 from rfl, or_byte _ _ hv hfb, ← hvs]
            exact nextC.normal ⟨i + 1, by omega, envs, by omega, rfl, rfl⟩
          · obtain rfl : i = k := by omega
            have hs2 := form_sgn false (val ((r.take i).map (flipU true)) + 120)
            have hs3 : (form (((val ((r.take i).map (flipU true)) : Nat) : Int) + 120)).length = 1 + nb (val ((r.take i).map (flipU true))) := by
              have e0 : sgn false (val ((r.take i).map (flipU true)) + 120) = ((val ((r.take i).map (flipU true)) : Nat) : Int) + 120 := by unfold sgn; simp only [Bool.false_eq_true, if_false]; omega
              rw [← e0, hs2, List.length_map, formUp_length, if_neg (by omega), Nat.add_sub_cancel]
            by_cases hbig : 9223372036854775687 < val ((r.take i).map (flipU true))
            · rw [if_pos hbig] at hpI
              repeat' (first | refine stpS ?_ | (refine stp2 ?_ ?_ <;> intro _))
              rw [hpI]; rfl
            · rw [if_neg hbig] at hpI
              repeat' (first | refine stpS ?_ | (refine stp2 ?_ ?_ <;> intro _))
              refine RS.call1 rfl opds (size_ev _ (by omega) (by omega) _ _) none'W ?_
              by_cases hnb : nb (val ((r.take i).map (flipU true))) = i
              · rw [if_neg (by simpa using hnb)] at hpI
                repeat' (first | refine stpS ?_ | (refine stp2 ?_ ?_ <;> intro _))
                refine RS.put rfl rfl (o_xorN opd opd (by rfl) (by omega) (by omega)) ?_
                repeat' (first | refine stpS ?_ | (refine stp2 ?_ ?_ <;> intro _))
                rw [hpI]
                have e1 : -(((val ((r.take i).map (flipU true)) : Nat) : Int) + 120) - 1 = sgn true (val ((r.take i).map (flipU true)) + 120) := by unfold sgn; simp only [if_true]; omega
                rw [e1]; unfold pIV; rw [show ((1 + i : Nat) : Int) = 1 + (i : Int) by omega]; rfl
              · rw [if_pos (by simpa using hnb)] at hpI
                repeat' (first | refine stpS ?_ | (refine stp2 ?_ ?_ <;> intro _))
                rw [hpI]; rfl
    · have hfx : (flipU false c).toNat = c.toNat := rfl
      have hdec : decide (c.toNat < 128) = false := decide_eq_false hlow
      have hpI : pI (c :: r) = pI (c :: r) := rfl
      conv at hpI => rhs; unfold pI
      simp only [hdec, hfx] at hpI
      by_cases hs : c.toNat < 248
      · rw [if_pos hs] at hpI
        repeat' (first | refine stpS ?_ | (refine stp2 ?_ ?_ <;> intro _))
        rw [q2, hpI]
        have e1 : (((((c.toNat : Nat) : Int) - 128).toNat ^^^ (-(0 % 2 : Int)).toNat : Nat) : Int) = sgn false (c.toNat - 128) := by
          unfold sgn
          rw [show (-(0 % 2 : Int)).toNat = 0 from rfl, Nat.xor_zero]
          simp only [Bool.false_eq_true, if_false]; omega
        rw [e1]; rfl
      · rw [if_neg hs] at hpI
        by_cases hr : r.length < c.toNat - 247
        · rw [if_pos hr] at hpI
          repeat' (first | refine stpS ?_ | (refine stp2 ?_ ?_ <;> intro _))
          rw [hpI]; rfl
        · rw [if_neg hr] at hpI
          have hSd : SlB h n' (sub a (Int.toNat 1)) r := by
            have := SlB.cut S (i := 1) (u := (c :: r).length) (by omega) (Nat.le_refl _)
            rwa [List.take_length] at this
          have hSe : SlR h n' (sub a (Int.toNat 1)) 1 ((c :: r).length - Int.toNat 1) (bytesF r) := hSd
          obtain ⟨k, hk⟩ : ∃ k, k = c.toNat - 247 := ⟨_, rfl⟩
          have hSk : SlR h n' (sub a (Int.toNat 1)) 1 k (bytesF r) := SlR.take hSd (by omega)
          rw [← hk] at hpI
          repeat' (first | refine stpS ?_ | (refine stp2 ?_ ?_ <;> intro _))
          rw [q2, show (((c.toNat : Nat) : Int) - 247) = (k : Nat) by omega, Int.toNat_natCast]
          refine RC.loop ?_
          refine RL.inv (α := Nat) (fun i => [(46, .int .i64 (i : Nat)), (45, .int .i64 (k : Nat)), (44, .slice (sub a (Int.toNat 1)) k k), (8, .int .u64 (val ((r.take i).map (flipU false)) : Nat)), (5, .int .u8 0), (7, .int .i64 (k : Nat))])
            (fun i n1 h1 => i ≤ k ∧ n1 = n' ∧ h1 = h)
            (fun i => k - i) 0 envs ⟨by omega, rfl, rfl⟩ ?_
          rintro i n1 h1 ⟨hi, rfl, rfl⟩
          by_cases hlt : i < k
          · have hv := val_take_lt false r i (by omega)
            have hvs := val_succ false r i (by omega)
            have hb : (r.getD (i : Int).toNat 0).toNat < 256 := UInt8.toNat_lt _
            have hb' : (r.getD i 0).toNat < 256 := UInt8.toNat_lt _
            have hx : ((((r.getD (i : Int).toNat 0).toNat : Nat) : Int).toNat ^^^ Int.toNat 0) = (flipU false (r.getD i 0)).toNat := by
              rw [Int.toNat_natCast, Int.toNat_natCast]
              exact Nat.xor_zero _
            have hfb : (flipU false (r.getD i 0)).toNat < 256 := UInt8.toNat_lt _
            repeat' (first | refine stpS ?_ | (refine stp2 ?_ ?_ <;> intro _))
            simp only [Int.toNat_natCast]
            simp only [Int.toNat_natCast] at hx
            rw [hx, show Int.toNat 8 = 8 from rfl, or_byte _ _ hv hfb, ← hvs]
            exact nextC.normal ⟨i + 1, by omega, envs, by omega, rfl, rfl⟩
          · obtain rfl : i = k := by omega
            have hs2 := form_sgn false (val ((r.take i).map (flipU false)) + 120)
            have hs3 : (form (((val ((r.take i).map (flipU false)) : Nat) : Int) + 120)).length = 1 + nb (val ((r.take i).map (flipU false))) := by
              have e0 : sgn false (val ((r.take i).map (flipU false)) + 120) = ((val ((r.take i).map (flipU false)) : Nat) : Int) + 120 := by unfold sgn; simp only [Bool.false_eq_true, if_false]; omega
              rw [← e0, hs2, List.length_map, formUp_length, if_neg (by omega), Nat.add_sub_cancel]
            by_cases hbig : 9223372036854775687 < val ((r.take i).map (flipU false))
            · rw [if_pos hbig] at hpI
              repeat' (first | refine stpS ?_ | (refine stp2 ?_ ?_ <;> intro _))
              rw [hpI]; rfl
            · rw [if_neg hbig] at hpI
              repeat' (first | refine stpS ?_ | (refine stp2 ?_ ?_ <;> intro _))
              refine RS.call1 rfl opds (size_ev _ (by omega) (by omega) _ _) none'W ?_
              by_cases hnb : nb (val ((r.take i).map (flipU false))) = i
              · rw [if_neg (by simpa using hnb)] at hpI
                repeat' (first | refine stpS ?_ | (refine stp2 ?_ ?_ <;> intro _))
                rw [hpI]
                have e1 : (((((val ((r.take i).map (flipU false)) : Nat) : Int) + 120).toNat ^^^ (-(0 % 2 : Int)).toNat : Nat) : Int) = sgn false (val ((r.take i).map (flipU false)) + 120) := by
                  unfold sgn
                  rw [show (-(0 % 2 : Int)).toNat = 0 from rfl, Nat.xor_zero]
                  simp only [Bool.false_eq_true, if_false]; omega
                rw [e1]; unfold pIV; rw [show ((1 + i : Nat) : Int) = 1 + (i : Int) by omega]; rfl
              · rw [if_pos (by simpa using hnb)] at hpI
                repeat' (first | refine stpS ?_ | (refine stp2 ?_ ?_ <;> intro _))
                rw [hpI]; rfl
end Go.Proofs.YtfbddbpbifnhfaaGreatDoor.Cd

/- Contracts taken from codec (written by port.py). -/
namespace Go.Proofs.YtfbddbpbifnhfaaGreatDoor.Cd
open Go.Abs
set_option maxHeartbeats 4000000 in
theorem parseInt_ev (b : List UInt8) (a : Option Addr) (m n : Nat) (h : AH) (S : SlB h n a b) (e : m = b.length) (hm : m ≤ 1099511627776) :
    Ev Tryz.prog none' 102 #[.slice a m m] n h (pIV (pI b)) n h := by
  subst e
  refine RF.pure (by simp [pIV, flat]) fun n' hn => ?_
  have S := S.ext (Ext.refl n h) hn
  refine RF.of Tryz.func102 rfl rfl (Nat.le_of_ble_eq_true rfl) ?_; dsimp only [argEnv]
  cases b with
  | nil =>
    repeat' (first | refine stpS ?_ | (refine stp2 ?_ ?_ <;> intro _))
    rfl
  | cons c r =>
    have hc := c.toNat_lt
    have q0 : ((c :: r).getD (Int.toNat 0) 0).toNat = c.toNat := rfl
    have ql : (c :: r).length = r.length + 1 := rfl
    by_cases hlow : c.toNat < 128
    · have hfx : (flipU true c).toNat = 255 - c.toNat := flip_nat c
      have hdec : decide (c.toNat < 128) = true := decide_eq_true hlow
      have hpI : pI (c :: r) = pI (c :: r) := rfl
      conv at hpI => rhs; unfold pI
      simp only [hdec, hfx] at hpI
      by_cases hs : 255 - c.toNat < 248
      · rw [if_pos hs] at hpI
        repeat' (first | refine stpS ?_ | (refine stp2 ?_ ?_ <;> intro _))
        rw [hpI]
        have e1 : -(255 - (c.toNat : Int) - 128) - 1 = sgn true (255 - c.toNat - 128) := by unfold sgn; simp only [if_true]; omega
        refine Eq.trans ?_ (congrArg (fun x => Value.tuple #[.int .i64 x, .int .i64 1, .int .i64 0]) e1)
        rfl
      · rw [if_neg hs] at hpI
        by_cases hr : r.length < 255 - c.toNat - 247
        · rw [if_pos hr] at hpI
          repeat' (first | refine stpS ?_ | (refine stp2 ?_ ?_ <;> intro _))
          rw [hpI]; rfl
        · rw [if_neg hr] at hpI
          obtain ⟨k, hk⟩ : ∃ k, k = 255 - c.toNat - 247 := ⟨_, rfl⟩
          rw [← hk] at hpI
          have hkI : (255 - (((c :: r).getD (Int.toNat 0) 0).toNat : Int)) - 247 = (k : Nat) := by rw [q0]; omega
          repeat' (first | refine stpS ?_ | (refine stp2 ?_ ?_ <;> intro _))
          rw [hkI]
          refine RC.loop ?_
          refine RL.inv (α := Nat) (fun i => [(10, .int .i64 ((i : Nat) + 1)), (9, .int .u64 (val ((r.take i).map (flipU true)) : Nat)), (8, .int .i64 (k : Nat)), (5, .bool true), (0, .slice a (c :: r).length (c :: r).length)])
            (fun i n1 h1 => i ≤ k ∧ n1 = n' ∧ h1 = h)
            (fun i => k - i) 0 envs ⟨by omega, rfl, rfl⟩ ?_
          rintro i n1 h1 ⟨hi, rfl, rfl⟩
          by_cases hlt : i < k
          · have hv := val_take_lt true r i (by omega)
            have hvs := val_succ true r i (by omega)
            have hgi : (c :: r).getD ((i : Int) + 1).toNat 0 = r.getD i 0 := by rw [show ((i : Int) + 1).toNat = i + 1 by omega]; rfl
            have hb' : (r.getD i 0).toNat < 256 := UInt8.toNat_lt _
            have hb : ((c :: r).getD ((i : Int) + 1).toNat 0).toNat < 256 := UInt8.toNat_lt _
            repeat' (first | refine stpS ?_ | (refine stp2 ?_ ?_ <;> intro _))
            refine nextC.normal ⟨i + 1, by omega, ?_, by omega, rfl, rfl⟩
            rw [show ((i + 1 : Nat) : Int) = (i : Int) + 1 by omega, hvs]
            rw [show ((val ((r.take i).map (flipU true)) * 256 + (flipU true (r.getD i 0)).toNat : Nat) : Int) = (val ((r.take i).map (flipU true)) : Int) * 256 + (255 - (((c :: r).getD ((i : Int) + 1).toNat 0).toNat : Int)) by rw [hgi]; rw [flip_nat]; omega]
            exact envs
          · obtain rfl : i = k := by omega
            have hs2 := form_sgn true (val ((r.take i).map (flipU true)) + 120)
            have hs3 : (form (sgn true (val ((r.take i).map (flipU true)) + 120))).length = 1 + nb (val ((r.take i).map (flipU true))) := by
              rw [hs2, List.length_map, formUp_length, if_neg (by omega), Nat.add_sub_cancel]
            by_cases hbig : 9223372036854775687 < val ((r.take i).map (flipU true))
            · rw [if_pos hbig] at hpI
              repeat' (first | refine stpS ?_ | (refine stp2 ?_ ?_ <;> intro _))
              rw [hpI]; rfl
            · rw [if_neg hbig] at hpI
              have e2 : -((((val ((r.take i).map (flipU true)) : Nat) : Int) + 120)) - 1 = sgn true (val ((r.take i).map (flipU true)) + 120) := by unfold sgn; simp only [if_true]; omega
              have hb2 : -9223372036854775808 ≤ sgn true (val ((r.take i).map (flipU true)) + 120) ∧ sgn true (val ((r.take i).map (flipU true)) + 120) < 9223372036854775808 := by omega
              repeat' (first | refine stpS ?_ | (refine stp2 ?_ ?_ <;> intro _))
              rw [e2]
              have hfl := form_le _ hb2.1 hb2.2
              refine RS.call rfl opds (refInt_rf _ hb2.1 hb2.2 _ _) none'W ?_
              rintro r2 n2 h2 hle2 ⟨a2, rfl, hE2, hO2⟩
              rw [hs3] at hfl ⊢
              by_cases hnb : nb (val ((r.take i).map (flipU true))) = i
              · rw [if_neg (by simpa using hnb)] at hpI
                repeat' (first | refine stpS ?_ | (refine stp2 ?_ ?_ <;> intro _))
                rw [hpI]
                unfold pIV; rw [show ((1 + i : Nat) : Int) = 1 + (i : Int) by omega]; rfl
              · rw [if_pos (by simpa using hnb)] at hpI
                repeat' (first | refine stpS ?_ | (refine stp2 ?_ ?_ <;> intro _))
                rw [hpI]; rfl
    · have hfx : (flipU false c).toNat = c.toNat := rfl
      have hdec : decide (c.toNat < 128) = false := decide_eq_false hlow
      have hpI : pI (c :: r) = pI (c :: r) := rfl
      conv at hpI => rhs; unfold pI
      simp only [hdec, hfx] at hpI
      by_cases hs : c.toNat < 248
      · rw [if_pos hs] at hpI
        repeat' (first | refine stpS ?_ | (refine stp2 ?_ ?_ <;> intro _))
        rw [hpI]
        have e1 : (c.toNat : Int) - 128 = sgn false (c.toNat - 128) := by unfold sgn; simp only [Bool.false_eq_true, if_false]; omega
        refine Eq.trans ?_ (congrArg (fun x => Value.tuple #[.int .i64 x, .int .i64 1, .int .i64 0]) e1)
        rfl
      · rw [if_neg hs] at hpI
        by_cases hr : r.length < c.toNat - 247
        · rw [if_pos hr] at hpI
          repeat' (first | refine stpS ?_ | (refine stp2 ?_ ?_ <;> intro _))
          rw [hpI]; rfl
        · rw [if_neg hr] at hpI
          obtain ⟨k, hk⟩ : ∃ k, k = c.toNat - 247 := ⟨_, rfl⟩
          rw [← hk] at hpI
          have hkI : ((((c :: r).getD (Int.toNat 0) 0).toNat : Int)) - 247 = (k : Nat) := by rw [q0]; omega
          repeat' (first | refine stpS ?_ | (refine stp2 ?_ ?_ <;> intro _))
          rw [hkI]
          refine RC.loop ?_
          refine RL.inv (α := Nat) (fun i => [(10, .int .i64 ((i : Nat) + 1)), (9, .int .u64 (val ((r.take i).map (flipU false)) : Nat)), (8, .int .i64 (k : Nat)), (5, .bool false), (0, .slice a (c :: r).length (c :: r).length)])
            (fun i n1 h1 => i ≤ k ∧ n1 = n' ∧ h1 = h)
            (fun i => k - i) 0 envs ⟨by omega, rfl, rfl⟩ ?_
          rintro i n1 h1 ⟨hi, rfl, rfl⟩
          by_cases hlt : i < k
          · have hv := val_take_lt false r i (by omega)
            have hvs := val_succ false r i (by omega)
            have hgi : (c :: r).getD ((i : Int) + 1).toNat 0 = r.getD i 0 := by rw [show ((i : Int) + 1).toNat = i + 1 by omega]; rfl
            have hb' : (r.getD i 0).toNat < 256 := UInt8.toNat_lt _
            have hb : ((c :: r).getD ((i : Int) + 1).toNat 0).toNat < 256 := UInt8.toNat_lt _
            repeat' (first | refine stpS ?_ | (refine stp2 ?_ ?_ <;> intro _))
            refine nextC.normal ⟨i + 1, by omega, ?_, by omega, rfl, rfl⟩
            rw [show ((i + 1 : Nat) : Int) = (i : Int) + 1 by omega, hvs]
            rw [show ((val ((r.take i).map (flipU false)) * 256 + (flipU false (r.getD i 0)).toNat : Nat) : Int) = (val ((r.take i).map (flipU false)) : Int) * 256 + ((((c :: r).getD ((i : Int) + 1).toNat 0).toNat : Int)) by rw [hgi]; rw [show flipU false (r.getD i 0) = r.getD i 0 from rfl]; omega]
            exact envs
          · obtain rfl : i = k := by omega
            have hs2 := form_sgn false (val ((r.take i).map (flipU false)) + 120)
            have hs3 : (form (sgn false (val ((r.take i).map (flipU false)) + 120))).length = 1 + nb (val ((r.take i).map (flipU false))) := by
              rw [hs2, List.length_map, formUp_length, if_neg (by omega), Nat.add_sub_cancel]
            by_cases hbig : 9223372036854775687 < val ((r.take i).map (flipU false))
            · rw [if_pos hbig] at hpI
              repeat' (first | refine stpS ?_ | (refine stp2 ?_ ?_ <;> intro _))
              rw [hpI]; rfl
            · rw [if_neg hbig] at hpI
              have e2 : ((val ((r.take i).map (flipU false)) : Nat) : Int) + 120 = sgn false (val ((r.take i).map (flipU false)) + 120) := by unfold sgn; simp only [Bool.false_eq_true, if_false]; omega
              have hb2 : -9223372036854775808 ≤ sgn false (val ((r.take i).map (flipU false)) + 120) ∧ sgn false (val ((r.take i).map (flipU false)) + 120) < 9223372036854775808 := by omega
              repeat' (first | refine stpS ?_ | (refine stp2 ?_ ?_ <;> intro _))
              rw [e2]
              have hfl := form_le _ hb2.1 hb2.2
              refine RS.call rfl opds (refInt_rf _ hb2.1 hb2.2 _ _) none'W ?_
              rintro r2 n2 h2 hle2 ⟨a2, rfl, hE2, hO2⟩
              rw [hs3] at hfl ⊢
              by_cases hnb : nb (val ((r.take i).map (flipU false))) = i
              · rw [if_neg (by simpa using hnb)] at hpI
                repeat' (first | refine stpS ?_ | (refine stp2 ?_ ?_ <;> intro _))
                rw [hpI]
                unfold pIV; rw [show ((1 + i : Nat) : Int) = 1 + (i : Int) by omega]; rfl
              · rw [if_pos (by simpa using hnb)] at hpI
                repeat' (first | refine stpS ?_ | (refine stp2 ?_ ?_ <;> intro _))
                rw [hpI]; rfl
end Go.Proofs.YtfbddbpbifnhfaaGreatDoor.Cd

/- Contracts taken from codec (written by port.py). -/
namespace Go.Proofs.YtfbddbpbifnhfaaGreatDoor.Cd
open Go.Abs
abbrev PB := List UInt8 × Nat × Nat
def addP (o : List UInt8) (i : Nat) (x : PB) : PB := if x.2.2 = 0 then (o ++ x.1, x.2.1 + i, 0) else ([], 0, x.2.2)
def pB : List UInt8 → PB
  | [] => ([], 0, 30)
  | [c] => if c.toNat = 0 then ([], 0, 30) else addP [c] 1 ([], 0, 30)
  | c :: d :: r =>
    if c.toNat = 0 then (if d.toNat = 0 then ([], 2, 0) else if d.toNat = 1 then addP [0] 2 (pB r) else ([], 0, 31))
    else addP [c] 1 (pB (d :: r))
theorem addP_add (o o' : List UInt8) (i i' : Nat) (x : PB) : addP o i (addP o' i' x) = addP (o ++ o') (i + i') x := by
  unfold addP
  by_cases h : x.2.2 = 0
  · simp only [h, if_true, List.append_assoc]; congr 2; omega
  · simp only [h, if_false]
theorem addP_err (o : List UInt8) (i e : Nat) (h : e ≠ 0) : addP o i ([], 0, e) = ([], 0, e) := by unfold addP; rw [if_neg h]
theorem pB_cons (c : UInt8) (r : List UInt8) (h : ¬ c.toNat = 0) : pB (c :: r) = addP [c] 1 (pB r) := by
  cases r with
  | nil => rw [show pB ([] : List UInt8) = ([], 0, 30) from rfl, pB, if_neg h]
  | cons d r => rw [pB, if_neg h]
theorem pB_zero (c d : UInt8) (r : List UInt8) (h : c.toNat = 0) : pB (c :: d :: r) = (if d.toNat = 0 then ([], 2, 0) else if d.toNat = 1 then addP [0] 2 (pB r) else ([], 0, 31)) := by rw [pB, if_pos h]
theorem pB_one (c : UInt8) (h : c.toNat = 0) : pB [c] = ([], 0, 30) := by rw [pB, if_pos h]
theorem pB_app (p r : List UInt8) (h : ∀ k : Nat, p[k]? ≠ some 0) : pB (p ++ r) = addP p p.length (pB r) := by
  induction p with
  | nil =>
    simp only [List.nil_append, List.length_nil]
    unfold addP
    by_cases q : (pB r).2.2 = 0
    · rw [if_pos q, List.nil_append, Nat.add_zero, ← q]
    · rw [if_neg q]
      have : ∀ b, (pB b).2.2 ≠ 0 → (pB b).1 = [] ∧ (pB b).2.1 = 0 := by
        intro b
        induction b using pB.induct with
        | case1 => intro _; exact ⟨rfl, rfl⟩
        | case2 c h => intro _; rw [pB_one c h]; exact ⟨rfl, rfl⟩
        | case3 c h => intro _; rw [pB, if_neg h]; exact ⟨rfl, rfl⟩
        | case4 c d r hc hd => intro q; rw [pB_zero c d r hc, if_pos hd] at q; exact absurd rfl q
        | case5 c d r hc hd h1 ih =>
          rw [pB_zero c d r hc, if_neg hd, if_pos h1]; intro q
          unfold addP at q ⊢; split at q <;> simp_all
        | case6 c d r hc hd h1 => intro _; rw [pB_zero c d r hc, if_neg hd, if_neg h1]; exact ⟨rfl, rfl⟩
        | case7 c d r hc ih =>
          rw [pB_cons c _ hc]; intro q
          unfold addP at q ⊢; split at q <;> simp_all
      obtain ⟨h1, h2⟩ := this r q
      exact Prod.ext h1 (Prod.ext h2 rfl)
  | cons c p ih =>
    have hc : ¬ c.toNat = 0 := fun e => h 0 (by simpa using (UInt8.toNat_inj (a := c) (b := 0)).1 e)
    rw [List.cons_append, pB_cons c _ hc, ih fun k => by simpa using h (k + 1), addP_add]
    simp only [List.length_cons, List.cons_append, List.nil_append]
    congr 1; omega
theorem pB_addP (b : List UInt8) : addP [] 0 (pB b) = pB b := (pB_app [] b (by simp)).symm
theorem pB_none {b : List UInt8} (h : ∀ k : Nat, b[k]? ≠ some 0) : pB b = ([], 0, 30) := by
  have := pB_app b [] h
  rw [List.append_nil] at this
  rw [this]; exact addP_err _ _ _ (by decide)
theorem pB_form (l r : List UInt8) : pB (formB l ++ r) = (l, (formB l).length, 0) := by
  have key : pB (esc l ++ ([0, 0] ++ r)) = addP l (esc l).length (([], 2, 0) : PB) := by
    induction l with
    | nil => rw [show esc [] = [] from rfl, List.nil_append, show ([0, 0] ++ r : List UInt8) = 0 :: 0 :: r from rfl, pB_zero _ _ _ rfl, if_pos (show (0 : UInt8).toNat = 0 from rfl)]; rfl
    | cons c l ih =>
      have e : esc (c :: l) = escB c ++ esc l := by simp [esc]
      rw [e]
      unfold escB
      by_cases hc : c.toNat = 0
      · rw [if_pos hc]
        simp only [List.cons_append, List.nil_append]
        rw [pB_zero _ _ _ hc, if_neg (by decide), if_pos (by decide)]
        rw [show (0 :: 0 :: r : List UInt8) = [0, 0] ++ r from rfl, ih, addP_add]
        have : c = 0 := (UInt8.toNat_inj (a := c) (b := 0)).1 hc
        subst this
        simp only [List.length_cons, List.cons_append, List.nil_append]
        congr 1; omega
      · rw [if_neg hc]
        simp only [List.cons_append, List.nil_append]
        rw [pB_cons _ _ hc, show (0 :: 0 :: r : List UInt8) = [0, 0] ++ r from rfl, ih, addP_add]
        simp only [List.length_cons, List.cons_append, List.nil_append]
        congr 1; omega
  unfold formB
  rw [List.append_assoc, key]
  unfold addP
  simp only [if_true, List.append_nil, List.length_append, List.length_cons, List.length_nil]
  congr 2; omega
theorem pB_ok {b l : List UInt8} {k : Nat} (h : pB b = (l, k, 0)) : k ≤ b.length ∧ formB l = b.take k := by
  induction b using pB.induct generalizing l k with
  | case1 => simp [pB] at h
  | case2 c hc => rw [pB_one c hc] at h; simp at h
  | case3 c hc => rw [pB, if_neg hc, addP_err _ _ _ (by decide)] at h; simp at h
  | case4 c d r hc hd =>
    rw [pB_zero c d r hc, if_pos hd] at h
    simp only [Prod.mk.injEq, and_true] at h
    obtain ⟨rfl, rfl⟩ := h
    have e1 : c = 0 := (UInt8.toNat_inj (a := c) (b := 0)).1 hc
    have e2 : d = 0 := (UInt8.toNat_inj (a := d) (b := 0)).1 hd
    subst e1; subst e2
    exact ⟨by simp, rfl⟩
  | case5 c d r hc hd h1 ih =>
    rw [pB_zero c d r hc, if_neg hd, if_pos h1] at h
    obtain ⟨x, hx⟩ : ∃ x, x = pB r := ⟨_, rfl⟩
    rw [← hx] at h
    unfold addP at h
    by_cases q : x.2.2 = 0
    · rw [if_pos q] at h
      simp only [Prod.mk.injEq, and_true] at h
      obtain ⟨rfl, rfl⟩ := h
      obtain ⟨i1, i2⟩ := ih (l := x.1) (k := x.2.1) (by rw [← hx, ← q])
      have e1 : c = 0 := (UInt8.toNat_inj (a := c) (b := 0)).1 hc
      have e2 : d = 1 := (UInt8.toNat_inj (a := d) (b := 1)).1 h1
      subst e1; subst e2
      refine ⟨by simp only [List.length_cons]; omega, ?_⟩
      show [0, 1] ++ formB x.1 = _
      rw [i2]; rfl
    · rw [if_neg q] at h
      simp only [Prod.mk.injEq] at h
      exact absurd h.2.2 q
  | case6 c d r hc hd h1 => rw [pB_zero c d r hc, if_neg hd, if_neg h1] at h; simp at h
  | case7 c d r hc ih =>
    rw [pB_cons c _ hc] at h
    obtain ⟨x, hx⟩ : ∃ x, x = pB (d :: r) := ⟨_, rfl⟩
    rw [← hx] at h
    unfold addP at h
    by_cases q : x.2.2 = 0
    · rw [if_pos q] at h
      simp only [Prod.mk.injEq, and_true] at h
      obtain ⟨rfl, rfl⟩ := h
      obtain ⟨i1, i2⟩ := ih (l := x.1) (k := x.2.1) (by rw [← hx, ← q])
      refine ⟨by simp only [List.length_cons] at i1 ⊢; omega, ?_⟩
      have : formB (c :: x.1) = c :: formB x.1 := by
        have : escB c = [c] := by unfold escB; rw [if_neg hc]
        show escB c ++ esc x.1 ++ [0, 0] = _
        rw [this]; rfl
      show formB (c :: x.1) = _
      rw [this, i2]; rfl
    · rw [if_neg q] at h
      simp only [Prod.mk.injEq] at h
      exact absurd h.2.2 q
theorem formB_ge (l : List UInt8) : l.length + 2 ≤ (formB l).length := by
  unfold formB
  rw [List.length_append, esc_length]
  show _ ≤ _ + 2
  omega
theorem pB_err (b : List UInt8) : (pB b).2.2 = 0 ∨ ((pB b).1 = [] ∧ (pB b).2.1 = 0 ∧ ((pB b).2.2 = 30 ∨ (pB b).2.2 = 31)) := by
  induction b using pB.induct with
  | case1 => exact .inr ⟨rfl, rfl, .inl rfl⟩
  | case2 c h => rw [pB_one c h]; exact .inr ⟨rfl, rfl, .inl rfl⟩
  | case3 c h => rw [pB, if_neg h]; exact .inr ⟨rfl, rfl, .inl rfl⟩
  | case4 c d r hc hd => rw [pB_zero c d r hc, if_pos hd]; exact .inl rfl
  | case5 c d r hc hd h1 ih =>
    rw [pB_zero c d r hc, if_neg hd, if_pos h1]
    unfold addP
    split
    · exact .inl rfl
    · rename_i q; exact .inr ⟨rfl, rfl, (ih.resolve_left q).2.2⟩
  | case6 c d r hc hd h1 => rw [pB_zero c d r hc, if_neg hd, if_neg h1]; exact .inr ⟨rfl, rfl, .inr rfl⟩
  | case7 c d r hc ih =>
    rw [pB_cons c _ hc]
    unfold addP
    split
    · exact .inl rfl
    · rename_i q; exact .inr ⟨rfl, rfl, (ih.resolve_left q).2.2⟩
theorem pI_err (b : List UInt8) : (pI b).2.2 = 0 ∨ ((pI b).1 = 0 ∧ (pI b).2.1 = 0 ∧ ((pI b).2.2 = 30 ∨ (pI b).2.2 = 31)) := by
  unfold pI
  split
  · exact .inr ⟨rfl, rfl, .inl rfl⟩
  · split
    · exact .inl rfl
    · split
      · exact .inr ⟨rfl, rfl, .inl rfl⟩
      · split
        · exact .inr ⟨rfl, rfl, .inr rfl⟩
        · split
          · exact .inr ⟨rfl, rfl, .inr rfl⟩
          · exact .inl rfl
theorem pB_scan {d : List UInt8} {k : Nat} (h : Lib.indexByte d 0 = k) : k < d.length ∧ d.take (k + 1) = d.take k ++ [0] ∧
    (k + 1 = d.length → pB d = ([], 0, 30)) ∧ ∀ (hk : k + 1 < d.length), pB d = (if (d.getD (k + 1) 0).toNat = 0 then (d.take k, k + 2, 0) else if (d.getD (k + 1) 0).toNat = 1 then addP (d.take k ++ [0]) (k + 2) (pB (d.drop (k + 2))) else ([], 0, 31)) := by
  obtain ⟨h1, h2⟩ := Lib.indexByte_some h
  have hlt : k < d.length := (List.getElem?_eq_some_iff.1 h1).1
  have hat : d[k] = 0 := by rw [List.getElem?_eq_getElem hlt] at h1; exact Option.some.inj h1
  have hp : ∀ i : Nat, (d.take k)[i]? ≠ some 0 := fun i => by
    rw [List.getElem?_take]
    split
    · rename_i q; exact h2 i q
    · simp
  have hl : (d.take k).length = k := by rw [List.length_take]; omega
  have e : d = d.take k ++ 0 :: d.drop (k + 1) := by
    have := List.take_append_drop k d
    rw [List.drop_eq_getElem_cons hlt, hat] at this
    exact this.symm
  have hs := pB_app (d.take k) (0 :: d.drop (k + 1)) hp
  rw [← e, hl] at hs
  refine ⟨hlt, by rw [List.take_succ_eq_append_getElem hlt, hat], fun q => ?_, fun q => ?_⟩
  · rw [hs, List.drop_eq_nil_of_le (by omega), pB_one _ rfl]
    exact addP_err _ _ _ (by decide)
  · rw [hs, List.drop_eq_getElem_cons q, pB_zero _ _ _ rfl]
    have : d.getD (k + 1) 0 = d[k + 1] := by simp [List.getD, q]
    rw [this]
    split
    · unfold addP; simp only [if_true, List.append_nil]; congr 2; omega
    · split
      · rw [addP_add]
      · exact addP_err _ _ _ (by decide)
end Go.Proofs.YtfbddbpbifnhfaaGreatDoor.Cd

/- Contracts taken from codec (written by port.py). -/
namespace Go.Proofs.YtfbddbpbifnhfaaGreatDoor.Cd
open Go.Abs
def PBr (x : PB) (n : Nat) (h : AH) (r : Value) (n' : Nat) (h' : AH) : Prop :=
  ∃ a', r = .tuple #[.slice a' x.1.length x.1.length, .int .i64 (x.2.1 : Nat), .int .i64 (x.2.2 : Nat)] ∧ Ext n h h' ∧ OwnSl h' n n' a' 1 x.1.length (bytesV x.1)
theorem drop_cons {b : List UInt8} {i : Nat} (h : i < b.length) : b.drop i = b.getD i 0 :: b.drop (i + 1) := by
  rw [List.drop_eq_getElem_cons h]
  simp [List.getD, h]
set_option maxHeartbeats 4000000 in
theorem parseBytes_rf (b : List UInt8) (a : Option Addr) (m n : Nat) (h : AH) (S : SlB h n a b) (e : m = b.length) (hm : m ≤ 1073741824) :
    RF Tryz.prog none' 103 #[.slice a m m] n h (PBr (pB b) n h) := by
  subst e
  refine RF.of Tryz.func103 rfl rfl (Nat.le_of_ble_eq_true rfl) ?_; dsimp only [argEnv]
  repeat' (first | refine stpS ?_ | (refine stp2 ?_ ?_ <;> intro _))
  refine RC.loop ?_
  refine RL.inv (α := Nat × Option Addr × List UInt8) (fun s => [(6, .int .i64 (s.1 : Nat)), (5, .slice s.2.1 s.2.2.length s.2.2.length), (0, .slice a b.length b.length)])
    (fun s n1 h1 => s.1 ≤ b.length ∧ n ≤ n1 ∧ Ext n h h1 ∧ OwnSl h1 n n1 s.2.1 1 s.2.2.length (bytesV s.2.2) ∧ s.2.2.length ≤ s.1 ∧ pB b = addP s.2.2 s.1 (pB (b.drop s.1)))
    (fun s => b.length - s.1) (0, none, []) envs ⟨by omega, Nat.le_refl _, Ext.refl _ _, OwnSl.nil (Nat.le_refl _), Nat.le_refl _, (pB_addP b).symm⟩ ?_
  rintro ⟨i, a1, o⟩ n1 h1 ⟨hi, hn, hE, hO, hol, hp⟩
  dsimp only at hi hn hE hO hol hp ⊢
  have hS : SlB h1 n1 a b := S.ext hE hn
  by_cases hlt : i < b.length
  · have hd := drop_cons hlt
    have hb : (b.getD (i : Int).toNat 0).toNat < 256 := UInt8.toNat_lt _
    have hgi : b.getD (i : Int).toNat 0 = b.getD i 0 := by rw [Int.toNat_natCast]
    by_cases hz : (b.getD i 0).toNat = 0
    · have hzI : (b.getD (i : Int).toNat 0).toNat = 0 := by rw [hgi]; exact hz
      by_cases he : i + 1 = b.length
      · rw [hd, List.drop_eq_nil_of_le (by omega), pB_one _ hz, addP_err _ _ _ (by decide)] at hp
        repeat' (first | refine stpS ?_ | (refine stp2 ?_ ?_ <;> intro _))
        rw [hp]
        exact ⟨none, rfl, ext, OwnSl.nil (by omega)⟩
      · have hd2 := drop_cons (b := b) (i := i + 1) (by omega)
        have hb2 : (b.getD ((i : Int) + 1).toNat 0).toNat < 256 := UInt8.toNat_lt _
        have hgi2 : b.getD ((i : Int) + 1).toNat 0 = b.getD (i + 1) 0 := by rw [show ((i : Int) + 1).toNat = i + 1 by omega]
        rw [hd, hd2, pB_zero _ _ _ hz] at hp
        by_cases h0 : (b.getD (i + 1) 0).toNat = 0
        · have h0I : (b.getD ((i : Int) + 1).toNat 0).toNat = 0 := by rw [hgi2]; exact h0
          rw [if_pos h0] at hp
          have hp : pB b = (o, 2 + i, 0) := by
            rw [hp]; unfold addP; simp only [if_true, List.append_nil]
          repeat' (first | refine stpS ?_ | (refine stp2 ?_ ?_ <;> intro _))
          rw [hp]
          exact ⟨a1, by rw [show ((2 + i : Nat) : Int) = (i : Int) + 2 by omega]; rfl, ext, hO⟩
        · have h0I : ¬ (b.getD ((i : Int) + 1).toNat 0).toNat = 0 := by rw [hgi2]; exact h0
          rw [if_neg h0] at hp
          by_cases h1 : (b.getD (i + 1) 0).toNat = 1
          · have h1I : (b.getD ((i : Int) + 1).toNat 0).toNat = 1 := by rw [hgi2]; exact h1
            rw [if_pos h1, addP_add] at hp
            repeat' (first | refine stpS ?_ | (refine stp2 ?_ ?_ <;> intro _))
            refine RS.append rfl opd opd (hO.ext ext (Nat.le_succ _)) (OwnSl.src (OwnSl.new1 (n0 := n1) (m := 1) (Nat.le_refl _) rfl rfl)) full_slice (fun b hb => Or.inr (by omega)) (by omega) ?_
            intro a2 n2 h2 hle2 hO2 hX2 hnew2
            have hE2 := hX2.ext (hO.ext ext (Nat.le_succ _))
            repeat' (first | refine stpS ?_ | (refine stp2 ?_ ?_ <;> intro _))
            refine nextC.normal ⟨(i + 1 + 1, a2, o ++ [0]), by dsimp only; omega, ?_, by dsimp only; omega, by omega, ext, ?_, by simp only [List.length_append, List.length_cons, List.length_nil]; omega, hp⟩
            · dsimp only
              rw [List.length_append, show ((i + 1 + 1 : Nat) : Int) = (i : Int) + 1 + 1 by omega]
              exact envs
            · dsimp only
              rw [List.length_append, bytesV_app]
              exact hO2
          · have h1I : ¬ (b.getD ((i : Int) + 1).toNat 0).toNat = 1 := by rw [hgi2]; exact h1
            rw [if_neg h1, addP_err _ _ _ (by decide)] at hp
            repeat' (first | refine stpS ?_ | (refine stp2 ?_ ?_ <;> intro _))
            rw [hp]
            exact ⟨none, rfl, ext, OwnSl.nil (by omega)⟩
    · have hzI : ¬ (b.getD (i : Int).toNat 0).toNat = 0 := by rw [hgi]; exact hz
      rw [hd, pB_cons _ _ hz, addP_add] at hp
      repeat' (first | refine stpS ?_ | (refine stp2 ?_ ?_ <;> intro _))
      refine RS.append rfl opd opd (hO.ext ext (Nat.le_succ _)) (OwnSl.src (OwnSl.new1 (n0 := n1) (m := 1) (Nat.le_refl _) rfl rfl)) full_slice (fun b hb => Or.inr (by omega)) (by omega) ?_
      intro a2 n2 h2 hle2 hO2 hX2 hnew2
      have hE2 := hX2.ext (hO.ext ext (Nat.le_succ _))
      repeat' (first | refine stpS ?_ | (refine stp2 ?_ ?_ <;> intro _))
      refine nextC.normal ⟨(i + 1, a2, o ++ [b.getD i 0]), by dsimp only; omega, ?_, by dsimp only; omega, by omega, ext, ?_, by simp only [List.length_append, List.length_cons, List.length_nil]; omega, hp⟩
      · dsimp only
        rw [List.length_append]
        exact envs
      · dsimp only
        rw [List.length_append, bytesV_app]
        rw [show bytesF b (i : Int).toNat = .int .u8 (b.getD i 0).toNat by rw [Int.toNat_natCast]; rfl] at hO2
        exact hO2
  · obtain rfl : i = b.length := by omega
    rw [List.drop_eq_nil_of_le (Nat.le_refl _), show pB ([] : List UInt8) = ([], 0, 30) from rfl, addP_err _ _ _ (by decide)] at hp
    repeat' (first | refine stpS ?_ | (refine stp2 ?_ ?_ <;> intro _))
    rw [hp]
    exact ⟨none, rfl, ext, OwnSl.nil (by omega)⟩
end Go.Proofs.YtfbddbpbifnhfaaGreatDoor.Cd

/- Contracts taken from codec (written by port.py). -/
namespace Go.Proofs.YtfbddbpbifnhfaaGreatDoor.Cd
open Go.Abs
section
variable {P : Program} {T : Nat → Prop} {env : Env} {n : Nat} {g : AH} {dst : Option Tmp} {ty : TypeId} {pos : String} {after : Array Edge} {gd : Option (Nat × Bool)}
theorem op_indexByte0 {f : FuncId} {fn : Func} {ts : Array TypeId} {x y : Operand} {c : Int} (hf : P.funcs[f]? = some fn) (hname : (fn.name == "runtime.NumGoroutine") = false) (hb : fn.body.isNone = true) (hn : Extern.findNext fn = none)
    (he : Extern.find fn = some Extern.BytealgIndexByte.indexByte) (hx : ev env x = .slice none 0 0) (hy : ev env y = .int .u8 c) :
    OpEv P T ⟨dst, .call { callee := .value (.func f), args := #[x, y], argTypes := ts }, ty, pos, after, gd⟩ env n g (.int .i64 (-1)) n .nil :=
  .look fun w0 ρ w H ce hl hsim hop => by
    have h1 := hop x (by simp [Op.operands, Call.operands]); rw [hx] at h1
    have h3 := hop y (by simp [Op.operands, Call.operands]); rw [hy] at h3
    have hcy : ce y = .int .u8 c := h3.int_inv
    have h2 := hop (.func f) (by simp [Op.operands, Call.operands])
    have hcf0 : ce (.func f) = .func (.func f) #[] #[] := by
      have e0 : ev env (.func f) = .func (.func f) #[] #[] := rfl
      rw [e0] at h2
      generalize ce (.func f) = q at h2
      cases h2 with
      | @func _ _ ys hs _ =>
        have : ys = #[] := Array.eq_empty_of_size_eq_zero (by simpa using hs.symm)
        rw [this]
    refine ⟨.int .i64 (-1), ?_, .int _ _⟩
    have hc : ce x = .slice none 0 0 := by generalize ce x = q at h1; cases h1; rfl
    have hrun := Lib.run_indexByteNil (P := P) w 0 0 c
    have hcf := run_callFunc_extern hf hname hb hn he #[.slice none 0 0, .int .u8 c] w
    rw [hrun] at hcf
    simp [execOp, resolve, invoke, hc, hcy, hcf, hcf0, Deferred.ofValue]
end
set_option maxHeartbeats 4000000 in
theorem indexByteA_ev (l : List UInt8) (c : UInt8) (a : Option Addr) (m n : Nat) (h : AH) (S : SlB h n a l) (e : m = l.length) :
    Ev Tryz.prog none' 108 #[.slice a m m, .int .u8 c.toNat] n h (.int .i64 (Lib.indexByte l c)) n h := by
  by_cases hl : 0 < l.length
  · exact indexByte_ev l c a m n h S hl e
  · have : l = [] := List.eq_nil_of_length_eq_zero (by omega)
    subst this; subst e
    refine RF.pure rfl fun n' hn => ?_
    have S := S.ext (Ext.refl n h) hn
    refine RF.of Tryz.func108 rfl rfl (Nat.le_of_ble_eq_true rfl) ?_; dsimp only [argEnv]
    repeat' (first | refine stpS ?_ | (refine stp2 ?_ ?_ <;> intro _))
    rcases S.shape with ⟨ha, hl⟩ | ⟨ha, -, -⟩
    · subst ha
      refine RS.put (v := .int .i64 (-1)) rfl rfl (op_indexByte0 (f := 114) Tryz.func114 (by kernel_rfl) (by kernel_rfl) (by kernel_rfl) (by kernel_rfl) (Opd.ev opd) (Opd.ev opd)) ?_
      repeat' (first | refine stpS ?_ | (refine stp2 ?_ ?_ <;> intro _))
      rfl
    · have hrd : rd h (sb a) (so a) ([] : List UInt8).length = bytesV [] := rfl
      rw [ha]
      refine RS.put (v := .int .i64 (Lib.indexByte [] ((c.toNat : Int).toNat.toUInt8))) rfl rfl (op_indexByte (f := 114) (l := []) Tryz.func114 (by kernel_rfl) (by kernel_rfl) (by kernel_rfl) (by kernel_rfl) (Opd.ev opd) (Opd.ev opd) hrd) ?_
      repeat' (first | refine stpS ?_ | (refine stp2 ?_ ?_ <;> intro _))
      rfl
def RdB (x : PB) (w n : Nat) (h : AH) (r : Value) (n' : Nat) (h' : AH) : Prop :=
  ∃ a', r = .tuple #[.int .i64 (x.2.1 : Nat), .int .i64 (x.2.2 : Nat)] ∧ ExtW (· = w) n h h' ∧ h'.info w = some ⟨1, 0, true, 0⟩ ∧ (x.2.2 = 0 → h'.cell w 0 = .slice a' x.1.length x.1.length ∧ OwnSl h' n n' a' 1 x.1.length (bytesV x.1))
set_option maxHeartbeats 4000000 in
theorem takeBytes_rf (b : List UInt8) (a : Option Addr) (m w n : Nat) (h : AH) (S : SlB h n a b) (e : m = b.length) (hm : m ≤ 1073741824) (hw : w < n) (hi : h.info w = some ⟨1, 0, true, 0⟩) (hc : h.cell w 0 = .slice none 0 0) (hne : a = none ∨ sb a ≠ w) :
    RF Tryz.prog (· = w) 107 #[.slice a m m, .pointer (some ⟨w, 0, none⟩)] n h (RdB (pB b) w n h) := by
  subst e
  refine RF.of Tryz.func107 rfl rfl (Nat.le_of_ble_eq_true rfl) ?_; dsimp only [argEnv]
  repeat' (first | refine stpS ?_ | (refine stp2 ?_ ?_ <;> intro _))
  refine RC.loop ?_
  refine RL.inv (α := Nat × Option Addr × List UInt8) (fun s => [(5, .int .i64 (s.1 : Nat)), (0, .slice a b.length b.length), (1, .pointer (some ⟨w, 0, none⟩))])
    (fun s n1 h1 => s.1 ≤ b.length ∧ n ≤ n1 ∧ ExtW (· = w) n h h1 ∧ h1.info w = some ⟨1, 0, true, 0⟩ ∧ h1.cell w 0 = .slice s.2.1 s.2.2.length s.2.2.length ∧ OwnSl h1 n n1 s.2.1 1 s.2.2.length (bytesV s.2.2) ∧ s.2.2.length ≤ s.1 ∧ pB b = addP s.2.2 s.1 (pB (b.drop s.1)))
    (fun s => b.length - s.1) (0, none, []) envs ⟨by omega, Nat.le_refl _, ExtW.refl _ _ _, hi, hc, OwnSl.nil (Nat.le_refl _), Nat.le_refl _, (pB_addP b).symm⟩ ?_
  clear hi hc
  rintro ⟨i, a1, o⟩ n1 h1 ⟨hi, hn, hE, hI, hC, hO, hol, hp⟩
  dsimp only at hi hn hE hI hC hO hol hp ⊢
  have hS : SlB h1 n1 a b := S.extW hE hn fun q e => hne.elim q fun k => k e
  have hSd : SlB h1 n1 (sub a i) (b.drop i) := by
    have := SlB.cut hS (i := i) (u := b.length) hi (Nat.le_refl _)
    rwa [List.take_length] at this
  have hidx := indexByteA_ev (b.drop i) 0 (sub a i) (b.length - i) n1 h1 hSd (by rw [List.length_drop])
  have hwn : w < n1 := by omega
  have hdl : (b.drop i).length = b.length - i := List.length_drop
  have hge := Lib.indexByte_ge (b.drop i) 0
  by_cases hno : Lib.indexByte (b.drop i) 0 = -1
  · rw [pB_none (Lib.indexByte_none hno), addP_err _ _ _ (by decide)] at hp
    rw [hno] at hidx
    repeat' (first | refine stpS ?_ | (refine stp2 ?_ ?_ <;> intro _))
    rw [Int.toNat_natCast]
    refine RS.call1 rfl opds hidx none'W ?_
    repeat' (first | refine stpS ?_ | (refine stp2 ?_ ?_ <;> intro _))
    rw [hp]
    exact ⟨none, rfl, hE, hI, fun q => absurd q (by decide)⟩
  · obtain ⟨k, hk⟩ : ∃ k : Nat, Lib.indexByte (b.drop i) 0 = k := ⟨(Lib.indexByte (b.drop i) 0).toNat, by omega⟩
    obtain ⟨s1, s2, s3, s4⟩ := pB_scan hk
    rw [hk] at hidx
    by_cases hend : k + 1 = (b.drop i).length
    · rw [s3 hend, addP_err _ _ _ (by decide)] at hp
      repeat' (first | refine stpS ?_ | (refine stp2 ?_ ?_ <;> intro _))
      rw [Int.toNat_natCast]
      refine RS.call1 rfl opds hidx none'W ?_
      repeat' (first | refine stpS ?_ | (refine stp2 ?_ ?_ <;> intro _))
      rw [hp]
      exact ⟨none, rfl, hE, hI, fun q => absurd q (by decide)⟩
    · have s4 := s4 (by omega)
      rw [List.drop_drop] at s4
      have hSm : SlB h1 n1 (sub a i) ((b.drop i).take k) := by
        have := SlB.cut hS (i := i) (u := i + k) (by omega) (by omega)
        rwa [show (b.take (i + k)).drop i = (b.drop i).take k by rw [List.drop_take]; congr 1; omega] at this
      have hml : ((b.drop i).take k).length = k := by rw [List.length_take]; omega
      repeat' (first | refine stp ?_ | (refine stp2 ?_ ?_ <;> intro _))
      rw [Int.toNat_natCast]
      refine RS.call1 rfl opds hidx none'W ?_
      repeat' (first | refine stp ?_ | (refine stp2 ?_ ?_ <;> intro _))
      rw [Int.toNat_natCast, show ((i : Int) + (k : Int)).toNat - i = ((b.drop i).take k).length by omega]
      have hown := hO.at'
      refine RD.appendT n1 rfl opd opd hO (SlB.src (SlR.ext hSm (AH.below_ext _ _) (Nat.le_refl _))) full_slice (fun q => .inr (hown.resolve_left q).1) (by omega) (Nat.le_refl _) cfw ?_
      intro a2 n2 h2 hle2 hO2 hX2 hnew
      have hne1 : a1 = none ∨ w ≠ sb a1 := by
        by_cases q : a1 = none
        · exact .inl q
        · right; have := (hown.resolve_left q).1; omega
      have hI2 : h2.info w = some ⟨1, 0, true, 0⟩ := (hX2 w hwn hne1).1.trans hI
      have hwn2 : w < n2 := by omega
      have hE2 : ExtW (· = w) n h h2 := hE.then (hX2.ext hO) (Nat.le_refl _)
      have hlen2 : o.length + ((b.drop i).take k).length = (o ++ (b.drop i).take k).length := by rw [List.length_append]
      rw [← bytesV_app, hlen2] at hO2
      rw [hlen2]
      have ha2w : a2 = none ∨ sb a2 ≠ w := by
        rcases hO2.at' with q | q
        · exact .inl q
        · right; omega
      have hO3 := hO2.setsN (b := w) (o' := 0) (vs := [.slice a2 (o ++ (b.drop i).take k).length (o ++ (b.drop i).take k).length]) ha2w
      have hE3 : ExtW (· = w) n h (h2.app (.sets w 0 [.slice a2 (o ++ (b.drop i).take k).length (o ++ (b.drop i).take k).length])) := hE2.appSets (.inl rfl)
      have hS3 : SlB (h2.app (.sets w 0 [.slice a2 (o ++ (b.drop i).take k).length (o ++ (b.drop i).take k).length])) n2 a b := S.extW hE3 (by omega) fun q e => hne.elim q fun k => k e
      have hI3 : (h2.app (.sets w 0 [.slice a2 (o ++ (b.drop i).take k).length (o ++ (b.drop i).take k).length])).info w = some ⟨1, 0, true, 0⟩ := i_sets hI2
      have hC3 : (h2.app (.sets w 0 [.slice a2 (o ++ (b.drop i).take k).length (o ++ (b.drop i).take k).length])).cell w 0 = .slice a2 (o ++ (b.drop i).take k).length (o ++ (b.drop i).take k).length := cell
      have hgd : (b.drop i).getD (k + 1) 0 = b.getD (i + (k + 1)) 0 := by simp [List.getD]
      rw [hgd] at s4
      have hgI : b.getD ((i : Int) + ((k : Int) + 2) - 1).toNat 0 = b.getD (i + (k + 1)) 0 := by rw [show ((i : Int) + ((k : Int) + 2) - 1).toNat = i + (k + 1) by omega]
      by_cases h0 : (b.getD (i + (k + 1)) 0).toNat = 0
      · have h0I : (b.getD ((i : Int) + ((k : Int) + 2) - 1).toNat 0).toNat = 0 := by rw [hgI]; exact h0
        rw [s4, if_pos h0] at hp
        have hp : pB b = (o ++ (b.drop i).take k, k + 2 + i, 0) := by rw [hp]; unfold addP; simp only [if_true]
        repeat' (first | refine stp ?_ | (refine stp2 ?_ ?_ <;> intro _))
        rw [hp]
        exact ⟨a2, by rw [show ((k + 2 + i : Nat) : Int) = (i : Int) + ((k : Int) + 2) by omega]; rfl, hE3, hI3, fun _ => ⟨hC3, hO3⟩⟩
      · have h0I : ¬ (b.getD ((i : Int) + ((k : Int) + 2) - 1).toNat 0).toNat = 0 := by rw [hgI]; exact h0
        rw [s4, if_neg h0] at hp
        by_cases h1 : (b.getD (i + (k + 1)) 0).toNat = 1
        · have h1I : (b.getD ((i : Int) + ((k : Int) + 2) - 1).toNat 0).toNat = 1 := by rw [hgI]; exact h1
          rw [if_pos h1, addP_add] at hp
          have hol2 : (o ++ (b.drop i).take k).length ≤ i + k := by rw [List.length_append]; omega
          repeat' (first | refine stp ?_ | (refine stp2 ?_ ?_ <;> intro _))
          refine RS.heap (g := (h2.app (.sets w 0 [.slice a2 (o ++ (b.drop i).take k).length (o ++ (b.drop i).take k).length])).app (.new n2 ⟨1, 0, true, 1⟩ [.int .u8 0])) rfl ?_
          have hO4 := hO3.ext (n1 := n2 + 1) (h1 := (h2.app (.sets w 0 [.slice a2 (o ++ (b.drop i).take k).length (o ++ (b.drop i).take k).length])).app (.new n2 ⟨1, 0, true, 1⟩ [.int .u8 0])) ext (Nat.le_succ _)
          refine RS.appendT rfl opd opd hO4 (OwnSl.src (OwnSl.new1 (n0 := n2) (m := 1) (Nat.le_refl _) rfl rfl)) full_slice (fun q => .inr (hO4.at'.resolve_left q).1) (by omega) ?_
          intro a4 n4 h4 hle4 hO5 hX4 hnew4
          have hI4 := i_new_ne (n := n2) (m := ⟨1, 0, true, 1⟩) (cs := [.int .u8 0]) (by omega : w ≠ n2) hI3
          have hI5 : h4.info w = some ⟨1, 0, true, 0⟩ := (hX4 w (by omega) (ha2w.imp_right Ne.symm)).1.trans hI4
          have hwn4 : w < n4 := by omega
          have hE4 : ExtW (· = w) n h h4 := (hE3.appNew (by omega)).then (hX4.ext hO4) (Nat.le_refl _)
          have ha4w : a4 = none ∨ sb a4 ≠ w := by
            rcases hO5.at' with q | q
            · exact .inl q
            · right; omega
          have hlen4 : (o ++ (b.drop i).take k).length + 1 = (o ++ ((b.drop i).take k ++ [0])).length := by simp only [List.length_append, List.length_cons, List.length_nil]; omega
          have hv4 : bytesV (o ++ (b.drop i).take k) ++ [.int .u8 0] = bytesV (o ++ ((b.drop i).take k ++ [0])) := by rw [← List.append_assoc, bytesV_app (o ++ (b.drop i).take k) [0]]; rfl
          rw [hlen4, hv4] at hO5
          rw [hlen4]
          have hO6 := hO5.setsN (b := w) (o' := 0) (vs := [.slice a4 (o ++ ((b.drop i).take k ++ [0])).length (o ++ ((b.drop i).take k ++ [0])).length]) ha4w
          repeat' (first | refine stpS ?_ | (refine stp2 ?_ ?_ <;> intro _))
          refine nextC.normal ⟨(i + (k + 2), a4, o ++ ((b.drop i).take k ++ [0])), by dsimp only; omega, ?_, by dsimp only; omega, by omega, hE4.appSets (.inl rfl), i_sets hI5, cell, hO6, by dsimp only; omega, hp⟩
          dsimp only
          rw [show ((i + (k + 2) : Nat) : Int) = (i : Int) + ((k : Int) + 2) by omega]
          exact envs
        · have h1I : ¬ (b.getD ((i : Int) + ((k : Int) + 2) - 1).toNat 0).toNat = 1 := by rw [hgI]; exact h1
          rw [if_neg h1, addP_err _ _ _ (by decide)] at hp
          repeat' (first | refine stp ?_ | (refine stp2 ?_ ?_ <;> intro _))
          rw [hp]
          exact ⟨none, rfl, hE3, hI3, fun q => absurd q (by decide)⟩
end Go.Proofs.YtfbddbpbifnhfaaGreatDoor.Cd

/- Contracts taken from codec (written by port.py). -/
namespace Go.Proofs.YtfbddbpbifnhfaaGreatDoor.Cd
open Go.Abs
structure RdR (h : AH) (n0 n w : Nat) (a : Option Addr) (b : List UInt8) : Prop where
  lo : n0 ≤ w
  hi : w < n
  inf : h.info w = some ⟨2, 0, true, 0⟩
  made : h.cell w 0 = .bool true
  sl : h.cell w 1 = .slice a b.length b.length
  bs : SlB h n a b
  ne : a = none ∨ sb a ≠ w
  le : b.length ≤ 1073741824
theorem RdR.ext {h h1 : AH} {n0 n n1 w : Nat} {a : Option Addr} {b : List UInt8} (R : RdR h n0 n w a b) (E : Ext n h h1) (hn : n ≤ n1) : RdR h1 n0 n1 w a b :=
  ⟨R.lo, Nat.lt_of_lt_of_le R.hi hn, (E.info w R.hi).trans R.inf, (E.cell w 0 R.hi).trans R.made, (E.cell w 1 R.hi).trans R.sl, SlR.ext R.bs E hn, R.ne, R.le⟩
theorem RdR.extW {W : Nat → Prop} {h h1 : AH} {n0 n n1 w : Nat} {a : Option Addr} {b : List UInt8} (R : RdR h n0 n w a b) (E : ExtW W n h h1) (hn : n ≤ n1) (hw : ¬ W w) (ha : a ≠ none → ¬ W (sb a)) : RdR h1 n0 n1 w a b :=
  ⟨R.lo, Nat.lt_of_lt_of_le R.hi hn, (E.info w R.hi hw).trans R.inf, (E.cell w 0 R.hi hw).trans R.made, (E.cell w 1 R.hi hw).trans R.sl, SlR.extW R.bs E hn ha, R.ne, R.le⟩
set_option maxHeartbeats 4000000 in
theorem newReader_rf (b : List UInt8) (a : Option Addr) (m n : Nat) (h : AH) (S : SlB h n a b) (e : m = b.length) (hm : m ≤ 1073741824) :
    RF Tryz.prog none' 90 #[.slice a m m] n h (fun r n' h' => ∃ w a', r = .pointer (some ⟨w, 0, none⟩) ∧ Ext n h h' ∧ RdR h' n n' w a' b ∧ (a' = none ∨ n ≤ sb a')) := by
  subst e
  refine RF.of Tryz.func90 rfl rfl (Nat.le_of_ble_eq_true rfl) ?_; dsimp only [argEnv]
  repeat' (first | refine stpS ?_ | (refine stp2 ?_ ?_ <;> intro _))
  refine RS.call rfl opds (clone_rf b a _ n h S rfl (by omega)) none'W ?_
  rintro r n1 h1 hle ⟨a1, rfl, hE, hO⟩
  repeat' (first | refine stpS ?_ | (refine stp2 ?_ ?_ <;> intro _))
  exact ⟨n1, a1, rfl, ext, ⟨hle, Nat.lt_succ_self _, info, cell, cell, (OwnSl.slbE hO).ext ext (Nat.le_succ _), hO.at'.imp_right fun q => by omega, hm⟩, hO.at'.imp_right fun q => q.1⟩
set_option maxHeartbeats 4000000 in
theorem end_ev (w : Nat) (a : Option Addr) (b : List UInt8) (n0 n : Nat) (h : AH) (R : RdR h n0 n w a b) :
    Ev Tryz.prog none' 93 #[.pointer (some ⟨w, 0, none⟩)] n h (.int .i64 (if 0 < b.length then 32 else 0)) n h := by
  refine RF.pure (by split <;> rfl) fun n' hn => ?_
  have R := R.ext (Ext.refl n h) hn
  refine RF.of Tryz.func93 rfl rfl (Nat.le_of_ble_eq_true rfl) ?_; dsimp only [argEnv]
  obtain ⟨hlo, hhi, hinf, hmade, hsl, hS, hne, hle⟩ := R
  by_cases q : 0 < b.length
  · rw [if_pos q]
    repeat' (first | refine stpS ?_ | (refine stp2 ?_ ?_ <;> intro _))
    rfl
  · rw [if_neg q]
    repeat' (first | refine stpS ?_ | (refine stp2 ?_ ?_ <;> intro _))
    rfl
set_option maxHeartbeats 4000000 in
theorem take_rf (f : FuncId) (c w : Nat) (a : Option Addr) (b : List UInt8) (n0 n : Nat) (h : AH) (R : RdR h n0 n w a b) (hcw : c ≠ w) (hac : a = none ∨ sb a ≠ c) (k e : Nat) (QC : Nat → AH → Prop) (hk : e = 0 → k ≤ b.length)
    (hev : RF Tryz.prog (· = c) f #[.slice a b.length b.length, .pointer (some ⟨c, 0, none⟩)] n h (fun r n' h' => r = .tuple #[.int .i64 (k : Nat), .int .i64 (e : Nat)] ∧ ExtW (· = c) n h h' ∧ QC n' h')) :
    RF Tryz.prog (fun x => x = w ∨ x = c) 104 #[.pointer (some ⟨w, 0, none⟩), .func (.func f) #[] #[.pointer (some ⟨c, 0, none⟩)]] n h (fun r n' h' => ∃ h1, r = .int .i64 (e : Nat) ∧ QC n' h1 ∧ ExtW (· = c) n h h1 ∧
      h' = (if e = 0 then h1.app (.sets w 1 [.slice (sub a k) (b.length - k) (b.length - k)]) else h1) ∧ (if e = 0 then RdR h' n0 n' w (sub a k) (b.drop k) else RdR h' n0 n' w a b)) := by
  have R0 := R
  refine RF.of Tryz.func104 rfl rfl (Nat.le_of_ble_eq_true rfl) ?_; dsimp only [argEnv]
  obtain ⟨hlo, hhi, hinf, hmade, hsl, hS, hne, hle⟩ := R
  repeat' (first | refine stpS ?_ | (refine stp2 ?_ ?_ <;> intro _))
  refine RS.callv (caps := [.pointer (some ⟨c, 0, none⟩)]) rfl opd opds hev (fun x hx => .inl (.inr hx)) ?_
  rintro r n1 h1 hle1 ⟨rfl, hE, hQ⟩
  have R1 := R0.extW hE hle1 (fun q => hcw q.symm) (fun q1 q2 => hac.elim q1 fun k => k q2)
  obtain ⟨-, hhi1, hinf1, hmade1, hsl1, hS1, -, -⟩ := R1
  by_cases he : e = 0
  · subst he
    have hk := hk rfl
    simp only [if_true]
    repeat' (first | refine stpS ?_ | (refine stp2 ?_ ?_ <;> intro _))
    rw [Int.toNat_natCast]
    have hdl : (b.drop k).length = b.length - k := List.length_drop
    refine ⟨h1, rfl, hQ, hE, rfl, hlo, hhi1, i_sets hinf1, cell, by rw [hdl]; exact cell, ?_, ?_, by omega⟩
    · have hS2 := SlB.cut hS1 hk (Nat.le_refl _)
      rw [List.take_length] at hS2
      refine SlR.extW (W := (· = w)) hS2 ((ExtW.refl _ _ _).appSets (.inl rfl)) (Nat.le_refl _) fun q1 q2 => ?_
      rcases hne with q | q
      · subst q; exact q1 rfl
      · cases a with
        | none => exact q1 rfl
        | some x => exact q q2
    · rcases hne with q | q
      · subst q; exact .inl rfl
      · cases a with
        | none => exact .inl rfl
        | some x => exact .inr q
  · simp only [if_neg he]
    repeat' (first | refine stpS ?_ | (refine stp2 ?_ ?_ <;> intro _))
    exact ⟨h1, rfl, hQ, hE, rfl, R0.extW hE hle1 (fun q => hcw q.symm) (fun q1 q2 => hac.elim q1 fun k => k q2)⟩
end Go.Proofs.YtfbddbpbifnhfaaGreatDoor.Cd

/- Contracts taken from codec (written by port.py). -/
namespace Go.Proofs.YtfbddbpbifnhfaaGreatDoor.Cd
open Go.Abs
def RdTo (w : Nat) (a : Option Addr) (b' : List UInt8) (n0 n : Nat) (h : AH) (n' : Nat) (h' : AH) : Prop :=
  ∃ a', RdR h' n0 n' w a' b' ∧ ExtW (· = w) n h h' ∧ (a' = none ∨ a ≠ none ∧ sb a' = sb a)
theorem sub_sb (a : Option Addr) (k : Nat) : sub a k = none ∨ a ≠ none ∧ sb (sub a k) = sb a := by
  cases a with
  | none => exact .inl rfl
  | some x => exact .inr ⟨by simp, rfl⟩
theorem self_sb (a : Option Addr) : a = none ∨ a ≠ none ∧ sb a = sb a := by
  cases a with
  | none => exact .inl rfl
  | some x => exact .inr ⟨by simp, rfl⟩
set_option maxHeartbeats 4000000 in
theorem takeInt_rf (b : List UInt8) (a : Option Addr) (c n : Nat) (h : AH) (S : SlB h n a b) (hm : b.length ≤ 1073741824) (hc : c < n) (hi : h.info c = some ⟨1, 0, true, 0⟩) :
    RF Tryz.prog (· = c) 105 #[.slice a b.length b.length, .pointer (some ⟨c, 0, none⟩)] n h (fun r n' h' => r = .tuple #[.int .i64 ((pI b).2.1 : Nat), .int .i64 ((pI b).2.2 : Nat)] ∧ ExtW (· = c) n h h' ∧
      h'.cell c 0 = .int .i64 (pI b).1 ∧ h'.info c = some ⟨1, 0, true, 0⟩) := by
  refine RF.of Tryz.func105 rfl rfl (Nat.le_of_ble_eq_true rfl) ?_; dsimp only [argEnv]
  repeat' (first | refine stpS ?_ | (refine stp2 ?_ ?_ <;> intro _))
  refine RS.call1 rfl opds (get_ev b a _ _ _ S rfl (by omega)) none'W ?_
  unfold pIV
  repeat' (first | refine stpS ?_ | (refine stp2 ?_ ?_ <;> intro _))
  exact ⟨rfl, (ExtW.refl _ _ _).appSets (.inl rfl), cell, i_sets hi⟩
set_option maxHeartbeats 4000000 in
theorem rInt_rf (w : Nat) (a : Option Addr) (b : List UInt8) (n0 n : Nat) (h : AH) (R : RdR h n0 n w a b) :
    RF Tryz.prog (· = w) 91 #[.pointer (some ⟨w, 0, none⟩)] n h (fun r n' h' => r = .tuple #[.int .i64 (pI b).1, .int .i64 ((pI b).2.2 : Nat)] ∧ RdTo w a (b.drop (pI b).2.1) n0 n h n' h') := by
  refine RF.of Tryz.func91 rfl rfl (Nat.le_of_ble_eq_true rfl) ?_; dsimp only [argEnv]
  repeat' (first | refine stpS ?_ | (refine stp2 ?_ ?_ <;> intro _))
  have hhi := R.hi
  have R1 := R.ext (n1 := n + 1) (h1 := h.app (.new n ⟨1, 0, true, 0⟩ [.int .i64 0])) ext (by omega)
  have hab : a = none ∨ sb a ≠ n := by
    rcases R.bs.two with q | ⟨x, y, q⟩
    · exact .inl q.1
    · right; have := R.bs.ltA (by rw [q]; simp); omega
  refine RS.call rfl opds (take_rf 105 n w a b n0 (n + 1) _ R1 (by omega) hab (pI b).2.1 (pI b).2.2 (fun n' h' => h'.cell n 0 = .int .i64 (pI b).1 ∧ h'.info n = some ⟨1, 0, true, 0⟩) (fun q => (pI_ok (n := (pI b).1) (k := (pI b).2.1) (by rw [← q])).2.2.2.1)
    (takeInt_rf b a n (n + 1) _ R1.bs R1.le (by omega) info)) (fun x hx => hx.imp id fun q => by omega) ?_
  rintro r n1 h1 hle ⟨h2, rfl, ⟨hq1, hq2⟩, hE, he, hR⟩
  have hE2 : ExtW (· = w) n h h2 := ((ExtW.refl (· = w) n h).appNew (m := ⟨1, 0, true, 0⟩) (cs := [.int .i64 0]) (Nat.le_refl n)).then (hE.extM (Nat.le_succ n) (fun b hb => by omega)) (Nat.le_refl n)
  have hnw : n ≠ w := by omega
  have hn1 : n < n1 := by omega
  have hsub : sub a (pI b).2.1 = none ∨ sb (sub a (pI b).2.1) ≠ n := by
    rcases sub_sb a (pI b).2.1 with q | q
    · exact .inl q
    · right; rw [q.2]; exact hab.resolve_left q.1
  by_cases q : (pI b).2.2 = 0
  · rw [if_pos q] at he hR
    have hc1 : h1.cell n 0 = .int .i64 (pI b).1 := by rw [he]; exact c_out (.inl hnw) hq1
    have hi1 : h1.info n = some ⟨1, 0, true, 0⟩ := by rw [he]; exact i_sets hq2
    have hE3 : ExtW (· = w) n h h1 := by rw [he]; exact hE2.appSets (.inl rfl)
    repeat' (first | refine stpS ?_ | (refine stp2 ?_ ?_ <;> intro _))
    exact ⟨rfl, _, hR.extW (W := (· = n)) ((ExtW.refl _ _ _).appSets (.inl rfl)) (Nat.le_refl _) (fun q => hnw q.symm) (fun q1 q2 => hsub.elim q1 fun k => k q2), hE3.appSets (.inr (Nat.le_refl n)), sub_sb a _⟩
  · rw [if_neg q] at he hR
    have hk : (pI b).2.1 = 0 := ((pI_err b).resolve_left q).2.1
    have hc1 : h1.cell n 0 = .int .i64 (pI b).1 := by rw [he]; exact hq1
    have hi1 : h1.info n = some ⟨1, 0, true, 0⟩ := by rw [he]; exact hq2
    have hE3 : ExtW (· = w) n h h1 := by rw [he]; exact hE2
    rw [hk, List.drop_zero]
    repeat' (first | refine stpS ?_ | (refine stp2 ?_ ?_ <;> intro _))
    exact ⟨rfl, _, hR.extW (W := (· = n)) ((ExtW.refl _ _ _).appSets (.inl rfl)) (Nat.le_refl _) (fun q => hnw q.symm) (fun q1 q2 => hab.elim q1 fun k => k q2), hE3.appSets (.inr (Nat.le_refl n)), self_sb a⟩
end Go.Proofs.YtfbddbpbifnhfaaGreatDoor.Cd

/- Contracts taken from codec (written by port.py). -/
namespace Go.Proofs.YtfbddbpbifnhfaaGreatDoor.Cd
open Go.Abs
def RdBTo (x : PB) (w : Nat) (a : Option Addr) (b' : List UInt8) (n0 n : Nat) (h : AH) (r : Value) (n' : Nat) (h' : AH) : Prop :=
  ∃ c, r = .tuple #[.slice c x.1.length x.1.length, .int .i64 (x.2.2 : Nat)] ∧ RdTo w a b' n0 n h n' h' ∧ OwnSl h' n n' c 1 x.1.length (bytesV x.1)
theorem pB_le {b l : List UInt8} {k : Nat} (h : pB b = (l, k, 0)) : l.length ≤ b.length := by
  obtain ⟨h1, h2⟩ := pB_ok h
  have := congrArg List.length h2
  have h3 := formB_ge l
  rw [List.length_take] at this
  omega
set_option maxHeartbeats 4000000 in
theorem rBytes_rf (w : Nat) (a : Option Addr) (b : List UInt8) (n0 n : Nat) (h : AH) (R : RdR h n0 n w a b) :
    RF Tryz.prog (· = w) 92 #[.pointer (some ⟨w, 0, none⟩)] n h (RdBTo (pB b) w a (b.drop (pB b).2.1) n0 n h) := by
  refine RF.of Tryz.func92 rfl rfl (Nat.le_of_ble_eq_true rfl) ?_; dsimp only [argEnv]
  repeat' (first | refine stpS ?_ | (refine stp2 ?_ ?_ <;> intro _))
  have hhi := R.hi
  have R1 := R.ext (n1 := n + 1) (h1 := h.app (.new n ⟨1, 0, true, 0⟩ [.slice none 0 0])) ext (by omega)
  have hab : a = none ∨ sb a ≠ n := by
    rcases R.bs.two with q | ⟨x, y, q⟩
    · exact .inl q.1
    · right; have := R.bs.ltA (by rw [q]; simp); omega
  refine RS.call rfl opds (take_rf 107 n w a b n0 (n + 1) _ R1 (by omega) hab (pB b).2.1 (pB b).2.2 (fun n' h' => ∃ c, h'.info n = some ⟨1, 0, true, 0⟩ ∧ ((pB b).2.2 = 0 → h'.cell n 0 = .slice c (pB b).1.length (pB b).1.length ∧ OwnSl h' (n + 1) n' c 1 (pB b).1.length (bytesV (pB b).1)))
    (fun q => (pB_ok (l := (pB b).1) (k := (pB b).2.1) (by rw [← q])).1)
    ((takeBytes_rf b a b.length n (n + 1) _ R1.bs rfl R1.le (by omega) info cell hab).mono (fun r n' h' ⟨c, q1, q2, q3, q4⟩ => ⟨q1, q2, c, q3, q4⟩))) (fun x hx => hx.imp id fun q => by omega) ?_
  rintro r n1 h1 hle ⟨h2, rfl, ⟨c, hq2, hq1⟩, hE, he, hR⟩
  have hE2 : ExtW (· = w) n h h2 := ((ExtW.refl (· = w) n h).appNew (m := ⟨1, 0, true, 0⟩) (cs := [.slice none 0 0]) (Nat.le_refl n)).then (hE.extM (Nat.le_succ n) (fun b hb => by omega)) (Nat.le_refl n)
  have hnw : n ≠ w := by omega
  have hn1 : n < n1 := by omega
  have hsub : sub a (pB b).2.1 = none ∨ sb (sub a (pB b).2.1) ≠ n := by
    rcases sub_sb a (pB b).2.1 with q | q
    · exact .inl q
    · right; rw [q.2]; exact hab.resolve_left q.1
  by_cases q : (pB b).2.2 = 0
  · rw [if_pos q] at he hR
    obtain ⟨hq1, hO⟩ := hq1 q
    have hcw : c = none ∨ sb c ≠ w := hO.at'.imp_right fun k => by omega
    have hcn : c = none ∨ sb c ≠ n := hO.at'.imp_right fun k => by omega
    have hc1 : h1.cell n 0 = .slice c (pB b).1.length (pB b).1.length := by rw [he]; exact c_out (.inl hnw) hq1
    have hi1 : h1.info n = some ⟨1, 0, true, 0⟩ := by rw [he]; exact i_sets hq2
    have hE3 : ExtW (· = w) n h h1 := by rw [he]; exact hE2.appSets (.inl rfl)
    have hO1 : OwnSl h1 (n + 1) n1 c 1 (pB b).1.length (bytesV (pB b).1) := by rw [he]; exact hO.setsN hcw
    repeat' (first | refine stpS ?_ | (refine stp2 ?_ ?_ <;> intro _))
    exact ⟨c, rfl, ⟨_, hR.extW (W := (· = n)) ((ExtW.refl _ _ _).appSets (.inl rfl)) (Nat.le_refl _) (fun q => hnw q.symm) (fun q1 q2 => hsub.elim q1 fun k => k q2), hE3.appSets (.inr (Nat.le_refl n)), sub_sb a _⟩, (hO1.setsN hcn).mono (Nat.le_succ n)⟩
  · rw [if_neg q] at he hR
    obtain ⟨k1, k2, k3⟩ := (pB_err b).resolve_left q
    have hi1 : h1.info n = some ⟨1, 0, true, 0⟩ := by rw [he]; exact hq2
    have hE3 : ExtW (· = w) n h h1 := by rw [he]; exact hE2
    rw [k2, List.drop_zero]
    repeat' (first | refine stpS ?_ | (refine stp2 ?_ ?_ <;> intro _))
    exact ⟨none, by rw [k1]; rfl, ⟨_, hR.extW (W := (· = n)) ((ExtW.refl _ _ _).appSets (.inl rfl)) (Nat.le_refl _) (fun q => hnw q.symm) (fun q1 q2 => hab.elim q1 fun k => k q2), hE3.appSets (.inr (Nat.le_refl n)), self_sb a⟩, by rw [k1]; exact OwnSl.nil (by omega)⟩
end Go.Proofs.YtfbddbpbifnhfaaGreatDoor.Cd

/- Contracts taken from codec (written by port.py). -/
namespace Go.Proofs.YtfbddbpbifnhfaaGreatDoor.Cd
open Go.Abs
set_option maxHeartbeats 4000000 in
theorem hasPrefix_ev (t u : List UInt8) (a b : Option Addr) (m k n : Nat) (h : AH) (S : SlB h n a t) (S2 : SlB h n b u) (e : m = t.length) (e2 : k = u.length) :
    Ev Tryz.prog none' 75 #[.slice a m m, .slice b k k] n h (.bool (decide (u.length ≤ t.length ∧ t.take u.length = u))) n h := by
  subst e; subst e2
  refine RF.pure rfl fun n' hn => ?_
  have S := S.ext (Ext.refl n h) hn
  have S2 := S2.ext (Ext.refl n h) hn
  refine RF.of Tryz.func75 rfl rfl (Nat.le_of_ble_eq_true rfl) ?_; dsimp only [argEnv]
  by_cases hle : u.length ≤ t.length
  · have hSt := SlB.take S hle
    have htl : (t.take u.length).length = u.length := by rw [List.length_take]; omega
    have heq := equal_ev (t.take u.length) u a b u.length u.length n' h hSt S2 htl.symm rfl
    have e1 : decide (u.length ≤ t.length ∧ t.take u.length = u) = decide (t.take u.length = u) := by simp [hle]
    rw [e1]
    repeat' (first | refine stpS ?_ | (refine stp2 ?_ ?_ <;> intro _) | refine RS.call1 rfl opds (heq) none'W ?_)
    rfl
  · have e1 : decide (u.length ≤ t.length ∧ t.take u.length = u) = false := by simp [hle]
    rw [e1]
    repeat' (first | refine stpS ?_ | (refine stp2 ?_ ?_ <;> intro _))
    rfl
end Go.Proofs.YtfbddbpbifnhfaaGreatDoor.Cd

/- Contracts taken from codec (written by port.py). -/
namespace Go.Proofs.YtfbddbpbifnhfaaGreatDoor.Cd
open Go.Abs
theorem bytesV_set (u : List UInt8) (i : Nat) (c : UInt8) : (bytesV u).set i (.int .u8 c.toNat) = bytesV (u.set i c) := by
  simp [bytesV, List.map_set]
end Go.Proofs.YtfbddbpbifnhfaaGreatDoor.Cd

/- Contracts taken from codec (written by port.py). -/
namespace Go.Proofs.YtfbddbpbifnhfaaGreatDoor.Cd
open Go.Abs
structure RfR (h : AH) (n0 n w : Nat) (a : Option Addr) (b : List UInt8) : Prop where
  lo : n0 ≤ w
  hi : w < n
  inf : h.info w = some ⟨1, 0, true, 0⟩
  sl : h.cell w 0 = .slice a b.length b.length
  bs : SlB h n a b
  ne : a = none ∨ sb a ≠ w
  le : b.length ≤ 1073741824
theorem RfR.extW {W : Nat → Prop} {h h1 : AH} {n0 n n1 w : Nat} {a : Option Addr} {b : List UInt8} (R : RfR h n0 n w a b) (E : ExtW W n h h1) (hn : n ≤ n1) (hw : ¬ W w) (ha : a ≠ none → ¬ W (sb a)) : RfR h1 n0 n1 w a b :=
  ⟨R.lo, Nat.lt_of_lt_of_le R.hi hn, (E.info w R.hi hw).trans R.inf, (E.cell w 0 R.hi hw).trans R.sl, SlR.extW R.bs E hn ha, R.ne, R.le⟩
theorem RfR.ext {h h1 : AH} {n0 n n1 w : Nat} {a : Option Addr} {b : List UInt8} (R : RfR h n0 n w a b) (E : Ext n h h1) (hn : n ≤ n1) : RfR h1 n0 n1 w a b :=
  R.extW (W := none') (ExtW.of E (Nat.le_refl _)) hn (fun q => q) (fun _ q => q)
theorem pI_k (b : List UInt8) : (pI b).2.1 ≤ b.length := by
  rcases pI_err b with q | q
  · exact (pI_ok (b := b) (n := (pI b).1) (k := (pI b).2.1) (by rw [← q])).2.2.2.1
  · omega
theorem pB_k (b : List UInt8) : (pB b).2.1 ≤ b.length := by
  rcases pB_err b with q | q
  · exact (pB_ok (b := b) (l := (pB b).1) (k := (pB b).2.1) (by rw [← q])).1
  · omega
end Go.Proofs.YtfbddbpbifnhfaaGreatDoor.Cd

/- The plain law of marks. -/
namespace Go.Proofs.YtfbddbpbifnhfaaGreatDoor
open Go.Abs Cd

def little (c : Nat) : List UInt8 := [UInt8.ofNat c, UInt8.ofNat (c / 256), UInt8.ofNat (c / 65536), UInt8.ofNat (c / 16777216)]
def headB (g s m c : Int) : List UInt8 := form g ++ form s ++ form m ++ form c
def zeros (k : Nat) : List UInt8 := List.replicate k 0
def padB (g s m c : Int) : List UInt8 := headB g s m c ++ zeros (508 - (headB g s m c).length)
def markB (g s m c : Int) : List UInt8 := padB g s m c ++ little (crc (padB g s m c))
def may (n : Int) : Prop := 0 ≤ n ∧ n ≤ 1099511627776
instance (n : Int) : Decidable (may n) := inferInstanceAs (Decidable (_ ∧ _))
def i64 (n : Int) : Prop := -9223372036854775808 ≤ n ∧ n < 9223372036854775808
theorem headB_le {g s m c : Int} (hg : i64 g) (hs : i64 s) (hm : i64 m) (hc : i64 c) : (headB g s m c).length ≤ 36 := by
  have h1 := form_le g hg.1 hg.2
  have h2 := form_le s hs.1 hs.2
  have h3 := form_le m hm.1 hm.2
  have h4 := form_le c hc.1 hc.2
  unfold headB
  simp only [List.length_append]
  omega
theorem padB_length {g s m c : Int} (hg : i64 g) (hs : i64 s) (hm : i64 m) (hc : i64 c) : (padB g s m c).length = 508 := by
  have := headB_le hg hs hm hc
  unfold padB zeros
  rw [List.length_append, List.length_replicate]
  omega
theorem markB_length {g s m c : Int} (hg : i64 g) (hs : i64 s) (hm : i64 m) (hc : i64 c) : (markB g s m c).length = 512 := by
  unfold markB
  rw [List.length_append, padB_length hg hs hm hc]
  rfl
theorem may.i64 {n : Int} (h : may n) : i64 n := by unfold may at h; unfold Go.Proofs.YtfbddbpbifnhfaaGreatDoor.i64; omega
theorem crc_lt (l : List UInt8) : crc l < 4294967296 := by unfold crc; omega
end Go.Proofs.YtfbddbpbifnhfaaGreatDoor
