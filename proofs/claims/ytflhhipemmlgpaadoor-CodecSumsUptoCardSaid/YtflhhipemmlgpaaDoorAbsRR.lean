/- A row of bytes that is converted to its own type: behind its last cell it is marked. -/
import Derived.Test.YtflhhipemmlgpaaDoorAbsEq
import Derived.Lib.SlBytesConst
set_option linter.unusedSimpArgs false
set_option linter.unusedVariables false
namespace Go.Abs
open Go.RowKit

theorem KeepsObjs.freeze (w : World) (a : Addr) (k : Nat) : KeepsObjs w (w.freeze a k) := fun l o h hc => by
  unfold World.freeze
  split
  · exact h
  · simp only [Array.getElem?_modify]
    split
    · rw [h]
      cases o <;> first | rfl | exact absurd rfl (hc _ _ _)
    · exact h
theorem freeze_heap {w : World} {a : Addr} {k l : Nat} (h : l ≠ a.block) : (w.freeze a k).heap[l]? = w.heap[l]? := by
  unfold World.freeze
  split
  · rfl
  · simp only [Array.getElem?_modify]
    rw [if_neg (fun e => h e.symm)]
theorem freeze_cells {w : World} {a : Addr} {c : Array Value} {e : TypeId} {lo hi : Nat} (h : w.heap[a.block]? = some (.cells c e (lo, hi))) :
    (w.freeze a 1).heap[a.block]? = some (.cells c e (if lo == hi then (a.off, a.off + 1) else (min lo a.off, max hi (a.off + 1)))) := by
  unfold World.freeze
  rw [if_neg (by decide)]
  simp only [Array.getElem?_modify, if_true, h, Option.map_some]
theorem freeze_size (w : World) (a : Addr) (k : Nat) : (w.freeze a k).heap.size = w.heap.size := by
  unfold World.freeze
  split <;> simp
section
variable {P : Program} {T : Nat → Prop} {env : Env} {n : Nat} {g : AH} {dst : Option Tmp} {ty : TypeId} {pos : String} {after : Array Edge} {gd : Option (Nat × Bool)}
theorem op_convSame {t e : TypeId} {x : Operand} {b o m : Nat} {mm : Meta} (hu : P.underlying t = some (.slice e)) (he : P.underlying e = some (.int .u8)) (hx : ev env x = .slice (some ⟨b, o, none⟩) m m) (hm0 : 0 < m) (hm : g.info b = some mm) (hlk : mm.lock < mm.size) :
    OpEv P T ⟨dst, .convert t t x, ty, pos, after, gd⟩ env n g (.slice (some ⟨b, o, none⟩) m m) n .nil where
  le := Nat.le_refl _
  within := .nil _ _ _
  run := fun rq w0 ρ w H a next Q hl hf hsim hop K => by
    have h1 := hop x (by simp [Op.operands]); rw [hx] at h1
    have hM := hl.info b mm hm
    obtain ⟨L, hL, kz, k2, k3, k4⟩ := hsim.info b mm hM
    obtain ⟨q1, ⟨v, q2⟩, q3⟩ := k4 mm.lock ⟨Nat.le_refl _, by split <;> omega⟩
    have hr : ∀ w, (underlying t).run P w = .ok (.slice e) w := fun w => by simp [underlying, hu]
    have hre : ∀ w, (underlying e).run P w = .ok (.int .u8) w := fun w => by simp [underlying, he]
    generalize hcx : a.eval x = q at h1
    cases h1 with
    | slice0 A hL' => omega
    | @slice _ _ _ L' C hL' hmC hcc =>
      rw [hL] at hL'; cases hL'
      have hblk : ∃ c ty lo hi, w.heap[L.blk]? = some (.cells c ty (lo, hi)) := by
        unfold World.cell? at q2
        dsimp only at q2
        cases hq : w.heap[L.blk]? with
        | none => rw [hq] at q2; cases q2
        | some ob =>
          rw [hq] at q2
          cases ob with
          | cells c ty fz => exact ⟨c, ty, fz.1, fz.2, rfl⟩
          | _ => cases q2
      obtain ⟨c, ety, lo, hi, hblk⟩ := hblk
      have hsh : w.shape? L.blk = some (ety, c.size) := by unfold World.shape?; rw [hblk]
      have hcl := q3 c ety lo hi hblk
      have hnew := freeze_cells (w := w) (a := ⟨L.blk, c.size, none⟩) hblk
      have hcell : ∀ (l i : Nat), (w.freeze ⟨L.blk, c.size, none⟩ 1).cell? ⟨l, i, none⟩ = w.cell? ⟨l, i, none⟩ := fun l i => by
        unfold World.cell?
        dsimp only
        by_cases hq : l = L.blk
        · subst hq
          rw [hnew, hblk]
        · rw [freeze_heap (by simpa using hq)]
      have hex : (execOp a.eval ⟨dst, .convert t t x, ty, pos, after, gd⟩).run P w = .ok (.value (.slice (some ⟨L.blk, L.off + o, none⟩) m C)) (w.freeze ⟨L.blk, c.size, none⟩ 1) := by
        simp [execOp, hcx, convert, hr, hre, markStringish, hsh]
      refine wpA_value hex ?_
      refine K ρ _ _ (.refl _ _ _) (.slice C hL hmC hcc) ?_
      rw [AH.app_nil]
      refine hsim.move ⟨hsim.base.os, hsim.base.tape, hsim.base.output, by rw [freeze_size]; exact hsim.base.size, fun k hk => ?_⟩ (.freeze _ _ _) (fun b L i v _ h => by rw [hcell]; exact h) fun b L' i v hL' hc hz => ?_
      · rw [freeze_heap (by dsimp only; omega)]
        exact hsim.base.block k hk
      · by_cases hq : L'.blk = L.blk
        · rw [hq] at hz ⊢
          intro c' t' lo' hi' hh
          rw [hnew] at hh
          simp only [Option.some.injEq, Obj.cells.injEq] at hh
          obtain ⟨e1, e2, e3⟩ := hh
          subst e1
          have hz' := hz c ety lo hi hblk
          split at e3
          · cases e3; exact .inr (Nat.le_refl _)
          · rename_i hne
            have hne : lo ≠ hi := by simpa using hne
            cases e3; right; have := hz'.resolve_left hne; omega
        · exact hz.of (freeze_heap (by simpa using hq))
end
end Go.Abs

/- Rows of rows, all of one's own. -/
namespace Go.Abs
open Go.RowKit

/-- A row: where it lies, how many elements, their cells. -/
abbrev RowO := Option Addr × Nat × List Value
def RowO.v (e : RowO) : Value := .slice e.1 e.2.1 e.2.1
/-- Blocks of two slices are two. -/
def Apart (a b : Option Addr) : Prop := a = none ∨ b = none ∨ sb a ≠ sb b
theorem Apart.symm {a b : Option Addr} (h : Apart a b) : Apart b a := h.elim (fun q => .inr (.inl q)) fun q => q.elim .inl fun q => .inr (.inr (Ne.symm q))
theorem Apart.nil {a : Option Addr} : Apart a none := .inr (.inl rfl)
theorem Apart.of {a b : Option Addr} {n : Nat} (ha : a = none ∨ sb a < n) (hb : b = none ∨ n ≤ sb b) : Apart a b := by
  rcases ha with q | q
  · exact .inl q
  · rcases hb with w | w
    · exact .inr (.inl w)
    · exact .inr (.inr (by omega))
/-- The rows lie in blocks from m0 on, the row of them from n0 on. -/
structure OwnRR (h : AH) (n0 m0 n : Nat) (a : Option Addr) (z : Nat) (L : List RowO) : Prop where
  out : OwnSl h n0 n a 1 L.length (L.map RowO.v)
  inn : ∀ (i : Nat) (e : RowO), L[i]? = some e → OwnSl h m0 n e.1 z e.2.1 e.2.2
  sep : ∀ (i : Nat) (e : RowO), L[i]? = some e → Apart a e.1
  dis : ∀ (i j : Nat) (e f : RowO), L[i]? = some e → L[j]? = some f → i ≠ j → Apart e.1 f.1
theorem OwnRR.ext {h h1 : AH} {n0 m0 n n1 z : Nat} {a : Option Addr} {L : List RowO} (o : OwnRR h n0 m0 n a z L) (E : Ext n h h1) (hn : n ≤ n1) : OwnRR h1 n0 m0 n1 a z L :=
  ⟨o.out.ext E hn, fun i e q => (o.inn i e q).ext E hn, o.sep, o.dis⟩
theorem OwnRR.extX {h h1 : AH} {n0 m0 n n1 z : Nat} {a c : Option Addr} {L : List RowO} (o : OwnRR h n0 m0 n a z L) (E : ExtX n c h h1) (hn : n ≤ n1) (ha : Apart c a) (hi : ∀ (i : Nat) (e : RowO), L[i]? = some e → Apart c e.1) : OwnRR h1 n0 m0 n1 a z L :=
  ⟨o.out.extX E hn (ha.elim .inl fun q => q.elim (.inr ∘ .inl) fun q => .inr (.inr (Ne.symm q))), fun i e q => (o.inn i e q).extX E hn ((hi i e q).elim .inl fun q => q.elim (.inr ∘ .inl) fun q => .inr (.inr (Ne.symm q))), o.sep, o.dis⟩
theorem OwnRR.setsN {h : AH} {n0 m0 n z b o' : Nat} {vs : List Value} {a : Option Addr} {L : List RowO} (o : OwnRR h n0 m0 n a z L) (ha : a = none ∨ sb a ≠ b) (hi : b < m0) : OwnRR (h.app (.sets b o' vs)) n0 m0 n a z L :=
  ⟨o.out.setsN ha, fun i e q => (o.inn i e q).sets hi, o.sep, o.dis⟩
theorem OwnRR.nil {h : AH} {n0 m0 n z : Nat} (hn : n0 ≤ n) : OwnRR h n0 m0 n none z [] := ⟨OwnSl.nil hn, fun i e q => (by cases q), fun i e q => (by cases q), fun i j e f q => (by cases q)⟩
/-- One row has been turned, and its place in the row of rows. -/
theorem OwnRR.upd {h h1 : AH} {n0 m0 n n1 z j m : Nat} {a c : Option Addr} {cs : List Value} {L : List RowO} {e : RowO} (o : OwnRR h n0 m0 n a z L) (hj : L[j]? = some e) (E : ExtX n e.1 h h1) (hn : n ≤ n1) (o1 : OwnSl h1 m0 n1 c z m cs) (hc : c = e.1 ∨ n ≤ sb c) :
    OwnRR (h1.app (.sets (sb a) (so a + j) [.slice c m m])) n0 m0 n1 a z (L.set j (c, m, cs)) := by
  have hjl := (List.getElem?_eq_some_iff.1 hj).1
  have hkn : known [Value.slice c m m] = true := rfl
  have hsep := o.sep j e hj
  have hout1 : OwnSl h1 n0 n1 a 1 L.length (L.map RowO.v) := o.out.extX E hn (by rcases hsep with q | q | q; exact .inr (.inl q); exact .inl q; exact .inr (.inr q))
  obtain ⟨hso, hsl, hsu, -, hsA, -⟩ := o.out.facts (by omega)
  have hane : a ≠ none := by
    rcases hsA with q | q
    · omega
    · rw [q]; simp
  have hnew : ∀ f : RowO, (∃ i, L[i]? = some f ∧ i ≠ j) → Apart c f.1 := by
    rintro f ⟨i, hf, hne⟩
    rcases hc with q | q
    · rw [q]; exact o.dis j i e f hj hf (Ne.symm hne)
    · refine (Apart.of (n := n) ?_ (.inr q)).symm
      exact (o.inn i f hf).at'.imp id fun w => w.2
  have hacj : Apart a c := by
    rcases hc with q | q
    · rw [q]; exact hsep
    · exact Apart.of (n := n) (.inr hsu) (.inr q)
  have hget : ∀ (i : Nat) (f : RowO), (L.set j (c, m, cs))[i]? = some f → (i = j ∧ f = (c, m, cs)) ∨ (i ≠ j ∧ L[i]? = some f) := by
    intro i f hf
    by_cases e1 : i = j
    · subst e1
      rw [List.getElem?_set_self hjl] at hf
      exact .inl ⟨rfl, (Option.some.inj hf).symm⟩
    · rw [List.getElem?_set_ne (Ne.symm e1)] at hf
      exact .inr ⟨e1, hf⟩
  have hsetN : ∀ {k mm : Nat} {b : Option Addr} {vs : List Value}, Apart a b → OwnSl h1 m0 n1 b k mm vs → OwnSl (h1.app (.sets (sb a) (so a + j) [.slice c m m])) m0 n1 b k mm vs := by
    intro k mm b vs hap hob
    refine hob.setsN ?_
    rcases hap with q | q | q
    · exact absurd q hane
    · exact .inl q
    · exact .inr (Ne.symm q)
  refine ⟨?_, fun i f hf => ?_, fun i f hf => ?_, fun i k f g hf hg hne => ?_⟩
  · have := hout1.set1 (i := j) (v := .slice c m m) (by omega) hkn
    rw [List.length_set, List.map_set]; exact this
  · rcases hget i f hf with ⟨-, rfl⟩ | ⟨hne, hf⟩
    · exact hsetN hacj o1
    · refine hsetN (o.sep i f hf) ((o.inn i f hf).extX E hn ?_)
      rcases o.dis j i e f hj hf (Ne.symm hne) with q | q | q
      · exact .inl q
      · exact .inr (.inl q)
      · exact .inr (.inr (Ne.symm q))
  · rcases hget i f hf with ⟨-, rfl⟩ | ⟨hne, hf⟩
    · exact hacj
    · exact o.sep i f hf
  · rcases hget i f hf with ⟨e1, rfl⟩ | ⟨n1, hf⟩
    · rcases hget k g hg with ⟨e2, rfl⟩ | ⟨n2, hg⟩
      · omega
      · exact hnew g ⟨k, hg, n2⟩
    · rcases hget k g hg with ⟨e2, rfl⟩ | ⟨n2, hg⟩
      · exact (hnew f ⟨i, hf, n1⟩).symm
      · exact o.dis i k f g hf hg hne
/-- One more row. -/
theorem OwnRR.push {h h1 : AH} {n0 m0 n n1 z : Nat} {a c : Option Addr} {L : List RowO} {e : RowO} (o : OwnRR h n0 m0 n a z L) (oe : OwnSl h m0 n e.1 z e.2.1 e.2.2) (he : Apart a e.1) (hd : ∀ (i : Nat) (f : RowO), L[i]? = some f → Apart e.1 f.1)
    (E : ExtX n a h h1) (hn : n ≤ n1) (o1 : OwnSl h1 n0 n1 c 1 (L.length + 1) (L.map RowO.v ++ [e.v])) (hc : c = a ∨ n ≤ sb c) : OwnRR h1 n0 m0 n1 c z (L ++ [e]) := by
  have hap : ∀ {b : Option Addr}, Apart a b → (b = none ∨ sb b < n) → Apart c b := by
    intro b h1 h2
    rcases hc with q | q
    · rw [q]; exact h1
    · exact (Apart.of h2 (.inr q)).symm
  have hlt : ∀ {k mm : Nat} {b : Option Addr} {vs : List Value}, OwnSl h m0 n b k mm vs → b = none ∨ sb b < n := fun o => o.at'.imp id fun q => q.2
  have hget : ∀ (i : Nat) (f : RowO), (L ++ [e])[i]? = some f → (L[i]? = some f ∧ i < L.length) ∨ (i = L.length ∧ f = e) := by
    intro i f hf
    by_cases e1 : i < L.length
    · rw [List.getElem?_append_left e1] at hf; exact .inl ⟨hf, e1⟩
    · rw [List.getElem?_append_right (by omega)] at hf
      have : i - L.length = 0 := by
        have := (List.getElem?_eq_some_iff.1 hf).1
        simp at this; omega
      rw [this] at hf
      exact .inr ⟨by omega, (Option.some.inj hf).symm⟩
  have hX : ∀ {b : Option Addr} {vs : List Value} {k mm : Nat}, Apart a b → OwnSl h m0 n b k mm vs → OwnSl h1 m0 n1 b k mm vs := fun hab ob => ob.extX E hn (hab.elim .inl fun q => q.elim (.inr ∘ .inl) fun q => .inr (.inr (Ne.symm q)))
  refine ⟨?_, fun i f hf => ?_, fun i f hf => ?_, fun i k f g hf hg hne => ?_⟩
  · rw [List.length_append, List.map_append]; exact o1
  · rcases hget i f hf with ⟨hf, -⟩ | ⟨-, rfl⟩
    · exact hX (o.sep i f hf) (o.inn i f hf)
    · exact hX he oe
  · rcases hget i f hf with ⟨hf, -⟩ | ⟨-, rfl⟩
    · exact hap (o.sep i f hf) (hlt (o.inn i f hf))
    · exact hap he (hlt oe)
  · rcases hget i f hf with ⟨q1, hi⟩ | ⟨hi, q1⟩
    · rcases hget k g hg with ⟨q2, hk⟩ | ⟨hk, q2⟩
      · exact o.dis i k f g q1 q2 hne
      · rw [q2]; exact (hd i f q1).symm
    · rcases hget k g hg with ⟨q2, hk⟩ | ⟨hk, q2⟩
      · rw [q1]; exact hd k g q2
      · omega
theorem OwnRR.at_ {h : AH} {n0 m0 n z j : Nat} {a : Option Addr} {L : List RowO} {e : RowO} (o : OwnRR h n0 m0 n a z L) (hj : L[j]? = some e) : SlA a L.length ∧ sb a < n ∧ n0 ≤ sb a ∧ h.cell (sb a) (so a + j) = .slice e.1 e.2.1 e.2.1 := by
  have hjl := (List.getElem?_eq_some_iff.1 hj).1
  obtain ⟨hso, hsl, hsu, -, hsA, hc⟩ := o.out.facts (by omega)
  refine ⟨hsA, hsu, hsl, (hc j (by omega)).trans ?_⟩
  simp [List.getD, hj, RowO.v]
theorem OwnRR.mono {h : AH} {n0 m0 n z n0' m0' : Nat} {a : Option Addr} {L : List RowO} (o : OwnRR h n0 m0 n a z L) (h1 : n0' ≤ n0) (h2 : m0' ≤ m0) : OwnRR h n0' m0' n a z L :=
  ⟨o.out.mono h1, fun i e q => (o.inn i e q).mono h2, o.sep, o.dis⟩
/-- The blocks of an address. -/
def inA (a : Option Addr) (b : Nat) : Prop := a ≠ none ∧ b = sb a
section
variable {P : Program} {T : Nat → Prop} {ops : Array Oper} {os : List Oper} {env : Env} {n : Nat} {h : AH} {Q : Env → Nat → AH → Prop} {ty : TypeId} {pos : String} {after : Array Edge} {gd : Option (Nat × Bool)}
theorem RD.appendT {q : Tmp} {t t2 e : TypeId} {d d2 : TypeDesc} {z by_ : Nat} {zv : Value} {x y : Operand} {a : Option Addr} {n0 m k : Nat} {v : Value} {xs cs : List Value} {ps : List Ft} [hu : Uc P t (.slice e)] [hz : Tc P e d z by_ zv] [hu2 : Uc P t2 d2] (nb : Nat)
    (hw : wants ops ⟨some q, .call { callee := .builtin .append, args := #[x, y], argTypes := #[t, t2] }, ty, pos, after, gd⟩ env = some true) (hx : Opd env x (.slice a m m)) (hy : Opd env y v) (hO : OwnSl h n0 nb a z m cs) (hs : Src (h.below nb) z v k xs) (hf : full v k)
    (hT : a ≠ none → T (sb a)) (hbig : (m + k) * by_ ≤ 140737488355328) (hnb : nb ≤ n) (hc : CF ops ps.length (· < nb) (inA a) ps.length ps)
    (K : ∀ a' n1 h1, n ≤ n1 → OwnSl h1 n0 n1 a' z (m + k) (cs ++ xs) → ExtX n a h h1 → (a' = a ∨ n ≤ sb a') → RD P T ops (⟨(· < nb), inA a, n, n1⟩ :: ps) os ((q, .slice a' (m + k) (m + k)) :: env) n1 h1 Q)
    (c1 : Nat.beq z 0 = false := by rfl) (c2 : zv.cells.size = z := by rfl) (c3 : Nat.beq by_ 0 = false := by rfl) (c4 : notIntD d2 = true := by rfl) :
    RD P T ops ps (⟨some q, .call { callee := .builtin .append, args := #[x, y], argTypes := #[t, t2] }, ty, pos, after, gd⟩ :: os) env n h Q := by
  have hz0 : z ≠ 0 := fun h => by subst h; simp at c1
  have hb0 : by_ ≠ 0 := fun h => by subst h; simp at c3
  have he : EL P t t2 z by_ := ⟨e, d, zv, d2, hu.out, hz.out, hz0, c2, hb0, hu2.out, c4⟩
  have hlx := hs.length
  have hkx := hs.known
  have hle0 := hO.le
  have happ : ∀ (l m : List Value), known l = true → known m = true → known (l ++ m) = true := by
    intro l m hl hm
    induction l with
    | nil => exact hm
    | cons v l ih => cases v <;> simp_all [known]
  by_cases hk0 : k = 0
  · subst hk0
    have : xs = [] := List.eq_nil_of_length_eq_zero (by simpa using hlx)
    subst this
    refine RD.op (· < nb) (inA a) hw (o_append0 he hx hy hs hf) (AH.below_le _ _) (fun _ hx => AH.below_looks hx) (fun _ hb => Nat.lt_of_lt_of_le hb hnb) (fun b hb => (Dl.touches_nil hb).elim) hc (h1 := h) (by rw [AH.app_nil]; exact .refl _) ?_
    exact K a n h (Nat.le_refl _) (by simpa using hO.ext (Ext.refl _ _) hnb) (fun _ _ _ => ⟨rfl, fun _ => rfl⟩) (.inl rfl)
  · rcases hO.or with ⟨k1, k2⟩ | ⟨k1, k2, k3, k4, k5⟩
    · subst k1; subst k2
      have : cs = [] := List.eq_nil_of_length_eq_zero (by have := hO.len; omega)
      subst this
      simp only [Nat.zero_add, List.nil_append] at K hbig
      refine RD.op (· < nb) (inA none) hw (o_appendNil he hx hy hs hf hk0 hbig) (AH.below_le _ _) (fun _ hx => AH.below_looks hx) (fun _ hb => Nat.lt_of_lt_of_le hb hnb) (fun b hb => ?_) hc (.refl _) (K _ _ _ (Nat.le_succ _) ?_ ?_ (.inr (Nat.le_refl _)))
      · rcases hb with h1 | ⟨i, h1⟩ <;> (simp only [Dl.new] at h1; split at h1) <;> first | omega | exact absurd rfl h1
      · rw [hlx]; exact .new (by omega) hlx hkx
      · exact fun x hx _ => ⟨by simp [AH.app, Dl.new, show x ≠ n by omega], fun i => by simp [AH.app, Dl.new, show x ≠ n by omega]⟩
    · have hx' := hx
      rw [k1] at hx'
      have k4' : (h.below nb).info (sb a) = some ⟨m * z, 0, true, z⟩ := i_below k3 k4
      have k5' : rd (h.below nb) (sb a) 0 (m * z) = cs := r_below k3 k5
      refine RD.op (· < nb) (inA a) hw (o_append false he hx' hy hs hf k4' k5' hO.kn (.inl (hT (by rw [k1]; simp))) (by omega) hk0 hbig) (AH.below_le _ _) (fun _ hx => AH.below_looks hx) (fun _ hb => Nat.lt_of_lt_of_le hb hnb) (fun b hb => ?_) hc (.refl _) (K _ _ _ (Nat.le_succ _) ?_ ?_ (.inr (Nat.le_refl _)))
      · by_cases e1 : b = sb a
        · exact .inl ⟨by rw [k1]; simp, e1⟩
        · by_cases e2 : b = n
          · exact .inr (by omega)
          · exfalso
            rcases hb with h1 | ⟨i, h1⟩
            · simp [Dl.takeover, e1, e2] at h1
            · simp [Dl.takeover, e1, e2] at h1
      · have hl2 : (cs ++ xs).length = (m + k) * z := by rw [List.length_append, hO.len, hlx, Nat.add_mul]
        refine ⟨by omega, hl2, happ _ _ hO.kn hkx, .inr ⟨rfl, by show n0 ≤ n; omega, by show n < n + 1; omega, ?_, ?_⟩⟩
        · have := i_take (h := h) (b := sb a) (n := n) (sz := m * z) (lk := 0) (ez := z) (keep := false) (cs := cs ++ xs)
          rw [hl2] at this; exact this
        · exact r_take hl2.symm
      · intro x hx hne
        have hne' : x ≠ sb a := by
          rcases hne with h | h
          · rw [h] at k1; cases k1
          · exact h
        exact ⟨by simp [AH.app, Dl.takeover, show x ≠ n by omega, hne'], fun i => by simp [AH.app, Dl.takeover, show x ≠ n by omega, hne']⟩
end
theorem known_cons (v : Value) (l : List Value) : known (v :: l) = true ↔ known [v] = true ∧ known l = true := by
  cases v <;> simp [known]
theorem known_all : ∀ l : List Value, known l = true ↔ ∀ v ∈ l, known [v] = true
  | [] => by simp [known]
  | v :: l => by rw [known_cons, known_all l]; simp
theorem known_zrow {z : List Value} {m : Nat} (h : known z = true) : known (zrow z m) = true := by
  rw [known_all] at h ⊢
  intro v hv
  simp only [zrow, List.mem_map, List.mem_range] at hv
  obtain ⟨i, hi, rfl⟩ := hv
  have hz : 0 < z.length := by
    rcases Nat.eq_zero_or_pos z.length with q | q
    · rw [q] at hi; simp at hi
    · exact q
  have hl := Nat.mod_lt i hz
  refine h _ ?_
  simp only [List.getD, List.getElem?_eq_getElem hl, Option.getD_some]
  exact List.getElem_mem _
theorem splice_all {α : Type} (cs vs : List α) (h : vs.length = cs.length) : splice cs 0 vs = vs := by
  simp [splice, h]
section
variable {P : Program} {T : Nat → Prop} {N : Nat} {ops : Array Oper} {os : List Oper} {env : Env} {n : Nat} {g h : AH} {ps : List Ft}
/-- The heap by a short name. -/
theorem RS.heap {Q : Env → Nat → AH → Prop} (e : g = h) (k : RS P T ops os env n g Q) : RS P T ops os env n h Q := e ▸ k
theorem RD.heap {Q : Env → Nat → AH → Prop} (e : g = h) (k : RD P T ops ps os env n g Q) : RD P T ops ps os env n h Q := e ▸ k
theorem RC.heap {c : Code} {Q : Exit → Env → Nat → AH → Prop} (e : g = h) (k : RC P T N c env n g Q) : RC P T N c env n h Q := e ▸ k
end
theorem flatMap_getD {α : Type} {C : α → List Value} {z : Nat} (hC : ∀ x, (C x).length = z) : ∀ (l : List α) (i r : Nat) (x : α), l[i]? = some x → r < z → (l.flatMap C).getD (i * z + r) (.tuple #[]) = (C x).getD r (.tuple #[])
  | [], i, r, x, h, _ => by simp at h
  | y :: l, 0, r, x, h, hr => by
    simp only [List.getElem?_cons_zero, Option.some.injEq] at h
    subst h
    simp only [List.flatMap_cons, List.getD, Nat.zero_mul, Nat.zero_add]
    rw [List.getElem?_append_left (by rw [hC]; exact hr)]
  | y :: l, i + 1, r, x, h, hr => by
    have := flatMap_getD hC l i r x (by simpa using h) hr
    simp only [List.flatMap_cons, List.getD] at this ⊢
    rw [List.getElem?_append_right (by rw [hC, Nat.add_mul]; omega), hC, show (i + 1) * z + r - z = i * z + r by rw [Nat.add_mul]; omega]
    exact this
/-- A slice whose elements' cells are told one by one. -/
theorem SlR.of_el {α : Type} {C : α → List Value} {h : AH} {n z : Nat} {a : Option Addr} {l : List α} {f : Nat → Value} (S : SlR h n a z l.length f) (hC : ∀ x, (C x).length = z) (hx : ∀ (i : Nat) (x : α), l[i]? = some x → elC h a z i = C x) :
    SlR h n a z l.length (fun j => (l.flatMap C).getD j (.tuple #[])) := by
  refine ⟨S.shape, fun j hj => ?_⟩
  have hz : 0 < z := by
    rcases Nat.eq_zero_or_pos z with q | q
    · subst q; omega
    · exact q
  have hi : j / z < l.length := Nat.div_lt_of_lt_mul (by rw [Nat.mul_comm]; exact hj)
  have hr : j % z < z := Nat.mod_lt j hz
  have hq : l[j / z]? = some l[j / z] := List.getElem?_eq_getElem hi
  have he : j = j / z * z + j % z := by rw [Nat.mul_comm]; exact (Nat.div_add_mod j z).symm
  have h1 := hx _ _ hq
  have h2 := flatMap_getD hC l _ (j % z) _ hq hr
  show h.cell (sb a) (so a + j) = (l.flatMap C).getD j (.tuple #[])
  rw [show (l.flatMap C).getD j (.tuple #[]) = (C l[j / z]).getD (j % z) (.tuple #[]) by rw [← h2, ← he], ← h1]
  simp only [elC, List.getD, List.getElem?_map, List.getElem?_range hr, Option.map_some, Option.getD_some]
  rw [← he]
section
variable {P : Program} {T : Nat → Prop} {env : Env} {n : Nat} {g : AH} {dst : Option Tmp} {ty : TypeId} {pos : String} {after : Array Edge} {gd : Option (Nat × Bool)}
/-- x[l:u:u], with elements. -/
theorem op_slice3l {t e : TypeId} {x w0 y q : Operand} {b o m l u : Nat} {mm : Meta} {k0 k1 k2 : IntKind} {d : TypeDesc} {z by_ : Nat} {zv : Value} (hu : P.underlying t = some (.slice e)) (hz : TI P e d z by_ zv) (hx : ev env x = .slice (some ⟨b, o, none⟩) m m)
    (hlo : ev env w0 = .int k0 (l : Nat)) (hhi : ev env y = .int k1 (u : Nat)) (hmx : ev env q = .int k2 (u : Nat)) (hlu : l < u) (hum : u ≤ m) (hm : g.info b = some mm) (hsz : mm.sz = 0 ∨ mm.sz = z) :
    OpEv P T ⟨dst, .slice t x (some w0) (some y) (some q), ty, pos, after, gd⟩ env n g (.slice (some ⟨b, o + l * z, none⟩) (u - l) (u - l)) n .nil :=
  .look fun w0' ρ w H ce hl hs hop => by
    have h1 := hop x (by simp [Op.operands]); rw [hx] at h1
    have h0 := hop w0 (by simp [Op.operands]); rw [hlo] at h0
    have h2 := hop y (by simp [Op.operands]); rw [hhi] at h2
    have h3 := hop q (by simp [Op.operands]); rw [hmx] at h3
    have hr : (underlying t).run P w = .ok (.slice e) w := by simp [underlying, hu]
    have hne : ¬ u = l := by omega
    have key : ∀ (a : Addr) (c : Nat), m ≤ c → (Instr.sliceAt t (.slice (some a) m c) (some (ce w0)) (some (ce y)) (some (ce q))).run P w = .ok (.slice (some (a.add (l * z))) (u - l) (u - l)) w := by
      intro a c hmc
      have hlu' : l ≤ u := by omega
      have huc : u ≤ c := by omega
      have hb : (Instr.sliceBounds true m c (some (ce w0)) (some (ce y)) (some (ce q))).run P w = .ok (l, u, u) w := by
        simp [Instr.sliceBounds, Instr.sliceBound, h0.int_inv, h2.int_inv, h3.int_inv, asIntOf, hlu', huc]
      simp only [Instr.sliceAt, Instr.slice, Sem.run_bind, hr, Result.andThen_ok, hb, hz.run_sizeOf, Sem.run_pure, Option.map_some]
      simp [hne]
    generalize hc : ce x = c at h1
    cases h1 with
    | @slice _ _ _ L c' hL hn hcc =>
      refine ⟨.slice (some ((⟨L.blk, L.off + o, none⟩ : Addr).add (l * z))) (u - l) (u - l), ?_, ?_⟩
      · simp only [execOp, hc, Option.map_some, Sem.run_bind, key _ _ hn, Result.andThen_ok, Sem.run_pure]
      · rw [addr_add, Nat.add_assoc]
        refine .slice _ hL (Nat.le_refl _) fun hz0 => ?_
        obtain ⟨L', k1, k2, _⟩ := hs.info b mm (hl.info b mm hm)
        rw [hL] at k1; cases k1
        have h5 := hcc hz0
        have hsz' : L.sz = z := by
          rcases hsz with q | q
          · rw [k2, q] at hz0; exact absurd rfl hz0
          · rw [k2]; exact q
        rw [hsz'] at h5 ⊢
        have e1 : o + l * z + (u - l) * z = o + u * z := by
          rw [Nat.add_assoc, ← Nat.add_mul]; congr 2; omega
        have e2 : u * z ≤ c' * z := Nat.mul_le_mul_right _ (by omega)
        omega
    | @slice0 _ _ L a hL => omega
theorem RS.slice3 {ops : Array Oper} {os : List Oper} {Q : Env → Nat → AH → Prop} {r : Tmp} {t e : TypeId} {x w0 y q : Operand} {a : Option Addr} {m l u z by_ n0 : Nat} {k0 k1 k2 : IntKind} {d : TypeDesc} {zv : Value} [hu : Uc P t (.slice e)] [hz : Tc P e d z by_ zv]
    (hw : wants ops ⟨some r, .slice t x (some w0) (some y) (some q), ty, pos, after, gd⟩ env = some true) (hx : Opd env x (.slice a m m)) (hlo : Opd env w0 (.int k0 (l : Nat))) (hhi : Opd env y (.int k1 (u : Nat))) (hmx : Opd env q (.int k2 (u : Nat))) (S : Shp g n0 a z m) (hlu : l < u) (hum : u ≤ m)
    (K : RS P T ops os ((r, .slice (sub a (l * z)) (u - l) (u - l)) :: env) n g Q) : RS P T ops (⟨some r, .slice t x (some w0) (some y) (some q), ty, pos, after, gd⟩ :: os) env n g Q := by
  obtain ⟨hra, -, mm, hmm, hsz⟩ := S.out.resolve_left (fun q => by omega)
  have hx' := hx
  rw [hra] at hx'
  have := op_slice3l (P := P) (T := T) (n := n) (g := g) (dst := some r) (ty := ty) (pos := pos) (after := after) (gd := gd) hu.out hz.out hx'.ev hlo.ev hhi.ev hmx.ev hlu hum hmm (.inr hsz)
  refine RS.mem hw rfl this ?_
  rw [AH.app_nil]
  have e1 : sub a (l * z) = some ⟨sb a, so a + l * z, none⟩ := by rw [hra]; rfl
  rw [← e1]; exact K
end
end Go.Abs
