/- Operations over the abstract heap: those that read, write or make memory. -/
import Derived.Test.YtchfnjfmlhacfaaAbsOps
import Derived.Laws.Append
import Derived.Laws.BytesString
namespace Go.Abs
open Go.RowKit

section
variable {P : Program} {T : Nat → Prop} {env : Env} {n : Nat} {g : AH}

/-- An operation that looks at memory. -/
theorem OpEv.look {o : Oper} {v : Value}
    (h : ∀ w0 ρ w H (ce : Operand → Value), g.le H → Sim w0 ρ H w → (∀ x, x ∈ o.op.operands → VRel ρ (ev env x) (ce x)) → ∃ c, (execOp ce o).run P w = .ok (.value c) w ∧ VRel ρ v c) : OpEv P T o env n g v n .nil :=
  ⟨Nat.le_refl _, .nil _ _ _, fun _ w0 ρ w H a next Q hl _ hs hr K => by
    obtain ⟨c, h1, h2⟩ := h w0 ρ w H a.eval hl hs hr
    refine wpA_value h1 ?_
    exact K ρ c w (.refl _ _ _) h2 hs⟩

variable {dst : Option Tmp} {ty : TypeId} {pos : String} {after : Array Edge} {gd : Option (Nat × Bool)}

/-- A slice's bound. -/
def bound (env : Env) (x : Option Operand) (dflt v : Int) : Prop :=
  match x with
  | none => v = dflt
  | some y => ∃ k, ev env y = .int k v

theorem op_slice {t e : TypeId} {x : Operand} {lo hi : Option Operand} {b o m : Nat} {l h : Nat} {mm : Meta} {d : TypeDesc} {z by_ : Nat} {zv : Value} (hu : P.underlying t = some (.slice e))
    (hz : TI P e d z by_ zv) (hx : ev env x = .slice (some ⟨b, o, none⟩) m m) (hlo : bound env lo 0 l) (hhi : bound env hi m h) (hlh : l ≤ h) (hhm : h ≤ m)
    (hm : g.info b = some mm) (hsz : mm.sz = 0 ∨ mm.sz = z) :
    OpEv P T ⟨dst, .slice t x lo hi none, ty, pos, after, gd⟩ env n g (.slice (some ⟨b, o + l * z, none⟩) (h - l) (h - l)) n .nil :=
  .look fun w0 ρ w H ce hl hs hop => by
    have h1 := hop x (by simp [Op.operands]); rw [hx] at h1
    have hr : (underlying t).run P w = .ok (.slice e) w := by simp [underlying, hu]
    have hlo' : ∀ y, lo = some y → ∃ k, ce y = .int k l := fun y hy => by
      subst hy; obtain ⟨k, hk⟩ := hlo
      have := hop y (by simp [Op.operands]); rw [hk] at this
      exact ⟨k, this.int_inv⟩
    have hhi' : ∀ y, hi = some y → ∃ k, ce y = .int k h := fun y hy => by
      subst hy; obtain ⟨k, hk⟩ := hhi
      have := hop y (by simp [Op.operands]); rw [hk] at this
      exact ⟨k, this.int_inv⟩
    have hh0 : hi = none → h = m := fun e => by subst e; simp only [bound] at hhi; omega
    have hl0 : lo = none → l = 0 := fun e => by subst e; simp only [bound] at hlo; omega
    have key : ∀ (a : Addr) (c : Nat), m ≤ c → (Instr.sliceAt t (.slice (some a) m c) (lo.map ce) (hi.map ce) none).run P w = .ok (.slice (if c = l then some a else some (a.add (l * z))) (h - l) (c - l)) w := by
      intro a c hmc
      have hb : (Instr.sliceBounds true m c (lo.map ce) (hi.map ce) none).run P w = .ok (l, h, c) w := by
        cases lo with
        | none =>
          have := hl0 rfl; subst this
          cases hi with
          | none => have := hh0 rfl; subst this; simp [Instr.sliceBounds]
          | some y =>
            obtain ⟨k, hk⟩ := hhi' y rfl
            have : h ≤ c := by omega
            simp [Instr.sliceBounds, Instr.sliceBound, hk, asIntOf, this]
        | some q =>
          obtain ⟨k1, hk1⟩ := hlo' q rfl
          cases hi with
          | none =>
            have := hh0 rfl; subst this
            have : l ≤ h := by omega
            simp [Instr.sliceBounds, Instr.sliceBound, hk1, asIntOf, this]
          | some y =>
            obtain ⟨k, hk⟩ := hhi' y rfl
            have e1 : h ≤ c := by omega
            have e2 : l ≤ h := by omega
            simp [Instr.sliceBounds, Instr.sliceBound, hk, hk1, asIntOf, e1, e2]
      simp only [Instr.sliceAt, Instr.slice, Sem.run_bind, hr, Result.andThen_ok, hb, hz.run_sizeOf, Sem.run_pure, Option.map_some]
    generalize hc : ce x = c at h1
    cases h1 with
    | @slice _ _ _ L c' hL hn hcc =>
      refine ⟨.slice (if c' = l then some ⟨L.blk, L.off + o, none⟩ else some ((⟨L.blk, L.off + o, none⟩ : Addr).add (l * z))) (h - l) (c' - l), ?_, ?_⟩
      · simp only [execOp, hc, Option.map_none, Sem.run_bind, key _ _ hn, Result.andThen_ok, Sem.run_pure]
      · by_cases hcl : c' = l
        · rw [if_pos hcl]
          have : h - l = 0 := by omega
          rw [this, show c' - l = 0 by omega]
          exact .slice0 _ hL
        · rw [if_neg hcl, addr_add, Nat.add_assoc]
          refine .slice _ hL (by omega) fun h0 => ?_
          obtain ⟨L', k1, k2, _⟩ := hs.info b mm (hl.info b mm hm)
          rw [hL] at k1; cases k1
          have h5 := hcc h0
          have : L.sz = z := by rcases hsz with h6 | h6 <;> omega
          rw [this] at h5 ⊢
          have h7 : l ≤ c' := by omega
          have : l * z + (c' - l) * z = c' * z := by rw [← Nat.add_mul]; congr 1; omega
          omega
    | @slice0 _ _ L a hL =>
      have e1 : l = 0 := by omega
      have e2 : h = 0 := by omega
      subst e1; subst e2
      refine ⟨.slice (some a) 0 0, ?_, ?_⟩
      · simp only [execOp, hc, Option.map_none, Sem.run_bind, key _ _ (Nat.le_refl _), Result.andThen_ok, Sem.run_pure]
        simp
      · simp; exact .slice0 _ hL

theorem op_sliceNil {t e : TypeId} {x : Operand} {lo hi : Option Operand} {d : TypeDesc} {z by_ : Nat} {zv : Value} (hu : P.underlying t = some (.slice e))
    (hz : TI P e d z by_ zv) (hx : ev env x = .slice none 0 0) (hlo : bound env lo 0 0) (hhi : bound env hi 0 0) :
    OpEv P T ⟨dst, .slice t x lo hi none, ty, pos, after, gd⟩ env n g (.slice none 0 0) n .nil :=
  .look fun w0 ρ w H ce hl hs hop => by
    have h1 := hop x (by simp [Op.operands]); rw [hx] at h1
    have hr : (underlying t).run P w = .ok (.slice e) w := by simp [underlying, hu]
    generalize hc : ce x = c at h1
    cases h1
    refine ⟨_, ?_, .nilSlice⟩
    have hb : (Instr.sliceBounds true 0 0 (lo.map ce) (hi.map ce) none).run P w = .ok (0, 0, 0) w := by
      have hlo' : ∀ y, lo = some y → ∃ k, ce y = .int k 0 := fun y hy => by
        subst hy; obtain ⟨k, hk⟩ := hlo
        have := hop y (by simp [Op.operands]); rw [hk] at this
        exact ⟨k, this.int_inv⟩
      have hhi' : ∀ y, hi = some y → ∃ k, ce y = .int k 0 := fun y hy => by
        subst hy; obtain ⟨k, hk⟩ := hhi
        have := hop y (by simp [Op.operands]); rw [hk] at this
        exact ⟨k, this.int_inv⟩
      cases lo with
      | none =>
        cases hi with
        | none => simp [Instr.sliceBounds]
        | some y => obtain ⟨k, hk⟩ := hhi' y rfl; simp [Instr.sliceBounds, Instr.sliceBound, hk, asIntOf]
      | some q =>
        obtain ⟨k1, hk1⟩ := hlo' q rfl
        cases hi with
        | none => simp [Instr.sliceBounds, Instr.sliceBound, hk1, asIntOf]
        | some y => obtain ⟨k, hk⟩ := hhi' y rfl; simp [Instr.sliceBounds, Instr.sliceBound, hk, hk1, asIntOf]
    simp only [execOp, hc, Option.map_none, Instr.sliceAt, Instr.slice, Sem.run_bind, hr, Result.andThen_ok, hb, hz.run_sizeOf, Sem.run_pure, if_true, Nat.sub_self]

/-- A variable is read. -/
theorem op_load {t : TypeId} {x : Operand} {b o : Nat} {d : TypeDesc} {z by_ : Nat} {zv : Value} {v : Value} (hz : TI P t d z by_ zv) (hx : ev env x = .pointer (some ⟨b, o, none⟩)) (ha : isAggD d = false)
    (hv : g.cell b o = v) (hk : v ≠ .tuple #[]) : OpEv P T ⟨dst, .load t x, ty, pos, after, gd⟩ env n g v n .nil :=
  .look fun w0 ρ w H ce hl hs hop => by
    have h1 := hop x (by simp [Op.operands]); rw [hx] at h1
    obtain ⟨L, hL, hc⟩ := h1.ptr_inv
    have h2 : H.cell b o = g.cell b o := (hl.cell b o).resolve_left (by rw [hv]; exact hk)
    obtain ⟨L', c, k1, k2, k3⟩ := hs.cell b o (by rw [h2, hv]; exact hk)
    rw [hL] at k1; cases k1
    rw [h2, hv] at k3
    refine ⟨c, ?_, k3⟩
    simp [execOp, Instr.loadAt, hc, Instr.sureAddr, loadVar, hz.run_isAgg, ha, k2]
theorem op_loadAgg {t : TypeId} {x : Operand} {b o : Nat} {d : TypeDesc} {z by_ : Nat} {zv : Value} (hz : TI P t d z by_ zv) (hx : ev env x = .pointer (some ⟨b, o, none⟩)) (ha : isAggD d = true)
    (hk : known (rd g b o z) = true) (hL0 : z ≠ 0) : OpEv P T ⟨dst, .load t x, ty, pos, after, gd⟩ env n g (.agg (rd g b o z).toArray) n .nil :=
  .look fun w0 ρ w H ce hl hs hop => by
    have h1 := hop x (by simp [Op.operands]); rw [hx] at h1
    obtain ⟨L, hL, hc⟩ := h1.ptr_inv
    obtain ⟨cs, k1, k2, k3⟩ := hs.rd (P := P) hl hL hk
    refine ⟨.agg cs.toArray, ?_, .agg (by simp [rd_length, k1]) fun i => ?_⟩
    · simp [execOp, Instr.loadAt, hc, Instr.sureAddr, loadVar, hz.run_isAgg, ha, hz.run_sizeOf, k3]
    · by_cases hi : i < z
      · have := (k2 i hi).2
        simpa [Array.getD_eq_getD_getElem?, List.getD] using this
      · have : (rd g b o z).toArray.getD i (.tuple #[]) = .tuple #[] := by
          simp [Array.getD, rd_length]; omega
        rw [this]; exact .unk _

/-- A value that can be laid into cells. -/
def okV : Value → Bool
  | .tuple _ => false
  | .chan _ => false
  | .agg cs => known cs.toList
  | _ => true
theorem VRel.cells {ρ : Ren} {a c : Value} (h : VRel ρ a c) (ha : okV a = true) :
    a.cells.size = c.cells.size ∧ (∀ i, VRel ρ (a.cells.toList.getD i (.tuple #[])) (c.cells.toList.getD i (.tuple #[]))) ∧ known a.cells.toList = true := by
  have one : ∀ {x y : Value}, VRel ρ x y → (∀ i, VRel ρ ([x].getD i (.tuple #[])) ([y].getD i (.tuple #[]))) := by
    intro x y h i
    cases i with
    | zero => exact h
    | succ i => simp; exact .unk _
  cases h with
  | unk => simp [okV] at ha
  | agg hs hh =>
    refine ⟨hs, fun i => ?_, ha⟩
    have := hh i
    simpa [Value.cells, Array.getD_eq_getD_getElem?, List.getD] using this
  | tuple hs hh => simp [okV] at ha
  | bool b => exact ⟨rfl, one (.bool b), rfl⟩
  | int k x => exact ⟨rfl, one (.int k x), rfl⟩
  | string s => exact ⟨rfl, one (.string s), rfl⟩
  | nilPtr => exact ⟨rfl, one .nilPtr, rfl⟩
  | nilSlice => exact ⟨rfl, one .nilSlice, rfl⟩
  | nilMap => exact ⟨rfl, one .nilMap, rfl⟩
  | nilFunc => exact ⟨rfl, one .nilFunc, rfl⟩
  | map h => exact ⟨rfl, one (.map h), rfl⟩
  | nilIface => exact ⟨rfl, one .nilIface, rfl⟩
  | ptr h => exact ⟨rfl, one (.ptr h), rfl⟩
  | slice c h hn hc => exact ⟨rfl, one (.slice c h hn hc), rfl⟩
  | slice0 a h => exact ⟨rfl, one (.slice0 a h), rfl⟩
  | iface h => exact ⟨rfl, one (.iface h), rfl⟩
  | func hs h => exact ⟨rfl, one (.func hs h), rfl⟩
  | meth h => exact ⟨rfl, one (.meth h), rfl⟩
  | yield h => exact ⟨rfl, one (.yield h), rfl⟩
  | skip => simp [okV] at ha

/-- A row of cells that are a block's own is stored to. -/
theorem Sim.storeCells {P : Program} {w0 : Base} {w : World} {ρ : Ren} {H : AH} (s : Sim w0 ρ H w) {b o : Nat} {m : Meta} {L : Loc} (hm : H.info b = some m) (hL : ρ b = some L) (vs cs : List Value)
    (hlen : vs.length = cs.length) (hown : ∀ j, j < vs.length → Own m L (o + j)) (hv : ∀ j, j < vs.length → VRel ρ (vs.getD j (.tuple #[])) (cs.getD j (.tuple #[]))) (hk : known vs = true) :
    (Go.storeCells ⟨L.blk, L.off + o, none⟩ cs).run P w = .ok () (w.setCells L.blk (L.off + o) cs) ∧ Sim w0 ρ (H.app (.sets b o vs)) (w.setCells L.blk (L.off + o) cs) := by
  obtain ⟨L', k1, kz, k2, k3, k4⟩ := s.info b m hm
  rw [hL] at k1; cases k1
  refine ⟨?_, s.stores hL vs cs o hm hlen hown hv⟩
  have := run_storeCells_cells (P := P) L.blk (L.off + o) cs 0 w ?_ ?_ ?_
  · simpa using this
  · intro j hj
    obtain ⟨_, ⟨v, h2⟩, _⟩ := k4 (o + j) (hown j (by omega))
    rw [Nat.add_zero, Nat.add_assoc, h2]; rfl
  · intro j hj
    obtain ⟨_, _, h3⟩ := k4 (o + j) (hown j (by omega))
    rw [Nat.add_zero, Nat.add_assoc]; exact h3
  · intro v hv'
    obtain ⟨j, hj, rfl⟩ := List.getElem_of_mem hv'
    have h1 := hv j (by omega)
    have h2 := (known_at vs hk j (by omega)).2
    have := h1.oneCell h2
    simpa [List.getD, hj] using this

theorem op_store {t : TypeId} {x y : Operand} {b o : Nat} {d : TypeDesc} {z by_ : Nat} {zv : Value} {m : Meta} (hz : TI P t d z by_ zv) (hx : ev env x = .pointer (some ⟨b, o, none⟩))
    (hy : okV (ev env y) = true) (hs : (ev env y).cells.size = z) (hm : g.info b = some m) (hlk : m.lock ≤ o) (hin : o + z ≤ m.size) (hT : T b ∨ n ≤ b) (hb : b < n) :
    OpEv P T ⟨dst, .store t x y, ty, pos, after, gd⟩ env n g (.tuple #[]) n (.sets b o (ev env y).cells.toList) where
  le := Nat.le_refl _
  within := fun x hx => by
    have := sets_touches hx
    subst this; exact ⟨hT, hb⟩
  run := fun rq w0 ρ w H a next Q hl hf hsim hop K => by
    have h1 := hop x (by simp [Op.operands]); rw [hx] at h1
    obtain ⟨L, hL, hc⟩ := h1.ptr_inv
    have h2 := hop y (by simp [Op.operands])
    obtain ⟨c1, c2, c3⟩ := h2.cells hy
    have hM := hl.info b m hm
    obtain ⟨L', k1, kz, k2, k3, k4⟩ := hsim.info b m hM
    rw [hL] at k1; cases k1
    have hlen : (ev env y).cells.toList.length = z := by simpa using hs
    obtain ⟨e1, e2⟩ := hsim.storeCells (P := P) (o := o) hM hL (ev env y).cells.toList (a.eval y).cells.toList (by simpa using c1)
      (fun j hj => ⟨by omega, by split <;> omega⟩) (fun j _ => c2 j) c3
    have hrun : (execOp a.eval ⟨dst, .store t x y, ty, pos, after, gd⟩).run P w = .ok .skip (w.setCells L.blk (L.off + o) (a.eval y).cells.toList) := by
      have hsz : ¬ ((a.eval y).cells.size ≠ z) := by rw [← c1]; simpa using hs
      simp only [execOp, Instr.storeAt, hc, Instr.sureAddr, storeVar, Sem.run_bind, Sem.run_pure, Result.andThen_ok, hz.run_sizeOf, if_neg hsz]
      rw [e1]; rfl
    refine wpA_skip hrun ?_
    exact K ρ _ _ (.refl _ _ _) (.unk _) e2

theorem within_new {T : Nat → Prop} {n : Nat} {m : Meta} {cs : List Value} : Within T n (n + 1) (.new n m cs) := by
  intro b hb
  have : b = n := by
    rcases hb with h | ⟨i, h⟩
    · simp only [Dl.new] at h; split at h
      · assumption
      · exact absurd rfl h
    · simp only [Dl.new] at h; split at h
      · assumption
      · exact absurd rfl h
  subst this; exact ⟨.inr (Nat.le_refl _), Nat.lt_succ_self _⟩

/-- A new variable. -/
theorem op_new {o : Oper} {v : Value} {cs : List Value} {x : Nat} (h : ∀ w0 ρ w H (ce : Operand → Value), g.le H → Sim w0 ρ H w → (∀ y, y ∈ o.op.operands → VRel ρ (ev env y) (ce y)) →
      ∃ (w1 : World) (conc : Array Value) (e : TypeId) (c : Value), Sim w0 ρ H w1 ∧ cs.length ≤ conc.size ∧ (∀ i, i < cs.length → VRel ρ (cs.getD i (.tuple #[])) (conc.getD i (.tuple #[]))) ∧
        (execOp ce o).run P w = .ok (.value c) (w1.alloc (.cells conc e)) ∧ VRel (ρ.set n ⟨w1.heap.size, 0, conc.size, x⟩) v c) :
    OpEv P T o env n g v (n + 1) (.new n ⟨cs.length, 0, true, x⟩ cs) where
  le := Nat.le_succ _
  within := within_new
  run := fun rq w0 ρ w H a next Q hl hf hsim hop K => by
    have hn := hf n (Nat.le_refl _) (Nat.lt_succ_self _)
    obtain ⟨w1, conc, e, c, h1, h2, h3, h4, h5⟩ := h w0 ρ w H a.eval hl hsim hop
    have hs := h1.new hn cs conc e x h2 h3
    refine wpA_value h4 ?_
    exact K _ c _ (.one hn _) h5 hs

theorem op_box {e : TypeId} {x : Operand} (hy : okV (ev env x) = true) :
    OpEv P T ⟨dst, .box e x, ty, pos, after, gd⟩ env n g (.pointer (some ⟨n, 0, none⟩)) (n + 1) (.new n ⟨(ev env x).cells.toList.length, 0, true, 0⟩ (ev env x).cells.toList) :=
  op_new fun w0 ρ w H ce hl hs hop => by
    obtain ⟨c1, c2, c3⟩ := (hop x (by simp [Op.operands])).cells hy
    refine ⟨w, (ce x).cells, e, .pointer (some ⟨w.heap.size, 0, none⟩), hs, by simp [c1], fun i hi => ?_, ?_, ?_⟩
    · have := c2 i; simpa [Array.getD_eq_getD_getElem?, List.getD] using this
    · simp [execOp, Instr.box, newVar, newRow]
    · exact .ptr (L := ⟨w.heap.size, 0, (ce x).cells.size, 0⟩) (Ren.set_self _ _ _)

theorem op_alloc {e : TypeId} {d : TypeDesc} {z by_ : Nat} {zv : Value} (hz : TI P e d z by_ zv) (hf : zv.cells.all (flat 8) = true) :
    OpEv P T ⟨dst, .alloc e, ty, pos, after, gd⟩ env n g (.pointer (some ⟨n, 0, none⟩)) (n + 1) (.new n ⟨zv.cells.toList.length, 0, true, 0⟩ zv.cells.toList) :=
  op_new fun w0 ρ w H ce hl hs hop => by
    refine ⟨w, zv.cells, e, .pointer (some ⟨w.heap.size, 0, none⟩), hs, by simp, fun i hi => ?_, ?_, ?_⟩
    · have hi' : i < zv.cells.size := by simpa using hi
      have := flat_rel ρ 8 _ (Array.all_eq_true.1 hf i hi')
      simpa [Array.getD, List.getD, hi'] using this
    · simp [execOp, Instr.alloc, hz.run_zeroValue, newVar, newRow]
    · exact .ptr (L := ⟨w.heap.size, 0, zv.cells.size, 0⟩) (Ren.set_self _ _ _)

end
end Go.Abs
