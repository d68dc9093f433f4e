/- How often a byte is in a row (bytealg.Count). -/
import Derived.Test.YtflhhipemmlgpaaDoorP
import Derived.Shelf.Bytes.SlCountOne
import Derived.Laws.Externs
set_option linter.unusedSimpArgs false
set_option linter.unusedVariables false
namespace Go.Proofs.YtflhhipemmlgpaaDoor
open Go.Abs

variable {P : Program} {T : Nat → Prop} {env : Env} {n : Nat} {g : AH} {dst : Option Tmp} {ty : TypeId} {pos : String} {after : Array Edge} {gd : Option (Nat × Bool)}
theorem op_count {f : FuncId} {fn : Func} {ts : Array TypeId} {x y : Operand} {b o m : Nat} {l : List UInt8} {c : Int} (hf : P.funcs[f]? = some fn) (hname : (fn.name == "runtime.NumGoroutine") = false) (hb : fn.body.isNone = true) (hn : Extern.findNext fn = none)
    (he : Extern.find fn = some Extern.BytealgCount.count) (hx : ev env x = .slice (some ⟨b, o, none⟩) m m) (hy : ev env y = .int .u8 c) (hr : rd g b o m = bytesV l) :
    OpEv P T ⟨dst, .call { callee := .value (.func f), args := #[x, y], argTypes := ts }, ty, pos, after, gd⟩ env n g (.int .i64 (l.count c.toNat.toUInt8 : Nat)) n .nil :=
  .look fun w0 ρ w H ce hl hsim hop => by
    have h1 := hop x (by simp [Op.operands, Call.operands]); rw [hx] at h1
    have h3 := hop y (by simp [Op.operands, Call.operands]); rw [hy] at h3
    have hcy : ce y = .int .u8 c := h3.int_inv
    have h2 := hop (.func f) (by simp [Op.operands, Call.operands])
    have hcf0 : ce (.func f) = .func (.func f) #[] #[] := by
      have e0 : ev env (.func f) = .func (.func f) #[] #[] := rfl
      rw [e0] at h2
      generalize ce (.func f) = q at h2
      cases h2 with
      | @func _ _ ys hs _ =>
        have : ys = #[] := Array.eq_empty_of_size_eq_zero (by simpa using hs.symm)
        rw [this]
    refine ⟨.int .i64 (l.count c.toNat.toUInt8 : Nat), ?_, .int _ _⟩
    have hm : m = l.length := by rw [← rd_length g b m o, hr, bytesV_length]
    have hbo : ∀ l : List UInt8, Lib.bytesOf (l.map fun b => (b.toNat : Int)) = l := by
      intro l
      simp [Lib.bytesOf, Function.comp_def]
    generalize hc : ce x = cx at h1
    cases h1 with
    | @slice _ _ _ L C h hn2 hcap =>
      obtain ⟨cs, c1, c2, c3⟩ := hsim.rd (P := P) hl h (k := m) (o := o) (by rw [hr]; exact bytesV_known l)
      have hcell : ∀ i, i < m → w.cell? (Addr.add ⟨L.blk, L.off + o, none⟩ i) = some (.int .u8 ((l.map fun b => (b.toNat : Int)).getD i 0)) := by
        intro i hi
        have k := c2 i hi
        rw [hr] at k
        have hi2 : i < l.length := by omega
        have e1 : (bytesV l).getD i (.tuple #[]) = .int .u8 (l[i]).toNat := by simp [bytesV, List.getD, hi2]
        have k2 := k.2
        rw [e1] at k2
        have k1 := k.1
        rw [k2.int_inv] at k1
        have e2 : (l.map fun b => (b.toNat : Int)).getD i 0 = (l[i]).toNat := by simp [List.getD, hi2]
        rw [e2, addr_add]
        exact k1
      have hrun := Lib.run_countAt (P := P) w ⟨L.blk, L.off + o, none⟩ m C (l.map fun b => (b.toNat : Int)) (by simp [hm]) hcell c
      rw [hbo] at hrun
      have hcf := run_callFunc_extern hf hname hb hn he #[.slice (some ⟨L.blk, L.off + o, none⟩) m C, .int .u8 c] w
      rw [hrun] at hcf
      simp [execOp, resolve, invoke, hc, hcy, hcf, hcf0, Deferred.ofValue, Lib.countByte]
    | slice0 a h =>
      have : l = [] := List.eq_nil_of_length_eq_zero hm.symm
      subst this
      have hrun := Lib.run_countAt (P := P) w a 0 0 [] rfl (fun i hi => absurd hi (by omega)) c
      have hcf := run_callFunc_extern hf hname hb hn he #[.slice (some a) 0 0, .int .u8 c] w
      rw [hrun] at hcf
      simp [execOp, resolve, invoke, hc, hcy, hcf, hcf0, Deferred.ofValue, Lib.countByte, Lib.bytesOf]
theorem op_count0 {f : FuncId} {fn : Func} {ts : Array TypeId} {x y : Operand} {c : Int} (hf : P.funcs[f]? = some fn) (hname : (fn.name == "runtime.NumGoroutine") = false) (hb : fn.body.isNone = true) (hn : Extern.findNext fn = none)
    (he : Extern.find fn = some Extern.BytealgCount.count) (hx : ev env x = .slice none 0 0) (hy : ev env y = .int .u8 c) :
    OpEv P T ⟨dst, .call { callee := .value (.func f), args := #[x, y], argTypes := ts }, ty, pos, after, gd⟩ env n g (.int .i64 0) n .nil :=
  .look fun w0 ρ w H ce hl hsim hop => by
    have h1 := hop x (by simp [Op.operands, Call.operands]); rw [hx] at h1
    have h3 := hop y (by simp [Op.operands, Call.operands]); rw [hy] at h3
    have hcy : ce y = .int .u8 c := h3.int_inv
    have h2 := hop (.func f) (by simp [Op.operands, Call.operands])
    have hcf0 : ce (.func f) = .func (.func f) #[] #[] := by
      have e0 : ev env (.func f) = .func (.func f) #[] #[] := rfl
      rw [e0] at h2
      generalize ce (.func f) = q at h2
      cases h2 with
      | @func _ _ ys hs _ =>
        have : ys = #[] := Array.eq_empty_of_size_eq_zero (by simpa using hs.symm)
        rw [this]
    refine ⟨.int .i64 0, ?_, .int _ _⟩
    have hc : ce x = .slice none 0 0 := by generalize ce x = q at h1; cases h1; rfl
    have hrun := Lib.run_countNil (P := P) w 0 0 c
    have hcf := run_callFunc_extern hf hname hb hn he #[.slice none 0 0, .int .u8 c] w
    rw [hrun] at hcf
    simp [execOp, resolve, invoke, hc, hcy, hcf, hcf0, Deferred.ofValue]
set_option maxHeartbeats 4000000 in
theorem count_ev (l : List UInt8) (c : UInt8) (a d : Option Addr) (m n : Nat) (h : AH) (S : SlB h n a l) (S2 : SlB h n d [c]) (e : m = l.length) (hm : m ≤ 1099511627776) :
    Ev Tryd.prog none' 69 #[.slice a m m, .slice d 1 1] n h (.int .i64 (l.count c : Nat)) n h := by
  subst e
  refine RF.pure rfl fun n' hn => ?_
  have S := S.ext (Ext.refl n h) hn
  have S2 := S2.ext (Ext.refl n h) hn
  refine RF.of Tryd.func69 rfl rfl (Nat.le_of_ble_eq_true rfl) ?_; dsimp only [argEnv]
  have hd0 : h.cell (sb d) (so d + (0 : Int).toNat) = .int .u8 c.toNat := S2.cell 0 (by simp)
  repeat' (first | refine stpS ?_ | (refine stp2 ?_ ?_ <;> intro _))
  rcases S.shape with ⟨ha, hl⟩ | ⟨ha, -, -⟩
  · have : l = [] := List.eq_nil_of_length_eq_zero hl
    subst this; subst ha
    refine RS.put (v := .int .i64 0) rfl rfl (op_count0 (f := 73) Tryd.func73 (by kernel_rfl) (by kernel_rfl) (by kernel_rfl) (by kernel_rfl) (Opd.ev opd) (Opd.ev opd)) ?_
    repeat' (first | refine stpS ?_ | (refine stp2 ?_ ?_ <;> intro _))
    rfl
  · have hrd : rd h (sb a) (so a) l.length = bytesV l := Go.Abs.SlB.rd S (Ext.refl n' h)
    rw [ha]
    refine RS.put (v := .int .i64 (l.count ((c.toNat : Int).toNat.toUInt8) : Nat)) rfl rfl (op_count (f := 73) (l := l) Tryd.func73 (by kernel_rfl) (by kernel_rfl) (by kernel_rfl) (by kernel_rfl) (Opd.ev opd) (Opd.ev opd) hrd) ?_
    have hcc : (c.toNat : Int).toNat.toUInt8 = c := by rw [Int.toNat_natCast]; exact UInt8.ofNat_toNat
    rw [hcc]
    repeat' (first | refine stpS ?_ | (refine stp2 ?_ ?_ <;> intro _))
    rfl
end Go.Proofs.YtflhhipemmlgpaaDoor
