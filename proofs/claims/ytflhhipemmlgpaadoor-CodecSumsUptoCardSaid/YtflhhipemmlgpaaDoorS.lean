/- Contracts of bytes.IndexByte and bytes.Index of one byte. -/
import Derived.Test.YtflhhipemmlgpaaDoorR
set_option linter.unusedSimpArgs false
set_option linter.unusedVariables false
namespace Go.Proofs.YtflhhipemmlgpaaDoor
open Go.Abs

set_option maxHeartbeats 4000000 in
theorem indexByte_ev (l : List UInt8) (c : UInt8) (a : Option Addr) (m n : Nat) (h : AH) (S : SlB h n a l) (hl : 0 < l.length) (e : m = l.length) :
    Ev Tryd.prog none' 52 #[.slice a m m, .int .u8 c.toNat] n h (.int .i64 (Lib.indexByte l c)) n h := by
  subst e
  refine RF.pure rfl fun n' hn => ?_
  have S := S.ext (Ext.refl n h) hn
  refine RF.of Tryd.func52 rfl rfl (Nat.le_of_ble_eq_true rfl) ?_; dsimp only [argEnv]
  repeat' (first | refine stpS ?_ | (refine stp2 ?_ ?_ <;> intro _))
  rcases S.shape with ⟨ha, hl⟩ | ⟨ha, -, -⟩
  · omega
  · have hrd : rd h (sb a) (so a) l.length = bytesV l := Go.Abs.SlB.rd S (Ext.refl n' h)
    rw [ha]
    refine RS.put (v := .int .i64 (Lib.indexByte l ((c.toNat : Int).toNat.toUInt8))) rfl rfl (op_indexByte (f := 63) (l := l) Tryd.func63 (by kernel_rfl) (by kernel_rfl) (by kernel_rfl) (by kernel_rfl) (Opd.ev opd) (Opd.ev opd) hrd) ?_
    have hcc : (c.toNat : Int).toNat.toUInt8 = c := by rw [Int.toNat_natCast]; exact UInt8.ofNat_toNat
    rw [hcc]
    repeat' (first | refine stpS ?_ | (refine stp2 ?_ ?_ <;> intro _))
    rfl
set_option maxHeartbeats 4000000 in
theorem index_ev (l : List UInt8) (c : UInt8) (a d : Option Addr) (m n : Nat) (h : AH) (S : SlB h n a l) (S2 : SlB h n d [c]) (hl : 0 < l.length) (e : m = l.length) :
    Ev Tryd.prog none' 70 #[.slice a m m, .slice d 1 1] n h (.int .i64 (Lib.indexByte l c)) n h := by
  subst e
  refine RF.pure rfl fun n' hn => ?_
  have S := S.ext (Ext.refl n h) hn
  have S2 := S2.ext (Ext.refl n h) hn
  refine RF.of Tryd.func70 rfl rfl (Nat.le_of_ble_eq_true rfl) ?_; dsimp only [argEnv]
  have hd0 : h.cell (sb d) (so d + (0 : Int).toNat) = .int .u8 c.toNat := S2.cell 0 (by simp)
  repeat' (first | refine stpS ?_ | (refine stp2 ?_ ?_ <;> intro _) | refine RS.call1 rfl opds (indexByte_ev l c a _ _ _ S hl rfl) none'W ?_)
  rfl
end Go.Proofs.YtflhhipemmlgpaaDoor
