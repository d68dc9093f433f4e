/- Contracts and laws that a statement of this seat is proved by (part 5). -/
import Derived.Test.YtflhhipemmlgpaaDoorC04
set_option linter.unusedSimpArgs false
set_option linter.unusedVariables false
/- Contracts of codec: the bytes that bytes begin with (the function that Reader.Bytes hands to take). -/
namespace Go.Proofs.YtflhhipemmlgpaaDoor
open Go.Abs

section
variable {P : Program} {T : Nat → Prop} {env : Env} {n : Nat} {g : AH} {dst : Option Tmp} {ty : TypeId} {pos : String} {after : Array Edge} {gd : Option (Nat × Bool)}
theorem op_indexByte0 {f : FuncId} {fn : Func} {ts : Array TypeId} {x y : Operand} {c : Int} (hf : P.funcs[f]? = some fn) (hname : (fn.name == "runtime.NumGoroutine") = false) (hb : fn.body.isNone = true) (hn : Extern.findNext fn = none)
    (he : Extern.find fn = some Extern.BytealgIndexByte.indexByte) (hx : ev env x = .slice none 0 0) (hy : ev env y = .int .u8 c) :
    OpEv P T ⟨dst, .call { callee := .value (.func f), args := #[x, y], argTypes := ts }, ty, pos, after, gd⟩ env n g (.int .i64 (-1)) n .nil :=
  .look fun w0 ρ w H ce hl hsim hop => by
    have h1 := hop x (by simp [Op.operands, Call.operands]); rw [hx] at h1
    have h3 := hop y (by simp [Op.operands, Call.operands]); rw [hy] at h3
    have hcy : ce y = .int .u8 c := h3.int_inv
    have h2 := hop (.func f) (by simp [Op.operands, Call.operands])
    have hcf0 : ce (.func f) = .func (.func f) #[] #[] := by
      have e0 : ev env (.func f) = .func (.func f) #[] #[] := rfl
      rw [e0] at h2
      generalize ce (.func f) = q at h2
      cases h2 with
      | @func _ _ ys hs _ =>
        have : ys = #[] := Array.eq_empty_of_size_eq_zero (by simpa using hs.symm)
        rw [this]
    refine ⟨.int .i64 (-1), ?_, .int _ _⟩
    have hc : ce x = .slice none 0 0 := by generalize ce x = q at h1; cases h1; rfl
    have hrun := Lib.run_indexByteNil (P := P) w 0 0 c
    have hcf := run_callFunc_extern hf hname hb hn he #[.slice none 0 0, .int .u8 c] w
    rw [hrun] at hcf
    simp [execOp, resolve, invoke, hc, hcy, hcf, hcf0, Deferred.ofValue]
end
set_option maxHeartbeats 4000000 in
theorem indexByteA_ev (l : List UInt8) (c : UInt8) (a : Option Addr) (m n : Nat) (h : AH) (S : SlB h n a l) (e : m = l.length) :
    Ev Tryd.prog none' 52 #[.slice a m m, .int .u8 c.toNat] n h (.int .i64 (Lib.indexByte l c)) n h := by
  by_cases hl : 0 < l.length
  · exact indexByte_ev l c a m n h S hl e
  · have : l = [] := List.eq_nil_of_length_eq_zero (by omega)
    subst this; subst e
    refine RF.pure rfl fun n' hn => ?_
    have S := S.ext (Ext.refl n h) hn
    refine RF.of Tryd.func52 rfl rfl (Nat.le_of_ble_eq_true rfl) ?_; dsimp only [argEnv]
    repeat' (first | refine stpS ?_ | (refine stp2 ?_ ?_ <;> intro _))
    rcases S.shape with ⟨ha, hl⟩ | ⟨ha, -, -⟩
    · subst ha
      refine RS.put (v := .int .i64 (-1)) rfl rfl (op_indexByte0 (f := 63) Tryd.func63 (by kernel_rfl) (by kernel_rfl) (by kernel_rfl) (by kernel_rfl) (Opd.ev opd) (Opd.ev opd)) ?_
      repeat' (first | refine stpS ?_ | (refine stp2 ?_ ?_ <;> intro _))
      rfl
    · have hrd : rd h (sb a) (so a) ([] : List UInt8).length = bytesV [] := rfl
      rw [ha]
      refine RS.put (v := .int .i64 (Lib.indexByte [] ((c.toNat : Int).toNat.toUInt8))) rfl rfl (op_indexByte (f := 63) (l := []) Tryd.func63 (by kernel_rfl) (by kernel_rfl) (by kernel_rfl) (by kernel_rfl) (Opd.ev opd) (Opd.ev opd) hrd) ?_
      repeat' (first | refine stpS ?_ | (refine stp2 ?_ ?_ <;> intro _))
      rfl
/-- What the function that takes bytes answers, and leaves in the cell w. -/
def RdB (x : PB) (w n : Nat) (h : AH) (r : Value) (n' : Nat) (h' : AH) : Prop :=
  ∃ a', r = .tuple #[.int .i64 (x.2.1 : Nat), .int .i64 (x.2.2 : Nat)] ∧ ExtW (· = w) n h h' ∧ h'.info w = some ⟨1, 0, true, 0⟩ ∧ (x.2.2 = 0 → h'.cell w 0 = .slice a' x.1.length x.1.length ∧ OwnSl h' n n' a' 1 x.1.length (bytesV x.1))
set_option maxHeartbeats 4000000 in
theorem takeBytes_rf (b : List UInt8) (a : Option Addr) (m w n : Nat) (h : AH) (S : SlB h n a b) (e : m = b.length) (hm : m ≤ 1073741824) (hw : w < n) (hi : h.info w = some ⟨1, 0, true, 0⟩) (hc : h.cell w 0 = .slice none 0 0) (hne : a = none ∨ sb a ≠ w) :
    RF Tryd.prog (· = w) 51 #[.slice a m m, .pointer (some ⟨w, 0, none⟩)] n h (RdB (pB b) w n h) := by
  subst e
  refine RF.of Tryd.func51 rfl rfl (Nat.le_of_ble_eq_true rfl) ?_; dsimp only [argEnv]
  repeat' (first | refine stpS ?_ | (refine stp2 ?_ ?_ <;> intro _))
  refine RC.loop ?_
  refine RL.inv (α := Nat × Option Addr × List UInt8) (fun s => [(5, .int .i64 (s.1 : Nat)), (0, .slice a b.length b.length), (1, .pointer (some ⟨w, 0, none⟩))])
    (fun s n1 h1 => s.1 ≤ b.length ∧ n ≤ n1 ∧ ExtW (· = w) n h h1 ∧ h1.info w = some ⟨1, 0, true, 0⟩ ∧ h1.cell w 0 = .slice s.2.1 s.2.2.length s.2.2.length ∧ OwnSl h1 n n1 s.2.1 1 s.2.2.length (bytesV s.2.2) ∧ s.2.2.length ≤ s.1 ∧ pB b = addP s.2.2 s.1 (pB (b.drop s.1)))
    (fun s => b.length - s.1) (0, none, []) envs ⟨by omega, Nat.le_refl _, ExtW.refl _ _ _, hi, hc, OwnSl.nil (Nat.le_refl _), Nat.le_refl _, (pB_addP b).symm⟩ ?_
  clear hi hc
  rintro ⟨i, a1, o⟩ n1 h1 ⟨hi, hn, hE, hI, hC, hO, hol, hp⟩
  dsimp only at hi hn hE hI hC hO hol hp ⊢
  have hS : SlB h1 n1 a b := S.extW hE hn fun q e => hne.elim q fun k => k e
  have hSd : SlB h1 n1 (sub a i) (b.drop i) := by
    have := SlB.cut hS (i := i) (u := b.length) hi (Nat.le_refl _)
    rwa [List.take_length] at this
  have hidx := indexByteA_ev (b.drop i) 0 (sub a i) (b.length - i) n1 h1 hSd (by rw [List.length_drop])
  have hwn : w < n1 := by omega
  have hdl : (b.drop i).length = b.length - i := List.length_drop
  have hge := Lib.indexByte_ge (b.drop i) 0
  by_cases hno : Lib.indexByte (b.drop i) 0 = -1
  · rw [pB_none (Lib.indexByte_none hno), addP_err _ _ _ (by decide)] at hp
    rw [hno] at hidx
    repeat' (first | refine stpS ?_ | (refine stp2 ?_ ?_ <;> intro _))
    rw [Int.toNat_natCast]
    refine RS.call1 rfl opds hidx none'W ?_
    repeat' (first | refine stpS ?_ | (refine stp2 ?_ ?_ <;> intro _))
    rw [hp]
    exact ⟨none, rfl, hE, hI, fun q => absurd q (by decide)⟩
  · obtain ⟨k, hk⟩ : ∃ k : Nat, Lib.indexByte (b.drop i) 0 = k := ⟨(Lib.indexByte (b.drop i) 0).toNat, by omega⟩
    obtain ⟨s1, s2, s3, s4⟩ := pB_scan hk
    rw [hk] at hidx
    by_cases hend : k + 1 = (b.drop i).length
    · rw [s3 hend, addP_err _ _ _ (by decide)] at hp
      repeat' (first | refine stpS ?_ | (refine stp2 ?_ ?_ <;> intro _))
      rw [Int.toNat_natCast]
      refine RS.call1 rfl opds hidx none'W ?_
      repeat' (first | refine stpS ?_ | (refine stp2 ?_ ?_ <;> intro _))
      rw [hp]
      exact ⟨none, rfl, hE, hI, fun q => absurd q (by decide)⟩
    · have s4 := s4 (by omega)
      rw [List.drop_drop] at s4
      have hSm : SlB h1 n1 (sub a i) ((b.drop i).take k) := by
        have := SlB.cut hS (i := i) (u := i + k) (by omega) (by omega)
        rwa [show (b.take (i + k)).drop i = (b.drop i).take k by rw [List.drop_take]; congr 1; omega] at this
      have hml : ((b.drop i).take k).length = k := by rw [List.length_take]; omega
      repeat' (first | refine stp ?_ | (refine stp2 ?_ ?_ <;> intro _))
      rw [Int.toNat_natCast]
      refine RS.call1 rfl opds hidx none'W ?_
      repeat' (first | refine stp ?_ | (refine stp2 ?_ ?_ <;> intro _))
      rw [Int.toNat_natCast, show ((i : Int) + (k : Int)).toNat - i = ((b.drop i).take k).length by omega]
      have hown := hO.at'
      refine RD.appendT n1 rfl opd opd hO (SlB.src (SlR.ext hSm (AH.below_ext _ _) (Nat.le_refl _))) full_slice (fun q => .inr (hown.resolve_left q).1) (by omega) (Nat.le_refl _) cfw ?_
      intro a2 n2 h2 hle2 hO2 hX2 hnew
      have hne1 : a1 = none ∨ w ≠ sb a1 := by
        by_cases q : a1 = none
        · exact .inl q
        · right; have := (hown.resolve_left q).1; omega
      have hI2 : h2.info w = some ⟨1, 0, true, 0⟩ := (hX2 w hwn hne1).1.trans hI
      have hwn2 : w < n2 := by omega
      have hE2 : ExtW (· = w) n h h2 := hE.then (hX2.ext hO) (Nat.le_refl _)
      have hlen2 : o.length + ((b.drop i).take k).length = (o ++ (b.drop i).take k).length := by rw [List.length_append]
      rw [← bytesV_app, hlen2] at hO2
      rw [hlen2]
      have ha2w : a2 = none ∨ sb a2 ≠ w := by
        rcases hO2.at' with q | q
        · exact .inl q
        · right; omega
      have hO3 := hO2.setsN (b := w) (o' := 0) (vs := [.slice a2 (o ++ (b.drop i).take k).length (o ++ (b.drop i).take k).length]) ha2w
      have hE3 : ExtW (· = w) n h (h2.app (.sets w 0 [.slice a2 (o ++ (b.drop i).take k).length (o ++ (b.drop i).take k).length])) := hE2.appSets (.inl rfl)
      have hS3 : SlB (h2.app (.sets w 0 [.slice a2 (o ++ (b.drop i).take k).length (o ++ (b.drop i).take k).length])) n2 a b := S.extW hE3 (by omega) fun q e => hne.elim q fun k => k e
      have hI3 : (h2.app (.sets w 0 [.slice a2 (o ++ (b.drop i).take k).length (o ++ (b.drop i).take k).length])).info w = some ⟨1, 0, true, 0⟩ := i_sets hI2
      have hC3 : (h2.app (.sets w 0 [.slice a2 (o ++ (b.drop i).take k).length (o ++ (b.drop i).take k).length])).cell w 0 = .slice a2 (o ++ (b.drop i).take k).length (o ++ (b.drop i).take k).length := cell
      have hgd : (b.drop i).getD (k + 1) 0 = b.getD (i + (k + 1)) 0 := by simp [List.getD]
      rw [hgd] at s4
      have hgI : b.getD ((i : Int) + ((k : Int) + 2) - 1).toNat 0 = b.getD (i + (k + 1)) 0 := by rw [show ((i : Int) + ((k : Int) + 2) - 1).toNat = i + (k + 1) by omega]
      by_cases h0 : (b.getD (i + (k + 1)) 0).toNat = 0
      · have h0I : (b.getD ((i : Int) + ((k : Int) + 2) - 1).toNat 0).toNat = 0 := by rw [hgI]; exact h0
        rw [s4, if_pos h0] at hp
        have hp : pB b = (o ++ (b.drop i).take k, k + 2 + i, 0) := by rw [hp]; unfold addP; simp only [if_true]
        repeat' (first | refine stp ?_ | (refine stp2 ?_ ?_ <;> intro _))
        rw [hp]
        exact ⟨a2, by rw [show ((k + 2 + i : Nat) : Int) = (i : Int) + ((k : Int) + 2) by omega]; rfl, hE3, hI3, fun _ => ⟨hC3, hO3⟩⟩
      · have h0I : ¬ (b.getD ((i : Int) + ((k : Int) + 2) - 1).toNat 0).toNat = 0 := by rw [hgI]; exact h0
        rw [s4, if_neg h0] at hp
        by_cases h1 : (b.getD (i + (k + 1)) 0).toNat = 1
        · have h1I : (b.getD ((i : Int) + ((k : Int) + 2) - 1).toNat 0).toNat = 1 := by rw [hgI]; exact h1
          rw [if_pos h1, addP_add] at hp
          have hol2 : (o ++ (b.drop i).take k).length ≤ i + k := by rw [List.length_append]; omega
          repeat' (first | refine stp ?_ | (refine stp2 ?_ ?_ <;> intro _))
          refine RS.heap (g := (h2.app (.sets w 0 [.slice a2 (o ++ (b.drop i).take k).length (o ++ (b.drop i).take k).length])).app (.new n2 ⟨1, 0, true, 1⟩ [.int .u8 0])) rfl ?_
          have hO4 := hO3.ext (n1 := n2 + 1) (h1 := (h2.app (.sets w 0 [.slice a2 (o ++ (b.drop i).take k).length (o ++ (b.drop i).take k).length])).app (.new n2 ⟨1, 0, true, 1⟩ [.int .u8 0])) ext (Nat.le_succ _)
          refine RS.appendT rfl opd opd hO4 (OwnSl.src (OwnSl.new1 (n0 := n2) (m := 1) (Nat.le_refl _) rfl rfl)) full_slice (fun q => .inr (hO4.at'.resolve_left q).1) (by omega) ?_
          intro a4 n4 h4 hle4 hO5 hX4 hnew4
          have hI4 := i_new_ne (n := n2) (m := ⟨1, 0, true, 1⟩) (cs := [.int .u8 0]) (by omega : w ≠ n2) hI3
          have hI5 : h4.info w = some ⟨1, 0, true, 0⟩ := (hX4 w (by omega) (ha2w.imp_right Ne.symm)).1.trans hI4
          have hwn4 : w < n4 := by omega
          have hE4 : ExtW (· = w) n h h4 := (hE3.appNew (by omega)).then (hX4.ext hO4) (Nat.le_refl _)
          have ha4w : a4 = none ∨ sb a4 ≠ w := by
            rcases hO5.at' with q | q
            · exact .inl q
            · right; omega
          have hlen4 : (o ++ (b.drop i).take k).length + 1 = (o ++ ((b.drop i).take k ++ [0])).length := by simp only [List.length_append, List.length_cons, List.length_nil]; omega
          have hv4 : bytesV (o ++ (b.drop i).take k) ++ [.int .u8 0] = bytesV (o ++ ((b.drop i).take k ++ [0])) := by rw [← List.append_assoc, bytesV_app (o ++ (b.drop i).take k) [0]]; rfl
          rw [hlen4, hv4] at hO5
          rw [hlen4]
          have hO6 := hO5.setsN (b := w) (o' := 0) (vs := [.slice a4 (o ++ ((b.drop i).take k ++ [0])).length (o ++ ((b.drop i).take k ++ [0])).length]) ha4w
          repeat' (first | refine stpS ?_ | (refine stp2 ?_ ?_ <;> intro _))
          refine nextC.normal ⟨(i + (k + 2), a4, o ++ ((b.drop i).take k ++ [0])), by dsimp only; omega, ?_, by dsimp only; omega, by omega, hE4.appSets (.inl rfl), i_sets hI5, cell, hO6, by dsimp only; omega, hp⟩
          dsimp only
          rw [show ((i + (k + 2) : Nat) : Int) = (i : Int) + ((k : Int) + 2) by omega]
          exact envs
        · have h1I : ¬ (b.getD ((i : Int) + ((k : Int) + 2) - 1).toNat 0).toNat = 1 := by rw [hgI]; exact h1
          rw [if_neg h1, addP_err _ _ _ (by decide)] at hp
          repeat' (first | refine stp ?_ | (refine stp2 ?_ ?_ <;> intro _))
          rw [hp]
          exact ⟨none, rfl, hE3, hI3, fun q => absurd q (by decide)⟩
end Go.Proofs.YtflhhipemmlgpaaDoor

/- Contracts of codec: a reader in memory. -/
namespace Go.Proofs.YtflhhipemmlgpaaDoor
open Go.Abs

/-- A reader that a call made: the block w, what is left, b, at a. -/
structure RdR (h : AH) (n0 n w : Nat) (a : Option Addr) (b : List UInt8) : Prop where
  lo : n0 ≤ w
  hi : w < n
  inf : h.info w = some ⟨2, 0, true, 0⟩
  made : h.cell w 0 = .bool true
  sl : h.cell w 1 = .slice a b.length b.length
  bs : SlB h n a b
  ne : a = none ∨ sb a ≠ w
  le : b.length ≤ 1073741824
theorem RdR.ext {h h1 : AH} {n0 n n1 w : Nat} {a : Option Addr} {b : List UInt8} (R : RdR h n0 n w a b) (E : Ext n h h1) (hn : n ≤ n1) : RdR h1 n0 n1 w a b :=
  ⟨R.lo, Nat.lt_of_lt_of_le R.hi hn, (E.info w R.hi).trans R.inf, (E.cell w 0 R.hi).trans R.made, (E.cell w 1 R.hi).trans R.sl, SlR.ext R.bs E hn, R.ne, R.le⟩
theorem RdR.extW {W : Nat → Prop} {h h1 : AH} {n0 n n1 w : Nat} {a : Option Addr} {b : List UInt8} (R : RdR h n0 n w a b) (E : ExtW W n h h1) (hn : n ≤ n1) (hw : ¬ W w) (ha : a ≠ none → ¬ W (sb a)) : RdR h1 n0 n1 w a b :=
  ⟨R.lo, Nat.lt_of_lt_of_le R.hi hn, (E.info w R.hi hw).trans R.inf, (E.cell w 0 R.hi hw).trans R.made, (E.cell w 1 R.hi hw).trans R.sl, SlR.extW R.bs E hn ha, R.ne, R.le⟩
set_option maxHeartbeats 4000000 in
theorem newReader_rf (b : List UInt8) (a : Option Addr) (m n : Nat) (h : AH) (S : SlB h n a b) (e : m = b.length) (hm : m ≤ 1073741824) :
    RF Tryd.prog none' 29 #[.slice a m m] n h (fun r n' h' => ∃ w a', r = .pointer (some ⟨w, 0, none⟩) ∧ Ext n h h' ∧ RdR h' n n' w a' b ∧ (a' = none ∨ n ≤ sb a')) := by
  subst e
  refine RF.of Tryd.func29 rfl rfl (Nat.le_of_ble_eq_true rfl) ?_; dsimp only [argEnv]
  repeat' (first | refine stpS ?_ | (refine stp2 ?_ ?_ <;> intro _))
  refine RS.call rfl opds (clone_rf b a _ n h S rfl (by omega)) none'W ?_
  rintro r n1 h1 hle ⟨a1, rfl, hE, hO⟩
  repeat' (first | refine stpS ?_ | (refine stp2 ?_ ?_ <;> intro _))
  exact ⟨n1, a1, rfl, ext, ⟨hle, Nat.lt_succ_self _, info, cell, cell, (OwnSl.slbE hO).ext ext (Nat.le_succ _), hO.at'.imp_right fun q => by omega, hm⟩, hO.at'.imp_right fun q => q.1⟩
set_option maxHeartbeats 4000000 in
theorem left_ev (w : Nat) (a : Option Addr) (b : List UInt8) (n0 n : Nat) (h : AH) (R : RdR h n0 n w a b) :
    Ev Tryd.prog none' 34 #[.pointer (some ⟨w, 0, none⟩)] n h (.int .i64 (b.length : Nat)) n h := by
  refine RF.pure rfl fun n' hn => ?_
  have R := R.ext (Ext.refl n h) hn
  refine RF.of Tryd.func34 rfl rfl (Nat.le_of_ble_eq_true rfl) ?_; dsimp only [argEnv]
  obtain ⟨hlo, hhi, hinf, hmade, hsl, hS, hne, hle⟩ := R
  repeat' (first | refine stpS ?_ | (refine stp2 ?_ ?_ <;> intro _))
  rfl
set_option maxHeartbeats 4000000 in
theorem end_ev (w : Nat) (a : Option Addr) (b : List UInt8) (n0 n : Nat) (h : AH) (R : RdR h n0 n w a b) :
    Ev Tryd.prog none' 39 #[.pointer (some ⟨w, 0, none⟩)] n h (.int .i64 (if 0 < b.length then 32 else 0)) n h := by
  refine RF.pure (by split <;> rfl) fun n' hn => ?_
  have R := R.ext (Ext.refl n h) hn
  refine RF.of Tryd.func39 rfl rfl (Nat.le_of_ble_eq_true rfl) ?_; dsimp only [argEnv]
  obtain ⟨hlo, hhi, hinf, hmade, hsl, hS, hne, hle⟩ := R
  by_cases q : 0 < b.length
  · rw [if_pos q]
    repeat' (first | refine stpS ?_ | (refine stp2 ?_ ?_ <;> intro _))
    rfl
  · rw [if_neg q]
    repeat' (first | refine stpS ?_ | (refine stp2 ?_ ?_ <;> intro _))
    rfl
set_option maxHeartbeats 4000000 in
theorem take_rf (f : FuncId) (c w : Nat) (a : Option Addr) (b : List UInt8) (n0 n : Nat) (h : AH) (R : RdR h n0 n w a b) (hcw : c ≠ w) (hac : a = none ∨ sb a ≠ c) (k e : Nat) (QC : Nat → AH → Prop) (hk : e = 0 → k ≤ b.length)
    (hev : RF Tryd.prog (· = c) f #[.slice a b.length b.length, .pointer (some ⟨c, 0, none⟩)] n h (fun r n' h' => r = .tuple #[.int .i64 (k : Nat), .int .i64 (e : Nat)] ∧ ExtW (· = c) n h h' ∧ QC n' h')) :
    RF Tryd.prog (fun x => x = w ∨ x = c) 50 #[.pointer (some ⟨w, 0, none⟩), .func (.func f) #[] #[.pointer (some ⟨c, 0, none⟩)]] n h (fun r n' h' => ∃ h1, r = .int .i64 (e : Nat) ∧ QC n' h1 ∧ ExtW (· = c) n h h1 ∧
      h' = (if e = 0 then h1.app (.sets w 1 [.slice (sub a k) (b.length - k) (b.length - k)]) else h1) ∧ (if e = 0 then RdR h' n0 n' w (sub a k) (b.drop k) else RdR h' n0 n' w a b)) := by
  have R0 := R
  refine RF.of Tryd.func50 rfl rfl (Nat.le_of_ble_eq_true rfl) ?_; dsimp only [argEnv]
  obtain ⟨hlo, hhi, hinf, hmade, hsl, hS, hne, hle⟩ := R
  repeat' (first | refine stpS ?_ | (refine stp2 ?_ ?_ <;> intro _))
  refine RS.callv (caps := [.pointer (some ⟨c, 0, none⟩)]) rfl opd opds hev (fun x hx => .inl (.inr hx)) ?_
  rintro r n1 h1 hle1 ⟨rfl, hE, hQ⟩
  have R1 := R0.extW hE hle1 (fun q => hcw q.symm) (fun q1 q2 => hac.elim q1 fun k => k q2)
  obtain ⟨-, hhi1, hinf1, hmade1, hsl1, hS1, -, -⟩ := R1
  by_cases he : e = 0
  · subst he
    have hk := hk rfl
    simp only [if_true]
    repeat' (first | refine stpS ?_ | (refine stp2 ?_ ?_ <;> intro _))
    rw [Int.toNat_natCast]
    have hdl : (b.drop k).length = b.length - k := List.length_drop
    refine ⟨h1, rfl, hQ, hE, rfl, hlo, hhi1, i_sets hinf1, cell, by rw [hdl]; exact cell, ?_, ?_, by omega⟩
    · have hS2 := SlB.cut hS1 hk (Nat.le_refl _)
      rw [List.take_length] at hS2
      refine SlR.extW (W := (· = w)) hS2 ((ExtW.refl _ _ _).appSets (.inl rfl)) (Nat.le_refl _) fun q1 q2 => ?_
      rcases hne with q | q
      · subst q; exact q1 rfl
      · cases a with
        | none => exact q1 rfl
        | some x => exact q q2
    · rcases hne with q | q
      · subst q; exact .inl rfl
      · cases a with
        | none => exact .inl rfl
        | some x => exact .inr q
  · simp only [if_neg he]
    repeat' (first | refine stpS ?_ | (refine stp2 ?_ ?_ <;> intro _))
    exact ⟨h1, rfl, hQ, hE, rfl, R0.extW hE hle1 (fun q => hcw q.symm) (fun q1 q2 => hac.elim q1 fun k => k q2)⟩
end Go.Proofs.YtflhhipemmlgpaaDoor

/- Contracts of codec: a reader's ints. -/
namespace Go.Proofs.YtflhhipemmlgpaaDoor
open Go.Abs

def RdTo (w : Nat) (a : Option Addr) (b' : List UInt8) (n0 n : Nat) (h : AH) (n' : Nat) (h' : AH) : Prop :=
  ∃ a', RdR h' n0 n' w a' b' ∧ ExtW (· = w) n h h' ∧ (a' = none ∨ a ≠ none ∧ sb a' = sb a)
theorem sub_sb (a : Option Addr) (k : Nat) : sub a k = none ∨ a ≠ none ∧ sb (sub a k) = sb a := by
  cases a with
  | none => exact .inl rfl
  | some x => exact .inr ⟨by simp, rfl⟩
theorem self_sb (a : Option Addr) : a = none ∨ a ≠ none ∧ sb a = sb a := by
  cases a with
  | none => exact .inl rfl
  | some x => exact .inr ⟨by simp, rfl⟩
set_option maxHeartbeats 4000000 in
theorem takeInt_rf (b : List UInt8) (a : Option Addr) (c n : Nat) (h : AH) (S : SlB h n a b) (hm : b.length ≤ 1073741824) (hc : c < n) (hi : h.info c = some ⟨1, 0, true, 0⟩) :
    RF Tryd.prog (· = c) 66 #[.slice a b.length b.length, .pointer (some ⟨c, 0, none⟩)] n h (fun r n' h' => r = .tuple #[.int .i64 ((pI b).2.1 : Nat), .int .i64 ((pI b).2.2 : Nat)] ∧ ExtW (· = c) n h h' ∧
      h'.cell c 0 = .int .i64 (pI b).1 ∧ h'.info c = some ⟨1, 0, true, 0⟩) := by
  refine RF.of Tryd.func66 rfl rfl (Nat.le_of_ble_eq_true rfl) ?_; dsimp only [argEnv]
  repeat' (first | refine stpS ?_ | (refine stp2 ?_ ?_ <;> intro _))
  refine RS.call1 rfl opds (get_ev b a _ _ _ S rfl (by omega)) none'W ?_
  unfold pIV
  repeat' (first | refine stpS ?_ | (refine stp2 ?_ ?_ <;> intro _))
  exact ⟨rfl, (ExtW.refl _ _ _).appSets (.inl rfl), cell, i_sets hi⟩
set_option maxHeartbeats 4000000 in
theorem rInt_rf (w : Nat) (a : Option Addr) (b : List UInt8) (n0 n : Nat) (h : AH) (R : RdR h n0 n w a b) :
    RF Tryd.prog (· = w) 56 #[.pointer (some ⟨w, 0, none⟩)] n h (fun r n' h' => r = .tuple #[.int .i64 (pI b).1, .int .i64 ((pI b).2.2 : Nat)] ∧ RdTo w a (b.drop (pI b).2.1) n0 n h n' h') := by
  refine RF.of Tryd.func56 rfl rfl (Nat.le_of_ble_eq_true rfl) ?_; dsimp only [argEnv]
  repeat' (first | refine stpS ?_ | (refine stp2 ?_ ?_ <;> intro _))
  have hhi := R.hi
  have R1 := R.ext (n1 := n + 1) (h1 := h.app (.new n ⟨1, 0, true, 0⟩ [.int .i64 0])) ext (by omega)
  have hab : a = none ∨ sb a ≠ n := by
    rcases R.bs.two with q | ⟨x, y, q⟩
    · exact .inl q.1
    · right; have := R.bs.ltA (by rw [q]; simp); omega
  refine RS.call rfl opds (take_rf 66 n w a b n0 (n + 1) _ R1 (by omega) hab (pI b).2.1 (pI b).2.2 (fun n' h' => h'.cell n 0 = .int .i64 (pI b).1 ∧ h'.info n = some ⟨1, 0, true, 0⟩) (fun q => (pI_ok (n := (pI b).1) (k := (pI b).2.1) (by rw [← q])).2.2.2.1)
    (takeInt_rf b a n (n + 1) _ R1.bs R1.le (by omega) info)) (fun x hx => hx.imp id fun q => by omega) ?_
  rintro r n1 h1 hle ⟨h2, rfl, ⟨hq1, hq2⟩, hE, he, hR⟩
  have hE2 : ExtW (· = w) n h h2 := ((ExtW.refl (· = w) n h).appNew (m := ⟨1, 0, true, 0⟩) (cs := [.int .i64 0]) (Nat.le_refl n)).then (hE.extM (Nat.le_succ n) (fun b hb => by omega)) (Nat.le_refl n)
  have hnw : n ≠ w := by omega
  have hn1 : n < n1 := by omega
  have hsub : sub a (pI b).2.1 = none ∨ sb (sub a (pI b).2.1) ≠ n := by
    rcases sub_sb a (pI b).2.1 with q | q
    · exact .inl q
    · right; rw [q.2]; exact hab.resolve_left q.1
  by_cases q : (pI b).2.2 = 0
  · rw [if_pos q] at he hR
    have hc1 : h1.cell n 0 = .int .i64 (pI b).1 := by rw [he]; exact c_out (.inl hnw) hq1
    have hi1 : h1.info n = some ⟨1, 0, true, 0⟩ := by rw [he]; exact i_sets hq2
    have hE3 : ExtW (· = w) n h h1 := by rw [he]; exact hE2.appSets (.inl rfl)
    repeat' (first | refine stpS ?_ | (refine stp2 ?_ ?_ <;> intro _))
    exact ⟨rfl, _, hR.extW (W := (· = n)) ((ExtW.refl _ _ _).appSets (.inl rfl)) (Nat.le_refl _) (fun q => hnw q.symm) (fun q1 q2 => hsub.elim q1 fun k => k q2), hE3.appSets (.inr (Nat.le_refl n)), sub_sb a _⟩
  · rw [if_neg q] at he hR
    have hk : (pI b).2.1 = 0 := ((pI_err b).resolve_left q).2.1
    have hc1 : h1.cell n 0 = .int .i64 (pI b).1 := by rw [he]; exact hq1
    have hi1 : h1.info n = some ⟨1, 0, true, 0⟩ := by rw [he]; exact hq2
    have hE3 : ExtW (· = w) n h h1 := by rw [he]; exact hE2
    rw [hk, List.drop_zero]
    repeat' (first | refine stpS ?_ | (refine stp2 ?_ ?_ <;> intro _))
    exact ⟨rfl, _, hR.extW (W := (· = n)) ((ExtW.refl _ _ _).appSets (.inl rfl)) (Nat.le_refl _) (fun q => hnw q.symm) (fun q1 q2 => hab.elim q1 fun k => k q2), hE3.appSets (.inr (Nat.le_refl n)), self_sb a⟩
end Go.Proofs.YtflhhipemmlgpaaDoor

/- Contracts of codec: a reader's flags. -/
namespace Go.Proofs.YtflhhipemmlgpaaDoor
open Go.Abs

/-- The flag that bytes begin with, its length, the error. -/
def pF (b : List UInt8) : Bool × Nat × Nat :=
  if (pI b).2.2 = 0 then (if (pI b).1 = 0 ∨ (pI b).1 = 1 then (decide ((pI b).1 = 1), (pI b).2.1, 0) else (false, 0, 31)) else (false, 0, (pI b).2.2)
theorem pF_err (b : List UInt8) : (pF b).2.2 = 0 ∧ (pF b).2.1 ≤ b.length ∨ ((pF b).1 = false ∧ (pF b).2.1 = 0 ∧ ((pF b).2.2 = 30 ∨ (pF b).2.2 = 31)) := by
  unfold pF
  split
  · rename_i q
    have := (pI_ok (b := b) (n := (pI b).1) (k := (pI b).2.1) (by rw [← q])).2.2.2.1
    split
    · exact .inl ⟨rfl, this⟩
    · exact .inr ⟨rfl, rfl, .inr rfl⟩
  · rename_i q
    exact .inr ⟨rfl, rfl, ((pI_err b).resolve_left q).2.2⟩
set_option maxHeartbeats 4000000 in
theorem takeFlag_rf (b : List UInt8) (a : Option Addr) (c n : Nat) (h : AH) (S : SlB h n a b) (hm : b.length ≤ 1073741824) (hc : c < n) (hi : h.info c = some ⟨1, 0, true, 0⟩) (hc0 : h.cell c 0 = .bool false) :
    RF Tryd.prog (· = c) 68 #[.slice a b.length b.length, .pointer (some ⟨c, 0, none⟩)] n h (fun r n' h' => r = .tuple #[.int .i64 ((pF b).2.1 : Nat), .int .i64 ((pF b).2.2 : Nat)] ∧ ExtW (· = c) n h h' ∧
      h'.cell c 0 = .bool (pF b).1 ∧ h'.info c = some ⟨1, 0, true, 0⟩) := by
  refine RF.of Tryd.func68 rfl rfl (Nat.le_of_ble_eq_true rfl) ?_; dsimp only [argEnv]
  repeat' (first | refine stpS ?_ | (refine stp2 ?_ ?_ <;> intro _))
  refine RS.call1 rfl opds (get_ev b a _ _ _ S rfl (by omega)) none'W ?_
  unfold pIV
  have hF : pF b = pF b := rfl
  conv at hF => rhs; unfold pF
  by_cases q : (pI b).2.2 = 0
  · have hb := pI_ok (b := b) (n := (pI b).1) (k := (pI b).2.1) (by rw [← q])
    have hb1 := hb.1
    have hb2 := hb.2.1
    rw [if_pos q] at hF
    by_cases q0 : (pI b).1 = 0
    · rw [if_pos (.inl q0)] at hF
      rw [q, q0]
      repeat' (first | refine stpS ?_ | (refine stp2 ?_ ?_ <;> intro _))
      rw [hF, q0]
      exact ⟨rfl, (ExtW.refl _ _ _).appSets (.inl rfl), cell, i_sets hi⟩
    · by_cases q1 : (pI b).1 = 1
      · rw [if_pos (.inr q1)] at hF
        rw [q, q1]
        repeat' (first | refine stpS ?_ | (refine stp2 ?_ ?_ <;> intro _))
        rw [hF, q1]
        exact ⟨rfl, (ExtW.refl _ _ _).appSets (.inl rfl), cell, i_sets hi⟩
      · rw [if_neg (by omega)] at hF
        rw [q]
        repeat' (first | refine stpS ?_ | (refine stp2 ?_ ?_ <;> intro _))
        rw [hF]
        exact ⟨rfl, ExtW.refl _ _ _, hc0, hi⟩
  · rw [if_neg q] at hF
    have hk : (pI b).2.1 = 0 := ((pI_err b).resolve_left q).2.1
    rw [hk]
    repeat' (first | refine stpS ?_ | (refine stp2 ?_ ?_ <;> intro _))
    rw [hF]
    exact ⟨rfl, (ExtW.refl _ _ _).appSets (.inl rfl), cell, i_sets hi⟩
set_option maxHeartbeats 4000000 in
theorem rFlag_rf (w : Nat) (a : Option Addr) (b : List UInt8) (n0 n : Nat) (h : AH) (R : RdR h n0 n w a b) :
    RF Tryd.prog (· = w) 58 #[.pointer (some ⟨w, 0, none⟩)] n h (fun r n' h' => r = .tuple #[.bool (pF b).1, .int .i64 ((pF b).2.2 : Nat)] ∧ RdTo w a (b.drop (pF b).2.1) n0 n h n' h') := by
  refine RF.of Tryd.func58 rfl rfl (Nat.le_of_ble_eq_true rfl) ?_; dsimp only [argEnv]
  repeat' (first | refine stpS ?_ | (refine stp2 ?_ ?_ <;> intro _))
  have hhi := R.hi
  have R1 := R.ext (n1 := n + 1) (h1 := h.app (.new n ⟨1, 0, true, 0⟩ [.bool false])) ext (by omega)
  have hab : a = none ∨ sb a ≠ n := by
    rcases R.bs.two with q | ⟨x, y, q⟩
    · exact .inl q.1
    · right; have := R.bs.ltA (by rw [q]; simp); omega
  refine RS.call rfl opds (take_rf 68 n w a b n0 (n + 1) _ R1 (by omega) hab (pF b).2.1 (pF b).2.2 (fun n' h' => h'.cell n 0 = .bool (pF b).1 ∧ h'.info n = some ⟨1, 0, true, 0⟩) (fun q => by
      rcases pF_err b with k | k
      · exact k.2
      · omega)
    (takeFlag_rf b a n (n + 1) _ R1.bs R1.le (by omega) info cell)) (fun x hx => hx.imp id fun q => by omega) ?_
  rintro r n1 h1 hle ⟨h2, rfl, ⟨hq1, hq2⟩, hE, he, hR⟩
  have hE2 : ExtW (· = w) n h h2 := ((ExtW.refl (· = w) n h).appNew (m := ⟨1, 0, true, 0⟩) (cs := [.bool false]) (Nat.le_refl n)).then (hE.extM (Nat.le_succ n) (fun b hb => by omega)) (Nat.le_refl n)
  have hnw : n ≠ w := by omega
  have hn1 : n < n1 := by omega
  have hsub : sub a (pF b).2.1 = none ∨ sb (sub a (pF b).2.1) ≠ n := by
    rcases sub_sb a (pF b).2.1 with q | q
    · exact .inl q
    · right; rw [q.2]; exact hab.resolve_left q.1
  by_cases q : (pF b).2.2 = 0
  · rw [if_pos q] at he hR
    have hc1 : h1.cell n 0 = .bool (pF b).1 := by rw [he]; exact c_out (.inl hnw) hq1
    have hi1 : h1.info n = some ⟨1, 0, true, 0⟩ := by rw [he]; exact i_sets hq2
    have hE3 : ExtW (· = w) n h h1 := by rw [he]; exact hE2.appSets (.inl rfl)
    repeat' (first | refine stpS ?_ | (refine stp2 ?_ ?_ <;> intro _))
    exact ⟨rfl, _, hR.extW (W := (· = n)) ((ExtW.refl _ _ _).appSets (.inl rfl)) (Nat.le_refl _) (fun q => hnw q.symm) (fun q1 q2 => hsub.elim q1 fun k => k q2), hE3.appSets (.inr (Nat.le_refl n)), sub_sb a _⟩
  · rw [if_neg q] at he hR
    have hk : (pF b).2.1 = 0 := by
      rcases pF_err b with k | k
      · exact absurd k.1 q
      · exact k.2.1
    have hc1 : h1.cell n 0 = .bool (pF b).1 := by rw [he]; exact hq1
    have hi1 : h1.info n = some ⟨1, 0, true, 0⟩ := by rw [he]; exact hq2
    have hE3 : ExtW (· = w) n h h1 := by rw [he]; exact hE2
    rw [hk, List.drop_zero]
    repeat' (first | refine stpS ?_ | (refine stp2 ?_ ?_ <;> intro _))
    exact ⟨rfl, _, hR.extW (W := (· = n)) ((ExtW.refl _ _ _).appSets (.inl rfl)) (Nat.le_refl _) (fun q => hnw q.symm) (fun q1 q2 => hab.elim q1 fun k => k q2), hE3.appSets (.inr (Nat.le_refl n)), self_sb a⟩
end Go.Proofs.YtflhhipemmlgpaaDoor

/- Contracts of codec: a reader's bytes and texts. -/
namespace Go.Proofs.YtflhhipemmlgpaaDoor
open Go.Abs

def RdBTo (x : PB) (w : Nat) (a : Option Addr) (b' : List UInt8) (n0 n : Nat) (h : AH) (r : Value) (n' : Nat) (h' : AH) : Prop :=
  ∃ c, r = .tuple #[.slice c x.1.length x.1.length, .int .i64 (x.2.2 : Nat)] ∧ RdTo w a b' n0 n h n' h' ∧ OwnSl h' n n' c 1 x.1.length (bytesV x.1)
theorem pB_le {b l : List UInt8} {k : Nat} (h : pB b = (l, k, 0)) : l.length ≤ b.length := by
  obtain ⟨h1, h2⟩ := pB_ok h
  have := congrArg List.length h2
  have h3 := formB_ge l
  rw [List.length_take] at this
  omega
set_option maxHeartbeats 4000000 in
theorem rBytes_rf (w : Nat) (a : Option Addr) (b : List UInt8) (n0 n : Nat) (h : AH) (R : RdR h n0 n w a b) :
    RF Tryd.prog (· = w) 30 #[.pointer (some ⟨w, 0, none⟩)] n h (RdBTo (pB b) w a (b.drop (pB b).2.1) n0 n h) := by
  refine RF.of Tryd.func30 rfl rfl (Nat.le_of_ble_eq_true rfl) ?_; dsimp only [argEnv]
  repeat' (first | refine stpS ?_ | (refine stp2 ?_ ?_ <;> intro _))
  have hhi := R.hi
  have R1 := R.ext (n1 := n + 1) (h1 := h.app (.new n ⟨1, 0, true, 0⟩ [.slice none 0 0])) ext (by omega)
  have hab : a = none ∨ sb a ≠ n := by
    rcases R.bs.two with q | ⟨x, y, q⟩
    · exact .inl q.1
    · right; have := R.bs.ltA (by rw [q]; simp); omega
  refine RS.call rfl opds (take_rf 51 n w a b n0 (n + 1) _ R1 (by omega) hab (pB b).2.1 (pB b).2.2 (fun n' h' => ∃ c, h'.info n = some ⟨1, 0, true, 0⟩ ∧ ((pB b).2.2 = 0 → h'.cell n 0 = .slice c (pB b).1.length (pB b).1.length ∧ OwnSl h' (n + 1) n' c 1 (pB b).1.length (bytesV (pB b).1)))
    (fun q => (pB_ok (l := (pB b).1) (k := (pB b).2.1) (by rw [← q])).1)
    ((takeBytes_rf b a b.length n (n + 1) _ R1.bs rfl R1.le (by omega) info cell hab).mono (fun r n' h' ⟨c, q1, q2, q3, q4⟩ => ⟨q1, q2, c, q3, q4⟩))) (fun x hx => hx.imp id fun q => by omega) ?_
  rintro r n1 h1 hle ⟨h2, rfl, ⟨c, hq2, hq1⟩, hE, he, hR⟩
  have hE2 : ExtW (· = w) n h h2 := ((ExtW.refl (· = w) n h).appNew (m := ⟨1, 0, true, 0⟩) (cs := [.slice none 0 0]) (Nat.le_refl n)).then (hE.extM (Nat.le_succ n) (fun b hb => by omega)) (Nat.le_refl n)
  have hnw : n ≠ w := by omega
  have hn1 : n < n1 := by omega
  have hsub : sub a (pB b).2.1 = none ∨ sb (sub a (pB b).2.1) ≠ n := by
    rcases sub_sb a (pB b).2.1 with q | q
    · exact .inl q
    · right; rw [q.2]; exact hab.resolve_left q.1
  by_cases q : (pB b).2.2 = 0
  · rw [if_pos q] at he hR
    obtain ⟨hq1, hO⟩ := hq1 q
    have hcw : c = none ∨ sb c ≠ w := hO.at'.imp_right fun k => by omega
    have hcn : c = none ∨ sb c ≠ n := hO.at'.imp_right fun k => by omega
    have hc1 : h1.cell n 0 = .slice c (pB b).1.length (pB b).1.length := by rw [he]; exact c_out (.inl hnw) hq1
    have hi1 : h1.info n = some ⟨1, 0, true, 0⟩ := by rw [he]; exact i_sets hq2
    have hE3 : ExtW (· = w) n h h1 := by rw [he]; exact hE2.appSets (.inl rfl)
    have hO1 : OwnSl h1 (n + 1) n1 c 1 (pB b).1.length (bytesV (pB b).1) := by rw [he]; exact hO.setsN hcw
    repeat' (first | refine stpS ?_ | (refine stp2 ?_ ?_ <;> intro _))
    exact ⟨c, rfl, ⟨_, hR.extW (W := (· = n)) ((ExtW.refl _ _ _).appSets (.inl rfl)) (Nat.le_refl _) (fun q => hnw q.symm) (fun q1 q2 => hsub.elim q1 fun k => k q2), hE3.appSets (.inr (Nat.le_refl n)), sub_sb a _⟩, (hO1.setsN hcn).mono (Nat.le_succ n)⟩
  · rw [if_neg q] at he hR
    obtain ⟨k1, k2, k3⟩ := (pB_err b).resolve_left q
    have hi1 : h1.info n = some ⟨1, 0, true, 0⟩ := by rw [he]; exact hq2
    have hE3 : ExtW (· = w) n h h1 := by rw [he]; exact hE2
    rw [k2, List.drop_zero]
    repeat' (first | refine stpS ?_ | (refine stp2 ?_ ?_ <;> intro _))
    exact ⟨none, by rw [k1]; rfl, ⟨_, hR.extW (W := (· = n)) ((ExtW.refl _ _ _).appSets (.inl rfl)) (Nat.le_refl _) (fun q => hnw q.symm) (fun q1 q2 => hab.elim q1 fun k => k q2), hE3.appSets (.inr (Nat.le_refl n)), self_sb a⟩, by rw [k1]; exact OwnSl.nil (by omega)⟩
set_option maxHeartbeats 4000000 in
theorem rText_rf (w : Nat) (a : Option Addr) (b : List UInt8) (n0 n : Nat) (h : AH) (R : RdR h n0 n w a b) :
    RF Tryd.prog (· = w) 57 #[.pointer (some ⟨w, 0, none⟩)] n h (fun r n' h' => r = .tuple #[.string ⟨(pB b).1.toArray⟩, .int .i64 ((pB b).2.2 : Nat)] ∧ RdTo w a (b.drop (pB b).2.1) n0 n h n' h') := by
  refine RF.of Tryd.func57 rfl rfl (Nat.le_of_ble_eq_true rfl) ?_; dsimp only [argEnv]
  repeat' (first | refine stpS ?_ | (refine stp2 ?_ ?_ <;> intro _))
  refine RS.call rfl opds (rBytes_rf w a b n0 n h R) (fun x hx => .inl hx) ?_
  rintro r n1 h1 hle ⟨c, rfl, hT, hO⟩
  have hS := OwnSl.slbE hO
  repeat' (first | refine stpS ?_ | (refine stp2 ?_ ?_ <;> intro _))
  exact ⟨rfl, hT⟩
end Go.Proofs.YtflhhipemmlgpaaDoor

/- Contracts of the document's reader. -/
namespace Go.Proofs.YtflhhipemmlgpaaDoor
open Go.Abs

/-- The document's reader: the block w, what is left, b, at a. -/
structure RfR (h : AH) (n0 n w : Nat) (a : Option Addr) (b : List UInt8) : Prop where
  lo : n0 ≤ w
  hi : w < n
  inf : h.info w = some ⟨1, 0, true, 0⟩
  sl : h.cell w 0 = .slice a b.length b.length
  bs : SlB h n a b
  ne : a = none ∨ sb a ≠ w
  le : b.length ≤ 1073741824
theorem RfR.extW {W : Nat → Prop} {h h1 : AH} {n0 n n1 w : Nat} {a : Option Addr} {b : List UInt8} (R : RfR h n0 n w a b) (E : ExtW W n h h1) (hn : n ≤ n1) (hw : ¬ W w) (ha : a ≠ none → ¬ W (sb a)) : RfR h1 n0 n1 w a b :=
  ⟨R.lo, Nat.lt_of_lt_of_le R.hi hn, (E.info w R.hi hw).trans R.inf, (E.cell w 0 R.hi hw).trans R.sl, SlR.extW R.bs E hn ha, R.ne, R.le⟩
theorem RfR.ext {h h1 : AH} {n0 n n1 w : Nat} {a : Option Addr} {b : List UInt8} (R : RfR h n0 n w a b) (E : Ext n h h1) (hn : n ≤ n1) : RfR h1 n0 n1 w a b :=
  R.extW (W := none') (ExtW.of E (Nat.le_refl _)) hn (fun q => q) (fun _ q => q)
def RfTo (w : Nat) (a : Option Addr) (b' : List UInt8) (n0 n : Nat) (h : AH) (n' : Nat) (h' : AH) : Prop :=
  ∃ a', RfR h' n0 n' w a' b' ∧ ExtW (· = w) n h h' ∧ (a' = none ∨ a ≠ none ∧ sb a' = sb a)
theorem RfR.cut {h : AH} {n0 n w k : Nat} {a : Option Addr} {b : List UInt8} (R : RfR h n0 n w a b) (hk : k ≤ b.length) : RfR (h.app (.sets w 0 [.slice (sub a k) (b.length - k) (b.length - k)])) n0 n w (sub a k) (b.drop k) := by
  obtain ⟨hlo, hhi, hinf, hsl, hS, hne, hle⟩ := R
  have hdl : (b.drop k).length = b.length - k := List.length_drop
  have hs2 : sub a k = none ∨ sb (sub a k) ≠ w := by
    rcases sub_sb a k with q | q
    · exact .inl q
    · right; rw [q.2]; exact hne.resolve_left q.1
  refine ⟨hlo, hhi, i_sets hinf, by rw [hdl]; exact cell, ?_, hs2, by omega⟩
  have hS2 := SlB.cut hS hk (Nat.le_refl _)
  rw [List.take_length] at hS2
  exact SlR.extW (W := (· = w)) hS2 ((ExtW.refl _ _ _).appSets (.inl rfl)) (Nat.le_refl _) fun q1 q2 => hs2.elim q1 fun k => k q2
theorem pI_k (b : List UInt8) : (pI b).2.1 ≤ b.length := by
  rcases pI_err b with q | q
  · exact (pI_ok (b := b) (n := (pI b).1) (k := (pI b).2.1) (by rw [← q])).2.2.2.1
  · omega
theorem pB_k (b : List UInt8) : (pB b).2.1 ≤ b.length := by
  rcases pB_err b with q | q
  · exact (pB_ok (b := b) (l := (pB b).1) (k := (pB b).2.1) (by rw [← q])).1
  · omega
set_option maxHeartbeats 4000000 in
theorem refRInt_rf (w : Nat) (a : Option Addr) (b : List UInt8) (n0 n : Nat) (h : AH) (R : RfR h n0 n w a b) :
    RF Tryd.prog (· = w) 36 #[.pointer (some ⟨w, 0, none⟩)] n h (fun r n' h' => r = .tuple #[.int .i64 (pI b).1, .int .i64 ((pI b).2.2 : Nat)] ∧ RfTo w a (b.drop (pI b).2.1) n0 n h n' h') := by
  refine RF.of Tryd.func36 rfl rfl (Nat.le_of_ble_eq_true rfl) ?_; dsimp only [argEnv]
  have hk := pI_k b
  have hR2 := R.cut hk
  obtain ⟨hlo, hhi, hinf, hsl, hS, hne, hle⟩ := R
  repeat' (first | refine stpS ?_ | (refine stp2 ?_ ?_ <;> intro _))
  refine RS.call1 rfl opds (parseInt_ev b a _ _ _ hS rfl (by omega)) none'W ?_
  unfold pIV
  repeat' (first | refine stpS ?_ | (refine stp2 ?_ ?_ <;> intro _))
  rw [Int.toNat_natCast]
  exact ⟨rfl, _, hR2, (ExtW.refl _ _ _).appSets (.inl rfl), sub_sb a _⟩
set_option maxHeartbeats 4000000 in
theorem refRFlag_rf (w : Nat) (a : Option Addr) (b : List UInt8) (n0 n : Nat) (h : AH) (R : RfR h n0 n w a b) :
    RF Tryd.prog (· = w) 37 #[.pointer (some ⟨w, 0, none⟩)] n h (fun r n' h' => r = .tuple #[.bool (pF b).1, .int .i64 ((pF b).2.2 : Nat)] ∧ RfTo w a (b.drop (pF b).2.1) n0 n h n' h') := by
  refine RF.of Tryd.func37 rfl rfl (Nat.le_of_ble_eq_true rfl) ?_; dsimp only [argEnv]
  have hk := pI_k b
  have hR2 := R.cut hk
  have R0 := R
  obtain ⟨hlo, hhi, hinf, hsl, hS, hne, hle⟩ := R
  repeat' (first | refine stpS ?_ | (refine stp2 ?_ ?_ <;> intro _))
  refine RS.call1 rfl opds (parseInt_ev b a _ _ _ hS rfl (by omega)) none'W ?_
  unfold pIV
  have hF : pF b = pF b := rfl
  conv at hF => rhs; unfold pF
  by_cases q : (pI b).2.2 = 0
  · rw [if_pos q] at hF
    by_cases q0 : (pI b).1 = 0
    · rw [if_pos (.inl q0)] at hF
      rw [q, q0]
      repeat' (first | refine stpS ?_ | (refine stp2 ?_ ?_ <;> intro _))
      rw [Int.toNat_natCast, hF, q0]
      exact ⟨rfl, _, hR2, (ExtW.refl _ _ _).appSets (.inl rfl), sub_sb a _⟩
    · by_cases q1 : (pI b).1 = 1
      · rw [if_pos (.inr q1)] at hF
        rw [q, q1]
        repeat' (first | refine stpS ?_ | (refine stp2 ?_ ?_ <;> intro _))
        rw [Int.toNat_natCast, hF, q1]
        exact ⟨rfl, _, hR2, (ExtW.refl _ _ _).appSets (.inl rfl), sub_sb a _⟩
      · rw [if_neg (by omega)] at hF
        rw [q]
        repeat' (first | refine stpS ?_ | (refine stp2 ?_ ?_ <;> intro _))
        rw [hF]
        exact ⟨rfl, a, R0, ExtW.refl _ _ _, self_sb a⟩
  · rw [if_neg q] at hF
    repeat' (first | refine stpS ?_ | (refine stp2 ?_ ?_ <;> intro _))
    rw [hF]
    exact ⟨rfl, a, R0, ExtW.refl _ _ _, self_sb a⟩
def RfBTo (x : PB) (w : Nat) (a : Option Addr) (b' : List UInt8) (n0 n : Nat) (h : AH) (r : Value) (n' : Nat) (h' : AH) : Prop :=
  ∃ c, r = .tuple #[.slice c x.1.length x.1.length, .int .i64 (x.2.2 : Nat)] ∧ RfTo w a b' n0 n h n' h' ∧ OwnSl h' n n' c 1 x.1.length (bytesV x.1)
set_option maxHeartbeats 4000000 in
theorem refRBytes_rf (w : Nat) (a : Option Addr) (b : List UInt8) (n0 n : Nat) (h : AH) (R : RfR h n0 n w a b) :
    RF Tryd.prog (· = w) 38 #[.pointer (some ⟨w, 0, none⟩)] n h (RfBTo (pB b) w a (b.drop (pB b).2.1) n0 n h) := by
  refine RF.of Tryd.func38 rfl rfl (Nat.le_of_ble_eq_true rfl) ?_; dsimp only [argEnv]
  have hk := pB_k b
  have R0 := R
  obtain ⟨hlo, hhi, hinf, hsl, hS, hne, hle⟩ := R
  repeat' (first | refine stpS ?_ | (refine stp2 ?_ ?_ <;> intro _))
  refine RS.call rfl opds (parseBytes_rf b a _ _ _ hS rfl (by omega)) none'W ?_
  rintro r n1 h1 hle1 ⟨c, rfl, hE, hO⟩
  have R1 := R0.ext hE hle1
  have hR2 := R1.cut hk
  obtain ⟨-, hhi1, hinf1, hsl1, hS1, -, -⟩ := R1
  have hcw : c = none ∨ sb c ≠ w := hO.at'.imp_right fun k => by omega
  repeat' (first | refine stpS ?_ | (refine stp2 ?_ ?_ <;> intro _))
  rw [Int.toNat_natCast]
  exact ⟨c, rfl, ⟨_, hR2, (ExtW.of hE (Nat.le_refl _)).appSets (.inl rfl), sub_sb a _⟩, hO.setsN hcw⟩
end Go.Proofs.YtflhhipemmlgpaaDoor

/- Contracts of codec's laws: a piece's form, and how it is written. -/
namespace Go.Proofs.YtflhhipemmlgpaaDoor
open Go.Abs

/-- A piece. -/
structure Pc where
  w : Int
  v : Int
  s : List UInt8
def Pc.cells (x : Pc) : List Value := [.int .u8 x.w, .int .i64 x.v, .string ⟨x.s.toArray⟩]
structure Pc.Ok (x : Pc) (m : Nat) : Prop where
  w0 : 0 ≤ x.w
  w1 : x.w < 256
  v0 : -9223372036854775808 ≤ x.v
  v1 : x.v < 9223372036854775808
  sl : x.s.length ≤ m
def Pc.v_ (x : Pc) : Value := .agg x.cells.toArray
/-- A piece's form. -/
def Pc.fm (x : Pc) : List UInt8 := if x.w % 4 = 0 then form x.v else if x.w % 4 = 3 then form (x.v % 2) else formB x.s
theorem formB_le (l : List UInt8) : (formB l).length ≤ 2 * l.length + 2 := by
  unfold formB
  have := esc_le l
  rw [List.length_append]
  show _ + 2 ≤ _
  omega
theorem Pc.fm_le {x : Pc} {m : Nat} (ok : x.Ok m) : x.fm.length ≤ 2 * m + 9 := by
  unfold Pc.fm
  have h1 := form_le x.v ok.v0 ok.v1
  have h2 := form_le (x.v % 2) (by omega) (by omega)
  have h3 := formB_le x.s
  have := ok.sl
  split
  · omega
  · split <;> omega
theorem slbs_new (u : ByteArray) (n : Nat) (h : AH) : SlB (h.app (.new n ⟨(bytesV u.data.toList).length, 0, true, 1⟩ (bytesV u.data.toList))) (n + 1) (some ⟨n, 0, none⟩) u.data.toList := by
  have e : (bytesV u.data.toList).length = u.data.toList.length := bytesV_length _
  rw [e]; exact slb_new _ _ _
set_option maxHeartbeats 4000000 in
theorem pform_rf (x : Pc) (m n : Nat) (h : AH) (ok : x.Ok m) (hm : m ≤ 1073741824) :
    RF Tryd.prog none' 24 #[x.v_] n h (Row x.fm n h) := by
  refine RF.of Tryd.func24 rfl rfl (Nat.le_of_ble_eq_true rfl) ?_; dsimp only [argEnv]
  obtain ⟨w0, w1, v0, v1, sl⟩ := ok
  unfold Pc.v_ Pc.cells
  have hF : x.fm = x.fm := rfl
  conv at hF => rhs; unfold Pc.fm
  by_cases q0 : x.w % 4 = 0
  · rw [if_pos q0] at hF
    repeat' (first | refine stpS ?_ | (refine stp2 ?_ ?_ <;> intro _))
    refine RS.call rfl opds (refInt_rf x.v v0 v1 _ _) none'W ?_
    rintro r n1 h1 hle ⟨a, rfl, hE, hO⟩
    repeat' (first | refine stpS ?_ | (refine stp2 ?_ ?_ <;> intro _))
    rw [hF]
    exact ⟨a, rfl, ext, hO.mono (Nat.le_succ n)⟩
  · rw [if_neg q0] at hF
    by_cases q3 : x.w % 4 = 3
    · rw [if_pos q3] at hF
      repeat' (first | refine stpS ?_ | (refine stp2 ?_ ?_ <;> intro _))
      refine RS.put rfl rfl (o_and1 opd opd v0 v1) ?_
      repeat' (first | refine stpS ?_ | (refine stp2 ?_ ?_ <;> intro _))
      refine RS.call rfl opds (refInt_rf (x.v % 2) (by omega) (by omega) _ _) none'W ?_
      rintro r n1 h1 hle ⟨a, rfl, hE, hO⟩
      repeat' (first | refine stpS ?_ | (refine stp2 ?_ ?_ <;> intro _))
      rw [hF]
      exact ⟨a, rfl, ext, hO.mono (Nat.le_succ n)⟩
    · rw [if_neg q3] at hF
      repeat' (first | refine stpS ?_ | (refine stp2 ?_ ?_ <;> intro _))
      refine RS.gen (fun g => SlB g (n + 1 + 1) (some ⟨n + 1, 0, none⟩) x.s ∧ Ext n h g) ⟨slbs_new ⟨x.s.toArray⟩ _ _, ext⟩ ?_
      rintro g ⟨hS, hG⟩
      refine RS.call rfl opds (refBytes_rf x.s _ _ _ g hS (by simp [ByteArray.size]) (by simp [ByteArray.size]; omega)) none'W ?_
      rintro r n1 h1 hle ⟨a, rfl, hE, hO⟩
      repeat' (first | refine stpS ?_ | (refine stp2 ?_ ?_ <;> intro _))
      rw [hF]
      exact ⟨a, rfl, ext, hO.mono (by omega)⟩
set_option maxHeartbeats 4000000 in
theorem pto_rf (x : Pc) (m w : Nat) (a : Option Addr) (b : List UInt8) (n0 n : Nat) (h : AH) (R : WrR h n0 n w a b) (ok : x.Ok m) (hm : m ≤ 1073741824) :
    RF Tryd.prog (inW w a) 25 #[x.v_, .pointer (some ⟨w, 0, none⟩)] n h (WrTo w a b x.fm n0 n h) := by
  refine RF.of Tryd.func25 rfl rfl (Nat.le_of_ble_eq_true rfl) ?_; dsimp only [argEnv]
  obtain ⟨w0, w1, v0, v1, sl⟩ := ok
  unfold Pc.v_ Pc.cells
  have hsz : (⟨x.s.toArray⟩ : ByteArray).size = x.s.length := by simp [ByteArray.size]
  have hF : x.fm = x.fm := rfl
  conv at hF => rhs; unfold Pc.fm
  have fin : ∀ {y : List UInt8} {r : Value} {n1 : Nat} {h1 : AH} {g : AH} {k : Nat}, n ≤ k → Ext n h g → WrTo w a b y n0 k g r n1 h1 → x.fm = y → WrTo w a b x.fm n0 n h r n1 h1 := by
    rintro y r n1 h1 g k hk hG ⟨a', q1, q2, q3, q4⟩ e
    rw [e]
    exact ⟨a', q1, q2, q3.via hk (fun _ _ k => k) (ExtW.of hG (Nat.le_refl _)), q4.imp_right fun q => by omega⟩
  by_cases q0 : x.w % 4 = 0
  · rw [if_pos q0] at hF
    repeat' (first | refine stpS ?_ | (refine stp2 ?_ ?_ <;> intro _))
    refine RS.gen (fun g => Ext n h g) ext ?_
    rintro g hG
    refine RS.call rfl opds (wInt_rf w a b x.v v0 v1 n0 (n + 1) g (R.ext hG (Nat.le_succ n))) (fun x hx => .inl hx) ?_
    rintro r n1 h1 hle ht
    obtain ⟨a', rfl, -, -, -⟩ := id ht
    repeat' (first | refine stpS ?_ | (refine stp2 ?_ ?_ <;> intro _))
    exact fin (Nat.le_succ n) hG ht hF
  · rw [if_neg q0] at hF
    by_cases q3 : x.w % 4 = 3
    · rw [if_pos q3] at hF
      repeat' (first | refine stpS ?_ | (refine stp2 ?_ ?_ <;> intro _))
      refine RS.put rfl rfl (o_and1 opd opd v0 v1) ?_
      by_cases hodd : x.v % 2 = 1
      · rw [hodd] at hF
        repeat' (first | refine stpS ?_ | (refine stp2 ?_ ?_ <;> intro _))
        refine RS.gen (fun g => Ext n h g) ext ?_
        rintro g hG
        refine RS.call rfl opds (wFlag_rf w a b true n0 (n + 1) g (R.ext hG (Nat.le_succ n))) (fun x hx => .inl hx) ?_
        rintro r n1 h1 hle ht
        obtain ⟨a', rfl, -, -, -⟩ := id ht
        repeat' (first | refine stpS ?_ | (refine stp2 ?_ ?_ <;> intro _))
        exact fin (Nat.le_succ n) hG ht hF
      · rw [show x.v % 2 = 0 by omega] at hF
        repeat' (first | refine stpS ?_ | (refine stp2 ?_ ?_ <;> intro _))
        refine RS.gen (fun g => Ext n h g) ext ?_
        rintro g hG
        refine RS.call rfl opds (wFlag_rf w a b false n0 (n + 1) g (R.ext hG (Nat.le_succ n))) (fun x hx => .inl hx) ?_
        rintro r n1 h1 hle ht
        obtain ⟨a', rfl, -, -, -⟩ := id ht
        repeat' (first | refine stpS ?_ | (refine stp2 ?_ ?_ <;> intro _))
        exact fin (Nat.le_succ n) hG ht hF
    · rw [if_neg q3] at hF
      by_cases q1 : x.w % 4 = 1
      · repeat' (first | refine stpS ?_ | (refine stp2 ?_ ?_ <;> intro _))
        refine RS.gen (fun g => SlB g (n + 1 + 1) (some ⟨n + 1, 0, none⟩) x.s ∧ Ext n h g) ⟨slbs_new ⟨x.s.toArray⟩ _ _, ext⟩ ?_
        rintro g ⟨hS, hG⟩
        refine RS.call rfl opds (wBytes_rf w a _ b x.s _ n0 _ g (R.ext hG (by omega)) hS hsz (by omega)) (fun x hx => .inl hx) ?_
        rintro r n1 h1 hle ht
        obtain ⟨a', rfl, -, -, -⟩ := id ht
        repeat' (first | refine stpS ?_ | (refine stp2 ?_ ?_ <;> intro _))
        exact fin (by omega) hG ht hF
      · repeat' (first | refine stpS ?_ | (refine stp2 ?_ ?_ <;> intro _))
        refine RS.gen (fun g => Ext n h g) ext ?_
        rintro g hG
        refine RS.call rfl opds (wText_rf w a b ⟨x.s.toArray⟩ n0 (n + 1) g (R.ext hG (Nat.le_succ n)) (by omega)) (fun x hx => .inl hx) ?_
        rintro r n1 h1 hle ht
        obtain ⟨a', rfl, -, -, -⟩ := id ht
        repeat' (first | refine stpS ?_ | (refine stp2 ?_ ?_ <;> intro _))
        exact fin (by omega) hG ht (by rw [hF])
end Go.Proofs.YtflhhipemmlgpaaDoor

/- What the arguments of the codec's laws read as. -/
namespace Go.Proofs.YtflhhipemmlgpaaDoor
open Go.Abs Go.RowKit

structure PcsR (h : AH) (n : Nat) (a : Option Addr) (L : List Pc) (m : Nat) : Prop where
  shp : Shp h n a 3 L.length
  at_ : ∀ (i : Nat) (x : Pc), L[i]? = some x → (h.cell (sb a) (so a + i * 3) = .int .u8 x.w ∧ h.cell (sb a) (so a + i * 3 + 1) = .int .i64 x.v ∧ h.cell (sb a) (so a + i * 3 + 2) = .string ⟨x.s.toArray⟩) ∧ x.Ok m
theorem PcsR.ext {h h' : AH} {n n' m : Nat} {a : Option Addr} {L : List Pc} (B : PcsR h n a L m) (E : Ext n h h') (hn : n ≤ n') : PcsR h' n' a L m := by
  refine ⟨B.shp.ext E hn, fun i x hx => ?_⟩
  obtain ⟨⟨h0, h1, h2⟩, ok⟩ := B.at_ i x hx
  have hi : i < L.length := (List.getElem?_eq_some_iff.1 hx).1
  have hb : sb a < n := B.shp.lt (by omega)
  exact ⟨⟨(E.cell _ _ hb).trans h0, (E.cell _ _ hb).trans h1, (E.cell _ _ hb).trans h2⟩, ok⟩
section
variable {H : Type} {h : AH} {n : Nat} {d : DataW H} {a : Value}
set_option maxRecDepth 100000 in
theorem pc_cells {cs : List Value} (r : RepD Tryd.prog h 43 cs d) : ∃ x : Pc, cs = x.cells ∧ x.Ok (Rows.uptoBulk d) := by
  obtain ⟨parts, rfl, h1, h2, h3⟩ := r.struct_ Tryd.underlying43
  have h1 : cs.length = 3 := h1
  match parts, h2 with
  | [d1, d2, d3], _ =>
    match cs, h1 with
    | [c1, c2, c3], _ =>
      have r1 := h3 0 _ d1 rfl rfl
      have r2 := h3 1 _ d2 rfl rfl
      have r3 := h3 2 _ d3 rfl rfl
      obtain ⟨N1, e1, _, w1⟩ := RepD.int_ Tryd.underlying5 r1
      obtain ⟨N2, e2, _, w2⟩ := RepD.int_ Tryd.underlying2 r2
      obtain ⟨l3, e3, q3⟩ := RepD.str_ Tryd.underlying9 r3
      have e1' : [c1] = [.int .u8 N1] := e1
      have e2' : [c2] = [.int .i64 N2] := e2
      have e3' : [c3] = [.string ⟨l3.toArray⟩] := e3
      cases e1'; cases e2'; cases e3'
      have k3 : Rows.uptoBulk d3 ≤ Rows.uptoBulk (.agg [d1, d2, d3]) := bulk_part (by simp)
      have k4 : l3.length ≤ Rows.uptoBulk d3 := by rw [q3]; simp [Rows.uptoBulk]
      have i2 := int_of w2
      simp [Lit.wf, IntKind.min, IntKind.max, IntKind.signed, IntKind.bits] at w1
      exact ⟨⟨N1, N2, l3⟩, rfl, w1.1, by dsimp only; omega, i2.1, by have := i2.2; dsimp only; omega, by dsimp only; omega⟩
set_option maxRecDepth 100000 in
theorem pc_arg (r : RepA Tryd.prog h 43 a d) : ∃ x : Pc, a = .agg x.cells.toArray ∧ x.Ok (Rows.uptoBulk d) := by
  obtain ⟨cs, rfl, r'⟩ := RepA.agg Tryd.underlying43 r
  obtain ⟨x, rfl, ok⟩ := pc_cells r'
  exact ⟨x, rfl, ok⟩
set_option maxRecDepth 100000 in
theorem pcs_arg (lo : Low n h) (r : RepA Tryd.prog h 41 a d) : ∃ (c : Option Addr) (L : List Pc), a = .slice c L.length L.length ∧ PcsR h n c L (Rows.uptoBulk d) ∧ L.length ≤ Rows.uptoBulk d := by
  obtain ⟨c, L, elems, spare, e1, e2, e3, S, hx⟩ := RepD.list_ (fun cs d (x : Pc) => cs = x.cells ∧ x.Ok (Rows.uptoBulk d)) lo Tryd.underlying41 (fun cs d r => pc_cells r) (RepA.one Tryd.underlying41 (by intro fs h; cases h) r)
  cases e1
  have hz : Tryd.prog.cellsOf 43 = 3 := by kernel_rfl
  rw [hz] at S hx
  have k1 := bulk_elems e2
  refine ⟨c, L, rfl, ⟨Shp.of S, fun i x hi => ?_⟩, by omega⟩
  obtain ⟨d', hd, q1, q2⟩ := hx i x hi
  have kb := bulk_elem e2 (List.mem_of_getElem? hd)
  simp only [elC, List.range_succ, List.range_zero, List.nil_append, List.map_append, List.map_cons, List.map_nil, List.cons_append, Pc.cells, List.cons.injEq, and_true] at q1
  exact ⟨q1, q2.w0, q2.w1, q2.v0, q2.v1, by have := q2.sl; omega⟩
set_option maxRecDepth 100000 in
theorem u16_arg (r : RepA Tryd.prog h 24 a d) : ∃ x : Nat, a = .int .u16 x ∧ x < 65536 := by
  obtain ⟨x, h1, _, w⟩ := RepD.int_ Tryd.underlying24 (RepA.one Tryd.underlying24 (by intro fs h; cases h) r)
  cases h1
  simp [Lit.wf, IntKind.min, IntKind.max, IntKind.signed, IntKind.bits] at w
  refine ⟨x.toNat, by rw [Int.toNat_of_nonneg w.1], by omega⟩
set_option maxRecDepth 100000 in
theorem i64_arg (r : RepA Tryd.prog h 2 a d) : ∃ x : Int, a = .int .i64 x ∧ -9223372036854775808 ≤ x ∧ x < 9223372036854775808 := by
  obtain ⟨x, h1, _, w⟩ := RepD.int_ Tryd.underlying2 (RepA.one Tryd.underlying2 (by intro fs h; cases h) r)
  cases h1
  have := int_of w
  exact ⟨x, rfl, this.1, by have := this.2; omega⟩
set_option maxRecDepth 100000 in
theorem str_arg (r : RepA Tryd.prog h 9 a d) : ∃ l : List UInt8, a = .string ⟨l.toArray⟩ ∧ l.length ≤ Rows.uptoBulk d := by
  obtain ⟨l, h1, h2⟩ := RepD.str_ Tryd.underlying9 (RepA.one Tryd.underlying9 (by intro fs h; cases h) r)
  cases h1
  exact ⟨l, rfl, by rw [h2]; simp [Rows.uptoBulk]⟩
set_option maxRecDepth 100000 in
theorem bytes_arg (lo : Low n h) (r : RepA Tryd.prog h 23 a d) : ∃ (b : Option Addr) (l : List UInt8), a = .slice b l.length l.length ∧ SlB h n b l ∧ l.length ≤ Rows.uptoBulk d := by
  obtain ⟨b, l, elems, spare, e2, e3, e4, S⟩ := RepD.bytes_ lo Tryd.underlying23 Tryd.underlying5 (by kernel_rfl) (RepA.one Tryd.underlying23 (by intro fs h; cases h) r)
  cases e2
  have k1 := bulk_elems e3
  exact ⟨b, l, rfl, S, by omega⟩
set_option maxRecDepth 100000 in
theorem ints_arg (lo : Low n h) (r : RepA Tryd.prog h 22 a d) : ∃ (b : Option Addr) (l : List Int), a = .slice b l.length l.length ∧ SlN h n b .i64 l ∧ In64 l ∧ l.length ≤ Rows.uptoBulk d := by
  obtain ⟨b, l, elems, spare, e2, e3, e4, S, w⟩ := RepD.ints_ lo Tryd.underlying22 Tryd.underlying2 (by kernel_rfl) (RepA.one Tryd.underlying22 (by intro fs h; cases h) r)
  cases e2
  have k1 := bulk_elems e3
  exact ⟨b, l, rfl, S, fun v hv => by have := int_of (w v hv); exact ⟨this.1, by have := this.2; omega⟩, by omega⟩
end
end Go.Proofs.YtflhhipemmlgpaaDoor

/- Contracts of codec's laws: how a piece is read. -/
namespace Go.Proofs.YtflhhipemmlgpaaDoor
open Go.Abs

/-- What is read as a piece, how many bytes it takes, the error. -/
def Pc.rd (x : Pc) (b : List UInt8) : Pc × Nat × Nat :=
  if x.w % 4 = 0 then (⟨x.w, (pI b).1, []⟩, (pI b).2.1, (pI b).2.2)
  else if x.w % 4 = 3 then (⟨x.w, if (pF b).1 then 1 else 0, []⟩, (pF b).2.1, (pF b).2.2)
  else (⟨x.w, 0, (pB b).1⟩, (pB b).2.1, (pB b).2.2)
theorem RdTo.fin {W : Nat → Prop} {w n0 n k n1 : Nat} {a : Option Addr} {b' : List UInt8} {h g h1 h2 : AH} (hT : RdTo w a b' n0 k g n1 h1) (hE : Ext n h g) (hn : n ≤ k) (hk : n ≤ n1) (hwn : w < n) (ha : a = none ∨ sb a < n) (E : ExtW W n1 h1 h2) (hW : ∀ x, W x → n ≤ x) :
    RdTo w a b' n0 n h n1 h2 := by
  obtain ⟨a', R, E1, q⟩ := hT
  refine ⟨a', R.extW E (Nat.le_refl _) (fun k => by have := hW _ k; omega) (fun q1 q2 => ?_), ((ExtW.of hE (Nat.le_refl n)).trans E1 hn (fun _ _ k => k)).then (E.extM hk hW) (Nat.le_refl n), q⟩
  have := hW _ q2
  rcases q with q | ⟨q3, q4⟩
  · exact q1 q
  · have := ha.resolve_left q3; omega
set_option maxHeartbeats 4000000 in
theorem pfrom_rf (x : Pc) (m w : Nat) (a : Option Addr) (b : List UInt8) (n0 n : Nat) (h : AH) (R : RdR h n0 n w a b) (ok : x.Ok m) :
    RF Tryd.prog (· = w) 35 #[x.v_, .pointer (some ⟨w, 0, none⟩)] n h (fun r n' h' => r = .tuple #[(x.rd b).1.v_, .int .i64 ((x.rd b).2.2 : Nat)] ∧ RdTo w a (b.drop (x.rd b).2.1) n0 n h n' h') := by
  refine RF.of Tryd.func35 rfl rfl (Nat.le_of_ble_eq_true rfl) ?_; dsimp only [argEnv]
  obtain ⟨w0, w1, v0, v1, sl⟩ := ok
  unfold Pc.v_ Pc.cells
  have hwn := R.hi
  have han : a = none ∨ sb a < n := by
    rcases R.bs.two with q | ⟨x, y, q⟩
    · exact .inl q.1
    · right; exact R.bs.ltA (by rw [q]; simp)
  have hF : x.rd b = x.rd b := rfl
  conv at hF => rhs; unfold Pc.rd
  by_cases q0 : x.w % 4 = 0
  · rw [if_pos q0] at hF
    repeat' (first | refine stpS ?_ | (refine stp2 ?_ ?_ <;> intro _))
    refine RS.gen (fun g => Ext n h g ∧ g.cell (n + 1 + 1) 0 = .int .u8 x.w ∧ g.cell (n + 1 + 1) 1 = .int .i64 0 ∧ g.cell (n + 1 + 1) 2 = .string ByteArray.empty ∧ g.info (n + 1) = some ⟨3, 0, true, 0⟩ ∧ g.info (n + 1 + 1) = some ⟨3, 0, true, 0⟩) ⟨ext, cell, cell, cell, info, info⟩ ?_
    rintro g ⟨hG, g0, g1, g2, i1, i2⟩
    have hRg := R.ext (n1 := n + 1 + 1 + 1) hG (by omega)
    refine RS.call rfl opds (rInt_rf w a b n0 _ g hRg) (fun x hx => .inl hx) ?_
    rintro r n1 h1 hle ⟨rfl, hT⟩
    obtain ⟨-, -, E1, -⟩ := id hT
    have i1 := i_extW E1 (by omega) (by omega) i1
    have i2 := i_extW E1 (by omega) (by omega) i2
    have g0 := c_extW E1 (by omega) (by omega) g0
    have g1 := c_extW E1 (by omega) (by omega) g1
    have g2 := c_extW E1 (by omega) (by omega) g2
    have hl1 : n + 1 < n1 := by omega
    have hl2 : n + 1 + 1 < n1 := by omega
    repeat' (first | refine stpS ?_ | (refine stp2 ?_ ?_ <;> intro _))
    rw [hF]
    refine ⟨rfl, hT.fin (W := fun x => x = n + 1 ∨ x = n + 1 + 1) hG (by omega) (by omega) hwn han ?_ (fun x hx => by omega)⟩
    repeat apply ExtW.appSets (.inl (by omega))
    exact ExtW.refl _ _ _
  · rw [if_neg q0] at hF
    by_cases q3 : x.w % 4 = 3
    · rw [if_pos q3] at hF
      cases hb : (pF b).1
      all_goals rw [hb] at hF
      all_goals simp only [if_true, Bool.false_eq_true, if_false] at hF
      · repeat' (first | refine stpS ?_ | (refine stp2 ?_ ?_ <;> intro _))
        refine RS.gen (fun g => Ext n h g ∧ g.cell (n + 1 + 1) 0 = .int .u8 x.w ∧ g.cell (n + 1 + 1) 1 = .int .i64 0 ∧ g.cell (n + 1 + 1) 2 = .string ByteArray.empty ∧ g.info (n + 1) = some ⟨3, 0, true, 0⟩ ∧ g.info (n + 1 + 1) = some ⟨3, 0, true, 0⟩) ⟨ext, cell, cell, cell, info, info⟩ ?_
        rintro g ⟨hG, g0, g1, g2, i1, i2⟩
        have hRg := R.ext (n1 := n + 1 + 1 + 1) hG (by omega)
        refine RS.call rfl opds (rFlag_rf w a b n0 _ g hRg) (fun x hx => .inl hx) ?_
        rintro r n1 h1 hle ⟨rfl, hT⟩
        rw [hb]
        obtain ⟨-, -, E1, -⟩ := id hT
        have i1 := i_extW E1 (by omega) (by omega) i1
        have i2 := i_extW E1 (by omega) (by omega) i2
        have g0 := c_extW E1 (by omega) (by omega) g0
        have g1 := c_extW E1 (by omega) (by omega) g1
        have g2 := c_extW E1 (by omega) (by omega) g2
        have hl1 : n + 1 < n1 := by omega
        have hl2 : n + 1 + 1 < n1 := by omega
        repeat' (first | refine stpS ?_ | (refine stp2 ?_ ?_ <;> intro _))
        rw [hF]
        refine ⟨rfl, hT.fin (W := fun x => x = n + 1 ∨ x = n + 1 + 1) hG (by omega) (by omega) hwn han ?_ (fun x hx => by omega)⟩
        repeat apply ExtW.appSets (.inl (by omega))
        exact ExtW.refl _ _ _
      · repeat' (first | refine stpS ?_ | (refine stp2 ?_ ?_ <;> intro _))
        refine RS.gen (fun g => Ext n h g ∧ g.cell (n + 1 + 1) 0 = .int .u8 x.w ∧ g.cell (n + 1 + 1) 1 = .int .i64 0 ∧ g.cell (n + 1 + 1) 2 = .string ByteArray.empty ∧ g.info (n + 1) = some ⟨3, 0, true, 0⟩ ∧ g.info (n + 1 + 1) = some ⟨3, 0, true, 0⟩) ⟨ext, cell, cell, cell, info, info⟩ ?_
        rintro g ⟨hG, g0, g1, g2, i1, i2⟩
        have hRg := R.ext (n1 := n + 1 + 1 + 1) hG (by omega)
        refine RS.call rfl opds (rFlag_rf w a b n0 _ g hRg) (fun x hx => .inl hx) ?_
        rintro r n1 h1 hle ⟨rfl, hT⟩
        rw [hb]
        obtain ⟨-, -, E1, -⟩ := id hT
        have i1 := i_extW E1 (by omega) (by omega) i1
        have i2 := i_extW E1 (by omega) (by omega) i2
        have g0 := c_extW E1 (by omega) (by omega) g0
        have g1 := c_extW E1 (by omega) (by omega) g1
        have g2 := c_extW E1 (by omega) (by omega) g2
        have hl1 : n + 1 < n1 := by omega
        have hl2 : n + 1 + 1 < n1 := by omega
        repeat' (first | refine stpS ?_ | (refine stp2 ?_ ?_ <;> intro _))
        rw [hF]
        refine ⟨rfl, hT.fin (W := fun x => x = n + 1 ∨ x = n + 1 + 1) hG (by omega) (by omega) hwn han ?_ (fun x hx => by omega)⟩
        repeat apply ExtW.appSets (.inl (by omega))
        exact ExtW.refl _ _ _
    · rw [if_neg q3] at hF
      by_cases q1 : x.w % 4 = 1
      · repeat' (first | refine stpS ?_ | (refine stp2 ?_ ?_ <;> intro _))
        refine RS.gen (fun g => Ext n h g ∧ g.cell (n + 1 + 1) 0 = .int .u8 x.w ∧ g.cell (n + 1 + 1) 1 = .int .i64 0 ∧ g.cell (n + 1 + 1) 2 = .string ByteArray.empty ∧ g.info (n + 1) = some ⟨3, 0, true, 0⟩ ∧ g.info (n + 1 + 1) = some ⟨3, 0, true, 0⟩) ⟨ext, cell, cell, cell, info, info⟩ ?_
        rintro g ⟨hG, g0, g1, g2, i1, i2⟩
        have hRg := R.ext (n1 := n + 1 + 1 + 1) hG (by omega)
        refine RS.call rfl opds (rBytes_rf w a b n0 _ g hRg) (fun x hx => .inl hx) ?_
        rintro r n1 h1 hle ⟨c, rfl, hT, hO⟩
        have hSc := OwnSl.slbE hO
        obtain ⟨-, -, E1, -⟩ := id hT
        have i1 := i_extW E1 (by omega) (by omega) i1
        have i2 := i_extW E1 (by omega) (by omega) i2
        have g0 := c_extW E1 (by omega) (by omega) g0
        have g1 := c_extW E1 (by omega) (by omega) g1
        have g2 := c_extW E1 (by omega) (by omega) g2
        have hl1 : n + 1 < n1 := by omega
        have hl2 : n + 1 + 1 < n1 := by omega
        repeat' (first | refine stpS ?_ | (refine stp2 ?_ ?_ <;> intro _))
        rw [hF]
        refine ⟨rfl, hT.fin (W := fun x => x = n + 1 ∨ x = n + 1 + 1) hG (by omega) (by omega) hwn han ?_ (fun x hx => by omega)⟩
        repeat apply ExtW.appSets (.inl (by omega))
        exact ExtW.refl _ _ _
      · repeat' (first | refine stpS ?_ | (refine stp2 ?_ ?_ <;> intro _))
        refine RS.gen (fun g => Ext n h g ∧ g.cell (n + 1 + 1) 0 = .int .u8 x.w ∧ g.cell (n + 1 + 1) 1 = .int .i64 0 ∧ g.cell (n + 1 + 1) 2 = .string ByteArray.empty ∧ g.info (n + 1) = some ⟨3, 0, true, 0⟩ ∧ g.info (n + 1 + 1) = some ⟨3, 0, true, 0⟩) ⟨ext, cell, cell, cell, info, info⟩ ?_
        rintro g ⟨hG, g0, g1, g2, i1, i2⟩
        have hRg := R.ext (n1 := n + 1 + 1 + 1) hG (by omega)
        refine RS.call rfl opds (rText_rf w a b n0 _ g hRg) (fun x hx => .inl hx) ?_
        rintro r n1 h1 hle ⟨rfl, hT⟩
        obtain ⟨-, -, E1, -⟩ := id hT
        have i1 := i_extW E1 (by omega) (by omega) i1
        have i2 := i_extW E1 (by omega) (by omega) i2
        have g0 := c_extW E1 (by omega) (by omega) g0
        have g1 := c_extW E1 (by omega) (by omega) g1
        have g2 := c_extW E1 (by omega) (by omega) g2
        have hl1 : n + 1 < n1 := by omega
        have hl2 : n + 1 + 1 < n1 := by omega
        repeat' (first | refine stpS ?_ | (refine stp2 ?_ ?_ <;> intro _))
        rw [hF]
        refine ⟨rfl, hT.fin (W := fun x => x = n + 1 ∨ x = n + 1 + 1) hG (by omega) (by omega) hwn han ?_ (fun x hx => by omega)⟩
        repeat apply ExtW.appSets (.inl (by omega))
        exact ExtW.refl _ _ _
end Go.Proofs.YtflhhipemmlgpaaDoor

/- Pieces, held against each other. -/
namespace Go.Proofs.YtflhhipemmlgpaaDoor
open Go.Abs
theorem run_pc (w : World) (a b : Int) (x : ByteArray) (c d : Int) (y : ByteArray) (D : Nat) :
    (Op.equalIn (D + 2) 43 (.agg #[.int .u8 a, .int .i64 b, .string x]) (.agg #[.int .u8 c, .int .i64 d, .string y])).run Tryd.prog w = .ok (decide (a = c ∧ b = d ∧ x = y)) w := by
  have hS : Tryd.prog.underlying 43 = some (.struct (Tryd.prog.fieldsOf 43)) := by kernel_rfl
  have hp : Tryd.prog.stoodInHeld 43 = false := by kernel_rfl
  have a5 : ∀ w, (isAgg 5).run Tryd.prog w = .ok false w := fun w => (ty5.run_isAgg w).trans (by rfl)
  have a2 : ∀ w, (isAgg 2).run Tryd.prog w = .ok false w := fun w => (ty2.run_isAgg w).trans (by rfl)
  have a9 : ∀ w, (isAgg 9).run Tryd.prog w = .ok false w := fun w => (ty9.run_isAgg w).trans (by rfl)
  rw [run_equalIn_agg w (D + 1) 43 _ _ hS hp]
  simp only [Program.fieldsOf, Tryd.underlying43]
  have e5 : ∀ (x y : Int) w, (Op.equalIn (D + 1) 5 (.int .u8 x) (.int .u8 y)).run Tryd.prog w = .ok (x == y) w := fun x y w => run_equalIn_int w D 5 .u8 .u8 x y Tryd.underlying5
  have e2 : ∀ (x y : Int) w, (Op.equalIn (D + 1) 2 (.int .i64 x) (.int .i64 y)).run Tryd.prog w = .ok (x == y) w := fun x y w => run_equalIn_int w D 2 .i64 .i64 x y Tryd.underlying2
  have e9 : ∀ (x y : ByteArray) w, (Op.equalIn (D + 1) 9 (.string x) (.string y)).run Tryd.prog w = .ok (decide (x = y)) w := fun x y w => by
    rw [run_equalIn_string w D 9 x y Tryd.underlying9]
    have e : (x.toList == y.toList) = decide (x = y) := by
      by_cases h : x = y <;> simp [h, baList]
    rw [e]
  simp [Op.eqFields, part, a5, a2, a9, e5, e2, e9]
  by_cases h1 : a = c <;> by_cases h2 : b = d <;> by_cases h3 : x = y <;> simp [h1, h2, h3]
section
variable {P : Program} {T : Nat → Prop} {env : Env} {n : Nat} {g : AH} {dst : Option Tmp} {ty : TypeId} {pos : String} {after : Array Edge} {gd : Option (Nat × Bool)}
theorem o_nePc {t' : TypeId} {x y : Operand} {a b : Int} {u : ByteArray} {c d : Int} {v : ByteArray} {r : Bool} (hx : Opd env x (.agg #[.int .u8 a, .int .i64 b, .string u])) (hy : Opd env y (.agg #[.int .u8 c, .int .i64 d, .string v]))
    (hr : r = !decide (a = c ∧ b = d ∧ u = v)) : OpEv Tryd.prog T ⟨dst, .binOp .neq 43 x y t', ty, pos, after, gd⟩ env n g (.bool r) n .nil := by
  subst hr
  refine op_eqA (.inr rfl) (by kernel_rfl) hx.ev hy.ev (fun i hi => ?_) (fun i hi => ?_) fun w => ?_
  · have hi : i < 3 := hi
    rcases (show i = 0 ∨ i = 1 ∨ i = 2 by omega) with rfl | rfl | rfl <;> rfl
  · have hi : i < 3 := hi
    rcases (show i = 0 ∨ i = 1 ∨ i = 2 by omega) with rfl | rfl | rfl <;> rfl
  · rw [run_neq_struct, show (10000 : Nat) = 9998 + 2 from rfl, run_pc]; rfl
end
end Go.Proofs.YtflhhipemmlgpaaDoor

/- The law CodecTakes. -/
namespace Go.Proofs.YtflhhipemmlgpaaDoor
open Go.Abs

/-- A piece's cells in block k. -/
structure PcAt (h : AH) (k : Nat) (w v : Int) (s : List UInt8) : Prop where
  c0 : h.cell k 0 = .int .u8 w
  c1 : h.cell k 1 = .int .i64 v
  c2 : h.cell k 2 = .string ⟨s.toArray⟩
set_option maxHeartbeats 4000000 in
theorem law_CodecTakes (a a0 : Option Addr) (b : List UInt8) (l : List Pc) (m : Nat) (n : Nat) (h : AH) (S : SlB h n a b) (B : PcsR h n a0 l m) (hb : b.length ≤ 1048576) (hl : l.length ≤ 1048576) (hm : m ≤ 1048576) :
    RF Tryd.prog none' 9 #[.slice a b.length b.length, .slice a0 l.length l.length] n h (fun r _ _ => r = .bool true) := by
  refine RF.of Tryd.func9 rfl rfl (Nat.le_of_ble_eq_true rfl) ?_; dsimp only [argEnv]
  repeat' (first | refine stpS ?_ | (refine stp2 ?_ ?_ <;> intro _))
  refine RS.call rfl opds (newReader_rf b a _ n h S rfl (by omega)) none'W ?_
  rintro r n1 h1 hle1 ⟨w, ar, rfl, hE1, hR1, har⟩
  have hwlo := hR1.lo
  have hwhi := hR1.hi
  repeat' (first | refine stpS ?_ | (refine stp2 ?_ ?_ <;> intro _))
  refine RS.call1 rfl opds (begun_ev _ _) none'W ?_
  repeat' (first | refine stpS ?_ | (refine stp2 ?_ ?_ <;> intro _))
  have hSa : a = none ∨ sb a < n := by
    rcases S.two with q | ⟨x, y, q⟩
    · exact .inl q.1
    · right; exact S.ltA (by rw [q]; simp)
  have hR2 := hR1.ext (n1 := n1 + 1) (h1 := h1.app (.new n1 ⟨1, 0, true, 0⟩ [.slice a b.length b.length])) ext (Nat.le_succ _)
  have hF2 : RfR (h1.app (.new n1 ⟨1, 0, true, 0⟩ [.slice a b.length b.length])) n (n1 + 1) n1 a b := ⟨by omega, Nat.lt_succ_self _, info, cell, S.ext ext (by omega), hSa.imp_right fun q => by omega, by omega⟩
  have har1 : ar = none ∨ sb ar ≠ n1 := by
    rcases hR1.bs.two with q | ⟨x, y, q⟩
    · exact .inl q.1
    · right; have := hR1.bs.ltA (by rw [q]; simp); omega
  have hE2 : Ext n h (h1.app (.new n1 ⟨1, 0, true, 0⟩ [.slice a b.length b.length])) := ext
  refine RC.gen (fun g => Ext n h g ∧ RdR g n (n1 + 1) w ar b ∧ RfR g n (n1 + 1) n1 a b) ⟨hE2, hR2, hF2⟩ ?_
  clear hR2 hF2 hE2
  rintro g ⟨hE2, hR2, hF2⟩
  refine RC.loop ?_
  refine RL.inv (α := Nat × Option Addr × Option Addr × List UInt8) (fun s => [(28, .int .i64 (s.1 : Nat)), (27, .int .i64 (l.length : Nat)), (26, .slice a0 l.length l.length), (5, .pointer (some ⟨w, 0, none⟩)), (6, .pointer (some ⟨n1, 0, none⟩))])
    (fun s n2 h2 => s.1 ≤ l.length ∧ n1 < n2 ∧ Ext n h h2 ∧ RdR h2 n n2 w s.2.1 s.2.2.2 ∧ RfR h2 n n2 n1 s.2.2.1 s.2.2.2 ∧ (s.2.1 = none ∨ sb s.2.1 ≠ n1) ∧ (s.2.2.1 = none ∨ sb s.2.2.1 ≠ w))
    (fun s => l.length - s.1) (0, ar, a, b) envs ⟨by omega, Nat.lt_succ_self _, hE2, hR2, hF2, har1, hSa.imp_right fun q => by dsimp only; omega⟩ ?_
  clear hR2 hF2 hE2 har1 hR1 hE1 har hSa
  rintro ⟨i, ar, af, b⟩ n2 h2 ⟨hi, hn2, hE2, hR2, hF2, har, haf⟩
  dsimp only at hi hn2 hE2 hR2 hF2 har haf ⊢
  have hble := hR2.le
  by_cases hlt : i < l.length
  · obtain ⟨x, hx⟩ : ∃ x, l[i]? = some x := ⟨l[i], by simp [hlt]⟩
    have B2 := B.ext hE2 (by omega : n ≤ n2)
    obtain ⟨⟨k0, k1, k2⟩, ok⟩ := B2.at_ i x hx
    have hA := B2.shp.sla
    have hbl : sb a0 < n2 := B2.shp.lt (by omega)
    have E3 : Ext n2 h2 ((h2.app (.new n2 ⟨3, 0, true, 0⟩ [.int .u8 0, .int .i64 0, .string ByteArray.empty])).app (.sets n2 0 x.cells)) := ext
    repeat' (first | refine stpS ?_ | (refine stp2 ?_ ?_ <;> intro _))
    refine RS.gen (fun g => Ext n2 h2 g ∧ g.cell n2 0 = .int .u8 x.w ∧ g.cell n2 1 = .int .i64 x.v ∧ g.cell n2 2 = .string ⟨x.s.toArray⟩) ⟨E3, cell, cell, cell⟩ ?_
    clear E3
    rintro g ⟨E3, g0, g1, g2⟩
    have hR3 := hR2.ext E3 (Nat.le_succ n2)
    have hF3 := hF2.ext E3 (Nat.le_succ n2)
    refine RS.call rfl opds (pfrom_rf x m w ar b n (n2 + 1) g hR3 ok) (fun x hx => by subst hx; exact .inr hwlo) ?_
    rintro r n3 h3 hle3 ⟨rfl, ar', hR4, E4, har'⟩
    have g0 := c_extW E4 (Nat.lt_succ_self n2) (by omega) g0
    have g1 := c_extW E4 (Nat.lt_succ_self n2) (by omega) g1
    have g2 := c_extW E4 (Nat.lt_succ_self n2) (by omega) g2
    have hF4 := hF3.extW E4 hle3 (by omega) (fun q1 q2 => haf.elim q1 fun k => k q2)
    have har4 : ar' = none ∨ sb ar' ≠ n1 := by
      rcases har' with q | ⟨q, q2⟩
      · exact .inl q
      · right; rw [q2]; exact har.resolve_left q
    have E5 : Ext n h h3 := (hE2.trans (by omega) E3).trans (by omega) (E4.extM (m := n) (by omega) (fun b hb => by omega))
    have hn23 : n2 < n3 := by omega
    have w0 := ok.w0
    have w1 := ok.w1
    have hrd : x.rd b = x.rd b := rfl
    conv at hrd => rhs; unfold Pc.rd
    obtain ⟨⟨qw, qv, qs⟩, k, e, hx2⟩ : ∃ q : Pc, ∃ k e, x.rd b = (q, k, e) := ⟨_, _, _, rfl⟩
    rw [hx2] at hrd hR4
    rw [hx2]
    dsimp only at hR4 ⊢
    unfold Pc.v_ Pc.cells
    by_cases q0 : x.w % 4 = 0
    · rw [if_pos q0] at hrd
      simp only [Prod.mk.injEq, Pc.mk.injEq] at hrd
      obtain ⟨⟨rfl, rfl, rfl⟩, rfl, rfl⟩ := hrd
      repeat' (first | refine stpS ?_ | (refine stp2 ?_ ?_ <;> intro _))
      refine RS.gen (fun g => Ext n3 h3 g ∧ PcAt g n3 x.w (pI b).1 [] ∧ PcAt g (n3 + 1) x.w 0 [] ∧ g.info (n3 + 1) = some ⟨3, 0, true, 0⟩) ⟨ext, ⟨cell, cell, cell⟩, ⟨cell, cell, cell⟩, info⟩ ?_
      rintro g2 ⟨E6, ⟨c0, c1, c2⟩, ⟨d0, d1, d2⟩, iw⟩
      refine RS.call rfl opds (refRInt_rf n1 af b n _ g2 (hF4.ext E6 (by omega))) (fun x hx => by subst hx; exact .inr (by omega)) ?_
      rintro r n4 h4 hle4 ⟨rfl, af', hF5, E7, haf'⟩
      have c0 := c_extW E7 (by omega) (by omega) c0
      have c1 := c_extW E7 (by omega) (by omega) c1
      have c2 := c_extW E7 (by omega) (by omega) c2
      have d0 := c_extW E7 (by omega) (by omega) d0
      have d1 := c_extW E7 (by omega) (by omega) d1
      have d2 := c_extW E7 (by omega) (by omega) d2
      have iw := i_extW E7 (by omega) (by omega) iw
      have hR5 := (hR4.ext E6 (by omega)).extW E7 hle4 (by omega) (fun q1 q2 => har4.elim q1 fun k => k q2)
      have hl3 : n3 < n4 := by omega
      have hl4 : n3 + 1 < n4 := by omega
      have hafw : af' = none ∨ sb af' ≠ w := by
        rcases haf' with q | ⟨q, q2⟩
        · exact .inl q
        · right; rw [q2]; exact haf.resolve_left q
      have E9 : Ext n h h4 := (E5.trans (by omega) E6).trans (by omega) (E7.extM (m := n) (by omega) (fun b hb => by omega))
      have hsr : ar' ≠ none → sb ar' ≠ n3 + 1 := fun q1 q2 => by
        rcases hR4.bs.two with q | ⟨x, y, q⟩
        · exact q1 q.1
        · have := hR4.bs.ltA q1; omega
      have hsf : af' ≠ none → sb af' ≠ n3 + 1 := fun q1 q2 => by
        rcases haf' with q | ⟨q, q3⟩
        · exact q1 q
        · have := hF4.bs.ltA q; omega
      repeat' (first | refine stp ?_ | (refine stp2 ?_ ?_ <;> intro _))
      refine RD.gen (fun g => RdR g n n4 w ar' (b.drop (pI b).2.1) ∧ RfR g n n4 n1 af' (b.drop (pI b).2.1) ∧ Ext n h g) ⟨hR5.extW (W := (· = n3 + 1)) ((ExtW.refl _ _ _).appSets (.inl rfl)) (Nat.le_refl _) (by omega) (fun q1 q2 => hsr q1 q2), hF5.extW (W := (· = n3 + 1)) ((ExtW.refl _ _ _).appSets (.inl rfl)) (Nat.le_refl _) (by omega) (fun q1 q2 => hsf q1 q2), E9.appSets (by omega)⟩ ?_
      rintro g3 ⟨hR6, hF6, E8⟩
      have hleft := left_ev w ar' _ n n4 (g3.below n4) (hR6.ext (AH.below_ext g3 n4) (Nat.le_refl _))
      have hsl6 := hF6.sl
      have hn14 : n1 < n4 := by omega
      refine RD.put rfl rfl (o_nePc opd opd (r := false) (by simp)) ?_
      repeat' (first | refine stp ?_ | (refine stp2 ?_ ?_ <;> intro _))
      refine RD.callP n4 rfl opds hleft (Nat.le_refl _) cfc ?_
      repeat' (first | refine stp ?_ | (refine stp2 ?_ ?_ <;> intro _))
      exact nextC.normal ⟨(i + 1, ar', af', b.drop (pI b).2.1), by dsimp only; omega, envs, by dsimp only; omega, by omega, E8, hR6, hF6, har4, hafw⟩
    · rw [if_neg q0] at hrd
      by_cases q3 : x.w % 4 = 3
      · rw [if_pos q3] at hrd
        simp only [Prod.mk.injEq, Pc.mk.injEq] at hrd
        obtain ⟨⟨rfl, hqv, rfl⟩, rfl, rfl⟩ := hrd
        repeat' (first | refine stpS ?_ | (refine stp2 ?_ ?_ <;> intro _))
        refine RS.gen (fun g => Ext n3 h3 g ∧ PcAt g n3 x.w qv [] ∧ PcAt g (n3 + 1) x.w 0 [] ∧ g.info (n3 + 1) = some ⟨3, 0, true, 0⟩) ⟨ext, ⟨cell, cell, cell⟩, ⟨cell, cell, cell⟩, info⟩ ?_
        rintro g2 ⟨E6, ⟨c0, c1, c2⟩, ⟨d0, d1, d2⟩, iw⟩
        refine RS.call rfl opds (refRFlag_rf n1 af b n _ g2 (hF4.ext E6 (by omega))) (fun x hx => by subst hx; exact .inr (by omega)) ?_
        rintro r n4 h4 hle4 ⟨rfl, af', hF5, E7, haf'⟩
        have c0 := c_extW E7 (by omega) (by omega) c0
        have c1 := c_extW E7 (by omega) (by omega) c1
        have c2 := c_extW E7 (by omega) (by omega) c2
        have d0 := c_extW E7 (by omega) (by omega) d0
        have d1 := c_extW E7 (by omega) (by omega) d1
        have d2 := c_extW E7 (by omega) (by omega) d2
        have iw := i_extW E7 (by omega) (by omega) iw
        have hR5 := (hR4.ext E6 (by omega)).extW E7 hle4 (by omega) (fun q1 q2 => har4.elim q1 fun k => k q2)
        have hl3 : n3 < n4 := by omega
        have hl4 : n3 + 1 < n4 := by omega
        have hafw : af' = none ∨ sb af' ≠ w := by
          rcases haf' with q | ⟨q, q2⟩
          · exact .inl q
          · right; rw [q2]; exact haf.resolve_left q
        have E9 : Ext n h h4 := (E5.trans (by omega) E6).trans (by omega) (E7.extM (m := n) (by omega) (fun b hb => by omega))
        have hsr : ar' ≠ none → sb ar' ≠ n3 + 1 := fun q1 q2 => by
          rcases hR4.bs.two with q | ⟨x, y, q⟩
          · exact q1 q.1
          · have := hR4.bs.ltA q1; omega
        have hsf : af' ≠ none → sb af' ≠ n3 + 1 := fun q1 q2 => by
          rcases haf' with q | ⟨q, q3⟩
          · exact q1 q
          · have := hF4.bs.ltA q; omega
        cases hb : (pF b).1
        · rw [hb] at hqv
          simp only [Bool.false_eq_true, if_false] at hqv
          subst hqv
          repeat' (first | refine stp ?_ | (refine stp2 ?_ ?_ <;> intro _))
          refine RD.gen (fun g => RdR g n n4 w ar' (b.drop (pF b).2.1) ∧ RfR g n n4 n1 af' (b.drop (pF b).2.1) ∧ Ext n h g) ⟨hR5, hF5, E9⟩ ?_
          rintro g3 ⟨hR6, hF6, E8⟩
          have hleft := left_ev w ar' _ n n4 (g3.below n4) (hR6.ext (AH.below_ext g3 n4) (Nat.le_refl _))
          have hsl6 := hF6.sl
          have hn14 : n1 < n4 := by omega
          refine RD.put rfl rfl (o_nePc opd opd (r := false) (by simp)) ?_
          repeat' (first | refine stp ?_ | (refine stp2 ?_ ?_ <;> intro _))
          refine RD.callP n4 rfl opds hleft (Nat.le_refl _) cfc ?_
          repeat' (first | refine stp ?_ | (refine stp2 ?_ ?_ <;> intro _))
          exact nextC.normal ⟨(i + 1, ar', af', b.drop (pF b).2.1), by dsimp only; omega, envs, by dsimp only; omega, by omega, E8, hR6, hF6, har4, hafw⟩
        · rw [hb] at hqv
          simp only [if_true] at hqv
          subst hqv
          repeat' (first | refine stp ?_ | (refine stp2 ?_ ?_ <;> intro _))
          refine RD.gen (fun g => RdR g n n4 w ar' (b.drop (pF b).2.1) ∧ RfR g n n4 n1 af' (b.drop (pF b).2.1) ∧ Ext n h g) ⟨hR5.extW (W := (· = n3 + 1)) ((ExtW.refl _ _ _).appSets (.inl rfl)) (Nat.le_refl _) (by omega) (fun q1 q2 => hsr q1 q2), hF5.extW (W := (· = n3 + 1)) ((ExtW.refl _ _ _).appSets (.inl rfl)) (Nat.le_refl _) (by omega) (fun q1 q2 => hsf q1 q2), E9.appSets (by omega)⟩ ?_
          rintro g3 ⟨hR6, hF6, E8⟩
          have hleft := left_ev w ar' _ n n4 (g3.below n4) (hR6.ext (AH.below_ext g3 n4) (Nat.le_refl _))
          have hsl6 := hF6.sl
          have hn14 : n1 < n4 := by omega
          refine RD.put rfl rfl (o_nePc opd opd (r := false) (by simp)) ?_
          repeat' (first | refine stp ?_ | (refine stp2 ?_ ?_ <;> intro _))
          refine RD.callP n4 rfl opds hleft (Nat.le_refl _) cfc ?_
          repeat' (first | refine stp ?_ | (refine stp2 ?_ ?_ <;> intro _))
          exact nextC.normal ⟨(i + 1, ar', af', b.drop (pF b).2.1), by dsimp only; omega, envs, by dsimp only; omega, by omega, E8, hR6, hF6, har4, hafw⟩
      · rw [if_neg q3] at hrd
        simp only [Prod.mk.injEq, Pc.mk.injEq] at hrd
        obtain ⟨⟨rfl, rfl, rfl⟩, rfl, rfl⟩ := hrd
        repeat' (first | refine stpS ?_ | (refine stp2 ?_ ?_ <;> intro _))
        refine RS.gen (fun g => Ext n3 h3 g ∧ PcAt g n3 x.w 0 (pB b).1 ∧ PcAt g (n3 + 1) x.w 0 [] ∧ g.info (n3 + 1) = some ⟨3, 0, true, 0⟩) ⟨ext, ⟨cell, cell, cell⟩, ⟨cell, cell, cell⟩, info⟩ ?_
        rintro g2 ⟨E6, ⟨c0, c1, c2⟩, ⟨d0, d1, d2⟩, iw⟩
        refine RS.call rfl opds (refRBytes_rf n1 af b n _ g2 (hF4.ext E6 (by omega))) (fun x hx => by subst hx; exact .inr (by omega)) ?_
        rintro r n4 h4 hle4 ⟨c, rfl, ⟨af', hF5, E7, haf'⟩, hO⟩
        have hSc := OwnSl.slbE hO
        have c0 := c_extW E7 (by omega) (by omega) c0
        have c1 := c_extW E7 (by omega) (by omega) c1
        have c2 := c_extW E7 (by omega) (by omega) c2
        have d0 := c_extW E7 (by omega) (by omega) d0
        have d1 := c_extW E7 (by omega) (by omega) d1
        have d2 := c_extW E7 (by omega) (by omega) d2
        have iw := i_extW E7 (by omega) (by omega) iw
        have hR5 := (hR4.ext E6 (by omega)).extW E7 hle4 (by omega) (fun q1 q2 => har4.elim q1 fun k => k q2)
        have hl3 : n3 < n4 := by omega
        have hl4 : n3 + 1 < n4 := by omega
        have hafw : af' = none ∨ sb af' ≠ w := by
          rcases haf' with q | ⟨q, q2⟩
          · exact .inl q
          · right; rw [q2]; exact haf.resolve_left q
        have E9 : Ext n h h4 := (E5.trans (by omega) E6).trans (by omega) (E7.extM (m := n) (by omega) (fun b hb => by omega))
        have hsr : ar' ≠ none → sb ar' ≠ n3 + 1 := fun q1 q2 => by
          rcases hR4.bs.two with q | ⟨x, y, q⟩
          · exact q1 q.1
          · have := hR4.bs.ltA q1; omega
        have hsf : af' ≠ none → sb af' ≠ n3 + 1 := fun q1 q2 => by
          rcases haf' with q | ⟨q, q3⟩
          · exact q1 q
          · have := hF4.bs.ltA q; omega
        repeat' (first | refine stp ?_ | (refine stp2 ?_ ?_ <;> intro _))
        refine RD.gen (fun g => RdR g n n4 w ar' (b.drop (pB b).2.1) ∧ RfR g n n4 n1 af' (b.drop (pB b).2.1) ∧ Ext n h g) ⟨hR5.extW (W := (· = n3 + 1)) ((ExtW.refl _ _ _).appSets (.inl rfl)) (Nat.le_refl _) (by omega) (fun q1 q2 => hsr q1 q2), hF5.extW (W := (· = n3 + 1)) ((ExtW.refl _ _ _).appSets (.inl rfl)) (Nat.le_refl _) (by omega) (fun q1 q2 => hsf q1 q2), E9.appSets (by omega)⟩ ?_
        rintro g3 ⟨hR6, hF6, E8⟩
        have hleft := left_ev w ar' _ n n4 (g3.below n4) (hR6.ext (AH.below_ext g3 n4) (Nat.le_refl _))
        have hsl6 := hF6.sl
        have hn14 : n1 < n4 := by omega
        refine RD.put rfl rfl (o_nePc opd opd (r := false) (by simp)) ?_
        repeat' (first | refine stp ?_ | (refine stp2 ?_ ?_ <;> intro _))
        refine RD.callP n4 rfl opds hleft (Nat.le_refl _) cfc ?_
        repeat' (first | refine stp ?_ | (refine stp2 ?_ ?_ <;> intro _))
        exact nextC.normal ⟨(i + 1, ar', af', b.drop (pB b).2.1), by dsimp only; omega, envs, by dsimp only; omega, by omega, E8, hR6, hF6, har4, hafw⟩
  · have hsl2 := hF2.sl
    have hn12 : n1 < n2 := hn2
    have hend := end_ev w ar b n n2 h2 hR2
    by_cases q : 0 < b.length
    · rw [if_pos q] at hend
      repeat' (first | refine stpS ?_ | (refine stp2 ?_ ?_ <;> intro _))
      refine RS.call1 rfl opds hend none'W ?_
      repeat' (first | refine stpS ?_ | (refine stp2 ?_ ?_ <;> intro _))
      rfl
    · rw [if_neg q] at hend
      repeat' (first | refine stpS ?_ | (refine stp2 ?_ ?_ <;> intro _))
      refine RS.call1 rfl opds hend none'W ?_
      repeat' (first | refine stpS ?_ | (refine stp2 ?_ ?_ <;> intro _))
      rfl
end Go.Proofs.YtflhhipemmlgpaaDoor

/- Contracts of codec: a writer and a reader that no call made. -/
namespace Go.Proofs.YtflhhipemmlgpaaDoor
open Go.Abs

/-- What no call made: nil, or nought. -/
def NoP (h : AH) (n : Nat) (p : Option Addr) : Prop := p = none ∨ ∃ w, p = some ⟨w, 0, none⟩ ∧ w < n ∧ h.cell w 0 = .bool false ∧ h.cell w 1 = .slice none 0 0 ∧ h.info w = some ⟨2, 0, true, 0⟩
theorem NoP.mono {h : AH} {n n' : Nat} {p : Option Addr} (N : NoP h n p) (hn : n ≤ n') : NoP h n' p := by
  rcases N with q | ⟨w, q, hw, k⟩
  · exact .inl q
  · exact .inr ⟨w, q, by omega, k⟩
theorem NoP.ext {h h' : AH} {n n' : Nat} {p : Option Addr} (N : NoP h n p) (E : Ext n h h') (hn : n ≤ n') : NoP h' n' p := by
  rcases N with q | ⟨w, q, hw, k0, k1, k2⟩
  · exact .inl q
  · exact .inr ⟨w, q, by omega, (E.cell w 0 hw).trans k0, (E.cell w 1 hw).trans k1, (E.info w hw).trans k2⟩
set_option maxHeartbeats 4000000 in
theorem moreN_ev (a : Option Addr) (m : Nat) (p : Option Addr) (n : Nat) (h : AH) (N : NoP h n p) :
    Ev Tryd.prog none' 48 #[.pointer p, .slice a m m] n h (.int .i64 2) n h := by
  refine RF.pure (by rfl) fun n' hn => ?_
  have N := N.mono hn
  refine RF.of Tryd.func48 rfl rfl (Nat.le_of_ble_eq_true rfl) ?_; dsimp only [argEnv]
  rcases N with rfl | ⟨w, rfl, hw, hc0, hc1, hi⟩
  · repeat' (first | refine stpS ?_ | (refine stp2 ?_ ?_ <;> intro _))
    rfl
  · repeat' (first | refine stpS ?_ | (refine stp2 ?_ ?_ <;> intro _))
    rfl
set_option maxHeartbeats 4000000 in
theorem wIntN_ev (v : Int) (hlo : -9223372036854775808 ≤ v) (hhi : v < 9223372036854775808) (p : Option Addr) (n : Nat) (h : AH) (N : NoP h n p) :
    Ev Tryd.prog none' 43 #[.pointer p, .int .i64 v] n h (.int .i64 2) n h := by
  refine RF.pure (by rfl) fun n' hn => ?_
  have N := N.mono hn
  refine RF.of Tryd.func43 rfl rfl (Nat.le_of_ble_eq_true rfl) ?_; dsimp only [argEnv]
  rcases N with rfl | ⟨w, rfl, hw, hc0, hc1, hi⟩
  · have N : NoP h n' none := .inl rfl
    repeat' (first | refine stpS ?_ | (refine stp2 ?_ ?_ <;> intro _))
    refine RS.call rfl opds (put_rf [] v hlo hhi none 0 n' n' h (OwnSl.nil (Nat.le_refl _)) (by omega)) (fun b hb => absurd rfl hb.1) ?_
    rintro r n1 h1 hle ⟨c, rfl, hO, hX, -⟩
    have hE : Ext n' h h1 := ⟨fun k hk => (hX k hk (.inl rfl)).1, fun k i hk => (hX k hk (.inl rfl)).2 i⟩
    refine RS.call1 rfl opds (moreN_ev _ _ _ _ _ (N.ext hE hle)) none'W ?_
    repeat' (first | refine stpS ?_ | (refine stp2 ?_ ?_ <;> intro _))
    rfl
  · have N : NoP h n' (some ⟨w, 0, none⟩) := .inr ⟨w, rfl, hw, hc0, hc1, hi⟩
    repeat' (first | refine stpS ?_ | (refine stp2 ?_ ?_ <;> intro _))
    refine RS.call rfl opds (put_rf [] v hlo hhi none 0 n' n' h (OwnSl.nil (Nat.le_refl _)) (by omega)) (fun b hb => absurd rfl hb.1) ?_
    rintro r n1 h1 hle ⟨c, rfl, hO, hX, -⟩
    have hE : Ext n' h h1 := ⟨fun k hk => (hX k hk (.inl rfl)).1, fun k i hk => (hX k hk (.inl rfl)).2 i⟩
    refine RS.call1 rfl opds (moreN_ev _ _ _ _ _ (N.ext hE hle)) none'W ?_
    repeat' (first | refine stpS ?_ | (refine stp2 ?_ ?_ <;> intro _))
    rfl
set_option maxHeartbeats 4000000 in
theorem wFlagN_ev (t : Bool) (p : Option Addr) (n : Nat) (h : AH) (N : NoP h n p) :
    Ev Tryd.prog none' 47 #[.pointer p, .bool t] n h (.int .i64 2) n h := by
  refine RF.pure (by rfl) fun n' hn => ?_
  have N := N.mono hn
  refine RF.of Tryd.func47 rfl rfl (Nat.le_of_ble_eq_true rfl) ?_; dsimp only [argEnv]
  rcases N with rfl | ⟨w, rfl, hw, hc0, hc1, hi⟩
  · have N : NoP h n' none := .inl rfl
    cases t
    · repeat' (first | refine stpS ?_ | (refine stp2 ?_ ?_ <;> intro _))
      refine RS.call1 rfl opds (wIntN_ev 0 (by omega) (by omega) _ _ _ N) none'W ?_
      repeat' (first | refine stpS ?_ | (refine stp2 ?_ ?_ <;> intro _))
      rfl
    · repeat' (first | refine stpS ?_ | (refine stp2 ?_ ?_ <;> intro _))
      refine RS.call1 rfl opds (wIntN_ev 1 (by omega) (by omega) _ _ _ N) none'W ?_
      repeat' (first | refine stpS ?_ | (refine stp2 ?_ ?_ <;> intro _))
      rfl
  · have N : NoP h n' (some ⟨w, 0, none⟩) := .inr ⟨w, rfl, hw, hc0, hc1, hi⟩
    cases t
    · repeat' (first | refine stpS ?_ | (refine stp2 ?_ ?_ <;> intro _))
      refine RS.call1 rfl opds (wIntN_ev 0 (by omega) (by omega) _ _ _ N) none'W ?_
      repeat' (first | refine stpS ?_ | (refine stp2 ?_ ?_ <;> intro _))
      rfl
    · repeat' (first | refine stpS ?_ | (refine stp2 ?_ ?_ <;> intro _))
      refine RS.call1 rfl opds (wIntN_ev 1 (by omega) (by omega) _ _ _ N) none'W ?_
      repeat' (first | refine stpS ?_ | (refine stp2 ?_ ?_ <;> intro _))
      rfl
set_option maxHeartbeats 4000000 in
theorem wBytesN_ev (l : List UInt8) (c : Option Addr) (m : Nat) (e : m = l.length) (hm : m ≤ 1073741824) (p : Option Addr) (n : Nat) (h : AH) (N : NoP h n p) (S : SlB h n c l) :
    Ev Tryd.prog none' 28 #[.pointer p, .slice c m m] n h (.int .i64 2) n h := by
  refine RF.pure (by rfl) fun n' hn => ?_
  have N := N.mono hn
  refine RF.of Tryd.func28 rfl rfl (Nat.le_of_ble_eq_true rfl) ?_; dsimp only [argEnv]
  rcases N with rfl | ⟨w, rfl, hw, hc0, hc1, hi⟩
  · have N : NoP h n' none := .inl rfl
    have S := S.ext (Ext.refl n h) hn
    have hel := esc_length l
    have hcl : l.count 0 ≤ l.length := List.count_le_length
    repeat' (first | refine stpS ?_ | (refine stp2 ?_ ?_ <;> intro _))
    obtain ⟨g, hg⟩ : ∃ g, g = (h.app (.new n' ⟨([.int .u8 0] : List Value).length, 0, true, 1⟩ [.int .u8 0])).app (.new (n' + 1) ⟨([.int .u8 0, .int .u8 1] : List Value).length, 0, true, 1⟩ [.int .u8 0, .int .u8 1]) := ⟨_, rfl⟩
    refine RS.heap hg ?_
    have hE : Ext n' h g := by rw [hg]; exact ext
    have hS0 : SlB g (n' + 1 + 1) (some ⟨n', 0, none⟩) [0] := by
      rw [hg]
      have := OwnSl.new1 (h := h) (n0 := n') (n := n') (m := 1) (cs := [.int .u8 0]) (Nat.le_refl n') rfl rfl
      exact OwnSl.slbE (this.ext (n1 := n' + 1 + 1) ext (by omega))
    have hS1 : SlB g (n' + 1 + 1) (some ⟨n' + 1, 0, none⟩) [0, 1] := by
      rw [hg]
      exact OwnSl.slbE (OwnSl.new1 (n0 := n') (n := n' + 1) (m := 2) (cs := [.int .u8 0, .int .u8 1]) (Nat.le_succ n') rfl rfl)
    clear hg
    refine RS.call rfl opds (replaceAll_rf l c _ _ _ _ g (SlR.ext S hE (by omega)) hS0 hS1 e (by omega)) none'W ?_
    rintro r n1 h1 hle ⟨c1, rfl, hE1, hO1⟩
    repeat' (first | refine stpS ?_ | (refine stp2 ?_ ?_ <;> intro _))
    refine RS.append rfl opd opd (hO1.ext (n1 := n1 + 1) ext (by omega)) (OwnSl.src (OwnSl.new1 (n0 := n1) (m := 2) (Nat.le_refl _) rfl rfl)) full_slice (fun b hb => .inr (by omega)) (by omega) ?_
    intro c2 n2 h2 hle2 hO2 hX2 hnew2
    have hE1' : Ext (n' + 1 + 1) h1 (h1.app (.new n1 ⟨([.int .u8 0, .int .u8 0] : List Value).length, 0, true, 1⟩ [.int .u8 0, .int .u8 0])) := ext
    have hE2 : Ext n' h h2 := (hE.trans (by omega) hE1).trans (Nat.le_add_right n' 2) (hE1'.then (hX2.ext (hO1.ext (n1 := n1 + 1) ext (by omega))))
    refine RS.call1 rfl opds (moreN_ev _ _ _ _ _ (N.ext hE2 (by omega))) none'W ?_
    repeat' (first | refine stpS ?_ | (refine stp2 ?_ ?_ <;> intro _))
    rfl
  · have N : NoP h n' (some ⟨w, 0, none⟩) := .inr ⟨w, rfl, hw, hc0, hc1, hi⟩
    have S := S.ext (Ext.refl n h) hn
    have hel := esc_length l
    have hcl : l.count 0 ≤ l.length := List.count_le_length
    repeat' (first | refine stpS ?_ | (refine stp2 ?_ ?_ <;> intro _))
    obtain ⟨g, hg⟩ : ∃ g, g = (h.app (.new n' ⟨([.int .u8 0] : List Value).length, 0, true, 1⟩ [.int .u8 0])).app (.new (n' + 1) ⟨([.int .u8 0, .int .u8 1] : List Value).length, 0, true, 1⟩ [.int .u8 0, .int .u8 1]) := ⟨_, rfl⟩
    refine RS.heap hg ?_
    have hE : Ext n' h g := by rw [hg]; exact ext
    have hS0 : SlB g (n' + 1 + 1) (some ⟨n', 0, none⟩) [0] := by
      rw [hg]
      have := OwnSl.new1 (h := h) (n0 := n') (n := n') (m := 1) (cs := [.int .u8 0]) (Nat.le_refl n') rfl rfl
      exact OwnSl.slbE (this.ext (n1 := n' + 1 + 1) ext (by omega))
    have hS1 : SlB g (n' + 1 + 1) (some ⟨n' + 1, 0, none⟩) [0, 1] := by
      rw [hg]
      exact OwnSl.slbE (OwnSl.new1 (n0 := n') (n := n' + 1) (m := 2) (cs := [.int .u8 0, .int .u8 1]) (Nat.le_succ n') rfl rfl)
    clear hg
    refine RS.call rfl opds (replaceAll_rf l c _ _ _ _ g (SlR.ext S hE (by omega)) hS0 hS1 e (by omega)) none'W ?_
    rintro r n1 h1 hle ⟨c1, rfl, hE1, hO1⟩
    repeat' (first | refine stpS ?_ | (refine stp2 ?_ ?_ <;> intro _))
    refine RS.append rfl opd opd (hO1.ext (n1 := n1 + 1) ext (by omega)) (OwnSl.src (OwnSl.new1 (n0 := n1) (m := 2) (Nat.le_refl _) rfl rfl)) full_slice (fun b hb => .inr (by omega)) (by omega) ?_
    intro c2 n2 h2 hle2 hO2 hX2 hnew2
    have hE1' : Ext (n' + 1 + 1) h1 (h1.app (.new n1 ⟨([.int .u8 0, .int .u8 0] : List Value).length, 0, true, 1⟩ [.int .u8 0, .int .u8 0])) := ext
    have hE2 : Ext n' h h2 := (hE.trans (by omega) hE1).trans (Nat.le_add_right n' 2) (hE1'.then (hX2.ext (hO1.ext (n1 := n1 + 1) ext (by omega))))
    refine RS.call1 rfl opds (moreN_ev _ _ _ _ _ (N.ext hE2 (by omega))) none'W ?_
    repeat' (first | refine stpS ?_ | (refine stp2 ?_ ?_ <;> intro _))
    rfl
set_option maxHeartbeats 4000000 in
theorem wTextN_ev (s : List UInt8) (hm : s.length ≤ 1073741824) (p : Option Addr) (n : Nat) (h : AH) (N : NoP h n p) :
    Ev Tryd.prog none' 21 #[.pointer p, .string ⟨s.toArray⟩] n h (.int .i64 2) n h := by
  refine RF.pure (by rfl) fun n' hn => ?_
  have N := N.mono hn
  refine RF.of Tryd.func21 rfl rfl (Nat.le_of_ble_eq_true rfl) ?_; dsimp only [argEnv]
  rcases N with rfl | ⟨w, rfl, hw, hc0, hc1, hi⟩
  · have N : NoP h n' none := .inl rfl
    repeat' (first | refine stpS ?_ | (refine stp2 ?_ ?_ <;> intro _))
    refine RS.gen (fun g => SlB g (n' + 1) (some ⟨n', 0, none⟩) s ∧ Ext n' h g) ⟨slbs_new ⟨s.toArray⟩ _ _, ext⟩ ?_
    rintro g ⟨hS, hG⟩
    refine RS.call1 rfl opds (wBytesN_ev s _ _ (by simp [ByteArray.size]) (by simp [ByteArray.size]; omega) _ _ g (N.ext hG (Nat.le_succ _)) hS) none'W ?_
    repeat' (first | refine stpS ?_ | (refine stp2 ?_ ?_ <;> intro _))
    rfl
  · have N : NoP h n' (some ⟨w, 0, none⟩) := .inr ⟨w, rfl, hw, hc0, hc1, hi⟩
    repeat' (first | refine stpS ?_ | (refine stp2 ?_ ?_ <;> intro _))
    refine RS.gen (fun g => SlB g (n' + 1) (some ⟨n', 0, none⟩) s ∧ Ext n' h g) ⟨slbs_new ⟨s.toArray⟩ _ _, ext⟩ ?_
    rintro g ⟨hS, hG⟩
    refine RS.call1 rfl opds (wBytesN_ev s _ _ (by simp [ByteArray.size]) (by simp [ByteArray.size]; omega) _ _ g (N.ext hG (Nat.le_succ _)) hS) none'W ?_
    repeat' (first | refine stpS ?_ | (refine stp2 ?_ ?_ <;> intro _))
    rfl
set_option maxHeartbeats 4000000 in
theorem wLenN_ev (p : Option Addr) (n : Nat) (h : AH) (N : NoP h n p) :
    Ev Tryd.prog none' 26 #[.pointer p] n h (.int .i64 0) n h := by
  refine RF.pure (by rfl) fun n' hn => ?_
  have N := N.mono hn
  refine RF.of Tryd.func26 rfl rfl (Nat.le_of_ble_eq_true rfl) ?_; dsimp only [argEnv]
  rcases N with rfl | ⟨w, rfl, hw, hc0, hc1, hi⟩
  · have N : NoP h n' none := .inl rfl
    repeat' (first | refine stpS ?_ | (refine stp2 ?_ ?_ <;> intro _))
    rfl
  · have N : NoP h n' (some ⟨w, 0, none⟩) := .inr ⟨w, rfl, hw, hc0, hc1, hi⟩
    repeat' (first | refine stpS ?_ | (refine stp2 ?_ ?_ <;> intro _))
    rfl
set_option maxHeartbeats 4000000 in
theorem wOutN_rf (p : Option Addr) (n : Nat) (h : AH) (N : NoP h n p) :
    RF Tryd.prog none' 23 #[.pointer p] n h (fun r n' h' => ∃ a', r = .slice a' 0 0 ∧ Ext n h h') := by
  refine RF.of Tryd.func23 rfl rfl (Nat.le_of_ble_eq_true rfl) ?_; dsimp only [argEnv]
  rcases N with rfl | ⟨w, rfl, hw, hc0, hc1, hi⟩
  · repeat' (first | refine stpS ?_ | (refine stp2 ?_ ?_ <;> intro _))
    exact ⟨none, rfl, Ext.refl _ _⟩
  · repeat' (first | refine stpS ?_ | (refine stp2 ?_ ?_ <;> intro _))
    refine RS.call rfl opds (clone_rf [] none 0 n h SlR.nil rfl (by omega)) none'W ?_
    rintro r n1 h1 hle1 ⟨a', rfl, hE1, hO1⟩
    repeat' (first | refine stpS ?_ | (refine stp2 ?_ ?_ <;> intro _))
    exact ⟨a', rfl, hE1⟩
set_option maxHeartbeats 4000000 in
theorem ptoN_ev (x : Pc) (m : Nat) (ok : x.Ok m) (hm : m ≤ 1073741824) (p : Option Addr) (n : Nat) (h : AH) (N : NoP h n p) :
    Ev Tryd.prog none' 25 #[x.v_, .pointer p] n h (.int .i64 2) n h := by
  refine RF.pure rfl fun n' hn => ?_
  have N := N.mono hn
  refine RF.of Tryd.func25 rfl rfl (Nat.le_of_ble_eq_true rfl) ?_; dsimp only [argEnv]
  obtain ⟨w0, w1, v0, v1, sl⟩ := ok
  unfold Pc.v_ Pc.cells
  have hsz : (⟨x.s.toArray⟩ : ByteArray).size = x.s.length := by simp [ByteArray.size]
  by_cases q0 : x.w % 4 = 0
  · repeat' (first | refine stpS ?_ | (refine stp2 ?_ ?_ <;> intro _))
    refine RS.gen (fun g => Ext n' h g) ext ?_
    rintro g hG
    refine RS.call1 rfl opds (wIntN_ev x.v v0 v1 _ _ g (N.ext hG (Nat.le_succ _))) none'W ?_
    repeat' (first | refine stpS ?_ | (refine stp2 ?_ ?_ <;> intro _))
    rfl
  · by_cases q3 : x.w % 4 = 3
    · repeat' (first | refine stpS ?_ | (refine stp2 ?_ ?_ <;> intro _))
      refine RS.put rfl rfl (o_and1 opd opd v0 v1) ?_
      by_cases hodd : x.v % 2 = 1
      · repeat' (first | refine stpS ?_ | (refine stp2 ?_ ?_ <;> intro _))
        refine RS.gen (fun g => Ext n' h g) ext ?_
        rintro g hG
        refine RS.call1 rfl opds (wFlagN_ev true _ _ g (N.ext hG (Nat.le_succ _))) none'W ?_
        repeat' (first | refine stpS ?_ | (refine stp2 ?_ ?_ <;> intro _))
        rfl
      · repeat' (first | refine stpS ?_ | (refine stp2 ?_ ?_ <;> intro _))
        refine RS.gen (fun g => Ext n' h g) ext ?_
        rintro g hG
        refine RS.call1 rfl opds (wFlagN_ev false _ _ g (N.ext hG (Nat.le_succ _))) none'W ?_
        repeat' (first | refine stpS ?_ | (refine stp2 ?_ ?_ <;> intro _))
        rfl
    · by_cases q1 : x.w % 4 = 1
      · repeat' (first | refine stpS ?_ | (refine stp2 ?_ ?_ <;> intro _))
        refine RS.gen (fun g => SlB g (n' + 1 + 1) (some ⟨n' + 1, 0, none⟩) x.s ∧ Ext n' h g) ⟨slbs_new ⟨x.s.toArray⟩ _ _, ext⟩ ?_
        rintro g ⟨hS, hG⟩
        refine RS.call1 rfl opds (wBytesN_ev x.s _ _ hsz (by omega) _ _ g (N.ext hG (by omega)) hS) none'W ?_
        repeat' (first | refine stpS ?_ | (refine stp2 ?_ ?_ <;> intro _))
        rfl
      · repeat' (first | refine stpS ?_ | (refine stp2 ?_ ?_ <;> intro _))
        refine RS.gen (fun g => Ext n' h g) ext ?_
        rintro g hG
        refine RS.call1 rfl opds (wTextN_ev x.s (by omega) _ _ g (N.ext hG (Nat.le_succ _))) none'W ?_
        repeat' (first | refine stpS ?_ | (refine stp2 ?_ ?_ <;> intro _))
        rfl
end Go.Proofs.YtflhhipemmlgpaaDoor

/- Contracts of codec: a reader that no call made; the law CodecNone. -/
namespace Go.Proofs.YtflhhipemmlgpaaDoor
open Go.Abs

set_option maxHeartbeats 4000000 in
theorem takeN_ev (f : FuncId) (c : Nat) (p : Option Addr) (n : Nat) (h : AH) (N : NoP h n p) :
    Ev Tryd.prog none' 50 #[.pointer p, .func (.func f) #[] #[.pointer (some ⟨c, 0, none⟩)]] n h (.int .i64 2) n h := by
  refine RF.pure (by first | rfl | simp [flat]) fun n' hn => ?_
  have N := N.mono hn
  refine RF.of Tryd.func50 rfl rfl (Nat.le_of_ble_eq_true rfl) ?_; dsimp only [argEnv]
  rcases N with rfl | ⟨w, rfl, hw, hc0, hc1, hi⟩
  · have N : NoP h n' none := .inl rfl
    repeat' (first | refine stpS ?_ | (refine stp2 ?_ ?_ <;> intro _))
    rfl
  · have N : NoP h n' (some ⟨w, 0, none⟩) := .inr ⟨w, rfl, hw, hc0, hc1, hi⟩
    repeat' (first | refine stpS ?_ | (refine stp2 ?_ ?_ <;> intro _))
    rfl
set_option maxHeartbeats 4000000 in
theorem leftN_ev (p : Option Addr) (n : Nat) (h : AH) (N : NoP h n p) :
    Ev Tryd.prog none' 34 #[.pointer p] n h (.int .i64 0) n h := by
  refine RF.pure (by first | rfl | simp [flat]) fun n' hn => ?_
  have N := N.mono hn
  refine RF.of Tryd.func34 rfl rfl (Nat.le_of_ble_eq_true rfl) ?_; dsimp only [argEnv]
  rcases N with rfl | ⟨w, rfl, hw, hc0, hc1, hi⟩
  · have N : NoP h n' none := .inl rfl
    repeat' (first | refine stpS ?_ | (refine stp2 ?_ ?_ <;> intro _))
    rfl
  · have N : NoP h n' (some ⟨w, 0, none⟩) := .inr ⟨w, rfl, hw, hc0, hc1, hi⟩
    repeat' (first | refine stpS ?_ | (refine stp2 ?_ ?_ <;> intro _))
    rfl
set_option maxHeartbeats 4000000 in
theorem endN_ev (p : Option Addr) (n : Nat) (h : AH) (N : NoP h n p) :
    Ev Tryd.prog none' 39 #[.pointer p] n h (.int .i64 2) n h := by
  refine RF.pure (by first | rfl | simp [flat]) fun n' hn => ?_
  have N := N.mono hn
  refine RF.of Tryd.func39 rfl rfl (Nat.le_of_ble_eq_true rfl) ?_; dsimp only [argEnv]
  rcases N with rfl | ⟨w, rfl, hw, hc0, hc1, hi⟩
  · have N : NoP h n' none := .inl rfl
    repeat' (first | refine stpS ?_ | (refine stp2 ?_ ?_ <;> intro _))
    rfl
  · have N : NoP h n' (some ⟨w, 0, none⟩) := .inr ⟨w, rfl, hw, hc0, hc1, hi⟩
    repeat' (first | refine stpS ?_ | (refine stp2 ?_ ?_ <;> intro _))
    rfl
set_option maxHeartbeats 4000000 in
theorem rIntN_ev (p : Option Addr) (n : Nat) (h : AH) (N : NoP h n p) :
    Ev Tryd.prog none' 56 #[.pointer p] n h (.tuple #[.int .i64 0, .int .i64 2]) n h := by
  refine RF.pure (by first | rfl | simp [flat]) fun n' hn => ?_
  have N := N.mono hn
  refine RF.of Tryd.func56 rfl rfl (Nat.le_of_ble_eq_true rfl) ?_; dsimp only [argEnv]
  rcases N with rfl | ⟨w, rfl, hw, hc0, hc1, hi⟩
  · have N : NoP h n' none := .inl rfl
    repeat' (first | refine stpS ?_ | (refine stp2 ?_ ?_ <;> intro _))
    refine RS.gen (fun g => Ext n' h g ∧ g.cell n' 0 = .int .i64 0 ∧ g.info n' = some ⟨1, 0, true, 0⟩) ⟨ext, cell, info⟩ ?_
    rintro g ⟨hG, g0, gi⟩
    refine RS.call1 rfl opds (takeN_ev 66 n' _ (n' + 1) g (N.ext hG (Nat.le_succ _))) none'W ?_
    repeat' (first | refine stpS ?_ | (refine stp2 ?_ ?_ <;> intro _))
    rfl
  · have N : NoP h n' (some ⟨w, 0, none⟩) := .inr ⟨w, rfl, hw, hc0, hc1, hi⟩
    repeat' (first | refine stpS ?_ | (refine stp2 ?_ ?_ <;> intro _))
    refine RS.gen (fun g => Ext n' h g ∧ g.cell n' 0 = .int .i64 0 ∧ g.info n' = some ⟨1, 0, true, 0⟩) ⟨ext, cell, info⟩ ?_
    rintro g ⟨hG, g0, gi⟩
    refine RS.call1 rfl opds (takeN_ev 66 n' _ (n' + 1) g (N.ext hG (Nat.le_succ _))) none'W ?_
    repeat' (first | refine stpS ?_ | (refine stp2 ?_ ?_ <;> intro _))
    rfl
set_option maxHeartbeats 4000000 in
theorem rFlagN_ev (p : Option Addr) (n : Nat) (h : AH) (N : NoP h n p) :
    Ev Tryd.prog none' 58 #[.pointer p] n h (.tuple #[.bool false, .int .i64 2]) n h := by
  refine RF.pure (by first | rfl | simp [flat]) fun n' hn => ?_
  have N := N.mono hn
  refine RF.of Tryd.func58 rfl rfl (Nat.le_of_ble_eq_true rfl) ?_; dsimp only [argEnv]
  rcases N with rfl | ⟨w, rfl, hw, hc0, hc1, hi⟩
  · have N : NoP h n' none := .inl rfl
    repeat' (first | refine stpS ?_ | (refine stp2 ?_ ?_ <;> intro _))
    refine RS.gen (fun g => Ext n' h g ∧ g.cell n' 0 = .bool false ∧ g.info n' = some ⟨1, 0, true, 0⟩) ⟨ext, cell, info⟩ ?_
    rintro g ⟨hG, g0, gi⟩
    refine RS.call1 rfl opds (takeN_ev 68 n' _ (n' + 1) g (N.ext hG (Nat.le_succ _))) none'W ?_
    repeat' (first | refine stpS ?_ | (refine stp2 ?_ ?_ <;> intro _))
    rfl
  · have N : NoP h n' (some ⟨w, 0, none⟩) := .inr ⟨w, rfl, hw, hc0, hc1, hi⟩
    repeat' (first | refine stpS ?_ | (refine stp2 ?_ ?_ <;> intro _))
    refine RS.gen (fun g => Ext n' h g ∧ g.cell n' 0 = .bool false ∧ g.info n' = some ⟨1, 0, true, 0⟩) ⟨ext, cell, info⟩ ?_
    rintro g ⟨hG, g0, gi⟩
    refine RS.call1 rfl opds (takeN_ev 68 n' _ (n' + 1) g (N.ext hG (Nat.le_succ _))) none'W ?_
    repeat' (first | refine stpS ?_ | (refine stp2 ?_ ?_ <;> intro _))
    rfl
set_option maxHeartbeats 4000000 in
theorem rBytesN_ev (p : Option Addr) (n : Nat) (h : AH) (N : NoP h n p) :
    Ev Tryd.prog none' 30 #[.pointer p] n h (.tuple #[.slice none 0 0, .int .i64 2]) n h := by
  refine RF.pure (by first | rfl | simp [flat]) fun n' hn => ?_
  have N := N.mono hn
  refine RF.of Tryd.func30 rfl rfl (Nat.le_of_ble_eq_true rfl) ?_; dsimp only [argEnv]
  rcases N with rfl | ⟨w, rfl, hw, hc0, hc1, hi⟩
  · have N : NoP h n' none := .inl rfl
    repeat' (first | refine stpS ?_ | (refine stp2 ?_ ?_ <;> intro _))
    refine RS.gen (fun g => Ext n' h g ∧ g.cell n' 0 = .slice none 0 0 ∧ g.info n' = some ⟨1, 0, true, 0⟩) ⟨ext, cell, info⟩ ?_
    rintro g ⟨hG, g0, gi⟩
    refine RS.call1 rfl opds (takeN_ev 51 n' _ (n' + 1) g (N.ext hG (Nat.le_succ _))) none'W ?_
    repeat' (first | refine stpS ?_ | (refine stp2 ?_ ?_ <;> intro _))
    rfl
  · have N : NoP h n' (some ⟨w, 0, none⟩) := .inr ⟨w, rfl, hw, hc0, hc1, hi⟩
    repeat' (first | refine stpS ?_ | (refine stp2 ?_ ?_ <;> intro _))
    refine RS.gen (fun g => Ext n' h g ∧ g.cell n' 0 = .slice none 0 0 ∧ g.info n' = some ⟨1, 0, true, 0⟩) ⟨ext, cell, info⟩ ?_
    rintro g ⟨hG, g0, gi⟩
    refine RS.call1 rfl opds (takeN_ev 51 n' _ (n' + 1) g (N.ext hG (Nat.le_succ _))) none'W ?_
    repeat' (first | refine stpS ?_ | (refine stp2 ?_ ?_ <;> intro _))
    rfl
set_option maxHeartbeats 4000000 in
theorem rTextN_ev (p : Option Addr) (n : Nat) (h : AH) (N : NoP h n p) :
    Ev Tryd.prog none' 57 #[.pointer p] n h (.tuple #[.string ⟨#[]⟩, .int .i64 2]) n h := by
  refine RF.pure (by first | rfl | simp [flat]) fun n' hn => ?_
  have N := N.mono hn
  refine RF.of Tryd.func57 rfl rfl (Nat.le_of_ble_eq_true rfl) ?_; dsimp only [argEnv]
  rcases N with rfl | ⟨w, rfl, hw, hc0, hc1, hi⟩
  · have N : NoP h n' none := .inl rfl
    repeat' (first | refine stpS ?_ | (refine stp2 ?_ ?_ <;> intro _))
    refine RS.call1 rfl opds (rBytesN_ev _ _ _ N) none'W ?_
    repeat' (first | refine stpS ?_ | (refine stp2 ?_ ?_ <;> intro _))
    refine RS.put rfl rfl (op_b2sNil Uc.out Uc.out Uc.out (Opd.ev opd)) ?_
    repeat' (first | refine stpS ?_ | (refine stp2 ?_ ?_ <;> intro _))
    rfl
  · have N : NoP h n' (some ⟨w, 0, none⟩) := .inr ⟨w, rfl, hw, hc0, hc1, hi⟩
    repeat' (first | refine stpS ?_ | (refine stp2 ?_ ?_ <;> intro _))
    refine RS.call1 rfl opds (rBytesN_ev _ _ _ N) none'W ?_
    repeat' (first | refine stpS ?_ | (refine stp2 ?_ ?_ <;> intro _))
    refine RS.put rfl rfl (op_b2sNil Uc.out Uc.out Uc.out (Opd.ev opd)) ?_
    repeat' (first | refine stpS ?_ | (refine stp2 ?_ ?_ <;> intro _))
    rfl
set_option maxHeartbeats 4000000 in
theorem pfromN_ev (x : Pc) (m : Nat) (ok : x.Ok m) (p : Option Addr) (n : Nat) (h : AH) (N : NoP h n p) :
    Ev Tryd.prog none' 35 #[x.v_, .pointer p] n h (.tuple #[.agg #[.int .u8 x.w, .int .i64 0, .string ⟨#[]⟩], .int .i64 2]) n h := by
  refine RF.pure (by simp [flat]) fun n' hn => ?_
  have N := N.mono hn
  refine RF.of Tryd.func35 rfl rfl (Nat.le_of_ble_eq_true rfl) ?_; dsimp only [argEnv]
  obtain ⟨w0, w1, v0, v1, sl⟩ := ok
  unfold Pc.v_ Pc.cells
  by_cases q0 : x.w % 4 = 0
  · repeat' (first | refine stpS ?_ | (refine stp2 ?_ ?_ <;> intro _))
    refine RS.gen (fun g => Ext n' h g ∧ g.cell (n' + 1 + 1) 0 = .int .u8 x.w ∧ g.cell (n' + 1 + 1) 1 = .int .i64 0 ∧ g.cell (n' + 1 + 1) 2 = .string ByteArray.empty ∧ g.info (n' + 1) = some ⟨3, 0, true, 0⟩ ∧ g.info (n' + 1 + 1) = some ⟨3, 0, true, 0⟩) ⟨ext, cell, cell, cell, info, info⟩ ?_
    rintro g ⟨hG, g0, g1, g2, i1, i2⟩
    refine RS.call1 rfl opds (rIntN_ev _ _ g (N.ext hG (by omega))) none'W ?_
    repeat' (first | refine stpS ?_ | (refine stp2 ?_ ?_ <;> intro _))
    rfl
  · by_cases q3 : x.w % 4 = 3
    · repeat' (first | refine stpS ?_ | (refine stp2 ?_ ?_ <;> intro _))
      refine RS.gen (fun g => Ext n' h g ∧ g.cell (n' + 1 + 1) 0 = .int .u8 x.w ∧ g.cell (n' + 1 + 1) 1 = .int .i64 0 ∧ g.cell (n' + 1 + 1) 2 = .string ByteArray.empty ∧ g.info (n' + 1) = some ⟨3, 0, true, 0⟩ ∧ g.info (n' + 1 + 1) = some ⟨3, 0, true, 0⟩) ⟨ext, cell, cell, cell, info, info⟩ ?_
      rintro g ⟨hG, g0, g1, g2, i1, i2⟩
      refine RS.call1 rfl opds (rFlagN_ev _ _ g (N.ext hG (by omega))) none'W ?_
      repeat' (first | refine stpS ?_ | (refine stp2 ?_ ?_ <;> intro _))
      rfl
    · by_cases q1 : x.w % 4 = 1
      · repeat' (first | refine stpS ?_ | (refine stp2 ?_ ?_ <;> intro _))
        refine RS.gen (fun g => Ext n' h g ∧ g.cell (n' + 1 + 1) 0 = .int .u8 x.w ∧ g.cell (n' + 1 + 1) 1 = .int .i64 0 ∧ g.cell (n' + 1 + 1) 2 = .string ByteArray.empty ∧ g.info (n' + 1) = some ⟨3, 0, true, 0⟩ ∧ g.info (n' + 1 + 1) = some ⟨3, 0, true, 0⟩) ⟨ext, cell, cell, cell, info, info⟩ ?_
        rintro g ⟨hG, g0, g1, g2, i1, i2⟩
        refine RS.call1 rfl opds (rBytesN_ev _ _ g (N.ext hG (by omega))) none'W ?_
        repeat' (first | refine stpS ?_ | (refine stp2 ?_ ?_ <;> intro _))
        refine RS.put rfl rfl (op_b2sNil Uc.out Uc.out Uc.out (Opd.ev opd)) ?_
        repeat' (first | refine stpS ?_ | (refine stp2 ?_ ?_ <;> intro _))
        rfl
      · repeat' (first | refine stpS ?_ | (refine stp2 ?_ ?_ <;> intro _))
        refine RS.gen (fun g => Ext n' h g ∧ g.cell (n' + 1 + 1) 0 = .int .u8 x.w ∧ g.cell (n' + 1 + 1) 1 = .int .i64 0 ∧ g.cell (n' + 1 + 1) 2 = .string ByteArray.empty ∧ g.info (n' + 1) = some ⟨3, 0, true, 0⟩ ∧ g.info (n' + 1 + 1) = some ⟨3, 0, true, 0⟩) ⟨ext, cell, cell, cell, info, info⟩ ?_
        rintro g ⟨hG, g0, g1, g2, i1, i2⟩
        refine RS.call1 rfl opds (rTextN_ev _ _ g (N.ext hG (by omega))) none'W ?_
        repeat' (first | refine stpS ?_ | (refine stp2 ?_ ?_ <;> intro _))
        rfl
end Go.Proofs.YtflhhipemmlgpaaDoor

/- The law CodecNone. -/
namespace Go.Proofs.YtflhhipemmlgpaaDoor
open Go.Abs

def ptrA (n : Nat) (j : Nat) : Option Addr := if j = 0 then none else some ⟨n + 1, 0, none⟩
def ptrF (n : Nat) (j : Nat) : Value := .pointer (ptrA n j)
set_option maxHeartbeats 4000000 in
theorem law_CodecNone (x : Pc) (m : Nat) (n : Nat) (h : AH) (ok : x.Ok m) (hm : m ≤ 1048576) :
    RF Tryd.prog none' 11 #[x.v_] n h (fun r _ _ => r = .bool true) := by
  refine RF.of Tryd.func11 rfl rfl (Nat.le_of_ble_eq_true rfl) ?_; dsimp only [argEnv]
  unfold Pc.v_ Pc.cells
  repeat' (first | refine stpS ?_ | (refine stp2 ?_ ?_ <;> intro _))
  refine RS.gen (fun g => g.cell n 0 = .int .u8 x.w ∧ g.cell n 1 = .int .i64 x.v ∧ g.cell n 2 = .string ⟨x.s.toArray⟩) ⟨cell, cell, cell⟩ ?_
  rintro g ⟨g0, g1, g2⟩
  refine RS.call1 rfl opds (begun_ev _ _) none'W ?_
  repeat' (first | refine stpS ?_ | (refine stp2 ?_ ?_ <;> intro _))
  refine RC.gen (fun g => g.cell n 0 = .int .u8 x.w ∧ g.cell n 1 = .int .i64 x.v ∧ g.cell n 2 = .string ⟨x.s.toArray⟩ ∧ NoP g (n + 1 + 1 + 1) (some ⟨n + 1, 0, none⟩) ∧ SlR g (n + 1 + 1 + 1) (some ⟨n + 1 + 1, 0, none⟩) 1 2 (ptrF n))
    ⟨cell, cell, cell, .inr ⟨n + 1, rfl, by omega, cell, cell, info⟩, SlR.new (by omega) info rfl fun j hj => by
      rcases (show j = 0 ∨ j = 1 by omega) with rfl | rfl <;> exact cell⟩ ?_
  clear g0 g1 g2
  rintro g ⟨g0, g1, g2, hN, hS⟩
  refine RC.loop ?_
  refine RL.inv (α := Nat) (fun i => [(15, .int .i64 (i : Nat)), (14, .int .i64 2), (13, .slice (some ⟨n + 1 + 1, 0, none⟩) 2 2), (1, .pointer (some ⟨n, 0, none⟩))])
    (fun i n1 h1 => i ≤ 2 ∧ n + 1 + 1 + 1 ≤ n1 ∧ Ext (n + 1 + 1 + 1) g h1)
    (fun i => 2 - i) 0 envs ⟨by omega, Nat.le_refl _, Ext.refl _ _⟩ ?_
  rintro i n1 h1 ⟨hi, hn1, hE⟩
  have hS1 := hS.ext hE hn1
  have g0 := c_ext hE (by omega) g0
  have g1 := c_ext hE (by omega) g1
  have g2 := c_ext hE (by omega) g2
  by_cases hlt : i < 2
  · have hNi : NoP h1 n1 (ptrA n i) := by
      rcases (show i = 0 ∨ i = 1 by omega) with rfl | rfl
      · exact .inl rfl
      · exact hN.ext hE hn1
    repeat' (first | refine stpS ?_ | (refine stp2 ?_ ?_ <;> intro _))
    rw [Int.toNat_natCast, show ptrF n i = .pointer (ptrA n i) from rfl]
    refine RS.call1 rfl opds (ptoN_ev x m ok (by omega) _ _ _ hNi) none'W ?_
    repeat' (first | refine stpS ?_ | (refine stp2 ?_ ?_ <;> intro _))
    refine RS.call1 rfl opds (wLenN_ev _ _ _ hNi) none'W ?_
    repeat' (first | refine stpS ?_ | (refine stp2 ?_ ?_ <;> intro _))
    refine RS.call rfl opds (wOutN_rf _ _ _ hNi) none'W ?_
    rintro r n2 h2 hle2 ⟨a', rfl, E2⟩
    repeat' (first | refine stpS ?_ | (refine stp2 ?_ ?_ <;> intro _))
    exact nextC.normal ⟨i + 1, by omega, envs, by omega, by omega, hE.trans hn1 E2⟩
  · clear hS1 hN hS hE
    repeat' (first | refine stpS ?_ | (refine stp2 ?_ ?_ <;> intro _))
    refine RC.gen (fun g => g.cell n 0 = .int .u8 x.w ∧ g.cell n 1 = .int .i64 x.v ∧ g.cell n 2 = .string ⟨x.s.toArray⟩ ∧ NoP g (n1 + 1 + 1) (some ⟨n1, 0, none⟩) ∧ SlR g (n1 + 1 + 1) (some ⟨n1 + 1, 0, none⟩) 1 2 (fun j => .pointer (if j = 0 then none else some ⟨n1, 0, none⟩)))
      ⟨cell, cell, cell, .inr ⟨n1, rfl, by omega, cell, cell, info⟩, SlR.new (by omega) info rfl fun j hj => by
        rcases (show j = 0 ∨ j = 1 by omega) with rfl | rfl <;> exact cell⟩ ?_
    clear g0 g1 g2
    rintro g ⟨g0, g1, g2, hN, hS⟩
    refine RC.loop ?_
    refine RL.inv (α := Nat) (fun i => [(39, .int .i64 (i : Nat)), (38, .int .i64 2), (37, .slice (some ⟨n1 + 1, 0, none⟩) 2 2), (1, .pointer (some ⟨n, 0, none⟩))])
      (fun i n2 h2 => i ≤ 2 ∧ n1 + 1 + 1 ≤ n2 ∧ Ext (n1 + 1 + 1) g h2)
      (fun i => 2 - i) 0 envs ⟨by omega, Nat.le_refl _, Ext.refl _ _⟩ ?_
    rintro i n2 h2 ⟨hi, hn2, hE⟩
    have hS1 := hS.ext hE hn2
    have g0 := c_ext hE (by omega) g0
    have g1 := c_ext hE (by omega) g1
    have g2 := c_ext hE (by omega) g2
    by_cases hlt : i < 2
    · obtain ⟨p, hp⟩ : ∃ p : Option Addr, p = (if i = 0 then none else some ⟨n1, 0, none⟩) := ⟨_, rfl⟩
      have hNi : NoP h2 n2 p := by
        rw [hp]
        rcases (show i = 0 ∨ i = 1 by omega) with rfl | rfl
        · exact .inl rfl
        · exact hN.ext hE hn2
      have hn0 : n < n2 := by omega
      repeat' (first | refine stpS ?_ | (refine stp2 ?_ ?_ <;> intro _))
      rw [Int.toNat_natCast, ← hp]
      refine RS.call1 rfl opds (pfromN_ev x m ok _ _ _ hNi) none'W ?_
      repeat' (first | refine stpS ?_ | (refine stp2 ?_ ?_ <;> intro _))
      refine RS.put rfl rfl (o_nePc opd opd (r := false) (by simp [ByteArray.empty, ByteArray.emptyWithCapacity]; rfl)) ?_
      repeat' (first | refine stpS ?_ | (refine stp2 ?_ ?_ <;> intro _))
      refine RS.gen (fun g => Ext n2 h2 g) ext ?_
      rintro g2 hG2
      have hNi := hNi.ext hG2 (Nat.le_succ n2)
      refine RS.call1 rfl opds (leftN_ev _ _ _ hNi) none'W ?_
      repeat' (first | refine stpS ?_ | (refine stp2 ?_ ?_ <;> intro _))
      refine RS.call1 rfl opds (endN_ev _ _ _ hNi) none'W ?_
      repeat' (first | refine stpS ?_ | (refine stp2 ?_ ?_ <;> intro _))
      exact nextC.normal ⟨i + 1, by omega, envs, by omega, by omega, hE.trans hn2 hG2⟩
    · repeat' (first | refine stpS ?_ | (refine stp2 ?_ ?_ <;> intro _))
      rfl
end Go.Proofs.YtflhhipemmlgpaaDoor

/- CodecNone, over its arguments. -/
namespace Go.Proofs.YtflhhipemmlgpaaDoor
open Go.Abs Go.RowKit
set_option maxRecDepth 100000 in
theorem bodyCodecNone {H : Type} {h : AH} {n : Nat} {vs : List Value} {ds : List (DataW H)} (lo : Low n h) (hn : 0 < n) (hr : RepArgs Tryd.prog h [43] vs ds) (hb : Rows.uptoBulkAll ds ≤ 1048576) :
    ∃ n' h', Ev Tryd.prog none' 11 vs.toArray n h (.bool true) n' h' := by
  obtain ⟨a0, d0, vs, ds, rfl, rfl, r0, hr⟩ := hr.cons_
  obtain ⟨rfl, rfl⟩ := hr.nil_
  obtain ⟨x, rfl, S_x⟩ := pc_arg r0
  simp only [Rows.uptoBulkAll] at hb
  obtain ⟨r, n', h', e, rfl⟩ := law_CodecNone x (Rows.uptoBulk d0) n h S_x (by omega)
  exact ⟨n', h', e⟩
end Go.Proofs.YtflhhipemmlgpaaDoor
