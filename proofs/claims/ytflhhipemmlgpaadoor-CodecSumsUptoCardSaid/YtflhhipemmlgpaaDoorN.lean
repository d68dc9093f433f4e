/- Contracts of codec: a writer's ints, flags, length and row. -/
import Derived.Test.YtflhhipemmlgpaaDoorM
set_option linter.unusedSimpArgs false
set_option linter.unusedVariables false
namespace Go.Proofs.YtflhhipemmlgpaaDoor
open Go.Abs

theorem WrR.ext {h h1 : AH} {n0 n n1 w : Nat} {a : Option Addr} {b : List UInt8} (R : WrR h n0 n w a b) (E : Ext n h h1) (hn : n ≤ n1) : WrR h1 n0 n1 w a b :=
  ⟨R.lo, Nat.lt_of_lt_of_le R.hi hn, (E.info w R.hi).trans R.inf, (E.cell w 0 R.hi).trans R.made, (E.cell w 1 R.hi).trans R.sl, R.own.ext E hn, R.ne, R.le⟩
/-- x is put at a writer's end, or does not fit. -/
def WrTo (w : Nat) (a : Option Addr) (b x : List UInt8) (n0 n : Nat) (h : AH) (r : Value) (n' : Nat) (h' : AH) : Prop :=
  ∃ a', r = .int .i64 (if x.length + b.length ≤ 1048576 then 0 else 3) ∧ WrR h' n0 n' w a' (if x.length + b.length ≤ 1048576 then b ++ x else b) ∧ ExtW (inW w a) n h h' ∧ (a' = a ∨ n ≤ sb a')
set_option maxHeartbeats 4000000 in
theorem wInt_rf (w : Nat) (a : Option Addr) (b : List UInt8) (v : Int) (hlo : -9223372036854775808 ≤ v) (hhi : v < 9223372036854775808) (n0 n : Nat) (h : AH) (R : WrR h n0 n w a b) :
    RF Tryd.prog (inW w a) 43 #[.pointer (some ⟨w, 0, none⟩), .int .i64 v] n h (WrTo w a b (form v) n0 n h) := by
  refine RF.of Tryd.func43 rfl rfl (Nat.le_of_ble_eq_true rfl) ?_; dsimp only [argEnv]
  have hfl := form_le v hlo hhi
  repeat' (first | refine stpS ?_ | (refine stp2 ?_ ?_ <;> intro _))
  refine RS.call rfl opds (put_rf [] v hlo hhi none 0 n n h (OwnSl.nil (Nat.le_refl _)) (by omega)) (fun b hb => absurd rfl hb.1) ?_
  rintro r n1 h1 hle ⟨c, rfl, hO, hX, -⟩
  have hE : Ext n h h1 := ⟨fun k hk => (hX k hk (.inl rfl)).1, fun k i hk => (hX k hk (.inl rfl)).2 i⟩
  have S : SlB h1 n1 c (form v) := OwnSl.slbE (m := 0 + (form v).length) hO
  have R1 := R.ext hE hle
  have hmore := more_rf w a c b (form v) (0 + (form v).length) n0 n1 h1 R1 S (by omega) (by omega)
  refine RS.call rfl opds hmore (fun x hx => .inl hx) ?_
  rintro r n2 h2 hle2 ⟨a', rfl, hR2, hX2, hw2⟩
  repeat' (first | refine stpS ?_ | (refine stp2 ?_ ?_ <;> intro _))
  exact ⟨a', rfl, hR2, hX2.via hle (fun _ _ k => k) (ExtW.of hE (Nat.le_refl _)), hw2.imp_right fun k => by omega⟩
set_option maxHeartbeats 4000000 in
theorem wFlag_rf (w : Nat) (a : Option Addr) (b : List UInt8) (t : Bool) (n0 n : Nat) (h : AH) (R : WrR h n0 n w a b) :
    RF Tryd.prog (inW w a) 47 #[.pointer (some ⟨w, 0, none⟩), .bool t] n h (WrTo w a b (form (if t then 1 else 0)) n0 n h) := by
  refine RF.of Tryd.func47 rfl rfl (Nat.le_of_ble_eq_true rfl) ?_; dsimp only [argEnv]
  cases t
  · repeat' (first | refine stpS ?_ | (refine stp2 ?_ ?_ <;> intro _))
    refine RS.call rfl opds (wInt_rf w a b 0 (by omega) (by omega) n0 n h R) (fun x hx => .inl hx) ?_
    rintro r n2 h2 hle2 ⟨a', rfl, hR2, hX2, hw2⟩
    repeat' (first | refine stpS ?_ | (refine stp2 ?_ ?_ <;> intro _))
    exact ⟨a', rfl, hR2, hX2, hw2⟩
  · repeat' (first | refine stpS ?_ | (refine stp2 ?_ ?_ <;> intro _))
    refine RS.call rfl opds (wInt_rf w a b 1 (by omega) (by omega) n0 n h R) (fun x hx => .inl hx) ?_
    rintro r n2 h2 hle2 ⟨a', rfl, hR2, hX2, hw2⟩
    repeat' (first | refine stpS ?_ | (refine stp2 ?_ ?_ <;> intro _))
    exact ⟨a', rfl, hR2, hX2, hw2⟩
set_option maxHeartbeats 4000000 in
theorem wLen_ev (w : Nat) (a : Option Addr) (b : List UInt8) (n0 n : Nat) (h : AH) (R : WrR h n0 n w a b) :
    Ev Tryd.prog none' 26 #[.pointer (some ⟨w, 0, none⟩)] n h (.int .i64 (b.length : Nat)) n h := by
  refine RF.pure rfl fun n' hn => ?_
  have R := R.ext (Ext.refl n h) hn
  refine RF.of Tryd.func26 rfl rfl (Nat.le_of_ble_eq_true rfl) ?_; dsimp only [argEnv]
  obtain ⟨hlo, hhi, hinf, hmade, hsl, hown, hne, hle⟩ := R
  repeat' (first | refine stpS ?_ | (refine stp2 ?_ ?_ <;> intro _))
  rfl
end Go.Proofs.YtflhhipemmlgpaaDoor
