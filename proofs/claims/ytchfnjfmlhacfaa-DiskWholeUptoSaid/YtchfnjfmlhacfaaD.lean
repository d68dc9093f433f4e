/- Contracts of the disk's methods: may it be done; a piece is done. -/
import Derived.Test.YtchfnjfmlhacfaaC
namespace Go.Proofs.Ytchfnjfmlhacfaa
open Go.Abs

section
variable {h h1 h2 : AH} {n n1 n2 d : Nat} {o : Nat → Option Addr} {ka : Option Addr} {pa : List (Option Addr)} {fl : Nat → List UInt8} {ps : List Pc} {fuse : Int} {keep : List Bool} {calls : Int} {down : Bool}
set_option maxHeartbeats 4000000 in
theorem none_ev (R : DkR h n d o ka pa fl ps fuse keep calls down) : Ev Try.prog none' 39 #[.pointer (some ⟨d, 0, none⟩)] n h (.bool false) n h := by
  refine RF.pure rfl fun n' hn => ?_
  have R := R.ext (Ext.refl n h) hn
  have h0 := R.c0
  have hlt := R.lt
  refine RF.of Try.func39 rfl rfl (Nat.le_of_ble_eq_true rfl) ?_; dsimp only [argEnv]
  repeat' (first | refine stpS ?_ | (refine stp2 ?_ ?_ <;> intro _))
  rfl
set_option maxHeartbeats 4000000 in
theorem noneN_ev : Ev Try.prog none' 39 #[.pointer none] n h (.bool true) n h := by
  refine RF.pure rfl fun n' hn => ?_
  refine RF.of Try.func39 rfl rfl (Nat.le_of_ble_eq_true rfl) ?_; dsimp only [argEnv]
  repeat' (first | refine stpS ?_ | (refine stp2 ?_ ?_ <;> intro _))
  rfl
def mayE (down : Bool) (f : Int) : Int := if down = true then 6 else if f ≠ 0 ∧ f ≠ 1 then 1 else 0
set_option maxHeartbeats 4000000 in
theorem may_ev (R : DkR h n d o ka pa fl ps fuse keep calls down) (f : Int) : Ev Try.prog none' 33 #[.pointer (some ⟨d, 0, none⟩), .int .i64 f] n h (.int .i64 (mayE down f)) n h := by
  refine RF.pure rfl fun n' hn => ?_
  have R := R.ext (Ext.refl n h) hn
  have h9 := R.c9
  have hlt := R.lt
  refine RF.of Try.func33 rfl rfl (Nat.le_of_ble_eq_true rfl) ?_; dsimp only [argEnv]
  cases hd : down
  · rw [hd] at h9
    by_cases h0 : f = 0
    · repeat' (first | refine stpS ?_ | (refine stp2 ?_ ?_ <;> intro _) | refine RS.call1 rfl opds (none_ev R) none'W ?_)
      simp [mayE, h0]
    · by_cases h1 : f = 1
      · repeat' (first | refine stpS ?_ | (refine stp2 ?_ ?_ <;> intro _) | refine RS.call1 rfl opds (none_ev R) none'W ?_)
        simp [mayE, h1]
      · repeat' (first | refine stpS ?_ | (refine stp2 ?_ ?_ <;> intro _) | refine RS.call1 rfl opds (none_ev R) none'W ?_)
        simp [mayE, h0, h1]
  · rw [hd] at h9
    repeat' (first | refine stpS ?_ | (refine stp2 ?_ ?_ <;> intro _) | refine RS.call1 rfl opds (none_ev R) none'W ?_)
    simp [mayE]
set_option maxHeartbeats 4000000 in
theorem done_rf {p : Pc} {c : Option Addr} (R : DkR h n d o ka pa fl ps fuse keep calls down) (hp : PcOk p) (hfl : (fl p.file).length ≤ 4194304) (hps : ps.length ≤ 1099511627776) (hS : p.cut = false → SlB h n c p.b) (hc : c ≠ none → sb c < n) (hco : ∀ i, i < 5 → apt (o i) c) (hcd : apd d c) :
    RF Try.prog (DkF d o) 34 #[.pointer (some ⟨d, 0, none⟩), .int .i64 (p.file : Nat), pcV p c] n h (fun _ n' h' => ∃ a1 a4, DkR h' n' d (upd (upd o p.file a1) 4 a4) ka (pa ++ [c]) (upd fl p.file (doP (fl p.file) p)) (ps ++ [p]) fuse keep calls down ∧
      (a1 = o p.file ∨ n ≤ sb a1) ∧ (a4 = o 4 ∨ n ≤ sb a4) ∧ ExtW (DkF d o) n h h') := by
  have hi : p.file < 2 := by rcases hp.file with h0 | h0 <;> omega
  refine RF.of Try.func34 rfl rfl (Nat.le_of_ble_eq_true rfl) ?_; dsimp only [argEnv]
  have hlt := R.lt
  have hinf := R.inf
  have Rb := R.ext (AH.below_ext h n) (Nat.le_refl _)
  have hTd : DkF d o d := .inl rfl
  have c1 : h.cell d (1 + p.file) = .slice (o p.file) (fl p.file).length (fl p.file).length := R.cf p.file (by omega)
  have hod : o p.file = none ∨ d ≠ sb (o p.file) := R.od p.file (by omega)
  have hnd : ¬ inA (o p.file) d := fun q => (hod.resolve_left q.1) q.2
  have hWl : ∀ b, inA (o p.file) b → b < n := fun b q => by rw [q.2]; exact R.rlt (by omega) q.1
  have fin : ∀ (a1 a4 : Option Addr) (n1 n2 : Nat) (h1 h2 : AH), n ≤ n1 → n1 ≤ n2 → OwnSl h1 0 n1 a1 1 (doP (fl p.file) p).length (bytesV (doP (fl p.file) p)) → ExtX n (o p.file) (h.below n) h1 → (a1 = o p.file ∨ n ≤ sb a1) →
      ExtX n1 (o 4) (h1.app (.sets d (1 + p.file) [.slice a1 (doP (fl p.file) p).length (doP (fl p.file) p).length])) h2 → OwnSl h2 0 n2 a4 2 (ps.length + 1) (pcsC ps pa ++ pcC p c) → (a4 = o 4 ∨ n1 ≤ sb a4) →
      ∃ a1 a4', DkR (h2.app (.sets d 5 [.slice a4 (ps.length + 1) (ps.length + 1)])) n2 d (upd (upd o p.file a1) 4 a4') ka (pa ++ [c]) (upd fl p.file (doP (fl p.file) p)) (ps ++ [p]) fuse keep calls down ∧
      (a1 = o p.file ∨ n ≤ sb a1) ∧ (a4' = o 4 ∨ n ≤ sb a4') ∧ ExtW (DkF d o) n h (h2.app (.sets d 5 [.slice a4 (ps.length + 1) (ps.length + 1)])) := by
    intro a1 a4 n1 n2 h1 h2 hle hle2 hO1 hX1 hnew1 hX3 hO5 hnew2
    have R1 := Rb.file (i := p.file) (by omega) hX1 hle hO1 (hnew1.imp id .inr)
    have e4 : upd o p.file a1 4 = o 4 := upd_ne _ _ (show 4 ≠ p.file by omega)
    have hcb := hco p.file (by omega)
    have w1 : ExtW (DkF d o) n h h1 := (ExtW.ofX (W := DkF d o) hX1 (fun q => .inr ⟨p.file, by omega, q, rfl⟩)).via (Nat.le_refl n) (fun _ _ q => q) (ExtW.of (AH.below_ext h n) (Nat.le_refl _))
    have w2 := ExtW.appSets (b := d) (o := 1 + p.file) (vs := [.slice a1 (doP (fl p.file) p).length (doP (fl p.file) p).length]) (.inl hTd) w1
    have w3 := (ExtW.ofX (W := DkF d o) hX3 (fun q => .inr ⟨4, by omega, q, rfl⟩)).via hle (fun _ _ q => q) w2
    refine ⟨a1, a4, R1.push (p := p) (c := c) (by rw [e4]; exact hX3) hle2 hO5 (by rw [e4]; exact hnew2.imp id .inr) (fun q => ?_) (fun q => Nat.lt_of_lt_of_le (hc q) hle) (fun i hi => ?_) hcd, hnew1, hnew2.imp id (by omega), ExtW.appSets (.inl hTd) w3⟩
    · exact slT hX1 hle ((hS q).ext (AH.below_ext h n) (Nat.le_refl _)) hcb hcd
    · by_cases e : i = p.file
      · subst e; rw [upd_same]; exact apt_new hcb hc (hnew1.imp id .inr)
      · rw [upd_ne _ _ e]; exact hco i hi
  cases hcut : p.cut
  · have hv : pcV p c = .iface 68 (.agg #[.int .i64 (p.at_ : Nat), .slice c p.b.length p.b.length]) := by simp [pcV, hcut]
    rw [hv]
    repeat' (first | refine stp ?_ | (refine stp2 ?_ ?_ <;> intro _))
    refine RD.invoke n rfl opd opds (bitDo_rf (fl p.file) p.b (o p.file) c _ _ n p.at_ _ (Rb.fo p.file (by omega)) ((hS hcut).ext (AH.below_ext h n) (Nat.le_refl _)) rfl rfl (hp.some hcut).1 hfl (hp.some hcut).2 (hco p.file (by omega))) (fun b hb => .inl (.inr ⟨p.file, by omega, hb⟩)) (Nat.le_refl _) cfw ?_
    rintro r n1 h1 hle ⟨a1, rfl, hO1, hX1, hnew1⟩
    repeat' (first | refine stp ?_ | (refine stp2 ?_ ?_ <;> intro _))
    have hdo : doP (fl p.file) ⟨0, false, p.at_, p.b⟩ = doP (fl p.file) p := by simp [doP, hcut]
    rw [hdo] at hO1 ⊢
    have hv : pcV p c = .iface 68 (.agg #[.int .i64 (p.at_ : Nat), .slice c p.b.length p.b.length]) := by simp [pcV, hcut]
    have R1 := Rb.file (i := p.file) (by omega) hX1 hle hO1 (hnew1.imp id .inr)
    have c5 := R1.c5
    have hO4 := R1.lo
    have e4 : upd o p.file a1 4 = o 4 := upd_ne _ _ (show 4 ≠ p.file by omega)
    rw [e4] at hO4 c5
    repeat' refine stp ?_
    refine RS.appendT rfl opd opd (hO4.ext ext (by omega)) (OwnSl.src (OwnSl.new (n0 := 0) (m := 1) (z := 2) (Nat.zero_le _) rfl rfl)) full_slice (fun q => .inl (.inr ⟨4, by omega, q, rfl⟩)) (by omega) ?_
    intro a4 n2 h2 hle2 hO5 hX2 hnew2
    have hX3 : ExtX n1 (o 4) (h1.app (.sets d (1 + p.file) [.slice a1 (doP (fl p.file) p).length (doP (fl p.file) p).length])) h2 := fun x hx hne => by
      have := hX2 x (by omega) hne
      exact ⟨this.1.trans (i_new_ne (by omega) rfl), fun i => (this.2 i).trans (c_new_ne (by omega) rfl)⟩
    have i2 := R1.inf
    have hdl := R1.lt
    have ho4 := R.od 4 (by omega)
    have hd4 : o 4 = none ∨ d ≠ sb (o 4) := ho4
    repeat' refine stp ?_
    have hp1 : pcC p c = [.int .i64 (p.file : Nat), .iface 68 (.agg #[.int .i64 (p.at_ : Nat), .slice c p.b.length p.b.length])] := by rw [pcC, hv]
    exact fin a1 a4 n1 n2 h1 h2 hle (by omega) hO1 hX1 hnew1 hX3 (by rw [hp1]; exact hO5) (hnew2.imp id (by omega))
  · have hv : pcV p c = .iface 76 (.int .i64 (p.at_ : Nat)) := by simp [pcV, hcut]
    rw [hv]
    repeat' (first | refine stp ?_ | (refine stp2 ?_ ?_ <;> intro _))
    refine RD.invoke n rfl opd opds (cutDo_rf (fl p.file) (o p.file) _ n p.at_ _ (Rb.fo p.file (by omega)) rfl) (fun b hb => .inl (.inr ⟨p.file, by omega, hb⟩)) (Nat.le_refl _) cfw ?_
    rintro r n1 h1 hle ⟨a1, rfl, hO1, hX1, hnew1⟩
    repeat' (first | refine stp ?_ | (refine stp2 ?_ ?_ <;> intro _))
    have hdo : (fl p.file).take p.at_ = doP (fl p.file) p := by simp [doP, hcut]
    rw [hdo] at hO1 ⊢
    have hv : pcV p c = .iface 76 (.int .i64 (p.at_ : Nat)) := by simp [pcV, hcut]
    have R1 := Rb.file (i := p.file) (by omega) hX1 hle hO1 (hnew1.imp id .inr)
    have c5 := R1.c5
    have hO4 := R1.lo
    have e4 : upd o p.file a1 4 = o 4 := upd_ne _ _ (show 4 ≠ p.file by omega)
    rw [e4] at hO4 c5
    repeat' refine stp ?_
    refine RS.appendT rfl opd opd (hO4.ext ext (by omega)) (OwnSl.src (OwnSl.new (n0 := 0) (m := 1) (z := 2) (Nat.zero_le _) rfl rfl)) full_slice (fun q => .inl (.inr ⟨4, by omega, q, rfl⟩)) (by omega) ?_
    intro a4 n2 h2 hle2 hO5 hX2 hnew2
    have hX3 : ExtX n1 (o 4) (h1.app (.sets d (1 + p.file) [.slice a1 (doP (fl p.file) p).length (doP (fl p.file) p).length])) h2 := fun x hx hne => by
      have := hX2 x (by omega) hne
      exact ⟨this.1.trans (i_new_ne (by omega) rfl), fun i => (this.2 i).trans (c_new_ne (by omega) rfl)⟩
    have i2 := R1.inf
    have hdl := R1.lt
    have ho4 := R.od 4 (by omega)
    have hd4 : o 4 = none ∨ d ≠ sb (o 4) := ho4
    repeat' refine stp ?_
    have hp1 : pcC p c = [.int .i64 (p.file : Nat), .iface 76 (.int .i64 (p.at_ : Nat))] := by rw [pcC, hv]
    exact fin a1 a4 n1 n2 h1 h2 hle (by omega) hO1 hX1 hnew1 hX3 (by rw [hp1]; exact hO5) (hnew2.imp id (by omega))
end
end Go.Proofs.Ytchfnjfmlhacfaa
