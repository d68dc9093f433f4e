/- Contracts of the disk's methods: the power goes. -/
import Derived.Test.YtchfnjfmlhacfaaD
namespace Go.Proofs.Ytchfnjfmlhacfaa
open Go.Abs

section
variable {h h1 h2 : AH} {n n1 n2 d : Nat} {o : Nat → Option Addr} {ka : Option Addr} {pa : List (Option Addr)} {fl : Nat → List UInt8} {ps : List Pc} {fuse : Int} {keep : List Bool} {calls : Int} {down : Bool}
/-- Both files' bytes while pieces are kept. -/
def flL (fl : Nat → List UInt8) (L : Nat → List UInt8) : Nat → List UInt8 := fun j => if j < 2 then fl j else L (j - 2)
theorem flL_upd (fl L : Nat → List UInt8) (f : Nat) (l : List UInt8) (j : Nat) : upd (flL fl L) (2 + f) l j = flL fl (upd L f l) j := by
  unfold flL upd
  by_cases e : j = 2 + f
  · subst e
    rw [if_pos rfl, if_neg (by omega), if_pos (by omega)]
  · rw [if_neg e]
    by_cases h2 : j < 2
    · simp only [if_pos h2]
    · simp only [if_neg h2, if_neg (show ¬ j - 2 = f by omega)]
theorem flL_2 (fl L : Nat → List UInt8) (f : Nat) : flL fl L (2 + f) = L f := by
  unfold flL
  simp only [if_neg (show ¬ 2 + f < 2 by omega), Nat.add_sub_cancel_left]
set_option maxHeartbeats 4000000 in
theorem lose_rf {c : Option Addr} {ks : List Bool} (R : DkR h n d o ka pa fl ps fuse keep calls down) (hp : ∀ p ∈ ps, PcOk p) (hfl : ∀ f, (fl (2 + f)).length ≤ 4194304) (hps : ps.length ≤ 1099511627776) (hks : ks.length ≤ 1099511627776) (hS : SlT h n c ks) (hco : ∀ i, i < 5 → apt (o i) c) (hcd : apd d c) :
    RF Try.prog (DkF d o) 40 #[.pointer (some ⟨d, 0, none⟩), .slice c ks.length ks.length] n h (fun _ n' h' => ∃ o', DkR h' n' d o' ka [] (fun j => loseP (fun f => fl (2 + f)) ps ks (j % 2)) [] 0 keep calls true ∧ oNew n o o' ∧ ExtW (DkF d o) n h h') := by
  refine RF.of Try.func40 rfl rfl (Nat.le_of_ble_eq_true rfl) ?_; dsimp only [argEnv]
  have hlt := R.lt
  have c5 := R.c5
  repeat' (first | refine stpS ?_ | (refine stp2 ?_ ?_ <;> intro _))
  refine RC.loop ?_
  refine RL.inv (α := Nat × (Nat → Option Addr)) (fun s => [(12, .int .i64 (s.1 : Nat)), (11, .int .i64 ps.length), (10, .slice (o 4) ps.length ps.length), (1, .slice c ks.length ks.length), (0, .pointer (some ⟨d, 0, none⟩))])
    (fun s n1 h1 => s.1 ≤ ps.length ∧ n ≤ n1 ∧ DkR h1 n1 d s.2 ka pa (flL fl (loseP (fun f => fl (2 + f)) (ps.take s.1) ks)) ps fuse keep calls down ∧ oNew n o s.2 ∧ s.2 4 = o 4 ∧ ExtW (DkF d o) n h h1) (fun s => ps.length - s.1) (0, o) envs
    ⟨by omega, by omega, R.congr fun i hi => ?_, oNew.refl n o, rfl, ExtW.refl _ _ _⟩ ?_
  · unfold flL
    by_cases h2 : i < 2
    · rw [if_pos h2]
    · rw [if_neg h2, List.take_zero, loseP_nil]
      rw [show 2 + (i - 2) = i by omega]
  rintro ⟨i, o1⟩ n1 h1 ⟨hi, hn1, R1, ho1, ho4, hX1⟩
  dsimp only at hi R1 ho1 ho4 hX1 ⊢
  repeat' (first | refine stpS ?_ | (refine stp2 ?_ ?_ <;> intro _))
  · have hi' : i < ps.length := by omega
    obtain ⟨p, hpi⟩ : ∃ p, ps[i]? = some p := ⟨_, List.getElem?_eq_getElem hi'⟩
    have hpo := hp p (List.mem_of_getElem? hpi)
    have hf2 : p.file < 2 := by rcases hpo.file with q | q <;> omega
    obtain ⟨hso, -, hsn, -, hA, hC⟩ := R1.lo.facts (by omega)
    obtain ⟨g0, g1⟩ := pcsC_at ps pa i p R1.len hpi
    have hC0 := hC (i * 2) (by omega)
    have hC1 := hC (i * 2 + 1) (by omega)
    rw [ho4] at hso hsn hA hC0 hC1
    rw [List.getD, Nat.mul_comm i 2, g0] at hC0
    rw [List.getD, Nat.mul_comm i 2, g1] at hC1
    rw [Nat.mul_comm 2 i] at hC0 hC1
    simp only [Option.getD_some] at hC0 hC1
    obtain ⟨t, w, hv⟩ : ∃ t w, pcV p (pa.getD i none) = .iface t w := by
      unfold pcV; split
      · exact ⟨_, _, rfl⟩
      · exact ⟨_, _, rfl⟩
    have hC1' : h1.cell (sb (o 4)) (so (o 4) + i * 2 + 1) = .iface t w := by rw [← hv]; exact hC1
    have hkF : c ≠ none → ¬ DkF d o (sb c) := by
      rintro q (e | ⟨j, hj, hne, e⟩)
      · exact (hcd.resolve_left q) e.symm
      · exact ((hco j hj).resolve_left hne).resolve_left q e.symm
    have hA2 : SlA c ks.length := hS.sla
    have htk : ps.take (i + 1) = ps.take i ++ [p] := by
      rw [List.take_add_one, hpi]; rfl
    have hti : (ps.take i).length = i := by rw [List.length_take]; omega
    have hsn1 := hsn
    cases hk : ks.getD i false
    · have hls : loseP (fun f => fl (2 + f)) (ps.take (i + 1)) ks = loseP (fun f => fl (2 + f)) (ps.take i) ks := by
        rw [htk, loseP_snoc, hti, hk]; simp
      by_cases hik : i < ks.length
      · have hcb : h1.cell (sb c) (so c + i) = .bool false := by
          have := (hS.extW hX1 hn1 hkF).cell i (by omega)
          rw [this, boolsF, hk]
        have hcl : sb c < n1 := Nat.lt_of_lt_of_le (hS.lt (by omega)) hn1
        repeat' (first | refine stpS ?_ | (refine stp2 ?_ ?_ <;> intro _))
        refine nextC.normal ⟨(i + 1, o1), by dsimp only; omega, envs, by dsimp only; omega, by omega, ?_, ho1, ho4, extW⟩
        dsimp only
        rw [hls]
        exact R1.ext ext (by omega)
      · repeat' (first | refine stpS ?_ | (refine stp2 ?_ ?_ <;> intro _))
        refine nextC.normal ⟨(i + 1, o1), by dsimp only; omega, envs, by dsimp only; omega, by omega, ?_, ho1, ho4, extW⟩
        dsimp only
        rw [hls]
        exact R1.ext ext (by omega)
    · have hik : i < ks.length := by
        refine Classical.byContradiction fun q => ?_
        rw [List.getD, List.getElem?_eq_none (by omega)] at hk
        cases hk
      have hls : loseP (fun f => fl (2 + f)) (ps.take (i + 1)) ks = upd (loseP (fun f => fl (2 + f)) (ps.take i) ks) p.file (doP (loseP (fun f => fl (2 + f)) (ps.take i) ks p.file) p) := by
        rw [htk, loseP_snoc, hti, hk]; simp
      have hcb : h1.cell (sb c) (so c + i) = .bool true := by
        have := (hS.extW hX1 hn1 hkF).cell i (by omega)
        rw [this, boolsF, hk]
      have hcl : sb c < n1 := Nat.lt_of_lt_of_le (hS.lt (by omega)) hn1
      have R2 := R1.ext (h1 := (h1.app (.new n1 ⟨2, 0, true, 0⟩ [.int .i64 0, .nilIface])).app (.sets n1 0 [.int .i64 (p.file : Nat), .iface t w])) ext (Nat.le_succ n1)
      repeat' (first | refine stpS ?_ | (refine stp2 ?_ ?_ <;> intro _))
      refine RC.gen (fun g => DkR g (n1 + 1) d o1 ka pa (flL fl (loseP (fun f => fl (2 + f)) (ps.take i) ks)) ps fuse keep calls down ∧ g.cell n1 0 = .int .i64 (p.file : Nat) ∧ g.cell n1 1 = .iface t w ∧ ExtW (DkF d o) n h g) ⟨R2, cell, cell, extW⟩ ?_
      have hrl : ∀ i, i < 5 → o1 i ≠ none → sb (o1 i) < n1 := fun i hi q => R1.rlt hi q
      clear hC1 hC0 hC1' hC hcb R2 R1 hX1
      rintro g ⟨R2, hn0, hn1', hX1⟩
      have hlen := loseP_le (ps := ps.take i) (ks := ks) hfl (fun p hp' => hp p (List.mem_of_mem_take hp'))
      generalize loseP (fun f => fl (2 + f)) (ps.take i) ks = L at *
      have hcf : g.cell d (3 + p.file) = .slice (o1 (2 + p.file)) (L p.file).length (L p.file).length := by
        have := R2.cf (2 + p.file) (by omega)
        rwa [show 1 + (2 + p.file) = 3 + p.file by omega, flL_2] at this
      have hfo : OwnSl g 0 (n1 + 1) (o1 (2 + p.file)) 1 (L p.file).length (bytesV (L p.file)) := by
        have := R2.fo (2 + p.file) (by omega)
        rwa [flL_2] at this
      have hdn := R2.lt
      have hinf := R2.inf
      have hod : o1 (2 + p.file) = none ∨ d ≠ sb (o1 (2 + p.file)) := R2.od (2 + p.file) (by omega)
      have hnd : ¬ inA (o1 (2 + p.file)) d := fun q => (hod.resolve_left q.1) q.2
      have hnn : ¬ inA (o1 (2 + p.file)) n1 := fun q => by
        have := hrl (2 + p.file) (by omega) q.1
        have := q.2
        omega
      have hWl : ∀ b, inA (o1 (2 + p.file)) b → b < n1 + 1 := fun b q => by rw [q.2]; exact R2.rlt (by omega) q.1
      have hTd : DkF d o d := .inl rfl
      have hTf : ∀ b, inA (o1 (2 + p.file)) b → DkF d o b ∨ n ≤ b := fun b q => by
        by_cases hb : b < n
        · exact .inl (ho1.F b hb (.inr ⟨2 + p.file, by omega, q⟩))
        · exact .inr (by omega)
      repeat' (first | refine stp ?_ | (refine stp2 ?_ ?_ <;> intro _))
      have Rb := R2.ext (AH.below_ext g (n1 + 1)) (Nat.le_refl _)
      have hfb := hfo.ext (AH.below_ext g (n1 + 1)) (Nat.le_refl _)
      have hgm := R2.gmem hpi
      cases hcut : p.cut
      · obtain ⟨rfl, rfl⟩ : 68 = t ∧ .agg #[.int .i64 (p.at_ : Nat), .slice (pa.getD i none) p.b.length p.b.length] = w := by
          simp only [pcV, hcut, Bool.false_eq_true, if_false] at hv
          injection hv with q1 q2; exact ⟨q1, q2⟩
        refine RD.invoke (n1 + 1) rfl opd opds (bitDo_rf (L p.file) p.b (o1 (2 + p.file)) (pa.getD i none) _ _ (n1 + 1) p.at_ _ hfb ((R2.dat i p hpi hcut).ext (AH.below_ext g (n1 + 1)) (Nat.le_refl _)) rfl rfl (hpo.some hcut).1 (hlen _) (hpo.some hcut).2 (R2.og (2 + p.file) _ (by omega) hgm)) hTf (Nat.le_refl _) cfw ?_
        rintro r n2 h2 hle ⟨a1, rfl, hO2, hX2, hnew⟩
        have hdo : doP (L p.file) ⟨0, false, p.at_, p.b⟩ = doP (L p.file) p := by simp [doP, hcut]
        rw [hdo] at hO2 ⊢
        have R3 := Rb.fileJ (i := 2 + p.file) (j := 3 + p.file) (by omega) (by omega) hX2 hle hO2 (hnew.imp id .inr)
        repeat' (first | refine stp ?_ | (refine stp2 ?_ ?_ <;> intro _))
        refine nextC.normal ⟨(i + 1, upd o1 (2 + p.file) a1), by dsimp only; omega, envs, by dsimp only; omega, by omega, R3.congr fun j hj => ?_, ho1.upd (n1 := n1 + 1) (by omega) (hnew.imp id .inr), ?_, ExtW.appSets (.inl hTd) ((ExtW.ofX (W := fun b => DkF d o b ∨ n ≤ b) hX2 (fun q => hTf _ ⟨q, rfl⟩)).via (by omega) (fun x hx q => q.resolve_right (by omega)) (hX1.below (by omega)))⟩
        · dsimp only
          rw [hls]; exact flL_upd _ _ _ _ _
        · dsimp only
          rw [upd_ne _ _ (by omega)]; exact ho4
      · obtain ⟨rfl, rfl⟩ : 76 = t ∧ .int .i64 (p.at_ : Nat) = w := by
          simp only [pcV, hcut, if_true] at hv
          injection hv with q1 q2; exact ⟨q1, q2⟩
        refine RD.invoke (n1 + 1) rfl opd opds (cutDo_rf (L p.file) (o1 (2 + p.file)) _ (n1 + 1) p.at_ _ hfb rfl) hTf (Nat.le_refl _) cfw ?_
        rintro r n2 h2 hle ⟨a1, rfl, hO2, hX2, hnew⟩
        have hdo : (L p.file).take p.at_ = doP (L p.file) p := by simp [doP, hcut]
        rw [hdo] at hO2 ⊢
        have R3 := Rb.fileJ (i := 2 + p.file) (j := 3 + p.file) (by omega) (by omega) hX2 hle hO2 (hnew.imp id .inr)
        repeat' (first | refine stp ?_ | (refine stp2 ?_ ?_ <;> intro _))
        refine nextC.normal ⟨(i + 1, upd o1 (2 + p.file) a1), by dsimp only; omega, envs, by dsimp only; omega, by omega, R3.congr fun j hj => ?_, ho1.upd (n1 := n1 + 1) (by omega) (hnew.imp id .inr), ?_, ExtW.appSets (.inl hTd) ((ExtW.ofX (W := fun b => DkF d o b ∨ n ≤ b) hX2 (fun q => hTf _ ⟨q, rfl⟩)).via (by omega) (fun x hx q => q.resolve_right (by omega)) (hX1.below (by omega)))⟩
        · dsimp only
          rw [hls]; exact flL_upd _ _ _ _ _
        · dsimp only
          rw [upd_ne _ _ (by omega)]; exact ho4
  · have hie : i = ps.length := by omega
    subst hie
    rw [List.take_length] at R1
    have hlen := loseP_le (ps := ps) (ks := ks) hfl hp
    generalize loseP (fun f => fl (2 + f)) ps ks = L at *
    refine RC.loop ?_
    refine RL.inv (α := Nat × (Nat → Option Addr)) (fun s => [(46, .int .i64 (s.1 : Nat)), (0, .pointer (some ⟨d, 0, none⟩))])
      (fun s n2 h2 => s.1 ≤ 2 ∧ n ≤ n2 ∧ DkR h2 n2 d s.2 ka pa (fun j => if j < s.1 then L j else flL fl L j) ps fuse keep calls down ∧ oNew n o s.2 ∧ ExtW (DkF d o) n h h2) (fun s => 2 - s.1) (0, o1) envs
      ⟨by omega, hn1, R1.congr fun j _ => rfl, ho1, hX1⟩ ?_
    clear R1 ho1 ho4 hX1
    rintro ⟨f, o2⟩ n2 h2 ⟨hf, hn2, R2, ho2, hX2⟩
    dsimp only at hf R2 ho2 hX2 ⊢
    have hdn := R2.lt
    have hinf := R2.inf
    have hTd : DkF d o d := .inl rfl
    repeat' (first | refine stpS ?_ | (refine stp2 ?_ ?_ <;> intro _))
    · have hf2 : f < 2 := by omega
      have hfl2 : (if 2 + f < f then L (2 + f) else flL fl L (2 + f)) = L f := by
        rw [if_neg (by omega)]; exact flL_2 _ _ _
      have hcf : h2.cell d (3 + f) = .slice (o2 (2 + f)) (L f).length (L f).length := by
        have := R2.cf (2 + f) (by omega)
        rwa [show 1 + (2 + f) = 3 + f by omega, hfl2] at this
      have hfo : OwnSl h2 0 n2 (o2 (2 + f)) 1 (L f).length (bytesV (L f)) := by
        have := R2.fo (2 + f) (by omega)
        rwa [hfl2] at this
      have hLf := hlen f
      repeat' (first | refine stp ?_ | (refine stp2 ?_ ?_ <;> intro _))
      refine RD.call n2 rfl opds (clone_rf (L f) (o2 (2 + f)) _ n2 _ (hfo.slb.ext (AH.below_ext h2 n2) (Nat.le_refl _)) rfl (by omega)) (Nat.le_refl _) cfc ?_
      rintro r n3 h3 hle ⟨a1, rfl, hE, hO⟩
      have hE2 : Ext n2 h2 h3 := hE.via (Nat.le_refl _) (AH.below_ext h2 n2)
      have hnew : a1 = o2 f ∨ a1 = none ∨ n2 ≤ sb a1 := .inr (hO.at'.imp id (·.1))
      have R3 := R2.file (i := f) (by omega) (fun x hx _ => ⟨hE2.info x hx, fun k => hE2.cell x k hx⟩) hle (hO.mono (Nat.zero_le _)) hnew
      repeat' (first | refine stp ?_ | (refine stp2 ?_ ?_ <;> intro _))
      refine nextC.normal ⟨(f + 1, upd o2 f a1), by dsimp only; omega, envs, by dsimp only; omega, by omega, R3.congr fun j hj => ?_, ho2.upd hn2 hnew, ExtW.appSets (.inl hTd) (hX2.then hE2 hn2)⟩
      dsimp only
      unfold upd
      by_cases e : j = f
      · rw [if_pos e, if_pos (by omega), e]
      · simp only [if_neg e]
        by_cases e2 : j < f
        · simp only [if_pos e2, if_pos (show j < f + 1 by omega)]
        · simp only [if_neg e2, if_neg (show ¬ j < f + 1 by omega)]
    · have hf2 : f = 2 := by omega
      subst hf2
      have R3 := R2.list (a' := none) (ps' := []) (pa' := []) (fun x _ _ => ⟨rfl, fun _ => rfl⟩) (Nat.le_refl _) (.nil (Nat.zero_le _)) (.inr (.inl rfl)) rfl (fun x hx => by cases hx) (fun i p hi => by cases hi)
      have R4 := R3.scalar (j := 6) (fuse' := 0) (calls' := calls) (down' := down) (.inl ⟨rfl, rfl, rfl, rfl⟩)
      have R5 := R4.scalar (j := 9) (fuse' := 0) (calls' := calls) (down' := true) (.inr (.inr ⟨rfl, rfl, rfl, rfl⟩))
      refine ⟨_, R5.congr fun j hj => ?_, ho2.upd hn2 (.inr (.inl rfl)), ExtW.appSets (.inl hTd) (ExtW.appSets (.inl hTd) (ExtW.appSets (.inl hTd) hX2))⟩
      by_cases e : j < 2
      · rw [if_pos e, Nat.mod_eq_of_lt e]
      · rw [if_neg e, flL, if_neg e]
        congr 1; omega
end
end Go.Proofs.Ytchfnjfmlhacfaa
