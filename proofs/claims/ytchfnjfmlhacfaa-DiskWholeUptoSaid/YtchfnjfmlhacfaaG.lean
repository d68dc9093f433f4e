/- Contracts of the disk's methods: a call ends; crash, fuse, restart; what is asked. -/
import Derived.Test.YtchfnjfmlhacfaaF
namespace Go.Proofs.Ytchfnjfmlhacfaa
open Go.Abs

section
variable {h h1 h2 : AH} {n n1 n2 d : Nat} {F G : Nat → Prop} {S S1 S2 : DS}
theorem ends_ok {S : DS} (h : DSOk S) : DSOk S.ends.2 := by
  unfold DS.ends
  split
  · exact ⟨h.ps, h.sure, h.fuse, by have := h.calls; show 0 ≤ S.calls + 1; omega, h.keep⟩
  · split
    · exact ⟨h.ps, h.sure, by have := h.fuse; show 0 ≤ S.fuse - 1 ∧ S.fuse - 1 ≤ 9223372036854775807; omega, by have := h.calls; show 0 ≤ S.calls + 1; omega, h.keep⟩
    · refine loseP_ok (S := { S with calls := S.calls + 1, fuse := S.fuse - 1 }) ⟨h.ps, h.sure, by have := h.fuse; show 0 ≤ S.fuse - 1 ∧ S.fuse - 1 ≤ 9223372036854775807; omega, by have := h.calls; show 0 ≤ S.calls + 1; omega, h.keep⟩ _
set_option maxHeartbeats 4000000 in
theorem ends_dk (D : Dk h n d F G S) (hps : S.ps.length ≤ 1099511627776) (hcl : S.calls < 4611686018427387904) :
    RF Try.prog F 35 #[.pointer (some ⟨d, 0, none⟩)] n h (fun r n' h' => r = .int .i64 S.ends.1 ∧ DkTo n d F G h S.ends.2 n' h') := by
  obtain ⟨ok, o, ka, pa, rfl, rfl, R⟩ := D
  refine RF.of Try.func35 rfl rfl (Nat.le_of_ble_eq_true rfl) ?_; dsimp only [argEnv]
  have hlt := R.lt
  have c6 := R.c6
  have c8 := R.c8
  have hinf := R.inf
  have hTd : DkF d o d := .inl rfl
  have hfu := ok.fuse
  have hca := ok.calls
  have R1 := R.scalar (j := 8) (fuse' := S.fuse) (calls' := S.calls + 1) (down' := S.down) (.inr (.inl ⟨rfl, rfl, rfl, rfl⟩))
  have e1 := ExtW.appSets (n := n) (b := d) (o := 8) (vs := [.int .i64 (S.calls + 1)]) (.inl hTd) (ExtW.refl (DkF d o) n h)
  have hok := ends_ok ok
  by_cases h0 : S.fuse = 0
  · rw [h0] at c6
    repeat' (first | refine stpS ?_ | (refine stp2 ?_ ?_ <;> intro _))
    have he : S.ends = (0, { S with calls := S.calls + 1 }) := by simp [DS.ends, h0]
    rw [he] at hok ⊢
    exact ⟨rfl, DkTo.mk hok R1 (oNew.refl _ _) (fun x hx => .inl hx) e1⟩
  · have R2 := R1.scalar (j := 6) (fuse' := S.fuse - 1) (calls' := S.calls + 1) (down' := S.down) (.inl ⟨rfl, rfl, rfl, rfl⟩)
    have e2 := ExtW.appSets (n := n) (b := d) (o := 6) (vs := [.int .i64 (S.fuse - 1)]) (.inl hTd) e1
    by_cases hf1 : 1 < S.fuse
    · have he : S.ends = (0, { S with calls := S.calls + 1, fuse := S.fuse - 1 }) := by simp [DS.ends, h0, hf1]
      rw [he] at hok ⊢
      repeat' (first | refine stpS ?_ | (refine stp2 ?_ ?_ <;> intro _))
      exact ⟨rfl, DkTo.mk hok R2 (oNew.refl _ _) (fun x hx => .inl hx) e2⟩
    · have he : S.ends = (6, { S with calls := S.calls + 1, fuse := S.fuse - 1 }.lose S.keep) := by simp [DS.ends, h0, hf1]
      rw [he]
      have c7 := R2.c7
      repeat' (first | refine stpS ?_ | (refine stp2 ?_ ?_ <;> intro _))
      have D2 : Dk ((h.app (.sets d 8 [.int .i64 (S.calls + 1)])).app (.sets d 6 [.int .i64 (S.fuse - 1)])) n d (DkF d o) (DkG ka pa) { S with calls := S.calls + 1, fuse := S.fuse - 1 } :=
        ⟨⟨ok.ps, ok.sure, by show 0 ≤ S.fuse - 1 ∧ S.fuse - 1 ≤ 9223372036854775807; omega, by show 0 ≤ S.calls + 1; omega, ok.keep⟩, o, ka, pa, rfl, rfl, R2⟩
      refine RS.call rfl opds (lose_dk D2 hps ok.keep R2.ks (fun q e => D2.apart _ e ⟨ka, by simp, q, rfl⟩)) (fun b hb => .inl hb) ?_
      rintro r n1 h1 hle hto
      repeat' (first | refine stpS ?_ | (refine stp2 ?_ ?_ <;> intro _))
      exact ⟨rfl, DkTo.trans e2 (fun _ _ q => q) (fun _ _ q => q) (Nat.le_refl _) hto⟩
theorem done_ok {S : DS} {p : Pc} (h : DSOk S) (hp : PcOk p) : DSOk (S.done p) :=
  ⟨fun q hq => by
    rcases List.mem_append.1 hq with k | k
    · exact h.ps q k
    · simp at k; subst k; exact hp, h.sure, h.fuse, h.calls, h.keep⟩
theorem done_dk {p : Pc} {c : Option Addr} (D : Dk h n d F G S) (hp : PcOk p) (hps : S.ps.length < 1099511627776) (hS : p.cut = false → SlB h n c p.b) (hc : c ≠ none → sb c < n ∧ ¬ F (sb c)) :
    RF Try.prog F 34 #[.pointer (some ⟨d, 0, none⟩), .int .i64 (p.file : Nat), pcV p c] n h (fun _ n' h' => ∃ F' G', Dk h' n' d F' G' (S.done p) ∧ (∀ b, b < n → F' b → F b) ∧ (∀ b, b < n → G' b → G b ∨ inA c b) ∧ ExtW F n h h') := by
  obtain ⟨ok, o, ka, pa, rfl, rfl, R⟩ := D
  have hf2 : p.file < 2 := by rcases hp.file with h0 | h0 <;> omega
  have hco : ∀ i, i < 5 → apt (o i) c := fun i hi => by
    by_cases q : o i = none
    · exact .inl q
    · by_cases q2 : c = none
      · exact .inr (.inl q2)
      · exact .inr (.inr fun e => (hc q2).2 (.inr ⟨i, hi, q, e.symm⟩))
  have hcd : apd d c := by
    by_cases q2 : c = none
    · exact .inl q2
    · exact .inr fun e => (hc q2).2 (.inl e.symm)
  refine (done_rf R hp (by rw [flOf_lt _ hf2]; exact ok.now _) (by omega) hS (fun q => (hc q).1) hco hcd).mono ?_
  rintro r n' h' ⟨a1, a4, R', k1, k4, e⟩
  have ho : oNew n o (upd (upd o p.file a1) 4 a4) := ((oNew.refl n o).upd (n1 := n) (Nat.le_refl _) (k1.imp id .inr)).upd (Nat.le_refl _) (by
    rw [upd_ne _ _ (by omega)]
    exact k4.imp id .inr)
  refine ⟨_, _, ⟨done_ok ok hp, _, ka, pa ++ [c], rfl, rfl, R'.congr fun i hi => ?_⟩, fun b hb q => ho.F b hb q, ?_, e⟩
  · rw [flOf_lt _ hf2]
    unfold flOf upd
    by_cases h2 : i < 2
    · simp only [if_pos h2, DS.done_now]
      by_cases e : i = p.file
      · subst e; simp
      · rw [if_neg e, if_neg (Ne.symm e)]
    · simp only [if_neg h2, if_neg (show ¬ i = p.file by omega)]
      rfl
  · rintro b hb ⟨x, hx, hne, rfl⟩
    simp only [List.mem_cons, List.mem_append, List.not_mem_nil, or_false] at hx
    rcases hx with rfl | hx | rfl
    · exact .inl ⟨x, by simp, hne, rfl⟩
    · exact .inl ⟨x, by simp [hx], hne, rfl⟩
    · exact .inr ⟨hne, rfl⟩
theorem now_cell {o : Nat → Option Addr} {ka : Option Addr} {pa : List (Option Addr)} (R : DkR h n d o ka pa (flOf S) S.ps S.fuse S.keep S.calls S.down) {i : Nat} (hi : i < 2) : h.cell d (1 + i) = .slice (o i) (S.now i).length (S.now i).length := by
  have := R.cf i (by omega)
  rwa [flOf_lt _ hi] at this
/-- Of files' numbers that may be. -/
theorem may_zero {f : Int} (h : S.may f = 0) : ∃ i : Nat, i < 2 ∧ f = i ∧ S.down = false := by
  unfold DS.may at h
  split at h
  · cases h
  · split at h
    · cases h
    · rename_i q1 q2
      refine ⟨f.toNat, by omega, by omega, by simpa using q1⟩
set_option maxHeartbeats 4000000 in
theorem truncate_dk (D : Dk h n d F G S) (hps : S.ps.length < 1099511627776) (hcl : S.calls < 4611686018427387904) (f size : Int) :
    RF Try.prog F 17 #[.pointer (some ⟨d, 0, none⟩), .int .i64 f, .int .i64 size] n h (fun r n' h' => r = .int .i64 (S.truncate f size).1 ∧ DkTo n d F G h (S.truncate f size).2 n' h') := by
  refine RF.of Try.func17 rfl rfl (Nat.le_of_ble_eq_true rfl) ?_; dsimp only [argEnv]
  have hlt := D.lt
  by_cases hm : S.may f = 0
  · obtain ⟨i, hi, rfl, hd⟩ := may_zero hm
    have hme := may_dk D (i : Int)
    rw [hm] at hme
    have hno := D.ok.now i
    by_cases hsz : size < 0 ∨ ((S.now i).length : Int) < size
    · have he : S.truncate (i : Int) size = (1, S) := by simp [DS.truncate, hm, hsz]
      rw [he]
      obtain ⟨ok, o, ka, pa, rfl, rfl, R⟩ := id D
      have c1 := now_cell R hi
      repeat' (first | refine stpS ?_ | (refine stp2 ?_ ?_ <;> intro _) | refine RS.call1 rfl opds (hme) none'W ?_)
      all_goals first | exact ⟨rfl, ⟨_, _, ⟨ok, o, ka, pa, rfl, rfl, R⟩, fun _ _ q => q, fun _ _ q => q, ExtW.refl _ _ _⟩⟩ | (exfalso; omega)
    · obtain ⟨k, rfl⟩ : ∃ k : Nat, size = k := ⟨size.toNat, by omega⟩
      have he : S.truncate (i : Int) (k : Nat) = (S.done ⟨i, true, k, []⟩).ends := by rw [DS.truncate, if_neg (by rw [hm]; simp), if_neg (by rw [Int.toNat_natCast]; exact hsz)]; rfl
      rw [he]
      have hpo : PcOk ⟨i, true, k, []⟩ := ⟨by show i = 0 ∨ i = 1; omega, fun q => (by cases q), fun _ => by show k ≤ 4194304; omega⟩
      have hdn := done_dk D (p := ⟨i, true, k, []⟩) (c := none) hpo hps (fun q => by cases q) (fun q => absurd rfl q)
      have hpv : pcV ⟨i, true, k, []⟩ none = .iface 76 (.int .i64 (k : Nat)) := rfl
      rw [hpv] at hdn
      dsimp only at hdn
      have hlen : (S.done ⟨i, true, k, []⟩).ps.length ≤ 1099511627776 := by simp [DS.done]; omega
      obtain ⟨ok, o, ka, pa, hF, hG, R⟩ := id D
      have c1 := now_cell R hi
      repeat' (first | refine stpS ?_ | (refine stp2 ?_ ?_ <;> intro _) | refine RS.call1 rfl opds (hme) none'W ?_)
      refine RS.call rfl opds hdn (fun b hb => Or.inl hb) ?_
      rintro r n1 h1 hle ⟨F1, G1, D1, hF1, hG1, e1⟩
      repeat' (first | refine stpS ?_ | (refine stp2 ?_ ?_ <;> intro _))
      refine RS.call rfl opds (ends_dk D1 hlen hcl) (fun b hb => ?_) ?_
      · by_cases q : b < n
        · exact .inl (hF1 b q hb)
        · exact .inr (by omega)
      rintro r n2 h2 hle2 ⟨rfl, hto⟩
      repeat' (first | refine stpS ?_ | (refine stp2 ?_ ?_ <;> intro _))
      refine ⟨rfl, DkTo.trans e1 hF1 (fun b hb q => ?_) hle hto⟩
      exact (hG1 b hb q).resolve_right (fun k => k.1 rfl)
  · have he : S.truncate f size = (S.may f, S) := by simp [DS.truncate, hm]
    rw [he]
    repeat' (first | refine stpS ?_ | (refine stp2 ?_ ?_ <;> intro _) | refine RS.call1 rfl opds (may_dk D f) none'W ?_)
    exact ⟨rfl, D.to⟩
set_option maxHeartbeats 4000000 in
theorem crash_dk {c : Option Addr} {ks : List Bool} (D : Dk h n d F G S) (hps : S.ps.length ≤ 1099511627776) (hks : ks.length ≤ 1099511627776) (hS : SlT h n c ks) (hc : c ≠ none → ¬ F (sb c)) :
    RF Try.prog F 18 #[.pointer (some ⟨d, 0, none⟩), .slice c ks.length ks.length] n h (fun r n' h' => r = .int .i64 (S.crash ks).1 ∧ DkTo n d F G h (S.crash ks).2 n' h') := by
  refine RF.of Try.func18 rfl rfl (Nat.le_of_ble_eq_true rfl) ?_; dsimp only [argEnv]
  have hlt := D.lt
  obtain ⟨ok, o, ka, pa, hF, hG, R⟩ := id D
  have c9 := R.c9
  cases hd : S.down
  · rw [hd] at c9
    have he : S.crash ks = (0, S.lose ks) := by simp [DS.crash, hd]
    rw [he]
    repeat' (first | refine stpS ?_ | (refine stp2 ?_ ?_ <;> intro _) | refine RS.call1 rfl opds (none_dk D) none'W ?_)
    refine RS.call rfl opds (lose_dk D hps hks hS hc) (fun b hb => .inl hb) ?_
    rintro r n1 h1 hle hto
    repeat' (first | refine stpS ?_ | (refine stp2 ?_ ?_ <;> intro _))
    exact ⟨rfl, hto⟩
  · rw [hd] at c9
    have he : S.crash ks = (6, S) := by simp [DS.crash, hd]
    rw [he]
    repeat' (first | refine stpS ?_ | (refine stp2 ?_ ?_ <;> intro _) | refine RS.call1 rfl opds (none_dk D) none'W ?_)
    exact ⟨rfl, D.to⟩
set_option maxHeartbeats 4000000 in
theorem restart_dk (D : Dk h n d F G S) : RF Try.prog F 19 #[.pointer (some ⟨d, 0, none⟩)] n h (fun r n' h' => r = .int .i64 0 ∧ DkTo n d F G h S.restart n' h') := by
  refine RF.of Try.func19 rfl rfl (Nat.le_of_ble_eq_true rfl) ?_; dsimp only [argEnv]
  have hlt := D.lt
  have hTd := D.inF
  obtain ⟨ok, o, ka, pa, rfl, rfl, R⟩ := id D
  have hinf := R.inf
  repeat' (first | refine stpS ?_ | (refine stp2 ?_ ?_ <;> intro _) | refine RS.call1 rfl opds (none_dk D) none'W ?_)
  refine ⟨rfl, DkTo.mk ⟨ok.ps, ok.sure, ok.fuse, ok.calls, ok.keep⟩ (R.scalar (j := 9) (fuse' := S.fuse) (calls' := S.calls) (down' := false) (.inr (.inr ⟨rfl, rfl, rfl, rfl⟩))) (oNew.refl _ _) (fun x hx => .inl hx) (ExtW.appSets (.inl hTd) (ExtW.refl _ _ _))⟩
set_option maxHeartbeats 4000000 in
theorem down_dk (D : Dk h n d F G S) : Ev Try.prog none' 23 #[.pointer (some ⟨d, 0, none⟩)] n h (.bool S.down) n h := by
  refine RF.pure rfl fun n' hn => ?_
  have D := D.ext (Ext.refl n h) hn
  refine RF.of Try.func23 rfl rfl (Nat.le_of_ble_eq_true rfl) ?_; dsimp only [argEnv]
  have hlt := D.lt
  obtain ⟨ok, o, ka, pa, hF, hG, R⟩ := id D
  have c9 := R.c9
  repeat' (first | refine stpS ?_ | (refine stp2 ?_ ?_ <;> intro _) | refine RS.call1 rfl opds (none_dk D) none'W ?_)
  rfl
set_option maxHeartbeats 4000000 in
theorem calls_dk (D : Dk h n d F G S) : Ev Try.prog none' 21 #[.pointer (some ⟨d, 0, none⟩)] n h (.int .i64 S.calls) n h := by
  refine RF.pure rfl fun n' hn => ?_
  have D := D.ext (Ext.refl n h) hn
  refine RF.of Try.func21 rfl rfl (Nat.le_of_ble_eq_true rfl) ?_; dsimp only [argEnv]
  have hlt := D.lt
  obtain ⟨ok, o, ka, pa, hF, hG, R⟩ := id D
  have c8 := R.c8
  repeat' (first | refine stpS ?_ | (refine stp2 ?_ ?_ <;> intro _) | refine RS.call1 rfl opds (none_dk D) none'W ?_)
  rfl
set_option maxHeartbeats 4000000 in
theorem pending_dk (D : Dk h n d F G S) : Ev Try.prog none' 30 #[.pointer (some ⟨d, 0, none⟩)] n h (.int .i64 S.ps.length) n h := by
  refine RF.pure rfl fun n' hn => ?_
  have D := D.ext (Ext.refl n h) hn
  refine RF.of Try.func30 rfl rfl (Nat.le_of_ble_eq_true rfl) ?_; dsimp only [argEnv]
  have hlt := D.lt
  obtain ⟨ok, o, ka, pa, hF, hG, R⟩ := id D
  have c5 := R.c5
  repeat' (first | refine stpS ?_ | (refine stp2 ?_ ?_ <;> intro _) | refine RS.call1 rfl opds (none_dk D) none'W ?_)
  rfl
set_option maxHeartbeats 4000000 in
theorem size_dk (D : Dk h n d F G S) (f : Int) : Ev Try.prog none' 29 #[.pointer (some ⟨d, 0, none⟩), .int .i64 f] n h (.tuple #[.int .i64 (if S.may f = 0 then ((S.now f.toNat).length : Int) else 0), .int .i64 (S.may f)]) n h := by
  refine RF.pure (by simp [flat]) fun n' hn => ?_
  have D := D.ext (Ext.refl n h) hn
  refine RF.of Try.func29 rfl rfl (Nat.le_of_ble_eq_true rfl) ?_; dsimp only [argEnv]
  have hlt := D.lt
  obtain ⟨ok, o, ka, pa, hF, hG, R⟩ := id D
  by_cases hm : S.may f = 0
  · obtain ⟨i, hi, rfl, hd⟩ := may_zero hm
    have hme := may_dk D (i : Int)
    rw [hm] at hme ⊢
    have c1 := now_cell R hi
    repeat' (first | refine stpS ?_ | (refine stp2 ?_ ?_ <;> intro _) | refine RS.call1 rfl opds (hme) none'W ?_)
    simp
  · repeat' (first | refine stpS ?_ | (refine stp2 ?_ ?_ <;> intro _) | refine RS.call1 rfl opds (may_dk D f) none'W ?_)
    simp [hm]
set_option maxHeartbeats 4000000 in
theorem cloneT_rf (t : List Bool) (a : Option Addr) (n : Nat) (h : AH) (S : SlT h n a t) (ht : t.length ≤ 1099511627776) :
    RF Try.prog none' 41 #[.slice a t.length t.length] n h (fun r n' h' => ∃ a', r = .slice a' t.length t.length ∧ Ext n h h' ∧ OwnSl h' n n' a' 1 t.length (boolsV t)) := by
  refine RF.of Try.func41 rfl rfl (Nat.le_of_ble_eq_true rfl) ?_; dsimp only [argEnv]
  rcases S.two with ⟨ha, hl⟩ | ⟨b, o, ha⟩
  · have : t = [] := List.eq_nil_of_length_eq_zero hl
    subst this; subst ha
    repeat' (first | refine stpS ?_ | (refine stp2 ?_ ?_ <;> intro _))
    exact ⟨none, rfl, ext, OwnSl.nil (by omega)⟩
  · subst ha
    have hr : (List.range (t.length * 1)).map (boolsF t) = boolsV t := by
      apply List.ext_getElem
      · simp [boolsV]
      · intro i h1 h2
        have hi : i < t.length := by simpa [boolsV] using h2
        simp [boolsV, boolsF, List.getD, hi]
    have hkn : ∀ l : List Bool, known (boolsV l) = true := fun l => by
      induction l with
      | nil => rfl
      | cons x l ih => simpa [boolsV, known] using ih
    repeat' (first | refine stpS ?_ | (refine stp2 ?_ ?_ <;> intro _))
    refine RS.append rfl opd opd (OwnSl.new (z := 1) (m := 0) (cs := []) (Nat.le_refl n) rfl rfl) (SlR.src (S.ext ext (Nat.le_refl _)) (by rw [hr]; exact hkn t)) full_slice (fun b hb => Or.inr (by omega)) (by omega) ?_
    intro a' n1 h1 hle hO hX hnew
    have hE := hX.ext (OwnSl.new (z := 1) (m := 0) (cs := []) (Nat.le_refl n) rfl rfl)
    simp only [Nat.zero_add, List.nil_append, hr] at hO ⊢
    repeat' (first | refine stpS ?_ | (refine stp2 ?_ ?_ <;> intro _))
    exact ⟨a', rfl, ext, hO⟩
end
end Go.Proofs.Ytchfnjfmlhacfaa
