/- Contracts and laws that a statement of this seat is proved by (part 6). -/
import Derived.Test.YtfbddbpbifnhfaaGreatDoorC05
set_option linter.unusedSimpArgs false
set_option linter.unusedVariables false
/- Contracts taken from disk (written by port.py). -/
namespace Go.Proofs.YtfbddbpbifnhfaaGreatDoor.Dk
open Go.Abs
section
variable {h h1 h2 : AH} {n n1 n2 r : Nat} {sa : Nat → Option Addr} {ol ka : Option Addr} {pa : List (Option Addr)} {S : DS}
theorem RfR.row (R : RfR h n r sa ol ka pa S) {i : Nat} {p : Pc} (hp : S.ps[i]? = some p) : SlA ol S.ps.length ∧ sb ol < n ∧ h.cell (sb ol) (so ol + i * 4) = .int .i64 (p.file : Nat) ∧ h.cell (sb ol) (so ol + i * 4 + 1) = .bool p.cut ∧ h.cell (sb ol) (so ol + i * 4 + 2) = .int .i64 (p.at_ : Nat) ∧ h.cell (sb ol) (so ol + i * 4 + 3) = .slice (pa.getD i none) p.b.length p.b.length := by
  have hi := (List.getElem?_eq_some_iff.1 hp).1
  obtain ⟨hso, -, hsn, -, hA, hC⟩ := R.lo.facts (by omega)
  have go : ∀ j v, (rpC p (pa.getD i none))[j]? = some v → h.cell (sb ol) (so ol + (i * 4 + j)) = v := fun j v hv => by
    have hj : j < 4 := (List.getElem?_eq_some_iff.1 hv).1
    have := rpsC_at S.ps pa i p R.len hp j v hv
    exact (hC (i * 4 + j) (by omega)).trans (by simp [List.getD, this])
  exact ⟨hA, hsn, go 0 _ rfl, go 1 _ rfl, go 2 _ rfl, go 3 _ rfl⟩
theorem nowP_take (f : Nat) (l : List UInt8) (ps : List Pc) (i : Nat) (p : Pc) (hp : ps[i]? = some p) : nowP f l (ps.take (i + 1)) = if p.file = f then doP (nowP f l (ps.take i)) p else nowP f l (ps.take i) := by
  have htk : ps.take (i + 1) = ps.take i ++ [p] := by rw [List.take_add_one, hp]; rfl
  rw [htk, nowP_snoc]
set_option maxHeartbeats 4000000 in
theorem rnow_rf (R : RfR h n r sa ol ka pa S) (ok : DSOk S) (hps : S.ps.length ≤ 1099511627776) {f : Nat} (hf : f < 2) :
    RF Tryz.prog none' 13 #[.pointer (some ⟨r, 0, none⟩), .int .i64 (f : Nat)] n h (fun v n' h' => ∃ a', v = .slice a' (S.now f).length (S.now f).length ∧ Ext n h h' ∧ SlB h' n' a' (S.now f) ∧ (a' = sa f ∨ a' = none ∨ n ≤ sb a')) := by
  refine RF.of Tryz.func13 rfl rfl (Nat.le_of_ble_eq_true rfl) ?_; dsimp only [argEnv]
  have hlt := R.lt
  have cf : h.cell r f = .slice (sa f) (S.sure f).length (S.sure f).length := by
    rcases (show f = 0 ∨ f = 1 by omega) with rfl | rfl
    · exact R.cs 0 _ rfl
    · exact R.cs 1 _ rfl
  repeat' (first | refine stpS ?_ | (refine stp2 ?_ ?_ <;> intro _))
  refine RC.loop ?_
  refine RL.inv (α := Nat × Option Addr) (fun s => [(6, .int .i64 (s.1 : Nat)), (5, .slice s.2 (nowP f (S.sure f) (S.ps.take s.1)).length (nowP f (S.sure f) (S.ps.take s.1)).length), (0, .pointer (some ⟨r, 0, none⟩)), (1, .int .i64 (f : Nat))])
    (fun s n1 h1 => s.1 ≤ S.ps.length ∧ n ≤ n1 ∧ Ext n h h1 ∧ SlB h1 n1 s.2 (nowP f (S.sure f) (S.ps.take s.1)) ∧ (s.2 = sa f ∨ s.2 = none ∨ n ≤ sb s.2)) (fun s => S.ps.length - s.1) (0, sa f) envs ⟨by omega, Nat.le_refl _, Ext.refl _ _, R.su f hf, .inl rfl⟩ ?_
  rintro ⟨i, a⟩ n1 h1 ⟨hi, hn1, hE, hS, ha⟩
  dsimp only at hi hS ha ⊢
  have R1 := R.ext hE hn1
  have hlt1 := R1.lt
  have c2 : h1.cell r 2 = .slice ol S.ps.length S.ps.length := R1.cs 2 _ rfl
  have hnl : (nowP f (S.sure f) (S.ps.take i)).length ≤ 4194304 := nowP_le f (ok.sure f) (fun p hp => ok.ps p (List.mem_of_mem_take hp))
  by_cases hlti : i < S.ps.length
  · obtain ⟨p, hp⟩ : ∃ p, S.ps[i]? = some p := ⟨_, List.getElem?_eq_getElem hlti⟩
    have hpo := ok.ps p (List.mem_of_getElem? hp)
    obtain ⟨hA, hsn, d0, d1, d2, d3⟩ := R1.row hp
    have htk := nowP_take f (S.sure f) S.ps i p hp
    have hB := R1.dat i p hp
    generalize nowP f (S.sure f) (S.ps.take i) = t at *
    by_cases e : p.file = f
    · rw [if_pos e] at htk
      repeat' (first | refine stpS ?_ | (refine stp2 ?_ ?_ <;> intro _))
      refine RS.call rfl opds (rdone_rf t p a (pa.getD i none) n1 h1 hnl hpo hS hB (by omega)) none'W ?_
      rintro v n2 h2 hle ⟨a2, rfl, hE2, hS2, hnew⟩
      repeat' (first | refine stpS ?_ | (refine stp2 ?_ ?_ <;> intro _))
      refine nextC.normal ⟨(i + 1, a2), by dsimp only; omega, ?_, by dsimp only; omega, by omega, ext, ?_, ?_⟩
      · dsimp only; rw [htk]; exact envs
      · dsimp only; rw [htk]; exact hS2
      · dsimp only; exact .inr (hnew.imp id (by omega))
    · rw [if_neg e] at htk
      repeat' (first | refine stpS ?_ | (refine stp2 ?_ ?_ <;> intro _))
      refine nextC.normal ⟨(i + 1, a), by dsimp only; omega, ?_, by dsimp only; omega, hn1, ext, ?_, ha⟩
      · dsimp only; rw [htk]; exact envs
      · dsimp only; rw [htk]; exact hS
  · have hie : i = S.ps.length := by omega
    subst hie
    rw [List.take_length] at hS ⊢
    repeat' (first | refine stpS ?_ | (refine stp2 ?_ ?_ <;> intro _))
    exact ⟨a, rfl, hE, hS, ha⟩
set_option maxHeartbeats 4000000 in
theorem rmay_rk {F G : Nat → Prop} (D : Rk h n r F G S) (f : Int) : Ev Tryz.prog none' 67 #[.pointer (some ⟨r, 0, none⟩), .int .i64 f] n h (.int .i64 (S.may f)) n h := by
  refine RF.pure rfl fun n' hn => ?_
  have D := D.ext (Ext.refl n h) hn
  refine RF.of Tryz.func67 rfl rfl (Nat.le_of_ble_eq_true rfl) ?_; dsimp only [argEnv]
  have hlt := D.lt
  obtain ⟨sa, ol, ka, C⟩ := D.cell
  have c6 : h.cell r 6 = .bool S.down := C 6 _ rfl
  unfold DS.may
  cases hd : S.down
  · rw [hd] at c6
    by_cases h0 : f = 0
    · repeat' (first | refine stpS ?_ | (refine stp2 ?_ ?_ <;> intro _))
      simp [h0]
    · by_cases h1 : f = 1
      · repeat' (first | refine stpS ?_ | (refine stp2 ?_ ?_ <;> intro _))
        simp [h1]
      · repeat' (first | refine stpS ?_ | (refine stp2 ?_ ?_ <;> intro _))
        simp [h0, h1]
  · rw [hd] at c6
    repeat' (first | refine stpS ?_ | (refine stp2 ?_ ?_ <;> intro _))
    simp
def DS.meets (S : DS) : Bool × DS := if S.fuse = 0 then (false, { S with calls := S.calls + 1 }) else (decide (S.fuse - 1 = 0), { S with calls := S.calls + 1, fuse := S.fuse - 1 })
theorem ends_meets {S : DS} (h : 0 ≤ S.fuse) : S.ends = if S.meets.1 = true then (6, S.meets.2.lose S.keep) else (0, S.meets.2) := by
  unfold DS.ends DS.meets
  by_cases h0 : S.fuse = 0
  · simp [h0]
  · rw [if_neg h0, if_neg h0]
    by_cases h1 : 1 < S.fuse
    · rw [if_pos h1, if_neg (by simp; omega)]
    · rw [if_neg h1, if_pos (by simp; omega)]
theorem RfR.scalar {j : Nat} {v : Value} {S' : DS} (R : RfR h n r sa ol ka pa S) (hj : j = 3 ∨ j = 5 ∨ j = 6) (hc : rfC sa ol ka S' = (rfC sa ol ka S).set j v) (h1 : S'.sure = S.sure) (h2 : S'.ps = S.ps) (h3 : S'.keep = S.keep) :
    RfR (h.app (.sets r j [v])) n r sa ol ka pa S' := by
  have hX : ExtX n ol h h := ExtX.refl
  obtain ⟨q1, q2, q3⟩ := R.rest hX (Nat.le_refl _)
  exact R.put hX (Nat.le_refl _) hc (by omega) (by rw [h1]; exact q1) (by rw [h2]; exact R.lo) (by rw [h3]; exact q2) (by rw [h2]; exact q3) (by rw [h2]; exact R.len) (.inl rfl) (fun x hx => .inl hx)
theorem meets_ok (ok : DSOk S) : DSOk S.meets.2 := by
  unfold DS.meets
  split
  · exact ⟨ok.ps, ok.sure, ok.fuse, by show 0 ≤ S.calls + 1; have := ok.calls; omega, ok.keep⟩
  · exact ⟨ok.ps, ok.sure, by show 0 ≤ S.fuse - 1 ∧ S.fuse - 1 ≤ _; have := ok.fuse; omega, by show 0 ≤ S.calls + 1; have := ok.calls; omega, ok.keep⟩
set_option maxHeartbeats 4000000 in
theorem rmeets_rk {F G : Nat → Prop} (D : Rk h n r F G S) (hcl : S.calls < 4611686018427387904) :
    RF Tryz.prog F 68 #[.pointer (some ⟨r, 0, none⟩)] n h (fun v n' h' => v = .bool S.meets.1 ∧ n' = n ∧ Rk h' n r F G S.meets.2 ∧ ExtW F n h h') := by
  refine RF.of Tryz.func68 rfl rfl (Nat.le_of_ble_eq_true rfl) ?_; dsimp only [argEnv]
  have hlt := D.lt
  have hTr := D.inF
  obtain ⟨ok, sa, ol, ka, pa, rfl, rfl, R⟩ := id D
  have hinf := R.inf
  have c3 : h.cell r 3 = .int .i64 S.fuse := R.cs 3 _ rfl
  have c5 : h.cell r 5 = .int .i64 S.calls := R.cs 5 _ rfl
  have hok := meets_ok ok
  have hcn := ok.calls
  have hfn := ok.fuse
  have R1 : RfR (h.app (.sets r 5 [.int .i64 (S.calls + 1)])) n r sa ol ka pa { S with calls := S.calls + 1 } := R.scalar (.inr (.inl rfl)) rfl rfl rfl rfl
  by_cases h0 : S.fuse = 0
  · have hm : S.meets = (false, { S with calls := S.calls + 1 }) := by rw [DS.meets, if_pos h0]
    rw [hm] at hok ⊢
    repeat' (first | refine stpS ?_ | (refine stp2 ?_ ?_ <;> intro _))
    exact ⟨rfl, rfl, ⟨hok, sa, ol, ka, pa, rfl, rfl, R1⟩, ExtW.appSets (.inl hTr) (ExtW.refl _ _ _)⟩
  · have hm : S.meets = (decide (S.fuse - 1 = 0), { S with calls := S.calls + 1, fuse := S.fuse - 1 }) := by rw [DS.meets, if_neg h0]
    rw [hm] at hok ⊢
    have R2 : RfR ((h.app (.sets r 5 [.int .i64 (S.calls + 1)])).app (.sets r 3 [.int .i64 (S.fuse - 1)])) n r sa ol ka pa { S with calls := S.calls + 1, fuse := S.fuse - 1 } := R1.scalar (.inl rfl) rfl rfl rfl rfl
    by_cases h1 : S.fuse - 1 = 0
    · repeat' (first | refine stpS ?_ | (refine stp2 ?_ ?_ <;> intro _))
      exact ⟨by simp [h1], rfl, ⟨hok, sa, ol, ka, pa, rfl, rfl, R2⟩, ExtW.appSets (.inl hTr) (ExtW.appSets (.inl hTr) (ExtW.refl _ _ _))⟩
    · repeat' (first | refine stpS ?_ | (refine stp2 ?_ ?_ <;> intro _))
      exact ⟨by simp [h1], rfl, ⟨hok, sa, ol, ka, pa, rfl, rfl, R2⟩, ExtW.appSets (.inl hTr) (ExtW.appSets (.inl hTr) (ExtW.refl _ _ _))⟩
end
end Go.Proofs.YtfbddbpbifnhfaaGreatDoor.Dk

/- Contracts taken from disk (written by port.py). -/
namespace Go.Proofs.YtfbddbpbifnhfaaGreatDoor.Dk
open Go.Abs
section
variable {h h1 h2 : AH} {n n1 n2 r : Nat} {F G F1 G1 : Nat → Prop} {S S1 : DS}
theorem mem_upd {sa : Nat → Option Addr} {ka : Option Addr} {pa : List (Option Addr)} {i : Nat} {a x : Option Addr} (hx : x ∈ rfG (upd sa i a) ka pa) : x = a ∨ x ∈ rfG sa ka pa := by
  simp only [rfG, List.mem_cons] at hx ⊢
  unfold upd at hx
  rcases hx with k | k | k
  · split at k
    · exact .inl k
    · exact .inr (.inl k)
  · split at k
    · exact .inl k
    · exact .inr (.inr (.inl k))
  · exact .inr (.inr (.inr k))
set_option maxHeartbeats 4000000 in
theorem rnew_rf (n : Nat) (h : AH) (hn : 0 < n) : RF Tryz.prog none' 5 #[] n h (fun v n' h' => ∃ r F G, v = .pointer (some ⟨r, 0, none⟩) ∧ Rk h' n' r F G DS.init ∧ (∀ b, F b → n ≤ b) ∧ (∀ b, ¬ G b) ∧ Ext n h h') := by
  refine RF.of Tryz.func5 rfl rfl (Nat.le_of_ble_eq_true rfl) ?_; dsimp only [argEnv]
  repeat' (first | refine stpS ?_ | (refine stp2 ?_ ?_ <;> intro _))
  have hg : ∀ x : Option Addr, x ∈ rfG (fun _ => none) none [] → x = none := fun x hx => by simpa [rfG] using hx
  refine ⟨n, RkF n none, RkG (fun _ => none) none [], rfl, ⟨init_ok, fun _ => none, none, none, [], rfl, rfl, ?_⟩, ?_, ?_, ext⟩
  · refine ⟨Nat.lt_succ_self n, i_new, fun i v hv => ?_, fun i _ => .nil, .nil (Nat.zero_le _), .nil, fun i p hp => (by cases hp), rfl, .inl rfl, fun x hx => ⟨.inl (hg x hx), .inl rfl⟩, fun x hx q => absurd (hg x hx) q⟩
    have hi : i < 7 := (List.getElem?_eq_some_iff.1 hv).1
    rcases (show i = 0 ∨ i = 1 ∨ i = 2 ∨ i = 3 ∨ i = 4 ∨ i = 5 ∨ i = 6 by omega) with rfl | rfl | rfl | rfl | rfl | rfl | rfl <;> (cases hv; exact cell)
  · rintro b (rfl | ⟨hne, _⟩)
    · exact Nat.le_refl _
    · exact absurd rfl hne
  · rintro b ⟨x, hx, hne, _⟩
    exact hne (hg x hx)
set_option maxHeartbeats 4000000 in
theorem rlose_rk {c : Option Addr} {ks : List Bool} (D : Rk h n r F G S) (hps : S.ps.length ≤ 1099511627776) (hks : ks.length ≤ 1099511627776) (hS : SlT h n c ks) (hc : c ≠ none → ¬ F (sb c)) :
    RF Tryz.prog F 63 #[.pointer (some ⟨r, 0, none⟩), .slice c ks.length ks.length] n h (fun _ n' h' => RkTo n r F G h (S.lose ks) n' h') := by
  refine RF.of Tryz.func63 rfl rfl (Nat.le_of_ble_eq_true rfl) ?_; dsimp only [argEnv]
  obtain ⟨ok, sa, ol, ka, pa, rfl, rfl, R⟩ := D
  repeat' (first | refine stpS ?_ | (refine stp2 ?_ ?_ <;> intro _))
  refine RC.loop ?_
  refine RL.inv (α := Nat × (Nat → Option Addr)) (fun s => [(4, .int .i64 (s.1 : Nat)), (0, .pointer (some ⟨r, 0, none⟩)), (1, .slice c ks.length ks.length)])
    (fun s n1 h1 => s.1 ≤ S.ps.length ∧ n ≤ n1 ∧ RfR h1 n1 r s.2 ol ka pa { S with sure := loseP S.sure (S.ps.take s.1) ks } ∧ (∀ x, x ∈ rfG s.2 ka pa → x ∈ rfG sa ka pa ∨ x = none ∨ n ≤ sb x) ∧ ExtW (RkF r ol) n h h1) (fun s => S.ps.length - s.1) (0, sa) envs ⟨by omega, Nat.le_refl _, R, fun x hx => .inl hx, ExtW.refl _ _ _⟩ ?_
  rintro ⟨i, sa1⟩ n1 h1 ⟨hi, hn1, R1, hg1, e1⟩
  dsimp only at hi R1 hg1 ⊢
  have hlt1 := R1.lt
  have hinf := R1.inf
  have c2 : h1.cell r 2 = .slice ol S.ps.length S.ps.length := R1.cs 2 _ rfl
  have hlen := loseP_le (ps := S.ps.take i) (ks := ks) ok.sure (fun p hp' => ok.ps p (List.mem_of_mem_take hp'))
  have hTr : RkF r ol r := .inl rfl
  by_cases hlti : i < S.ps.length
  · obtain ⟨p, hp⟩ : ∃ p, S.ps[i]? = some p := ⟨_, List.getElem?_eq_getElem hlti⟩
    have hpo := ok.ps p (List.mem_of_getElem? hp)
    obtain ⟨hA, hsn, d0, d1, d2, d3⟩ := R1.row hp
    have hf2 : p.file < 2 := by rcases hpo.file with q | q <;> omega
    have htk : S.ps.take (i + 1) = S.ps.take i ++ [p] := by rw [List.take_add_one, hp]; rfl
    have hti : (S.ps.take i).length = i := by rw [List.length_take]; omega
    have hA2 : SlA c ks.length := hS.sla
    have R2 := R1.ext (h1 := (h1.app (.new n1 ⟨4, 0, true, 0⟩ [.int .i64 0, .bool false, .int .i64 0, .slice none 0 0])).app (.sets n1 0 (rpC p (pa.getD i none)))) ext (Nat.le_succ n1)
    have e2 : ExtW (RkF r ol) n h ((h1.app (.new n1 ⟨4, 0, true, 0⟩ [.int .i64 0, .bool false, .int .i64 0, .slice none 0 0])).app (.sets n1 0 (rpC p (pa.getD i none)))) := ExtW.appSets (.inr hn1) (ExtW.appNew hn1 e1)
    cases hk : ks.getD i false
    · have hls : loseP S.sure (S.ps.take (i + 1)) ks = loseP S.sure (S.ps.take i) ks := by
        rw [htk, loseP_snoc, hti, hk]; simp
      by_cases hik : i < ks.length
      · have hcb : h1.cell (sb c) (so c + i) = .bool false := by
          have := (hS.extW e1 hn1 hc).cell i (by omega)
          rw [this, boolsF, hk]
        have hcl : sb c < n1 := Nat.lt_of_lt_of_le (hS.lt (by omega)) hn1
        repeat' (first | refine stpS ?_ | (refine stp2 ?_ ?_ <;> intro _))
        refine nextC.normal ⟨(i + 1, sa1), by dsimp only; omega, envs, by dsimp only; omega, by omega, ?_, hg1, e2⟩
        dsimp only
        rw [hls]
        exact R2
      · repeat' (first | refine stpS ?_ | (refine stp2 ?_ ?_ <;> intro _))
        refine nextC.normal ⟨(i + 1, sa1), by dsimp only; omega, envs, by dsimp only; omega, by omega, ?_, hg1, e2⟩
        dsimp only
        rw [hls]
        exact R2
    · have hik : i < ks.length := by
        refine Classical.byContradiction fun q => ?_
        rw [List.getD, List.getElem?_eq_none (by omega)] at hk
        cases hk
      have hls : loseP S.sure (S.ps.take (i + 1)) ks = upd (loseP S.sure (S.ps.take i) ks) p.file (doP (loseP S.sure (S.ps.take i) ks p.file) p) := by
        rw [htk, loseP_snoc, hti, hk]; simp
      have hcb : h1.cell (sb c) (so c + i) = .bool true := by
        have := (hS.extW e1 hn1 hc).cell i (by omega)
        rw [this, boolsF, hk]
      have hcl : sb c < n1 := Nat.lt_of_lt_of_le (hS.lt (by omega)) hn1
      repeat' (first | refine stpS ?_ | (refine stp2 ?_ ?_ <;> intro _))
      generalize hL : loseP S.sure (S.ps.take i) ks = L at *
      have cf : ((h1.app (.new n1 ⟨4, 0, true, 0⟩ [.int .i64 0, .bool false, .int .i64 0, .slice none 0 0])).app (.sets n1 0 (rpC p (pa.getD i none)))).cell r p.file = .slice (sa1 p.file) (L p.file).length (L p.file).length := by
        rcases hpo.file with q | q <;> rw [q]
        · exact R2.cs 0 _ rfl
        · exact R2.cs 1 _ rfl
      have g0 : ((h1.app (.new n1 ⟨4, 0, true, 0⟩ [.int .i64 0, .bool false, .int .i64 0, .slice none 0 0])).app (.sets n1 0 (rpC p (pa.getD i none)))).cell n1 0 = .int .i64 (p.file : Nat) := cell
      have g1 : ((h1.app (.new n1 ⟨4, 0, true, 0⟩ [.int .i64 0, .bool false, .int .i64 0, .slice none 0 0])).app (.sets n1 0 (rpC p (pa.getD i none)))).cell n1 1 = .bool p.cut := cell
      have g2 : ((h1.app (.new n1 ⟨4, 0, true, 0⟩ [.int .i64 0, .bool false, .int .i64 0, .slice none 0 0])).app (.sets n1 0 (rpC p (pa.getD i none)))).cell n1 2 = .int .i64 (p.at_ : Nat) := cell
      have g3 : ((h1.app (.new n1 ⟨4, 0, true, 0⟩ [.int .i64 0, .bool false, .int .i64 0, .slice none 0 0])).app (.sets n1 0 (rpC p (pa.getD i none)))).cell n1 3 = .slice (pa.getD i none) p.b.length p.b.length := cell
      have hrlt := R2.lt
      have hinf2 := R2.inf
      refine RC.gen (fun g => RfR g (n1 + 1) r sa1 ol ka pa { S with sure := L } ∧ g.cell r p.file = .slice (sa1 p.file) (L p.file).length (L p.file).length ∧ (g.cell n1 0 = .int .i64 (p.file : Nat) ∧ g.cell n1 1 = .bool p.cut ∧ g.cell n1 2 = .int .i64 (p.at_ : Nat) ∧ g.cell n1 3 = .slice (pa.getD i none) p.b.length p.b.length) ∧ ExtW (RkF r ol) n h g ∧ g.info r = some ⟨7, 0, true, 0⟩) ⟨R2, cf, ⟨g0, g1, g2, g3⟩, e2, hinf2⟩ ?_
      clear R2 cf g0 g1 g2 g3 e2 R1 e1 hcb d0 d1 d2 d3 c2 hinf hinf2
      rintro g ⟨R2, cf, ⟨g0, g1, g2, g3⟩, e2, hinf2⟩
      have hfl := hlen p.file
      repeat' (first | refine stp ?_ | (refine stp2 ?_ ?_ <;> intro _))
      refine RD.call (n1 + 1) rfl opds (rdone_rf (L p.file) p (sa1 p.file) (pa.getD i none) (n1 + 1) _ hfl hpo ((R2.su p.file hf2).ext (AH.below_ext g (n1 + 1)) (Nat.le_refl _)) ((R2.dat i p hp).ext (AH.below_ext g (n1 + 1)) (Nat.le_refl _)) (by omega)) (Nat.le_refl _) cfc ?_
      rintro v n2 h2 hle2 ⟨a2, rfl, hE2, hS2, hnew⟩
      have hE3 : Ext (n1 + 1) g h2 := hE2.via (Nat.le_refl _) (AH.below_ext g (n1 + 1))
      have hX : ExtX (n1 + 1) ol g h2 := fun x hx _ => ⟨hE3.info x hx, fun k => hE3.cell x k hx⟩
      obtain ⟨q1, q2, q3⟩ := R2.rest hX hle2
      have hrl := R2.rl
      have hol : ol = none ∨ sb ol < n1 + 1 := by
        by_cases q : ol = none
        · exact .inl q
        · exact .inr (R2.ltF _ (.inr ⟨q, rfl⟩))
      have R3 : RfR (h2.app (.sets r p.file [.slice a2 (doP (L p.file) p).length (doP (L p.file) p).length])) n2 r (upd sa1 p.file a2) ol ka pa { S with sure := upd L p.file (doP (L p.file) p) } := by
        refine R2.put hX hle2 ?_ (by omega) (fun i hi => ?_) (R2.lo.ext hE3 hle2) q2 q3 R2.len (.inl rfl) (fun x hx => ?_)
        · have hd : ∀ (k : Nat), p.file = k → ∀ {α : Type} (f : Nat → α) (x : α) (j : Nat), upd f p.file x j = upd f k x j := fun k q => by subst q; intros; rfl
          rcases hpo.file with q | q <;> rw [q] <;> rfl
        · by_cases e : i = p.file
          · subst e; rw [upd_same]; show SlB _ _ _ (upd L p.file _ p.file); rw [upd_same]; exact hS2
          · rw [upd_ne _ _ e]; show SlB _ _ _ (upd L p.file _ i); rw [upd_ne _ _ e]; exact q1 i hi
        · rcases mem_upd hx with rfl | k
          · rcases hnew with k | k
            · exact .inr (.inl k)
            · refine .inr (.inr ⟨?_, .inr (by omega), ?_⟩)
              · by_cases q : x = none
                · rw [q]; show 0 < n2; omega
                · exact hS2.ltA q
              · rcases hol with q | q
                · exact .inl q
                · exact .inr (.inr (by omega))
          · exact .inl k
      repeat' (first | refine stp ?_ | (refine stp2 ?_ ?_ <;> intro _))
      refine nextC.normal ⟨(i + 1, upd sa1 p.file a2), by dsimp only; omega, envs, by dsimp only; omega, by omega, ?_, fun x hx => ?_, ExtW.appSets (.inl hTr) (e2.then hE3 (by omega))⟩
      · dsimp only
        rw [hls]; exact R3
      · rcases mem_upd hx with rfl | k
        · exact .inr (hnew.imp id (by omega))
        · exact hg1 x k
  · have hie : i = S.ps.length := by omega
    subst hie
    rw [List.take_length] at R1
    have hok := loseP_ok ok ks
    obtain ⟨q1, q2, q3⟩ := R1.rest ExtX.refl (Nat.le_refl _)
    have R3 : RfR (h1.app (.sets r 2 [.slice none 0 0])) n1 r sa1 none ka [] { S with sure := loseP S.sure S.ps ks, ps := [] } :=
      R1.put ExtX.refl (Nat.le_refl _) rfl (by omega) q1 (.nil (Nat.zero_le _)) q2 (fun i p hp => (by cases hp)) rfl (.inr (.inl rfl)) (fun x hx => .inl (by simp only [rfG, List.mem_cons, List.not_mem_nil, or_false] at hx ⊢; rcases hx with k | k | k <;> simp [k]))
    have R4 : RfR ((h1.app (.sets r 2 [.slice none 0 0])).app (.sets r 3 [.int .i64 0])) n1 r sa1 none ka [] { S with sure := loseP S.sure S.ps ks, ps := [], fuse := 0 } := R3.scalar (.inl rfl) rfl rfl rfl rfl
    have R5 : RfR (((h1.app (.sets r 2 [.slice none 0 0])).app (.sets r 3 [.int .i64 0])).app (.sets r 6 [.bool true])) n1 r sa1 none ka [] (S.lose ks) := R4.scalar (.inr (.inr rfl)) rfl rfl rfl rfl
    repeat' (first | refine stpS ?_ | (refine stp2 ?_ ?_ <;> intro _))
    exact RkTo.mk hok R5 (.inr (.inl rfl)) (fun x hx => hg1 x (by simp only [rfG, List.mem_cons, List.not_mem_nil, or_false] at hx ⊢; rcases hx with k | k | k <;> simp [k])) (ExtW.appSets (.inl hTr) (ExtW.appSets (.inl hTr) (ExtW.appSets (.inl hTr) e1)))
end
end Go.Proofs.YtfbddbpbifnhfaaGreatDoor.Dk

/- Contracts taken from disk (written by port.py). -/
namespace Go.Proofs.YtfbddbpbifnhfaaGreatDoor.Dk
open Go.Abs
section
variable {h h1 h2 : AH} {n n1 n2 r : Nat} {sa : Nat → Option Addr} {ol ka : Option Addr} {pa : List (Option Addr)} {F G F1 G1 : Nat → Prop} {S S1 : DS}
theorem RfR.push {a' c : Option Addr} {p : Pc} (R : RfR h n r sa ol ka pa S) (hX : ExtX n ol h h2) (hn : n ≤ n2) (hO : OwnSl h2 0 n2 a' 4 (S.ps.length + 1) (rpsC S.ps pa ++ rpC p c)) (hnew : a' = ol ∨ a' = none ∨ n ≤ sb a') (hS : SlB h2 n2 c p.b) (hrc : apd r c) (hac : apt a' c) :
    RfR (h2.app (.sets r 2 [.slice a' (S.ps.length + 1) (S.ps.length + 1)])) n2 r sa a' ka (pa ++ [c]) (S.done p) := by
  obtain ⟨q1, q2, q3⟩ := R.rest hX hn
  refine R.put hX hn ?_ (by omega) q1 ?_ q2 (fun i p' hp => ?_) (by simp [DS.done, R.len]) hnew (fun x hx => ?_)
  · simp [rfC, DS.done]
  · show OwnSl _ _ _ _ _ (S.ps ++ [p]).length (rpsC (S.ps ++ [p]) (pa ++ [c]))
    rw [List.length_append, rpsC_snoc _ _ _ _ R.len]; exact hO
  · have hp : (S.ps ++ [p])[i]? = some p' := hp
    by_cases hi : i < S.ps.length
    · rw [List.getElem?_append_left hi] at hp
      have e : (pa ++ [c]).getD i none = pa.getD i none := by
        simp only [List.getD]
        rw [List.getElem?_append_left (by rw [R.len]; exact hi)]
      rw [e]; exact q3 i p' hp
    · have hi2 : i = S.ps.length := by
        have := (List.getElem?_eq_some_iff.1 hp).1
        simp at this; omega
      subst hi2
      rw [List.getElem?_append_right (Nat.le_refl _)] at hp
      simp at hp; subst hp
      have e : (pa ++ [c]).getD S.ps.length none = c := by
        simp only [List.getD]
        rw [List.getElem?_append_right (by rw [R.len]; exact Nat.le_refl _), R.len]; simp
      rw [e]; exact hS
  · have hx : x = c ∨ x ∈ rfG sa ka pa := by
      simp only [rfG, List.mem_cons, List.mem_append, List.not_mem_nil, or_false] at hx ⊢
      rcases hx with k | k | k | k | k <;> simp [k]
    rcases hx with rfl | k
    · by_cases q : x = none
      · exact .inr (.inl q)
      · exact .inr (.inr ⟨hS.ltA q, hrc, hac⟩)
    · exact .inl k
set_option maxHeartbeats 4000000 in
theorem rends_rk (D : Rk h n r F G S) (hps : S.ps.length ≤ 1099511627776) (b : Bool) :
    RF Tryz.prog F 69 #[.pointer (some ⟨r, 0, none⟩), .bool b] n h (fun v n' h' => v = .int .i64 (if b = true then 6 else 0) ∧ RkTo n r F G h (if b = true then S.lose S.keep else S) n' h') := by
  refine RF.of Tryz.func69 rfl rfl (Nat.le_of_ble_eq_true rfl) ?_; dsimp only [argEnv]
  have hlt := D.lt
  cases b
  · repeat' (first | refine stpS ?_ | (refine stp2 ?_ ?_ <;> intro _))
    exact ⟨rfl, D.to⟩
  · obtain ⟨ok, sa, ol, ka, pa, hF, hG, R⟩ := id D
    have c4 : h.cell r 4 = .slice ka S.keep.length S.keep.length := R.cs 4 _ rfl
    have hkF : ka ≠ none → ¬ F (sb ka) := fun q k => by
      subst hF
      rcases k with k | k
      · exact ((R.sep ka gmem_ka).1.resolve_left q) k.symm
      · exact (((R.sep ka gmem_ka).2.resolve_left k.1).resolve_left q) k.2.symm
    repeat' (first | refine stpS ?_ | (refine stp2 ?_ ?_ <;> intro _))
    refine RS.call rfl opds (rlose_rk D hps ok.keep R.ks hkF) (fun b hb => .inl hb) ?_
    rintro v n1 h1 hle to
    repeat' (first | refine stpS ?_ | (refine stp2 ?_ ?_ <;> intro _))
    exact ⟨rfl, to⟩
set_option maxHeartbeats 4000000 in
theorem rcrash_rk {c : Option Addr} {ks : List Bool} (D : Rk h n r F G S) (hps : S.ps.length ≤ 1099511627776) (hks : ks.length ≤ 1099511627776) (hS : SlT h n c ks) (hc : c ≠ none → ¬ F (sb c)) :
    RF Tryz.prog F 26 #[.pointer (some ⟨r, 0, none⟩), .slice c ks.length ks.length] n h (fun v n' h' => v = .int .i64 (S.crash ks).1 ∧ RkTo n r F G h (S.crash ks).2 n' h') := by
  refine RF.of Tryz.func26 rfl rfl (Nat.le_of_ble_eq_true rfl) ?_; dsimp only [argEnv]
  have hlt := D.lt
  obtain ⟨sa, ol, ka, C⟩ := D.cell
  have c6 : h.cell r 6 = .bool S.down := C 6 _ rfl
  cases hd : S.down
  · rw [hd] at c6
    have he : S.crash ks = (0, S.lose ks) := by simp [DS.crash, hd]
    rw [he]
    repeat' (first | refine stpS ?_ | (refine stp2 ?_ ?_ <;> intro _))
    refine RS.call rfl opds (rlose_rk D hps hks hS hc) (fun b hb => .inl hb) ?_
    rintro v n1 h1 hle hto
    repeat' (first | refine stpS ?_ | (refine stp2 ?_ ?_ <;> intro _))
    exact ⟨rfl, hto⟩
  · rw [hd] at c6
    have he : S.crash ks = (6, S) := by simp [DS.crash, hd]
    rw [he]
    repeat' (first | refine stpS ?_ | (refine stp2 ?_ ?_ <;> intro _))
    exact ⟨rfl, D.to⟩
set_option maxHeartbeats 4000000 in
theorem rrestart_rk (D : Rk h n r F G S) : RF Tryz.prog F 10 #[.pointer (some ⟨r, 0, none⟩)] n h (fun v n' h' => v = .int .i64 0 ∧ RkTo n r F G h S.restart n' h') := by
  refine RF.of Tryz.func10 rfl rfl (Nat.le_of_ble_eq_true rfl) ?_; dsimp only [argEnv]
  have hlt := D.lt
  have hTr := D.inF
  obtain ⟨ok, sa, ol, ka, pa, rfl, rfl, R⟩ := id D
  have hinf := R.inf
  have R1 : RfR (h.app (.sets r 6 [.bool false])) n r sa ol ka pa S.restart := R.scalar (.inr (.inr rfl)) rfl rfl rfl rfl
  repeat' (first | refine stpS ?_ | (refine stp2 ?_ ?_ <;> intro _))
  exact ⟨rfl, RkTo.mk ⟨ok.ps, ok.sure, ok.fuse, ok.calls, ok.keep⟩ R1 (.inl rfl) (fun x hx => .inl hx) (ExtW.appSets (.inl hTr) (ExtW.refl _ _ _))⟩
set_option maxHeartbeats 4000000 in
theorem rdown_rk (D : Rk h n r F G S) : Ev Tryz.prog none' 33 #[.pointer (some ⟨r, 0, none⟩)] n h (.bool S.down) n h := by
  refine RF.pure rfl fun n' hn => ?_
  have D := D.ext (Ext.refl n h) hn
  refine RF.of Tryz.func33 rfl rfl (Nat.le_of_ble_eq_true rfl) ?_; dsimp only [argEnv]
  have hlt := D.lt
  obtain ⟨sa, ol, ka, C⟩ := D.cell
  have c6 : h.cell r 6 = .bool S.down := C 6 _ rfl
  repeat' (first | refine stpS ?_ | (refine stp2 ?_ ?_ <;> intro _))
  rfl
set_option maxHeartbeats 4000000 in
theorem rcalls_rk (D : Rk h n r F G S) : Ev Tryz.prog none' 35 #[.pointer (some ⟨r, 0, none⟩)] n h (.int .i64 S.calls) n h := by
  refine RF.pure rfl fun n' hn => ?_
  have D := D.ext (Ext.refl n h) hn
  refine RF.of Tryz.func35 rfl rfl (Nat.le_of_ble_eq_true rfl) ?_; dsimp only [argEnv]
  have hlt := D.lt
  obtain ⟨sa, ol, ka, C⟩ := D.cell
  have c5 : h.cell r 5 = .int .i64 S.calls := C 5 _ rfl
  repeat' (first | refine stpS ?_ | (refine stp2 ?_ ?_ <;> intro _))
  rfl
theorem rnow_rk (D : Rk h n r F G S) (hps : S.ps.length ≤ 1099511627776) {f : Nat} (hf : f < 2) :
    RF Tryz.prog none' 13 #[.pointer (some ⟨r, 0, none⟩), .int .i64 (f : Nat)] n h (fun v n' h' => ∃ a', v = .slice a' (S.now f).length (S.now f).length ∧ Ext n h h' ∧ SlB h' n' a' (S.now f)) := by
  obtain ⟨ok, sa, ol, ka, pa, hF, hG, R⟩ := id D
  exact (rnow_rf R ok hps hf).mono fun v n' h' ⟨a', k1, k2, k3, _⟩ => ⟨a', k1, k2, k3⟩
set_option maxHeartbeats 4000000 in
theorem rread_rk (D : Rk h n r F G S) (hps : S.ps.length ≤ 1099511627776) (f at_ k : Int) :
    RF Tryz.prog none' 70 #[.pointer (some ⟨r, 0, none⟩), .int .i64 f, .int .i64 at_, .int .i64 k] n h (fun v n' h' => ∃ a', v = .tuple #[.slice a' (S.read f at_ k).2.length (S.read f at_ k).2.length, .int .i64 (S.read f at_ k).1] ∧ Ext n h h' ∧ SlB h' n' a' (S.read f at_ k).2) := by
  refine RF.of Tryz.func70 rfl rfl (Nat.le_of_ble_eq_true rfl) ?_; dsimp only [argEnv]
  have hlt := D.lt
  by_cases hm : S.may f = 0
  · obtain ⟨i, hi, rfl, hd⟩ := may_zero hm
    have hme := rmay_rk D (i : Int)
    rw [hm] at hme
    have hno := D.ok.now i
    by_cases hsz : at_ < 0 ∨ k < 0
    · have he : S.read (i : Int) at_ k = (1, []) := by simp [DS.read, hm, hsz]
      rw [he]
      repeat' (first | refine stpS ?_ | (refine stp2 ?_ ?_ <;> intro _))
      refine RS.call1 rfl opds (hme) none'W ?_
      repeat' (first | refine stpS ?_ | (refine stp2 ?_ ?_ <;> intro _))
      all_goals first | exact ⟨none, rfl, Ext.refl _ _, .nil⟩ | (exfalso; omega)
    · obtain ⟨p, rfl⟩ : ∃ p : Nat, at_ = p := ⟨at_.toNat, by omega⟩
      obtain ⟨q, rfl⟩ : ∃ q : Nat, k = q := ⟨k.toNat, by omega⟩
      have he : S.read (i : Int) (p : Nat) (q : Nat) = (0, ((S.now i).drop p).take q) := by rw [DS.read, if_neg (by rw [hm]; simp), if_neg hsz]; simp
      rw [he]
      repeat' (first | refine stpS ?_ | (refine stp2 ?_ ?_ <;> intro _))
      refine RS.call1 rfl opds hme none'W ?_
      repeat' (first | refine stpS ?_ | (refine stp2 ?_ ?_ <;> intro _))
      refine RS.call rfl opds (rnow_rk D hps hi) none'W ?_
      rintro v n1 h1 hle ⟨a', rfl, hE, hS⟩
      generalize S.now i = l at *
      by_cases hp : l.length < p
      · rw [List.drop_of_length_le (by omega), List.take_nil]
        repeat' (first | refine stpS ?_ | (refine stp2 ?_ ?_ <;> intro _))
        exact ⟨none, rfl, hE, .nil⟩
      · have hS1 : SlB h1 n1 (sub a' p) (l.drop p) := by
          have := hS.cut (i := p) (u := l.length) (by omega) (Nat.le_refl _)
          rwa [List.take_length] at this
        have e2 : l.length - p = (l.drop p).length := by rw [List.length_drop]
        have hdl : (l.drop p).length ≤ 4194304 := by rw [List.length_drop]; omega
        repeat' (first | refine stpS ?_ | (refine stp2 ?_ ?_ <;> intro _))
        rw [Int.toNat_natCast, e2]
        generalize l.drop p = l1 at *
        generalize sub a' p = a1 at *
        repeat' (first | refine stpS ?_ | (refine stp2 ?_ ?_ <;> intro _))
        have e3 : (min (q : Int) (l1.length : Int)).toNat = min q l1.length := by omega
        have hS2 := hS1.take (u := min q l1.length) (by omega)
        rw [take_min] at hS2
        exact ⟨a1, by rw [e3, List.length_take], hE, hS2⟩
  · have he : S.read f at_ k = (S.may f, []) := by simp [DS.read, hm]
    rw [he]
    repeat' (first | refine stpS ?_ | (refine stp2 ?_ ?_ <;> intro _))
    refine RS.call1 rfl opds (rmay_rk D f) none'W ?_
    repeat' (first | refine stpS ?_ | (refine stp2 ?_ ?_ <;> intro _))
    exact ⟨none, rfl, Ext.refl _ _, .nil⟩
set_option maxHeartbeats 4000000 in
theorem rsetFuse_rk {c : Option Addr} {ks : List Bool} (D : Rk h n r F G S) (k : Int) (hk : k ≤ 9223372036854775807) (hks : ks.length ≤ 1099511627776) (hS : SlT h n c ks) (hc : c ≠ none → ¬ F (sb c)) :
    RF Tryz.prog F 28 #[.pointer (some ⟨r, 0, none⟩), .int .i64 k, .slice c ks.length ks.length] n h (fun v n' h' => v = .int .i64 (S.setFuse k ks).1 ∧ RkTo n r F G h (S.setFuse k ks).2 n' h') := by
  refine RF.of Tryz.func28 rfl rfl (Nat.le_of_ble_eq_true rfl) ?_; dsimp only [argEnv]
  have hlt := D.lt
  have hTr := D.inF
  by_cases hk0 : k < 0
  · have he : S.setFuse k ks = (1, S) := by simp [DS.setFuse, hk0]
    rw [he]
    repeat' (first | refine stpS ?_ | (refine stp2 ?_ ?_ <;> intro _))
    exact ⟨rfl, D.to⟩
  · have he : S.setFuse k ks = (0, { S with fuse := k, keep := ks }) := by simp [DS.setFuse, hk0]
    rw [he]
    obtain ⟨ok, sa, ol, ka, pa, rfl, rfl, R⟩ := id D
    have hinf := R.inf
    have R1 : RfR (h.app (.sets r 3 [.int .i64 k])) n r sa ol ka pa { S with fuse := k } := R.scalar (.inl rfl) rfl rfl rfl rfl
    have hr : (List.range (ks.length * 1)).map (boolsF ks) = boolsV ks := by
      apply List.ext_getElem
      · simp [boolsV]
      · intro i h1 h2
        have hi : i < ks.length := by simpa [boolsV] using h2
        simp [boolsV, boolsF, List.getD, hi]
    have hkn : ∀ l : List Bool, known (boolsV l) = true := fun l => by
      induction l with
      | nil => rfl
      | cons x l ih => simpa [boolsV, known] using ih
    have hSr : SlT (h.app (.sets r 3 [.int .i64 k])) n c ks := hS.extW (W := fun b => b = r) (ExtW.appSets (.inl rfl) (ExtW.refl _ _ _)) (Nat.le_refl _) (fun q e => hc q (e ▸ hTr))
    repeat' (first | refine stpS ?_ | (refine stp2 ?_ ?_ <;> intro _))
    refine RS.append rfl opd opd (OwnSl.nil (h := h.app (.sets r 3 [.int .i64 k])) (n0 := n) (n := n) (z := 1) (Nat.le_refl n)) (SlR.src hSr (by rw [hr]; exact hkn ks)) full_slice (fun b hb => Or.inr (by omega)) (by omega) ?_
    intro a' n1 h1 hle hO hX hnew
    have hE := hX.ext (OwnSl.nil (h := h.app (.sets r 3 [.int .i64 k])) (n0 := n) (n := n) (z := 1) (Nat.le_refl n))
    simp only [Nat.zero_add, List.nil_append, hr] at hO ⊢
    have hlt1 := R1.lt
    have hinf1 : h1.info r = some ⟨7, 0, true, 0⟩ := (hE.info r hlt1).trans R1.inf
    have hX1 : ExtX n ol (h.app (.sets r 3 [.int .i64 k])) h1 := fun x hx _ => ⟨hE.info x hx, fun i => hE.cell x i hx⟩
    obtain ⟨q1, q2, q3⟩ := R1.rest hX1 hle
    have hat := hO.at'
    have hol : ol = none ∨ sb ol < n := by
      by_cases q : ol = none
      · exact .inl q
      · exact .inr (R1.ltF _ (.inr ⟨q, rfl⟩))
    have hg : ∀ x, x ∈ rfG sa a' pa → x = a' ∨ x ∈ rfG sa ka pa := fun x hx => by
      simp only [rfG, List.mem_cons] at hx ⊢
      rcases hx with k | k | k | k <;> simp [k]
    have R2 : RfR (h1.app (.sets r 4 [.slice a' ks.length ks.length])) n1 r sa ol a' pa { S with fuse := k, keep := ks } :=
      R1.put hX1 hle rfl (by omega) q1 (R1.lo.ext hE hle) hO.slt q3 R1.len (.inl rfl) (fun x hx => by
        rcases hg x hx with rfl | k
        · rcases hat with k | k
          · exact .inr (.inl k)
          · refine .inr (.inr ⟨k.2, .inr (by omega), ?_⟩)
            rcases hol with q | q
            · exact .inl q
            · exact .inr (.inr (by omega))
        · exact .inl k)
    repeat' (first | refine stpS ?_ | (refine stp2 ?_ ?_ <;> intro _))
    exact ⟨rfl, RkTo.mk ⟨ok.ps, ok.sure, by show 0 ≤ k ∧ k ≤ 9223372036854775807; omega, ok.calls, hks⟩ R2 (.inl rfl) (fun x hx => (hg x hx).elim (fun q => .inr (q ▸ hat.imp id (·.1))) .inl) (ExtW.appSets (.inl hTr) ((ExtW.appSets (.inl hTr) (ExtW.refl _ _ _)).then hE (Nat.le_refl _)))⟩
end
end Go.Proofs.YtfbddbpbifnhfaaGreatDoor.Dk

/- Contracts taken from disk (written by port.py). -/
namespace Go.Proofs.YtfbddbpbifnhfaaGreatDoor.Dk
open Go.Abs
section
variable {h h1 h2 : AH} {n n1 n2 r : Nat} {sa : Nat → Option Addr} {ol ka : Option Addr} {pa : List (Option Addr)} {F G F1 G1 : Nat → Prop} {S S1 : DS}
theorem meets_done (S : DS) (p : Pc) : (S.done p).meets = (S.meets.1, S.meets.2.done p) := by
  by_cases h : S.fuse = 0
  · rw [DS.meets, if_pos (show (S.done p).fuse = 0 from h), DS.meets, if_pos h]; rfl
  · rw [DS.meets, if_neg (show ¬ (S.done p).fuse = 0 from h), DS.meets, if_neg h]; rfl
theorem meets_writes (S : DS) (i p : Nat) (b : List UInt8) : (S.writes i p b).meets = (S.meets.1, S.meets.2.writes i p b) := by
  by_cases h : S.fuse = 0
  · rw [DS.meets, if_pos (show (S.writes i p b).fuse = 0 from h), DS.meets, if_pos h]; rfl
  · rw [DS.meets, if_neg (show ¬ (S.writes i p b).fuse = 0 from h), DS.meets, if_neg h]; rfl
set_option maxHeartbeats 4000000 in
theorem rtruncate_rk (D : Rk h n r F G S) (hps : S.ps.length < 1099511627776) (hcl : S.calls < 4611686018427387904) (f size : Int) (hsz64 : size ≤ 9223372036854775807) :
    RF Tryz.prog F 61 #[.pointer (some ⟨r, 0, none⟩), .int .i64 f, .int .i64 size] n h (fun v n' h' => v = .int .i64 (S.truncate f size).1 ∧ RkTo n r F G h (S.truncate f size).2 n' h') := by
  refine RF.of Tryz.func61 rfl rfl (Nat.le_of_ble_eq_true rfl) ?_; dsimp only [argEnv]
  have hlt := D.lt
  have hTr := D.inF
  by_cases hm : S.may f = 0
  · obtain ⟨i, hi, rfl, hd⟩ := may_zero hm
    have hme := rmay_rk D (i : Int)
    rw [hm] at hme
    have hno := D.ok.now i
    by_cases hneg : size < 0
    · have he : S.truncate (i : Int) size = (1, S) := by simp [DS.truncate, hm, hneg]
      rw [he]
      repeat' (first | refine stpS ?_ | (refine stp2 ?_ ?_ <;> intro _))
      refine RS.call1 rfl opds (hme) none'W ?_
      repeat' (first | refine stpS ?_ | (refine stp2 ?_ ?_ <;> intro _))
      exact ⟨rfl, D.to⟩
    · obtain ⟨k, rfl⟩ : ∃ k : Nat, size = k := ⟨size.toNat, by omega⟩
      repeat' (first | refine stpS ?_ | (refine stp2 ?_ ?_ <;> intro _))
      refine RS.call1 rfl opds (hme) none'W ?_
      repeat' (first | refine stpS ?_ | (refine stp2 ?_ ?_ <;> intro _))
      refine RS.call rfl opds (rnow_rk D (by omega) hi) none'W ?_
      rintro v n1 h1 hle ⟨a', rfl, hE, hS⟩
      have D1 := D.ext hE hle
      by_cases hgt : (S.now i).length < k
      · have he : S.truncate (i : Int) (k : Nat) = (1, S) := by rw [DS.truncate, if_neg (by rw [hm]; simp), if_pos (by rw [Int.toNat_natCast]; omega)]
        rw [he]
        repeat' (first | refine stpS ?_ | (refine stp2 ?_ ?_ <;> intro _))
        exact ⟨rfl, _, _, D1, fun _ _ q => q, fun _ _ q => q, ExtW.of hE (Nat.le_refl _)⟩
      · have he : S.truncate (i : Int) (k : Nat) = (S.done ⟨i, true, k, []⟩).ends := by rw [DS.truncate, if_neg (by rw [hm]; simp), if_neg (by rw [Int.toNat_natCast]; omega)]; rfl
        rw [he, ends_meets (show 0 ≤ (S.done ⟨i, true, k, []⟩).fuse from D.ok.fuse.1), meets_done]
        repeat' (first | refine stpS ?_ | (refine stp2 ?_ ?_ <;> intro _))
        refine RS.call rfl opds (rmeets_rk D1 hcl) (fun b hb => .inl hb) ?_
        rintro v n2 h2 hle2 ⟨rfl, rfl, D2, e2⟩
        have hmk : S.meets.2.keep = S.keep := by unfold DS.meets; split <;> rfl
        have hmp : S.meets.2.ps = S.ps := by unfold DS.meets; split <;> rfl
        have hok := D2.ok
        have hlt2 := D2.lt
        generalize S.meets = M at *
        obtain ⟨hit, S2⟩ := M
        dsimp only at D2 hmk hmp hok ⊢
        have hpl : S2.ps.length = S.ps.length := by rw [hmp]
        have hpo : PcOk ⟨i, true, k, []⟩ := ⟨by show i = 0 ∨ i = 1; omega, fun q => (by cases q), fun _ => by show k ≤ 4194304; omega⟩
        obtain ⟨-, sa, ol, ka, pa, rfl, rfl, R⟩ := id D2
        have hinf := R.inf
        have c2 : h2.cell r 2 = .slice ol S2.ps.length S2.ps.length := R.cs 2 _ rfl
        repeat' (first | refine stpS ?_ | (refine stp2 ?_ ?_ <;> intro _))
        have hnew : OwnSl (h2.app (.new n2 ⟨4, 0, true, 4⟩ (rpC ⟨i, true, k, []⟩ none))) n2 (n2 + 1) (some ⟨n2, 0, none⟩) 4 1 (rpC ⟨i, true, k, []⟩ none) := OwnSl.new (h := h2) (m := 1) (z := 4) (Nat.le_refl n2) rfl rfl
        refine RS.appendT rfl opd opd (R.lo.ext (n1 := n2 + 1) (h1 := h2.app (.new n2 ⟨4, 0, true, 4⟩ (rpC ⟨i, true, k, []⟩ none))) ext (Nat.le_succ n2)) hnew.src full_slice (fun q => .inl (.inr ⟨q, rfl⟩)) (by omega) ?_
        intro a3 n3 h3 hle3 hO3 hX3 hwh
        have hX : ExtX n2 ol h2 h3 := fun x hx hne => by
          have := hX3 x (by omega) hne
          exact ⟨this.1.trans (i_new_ne (by omega) rfl), fun i => (this.2 i).trans (c_new_ne (by omega) rfl)⟩
        have R3 := R.push (p := ⟨i, true, k, []⟩) (c := none) hX (by omega) (hO3.mono (Nat.zero_le _)) (hwh.imp id (fun q => .inr (by omega))) .nil (.inl rfl) (.inr (.inl rfl))
        have hinf3 : h3.info r = some ⟨7, 0, true, 0⟩ := i_extX hX hlt2 R.rl hinf
        repeat' (first | refine stpS ?_ | (refine stp2 ?_ ?_ <;> intro _))
        have to3 : RkTo n2 r (RkF r ol) (RkG sa ka pa) h2 (S2.done ⟨i, true, k, []⟩) n3 (h3.app (.sets r 2 [.slice a3 (S2.ps.length + 1) (S2.ps.length + 1)])) :=
          RkTo.mk (done_ok hok hpo) R3 (hwh.imp id (fun q => .inr (by omega))) (fun x hx => by
            simp only [rfG, List.mem_cons, List.mem_append, List.not_mem_nil, or_false] at hx ⊢
            rcases hx with k | k | k | k | k <;> simp [k]) (ExtW.appSets (.inl (.inl rfl)) (ExtW.ofX hX (fun q => .inr ⟨q, rfl⟩)))
        obtain ⟨F3, G3, D3, hF3, hG3, e3⟩ := to3
        refine RS.call rfl opds (rends_rk D3 (by simp [DS.done]; omega) hit) (fun b hb => ?_) ?_
        · by_cases q : b < n
          · exact .inl (hF3 b (by omega) hb)
          · exact .inr (by omega)
        rintro v n4 h4 hle4 ⟨rfl, to4⟩
        have hkp : (S2.done ⟨i, true, k, []⟩).keep = (S.done ⟨i, true, k, []⟩).keep := hmk
        have fin := RkTo.trans (n := n) (h := h) (F := RkF r ol) (G := RkG sa ka pa) (((ExtW.of (W := RkF r ol) hE (Nat.le_refl n)).trans e2 hle (fun _ _ q => q)).trans e3 hle (fun _ _ q => q)) (fun b hb q => hF3 b (by omega) q) (fun b hb q => hG3 b (by omega) q) (by omega) to4
        rw [← hkp]
        cases hit
        · repeat' (first | refine stpS ?_ | (refine stp2 ?_ ?_ <;> intro _))
          exact ⟨rfl, fin⟩
        · repeat' (first | refine stpS ?_ | (refine stp2 ?_ ?_ <;> intro _))
          exact ⟨rfl, fin⟩
  · have he : S.truncate f size = (S.may f, S) := by simp [DS.truncate, hm]
    rw [he]
    repeat' (first | refine stpS ?_ | (refine stp2 ?_ ?_ <;> intro _))
    refine RS.call1 rfl opds (rmay_rk D f) none'W ?_
    repeat' (first | refine stpS ?_ | (refine stp2 ?_ ?_ <;> intro _))
    exact ⟨rfl, D.to⟩
end
end Go.Proofs.YtfbddbpbifnhfaaGreatDoor.Dk

/- Contracts taken from disk (written by port.py). -/
namespace Go.Proofs.YtfbddbpbifnhfaaGreatDoor.Dk
open Go.Abs
section
variable {h h1 h2 : AH} {n n1 n2 r : Nat} {sa : Nat → Option Addr} {ol ka : Option Addr} {pa : List (Option Addr)} {F G F1 G1 : Nat → Prop} {S S1 : DS}
def kpP (f : Nat) (x : PA) : Bool := !decide (x.1.file = f)
set_option maxHeartbeats 4000000 in
theorem rsync_rk (D : Rk h n r F G S) (hps : S.ps.length ≤ 1099511627776) (hcl : S.calls < 4611686018427387904) (f : Int) :
    RF Tryz.prog F 59 #[.pointer (some ⟨r, 0, none⟩), .int .i64 f] n h (fun v n' h' => v = .int .i64 (S.sync f).1 ∧ RkTo n r F G h (S.sync f).2 n' h') := by
  refine RF.of Tryz.func59 rfl rfl (Nat.le_of_ble_eq_true rfl) ?_; dsimp only [argEnv]
  have hlt := D.lt
  by_cases hm : S.may f = 0
  · obtain ⟨i, hi, rfl, hd⟩ := may_zero hm
    have hme := rmay_rk D (i : Int)
    rw [hm] at hme
    have hem := ends_meets D.ok.fuse.1
    repeat' (first | refine stpS ?_ | (refine stp2 ?_ ?_ <;> intro _))
    refine RS.call1 rfl opds (hme) none'W ?_
    repeat' (first | refine stpS ?_ | (refine stp2 ?_ ?_ <;> intro _))
    refine RS.call rfl opds (rmeets_rk D hcl) (fun b hb => .inl hb) ?_
    rintro v n1 h1 hle ⟨rfl, rfl, D2, e2⟩
    have hmk : S.meets.2.keep = S.keep := by unfold DS.meets; split <;> rfl
    have hmp : S.meets.2.ps = S.ps := by unfold DS.meets; split <;> rfl
    have hok := D2.ok
    have hlt2 := D2.lt
    generalize S.meets = M at *
    obtain ⟨hit, S2⟩ := M
    dsimp only at D2 hmk hmp hok hem ⊢
    have hpl : S2.ps.length = S.ps.length := by rw [hmp]
    cases hit
    · have he : S.sync (i : Int) = (0, S2.synced i) := by
        rw [DS.sync, if_neg (by rw [hm]; simp), hem]; simp
      rw [he]
      obtain ⟨-, sa, ol, ka, pa, rfl, rfl, R⟩ := id D2
      have hinf := R.inf
      have hTr : RkF r ol r := .inl rfl
      repeat' (first | refine stpS ?_ | (refine stp2 ?_ ?_ <;> intro _))
      repeat' (first | refine stp ?_ | (refine stp2 ?_ ?_ <;> intro _))
      refine RD.call n1 rfl opds (rnow_rf (R.ext (AH.below_ext h1 n1) (Nat.le_refl _)) hok (by omega) hi) (Nat.le_refl _) cfc ?_
      rintro v n2 h2 hle2 ⟨a1, rfl, hE, hS1, hwh⟩
      have hE2 : Ext n1 h1 h2 := hE.via (Nat.le_refl _) (AH.below_ext h1 n1)
      have hX : ExtX n1 ol h1 h2 := fun x hx _ => ⟨hE2.info x hx, fun k => hE2.cell x k hx⟩
      obtain ⟨q1, q2, q3⟩ := R.rest hX hle2
      have hinf2 : h2.info r = some ⟨7, 0, true, 0⟩ := (hE2.info r hlt2).trans hinf
      have hol : ol = none ∨ sb ol < n1 := by
        by_cases q : ol = none
        · exact .inl q
        · exact .inr (R.ltF _ (.inr ⟨q, rfl⟩))
      repeat' (first | refine stp ?_ | (refine stp2 ?_ ?_ <;> intro _))
      have R3 : RfR (h2.app (.sets r i [.slice a1 (S2.now i).length (S2.now i).length])) n2 r (upd sa i a1) ol ka pa { S2 with sure := upd S2.sure i (S2.now i) } := by
        refine R.put hX hle2 ?_ (by omega) (fun j hj => ?_) (R.lo.ext hE2 hle2) q2 q3 R.len (.inl rfl) (fun x hx => ?_)
        · rcases (show i = 0 ∨ i = 1 by omega) with q | q <;> subst q <;> rfl
        · by_cases e : j = i
          · subst e; rw [upd_same]; show SlB _ _ _ (upd S2.sure j _ j); rw [upd_same]; exact hS1
          · rw [upd_ne _ _ e]; show SlB _ _ _ (upd S2.sure i _ j); rw [upd_ne _ _ e]; exact q1 j hj
        · rcases mem_upd hx with rfl | k
          · rcases hwh with k | k | k
            · exact .inl (by rw [k]; exact gmem_sa hi)
            · exact .inr (.inl k)
            · by_cases q : x = none
              · exact .inr (.inl q)
              · refine .inr (.inr ⟨hS1.ltA q, .inr (by omega), ?_⟩)
                rcases hol with q | q
                · exact .inl q
                · exact .inr (.inr (by omega))
          · exact .inl k
      have hg3 : ∀ x, x ∈ rfG (upd sa i a1) ka pa → x ∈ rfG sa ka pa ∨ x = none ∨ n1 ≤ sb x := fun x hx => by
        rcases mem_upd hx with rfl | k
        · rcases hwh with k | k | k
          · exact .inl (by rw [k]; exact gmem_sa hi)
          · exact .inr (.inl k)
          · exact .inr (.inr k)
        · exact .inl k
      have e3 : ExtW (RkF r ol) n1 h (h2.app (.sets r i [.slice a1 (S2.now i).length (S2.now i).length])) := ExtW.appSets (.inl (.inl rfl)) (e2.then hE2 (Nat.le_refl _))
      repeat' (first | refine stp ?_ | (refine stp2 ?_ ?_ <;> intro _))
      obtain ⟨z1, z2⟩ := zip_fst S2.ps pa R.len.symm
      have hLl : (S2.ps.zip pa).length = S2.ps.length := by rw [List.length_zip, R.len, Nat.min_self]
      have hrl := R.len
      generalize h2.app (.sets r i [.slice a1 (S2.now i).length (S2.now i).length]) = h3 at *
      generalize hS3 : ({ S2 with sure := upd S2.sure i (S2.now i) } : DS) = S3 at R3
      have hp3 : S3.ps = S2.ps := by rw [← hS3]
      clear q1 q2 q3 hX hE hE2 hS1 hwh hinf2
      repeat' (first | refine stpS ?_ | (refine stp2 ?_ ?_ <;> intro _))
      refine RC.loop ?_
      refine RL.inv (α := Nat × Option Addr) (fun s => [(7, .int .i64 (s.1 : Nat)), (6, .slice s.2 (((S2.ps.zip pa).take s.1).filter (kpP i)).length (((S2.ps.zip pa).take s.1).filter (kpP i)).length), (0, .pointer (some ⟨r, 0, none⟩)), (1, .int .i64 (i : Nat))])
        (fun s n4 h4 => s.1 ≤ S2.ps.length ∧ n2 ≤ n4 ∧ Ext n2 h3 h4 ∧ OwnSl h4 n2 n4 s.2 4 (((S2.ps.zip pa).take s.1).filter (kpP i)).length (rpsC ((((S2.ps.zip pa).take s.1).filter (kpP i)).map Prod.fst) ((((S2.ps.zip pa).take s.1).filter (kpP i)).map Prod.snd)))
        (fun s => S2.ps.length - s.1) (0, none) envs ⟨by omega, Nat.le_refl _, Ext.refl _ _, by simpa [rpsC] using OwnSl.nil (Nat.le_refl _)⟩ ?_
      rintro ⟨j, a⟩ n4 h4 ⟨hj, hn4, hE4, hO4⟩
      dsimp only at hj hO4 ⊢
      have R4 := R3.ext hE4 hn4
      have hlt4 := R4.lt
      have c2 : h4.cell r 2 = .slice ol S2.ps.length S2.ps.length := by rw [← hp3]; exact R4.cs 2 _ rfl
      have hfl : (((S2.ps.zip pa).take j).filter (kpP i)).length ≤ S2.ps.length := by
        have h1 := List.length_filter_le (kpP i) ((S2.ps.zip pa).take j)
        rw [List.length_take] at h1; omega
      by_cases hltj : j < S2.ps.length
      · obtain ⟨p, hp⟩ : ∃ p, S2.ps[j]? = some p := ⟨_, List.getElem?_eq_getElem hltj⟩
        obtain ⟨hA, hsn, d0, d1, d2, d3⟩ := R4.row (i := j) (p := p) (by rw [hp3]; exact hp)
        rw [hp3] at hA
        have hpa : pa[j]? = some (pa.getD j none) := by
          have : j < pa.length := by omega
          simp [List.getD, this]
        have hz : (S2.ps.zip pa)[j]? = some (p, pa.getD j none) := by
          rw [List.getElem?_zip_eq_some]; exact ⟨hp, hpa⟩
        have htk : (S2.ps.zip pa).take (j + 1) = (S2.ps.zip pa).take j ++ [(p, pa.getD j none)] := by rw [List.take_add_one, hz]; rfl
        have hff : ((S2.ps.zip pa).take (j + 1)).filter (kpP i) = if p.file = i then ((S2.ps.zip pa).take j).filter (kpP i) else ((S2.ps.zip pa).take j).filter (kpP i) ++ [(p, pa.getD j none)] := by
          rw [htk, List.filter_append]
          by_cases e : p.file = i <;> simp [kpP, e]
        by_cases e : p.file = i
        · rw [if_pos e] at hff
          repeat' (first | refine stpS ?_ | (refine stp2 ?_ ?_ <;> intro _))
          refine nextC.normal ⟨(j + 1, a), by dsimp only; omega, ?_, by dsimp only; omega, hn4, hE4, ?_⟩
          · dsimp only; rw [hff]; exact envs
          · dsimp only; rw [hff]; exact hO4
        · rw [if_neg e] at hff
          generalize (((S2.ps.zip pa).take j).filter (kpP i)) = M at *
          repeat' (first | refine stpS ?_ | (refine stp2 ?_ ?_ <;> intro _))
          have hnew : OwnSl (h4.app (.new n4 ⟨4, 0, true, 4⟩ (rpC p (pa.getD j none)))) n4 (n4 + 1) (some ⟨n4, 0, none⟩) 4 1 (rpC p (pa.getD j none)) := OwnSl.new (h := h4) (m := 1) (z := 4) (Nat.le_refl n4) rfl rfl
          refine RS.append rfl opd opd (hO4.ext (n1 := n4 + 1) (h1 := h4.app (.new n4 ⟨4, 0, true, 4⟩ (rpC p (pa.getD j none)))) ext (Nat.le_succ n4)) hnew.src full_slice (fun b hb => Or.inr (by omega)) (by omega) ?_
          intro a3 n5 h5 hle5 hO5 hX5 hwh
          have hE5 := hX5.ext (hO4.ext (n1 := n4 + 1) (h1 := h4.app (.new n4 ⟨4, 0, true, 4⟩ (rpC p (pa.getD j none)))) ext (Nat.le_succ n4))
          rw [← rpsC_snoc _ _ _ _ (by simp)] at hO5
          repeat' (first | refine stpS ?_ | (refine stp2 ?_ ?_ <;> intro _))
          refine nextC.normal ⟨(j + 1, a3), by dsimp only; omega, ?_, by dsimp only; omega, by omega, ext, ?_⟩
          · dsimp only; rw [hff, List.length_append]; exact envs
          · dsimp only; rw [hff, List.length_append, List.map_append, List.map_append]; exact hO5
      · have hje : j = S2.ps.length := by omega
        subst hje
        rw [show (S2.ps.zip pa).take S2.ps.length = S2.ps.zip pa by rw [← hLl, List.take_length]] at hO4 ⊢
        have hps' : ((S2.ps.zip pa).filter (kpP i)).map Prod.fst = S2.ps.filter fun p => !decide (p.file = i) := by
          have : (S2.ps.zip pa).filter (kpP i) = (S2.ps.zip pa).filter ((fun p : Pc => !decide (p.file = i)) ∘ Prod.fst) := rfl
          rw [this, ← List.filter_map, z1]
        have hml : (((S2.ps.zip pa).filter (kpP i)).map Prod.snd).length = (((S2.ps.zip pa).filter (kpP i)).map Prod.fst).length := by simp
        have hll : ((S2.ps.zip pa).filter (kpP i)).length = (((S2.ps.zip pa).filter (kpP i)).map Prod.fst).length := by simp
        have hsub : ∀ x ∈ ((S2.ps.zip pa).filter (kpP i)).map Prod.snd, x ∈ pa := fun x hx => by
          rw [← z2]
          obtain ⟨y, hy, rfl⟩ := List.mem_map.1 hx
          exact List.mem_map.2 ⟨y, (List.mem_filter.1 hy).1, rfl⟩
        have hX4 : ExtX n2 ol h3 h4 := fun x hx _ => ⟨hE4.info x hx, fun k => hE4.cell x k hx⟩
        obtain ⟨q1, q2, q3⟩ := R3.rest hX4 hn4
        have hat := hO4.at'
        have hinf4 := R4.inf
        have hg4 : ∀ x, x ∈ rfG (upd sa i a1) ka (((S2.ps.zip pa).filter (kpP i)).map Prod.snd) → x ∈ rfG (upd sa i a1) ka pa := fun x hx => by
          simp only [rfG, List.mem_cons] at hx ⊢
          rcases hx with k | k | k | k
          · exact .inl k
          · exact .inr (.inl k)
          · exact .inr (.inr (.inl k))
          · exact .inr (.inr (.inr (hsub x k)))
        rw [hll, hps'] at hO4 ⊢
        have R5 : RfR (h4.app (.sets r 2 [.slice a (S2.ps.filter fun p => !decide (p.file = i)).length (S2.ps.filter fun p => !decide (p.file = i)).length])) n4 r (upd sa i a1) a ka (((S2.ps.zip pa).filter (kpP i)).map Prod.snd) (S2.synced i) := by
          refine R3.put hX4 hn4 ?_ (by omega) (by rw [← hS3] at q1; exact q1) (hO4.mono (Nat.zero_le _)) (by rw [← hS3] at q2; exact q2) (fun k p hk => ?_) (by rw [hml, hps']; rfl) (.inr (hat.imp id (·.1))) (fun x hx => .inl (hg4 x hx))
          · rw [← hS3]; rfl
          · have hk : (S2.ps.filter fun p => !decide (p.file = i))[k]? = some p := hk
            rw [← hps', List.getElem?_map] at hk
            cases hq : ((S2.ps.zip pa).filter (kpP i))[k]? with
            | none => rw [hq] at hk; cases hk
            | some y =>
              rw [hq] at hk
              simp only [Option.map_some, Option.some.injEq] at hk
              have hy := (List.mem_filter.1 (List.mem_of_getElem? hq)).1
              obtain ⟨j, hj⟩ := List.mem_iff_getElem?.1 hy
              have h1 : S3.ps[j]? = some p := by rw [hp3, ← z1, List.getElem?_map, hj, ← hk]; rfl
              have h2 : (((S2.ps.zip pa).filter (kpP i)).map Prod.snd).getD k none = pa.getD j none := by
                rw [show pa.getD j none = ((S2.ps.zip pa).map Prod.snd).getD j none by rw [z2]]
                simp only [List.getD, List.getElem?_map, hj, hq, Option.map_some]
              rw [h2]; exact q3 j p h1
        repeat' (first | refine stpS ?_ | (refine stp2 ?_ ?_ <;> intro _))
        exact ⟨rfl, RkTo.mk (synced_ok hok) R5 (.inr (hat.imp id (by omega))) (fun x hx => (hg3 x (hg4 x hx))) (ExtW.appSets (.inl hTr) (e3.then hE4 (by omega)))⟩
    · have he : S.sync (i : Int) = (6, S2.lose S.keep) := by
        rw [DS.sync, if_neg (by rw [hm]; simp), hem]; simp
      rw [he, ← hmk]
      repeat' (first | refine stpS ?_ | (refine stp2 ?_ ?_ <;> intro _))
      refine RS.call rfl opds (rends_rk D2 (by omega) true) (fun b hb => .inl hb) ?_
      rintro v n2 h2 hle2 ⟨rfl, to⟩
      repeat' (first | refine stpS ?_ | (refine stp2 ?_ ?_ <;> intro _))
      exact ⟨rfl, RkTo.trans e2 (fun _ _ q => q) (fun _ _ q => q) (Nat.le_refl _) to⟩
  · have he : S.sync f = (S.may f, S) := by simp [DS.sync, hm]
    rw [he]
    repeat' (first | refine stpS ?_ | (refine stp2 ?_ ?_ <;> intro _))
    refine RS.call1 rfl opds (rmay_rk D f) none'W ?_
    repeat' (first | refine stpS ?_ | (refine stp2 ?_ ?_ <;> intro _))
    exact ⟨rfl, D.to⟩
end
end Go.Proofs.YtfbddbpbifnhfaaGreatDoor.Dk

/- The document's log in memory (written by GEN_Rg.py). -/
namespace Go.Proofs.YtfbddbpbifnhfaaGreatDoor
open Go.Abs Cd

structure RgR (h : AH) (n lg d : Nat) (F G : Nat → Prop) (a : Option Addr) (N : List CmA) (B : Nat → Prop) (X : LS) : Prop where
  dk : Dk.Rk h n d F G X.S
  hi : lg < n
  inf : h.info lg = some ⟨4, 0, true, 0⟩
  c0 : h.cell lg 0 = .pointer (some ⟨d, 0, none⟩)
  c1 : h.cell lg 1 = .int .i64 X.gen
  c2 : h.cell lg 2 = .slice a X.L.length X.L.length
  c3 : h.cell lg 3 = .int .i64 (X.e : Nat)
  own : OwnSl h 0 n a 1 X.L.length (lgC N)
  nl : N.map (·.2) = X.L
  cm : ∀ x ∈ N, CmR h n B x.1 x.2
  bn : ∀ b, B b → b < n ∧ b ≠ lg ∧ ¬ inA a b ∧ ¬ F b
  lF : ¬ F lg ∧ ¬ G lg ∧ ¬ inA a lg
  aF : ∀ b, inA a b → ¬ F b ∧ ¬ G b
  gm : may X.gen
  le : X.L.length ≤ X.e
  me : X.e ≤ 4194304
def RgT (lg : Nat) (F G : Nat → Prop) (a : Option Addr) (B : Nat → Prop) (b : Nat) : Prop := F b ∨ G b ∨ b = lg ∨ inA a b ∨ B b
def Rg (h : AH) (n lg d : Nat) (T : Nat → Prop) (X : LS) : Prop := ∃ F G a N B, RgR h n lg d F G a N B X ∧ T = RgT lg F G a B
def RgTo (n lg d : Nat) (T : Nat → Prop) (h : AH) (X : LS) (n' : Nat) (h' : AH) : Prop :=
  ∃ T', Rg h' n' lg d T' X ∧ (∀ b, b < n → T' b → T b) ∧ ExtW T n h h'
section
variable {h h1 h2 : AH} {n n1 n2 lg d : Nat} {F G B B1 T : Nat → Prop} {a a' : Option Addr} {N : List CmA} {X Y : LS}
theorem RgR.alt (R : RgR h n lg d F G a N B X) : ∀ b, inA a b → b < n := fun b q => by
  have := (R.own.at'.resolve_left q.1).2
  rw [q.2]; exact this
theorem RgR.lt (R : RgR h n lg d F G a N B X) : ∀ b, RgT lg F G a B b → b < n := by
  rintro b (q | q | q | q | q)
  · exact R.dk.ltF b q
  · exact R.dk.ltG b q
  · rw [q]; exact R.hi
  · exact R.alt b q
  · exact (R.bn b q).1
theorem Rg.lt (R : Rg h n lg d T X) : ∀ b, T b → b < n := by
  obtain ⟨F, G, a, N, B, R, rfl⟩ := R
  exact R.lt
theorem RgR.extW {W : Nat → Prop} (R : RgR h n lg d F G a N B X) (e : ExtW W n h h1) (hn : n ≤ n1) (hW : ∀ b, RgT lg F G a B b → ¬ W b) : RgR h1 n1 lg d F G a N B X := by
  have hl : ¬ W lg := hW lg (.inr (.inr (.inl rfl)))
  refine ⟨R.dk.extW e hn (fun b q => hW b (.inl q)) (fun b q => hW b (.inr (.inl q))), Nat.lt_of_lt_of_le R.hi hn, i_extW e R.hi hl R.inf, c_extW e R.hi hl R.c0, c_extW e R.hi hl R.c1, c_extW e R.hi hl R.c2, c_extW e R.hi hl R.c3, ?_, R.nl, fun x hx => (R.cm x hx).extW e hn (fun b q => hW b (.inr (.inr (.inr (.inr q))))), fun b q => ?_, R.lF, R.aF, R.gm, R.le, R.me⟩
  · exact (R.own.extW e (Nat.le_refl _) (Nat.le_refl _) fun q => hW _ (.inr (.inr (.inr (.inl ⟨q, rfl⟩))))).ext (Ext.refl _ _) hn
  · obtain ⟨q1, q2⟩ := R.bn b q
    exact ⟨by omega, q2⟩
theorem Rg.extW {W : Nat → Prop} (R : Rg h n lg d T X) (e : ExtW W n h h1) (hn : n ≤ n1) (hW : ∀ b, T b → ¬ W b) : Rg h1 n1 lg d T X := by
  obtain ⟨F, G, a, N, B, R, rfl⟩ := R
  exact ⟨F, G, a, N, B, R.extW e hn hW, rfl⟩
theorem Rg.ext (R : Rg h n lg d T X) (e : Ext n h h1) (hn : n ≤ n1) : Rg h1 n1 lg d T X := R.extW (ExtW.of e (Nat.le_refl _) : ExtW (fun _ => False) n h h1) hn (fun _ _ q => q)
theorem Rg.to (R : Rg h n lg d T X) : RgTo n lg d T h X n h := ⟨T, R, fun _ _ q => q, ExtW.refl _ _ _⟩
theorem RgTo.trans {T1 : Nat → Prop} (a : ExtW T n h h1) (hT : ∀ b, b < n → T1 b → T b) (hn : n ≤ n1) (b : RgTo n1 lg d T1 h1 X n2 h2) : RgTo n lg d T h X n2 h2 := by
  obtain ⟨T2, R, q1, q2⟩ := b
  exact ⟨T2, R, fun b hb q => hT b hb (q1 b (by omega) q), a.trans q2 hn hT⟩
theorem RgR.diskR {S' : Dk.DS} {F' G' : Nat → Prop} (R : RgR h n lg d F G a N B X) (D' : Dk.Rk h1 n1 d F' G' S') (hF : ∀ b, b < n → F' b → F b) (hG : ∀ b, b < n → G' b → G b) (e : ExtW F n h h1) (hn : n ≤ n1) : RgR h1 n1 lg d F' G' a N B { X with S := S' } := by
  have hlF := R.lF
  have hlt := R.hi
  refine ⟨D', Nat.lt_of_lt_of_le R.hi hn, i_extW e R.hi hlF.1 R.inf, c_extW e R.hi hlF.1 R.c0, c_extW e R.hi hlF.1 R.c1, c_extW e R.hi hlF.1 R.c2, c_extW e R.hi hlF.1 R.c3, ?_, R.nl, fun x hx => (R.cm x hx).extW e hn (fun b q => (R.bn b q).2.2.2), fun b q => ?_, ?_, fun b q => ?_, R.gm, R.le, R.me⟩
  · exact (R.own.extW e (Nat.le_refl _) (Nat.le_refl _) fun q => (R.aF _ ⟨q, rfl⟩).1).ext (Ext.refl _ _) hn
  · obtain ⟨q1, q2, q3, q4⟩ := R.bn b q
    exact ⟨by omega, q2, q3, fun q5 => q4 (hF b q1 q5)⟩
  · exact ⟨fun q => hlF.1 (hF _ hlt q), fun q => hlF.2.1 (hG _ hlt q), hlF.2.2⟩
  · obtain ⟨q1, q2⟩ := R.aF b q
    have := R.alt b q
    exact ⟨fun w => q1 (hF b this w), fun w => q2 (hG b this w)⟩
theorem RgR.disk {S' : Dk.DS} (R : RgR h n lg d F G a N B X) (D : Dk.RkTo n d F G h S' n1 h1) (hn : n ≤ n1) : RgTo n lg d (RgT lg F G a B) h { X with S := S' } n1 h1 := by
  obtain ⟨F', G', D', hF, hG, e⟩ := D
  refine ⟨RgT lg F' G' a B, ⟨F', G', a, N, B, R.diskR D' hF hG e hn, rfl⟩, ?_, e.mono (Nat.le_refl _) (fun b _ q => .inl q)⟩
  rintro b hb (q | q | q)
  · exact .inl (hF b hb q)
  · exact .inr (.inl (hG b hb q))
  · exact .inr (.inr q)
theorem RgR.push {k : Nat} {l : List (List UInt8)} {c : Option Addr} (R : RgR h n lg d F G a N B X) (C : CmR h n B1 c l) (hB1 : ∀ b, B1 b → b < n ∧ b ≠ lg ∧ ¬ inA a b ∧ ¬ F b) (E : ExtX n a h h1) (hn : n ≤ n1)
    (o : OwnSl h1 0 n1 a' 1 (X.L.length + 1) (lgC N ++ [.slice c l.length l.length])) (hw : a' = a ∨ n ≤ sb a') (hk : X.e + k ≤ 4194304) (hk1 : 1 ≤ k) :
    RgR ((h1.app (.sets lg 2 [.slice a' (X.L.length + 1) (X.L.length + 1)])).app (.sets lg 3 [.int .i64 (X.e + k : Nat)])) n1 lg d F G a' (N ++ [(c, l)]) (fun b => B b ∨ B1 b) { X with L := X.L ++ [l], e := X.e + k } := by
  have hlt := R.hi
  have hE : ExtW (fun b => b = lg ∨ inA a b) n h ((h1.app (.sets lg 2 [.slice a' (X.L.length + 1) (X.L.length + 1)])).app (.sets lg 3 [.int .i64 (X.e + k : Nat)])) :=
    ExtW.appSets (.inl (.inl rfl)) (ExtW.appSets (.inl (.inl rfl)) ((extX_extW E).mono (Nat.le_refl _) (fun b _ q => .inr q)))
  obtain ⟨l1, l2, l3⟩ := R.lF
  have hal : a = none ∨ lg ≠ sb a := by
    by_cases z : a = none
    · exact .inl z
    · exact .inr fun w => l3 ⟨z, w⟩
  have hal' : a' = none ∨ sb a' ≠ lg := by
    rcases hw with q | q
    · rw [q]; exact hal.imp id Ne.symm
    · exact .inr (by omega)
  have hin : ∀ b, b < n → inA a' b → inA a b := fun b hb q => by
    rcases hw with w | w
    · rw [w] at q; exact q
    · have := q.2; omega
  have i1 := i_extX E hlt hal R.inf
  have k0 := c_extX E hlt hal R.c0
  have k1 := c_extX E hlt hal R.c1
  have hnl : (N ++ [(c, l)]).map (·.2) = X.L ++ [l] := by rw [List.map_append, R.nl]; rfl
  have hle := R.le
  refine ⟨R.dk.extW hE hn (fun b q z => ?_) (fun b q z => ?_), by omega, info, cell, cell, ?_, cell, ?_, hnl, fun x hx => ?_, fun b q => ?_, ⟨l1, l2, fun q => l3 (hin _ hlt q)⟩, fun b q => ?_, R.gm, ?_, hk⟩
  · rcases z with z | z
    · rw [z] at q; exact l1 q
    · exact (R.aF b z).1 q
  · rcases z with z | z
    · rw [z] at q; exact l2 q
    · exact (R.aF b z).2 q
  · show _ = Value.slice a' (X.L ++ [l]).length (X.L ++ [l]).length
    rw [List.length_append]
    exact cell
  · show OwnSl _ 0 n1 a' 1 (X.L ++ [l]).length (lgC (N ++ [(c, l)]))
    rw [List.length_append, show lgC (N ++ [(c, l)]) = lgC N ++ [.slice c l.length l.length] by simp [lgC]]
    exact (o.setsN hal').setsN hal'
  · rcases List.mem_append.1 hx with q | q
    · refine ((R.cm x q).extW hE hn (fun b w z => ?_)).mono (fun b w => .inl w)
      obtain ⟨-, w1, w2, -⟩ := R.bn b w
      exact z.elim w1 w2
    · simp only [List.mem_cons, List.not_mem_nil, or_false] at q
      subst q
      refine (C.extW hE hn (fun b w z => ?_)).mono (fun b w => .inr w)
      obtain ⟨-, w1, w2, -⟩ := hB1 b w
      exact z.elim w1 w2
  · have : b < n ∧ b ≠ lg ∧ ¬ inA a b ∧ ¬ F b := q.elim (R.bn b) (hB1 b)
    exact ⟨by omega, this.2.1, fun z => this.2.2.1 (hin b this.1 z), this.2.2.2⟩
  · by_cases hb : b < n
    · exact R.aF b (hin b hb q)
    · exact ⟨fun z => hb (R.dk.ltF b z), fun z => hb (R.dk.ltG b z)⟩
  · show (X.L ++ [l]).length ≤ X.e + k
    rw [List.length_append]
    show X.L.length + 1 ≤ _
    omega
end
end Go.Proofs.YtfbddbpbifnhfaaGreatDoor

/- Contracts of wal: the records of the document. -/
namespace Go.Proofs.YtfbddbpbifnhfaaGreatDoor
open Go.Abs Cd

set_option maxHeartbeats 4000000 in
theorem whole_ev (k : Nat) (hk : k ≤ 1073741824) (n : Nat) (h : AH) : Ev Tryz.prog none' 57 #[.int .i64 (k : Nat)] n h (.int .i64 (((k + 511) / 512 * 512 : Nat) : Int)) n h := by
  refine RF.pure rfl fun n' hn => ?_
  refine RF.of Tryz.func57 rfl rfl (Nat.le_of_ble_eq_true rfl) ?_; dsimp only [argEnv]
  repeat' (first | refine stpS ?_ | (refine stp2 ?_ ?_ <;> intro _))
  have e : ((k : Int) + 512 - 1) / 512 * 512 = (((k + 511) / 512 * 512 : Nat) : Int) := by omega
  rw [e]
set_option maxHeartbeats 4000000 in
theorem refRecords_rf (l : List UInt8) (a : Option Addr) (m n : Nat) (h : AH) (S : SlB h n a l) (e : m = l.length) (hm : m ≤ 1073741824) (hn0 : 0 < n) :
    RF Tryz.prog none' 89 #[.slice a m m] n h (fun r n' h' => ∃ a' M, r = .tuple #[.slice a' M.length M.length, .bool (recordsP l).2] ∧ Ext n h h' ∧ Cm h' n n' a' M ∧ M.map (·.2) = (recordsP l).1) := by
  subst e
  refine RF.of Tryz.func89 rfl rfl (Nat.le_of_ble_eq_true rfl) ?_; dsimp only [argEnv]
  have hpi := parseInt_ev l a l.length n h S rfl (by omega)
  have hD : recordsP l = if (pI l).2.2 = 0 ∧ 1 ≤ (pI l).1 ∧ (pI l).1 ≤ 4096 ∧ ∀ i, i < (pI l).1.toNat → (recN (l.drop (pI l).2.1) i).2.2 = 0 then (rowsN (l.drop (pI l).2.1) (pI l).1.toNat, decide (restN (l.drop (pI l).2.1) (pI l).1.toNat = [])) else ([], false) := rfl
  have hk := pI_k l
  obtain ⟨x1, x2, x3, hx⟩ : ∃ x1 x2 x3, pI l = (x1, x2, x3) := ⟨_, _, _, rfl⟩
  rw [hx] at hpi hD hk
  unfold pIV at hpi
  dsimp only at hpi hD hk
  have no : recordsP l = ([], false) → ∀ {n' : Nat} {h' : AH}, n ≤ n' → Ext n h h' → ∃ a' M, Value.tuple #[.slice none 0 0, .bool false] = .tuple #[.slice a' M.length M.length, .bool (recordsP l).2] ∧ Ext n h h' ∧ Cm h' n n' a' M ∧ M.map (·.2) = (recordsP l).1 := fun q n' h' hn E => by
    rw [q]; exact ⟨none, [], rfl, E, OwnRR.nil hn, rfl⟩
  repeat' (first | refine stpS ?_ | (refine stp2 ?_ ?_ <;> intro _))
  refine RS.call1 rfl opds hpi none'W ?_
  by_cases p1 : x3 = 0
  rotate_left
  · have hD : recordsP l = ([], false) := by rw [hD, if_neg]; rintro ⟨z1, -⟩; exact p1 z1
    repeat' (first | refine stpS ?_ | (refine stp2 ?_ ?_ <;> intro _))
    exact no hD (Nat.le_refl _) (Ext.refl _ _)
  by_cases p2 : 1 ≤ x1 ∧ x1 ≤ 4096
  rotate_left
  · have hD : recordsP l = ([], false) := by rw [hD, if_neg]; rintro ⟨z1, z2, z3, -⟩; exact p2 ⟨z2, z3⟩
    repeat' (first | refine stpS ?_ | (refine stp2 ?_ ?_ <;> intro _))
    all_goals (first | exact no hD (Nat.le_refl _) (Ext.refl _ _) | (exfalso; omega))
  obtain ⟨b0, hb0⟩ : ∃ b0, b0 = l.drop x2 := ⟨_, rfl⟩
  rw [← hb0] at hD
  obtain ⟨K, rfl⟩ : ∃ K : Nat, x1 = K := ⟨x1.toNat, by omega⟩
  have hD : recordsP l = if ∀ i, i < K → (recN b0 i).2.2 = 0 then (rowsN b0 K, decide (restN b0 K = [])) else ([], false) := by
    rw [hD]; simp only [p1, p2, true_and, Int.toNat_natCast]
  repeat' (first | refine stpS ?_ | (refine stp2 ?_ ?_ <;> intro _))
  refine RC.loop ?_
  refine RL.inv (α := Nat × Nat × Option Addr × List (Option Addr × List UInt8)) (fun u => [(8, .int .i64 (u.1 : Nat)), (7, .slice u.2.2.1 u.1 u.1), (5, .int .i64 (u.2.1 : Nat)), (4, .int .i64 (K : Nat)), (0, .slice a l.length l.length)])
    (fun u n3 h3 => u.1 ≤ K ∧ n ≤ n3 ∧ Ext n h h3 ∧ u.2.1 ≤ l.length ∧ l.drop u.2.1 = restN b0 u.1 ∧ Cm h3 n n3 u.2.2.1 u.2.2.2 ∧ u.2.2.2.map (·.2) = rowsN b0 u.1 ∧ ∀ i, i < u.1 → (recN b0 i).2.2 = 0)
    (fun u => K - u.1) (0, x2, none, []) envs ⟨by omega, Nat.le_refl _, Ext.refl _ _, hk, hb0.symm, OwnRR.nil (Nat.le_refl _), rfl, fun i hi => by omega⟩ ?_
  rintro ⟨i, at_, s, M⟩ n3 h3 ⟨hi, hn3, E3, hat, hdr, hM, hMs, hok⟩
  dsimp only at hi hn3 E3 hat hdr hM hMs hok ⊢
  have hMl : M.length = i := by have := congrArg List.length hMs; simpa [rowsN] using this
  by_cases hlt : i < K
  · have S3 := S.ext E3 hn3
    have hI3 : SlI h3 a 1 l.length := SlI.of S3 (Ext.refl _ _)
    have Sr : SlB h3 n3 (sub a at_) (restN b0 i) := by
      have := SlB.cut S3 hat (Nat.le_refl _)
      rwa [List.take_length, hdr] at this
    have hrl : (restN b0 i).length = l.length - at_ := by rw [← hdr, List.length_drop]
    have hrc := parseBytes_rf (restN b0 i) (sub a at_) (l.length - at_) n3 h3 Sr hrl.symm (by omega)
    have hcl := recN_len b0 i
    have hb0l : b0.length ≤ l.length := by rw [hb0, List.length_drop]; omega
    have hkk := pB_k (restN b0 i)
    obtain ⟨y, hy⟩ : ∃ y, y = recN b0 i := ⟨_, rfl⟩
    have hy' : pB (restN b0 i) = y := hy.symm
    rw [hy'] at hrc hkk
    rw [← hy] at hcl
    obtain ⟨y1, y2, y3⟩ := y
    dsimp only at hkk hcl
    unfold PBr at hrc
    dsimp only at hrc
    repeat' (first | refine stpS ?_ | (refine stp2 ?_ ?_ <;> intro _))
    simp only [Int.toNat_natCast]
    refine RS.call rfl opds hrc none'W ?_
    rintro r n4 h4 k4 ⟨c4, rfl, E4', O4⟩
    have E4 : Ext n h h4 := E3.trans hn3 E4'
    by_cases he : y3 = 0
    · repeat' (first | refine stpS ?_ | (refine stp2 ?_ ?_ <;> intro _))
      refine RS.append rfl opd opd (OwnSl.nil (h := h4) (n0 := n4) (n := n4) (z := 1) (Nat.le_refl n4)) (O4.slb.src) full_slice (fun b hb => Or.inr (by omega)) (by omega) ?_
      intro c5 n5 h5 k5 O5 X5 w5
      have E5 : Ext n4 h4 h5 := X5.ext (OwnSl.nil (h := h4) (n0 := n4) (n := n4) (z := 1) (Nat.le_refl n4))
      rw [Nat.zero_add, List.nil_append] at O5
      rw [Nat.zero_add]
      have hcn : c5 = none ∨ n3 ≤ sb c5 := O5.at'.imp id (fun q => by omega)
      repeat' (first | refine stpS ?_ | (refine stp2 ?_ ?_ <;> intro _))
      obtain ⟨g8, hg⟩ : ∃ g8, g8 = h5.app (.new n5 ⟨1, 0, true, 1⟩ [.slice c5 y1.length y1.length]) := ⟨_, rfl⟩
      refine RS.heap hg ?_
      have E8 : Ext n5 h5 g8 := by rw [hg]; exact ext
      have hnew : OwnSl g8 n5 (n5 + 1) (some ⟨n5, 0, none⟩) 1 1 [.slice c5 y1.length y1.length] := by rw [hg]; exact OwnSl.new (m := 1) (z := 1) (Nat.le_refl _) rfl rfl
      clear hg
      have E38 : Ext n3 h3 g8 := (E4'.trans k4 E5).trans (by omega) E8
      have kM8 : Cm g8 n (n5 + 1) s M := hM.ext E38 (by omega)
      have hO8 := kM8.out
      rw [cmL_length, hMl] at hO8
      refine RS.append rfl opd opd hO8 hnew.src full_slice (fun b hb => Or.inr (by omega)) (by omega) ?_
      intro s' n9 h9 hle9 hO9 hX9 hwh
      have kM9 : Cm h9 n n9 s' (M ++ [(c5, y1)]) := by
        have := OwnRR.push (e := (c5, y1.length, bytesV y1)) kM8 ((O5.ext E8 (Nat.le_succ _)).mono (by omega)) (Apart.of (n := n3) (hM.out.at'.imp id (·.2)) hcn)
          (fun j f hf => (Apart.of (n := n3) ((hM.inn j f hf).at'.imp id (·.2)) hcn).symm) hX9 hle9 (by rw [cmL_length, hMl]; exact hO9) hwh
        unfold Cm
        rw [cmL_snoc]
        exact this
      have E9 : Ext n h h9 := (E3.trans hn3 E38).trans (by omega) (hX9.ext hO8)
      repeat' (first | refine stpS ?_ | (refine stp2 ?_ ?_ <;> intro _))
      refine nextC.normal ⟨(i + 1, at_ + y2, s', M ++ [(c5, y1)]), by dsimp only; omega, envs, by dsimp only; omega, by omega, E9, by dsimp only; omega, ?_, kM9, ?_, fun j hj => ?_⟩
      · show l.drop (at_ + y2) = (restN b0 i).drop (pB (restN b0 i)).2.1
        rw [← List.drop_drop, hdr, hy']
      · rw [List.map_append, hMs, rowsN_succ, ← hy]; rfl
      · by_cases q : j = i
        · subst q; rw [← hy]; exact he
        · have hj : j < i + 1 := hj
          exact hok j (by omega)
    · have hD : recordsP l = ([], false) := by rw [hD, if_neg]; intro z; exact he (by have := z i hlt; rw [← hy] at this; exact this)
      repeat' (first | refine stpS ?_ | (refine stp2 ?_ ?_ <;> intro _))
      exact no hD (by omega) E4
  · obtain rfl : i = K := by omega
    have hD : recordsP l = (rowsN b0 i, decide (restN b0 i = [])) := by rw [hD, if_pos hok]
    have hlen : (restN b0 i).length = l.length - at_ := by rw [← hdr, List.length_drop]
    by_cases he : at_ = l.length
    · have hnil : restN b0 i = [] := List.eq_nil_of_length_eq_zero (by omega)
      repeat' (first | refine stpS ?_ | (refine stp2 ?_ ?_ <;> intro _))
      rw [hD, hnil]
      exact ⟨s, M, by rw [hMl]; rfl, E3, hM, hMs⟩
    · have hnn : ¬ restN b0 i = [] := fun q => by rw [q] at hlen; simp at hlen; omega
      repeat' (first | refine stpS ?_ | (refine stp2 ?_ ?_ <;> intro _))
      rw [hD, decide_eq_false hnn]
      exact ⟨s, M, by rw [hMl], E3, hM, hMs⟩
end Go.Proofs.YtfbddbpbifnhfaaGreatDoor

/- Contracts of wal: the next commit in the file, the document's. -/
namespace Go.Proofs.YtfbddbpbifnhfaaGreatDoor
open Go.Abs Cd

theorem zerosL (k : Nat) : (zeros k).length = k := List.length_replicate
theorem fill_iff (r : List UInt8) (k : Nat) (h : (k + 511) / 512 * 512 ≤ r.length) : r.take ((k + 511) / 512 * 512) = fillB (r.take k) ↔ ∀ j, k ≤ j → j < (k + 511) / 512 * 512 → r.getD j 0 = 0 := by
  have hk : k ≤ (k + 511) / 512 * 512 := by omega
  have hl : (r.take k).length = k := by rw [List.length_take]; omega
  have hf : fillB (r.take k) = r.take k ++ zeros ((k + 511) / 512 * 512 - k) := by unfold fillB; rw [hl]
  rw [hf]
  constructor
  · intro q j h1 h2
    have h3 : (r.take ((k + 511) / 512 * 512)).getD j 0 = (r.take k ++ zeros ((k + 511) / 512 * 512 - k)).getD j 0 := by rw [q]
    have h4 : (r.take ((k + 511) / 512 * 512)).getD j 0 = r.getD j 0 := by simp [List.getD, List.getElem?_take, h2]
    rw [← h4, h3, List.getD_eq_getElem?_getD, List.getElem?_append_right (by omega), hl]
    unfold zeros
    rw [List.getElem?_replicate]
    split <;> rfl
  · intro q
    apply List.ext_getElem
    · rw [List.length_take, List.length_append, hl, zerosL]; omega
    · intro j h1 h2
      rw [List.length_take] at h1
      rw [List.getElem_take]
      by_cases z : j < k
      · rw [List.getElem_append_left (by omega), List.getElem_take]
      · rw [List.getElem_append_right (by omega)]
        have := q j (by omega) (by omega)
        rw [List.getD_eq_getElem?_getD, List.getElem?_eq_getElem (by omega)] at this
        simp only [zeros, List.getElem_replicate]
        exact this
section
variable {h : AH} {n lg d : Nat} {F G B : Nat → Prop} {a : Option Addr} {N : List CmA} {X : LS}
def OnTo (lg d : Nat) (F G B : Nat → Prop) (a : Option Addr) (X : LS) (b : List UInt8) (n : Nat) (h : AH) (r : Value) (n' : Nat) (h' : AH) : Prop :=
  r = .bool (X.next b).isSome ∧ ∃ a' N' B', RgR h' n' lg d F G a' N' B' ((X.next b).getD X) ∧ (∀ x, x < n → inA a' x → inA a x) ∧ (∀ x, x < n → B' x → B x) ∧ ExtW (fun x => x = lg ∨ inA a x) n h h'
set_option maxHeartbeats 4000000 in
theorem one_rf (R : RgR h n lg d F G a N B X) (b : List UInt8) (c : Option Addr) (S : SlB h n c b) (hc : c ≠ none → sb c ≠ lg ∧ ¬ inA a (sb c)) (hb : b.length ≤ 4194304) (hn0 : 0 < n) :
    RF Tryz.prog (fun x => x = lg ∨ inA a x) 71 #[.pointer (some ⟨lg, 0, none⟩), .slice c b.length b.length] n h (OnTo lg d F G B a X b n h) := by
  refine RF.of Tryz.func71 rfl rfl (Nat.le_of_ble_eq_true rfl) ?_; dsimp only [argEnv]
  have hlt := R.hi
  have c1 := R.c1
  have c2 := R.c2
  have c3 := R.c3
  have me := R.me
  have le := R.le
  have no : X.next b = none → ∀ {n' : Nat} {h' : AH}, n ≤ n' → Ext n h h' → OnTo lg d F G B a X b n h (.bool false) n' h' := fun q n' h' hn E => by
    unfold OnTo
    rw [q]
    exact ⟨rfl, a, N, B, R.extW (ExtW.of E (Nat.le_refl _) : ExtW (fun _ => False) n h h') hn (fun _ _ q => q), fun x _ q => q, fun x _ q => q, ExtW.of E (Nat.le_refl _)⟩
  have hD : X.next b = (nextP X.gen X.L.length X.e b).map fun x => { X with L := X.L ++ [x.1], e := X.e + x.2 } := rfl
  unfold nextP at hD
  by_cases p1 : b.length < X.e + 512
  · rw [if_pos p1] at hD
    repeat' (first | refine stpS ?_ | (refine stp2 ?_ ?_ <;> intro _))
    exact no hD (Nat.le_refl _) (Ext.refl _ _)
  rw [if_neg p1] at hD
  have hdl : (b.drop X.e).length = b.length - X.e := List.length_drop ..
  have hS2 : SlB h n (sub c X.e) ((b.drop X.e).take 512) := by
    have := SlB.cut S (i := X.e) (u := X.e + 512) (by omega) (by omega)
    rwa [List.drop_take, Nat.add_sub_cancel_left] at this
  have hrl : ((b.drop X.e).drop 512).length = b.length - (X.e + 512) := by rw [List.length_drop, hdl]; omega
  have htl : ((b.drop X.e).take 512).length = 512 := by rw [List.length_take]; omega
  have hI0 : SlI h c 1 b.length := SlI.of S (Ext.refl _ _)
  have hcn : sb c < n := SlR.lt S (by omega)
  have hmk := refMarked_ev X.gen (X.L.length : Nat) ((b.drop X.e).take 512) (sub c X.e) 512 n (h.below n) (hS2.ext (AH.below_ext _ _) (Nat.le_refl _)) htl.symm (by omega)
  have hok := @mkd_ok X.gen (X.L.length : Nat) ((b.drop X.e).take 512)
  obtain ⟨r, hr⟩ : ∃ r, r = (b.drop X.e).drop 512 := ⟨_, rfl⟩
  obtain ⟨x, hx⟩ : ∃ x, x = mkd X.gen (X.L.length : Nat) ((b.drop X.e).take 512) := ⟨_, rfl⟩
  rw [← hr] at hrl hD
  rw [← hx] at hok hD hmk
  clear hx
  obtain ⟨m, s, ok⟩ := x
  dsimp only [mkV] at hok hD hmk
  repeat' (first | refine stpS ?_ | (refine stp2 ?_ ?_ <;> intro _))
  repeat' (first | refine stp ?_ | (refine stp2 ?_ ?_ <;> intro _))
  have en : ((X.e : Int) + 512).toNat - X.e = 512 := by omega
  rw [Int.toNat_natCast, en]
  refine RD.callP n rfl opds hmk (Nat.le_refl _) cfc ?_
  repeat' (first | refine stp ?_ | (refine stp2 ?_ ?_ <;> intro _))
  cases ok with
  | false =>
    rw [if_neg (by rintro ⟨q, -⟩; cases q)] at hD
    repeat' (first | refine stpS ?_ | (refine stp2 ?_ ?_ <;> intro _))
    exact no hD (Nat.le_refl _) (Ext.refl _ _)
  | true =>
  obtain ⟨m1, m2, s1, s2, -, -, -⟩ := hok rfl
  obtain ⟨k, rfl⟩ : ∃ k : Nat, m = k := ⟨m.toNat, by omega⟩
  rw [Int.toNat_natCast] at hD
  have hwh := whole_ev k (by omega)
  obtain ⟨W, hW⟩ : ∃ W, W = (k + 511) / 512 * 512 := ⟨_, rfl⟩
  rw [← hW] at hwh
  have hkW : k ≤ W := by omega
  obtain ⟨fr, hfr⟩ : ∃ fr, fr = X.e + 512 := ⟨_, rfl⟩
  have hfi : (X.e : Int) + 512 = (fr : Nat) := by omega
  rw [hfi]
  repeat' (first | refine stpS ?_ | (refine stp2 ?_ ?_ <;> intro _))
  refine RS.call1 rfl opds (hwh n h) none'W ?_
  by_cases pw : W ≤ r.length
  rotate_left
  · rw [if_neg (by
      rintro ⟨-, q2, -, -, q3, -⟩
      rw [fillB_length, List.length_take] at q3
      have : min k r.length = k := by omega
      rw [this] at q3; omega)] at hD
    repeat' (first | refine stpS ?_ | (refine stp2 ?_ ?_ <;> intro _))
    exact no hD (Nat.le_refl _) (Ext.refl _ _)
  obtain ⟨cr, hcr⟩ : ∃ cr, cr = sub c fr := ⟨_, rfl⟩
  have hrb : r = b.drop fr := by rw [hr, List.drop_drop, hfr]
  have hS3 : SlB h n cr r := by
    have := SlB.cut S (i := fr) (u := b.length) (by omega) (Nat.le_refl _)
    rwa [List.take_length, ← hrb, ← hcr] at this
  obtain ⟨l, hl⟩ : ∃ l, l = r.take k := ⟨_, rfl⟩
  have hkl : l.length = k := by rw [hl, List.length_take]; omega
  have hSd : SlB h n cr l := by rw [hl]; exact SlB.take hS3 (by omega)
  have hfl : (fillB l).length = W := by rw [fillB_length, hkl]; exact hW.symm
  have hfill := fill_iff r k (by omega)
  rw [← hW, ← hl] at hfill
  rw [← hl] at hD
  have hD : X.next b = if (recordsP l).2 = true ∧ (crc l : Nat) = s ∧ r.take W = fillB l then some { X with L := X.L ++ [(recordsP l).1], e := X.e + (512 + W) } else none := by
    rw [hD, hfl]
    by_cases q : (recordsP l).2 = true ∧ (crc l : Nat) = s ∧ r.take W = fillB l
    · rw [if_pos q, if_pos ⟨rfl, by omega, q.1, q.2.1, pw, q.2.2⟩]; rfl
    · rw [if_neg q, if_neg (fun z => q ⟨z.2.2.1, z.2.2.2.1, z.2.2.2.2.2⟩)]; rfl
  have hA : SlA c b.length := SlR.sla S
  have hrj : ∀ j, r.getD j 0 = b.getD (fr + j) 0 := fun j => by
    rw [hrb, List.getD_eq_getElem?_getD, List.getD_eq_getElem?_getD, List.getElem?_drop]
  repeat' (first | refine stpS ?_ | (refine stp2 ?_ ?_ <;> intro _))
  have e1 : ((fr : Int) + (k : Nat)).toNat - ((fr : Nat) : Int).toNat = k := by omega
  rw [e1, Int.toNat_natCast, ← hcr]
  have e2 : ((fr : Int) + (k : Nat)) = ((fr + k : Nat) : Int) := by omega
  rw [e2]
  refine RC.loop ?_
  refine RL.inv (α := Nat) (fun j => [(10, .int .i64 (j : Nat)), (9, .slice cr k k), (8, .int .i64 (fr : Nat)), (5, .int .i64 (k : Nat)), (6, .int .u32 s), (1, .slice c b.length b.length), (0, .pointer (some ⟨lg, 0, none⟩))])
    (fun j n1 h1 => fr + k ≤ j ∧ j ≤ fr + W ∧ n = n1 ∧ h = h1 ∧ ∀ i, k ≤ i → fr + i < j → r.getD i 0 = 0) (fun j => fr + W - j) (fr + k) envs ⟨Nat.le_refl _, by omega, rfl, rfl, fun i h1 h2 => by omega⟩ ?_
  rintro j n1 h1 ⟨hj1, hj2, rfl, rfl, hz⟩
  by_cases hlt2 : j < fr + W
  · repeat' (first | refine stpS ?_ | (refine stp2 ?_ ?_ <;> intro _))
    refine RS.call1 rfl opds (hwh n h) none'W ?_
    have hbz : (b.getD ((j : Nat) : Int).toNat 0).toNat = (r.getD (j - fr) 0).toNat := by rw [Int.toNat_natCast, hrj, show fr + (j - fr) = j by omega]
    by_cases hq : r.getD (j - fr) 0 = 0
    · have hq0 : (b.getD ((j : Nat) : Int).toNat 0).toNat = 0 := by rw [hbz, hq]; rfl
      repeat' (first | refine stpS ?_ | (refine stp2 ?_ ?_ <;> intro _))
      refine nextC.normal ⟨j + 1, by omega, envs, by omega, by omega, rfl, rfl, fun i h1 h2 => ?_⟩
      by_cases w : fr + i = j
      · rw [← w, Nat.add_sub_cancel_left] at hq; exact hq
      · exact hz i h1 (by omega)
    · have hq0 : (b.getD ((j : Nat) : Int).toNat 0).toNat ≠ 0 := fun z => hq (UInt8.toNat_inj.1 (by rw [← hbz, z]; rfl))
      rw [if_neg (fun z => hq (hfill.1 z.2.2 (j - fr) (by omega) (by omega)))] at hD
      repeat' (first | refine stpS ?_ | (refine stp2 ?_ ?_ <;> intro _))
      exact no hD (Nat.le_refl _) (Ext.refl _ _)
  obtain rfl : j = fr + W := by omega
  have p5 : ∀ j, k ≤ j → j < W → r.getD j 0 = 0 := fun j h1 h2 => hz j h1 (by omega)
  have hrec := refRecords_rf l cr k n h hSd hkl.symm (by omega) hn0
  repeat' (first | refine stpS ?_ | (refine stp2 ?_ ?_ <;> intro _))
  refine RS.call1 rfl opds (hwh n h) none'W ?_
  repeat' (first | refine stpS ?_ | (refine stp2 ?_ ?_ <;> intro _))
  refine RS.call rfl opds hrec none'W ?_
  rintro v n2 h2 k2 ⟨a2, M, rfl, E2, C2, hM⟩
  by_cases p3 : (recordsP l).2 = true
  rotate_left
  · rw [if_neg (fun z => p3 z.1)] at hD
    have p3 : (recordsP l).2 = false := by simpa using p3
    rw [p3]
    repeat' (first | refine stpS ?_ | (refine stp2 ?_ ?_ <;> intro _))
    exact no hD k2 E2
  rw [p3]
  have hcl := crc_lt l
  have hsum := refSum_ev l cr k n2 h2 (hSd.ext E2 k2) hkl.symm (by omega)
  repeat' (first | refine stpS ?_ | (refine stp2 ?_ ?_ <;> intro _))
  refine RS.call1 rfl opds hsum none'W ?_
  by_cases p4 : ((crc l : Nat) : Int) = s
  rotate_left
  · rw [if_neg (fun z => p4 z.2.1)] at hD
    repeat' (first | refine stpS ?_ | (refine stp2 ?_ ?_ <;> intro _))
    exact no hD k2 E2
  rw [if_pos ⟨p3, p4, hfill.2 p5⟩] at hD
  have c2' := c_ext E2 hlt c2
  have c3' := c_ext E2 hlt c3
  have hlt2' : lg < n2 := by omega
  repeat' (first | refine stpS ?_ | (refine stp2 ?_ ?_ <;> intro _))
  obtain ⟨g8, hg⟩ : ∃ g8, g8 = h2.app (.new n2 ⟨1, 0, true, 1⟩ [.slice a2 M.length M.length]) := ⟨_, rfl⟩
  refine RS.heap hg ?_
  have E8 : Ext n2 h2 g8 := by rw [hg]; exact ext
  have hnew : OwnSl g8 n2 (n2 + 1) (some ⟨n2, 0, none⟩) 1 1 [.slice a2 M.length M.length] := by rw [hg]; exact OwnSl.new (m := 1) (z := 1) (Nat.le_refl _) rfl rfl
  clear hg
  have E8' : Ext n h g8 := E2.trans (by omega) E8
  have R8 : RgR g8 (n2 + 1) lg d F G a N B X := R.extW (ExtW.of E8' (Nat.le_refl _) : ExtW (fun _ => False) n h g8) (by omega) (fun _ _ q => q)
  refine RS.appendT rfl opd opd R8.own hnew.src full_slice (fun q => .inl (.inr ⟨q, rfl⟩)) (by omega) ?_
  intro a' n9 h9 hle9 hO9 hX9 hwhh
  have hlM : ∀ x : Value, x = .slice a2 M.length M.length → x = .slice a2 (M.map (·.2)).length (M.map (·.2)).length := fun x q => by rw [q, List.length_map]
  have hO9' := hO9
  rw [hlM _ rfl] at hO9'
  have hal : a = none ∨ lg ≠ sb a := by
    by_cases z : a = none
    · exact .inl z
    · exact .inr fun w => R.lF.2.2 ⟨z, w⟩
  have i9 := i_extX hX9 (by omega) hal R8.inf
  have c39 := c_extX hX9 (by omega) hal R8.c3
  have hC8 : CmR g8 (n2 + 1) (fun b => n ≤ b ∧ b < n2) a2 (M.map (·.2)) := C2.cmr.extW (ExtW.of E8 (Nat.le_refl _) : ExtW (fun _ => False) n2 h2 g8) (by omega) (fun _ _ q => q)
  have hbl : X.e + (512 + W) ≤ 4194304 := by omega
  have hP := RgR.push R8 hC8 (fun b q => ⟨by omega, by omega, fun z => by have := R.alt b z; omega, fun z => by have := R.dk.ltF b z; omega⟩) hX9 hle9 hO9' (hwhh.imp id (by omega)) hbl (by omega)
  have hN : ((fr : Int) + (W : Nat)) = ((X.e + (512 + W) : Nat) : Int) := by omega
  have hEW : ExtW (fun x => x = lg ∨ inA a x) n h h9 := (ExtW.of E8' (Nat.le_refl _)).trans ((extX_extW hX9).mono (Nat.le_refl _) (fun b _ q => .inr q)) (by omega) (fun _ _ q => q)
  repeat' (first | refine stpS ?_ | (refine stp2 ?_ ?_ <;> intro _))
  refine RS.call1 rfl opds (hwh _ _) none'W ?_
  repeat' (first | refine stpS ?_ | (refine stp2 ?_ ?_ <;> intro _))
  rw [hN]
  unfold OnTo
  rw [hD, ← hM]
  refine ⟨rfl, a', N ++ [(a2, M.map (·.2))], _, hP, fun x hx q => ?_, fun x hx q => ?_, ExtW.appSets (.inl (.inl rfl)) (ExtW.appSets (.inl (.inl rfl)) hEW)⟩
  · rcases hwhh with w | w
    · rw [w] at q; exact q
    · have := q.2; omega
  · rcases q with q | q
    · exact q
    · omega
end
end Go.Proofs.YtfbddbpbifnhfaaGreatDoor

/- Contracts of wal: the next commit in the file. -/
namespace Go.Proofs.YtfbddbpbifnhfaaGreatDoor
open Go.Abs Cd

section
variable {h : AH} {n lg d : Nat} {F G B : Nat → Prop} {a : Option Addr} {N : List CmA} {X : LS}
def NxTo (lg d : Nat) (F G B : Nat → Prop) (a : Option Addr) (X : LS) (b : List UInt8) (n : Nat) (h : AH) (r : Value) (n' : Nat) (h' : AH) : Prop :=
  r = .bool (X.next b).isSome ∧ ∃ a' N' B', LgR h' n' lg d F G a' N' B' ((X.next b).getD X) ∧ (∀ x, x < n → inA a' x → inA a x) ∧ (∀ x, x < n → B' x → B x) ∧ ExtW (fun x => x = lg ∨ inA a x) n h h'
set_option maxHeartbeats 4000000 in
theorem next_rf (R : LgR h n lg d F G a N B X) (b : List UInt8) (c : Option Addr) (S : SlB h n c b) (hc : c ≠ none → sb c ≠ lg ∧ ¬ inA a (sb c)) (hb : b.length ≤ 4194304) :
    RF Tryz.prog (fun x => x = lg ∨ inA a x) 42 #[.pointer (some ⟨lg, 0, none⟩), .slice c b.length b.length] n h (NxTo lg d F G B a X b n h) := by
  refine RF.of Tryz.func42 rfl rfl (Nat.le_of_ble_eq_true rfl) ?_; dsimp only [argEnv]
  have hlt := R.hi
  have c1 := R.c1
  have c2 := R.c2
  have c3 := R.c3
  have me := R.me
  have le := R.le
  have no : X.next b = none → ∀ {n' : Nat} {h' : AH}, n ≤ n' → Ext n h h' → NxTo lg d F G B a X b n h (.bool false) n' h' := fun q n' h' hn E => by
    unfold NxTo
    rw [q]
    exact ⟨rfl, a, N, B, R.extW (ExtW.of E (Nat.le_refl _) : ExtW (fun _ => False) n h h') hn (fun _ _ q => q), fun x _ q => q, fun x _ q => q, ExtW.of E (Nat.le_refl _)⟩
  have hD : X.next b = (nextP X.gen X.L.length X.e b).map fun x => { X with L := X.L ++ [x.1], e := X.e + x.2 } := rfl
  unfold nextP at hD
  by_cases p1 : b.length < X.e + 512
  · rw [if_pos p1] at hD
    repeat' (first | refine stpS ?_ | (refine stp2 ?_ ?_ <;> intro _))
    exact no hD (Nat.le_refl _) (Ext.refl _ _)
  rw [if_neg p1] at hD
  have hS1 : SlB h n (sub c X.e) (b.drop X.e) := by
    have := SlB.cut S (i := X.e) (u := b.length) (by omega) (Nat.le_refl _)
    rwa [List.take_length] at this
  have hS2 : SlB h n (sub c X.e) ((b.drop X.e).take 512) := SlB.take hS1 (u := 512) (by rw [List.length_drop]; omega)
  have hdl : (b.drop X.e).length = b.length - X.e := List.length_drop ..
  have hS3 : SlB h n (sub (sub c X.e) 512) ((b.drop X.e).drop 512) := by
    have := SlB.cut hS1 (i := 512) (u := (b.drop X.e).length) (by omega) (Nat.le_refl _)
    rwa [List.take_length] at this
  have hrl : ((b.drop X.e).drop 512).length = b.length - X.e - 512 := by rw [List.length_drop, hdl]
  have htl : ((b.drop X.e).take 512).length = 512 := by rw [List.length_take]; omega
  have hI1 : SlI h (sub c X.e) 1 (b.length - X.e) := by
    have := SlI.of hS1 (Ext.refl _ _)
    rwa [hdl] at this
  have hcn : sb (sub c X.e) < n := SlR.lt hS1 (by omega)
  have hmk := marked_ev X.gen (X.L.length : Nat) ((b.drop X.e).take 512) (sub c X.e) 512 n (h.below n) (hS2.ext (AH.below_ext _ _) (Nat.le_refl _)) htl.symm (by omega)
  have hok := @mkd_ok X.gen (X.L.length : Nat) ((b.drop X.e).take 512)
  have hno := @mkd_no X.gen (X.L.length : Nat) ((b.drop X.e).take 512)
  obtain ⟨r, hr⟩ : ∃ r, r = (b.drop X.e).drop 512 := ⟨_, rfl⟩
  obtain ⟨x, hx⟩ : ∃ x, x = mkd X.gen (X.L.length : Nat) ((b.drop X.e).take 512) := ⟨_, rfl⟩
  rw [← hr] at hS3 hrl hD
  rw [← hx] at hok hno hD hmk
  clear hx
  obtain ⟨m, s, ok⟩ := x
  dsimp only [mkV] at hok hno hD hmk
  obtain ⟨cr, hcr⟩ : ∃ cr, cr = sub (sub c X.e) 512 := ⟨_, rfl⟩
  have hst : (512 : Int).toNat = 512 := rfl
  rw [← hcr] at hS3
  repeat' (first | refine stpS ?_ | (refine stp2 ?_ ?_ <;> intro _))
  rw [Int.toNat_natCast]
  repeat' (first | refine stp ?_ | (refine stp2 ?_ ?_ <;> intro _))
  rw [hst]
  refine RD.callP n rfl opds hmk (Nat.le_refl _) cfc ?_
  repeat' (first | refine stp ?_ | (refine stp2 ?_ ?_ <;> intro _))
  rw [hst, ← hcr, ← hrl]
  cases ok with
  | false =>
    rw [if_neg (by rintro ⟨q, -⟩; cases q)] at hD
    repeat' (first | refine stpS ?_ | (refine stp2 ?_ ?_ <;> intro _))
    exact no hD (Nat.le_refl _) (Ext.refl _ _)
  | true =>
  obtain ⟨m1, m2, s1, s2, -, -, -⟩ := hok rfl
  obtain ⟨k, rfl⟩ : ∃ k : Nat, m = k := ⟨m.toNat, by omega⟩
  rw [Int.toNat_natCast] at hD
  by_cases p2 : k ≤ r.length
  rotate_left
  · rw [if_neg (by rintro ⟨-, q, -⟩; omega)] at hD
    repeat' (first | refine stpS ?_ | (refine stp2 ?_ ?_ <;> intro _))
    exact no hD (Nat.le_refl _) (Ext.refl _ _)
  obtain ⟨l, hl⟩ : ∃ l, l = r.take k := ⟨_, rfl⟩
  have hkl : k = l.length := by rw [hl, List.length_take]; omega
  have hSd : SlB h n cr l := by rw [hl]; exact SlB.take hS3 p2
  have hlb : l.length ≤ 262144 := by omega
  rw [← hl] at hD
  clear hl
  subst hkl
  have hD : X.next b = if (recordsP l).2 = true ∧ (crc l : Nat) = s ∧ ((fillB l).length ≤ r.length ∧ r.take (fillB l).length = fillB l) then some { X with L := X.L ++ [(recordsP l).1], e := X.e + (512 + (fillB l).length) } else none := by
    rw [hD]
    by_cases q : (recordsP l).2 = true ∧ (crc l : Nat) = s ∧ ((fillB l).length ≤ r.length ∧ r.take (fillB l).length = fillB l)
    · rw [if_pos q, if_pos ⟨rfl, by omega, q⟩]; rfl
    · rw [if_neg q, if_neg (fun z => q z.2.2)]; rfl
  repeat' (first | refine stpS ?_ | (refine stp2 ?_ ?_ <;> intro _))
  simp only [Int.toNat_natCast]
  refine RS.call rfl opds (filled_rf l cr l.length n h hSd rfl (by omega)) none'W ?_
  rintro v n1 h1 k1 ⟨af, rfl, E1, O1⟩
  repeat' (first | refine stpS ?_ | (refine stp2 ?_ ?_ <;> intro _))
  simp only [Int.toNat_natCast]
  refine RS.call rfl opds (records_rf l cr l.length n1 h1 (hSd.ext E1 k1) rfl (by omega)) none'W ?_
  rintro v n2 h2 k2 ⟨a2, M, rfl, E2, C2, hM⟩
  have E2' : Ext n h h2 := E1.trans k1 E2
  by_cases p3 : (recordsP l).2 = true
  rotate_left
  · rw [if_neg (fun z => p3 z.1)] at hD
    have p3 : (recordsP l).2 = false := by simpa using p3
    rw [p3]
    repeat' (first | refine stpS ?_ | (refine stp2 ?_ ?_ <;> intro _))
    exact no hD (by omega) E2'
  rw [p3]
  repeat' (first | refine stpS ?_ | (refine stp2 ?_ ?_ <;> intro _))
  simp only [Int.toNat_natCast]
  refine RS.gen (fun g => SlQ g (n2 + 1) (some ⟨n2, 0, none⟩) (fun j => (([(cr, l)] : List (Option Addr × List UInt8)).getD j (none, [])).1) [l] ∧ Ext n2 h2 g) ⟨slq_new [(cr, l)] (fun x hx => by simp only [List.mem_singleton] at hx; subst hx; exact hSd.ext E2' (by omega)), ext⟩ ?_
  rintro g ⟨hQ, E3⟩
  have hsum := sum_ev [l] _ _ 1 (n2 + 1) g hQ rfl (by omega) (by simp; omega)
  rw [show [l].flatten = l by simp] at hsum
  refine RS.call1 rfl opds hsum none'W ?_
  have hcl := crc_lt l
  have E3' : Ext n h g := E2'.trans (by omega) E3
  by_cases p4 : ((crc l : Nat) : Int) = s
  rotate_left
  · rw [if_neg (fun z => p4 z.2.1)] at hD
    repeat' (first | refine stpS ?_ | (refine stp2 ?_ ?_ <;> intro _))
    exact no hD (by omega) E3'
  have hpf := hasPrefix_ev r (fillB l) cr af r.length (fillB l).length (n2 + 1) g (hS3.ext E3' (by omega)) ((O1.slb.ext E2 k2).ext E3 (by omega)) rfl rfl
  by_cases p5 : (fillB l).length ≤ r.length ∧ r.take (fillB l).length = fillB l
  rotate_left
  · rw [if_neg (fun z => p5 z.2.2)] at hD
    rw [decide_eq_false p5] at hpf
    repeat' (first | refine stpS ?_ | (refine stp2 ?_ ?_ <;> intro _))
    refine RS.call1 rfl opds hpf none'W ?_
    repeat' (first | refine stpS ?_ | (refine stp2 ?_ ?_ <;> intro _))
    exact no hD (by omega) E3'
  rw [decide_eq_true p5] at hpf
  rw [if_pos ⟨p3, p4, p5⟩] at hD
  have c0' := c_ext E3' hlt c2
  have c3' := c_ext E3' hlt c3
  repeat' (first | refine stpS ?_ | (refine stp2 ?_ ?_ <;> intro _))
  refine RS.call1 rfl opds hpf none'W ?_
  repeat' (first | refine stpS ?_ | (refine stp2 ?_ ?_ <;> intro _))
  obtain ⟨g8, hg⟩ : ∃ g8, g8 = g.app (.new (n2 + 1) ⟨1, 0, true, 1⟩ [.slice a2 M.length M.length]) := ⟨_, rfl⟩
  refine RS.heap hg ?_
  have E8 : Ext (n2 + 1) g g8 := by rw [hg]; exact ext
  have hnew : OwnSl g8 (n2 + 1) (n2 + 1 + 1) (some ⟨n2 + 1, 0, none⟩) 1 1 [.slice a2 M.length M.length] := by rw [hg]; exact OwnSl.new (m := 1) (z := 1) (Nat.le_refl _) rfl rfl
  clear hg
  have E8' : Ext n h g8 := E3'.trans (by omega) E8
  have R8 : LgR g8 (n2 + 1 + 1) lg d F G a N B X := R.extW (ExtW.of E8' (Nat.le_refl _) : ExtW (fun _ => False) n h g8) (by omega) (fun _ _ q => q)
  refine RS.appendT rfl opd opd R8.own hnew.src full_slice (fun q => .inl (.inr ⟨q, rfl⟩)) (by omega) ?_
  intro a' n9 h9 hle9 hO9 hX9 hwh
  have hlM : ∀ x : Value, x = .slice a2 M.length M.length → x = .slice a2 (M.map (·.2)).length (M.map (·.2)).length := fun x q => by rw [q, List.length_map]
  have hO9' := hO9
  rw [hlM _ rfl] at hO9'
  have hal : a = none ∨ lg ≠ sb a := by
    by_cases z : a = none
    · exact .inl z
    · exact .inr fun w => R.lF.2.2 ⟨z, w⟩
  have i9 := i_extX hX9 (by omega) hal R8.inf
  have c39 := c_extX hX9 (by omega) hal R8.c3
  have hC8 : CmR g8 (n2 + 1 + 1) (fun b => n1 ≤ b ∧ b < n2) a2 (M.map (·.2)) := C2.cmr.extW (ExtW.of (E3.trans (by omega) E8) (Nat.le_refl _) : ExtW (fun _ => False) n2 h2 g8) (by omega) (fun _ _ q => q)
  have hbl : X.e + (512 + (fillB l).length) ≤ 4194304 := by omega
  have hP := LgR.push R8 hC8 (fun b q => ⟨by omega, by omega, fun z => by have := R.alt b z; omega, fun z => by have := R.dk.ltF b z; omega⟩) hX9 hle9 hO9' (hwh.imp id (by omega)) hbl (by omega)
  have hN : ((X.e : Int) + (512 + ((fillB l).length : Nat))) = ((X.e + (512 + (fillB l).length) : Nat) : Int) := by omega
  have hEW : ExtW (fun x => x = lg ∨ inA a x) n h h9 := (ExtW.of E8' (Nat.le_refl _)).trans ((extX_extW hX9).mono (Nat.le_refl _) (fun b _ q => .inr q)) (by omega) (fun _ _ q => q)
  repeat' (first | refine stpS ?_ | (refine stp2 ?_ ?_ <;> intro _))
  rw [hN]
  unfold NxTo
  rw [hD, ← hM]
  refine ⟨rfl, a', N ++ [(a2, M.map (·.2))], _, hP, fun x hx q => ?_, fun x hx q => ?_, ExtW.appSets (.inl (.inl rfl)) (ExtW.appSets (.inl (.inl rfl)) hEW)⟩
  · rcases hwh with w | w
    · rw [w] at q; exact q
    · have := q.2; omega
  · rcases q with q | q
    · exact q
    · omega
end
end Go.Proofs.YtfbddbpbifnhfaaGreatDoor

/- Contracts of wal: a log is opened. -/
namespace Go.Proofs.YtfbddbpbifnhfaaGreatDoor
open Go.Abs Cd

theorem next_facts {X Y : LS} {b : List UInt8} (h : X.next b = some Y) : X.e + 512 ≤ Y.e ∧ Y.e ≤ b.length ∧ Y.S = X.S ∧ Y.gen = X.gen ∧ ∃ l, Y.L = X.L ++ [l] := by
  unfold LS.next at h
  obtain ⟨x, h1, h2⟩ := Option.map_eq_some_iff.1 h
  unfold nextP at h1
  split at h1
  · cases h1
  rename_i q
  simp only at h1
  split at h1
  · rename_i q2
    obtain ⟨-, -, -, -, q3, -⟩ := q2
    rw [List.length_drop, List.length_drop] at q3
    cases h1
    subst h2
    refine ⟨by show X.e + 512 ≤ X.e + (512 + _); omega, ?_, rfl, rfl, _, rfl⟩
    show X.e + (512 + _) ≤ _
    omega
  · cases h1
def LS.scan : Nat → LS → List UInt8 → LS
  | 0, X, _ => X
  | k + 1, X, b => match X.next b with
    | none => X
    | some Y => LS.scan k Y b
theorem scan_none {X : LS} {b : List UInt8} (h : X.next b = none) (k : Nat) : X.scan k b = X := by
  cases k with
  | zero => rfl
  | succ k => unfold LS.scan; rw [h]
theorem scan_some {X Y : LS} {b : List UInt8} (h : X.next b = some Y) (k : Nat) : X.scan (k + 1) b = Y.scan k b := by
  rw [LS.scan, h]
theorem scan_fuel (b : List UInt8) : ∀ (k k' : Nat) (X : LS), b.length - X.e ≤ k → b.length - X.e ≤ k' → X.scan k b = X.scan k' b := by
  intro k
  induction k with
  | zero =>
    intro k' X h1 h2
    cases hn : X.next b with
    | none => rw [scan_none hn, scan_none hn]
    | some Y => obtain ⟨q1, q2, -⟩ := next_facts hn; omega
  | succ k ih =>
    intro k' X h1 h2
    cases hn : X.next b with
    | none => rw [scan_none hn, scan_none hn]
    | some Y =>
      obtain ⟨q1, q2, -⟩ := next_facts hn
      obtain ⟨j, rfl⟩ : ∃ j, k' = j + 1 := ⟨k' - 1, by omega⟩
      rw [scan_some hn, scan_some hn]
      exact ih j Y (by omega) (by omega)
theorem scan_S (b : List UInt8) : ∀ (k : Nat) (X : LS), (X.scan k b).S = X.S := by
  intro k
  induction k with
  | zero => intro X; rfl
  | succ k ih =>
    intro X
    cases hn : X.next b with
    | none => rw [scan_none hn]
    | some Y =>
      rw [scan_some hn, ih Y]
      exact (next_facts hn).2.2.1
def logOf (S : Dk.DS) (gen : Int) (b : List UInt8) : LS := LS.scan b.length ⟨S, gen, [], 0⟩ b
def cutD (S : Dk.DS) (k : Nat) : Int × Dk.DS :=
  if (S.truncate 1 k).1 ≠ 0 then S.truncate 1 k else (S.truncate 1 k).2.sync 1
def openP (S : Dk.DS) (gen : Int) : Int × LS :=
  if ¬ may gen then (1, ⟨S, gen, [], 0⟩) else
  if S.may 1 ≠ 0 then (S.may 1, ⟨S, gen, [], 0⟩) else
  let X := logOf S gen (S.now 1)
  if (S.now 1).length = X.e then (0, X) else ((cutD S X.e).1, { X with S := (cutD S X.e).2 })
def OpTo (d : Nat) (F G : Nat → Prop) (S : Dk.DS) (gen : Int) (n : Nat) (h : AH) (r : Value) (n' : Nat) (h' : AH) : Prop :=
  ((openP S gen).1 = 0 ∧ ∃ lg T, r = .tuple #[.pointer (some ⟨lg, 0, none⟩), .int .i64 0] ∧ Lg h' n' lg d T (openP S gen).2 ∧ (∀ b, b < n → T b → F b ∨ G b) ∧ ExtW F n h h') ∨
  ((openP S gen).1 ≠ 0 ∧ r = .tuple #[.pointer none, .int .i64 (openP S gen).1] ∧ Dk.DkTo n d F G h (openP S gen).2.S n' h')
theorem dkTo_ext {h h1 : AH} {n n1 d : Nat} {F G : Nat → Prop} {S : Dk.DS} (D : Dk.Dk h n d F G S) (E : Ext n h h1) (hn : n ≤ n1) : Dk.DkTo n d F G h S n1 h1 :=
  ⟨F, G, D.ext E hn, fun _ _ q => q, fun _ _ q => q, ExtW.of E (Nat.le_refl _)⟩
theorem ends_b (S : Dk.DS) : S.ends.2.ps.length ≤ S.ps.length ∧ S.ends.2.calls ≤ S.calls + 1 := by
  unfold Dk.DS.ends
  split
  · exact ⟨Nat.le_refl _, Int.le_refl _⟩
  · split
    · exact ⟨Nat.le_refl _, Int.le_refl _⟩
    · exact ⟨Nat.zero_le _, Int.le_refl _⟩
theorem trunc_b (S : Dk.DS) (f k : Int) : (S.truncate f k).2.ps.length ≤ S.ps.length + 1 ∧ (S.truncate f k).2.calls ≤ S.calls + 1 := by
  unfold Dk.DS.truncate
  split
  · exact ⟨Nat.le_succ _, by show S.calls ≤ _; omega⟩
  · split
    · exact ⟨Nat.le_succ _, by show S.calls ≤ _; omega⟩
    · obtain ⟨q1, q2⟩ := ends_b (S.done ⟨f.toNat, true, k.toNat, []⟩)
      refine ⟨?_, q2⟩
      have : (S.done ⟨f.toNat, true, k.toNat, []⟩).ps.length = S.ps.length + 1 := by simp [Dk.DS.done]
      omega
set_option maxHeartbeats 4000000 in
theorem open_rf {h : AH} {n d : Nat} {F G : Nat → Prop} {S : Dk.DS} (D : Dk.Dk h n d F G S) (gen : Int) (hps : S.ps.length < 1099511627775) (hcl : S.calls < 4611686018427387900) (hn0 : 0 < n) :
    RF Tryz.prog F 14 #[.pointer (some ⟨d, 0, none⟩), .int .i64 gen] n h (OpTo d F G S gen n h) := by
  refine RF.of Tryz.func14 rfl rfl (Nat.le_of_ble_eq_true rfl) ?_; dsimp only [argEnv]
  have hsz := Dk.size_dk D 1
  have hm2 : S.may 1 = 0 ∨ S.may 1 = 6 := by
    unfold Dk.DS.may
    split
    · exact .inr rfl
    · rw [if_neg (by omega)]; exact .inl rfl
  obtain ⟨sz, hsz0⟩ : ∃ sz : Int, sz = if S.may 1 = 0 then ((S.now (1 : Int).toNat).length : Int) else 0 := ⟨_, rfl⟩
  rw [← hsz0] at hsz
  have hmg := may_ev gen n h
  obtain ⟨my, hmy⟩ : ∃ my, my = S.may 1 := ⟨_, rfl⟩
  rw [← hmy] at hsz hm2
  have hD0 : openP S gen = if ¬ may gen then (1, ⟨S, gen, [], 0⟩) else if my ≠ 0 then (my, ⟨S, gen, [], 0⟩) else
      if (S.now 1).length = (logOf S gen (S.now 1)).e then (0, logOf S gen (S.now 1)) else ((cutD S (logOf S gen (S.now 1)).e).1, { logOf S gen (S.now 1) with S := (cutD S (logOf S gen (S.now 1)).e).2 }) := by rw [hmy]; rfl
  repeat' (first | refine stpS ?_ | (refine stp2 ?_ ?_ <;> intro _))
  refine RS.call1 rfl opds hsz none'W ?_
  by_cases pg : may gen
  rotate_left
  · rw [if_pos pg] at hD0
    rw [decide_eq_false pg] at hmg
    repeat' (first | refine stpS ?_ | (refine stp2 ?_ ?_ <;> intro _))
    refine RS.call1 rfl opds hmg none'W ?_
    repeat' (first | refine stpS ?_ | (refine stp2 ?_ ?_ <;> intro _))
    unfold OpTo
    rw [hD0]
    exact .inr ⟨by show (1 : Int) ≠ 0; decide, rfl, D.to⟩
  rw [if_neg (fun z => z pg)] at hD0
  rw [decide_eq_true pg] at hmg
  repeat' (first | refine stpS ?_ | (refine stp2 ?_ ?_ <;> intro _))
  refine RS.call1 rfl opds hmg none'W ?_
  repeat' (first | refine stpS ?_ | (refine stp2 ?_ ?_ <;> intro _))
  refine RS.call rfl opds (Dk.read_dk D 1 0 4194304) none'W ?_
  rintro r n1 h1 k1 ⟨c, rfl, E1, O1⟩
  have hrd : S.read 1 0 4194304 = if my ≠ 0 then (my, []) else (0, S.now 1) := by
    unfold Dk.DS.read
    rw [← hmy]
    split
    · rfl
    · have := D.ok.now 1
      rw [if_neg (by omega)]
      show (0, ((S.now 1).drop 0).take 4194304) = _
      rw [List.drop_zero, List.take_of_length_le (by omega)]
  rw [hrd] at O1 ⊢
  by_cases pm : my = 0
  rotate_left
  · rw [if_pos pm] at hD0 O1 ⊢
    repeat' (first | refine stpS ?_ | (refine stp2 ?_ ?_ <;> intro _))
    unfold OpTo
    rw [hD0]
    exact .inr ⟨pm, rfl, dkTo_ext D E1 k1⟩
  rw [if_neg (fun z => z pm)] at hD0 O1 ⊢
  dsimp only at O1 ⊢
  have hbl : (S.now 1).length ≤ 4194304 := D.ok.now 1
  obtain ⟨b, hb⟩ : ∃ b, b = S.now 1 := ⟨_, rfl⟩
  rw [← hb] at hD0 O1 hbl ⊢
  have hcb : c ≠ none → n ≤ sb c ∧ sb c < n1 := fun q => O1.at'.resolve_left q
  repeat' (first | refine stpS ?_ | (refine stp2 ?_ ?_ <;> intro _))
  have R0 : LgR (h1.app (.new n1 ⟨4, 0, true, 0⟩ [.pointer (some ⟨d, 0, none⟩), .int .i64 gen, .slice none 0 0, .int .i64 0])) (n1 + 1) n1 d F G none [] (fun _ => False) ⟨S, gen, [], 0⟩ :=
    ⟨D.ext (E1.trans k1 ext) (by omega), by omega, info, cell, cell, cell, cell, OwnSl.nil (Nat.zero_le _), rfl, fun x hx => (by cases hx), fun b q => q.elim, ⟨fun q => by have := D.ltF _ q; omega, fun q => by have := D.ltG _ q; omega, fun q => q.1 rfl⟩, fun b q => absurd rfl q.1, pg, Nat.le_refl _, Nat.zero_le _⟩
  have E0 : Ext n h (h1.app (.new n1 ⟨4, 0, true, 0⟩ [.pointer (some ⟨d, 0, none⟩), .int .i64 gen, .slice none 0 0, .int .i64 0])) := E1.trans k1 ext
  have S0 : SlB (h1.app (.new n1 ⟨4, 0, true, 0⟩ [.pointer (some ⟨d, 0, none⟩), .int .i64 gen, .slice none 0 0, .int .i64 0])) (n1 + 1) c b := O1.slb.ext ext (by omega)
  refine RC.loop ?_
  refine RL.inv (α := LS × Option Addr × List CmA × (Nat → Prop)) (fun u => [(10, .pointer (some ⟨n1, 0, none⟩)), (8, .slice c b.length b.length), (0, .pointer (some ⟨d, 0, none⟩))])
    (fun u n2 h2 => n1 + 1 ≤ n2 ∧ LgR h2 n2 n1 d F G u.2.1 u.2.2.1 u.2.2.2 u.1 ∧ SlB h2 n2 c b ∧ (∀ x, inA u.2.1 x → n1 < x) ∧ (∀ x, u.2.2.2 x → n1 < x) ∧ u.1.scan (b.length - u.1.e) b = logOf S gen b ∧ Ext n h h2 ∧ u.1.S = S)
    (fun u => b.length - u.1.e) (⟨S, gen, [], 0⟩, none, [], fun _ => False) envs ⟨Nat.le_refl _, R0, S0, fun x q => absurd rfl q.1, fun x q => q.elim, rfl, E0, rfl⟩ ?_
  rintro ⟨X, a, N, B⟩ n2 h2 ⟨hn2, R, S2, ha, hB, hsc, E2, hXS⟩
  dsimp only at R S2 ha hB hsc hXS ⊢
  repeat' (first | refine stpS ?_ | (refine stp2 ?_ ?_ <;> intro _))
  refine RS.call rfl opds (next_rf R b c S2 (fun q => ⟨by have := hcb q; omega, fun w => by have := ha _ w; have := hcb q; omega⟩) hbl) (fun x hx => .inr (by rcases hx with q | q; omega; have := ha x q; omega)) ?_
  rintro r n3 h3 k3 ⟨rfl, a', N', B', R3, ha3, hB3, e3⟩
  have E3 : Ext n h h3 := E2.viaW e3 (by omega) (fun x hx => by rcases hx with q | q; omega; have := ha x q; omega)
  have hW3 : ∀ x, inA a' x → n1 < x := fun x q => by
    by_cases w : x < n2
    · exact ha x (ha3 x w q)
    · omega
  have hB3' : ∀ x, B' x → n1 < x := fun x q => by
    by_cases w : x < n2
    · exact hB x (hB3 x w q)
    · omega
  cases hnx : X.next b with
  | some Y =>
    rw [hnx] at R3
    dsimp only [Option.getD_some, Option.isSome_some] at R3 ⊢
    obtain ⟨q1, q2, q3, q4, -⟩ := next_facts hnx
    repeat' (first | refine stpS ?_ | (refine stp2 ?_ ?_ <;> intro _))
    refine nextC.normal ⟨(Y, a', N', B'), by dsimp only; omega, envs, by omega, R3, S2.extW e3 k3 (fun q w => ?_), hW3, hB3', ?_, E3, by rw [← hXS]; exact q3⟩
    · have := hcb q
      rcases w with w | w
      · omega
      · have := ha _ w; omega
    · rw [← hsc]
      obtain ⟨j, hj⟩ : ∃ j, b.length - X.e = j + 1 := ⟨b.length - X.e - 1, by omega⟩
      rw [hj, scan_some hnx]
      exact scan_fuel b _ _ Y (Nat.le_refl _) (by omega)
  | none =>
    rw [hnx] at R3
    dsimp only [Option.getD_none, Option.isSome_none] at R3 ⊢
    rw [scan_none hnx] at hsc
    rw [← hsc] at hD0
    have hlt3 := R3.hi
    have c33 := R3.c3
    have hTn : ∀ x, x < n → LgT n1 F G a' B' x → F x ∨ G x := fun x hx q => by
      rcases q with q | q | q | q | q
      · exact .inl q
      · exact .inr q
      · omega
      · have := hW3 x q; omega
      · have := hB3' x q; omega
    by_cases pe : b.length = X.e
    · rw [if_pos pe] at hD0
      repeat' (first | refine stpS ?_ | (refine stp2 ?_ ?_ <;> intro _))
      unfold OpTo
      rw [hD0]
      exact .inl ⟨rfl, n1, _, rfl, ⟨F, G, a', N', B', R3, rfl⟩, hTn, ExtW.of E3 (Nat.le_refl _)⟩
    rw [if_neg pe] at hD0
    have D3 : Dk.Dk h3 n3 d F G S := hXS ▸ R3.dk
    obtain ⟨tb1, tb2⟩ := trunc_b S 1 (X.e : Nat)
    have hcut : cutD S X.e = if (S.truncate 1 (X.e : Nat)).1 ≠ 0 then S.truncate 1 (X.e : Nat) else (S.truncate 1 (X.e : Nat)).2.sync 1 := rfl
    repeat' (first | refine stpS ?_ | (refine stp2 ?_ ?_ <;> intro _))
    refine RS.call rfl opds (Dk.truncate_dk D3 (by omega) (by omega) 1 (X.e : Nat)) (fun x hx => .inl hx) ?_
    rintro r n4 h4 k4 ⟨rfl, D4⟩
    have D4' : Dk.DkTo n d F G h (S.truncate 1 (X.e : Nat)).2 n4 h4 := Dk.DkTo.trans (ExtW.of E3 (Nat.le_refl _)) (fun _ _ q => q) (fun _ _ q => q) (by omega) D4
    obtain ⟨t, ht⟩ : ∃ t, t = S.truncate 1 (X.e : Nat) := ⟨_, rfl⟩
    rw [← ht] at D4 D4' hcut tb1 tb2 ⊢
    clear ht
    obtain ⟨t1, t2⟩ := t
    dsimp only at D4 D4' hcut tb1 tb2 ⊢
    by_cases pt : t1 = 0
    rotate_left
    · rw [if_pos pt] at hcut
      rw [hcut] at hD0
      repeat' (first | refine stpS ?_ | (refine stp2 ?_ ?_ <;> intro _))
      unfold OpTo
      rw [hD0]
      exact .inr ⟨pt, rfl, D4'⟩
    rw [if_neg (fun z => z pt)] at hcut
    obtain ⟨F4, G4, D4d, hF4, hG4, e4⟩ := D4
    have R4 := R3.diskR D4d hF4 hG4 e4 k4
    repeat' (first | refine stpS ?_ | (refine stp2 ?_ ?_ <;> intro _))
    refine RS.call rfl opds (Dk.sync_dk D4d (by omega) (by omega) 1) (fun x hx => ?_) ?_
    · by_cases w : x < n3
      · exact .inl (hF4 x w hx)
      · exact .inr (by omega)
    rintro r n5 h5 k5 ⟨rfl, D5⟩
    have D5' : Dk.DkTo n d F G h (t2.sync 1).2 n5 h5 := Dk.DkTo.trans ((ExtW.of E3 (Nat.le_refl _)).trans e4 (by omega) (fun _ _ q => q)) (fun x hx q => hF4 x (by omega) q) (fun x hx q => hG4 x (by omega) q) (by omega) D5
    obtain ⟨y, hy⟩ : ∃ y, y = t2.sync 1 := ⟨_, rfl⟩
    rw [← hy] at D5 D5' hcut ⊢
    clear hy
    obtain ⟨y1, y2⟩ := y
    dsimp only at D5 D5' hcut ⊢
    rw [hcut] at hD0
    by_cases py : y1 = 0
    rotate_left
    · repeat' (first | refine stpS ?_ | (refine stp2 ?_ ?_ <;> intro _))
      unfold OpTo
      rw [hD0]
      exact .inr ⟨py, rfl, D5'⟩
    subst py
    obtain ⟨F5, G5, D5d, hF5, hG5, e5⟩ := D5
    have R5 := R4.diskR D5d hF5 hG5 e5 k5
    repeat' (first | refine stpS ?_ | (refine stp2 ?_ ?_ <;> intro _))
    unfold OpTo
    rw [hD0]
    refine .inl ⟨rfl, n1, _, rfl, ⟨F5, G5, a', N', B', R5, rfl⟩, fun x hx q => hTn x hx ?_, ?_⟩
    · rcases q with q | q | q
      · exact .inl (hF4 x (by omega) (hF5 x (by omega) q))
      · exact .inr (.inl (hG4 x (by omega) (hG5 x (by omega) q)))
      · exact .inr (.inr q)
    · exact ((ExtW.of E3 (Nat.le_refl _)).trans e4 (by omega) (fun _ _ q => q)).trans e5 (by omega) (fun x hx q => hF4 x (by omega) q)
end Go.Proofs.YtfbddbpbifnhfaaGreatDoor

/- Contracts of wal: the document opens a log. -/
namespace Go.Proofs.YtfbddbpbifnhfaaGreatDoor
open Go.Abs Cd

def RopTo (d : Nat) (F G : Nat → Prop) (S : Dk.DS) (gen : Int) (n : Nat) (h : AH) (r : Value) (n' : Nat) (h' : AH) : Prop :=
  ((openP S gen).1 = 0 ∧ ∃ lg T, r = .tuple #[.pointer (some ⟨lg, 0, none⟩), .int .i64 0] ∧ Rg h' n' lg d T (openP S gen).2 ∧ (∀ b, b < n → T b → F b ∨ G b) ∧ ExtW F n h h') ∨
  ((openP S gen).1 ≠ 0 ∧ r = .tuple #[.pointer none, .int .i64 (openP S gen).1] ∧ Dk.RkTo n d F G h (openP S gen).2.S n' h')
theorem rkTo_ext {h h1 : AH} {n n1 d : Nat} {F G : Nat → Prop} {S : Dk.DS} (D : Dk.Rk h n d F G S) (E : Ext n h h1) (hn : n ≤ n1) : Dk.RkTo n d F G h S n1 h1 :=
  ⟨F, G, D.ext E hn, fun _ _ q => q, fun _ _ q => q, ExtW.of E (Nat.le_refl _)⟩
set_option maxHeartbeats 4000000 in
theorem refOpen_rf {h : AH} {n d : Nat} {F G : Nat → Prop} {S : Dk.DS} (D : Dk.Rk h n d F G S) (gen : Int) (hps : S.ps.length < 1099511627775) (hcl : S.calls < 4611686018427387900) (hn0 : 0 < n) :
    RF Tryz.prog F 31 #[.pointer (some ⟨d, 0, none⟩), .int .i64 gen] n h (RopTo d F G S gen n h) := by
  refine RF.of Tryz.func31 rfl rfl (Nat.le_of_ble_eq_true rfl) ?_; dsimp only [argEnv]
  have hmg := refMay_ev gen n h
  obtain ⟨my, hmy⟩ : ∃ my, my = S.may 1 := ⟨_, rfl⟩
  have hD0 : openP S gen = if ¬ may gen then (1, ⟨S, gen, [], 0⟩) else if my ≠ 0 then (my, ⟨S, gen, [], 0⟩) else
      if (S.now 1).length = (logOf S gen (S.now 1)).e then (0, logOf S gen (S.now 1)) else ((cutD S (logOf S gen (S.now 1)).e).1, { logOf S gen (S.now 1) with S := (cutD S (logOf S gen (S.now 1)).e).2 }) := by rw [hmy]; rfl
  by_cases pg : may gen
  rotate_left
  · rw [if_pos pg] at hD0
    rw [decide_eq_false pg] at hmg
    repeat' (first | refine stpS ?_ | (refine stp2 ?_ ?_ <;> intro _))
    refine RS.call1 rfl opds hmg none'W ?_
    repeat' (first | refine stpS ?_ | (refine stp2 ?_ ?_ <;> intro _))
    unfold RopTo
    rw [hD0]
    exact .inr ⟨by show (1 : Int) ≠ 0; decide, rfl, D.to⟩
  rw [if_neg (fun z => z pg)] at hD0
  rw [decide_eq_true pg] at hmg
  have hrd : S.read 1 0 4194304 = if my ≠ 0 then (my, []) else (0, S.now 1) := by
    unfold Dk.DS.read
    rw [← hmy]
    split
    · rfl
    · have := D.ok.now 1
      rw [if_neg (by omega)]
      show (0, ((S.now 1).drop 0).take 4194304) = _
      rw [List.drop_zero, List.take_of_length_le (by omega)]
  have hrf := Dk.rread_rk D (by omega) 1 0 4194304
  rw [hrd] at hrf
  repeat' (first | refine stpS ?_ | (refine stp2 ?_ ?_ <;> intro _))
  refine RS.call1 rfl opds hmg none'W ?_
  repeat' (first | refine stpS ?_ | (refine stp2 ?_ ?_ <;> intro _))
  refine RS.call rfl opds hrf none'W ?_
  rintro r n1 h1 k1 ⟨c, rfl, E1, O1⟩
  by_cases pm : my = 0
  rotate_left
  · rw [if_pos pm] at hD0 O1 ⊢
    repeat' (first | refine stpS ?_ | (refine stp2 ?_ ?_ <;> intro _))
    unfold RopTo
    rw [hD0]
    exact .inr ⟨pm, rfl, rkTo_ext D E1 k1⟩
  rw [if_neg (fun z => z pm)] at hD0 O1 ⊢
  dsimp only at O1 ⊢
  have hbl : (S.now 1).length ≤ 4194304 := D.ok.now 1
  obtain ⟨b, hb⟩ : ∃ b, b = S.now 1 := ⟨_, rfl⟩
  rw [← hb] at hD0 O1 hbl ⊢
  have hcb : c ≠ none → sb c < n1 := fun q => by
    rcases O1.shape with ⟨k, -⟩ | ⟨-, k, -⟩
    · exact absurd k q
    · exact k
  repeat' (first | refine stpS ?_ | (refine stp2 ?_ ?_ <;> intro _))
  have R0 : RgR (h1.app (.new n1 ⟨4, 0, true, 0⟩ [.pointer (some ⟨d, 0, none⟩), .int .i64 gen, .slice none 0 0, .int .i64 0])) (n1 + 1) n1 d F G none [] (fun _ => False) ⟨S, gen, [], 0⟩ :=
    ⟨D.ext (E1.trans k1 ext) (by omega), by omega, info, cell, cell, cell, cell, OwnSl.nil (Nat.zero_le _), rfl, fun x hx => (by cases hx), fun b q => q.elim, ⟨fun q => by have := D.ltF _ q; omega, fun q => by have := D.ltG _ q; omega, fun q => q.1 rfl⟩, fun b q => absurd rfl q.1, pg, Nat.le_refl _, Nat.zero_le _⟩
  have E0 : Ext n h (h1.app (.new n1 ⟨4, 0, true, 0⟩ [.pointer (some ⟨d, 0, none⟩), .int .i64 gen, .slice none 0 0, .int .i64 0])) := E1.trans k1 ext
  have S0 : SlB (h1.app (.new n1 ⟨4, 0, true, 0⟩ [.pointer (some ⟨d, 0, none⟩), .int .i64 gen, .slice none 0 0, .int .i64 0])) (n1 + 1) c b := SlR.ext O1 ext (by omega)
  refine RC.loop ?_
  refine RL.inv (α := LS × Option Addr × List CmA × (Nat → Prop)) (fun u => [(8, .pointer (some ⟨n1, 0, none⟩)), (6, .slice c b.length b.length), (0, .pointer (some ⟨d, 0, none⟩))])
    (fun u n2 h2 => n1 + 1 ≤ n2 ∧ RgR h2 n2 n1 d F G u.2.1 u.2.2.1 u.2.2.2 u.1 ∧ SlB h2 n2 c b ∧ (∀ x, inA u.2.1 x → n1 < x) ∧ (∀ x, u.2.2.2 x → n1 < x) ∧ u.1.scan (b.length - u.1.e) b = logOf S gen b ∧ Ext n h h2 ∧ u.1.S = S)
    (fun u => b.length - u.1.e) (⟨S, gen, [], 0⟩, none, [], fun _ => False) envs ⟨Nat.le_refl _, R0, S0, fun x q => absurd rfl q.1, fun x q => q.elim, rfl, E0, rfl⟩ ?_
  rintro ⟨X, a, N, B⟩ n2 h2 ⟨hn2, R, S2, ha, hB, hsc, E2, hXS⟩
  dsimp only at R S2 ha hB hsc hXS ⊢
  repeat' (first | refine stpS ?_ | (refine stp2 ?_ ?_ <;> intro _))
  refine RS.call rfl opds (one_rf R b c S2 (fun q => ⟨by have := hcb q; omega, fun w => by have := ha _ w; have := hcb q; omega⟩) hbl (by omega)) (fun x hx => .inr (by rcases hx with q | q; omega; have := ha x q; omega)) ?_
  rintro r n3 h3 k3 ⟨rfl, a', N', B', R3, ha3, hB3, e3⟩
  have E3 : Ext n h h3 := E2.viaW e3 (by omega) (fun x hx => by rcases hx with q | q; omega; have := ha x q; omega)
  have hW3 : ∀ x, inA a' x → n1 < x := fun x q => by
    by_cases w : x < n2
    · exact ha x (ha3 x w q)
    · omega
  have hB3' : ∀ x, B' x → n1 < x := fun x q => by
    by_cases w : x < n2
    · exact hB x (hB3 x w q)
    · omega
  cases hnx : X.next b with
  | some Y =>
    rw [hnx] at R3
    dsimp only [Option.getD_some, Option.isSome_some] at R3 ⊢
    obtain ⟨q1, q2, q3, q4, -⟩ := next_facts hnx
    repeat' (first | refine stpS ?_ | (refine stp2 ?_ ?_ <;> intro _))
    refine nextC.normal ⟨(Y, a', N', B'), by dsimp only; omega, envs, by omega, R3, S2.extW e3 k3 (fun q w => ?_), hW3, hB3', ?_, E3, by rw [← hXS]; exact q3⟩
    · have := hcb q
      rcases w with w | w
      · omega
      · have := ha _ w; omega
    · rw [← hsc]
      obtain ⟨j, hj⟩ : ∃ j, b.length - X.e = j + 1 := ⟨b.length - X.e - 1, by omega⟩
      rw [hj, scan_some hnx]
      exact scan_fuel b _ _ Y (Nat.le_refl _) (by omega)
  | none =>
    rw [hnx] at R3
    dsimp only [Option.getD_none, Option.isSome_none] at R3 ⊢
    rw [scan_none hnx] at hsc
    have hele : X.e ≤ b.length := by
      have hX : X = logOf S gen b := hsc
      rw [hX]
      have key : ∀ (k : Nat) (Y : LS), Y.e ≤ b.length → (Y.scan k b).e ≤ b.length := by
        intro k
        induction k with
        | zero => intro Y h; exact h
        | succ k ih =>
          intro Y h
          cases hn : Y.next b with
          | none => rw [scan_none hn]; exact h
          | some Z => rw [scan_some hn]; exact ih Z (next_facts hn).2.1
      exact key _ _ (Nat.zero_le _)
    rw [← hsc] at hD0
    have hlt3 := R3.hi
    have c33 := R3.c3
    have hTn : ∀ x, x < n → RgT n1 F G a' B' x → F x ∨ G x := fun x hx q => by
      rcases q with q | q | q | q | q
      · exact .inl q
      · exact .inr q
      · omega
      · have := hW3 x q; omega
      · have := hB3' x q; omega
    by_cases pe : b.length = X.e
    · rw [if_pos pe] at hD0
      repeat' (first | refine stpS ?_ | (refine stp2 ?_ ?_ <;> intro _))
      unfold RopTo
      rw [hD0]
      exact .inl ⟨rfl, n1, _, rfl, ⟨F, G, a', N', B', R3, rfl⟩, hTn, ExtW.of E3 (Nat.le_refl _)⟩
    rw [if_neg pe] at hD0
    have D3 : Dk.Rk h3 n3 d F G S := hXS ▸ R3.dk
    obtain ⟨tb1, tb2⟩ := trunc_b S 1 (X.e : Nat)
    have hcut : cutD S X.e = if (S.truncate 1 (X.e : Nat)).1 ≠ 0 then S.truncate 1 (X.e : Nat) else (S.truncate 1 (X.e : Nat)).2.sync 1 := rfl
    repeat' (first | refine stpS ?_ | (refine stp2 ?_ ?_ <;> intro _))
    refine RS.call rfl opds (Dk.rtruncate_rk D3 (by omega) (by omega) 1 (X.e : Nat) (by omega)) (fun x hx => .inl hx) ?_
    rintro r n4 h4 k4 ⟨rfl, D4⟩
    have D4' : Dk.RkTo n d F G h (S.truncate 1 (X.e : Nat)).2 n4 h4 := Dk.RkTo.trans (ExtW.of E3 (Nat.le_refl _)) (fun _ _ q => q) (fun _ _ q => q) (by omega) D4
    obtain ⟨t, ht⟩ : ∃ t, t = S.truncate 1 (X.e : Nat) := ⟨_, rfl⟩
    rw [← ht] at D4 D4' hcut tb1 tb2 ⊢
    clear ht
    obtain ⟨t1, t2⟩ := t
    dsimp only at D4 D4' hcut tb1 tb2 ⊢
    by_cases pt : t1 = 0
    rotate_left
    · rw [if_pos pt] at hcut
      rw [hcut] at hD0
      repeat' (first | refine stpS ?_ | (refine stp2 ?_ ?_ <;> intro _))
      unfold RopTo
      rw [hD0]
      exact .inr ⟨pt, rfl, D4'⟩
    rw [if_neg (fun z => z pt)] at hcut
    obtain ⟨F4, G4, D4d, hF4, hG4, e4⟩ := D4
    have R4 := R3.diskR D4d hF4 hG4 e4 k4
    repeat' (first | refine stpS ?_ | (refine stp2 ?_ ?_ <;> intro _))
    refine RS.call rfl opds (Dk.rsync_rk D4d (by omega) (by omega) 1) (fun x hx => ?_) ?_
    · by_cases w : x < n3
      · exact .inl (hF4 x w hx)
      · exact .inr (by omega)
    rintro r n5 h5 k5 ⟨rfl, D5⟩
    have D5' : Dk.RkTo n d F G h (t2.sync 1).2 n5 h5 := Dk.RkTo.trans ((ExtW.of E3 (Nat.le_refl _)).trans e4 (by omega) (fun _ _ q => q)) (fun x hx q => hF4 x (by omega) q) (fun x hx q => hG4 x (by omega) q) (by omega) D5
    obtain ⟨y, hy⟩ : ∃ y, y = t2.sync 1 := ⟨_, rfl⟩
    rw [← hy] at D5 D5' hcut ⊢
    clear hy
    obtain ⟨y1, y2⟩ := y
    dsimp only at D5 D5' hcut ⊢
    rw [hcut] at hD0
    by_cases py : y1 = 0
    rotate_left
    · repeat' (first | refine stpS ?_ | (refine stp2 ?_ ?_ <;> intro _))
      unfold RopTo
      rw [hD0]
      exact .inr ⟨py, rfl, D5'⟩
    subst py
    obtain ⟨F5, G5, D5d, hF5, hG5, e5⟩ := D5
    have R5 := R4.diskR D5d hF5 hG5 e5 k5
    repeat' (first | refine stpS ?_ | (refine stp2 ?_ ?_ <;> intro _))
    unfold RopTo
    rw [hD0]
    refine .inl ⟨rfl, n1, _, rfl, ⟨F5, G5, a', N', B', R5, rfl⟩, fun x hx q => hTn x hx ?_, ?_⟩
    · rcases q with q | q | q
      · exact .inl (hF4 x (by omega) (hF5 x (by omega) q))
      · exact .inr (.inl (hG4 x (by omega) (hG5 x (by omega) q)))
      · exact .inr (.inr q)
    · exact ((ExtW.of E3 (Nat.le_refl _)).trans e4 (by omega) (fun _ _ q => q)).trans e5 (by omega) (fun x hx q => hF4 x (by omega) q)
end Go.Proofs.YtfbddbpbifnhfaaGreatDoor

/- Contracts of wal: a commit's mark. -/
namespace Go.Proofs.YtfbddbpbifnhfaaGreatDoor
open Go.Abs Cd

def markD (g s : Int) (l : List UInt8) : List UInt8 := markB g s (l.length : Nat) (crc l : Nat)
def mayMark (g s : Int) (l : List UInt8) : Prop := may g ∧ may s ∧ l.length ≤ 262144
instance (g s : Int) (l : List UInt8) : Decidable (mayMark g s l) := inferInstanceAs (Decidable (_ ∧ _))
def MkTo (g s : Int) (l : List UInt8) (n : Nat) (h : AH) (r : Value) (n' : Nat) (h' : AH) : Prop :=
  ∃ a', r = .tuple #[.slice a' (if mayMark g s l then markD g s l else []).length (if mayMark g s l then markD g s l else []).length, .int .i64 (if mayMark g s l then 0 else 1)] ∧ Ext n h h' ∧
    OwnSl h' n n' a' 1 (if mayMark g s l then markD g s l else []).length (bytesV (if mayMark g s l then markD g s l else []))
set_option maxHeartbeats 4000000 in
theorem mark_rf (g s : Int) (l : List UInt8) (a : Option Addr) (m n : Nat) (h : AH) (S : SlB h n a l) (e : m = l.length) (hm : m ≤ 1073741824) :
    RF Tryz.prog none' 50 #[.int .i64 g, .int .i64 s, .slice a m m] n h (MkTo g s l n h) := by
  subst e
  refine RF.of Tryz.func50 rfl rfl (Nat.le_of_ble_eq_true rfl) ?_; dsimp only [argEnv]
  have mg := may_ev g n h
  have ms := may_ev s n h
  have no : ¬ mayMark g s l → ∀ {h' : AH}, Ext n h h' → MkTo g s l n h (.tuple #[.slice none 0 0, .int .i64 1]) n h' := fun q h' E => by
    unfold MkTo
    simp only [if_neg q]
    exact ⟨none, rfl, E, OwnSl.nil (Nat.le_refl _)⟩
  by_cases pg : may g
  rotate_left
  · rw [decide_eq_false pg] at mg
    repeat' (first | refine stpS ?_ | (refine stp2 ?_ ?_ <;> intro _) | refine RS.call1 rfl opds (mg) none'W ?_ | refine RS.call1 rfl opds (ms) none'W ?_)
    exact no (fun q => pg q.1) (Ext.refl _ _)
  rw [decide_eq_true pg] at mg
  by_cases ps : may s
  rotate_left
  · rw [decide_eq_false ps] at ms
    repeat' (first | refine stpS ?_ | (refine stp2 ?_ ?_ <;> intro _))
    refine RS.call1 rfl opds mg none'W ?_
    repeat' (first | refine stpS ?_ | (refine stp2 ?_ ?_ <;> intro _))
    refine RS.call1 rfl opds ms none'W ?_
    repeat' (first | refine stpS ?_ | (refine stp2 ?_ ?_ <;> intro _))
    exact no (fun q => ps q.2.1) (Ext.refl _ _)
  rw [decide_eq_true ps] at ms
  repeat' (first | refine stpS ?_ | (refine stp2 ?_ ?_ <;> intro _))
  refine RS.call1 rfl opds mg none'W ?_
  repeat' (first | refine stpS ?_ | (refine stp2 ?_ ?_ <;> intro _))
  refine RS.call1 rfl opds ms none'W ?_
  by_cases pl : l.length ≤ 262144
  rotate_left
  · repeat' (first | refine stpS ?_ | (refine stp2 ?_ ?_ <;> intro _))
    exact no (fun q => pl q.2.2) (Ext.refl _ _)
  have hy : mayMark g s l := ⟨pg, ps, pl⟩
  repeat' (first | refine stpS ?_ | (refine stp2 ?_ ?_ <;> intro _))
  refine RS.gen (fun g => SlQ g (n + 1) (some ⟨n, 0, none⟩) (fun j => (([(a, l)] : List (Option Addr × List UInt8)).getD j (none, [])).1) [l] ∧ Ext n h g) ⟨slq_new [(a, l)] (fun x hx => by simp only [List.mem_singleton] at hx; subst hx; exact S), ext⟩ ?_
  rintro h2 ⟨hQ, E2⟩
  have hsum := sum_ev [l] _ _ 1 (n + 1) h2 hQ rfl (by omega) (by simp; omega)
  rw [show [l].flatten = l by simp] at hsum
  refine RS.call1 rfl opds hsum none'W ?_
  have hc := crc_lt l
  refine RS.call rfl opds (sector_rf g s (l.length : Nat) (crc l : Nat) pg.i64 ps.i64 ⟨by omega, by omega⟩ (by omega) (by omega) (n + 1) h2) none'W ?_
  rintro r n3 h3 k3 ⟨a3, rfl, E3, O3⟩
  repeat' (first | refine stpS ?_ | (refine stp2 ?_ ?_ <;> intro _))
  unfold MkTo
  simp only [if_pos hy]
  exact ⟨a3, rfl, E2.trans (by omega) E3, O3.mono (by omega)⟩
set_option maxHeartbeats 4000000 in
theorem refMark_rf (g s : Int) (l : List UInt8) (a : Option Addr) (m n : Nat) (h : AH) (S : SlB h n a l) (e : m = l.length) (hm : m ≤ 1073741824) :
    RF Tryz.prog none' 58 #[.int .i64 g, .int .i64 s, .slice a m m] n h (MkTo g s l n h) := by
  subst e
  refine RF.of Tryz.func58 rfl rfl (Nat.le_of_ble_eq_true rfl) ?_; dsimp only [argEnv]
  have mg := refMay_ev g n h
  have ms := refMay_ev s n h
  have no : ¬ mayMark g s l → ∀ {h' : AH}, Ext n h h' → MkTo g s l n h (.tuple #[.slice none 0 0, .int .i64 1]) n h' := fun q h' E => by
    unfold MkTo
    simp only [if_neg q]
    exact ⟨none, rfl, E, OwnSl.nil (Nat.le_refl _)⟩
  by_cases pg : may g
  rotate_left
  · rw [decide_eq_false pg] at mg
    repeat' (first | refine stpS ?_ | (refine stp2 ?_ ?_ <;> intro _) | refine RS.call1 rfl opds (mg) none'W ?_ | refine RS.call1 rfl opds (ms) none'W ?_)
    exact no (fun q => pg q.1) (Ext.refl _ _)
  rw [decide_eq_true pg] at mg
  by_cases ps : may s
  rotate_left
  · rw [decide_eq_false ps] at ms
    repeat' (first | refine stpS ?_ | (refine stp2 ?_ ?_ <;> intro _))
    refine RS.call1 rfl opds mg none'W ?_
    repeat' (first | refine stpS ?_ | (refine stp2 ?_ ?_ <;> intro _))
    refine RS.call1 rfl opds ms none'W ?_
    repeat' (first | refine stpS ?_ | (refine stp2 ?_ ?_ <;> intro _))
    exact no (fun q => ps q.2.1) (Ext.refl _ _)
  rw [decide_eq_true ps] at ms
  repeat' (first | refine stpS ?_ | (refine stp2 ?_ ?_ <;> intro _))
  refine RS.call1 rfl opds mg none'W ?_
  repeat' (first | refine stpS ?_ | (refine stp2 ?_ ?_ <;> intro _))
  refine RS.call1 rfl opds ms none'W ?_
  by_cases pl : l.length ≤ 262144
  rotate_left
  · repeat' (first | refine stpS ?_ | (refine stp2 ?_ ?_ <;> intro _))
    exact no (fun q => pl q.2.2) (Ext.refl _ _)
  have hy : mayMark g s l := ⟨pg, ps, pl⟩
  repeat' (first | refine stpS ?_ | (refine stp2 ?_ ?_ <;> intro _))
  refine RS.call1 rfl opds (refSum_ev l a _ _ _ S rfl (by omega)) none'W ?_
  have hc := crc_lt l
  refine RS.call rfl opds (refmark_rf g s (l.length : Nat) (crc l : Nat) pg.i64 ps.i64 ⟨by omega, by omega⟩ (by omega) (by omega) n h) none'W ?_
  rintro r n3 h3 k3 ⟨a3, rfl, E3, O3⟩
  repeat' (first | refine stpS ?_ | (refine stp2 ?_ ?_ <;> intro _))
  unfold MkTo
  simp only [if_pos hy]
  exact ⟨a3, rfl, E3, O3⟩
end Go.Proofs.YtfbddbpbifnhfaaGreatDoor

/- Contracts taken from codec (written by port.py). -/
namespace Go.Proofs.YtfbddbpbifnhfaaGreatDoor.Cd
open Go.Abs
structure Pc where
  w : Int
  v : Int
  s : List UInt8
structure Pc.Ok (x : Pc) (m : Nat) : Prop where
  w0 : 0 ≤ x.w
  w1 : x.w < 256
  v0 : -9223372036854775808 ≤ x.v
  v1 : x.v < 9223372036854775808
  sl : x.s.length ≤ m
theorem formB_le (l : List UInt8) : (formB l).length ≤ 2 * l.length + 2 := by
  unfold formB
  have := esc_le l
  rw [List.length_append]
  show _ + 2 ≤ _
  omega
end Go.Proofs.YtfbddbpbifnhfaaGreatDoor.Cd

/- Contracts of wal: a commit is written. -/
namespace Go.Proofs.YtfbddbpbifnhfaaGreatDoor
open Go.Abs Cd

def sizeL : List (List UInt8) → Nat
  | [] => 0
  | b :: r => (min b.length 262145 + 1) + sizeL r
theorem sizeL_app : ∀ (l r : List (List UInt8)), sizeL (l ++ r) = sizeL l + sizeL r
  | [], r => (Nat.zero_add _).symm
  | b :: l, r => by show _ + sizeL (l ++ r) = _ + sizeL l + sizeL r; rw [sizeL_app l r]; omega
theorem sizeL_take (ls : List (List UInt8)) (i : Nat) (hi : i < ls.length) : sizeL (ls.take (i + 1)) = sizeL (ls.take i) + (min (ls.getD i []).length 262145 + 1) := by
  rw [List.take_succ_eq_append_getElem hi, sizeL_app]
  simp [sizeL, List.getD, hi]
theorem sizeL_le (ls : List (List UInt8)) (i : Nat) : sizeL (ls.take i) ≤ sizeL ls := by
  have : sizeL ls = sizeL (ls.take i) + sizeL (ls.drop i) := by rw [← sizeL_app, List.take_append_drop]
  omega
theorem sizeL_mem {ls : List (List UInt8)} {l : List UInt8} (h : l ∈ ls) : min l.length 262145 + 1 ≤ sizeL ls := by
  induction ls with
  | nil => cases h
  | cons b r ih =>
    show _ ≤ (min b.length 262145 + 1) + sizeL r
    rcases List.mem_cons.1 h with q | q
    · rw [q]; omega
    · have := ih q; omega
def dataB (ls : List (List UInt8)) : List UInt8 := form (ls.length : Nat) ++ ls.flatMap formB
theorem flat_formB (ls : List (List UInt8)) (h : sizeL ls ≤ 262144) : (ls.flatMap formB).length ≤ 2 * sizeL ls := by
  induction ls with
  | nil => exact Nat.le_refl _
  | cons b r ih =>
    have h' : (min b.length 262145 + 1) + sizeL r ≤ 262144 := h
    have h1 := ih (by omega)
    have h2 := formB_le b
    rw [List.flatMap_cons, List.length_append]
    show _ ≤ 2 * ((min b.length 262145 + 1) + sizeL r)
    omega
def wrS (S : Dk.DS) (k : Nat) (b : List UInt8) : Int × Dk.DS :=
  if (S.write 1 k b).1 ≠ 0 then S.write 1 k b else (S.write 1 k b).2.sync 1
def commitP (X : LS) (ls : List (List UInt8)) : Int × LS :=
  if 262144 < sizeL ls then (60, X) else
  if ls.length = 0 ∨ 4096 < ls.length ∨ 262144 < (dataB ls).length then (60, X) else
  let w1 := wrS X.S (X.e + 512) (fillB (dataB ls))
  if w1.1 ≠ 0 then (w1.1, { X with S := w1.2 }) else
  let w2 := wrS w1.2 X.e (markD X.gen (X.L.length : Nat) (dataB ls))
  if w2.1 ≠ 0 then (w2.1, { X with S := w2.2 }) else
  (0, ⟨w2.2, X.gen, X.L ++ [ls], X.e + (512 + (fillB (dataB ls)).length)⟩)
theorem write_b (S : Dk.DS) (f k : Int) (b : List UInt8) : (S.write f k b).2.ps.length ≤ S.ps.length + b.length ∧ (S.write f k b).2.calls ≤ S.calls + 1 := by
  unfold Dk.DS.write
  split
  · exact ⟨by show S.ps.length ≤ _; omega, by show S.calls ≤ _; omega⟩
  · split
    · exact ⟨by show S.ps.length ≤ _; omega, by show S.calls ≤ _; omega⟩
    · obtain ⟨q1, q2⟩ := ends_b (S.writes f.toNat k.toNat b)
      refine ⟨?_, q2⟩
      have h1 : (S.writes f.toNat k.toNat b).ps.length = S.ps.length + (Dk.chunks f.toNat b.length k.toNat b).length := by simp [Dk.DS.writes]
      have h2 := Dk.chunks_length f.toNat b.length k.toNat b
      omega
theorem sync_b (S : Dk.DS) (f : Int) : (S.sync f).2.ps.length ≤ S.ps.length ∧ (S.sync f).2.calls ≤ S.calls + 1 := by
  obtain ⟨q1, q2⟩ := ends_b S
  unfold Dk.DS.sync
  split
  · exact ⟨Nat.le_refl _, by show S.calls ≤ _; omega⟩
  · split
    · exact ⟨q1, q2⟩
    · refine ⟨?_, q2⟩
      have : (S.ends.2.synced f.toNat).ps.length ≤ S.ends.2.ps.length := List.length_filter_le _ _
      show (S.ends.2.synced f.toNat).ps.length ≤ _
      omega
theorem wrS_b (S : Dk.DS) (k : Nat) (b : List UInt8) : (wrS S k b).2.ps.length ≤ S.ps.length + b.length ∧ (wrS S k b).2.calls ≤ S.calls + 2 := by
  obtain ⟨q1, q2⟩ := write_b S 1 (k : Nat) b
  obtain ⟨q3, q4⟩ := sync_b (S.write 1 (k : Nat) b).2 1
  unfold wrS
  split
  · exact ⟨q1, by omega⟩
  · exact ⟨by omega, by omega⟩
theorem wrS_ok {S : Dk.DS} {k : Nat} {b : List UInt8} (h : (wrS S k b).1 = 0) (hb : 0 < b.length) : k + b.length ≤ 4194304 := by
  have h1 : (S.write 1 (k : Nat) b).1 = 0 := by
    by_cases q : (S.write 1 (k : Nat) b).1 = 0
    · exact q
    · unfold wrS at h
      rw [if_pos q] at h
      exact absurd h q
  unfold Dk.DS.write at h1
  by_cases q1 : S.may 1 = 0
  · rw [if_neg (fun z => z q1)] at h1
    by_cases q2 : Dk.writeE (k : Nat) b = 0
    · unfold Dk.writeE at q2
      rw [if_neg (by omega)] at q2
      split at q2
      · cases q2
      · omega
    · rw [if_pos q2] at h1
      exact absurd h1 q2
  · rw [if_pos q1] at h1
    exact absurd h1 q1
section
variable {h : AH} {n lg d : Nat} {T : Nat → Prop} {X : LS}
set_option maxHeartbeats 4000000 in
theorem commit_rf (R : Lg h n lg d T X) (ls : List (List UInt8)) (ad : Nat → Option Addr) (c : Option Addr) (S : SlQ h n c ad ls) (hc : c ≠ none → ¬ T (sb c)) (hr : ∀ j, j < ls.length → ad j ≠ none → ¬ T (sb (ad j)))
    (hl : ls.length ≤ 1099511627776) (hrl : ∀ l ∈ ls, l.length ≤ 1073741824) (hps : X.S.ps.length ≤ 1099511000000) (hcl : X.S.calls < 4611686018427387900) (hn0 : 0 < n) :
    RF Tryz.prog T 15 #[.pointer (some ⟨lg, 0, none⟩), .slice c ls.length ls.length] n h (fun r n' h' => r = .int .i64 (commitP X ls).1 ∧ LgTo n lg d T h (commitP X ls).2 n' h') := by
  refine RF.of Tryz.func15 rfl rfl (Nat.le_of_ble_eq_true rfl) ?_; dsimp only [argEnv]
  obtain ⟨F, G, a, N, B, R, rfl⟩ := R
  have hlt := R.hi
  have c0 := R.c0
  have hD : commitP X ls = if 262144 < sizeL ls then (60, X) else if ls.length = 0 ∨ 4096 < ls.length ∨ 262144 < (dataB ls).length then (60, X) else
      if (wrS X.S (X.e + 512) (fillB (dataB ls))).1 ≠ 0 then ((wrS X.S (X.e + 512) (fillB (dataB ls))).1, { X with S := (wrS X.S (X.e + 512) (fillB (dataB ls))).2 }) else
      if (wrS (wrS X.S (X.e + 512) (fillB (dataB ls))).2 X.e (markD X.gen (X.L.length : Nat) (dataB ls))).1 ≠ 0 then ((wrS (wrS X.S (X.e + 512) (fillB (dataB ls))).2 X.e (markD X.gen (X.L.length : Nat) (dataB ls))).1, { X with S := (wrS (wrS X.S (X.e + 512) (fillB (dataB ls))).2 X.e (markD X.gen (X.L.length : Nat) (dataB ls))).2 }) else
      (0, ⟨(wrS (wrS X.S (X.e + 512) (fillB (dataB ls))).2 X.e (markD X.gen (X.L.length : Nat) (dataB ls))).2, X.gen, X.L ++ [ls], X.e + (512 + (fillB (dataB ls)).length)⟩) := rfl
  have no : commitP X ls = (60, X) → ∀ {n' : Nat} {h' : AH}, n ≤ n' → Ext n h h' → Value.int .i64 60 = .int .i64 (commitP X ls).1 ∧ LgTo n lg d (LgT lg F G a B) h (commitP X ls).2 n' h' := fun q n' h' hn E => by
    rw [q]
    exact ⟨rfl, _, ⟨F, G, a, N, B, R.extW (ExtW.of E (Nat.le_refl _) : ExtW (fun _ => False) n h h') hn (fun _ _ q => q), rfl⟩, fun _ _ q => q, ExtW.of E (Nat.le_refl _)⟩
  have hout := S.out
  repeat' (first | refine stpS ?_ | (refine stp2 ?_ ?_ <;> intro _))
  refine RS.call1 rfl opds (none_ev hlt c0) none'W ?_
  repeat' (first | refine stpS ?_ | (refine stp2 ?_ ?_ <;> intro _))
  refine RC.loop ?_
  refine RL.inv (α := Nat) (fun i => [(23, .int .i64 (i : Nat)), (22, .int .i64 (ls.length : Nat)), (21, .slice c ls.length ls.length), (5, .int .i64 (sizeL (ls.take i) : Nat)), (0, .pointer (some ⟨lg, 0, none⟩)), (1, .slice c ls.length ls.length)])
    (fun i n1 h1 => i ≤ ls.length ∧ n1 = n ∧ h1 = h ∧ sizeL (ls.take i) ≤ 262144)
    (fun i => ls.length - i) 0 envs ⟨by omega, rfl, rfl, Nat.zero_le _⟩ ?_
  rintro i n1 h1 ⟨hi, rfl, rfl, hsz⟩
  by_cases hlt2 : i < ls.length
  · have hsu := sizeL_take ls i hlt2
    have hle := sizeL_le ls (i + 1)
    have hgl : (ls.getD (i : Int).toNat []).length = (ls.getD i []).length := by rw [Int.toNat_natCast]
    by_cases hbig : 262144 < sizeL (ls.take (i + 1))
    · rw [if_pos (by omega)] at hD
      repeat' (first | refine stpS ?_ | (refine stp2 ?_ ?_ <;> intro _))
      exact no hD (Nat.le_refl _) (Ext.refl _ _)
    · repeat' (first | refine stpS ?_ | (refine stp2 ?_ ?_ <;> intro _))
      refine nextC.normal ⟨i + 1, by omega, ?_, by omega, rfl, rfl, by omega⟩
      have e1 : ((sizeL (ls.take (i + 1)) : Nat) : Int) = (sizeL (ls.take i) : Int) + (min ((ls.getD (i : Int).toNat []).length : Int) 262145 + 1) := by rw [hsu, hgl]; omega
      rw [e1, Int.natCast_add]
      exact envs
  obtain rfl : i = ls.length := by omega
  rw [List.take_length] at hsz
  rw [if_neg (by omega)] at hD
  have hfl := flat_formB ls hsz
  have hfi : ∀ i, ((ls.take i).flatMap formB).length ≤ 524288 := fun i => by
    have h1 := sizeL_le ls i
    have h2 := flat_formB (ls.take i) (by omega)
    omega
  have hli : ls.length ≤ 262144 := by
    have : ∀ r : List (List UInt8), r.length ≤ sizeL r := by
      intro r
      induction r with
      | nil => exact Nat.le_refl _
      | cons b r ih => show r.length + 1 ≤ (min b.length 262145 + 1) + sizeL r; omega
    have := this ls; omega
  have hrb : ∀ l ∈ ls, l.length ≤ 262144 := fun l hl' => by have := sizeL_mem hl'; omega
  have hf9 := form_le (ls.length : Nat) (by omega) (by omega)
  repeat' (first | refine stpS ?_ | (refine stp2 ?_ ?_ <;> intro _))
  refine RS.call rfl opds (newWriter_rf n1 h1) none'W ?_
  rintro r n2 h2 k2 ⟨rfl, E2, W2⟩
  repeat' (first | refine stpS ?_ | (refine stp2 ?_ ?_ <;> intro _))
  refine RS.call rfl opds (wInt_rf n1 none [] (ls.length : Nat) (by omega) (by omega) n1 n2 h2 W2) (fun x hx => .inr (W2.lo_of x hx)) ?_
  rintro r n3 h3 k3 ⟨a3, rfl, W3, X3, -⟩
  have hf0 : (form (ls.length : Nat)).length + ([] : List UInt8).length ≤ 1048576 := by rw [List.length_nil]; omega
  rw [if_pos hf0, List.nil_append] at W3
  rw [if_pos hf0]
  have E3 : Ext n1 h1 h3 := E2.viaW X3 k2 W2.lo_of
  repeat' (first | refine stpS ?_ | (refine stp2 ?_ ?_ <;> intro _))
  refine RC.loop ?_
  refine RL.inv (α := Nat × Option Addr) (fun u => [(43, .int .i64 (u.1 : Nat)), (42, .int .i64 (ls.length : Nat)), (41, .slice c ls.length ls.length), (8, .pointer (some ⟨n1, 0, none⟩)), (0, .pointer (some ⟨lg, 0, none⟩)), (1, .slice c ls.length ls.length)])
    (fun u n4 h4 => u.1 ≤ ls.length ∧ n1 ≤ n4 ∧ Ext n1 h1 h4 ∧ WrR h4 n1 n4 n1 u.2 (form (ls.length : Nat) ++ (ls.take u.1).flatMap formB))
    (fun u => ls.length - u.1) (0, a3) envs ⟨Nat.zero_le _, by omega, E3, by simpa using W3⟩ ?_
  rintro ⟨i, a4⟩ n4 h4 ⟨hi, hn4, E4, W4⟩
  dsimp only at hi W4 ⊢
  by_cases hlt2 : i < ls.length
  · have S4 := S.ext E4 hn4
    have hout4 := S4.out
    have hrow := S4.row i hlt2
    have hmem : ls.getD i [] ∈ ls := by simp [List.getD, List.getElem?_eq_getElem hlt2]
    have hrb1 := hrb _ hmem
    have hfb := formB_le (ls.getD i [])
    have hfi1 := hfi (i + 1)
    have hnx : (ls.take (i + 1)).flatMap formB = (ls.take i).flatMap formB ++ formB (ls.getD i []) := by
      rw [List.take_succ_eq_append_getElem hlt2, List.flatMap_append]; simp [List.getD, hlt2]
    rw [hnx, List.length_append] at hfi1
    repeat' (first | refine stpS ?_ | (refine stp2 ?_ ?_ <;> intro _))
    simp only [Int.toNat_natCast]
    refine RS.call rfl opds (wBytes_rf n1 a4 (ad i) _ (ls.getD i []) _ n1 n4 h4 W4 hrow rfl (by omega)) (fun x hx => .inr (W4.lo_of x hx)) ?_
    rintro r n5 h5 k5 ⟨a5, rfl, W5, X5, -⟩
    have hfit : (formB (ls.getD i [])).length + (form (ls.length : Nat) ++ (ls.take i).flatMap formB).length ≤ 1048576 := by rw [List.length_append]; omega
    rw [if_pos hfit, List.append_assoc, ← hnx] at W5
    rw [if_pos hfit]
    repeat' (first | refine stpS ?_ | (refine stp2 ?_ ?_ <;> intro _))
    exact nextC.normal ⟨(i + 1, a5), by dsimp only; omega, envs, by dsimp only; omega, by omega, E4.viaW X5 hn4 W4.lo_of, W5⟩
  obtain rfl : i = ls.length := by omega
  rw [List.take_length] at W4
  obtain ⟨l, hld⟩ : ∃ l, l = dataB ls := ⟨_, rfl⟩
  have hle' : l.length ≤ 1048576 := by rw [hld]; exact W4.le
  rw [← show l = form (ls.length : Nat) ++ ls.flatMap formB from hld] at W4
  rw [← hld] at hD
  have hpos : 0 < l.length := by
    rw [hld, dataB, List.length_append]
    have : 0 < (form (ls.length : Nat)).length := by
      have q := form_lenP (v := (ls.length : Nat)) (by omega)
      split at q <;> omega
    omega
  clear hld
  repeat' (first | refine stpS ?_ | (refine stp2 ?_ ?_ <;> intro _))
  refine RS.call rfl opds (wOut_rf n1 a4 l n1 n4 h4 W4) none'W ?_
  rintro r n5 h5 k5 ⟨a5, rfl, E5, O5⟩
  have E5' : Ext n1 h1 h5 := E4.trans hn4 E5
  by_cases pc : ls.length = 0 ∨ 4096 < ls.length ∨ 262144 < l.length
  · rw [if_pos pc] at hD
    repeat' (first | refine stpS ?_ | (refine stp2 ?_ ?_ <;> intro _))
    all_goals (first | exact no hD (by omega) E5' | (exfalso; omega))
  rw [if_neg pc] at hD
  have R5 : LgR h5 n5 lg d F G a N B X := R.extW (ExtW.of E5' (Nat.le_refl _) : ExtW (fun _ => False) n1 h1 h5) (by omega) (fun _ _ q => q)
  have hlt5 := R5.hi
  have d1 := R5.c1
  have d2 := R5.c2
  have d3 := R5.c3
  have me := R.me
  have le := R.le
  have hmk := mark_rf X.gen (X.L.length : Nat) l a5 l.length n5 (h5.below n5) (O5.slb.ext (AH.below_ext _ _) (Nat.le_refl _)) rfl (by omega)
  have hy : mayMark X.gen (X.L.length : Nat) l := ⟨R.gm, ⟨by omega, by omega⟩, by omega⟩
  repeat' (first | refine stpS ?_ | (refine stp2 ?_ ?_ <;> intro _))
  repeat' (first | refine stp ?_ | (refine stp2 ?_ ?_ <;> intro _))
  refine RD.call n5 rfl opds hmk (Nat.le_refl _) cfc ?_
  rintro r n6 h6 k6 hto
  unfold MkTo at hto
  simp only [if_pos hy] at hto
  obtain ⟨a6, rfl, E6, O6⟩ := hto
  have E6 : Ext n5 h5 h6 := E6.via (Nat.le_refl _) (AH.below_ext h5 n5)
  have hml : (markD X.gen (X.L.length : Nat) l).length = 512 := markB_length R.gm.i64 ⟨by omega, by omega⟩ ⟨by omega, by omega⟩ ⟨by omega, by have := crc_lt l; omega⟩
  obtain ⟨mk, hmkd⟩ : ∃ mk, mk = markD X.gen (X.L.length : Nat) l := ⟨_, rfl⟩
  rw [← hmkd] at O6 hml hD ⊢
  clear hmkd hmk
  repeat' (first | refine stp ?_ | (refine stp2 ?_ ?_ <;> intro _))
  refine RS.call rfl opds (filled_rf l a5 l.length n6 h6 (O5.slb.ext E6 k6) rfl (by omega)) none'W ?_
  rintro r n7 h7 k7 ⟨a7, rfl, E7, O7⟩
  have hfl2 := fillB_length l
  obtain ⟨fb, hfb⟩ : ∃ fb, fb = fillB l := ⟨_, rfl⟩
  rw [← hfb] at O7 hfl2 hD ⊢
  clear hfb
  have E7' : Ext n1 h1 h7 := (E5'.trans (by omega) E6).trans (by omega) E7
  have R7 : LgR h7 n7 lg d F G a N B X := R.extW (ExtW.of E7' (Nat.le_refl _) : ExtW (fun _ => False) n1 h1 h7) (by omega) (fun _ _ q => q)
  have hlt7 := R7.hi
  have d37 := R7.c3
  have S6 : SlB h7 n7 a6 mk := O6.slb.ext E7 k7
  have S7 : SlB h7 n7 a7 fb := O7.slb
  rw [hml]
  repeat' (first | refine stpS ?_ | (refine stp2 ?_ ?_ <;> intro _))
  repeat' (first | refine stp ?_ | (refine stp2 ?_ ?_ <;> intro _))
  refine RD.put (v := .agg #[.int .i64 ((X.e : Int) + 512), .slice a7 fb.length fb.length, .int .i64 (X.e : Nat), .slice a6 512 512]) rfl rfl (op_buildA Tc.out Tc.out (by simp [Value.cells, flat]) (by rfl) (by rfl)) ?_
  repeat' (first | refine stp ?_ | (refine stp2 ?_ ?_ <;> intro _))
  obtain ⟨w1, hw1⟩ : ∃ w, w = wrS X.S (X.e + 512) fb := ⟨_, rfl⟩
  obtain ⟨w2, hw2⟩ : ∃ w, w = wrS w1.2 X.e mk := ⟨_, rfl⟩
  rw [← hw1, ← hw2] at hD
  obtain ⟨b1, b2⟩ := wrS_b X.S (X.e + 512) fb
  rw [← hw1] at b1 b2
  have hFn : ∀ x, F x → x < n1 := R.dk.ltF
  have hGn : ∀ x, G x → x < n1 := R.dk.ltG
  refine RC.loop ?_
  refine RL.inv (α := Nat × Dk.DS × (Nat → Prop) × (Nat → Prop)) (fun u => [(99, .int .i64 (u.1 : Nat)), (98, .agg #[.int .i64 ((X.e : Int) + 512), .slice a7 fb.length fb.length, .int .i64 (X.e : Nat), .slice a6 512 512]), (14, .slice a7 fb.length fb.length), (0, .pointer (some ⟨lg, 0, none⟩)), (1, .slice c ls.length ls.length)])
    (fun u n8 h8 => u.1 ≤ 2 ∧ n7 ≤ n8 ∧ LgR h8 n8 lg d u.2.2.1 u.2.2.2 a N B { X with S := u.2.1 } ∧ SlB h8 n8 a7 fb ∧ SlB h8 n8 a6 mk ∧ (∀ x, x < n7 → u.2.2.1 x → F x) ∧ (∀ x, x < n7 → u.2.2.2 x → G x) ∧ ExtW F n1 h1 h8 ∧
      (u.1 = 0 → u.2.1 = X.S) ∧ (u.1 = 1 → w1.1 = 0 ∧ u.2.1 = w1.2) ∧ (u.1 = 2 → w1.1 = 0 ∧ w2.1 = 0 ∧ u.2.1 = w2.2))
    (fun u => 2 - u.1) (0, X.S, F, G) envs ⟨by omega, Nat.le_refl _, R7, S7, S6, fun _ _ q => q, fun _ _ q => q, ExtW.of E7' (Nat.le_refl _), fun _ => rfl, (fun q => by cases q), (fun q => by cases q)⟩ ?_
  rintro ⟨i, S', F', G'⟩ n8 h8 ⟨hi, hn8, R8, S7', S6', hF, hG, e8, z0, z1, z2⟩
  dsimp only at hi hn8 R8 hF hG z0 z1 z2 ⊢
  have no2 : ∀ {S9 : Dk.DS} {F9 G9 : Nat → Prop} {n9 : Nat} {h9 : AH} {v : Int}, commitP X ls = (v, { X with S := S9 }) → n8 ≤ n9 → LgR h9 n9 lg d F9 G9 a N B { X with S := S9 } → (∀ x, x < n8 → F9 x → F' x) → (∀ x, x < n8 → G9 x → G' x) → ExtW F' n8 h8 h9 →
      Value.int .i64 v = .int .i64 (commitP X ls).1 ∧ LgTo n1 lg d (LgT lg F G a B) h1 (commitP X ls).2 n9 h9 := by
    intro S9 F9 G9 n9 h9 v q hn9 R9 hF9 hG9 e9
    rw [q]
    refine ⟨rfl, _, ⟨F9, G9, a, N, B, R9, rfl⟩, ?_, (e8.trans e9 (by omega) (fun x hx w => hF x (by omega) w)).mono (Nat.le_refl _) (fun x _ w => .inl w)⟩
    rintro x hx (w | w | w)
    · exact .inl (hF x (by omega) (hF9 x (by omega) w))
    · exact .inr (.inl (hG x (by omega) (hG9 x (by omega) w)))
    · exact .inr (.inr w)
  by_cases hlt2 : i < 2
  · have hrow : ∃ (k : Nat) (bs : List UInt8) (ab : Option Addr) (w : Int × Dk.DS), Value.agg ((#[.int .i64 ((X.e : Int) + 512), .slice a7 fb.length fb.length, .int .i64 (X.e : Nat), .slice a6 512 512] : Array Value).extract ((i : Int).toNat * 2) ((i : Int).toNat * 2 + 2)) = .agg #[.int .i64 (k : Nat), .slice ab bs.length bs.length] ∧
        SlB h8 n8 ab bs ∧ (ab ≠ none → n5 ≤ sb ab ∧ sb ab < n7) ∧ k ≤ 4194816 ∧ bs.length ≤ 262656 ∧ w = wrS S' k bs ∧ S'.ps.length ≤ 1099511300000 ∧ S'.calls < 4611686018427387902 ∧
        (w.1 ≠ 0 → commitP X ls = (w.1, { X with S := w.2 })) ∧ (w.1 = 0 → (i + 1 = 1 → w1.1 = 0 ∧ w.2 = w1.2) ∧ (i + 1 = 2 → w1.1 = 0 ∧ w2.1 = 0 ∧ w.2 = w2.2)) := by
      rcases (show i = 0 ∨ i = 1 by omega) with rfl | rfl
      · have z0 := z0 rfl
        subst z0
        refine ⟨X.e + 512, fb, a7, w1, ?_, S7', fun q => ?_, by omega, by omega, hw1, by omega, by omega, fun q => by rw [hD, if_pos q], fun q => ⟨fun _ => ⟨q, rfl⟩, fun q => by omega⟩⟩
        · rw [Int.natCast_add]; rfl
        · have := O7.at'.resolve_left q; omega
      · obtain ⟨z3, z4⟩ := z1 rfl
        subst z4
        refine ⟨X.e, mk, a6, w2, ?_, S6', fun q => ?_, by omega, by omega, hw2, by omega, by omega, fun q => by rw [hD, if_neg (fun z => z z3), if_pos q], fun q => ⟨fun q => by omega, fun _ => ⟨z3, q, rfl⟩⟩⟩
        · rw [hml]; rfl
        · have := O6.at'.resolve_left q; omega
    obtain ⟨k, bs, ab, w, hv, hSb, hab, hk, hbs, hw, hp8, hc8, hno, hyes⟩ := hrow
    repeat' (first | refine stpS ?_ | (refine stp2 ?_ ?_ <;> intro _))
    refine RS.put rfl rfl (op_indexAgg (m := 2) (e := 94) Uc.out Tc.out (Opd.ev opd) (Opd.ev opd) (by omega) (by omega) rfl) ?_
    rw [hv]
    repeat' (first | refine stpS ?_ | (refine stp2 ?_ ?_ <;> intro _))
    obtain ⟨g8, hg⟩ : ∃ g8, g8 = (h8.app (.new n8 ⟨2, 0, true, 0⟩ [.int .i64 0, .slice none 0 0])).app (.sets n8 0 [.int .i64 (k : Nat), .slice ab bs.length bs.length]) := ⟨_, rfl⟩
    refine RC.heap hg ?_
    have E8 : Ext n8 h8 g8 := by rw [hg]; exact ext
    have y0 : g8.cell n8 0 = .int .i64 (k : Nat) := by rw [hg]; exact cell
    have y1 : g8.cell n8 1 = .slice ab bs.length bs.length := by rw [hg]; exact cell
    clear hg
    have R8' := R8.extW (ExtW.of E8 (Nat.le_refl _) : ExtW (fun _ => False) n8 h8 g8) (Nat.le_succ n8) (fun _ _ q => q)
    have hlt8 := R8'.hi
    have d08 := R8'.c0
    have hFl := R8.lF.1
    have hFlt : ∀ x, F' x → x < n8 := R8.dk.ltF
    have hFn8 : ¬ F' n8 := fun q => by have := hFlt _ q; omega
    have hFlt' : ∀ x, F' x → x < n8 + 1 := fun x q => by have := hFlt _ q; omega
    have hwd := Dk.write_dk (R8'.dk.ext (AH.below_ext g8 (n8 + 1)) (Nat.le_refl _)) 1 (k : Nat) (by omega) (SlR.ext (SlR.ext hSb E8 (Nat.le_succ n8)) (AH.below_ext g8 (n8 + 1)) (Nat.le_refl _)) (fun q w => by have := hab q; have := hF _ (by omega) w; have := hFn _ this; omega) (by show S'.ps.length + _ ≤ _; omega) (by show S'.calls < _; omega)
    have hWT : ∀ x, F' x → LgT lg F G a B x ∨ n1 ≤ x := fun x q => by
      by_cases z : x < n7
      · exact .inl (.inl (hF x z q))
      · exact .inr (by omega)
    obtain ⟨t, ht⟩ : ∃ t, t = S'.write 1 (k : Nat) bs := ⟨_, rfl⟩
    have hwd : RF Tryz.prog F' 29 #[.pointer (some ⟨d, 0, none⟩), .int .i64 1, .int .i64 (k : Nat), .slice ab bs.length bs.length] (n8 + 1) (g8.below (n8 + 1)) (fun r n' h' => r = .int .i64 t.1 ∧ Dk.DkTo (n8 + 1) d F' G' (g8.below (n8 + 1)) t.2 n' h') := by rw [ht]; exact hwd
    obtain ⟨tb1, tb2⟩ := write_b S' 1 (k : Nat) bs
    have hwS : wrS S' k bs = if (S'.write 1 (k : Nat) bs).1 ≠ 0 then S'.write 1 (k : Nat) bs else (S'.write 1 (k : Nat) bs).2.sync 1 := rfl
    rw [← hw, ← ht] at hwS
    rw [← ht] at tb1 tb2
    clear ht hw
    obtain ⟨t1, t2⟩ := t
    dsimp only at hwd hwS tb1 tb2
    repeat' (first | refine stpS ?_ | (refine stp2 ?_ ?_ <;> intro _))
    repeat' (first | refine stp ?_ | (refine stp2 ?_ ?_ <;> intro _))
    refine RD.callW (n8 + 1) rfl opds hwd (fun x q => hWT x q) (Nat.le_refl _) cfw ?_
    rintro r n9 h9 k9 ⟨rfl, F9, G9, D9, hF9, hG9, e9⟩
    have e9 : ExtW F' (n8 + 1) g8 h9 := ((ExtW.of (AH.below_ext g8 (n8 + 1)) (Nat.le_refl _) : ExtW F' (n8 + 1) g8 (g8.below (n8 + 1)))).trans e9 (Nat.le_refl _) (fun _ _ q => q)
    have R9 := R8'.diskR D9 hF9 hG9 e9 k9
    have e9' : ExtW F' n8 h8 h9 := (ExtW.of E8 (Nat.le_refl _)).trans e9 (Nat.le_succ _) (fun _ _ q => q)
    have hlt9 := R9.hi
    have d09 := R9.c0
    by_cases pt : t1 = 0
    rotate_left
    · rw [if_pos pt] at hwS
      rw [hwS] at hno
      repeat' (first | refine stp ?_ | (refine stp2 ?_ ?_ <;> intro _))
      exact no2 (hno pt) (by omega) R9 (fun x hx q => hF9 x (by omega) q) (fun x hx q => hG9 x (by omega) q) e9'
    rw [if_neg (fun z => z pt)] at hwS
    subst pt
    have hFlt9 : ∀ x, F9 x → x < n9 := R9.dk.ltF
    obtain ⟨sb1, sb2⟩ := sync_b t2 1
    repeat' (first | refine stp ?_ | (refine stp2 ?_ ?_ <;> intro _))
    refine RS.call rfl opds (Dk.sync_dk D9 (by omega) (by omega) 1) (fun x q => ?_) ?_
    · by_cases z : x < n8 + 1
      · exact hWT x (hF9 x z q)
      · exact .inr (by omega)
    rintro r n10 h10 k10 ⟨rfl, F10, G10, D10, hF10, hG10, e10⟩
    have R10 := R9.diskR D10 hF10 hG10 e10 k10
    rw [← hwS] at R10 ⊢
    have e10' : ExtW F' n8 h8 h10 := e9'.trans e10 (by omega) (fun x hx q => hF9 x (by omega) q)
    have hF10' : ∀ x, x < n8 → F10 x → F' x := fun x hx q => hF9 x (by omega) (hF10 x (by omega) q)
    have hG10' : ∀ x, x < n8 → G10 x → G' x := fun x hx q => hG9 x (by omega) (hG10 x (by omega) q)
    by_cases pw : w.1 = 0
    rotate_left
    · repeat' (first | refine stpS ?_ | (refine stp2 ?_ ?_ <;> intro _))
      exact no2 (hno pw) (by omega) R10 hF10' hG10' e10'
    obtain ⟨y2, y3⟩ := hyes pw
    rw [pw]
    repeat' (first | refine stpS ?_ | (refine stp2 ?_ ?_ <;> intro _))
    refine nextC.normal ⟨(i + 1, w.2, F10, G10), by dsimp only; omega, envs, by dsimp only; omega, by omega, R10, S7'.extW e10' (by omega) (fun q z => ?_), S6'.extW e10' (by omega) (fun q z => ?_), fun x hx q => hF x hx (hF10' x (by omega) q), fun x hx q => hG x hx (hG10' x (by omega) q), e8.trans e10' (by omega) (fun x hx q => hF x (by omega) q), (fun q => by cases q), y2, y3⟩
    · have := O7.at'.resolve_left q; have := hF _ (by omega) z; have := hFn _ this; omega
    · have := O6.at'.resolve_left q; have := hF _ (by omega) z; have := hFn _ this; omega
  obtain rfl : i = 2 := by omega
  obtain ⟨z3, z4, z5⟩ := z2 rfl
  subst z5
  rw [if_neg (fun z => z z3), if_neg (fun z => z z4)] at hD
  have hbl := wrS_ok (hw1 ▸ z3) (by omega : 0 < fb.length)
  have S8 : SlQ h8 n8 c ad ls := SlQ.extW S e8 (by omega) (fun q z => hc q (.inl z)) (fun j hj q z => hr j hj q (.inl z))
  have hlt8 := R8.hi
  have d28 := R8.c2
  have hla := R8.lF.2.2
  repeat' (first | refine stpS ?_ | (refine stp2 ?_ ?_ <;> intro _))
  repeat' (first | refine stp ?_ | (refine stp2 ?_ ?_ <;> intro _))
  refine RD.call n8 rfl opds (own_rf ls ad c ls.length n8 (h8.below n8) (S8.ext (AH.below_ext h8 n8) (Nat.le_refl _)) rfl hl (fun x hx => by have := hrb x hx; omega) (by omega)) (Nat.le_refl _) cfc ?_
  rintro r n9 h9 k9 ⟨a9, M, rfl, E9, C9, hM⟩
  have E9 : Ext n8 h8 h9 := E9.via (Nat.le_refl _) (AH.below_ext h8 n8)
  have C9' := C9.cmr
  rw [hM] at C9'
  repeat' (first | refine stp ?_ | (refine stp2 ?_ ?_ <;> intro _))
  obtain ⟨g10, hg⟩ : ∃ g10, g10 = h9.app (.new n9 ⟨1, 0, true, 1⟩ [.slice a9 ls.length ls.length]) := ⟨_, rfl⟩
  refine RD.heap hg ?_
  have E10 : Ext n9 h9 g10 := by rw [hg]; exact ext
  have hnew : OwnSl g10 n9 (n9 + 1) (some ⟨n9, 0, none⟩) 1 1 [.slice a9 ls.length ls.length] := by rw [hg]; exact OwnSl.new (m := 1) (z := 1) (Nat.le_refl _) rfl rfl
  clear hg
  have E10' : Ext n8 h8 g10 := E9.trans k9 E10
  have R10 : LgR g10 (n9 + 1) lg d F' G' a N B { X with S := w2.2 } := R8.extW (ExtW.of E10' (Nat.le_refl _) : ExtW (fun _ => False) n8 h8 g10) (by omega) (fun _ _ q => q)
  have hWl : ∀ b, inA a b → b < n9 + 1 := R10.alt
  have hO10 : OwnSl g10 0 (n9 + 1) a 1 X.L.length (lgC N) := R10.own
  refine RD.appendT (n9 + 1) rfl opd opd hO10 (hnew.ext (AH.below_ext _ _) (Nat.le_refl _)).src full_slice (fun q => .inl (.inr (.inr (.inr (.inl ⟨q, rfl⟩))))) (by omega) (Nat.le_refl _) cfw ?_
  intro a' n11 h11 k11 O11 X11 wh
  have hal : a = none ∨ lg ≠ sb a := by
    by_cases z : a = none
    · exact .inl z
    · exact .inr fun w => hla ⟨z, w⟩
  have hlt10 := R10.hi
  have hlt11 : lg < n11 := by omega
  have hTl : LgT lg F G a B lg := .inr (.inr (.inl rfl))
  have i11 := i_extX X11 (by omega) hal R10.inf
  have d311 : h11.cell lg 3 = .int .i64 (X.e : Nat) := c_extX X11 (by omega) hal R10.c3
  have hC10 : CmR g10 (n9 + 1) (fun b => n8 ≤ b ∧ b < n9) a9 ls := C9'.extW (ExtW.of E10 (Nat.le_refl _) : ExtW (fun _ => False) n9 h9 g10) (by omega) (fun _ _ q => q)
  have hP := LgR.push (k := 512 + fb.length) R10 hC10 (fun b q => ⟨by omega, by omega, fun z => by have := R8.alt b z; omega, fun z => by have := R8.dk.ltF b z; omega⟩) X11 k11 O11 wh (by show X.e + (512 + fb.length) ≤ _; omega) (by omega)
  have hN : ((X.e : Int) + (512 + (fb.length : Nat))) = ((X.e + (512 + fb.length) : Nat) : Int) := by omega
  have e11 : ExtW (LgT lg F G a B) n1 h1 h11 := by
    have q1 : ExtW (LgT lg F G a B) n1 h1 h8 := e8.mono (Nat.le_refl _) (fun b _ q => .inl q)
    have q2 : ExtW (LgT lg F G a B) n1 h1 g10 := q1.then E10' (by omega)
    exact q2.trans (extX_extW X11) (by omega) (fun b _ q => .inr (.inr (.inr (.inl q))))
  repeat' (first | refine stp ?_ | (refine stp2 ?_ ?_ <;> intro _))
  rw [hN]
  rw [hD]
  refine ⟨rfl, _, ⟨F', G', a', _, _, hP, rfl⟩, ?_, ExtW.appSets (.inl (.inr (.inr (.inl rfl)))) (ExtW.appSets (.inl (.inr (.inr (.inl rfl)))) e11)⟩
  rintro x hx (w | w | w | w | w | w)
  · exact .inl (hF x (by omega) w)
  · exact .inr (.inl (hG x (by omega) w))
  · exact .inr (.inr (.inl w))
  · rcases wh with z | z
    · rw [z] at w; exact .inr (.inr (.inr (.inl w)))
    · have := w.2; omega
  · exact .inr (.inr (.inr (.inr w)))
  · omega
end
end Go.Proofs.YtfbddbpbifnhfaaGreatDoor

/- Contracts of wal: a commit's bytes, the document's. -/
namespace Go.Proofs.YtfbddbpbifnhfaaGreatDoor
open Go.Abs Cd

theorem flat_max (ls : List (List UInt8)) (M : Nat) (h : ∀ l ∈ ls, l.length ≤ M) : (ls.flatMap formB).length ≤ ls.length * (2 * M + 2) := by
  induction ls with
  | nil => exact Nat.zero_le _
  | cons b r ih =>
    have h1 := ih (fun l hl => h l (by simp [hl]))
    have h2 := formB_le b
    have h3 := h b (by simp)
    rw [List.flatMap_cons, List.length_append, List.length_cons, Nat.add_mul, Nat.one_mul]
    omega
set_option maxHeartbeats 4000000 in
theorem refData_rf (ls : List (List UInt8)) (ad : Nat → Option Addr) (c : Option Addr) (n : Nat) (h : AH) (S : SlQ h n c ad ls) (hl : ls.length ≤ 1048576) (hrl : ∀ l ∈ ls, l.length ≤ 1052000) (hn0 : 0 < n) :
    RF Tryz.prog none' 56 #[.slice c ls.length ls.length] n h (Row (dataB ls) n h) := by
  refine RF.of Tryz.func56 rfl rfl (Nat.le_of_ble_eq_true rfl) ?_; dsimp only [argEnv]
  have hfm : ∀ i, ((ls.take i).flatMap formB).length ≤ 2206206001152 := fun i => by
    have h1 := flat_max (ls.take i) 1052000 (fun l hl => hrl l (List.mem_of_mem_take hl))
    have h2 : (ls.take i).length ≤ 1048576 := by rw [List.length_take]; omega
    exact Nat.le_trans h1 (Nat.le_trans (Nat.mul_le_mul_right _ h2) (by decide))
  have hf9 := form_le (ls.length : Nat) (by omega) (by omega)
  repeat' (first | refine stpS ?_ | (refine stp2 ?_ ?_ <;> intro _))
  refine RS.call rfl opds (refInt_rf (ls.length : Nat) (by omega) (by omega) n h) none'W ?_
  rintro r n1 h1 k1 ⟨a1, rfl, E1, O1⟩
  repeat' (first | refine stpS ?_ | (refine stp2 ?_ ?_ <;> intro _))
  refine RC.loop ?_
  refine RL.inv (α := Nat × Option Addr) (fun u => [(4, .int .i64 (u.1 : Nat)), (3, .slice u.2 (form (ls.length : Nat) ++ (ls.take u.1).flatMap formB).length (form (ls.length : Nat) ++ (ls.take u.1).flatMap formB).length), (0, .slice c ls.length ls.length)])
    (fun u n4 h4 => u.1 ≤ ls.length ∧ n ≤ n4 ∧ Ext n h h4 ∧ OwnSl h4 n n4 u.2 1 (form (ls.length : Nat) ++ (ls.take u.1).flatMap formB).length (bytesV (form (ls.length : Nat) ++ (ls.take u.1).flatMap formB)))
    (fun u => ls.length - u.1) (0, a1) (by simp only [List.take_zero, List.flatMap_nil, List.append_nil]; exact envs) ⟨Nat.zero_le _, k1, E1, by simp only [List.take_zero, List.flatMap_nil, List.append_nil]; exact O1⟩ ?_
  rintro ⟨i, a4⟩ n4 h4 ⟨hi, hn4, E4, O4⟩
  dsimp only at hi O4 ⊢
  by_cases hlt : i < ls.length
  · have S4 := S.ext E4 hn4
    have hout := S4.out
    have hrow := S4.row i hlt
    have hA : SlA c ls.length := SlR.sla hout
    have hsn : sb c < n4 := SlR.lt hout (by omega)
    have hmem : ls.getD i [] ∈ ls := by simp [List.getD, List.getElem?_eq_getElem hlt]
    have hr1 := hrl _ hmem
    have hfb := formB_le (ls.getD i [])
    have hnx : (ls.take (i + 1)).flatMap formB = (ls.take i).flatMap formB ++ formB (ls.getD i []) := by
      rw [List.take_succ_eq_append_getElem hlt, List.flatMap_append]; simp [List.getD, hlt]
    have hf1 := hfm i
    obtain ⟨t, ht⟩ : ∃ t, t = form (ls.length : Nat) ++ (ls.take i).flatMap formB := ⟨_, rfl⟩
    have htl : t.length ≤ 2206206001200 := by rw [ht, List.length_append]; omega
    have hnx2 : form (ls.length : Nat) ++ (ls.take (i + 1)).flatMap formB = t ++ formB (ls.getD i []) := by rw [hnx, ht, List.append_assoc]
    rw [← ht] at O4 ⊢
    repeat' (first | refine stpS ?_ | (refine stp2 ?_ ?_ <;> intro _))
    simp only [Int.toNat_natCast]
    refine RS.call rfl opds (refBytes_rf (ls.getD i []) (ad i) _ n4 h4 hrow rfl (by omega)) none'W ?_
    rintro r n5 h5 k5 ⟨a5, rfl, E5, O5⟩
    repeat' (first | refine stpS ?_ | (refine stp2 ?_ ?_ <;> intro _))
    refine RS.append rfl opd opd (O4.ext E5 k5) (SlB.src O5.slb) full_slice (fun b hb => Or.inr (by omega)) (by omega) ?_
    intro a6 n6 h6 k6 O6 X6 w6
    have E6 : Ext n h h6 := (E4.trans hn4 E5).trans (by omega) (X6.ext (O4.ext E5 k5))
    rw [← bytesV_app, ← List.length_append, ← hnx2] at O6
    rw [← List.length_append, ← hnx2]
    repeat' (first | refine stpS ?_ | (refine stp2 ?_ ?_ <;> intro _))
    exact nextC.normal ⟨(i + 1, a6), by dsimp only; omega, envs, by dsimp only; omega, by omega, E6, O6⟩
  · obtain rfl : i = ls.length := by omega
    rw [List.take_length] at O4 ⊢
    repeat' (first | refine stpS ?_ | (refine stp2 ?_ ?_ <;> intro _))
    exact ⟨a4, rfl, E4, O4⟩
end Go.Proofs.YtfbddbpbifnhfaaGreatDoor

/- Contracts of wal: records of two commits, compared. -/
namespace Go.Proofs.YtfbddbpbifnhfaaGreatDoor
open Go.Abs Cd

set_option maxHeartbeats 4000000 in
theorem sameRec_ev (ls ks : List (List UInt8)) (ad ae : Nat → Option Addr) (a c : Option Addr) (n : Nat) (h : AH) (S : SlQ h n a ad ls) (S2 : SlQ h n c ae ks) (hl : ls.length ≤ 1099511627776) (hk : ks.length ≤ 1099511627776) :
    Ev Tryz.prog none' 53 #[.slice a ls.length ls.length, .slice c ks.length ks.length] n h (.bool (decide (ls = ks))) n h := by
  refine RF.pure rfl fun n' hn => ?_
  have S := S.ext (Ext.refl n h) hn
  have S2 := S2.ext (Ext.refl n h) hn
  refine RF.of Tryz.func53 rfl rfl (Nat.le_of_ble_eq_true rfl) ?_; dsimp only [argEnv]
  by_cases hlk : ls.length = ks.length
  rotate_left
  · rw [decide_eq_false (fun q => hlk (by rw [q]))]
    repeat' (first | refine stpS ?_ | (refine stp2 ?_ ?_ <;> intro _))
    rfl
  repeat' (first | refine stpS ?_ | (refine stp2 ?_ ?_ <;> intro _))
  refine RC.loop ?_
  refine RL.inv (α := Nat) (fun i => [(5, .int .i64 (i : Nat)), (0, .slice a ls.length ls.length), (0 + 1, .slice c ks.length ks.length)])
    (fun i n1 h1 => i ≤ ls.length ∧ n1 = n' ∧ h1 = h ∧ ls.take i = ks.take i)
    (fun i => ls.length - i) 0 envs ⟨by omega, rfl, rfl, rfl⟩ ?_
  rintro i n1 h1 ⟨hi, rfl, rfl, htk⟩
  have o1 := S.out
  have o2 := S2.out
  by_cases hlt : i < ls.length
  · have r1 := S.row i hlt
    have r2 := S2.row i (by omega)
    have t1 : ls.take (i + 1) = ls.take i ++ [ls.getD i []] := by rw [List.take_succ_eq_append_getElem hlt]; simp [List.getD, hlt]
    have t2 : ks.take (i + 1) = ks.take i ++ [ks.getD i []] := by rw [List.take_succ_eq_append_getElem (by omega)]; simp [List.getD, show i < ks.length by omega]
    have l1 := SlR.lt o1 (by omega)
    have l2 := SlR.lt o2 (by omega)
    have hgi : (i : Int).toNat = i := rfl
    by_cases he : ls.getD (i : Int).toNat [] = ks.getD (i : Int).toNat []
    · have hs1 : (⟨(ls.getD (i : Int).toNat []).toArray⟩ : ByteArray) = ⟨(ks.getD (i : Int).toNat []).toArray⟩ := by rw [he]
      have hnx : ls.take (i + 1) = ks.take (i + 1) := by rw [t1, t2, htk]; rw [hgi] at he; rw [he]
      repeat' (first | refine stpS ?_ | (refine stp2 ?_ ?_ <;> intro _))
      repeat' (first | refine stp ?_ | (refine stp2 ?_ ?_ <;> intro _))
      all_goals (first | exact nextC.normal ⟨i + 1, by omega, envs, by omega, rfl, rfl, hnx⟩ | (rename_i q; exact absurd hs1 q) | (rename_i q; exact absurd hs1.symm q))
    · have hs1 : (⟨(ls.getD (i : Int).toNat []).toArray⟩ : ByteArray) ≠ ⟨(ks.getD (i : Int).toNat []).toArray⟩ := fun e => he (by injection e with e; simpa using congrArg Array.toList e)
      have hs2 := Ne.symm hs1
      have hD : ls ≠ ks := fun e => he (by rw [e])
      rw [decide_eq_false hD]
      repeat' (first | refine stpS ?_ | (refine stp2 ?_ ?_ <;> intro _))
      repeat' (first | refine stp ?_ | (refine stp2 ?_ ?_ <;> intro _))
      all_goals (first | rfl | (rename_i q; exact absurd q hs1) | (rename_i q; exact absurd q hs2))
  obtain rfl : i = ls.length := by omega
  rw [List.take_length, hlk, List.take_length] at htk
  rw [decide_eq_true htk]
  repeat' (first | refine stpS ?_ | (refine stp2 ?_ ?_ <;> intro _))
  rfl
end Go.Proofs.YtfbddbpbifnhfaaGreatDoor

/- Contracts of wal: a log that no call made. -/
namespace Go.Proofs.YtfbddbpbifnhfaaGreatDoor
open Go.Abs Cd

section
variable {h : AH} {n : Nat} {p : Option Addr}
end
end Go.Proofs.YtfbddbpbifnhfaaGreatDoor

/- Contracts of wal: the commits told one by one. -/
namespace Go.Proofs.YtfbddbpbifnhfaaGreatDoor
open Go.Abs Cd

structure CmK (q : Nat) (a : Option Addr) (N : List CmA) (n : Nat) (h : AH) : Prop where
  lt : q < n
  c0 : h.cell q 0 = .slice a N.length N.length
  sl : SlR h n a 1 N.length (fun j => (lgC N).getD j (.tuple #[]))
  cm : ∀ x ∈ N, ∃ ad, SlQ h n x.1 ad x.2
def cmVal (L : List (List (List UInt8))) (i : Nat) (vs : List Value) (n : Nat) (h : AH) : Prop := ∃ a ad l, vs = [.slice a l.length l.length] ∧ L[i]? = some l ∧ SlQ h n a ad l
set_option maxHeartbeats 4000000 in
theorem commits1_iter (q : Nat) (a : Option Addr) (N : List CmA) (hL : N.length ≤ 1099511627776) (hs : ∀ x ∈ N, x.2.length ≤ 1099511627776 ∧ ∀ l ∈ x.2, l.length ≤ 1099511627776) :
    IterFP Tryz.prog 55 [.pointer (some ⟨q, 0, none⟩)] N.length (cmVal (N.map (·.2))) (CmK q a N) := by
  intro W fv I D n h it hK h0 hn
  obtain ⟨k1, k2, k3, k4⟩ := hK 0 n h h0
  refine RF.of Tryz.func55 rfl rfl (Nat.le_of_ble_eq_true rfl) ?_; dsimp only [argEnv]
  repeat' (first | refine stpS ?_ | (refine stp2 ?_ ?_ <;> intro _))
  refine RC.loop ?_
  refine RL.inv (α := Nat) (fun y => [(7, .int .i64 (y : Nat)), (6, .int .i64 N.length), (5, .slice a N.length N.length), (0, fv)])
    (fun y n1 h1 => y ≤ N.length ∧ n ≤ n1 ∧ I y n1 h1) (fun y => N.length - y) 0 envs ⟨Nat.zero_le _, Nat.le_refl _, h0⟩ ?_
  rintro i n1 h1 ⟨hi, hn1, hI⟩
  obtain ⟨q1, q2, q3, q4⟩ := hK i n1 h1 hI
  by_cases hlt : i < N.length
  · obtain ⟨x, hx⟩ : ∃ x, N[i]? = some x := ⟨_, List.getElem?_eq_getElem hlt⟩
    obtain ⟨ad, hS⟩ := q4 x (List.mem_of_getElem? hx)
    obtain ⟨s1, s2⟩ := hs x (List.mem_of_getElem? hx)
    have hA : SlA a N.length := SlR.sla q3
    have hsn : sb a < n1 := SlR.lt q3 (by omega)
    have d0 : h1.cell (sb a) (so a + i) = .slice x.1 x.2.length x.2.length := (SlR.cell q3 i (by omega)).trans (by simp [lgC, List.getD, List.getElem?_map, hx])
    repeat' (first | refine stpS ?_ | (refine stp2 ?_ ?_ <;> intro _))
    refine RS.call rfl opds (own_rf x.2 ad x.1 x.2.length n1 h1 hS rfl s1 s2 (by omega)) none'W ?_
    rintro r n2 h2 hle2 ⟨a2, M, rfl, E2, C2, hM⟩
    have hI2 := it.mono i n1 h1 n2 h2 hI hle2 E2
    have hval : cmVal (N.map (·.2)) i [.slice a2 x.2.length x.2.length] n2 h2 := by
      have := C2.slq
      rw [hM] at this
      exact ⟨a2, _, x.2, rfl, by rw [List.getElem?_map, hx]; rfl, this⟩
    repeat' (first | refine stpS ?_ | (refine stp2 ?_ ?_ <;> intro _))
    refine RS.callV rfl opd opds (it.step i _ n2 h2 hlt hval hI2) (fun b hb => .inl hb) ?_
    rintro r n3 h3 hle3 (⟨rfl, hI3⟩ | ⟨rfl, hD⟩)
    · repeat' (first | refine stpS ?_ | (refine stp2 ?_ ?_ <;> intro _))
      exact nextC.normal ⟨i + 1, by omega, envs, by omega, by omega, hI3⟩
    · repeat' (first | refine stpS ?_ | (refine stp2 ?_ ?_ <;> intro _))
      exact .inr hD
  · obtain rfl : i = N.length := by omega
    repeat' (first | refine stpS ?_ | (refine stp2 ?_ ?_ <;> intro _))
    exact .inl hI
end Go.Proofs.YtfbddbpbifnhfaaGreatDoor

/- Contracts of wal: the commits of a log. -/
namespace Go.Proofs.YtfbddbpbifnhfaaGreatDoor
open Go.Abs Cd

set_option maxHeartbeats 4000000 in
theorem cloneC_rf (N : List CmA) (a : Option Addr) (n : Nat) (h : AH) (hO : OwnSl h 0 n a 1 N.length (lgC N)) (hL : N.length ≤ 1099511627776) :
    RF Tryz.prog none' 54 #[.slice a N.length N.length] n h (fun r n' h' => ∃ a', r = .slice a' N.length N.length ∧ Ext n h h' ∧ OwnSl h' n n' a' 1 N.length (lgC N)) := by
  refine RF.of Tryz.func54 rfl rfl (Nat.le_of_ble_eq_true rfl) ?_; dsimp only [argEnv]
  have S := hO.slr
  rcases S.two with ⟨ha, hl⟩ | ⟨b, o, ha⟩
  · have : N = [] := List.eq_nil_of_length_eq_zero hl
    subst this; subst ha
    repeat' (first | refine stpS ?_ | (refine stp2 ?_ ?_ <;> intro _))
    exact ⟨none, rfl, ext, OwnSl.nil (by omega)⟩
  · subst ha
    have hsrc := hO.src
    repeat' (first | refine stpS ?_ | (refine stp2 ?_ ?_ <;> intro _))
    refine RS.append rfl opd opd (OwnSl.new (z := 1) (m := 0) (cs := []) (Nat.le_refl n) rfl rfl) (hO.ext ext (Nat.le_succ n)).src full_slice (fun b hb => Or.inr (by omega)) (by omega) ?_
    intro a' n1 h1 hle hO hX hnew
    have hE := hX.ext (OwnSl.new (z := 1) (m := 0) (cs := []) (Nat.le_refl n) rfl rfl)
    simp only [Nat.zero_add, List.nil_append] at hO ⊢
    repeat' (first | refine stpS ?_ | (refine stp2 ?_ ?_ <;> intro _))
    exact ⟨a', rfl, ext, hO⟩
set_option maxHeartbeats 4000000 in
theorem commits_rf {h : AH} {n lg d : Nat} {F G B : Nat → Prop} {a : Option Addr} {N : List CmA} {X : LS} (R : LgR h n lg d F G a N B X) :
    RF Tryz.prog none' 19 #[.pointer (some ⟨lg, 0, none⟩)] n h (fun r n' h' => ∃ q a', r = .func (.func 55) #[] #[.pointer (some ⟨q, 0, none⟩)] ∧ Ext n h h' ∧ n ≤ q ∧ CmK q a' N n' h') := by
  refine RF.of Tryz.func19 rfl rfl (Nat.le_of_ble_eq_true rfl) ?_; dsimp only [argEnv]
  have hlt := R.hi
  have c0 := R.c0
  have hNl : X.L.length = N.length := by rw [← R.nl, List.length_map]
  have c2 : h.cell lg 2 = .slice a N.length N.length := by rw [← hNl]; exact R.c2
  have hO : OwnSl h 0 n a 1 N.length (lgC N) := by rw [← hNl]; exact R.own
  have hle := R.le
  have hme := R.me
  repeat' (first | refine stpS ?_ | (refine stp2 ?_ ?_ <;> intro _))
  refine RS.gen (fun g => Ext n h g ∧ g.info n = some ⟨1, 0, true, 0⟩) ⟨ext, info⟩ ?_
  rintro g ⟨E0, i0⟩
  have c0 := c_ext E0 hlt c0
  have c2 := c_ext E0 hlt c2
  refine RS.call1 rfl opds (none_ev (by omega) c0) none'W ?_
  repeat' (first | refine stpS ?_ | (refine stp2 ?_ ?_ <;> intro _))
  refine RS.call rfl opds (cloneC_rf N a (n + 1) g (hO.ext E0 (Nat.le_succ n)) (by omega)) none'W ?_
  rintro r n1 h1 k1 ⟨a', rfl, E1, O1⟩
  have i1 := (E1.info n (Nat.lt_succ_self n)).trans i0
  have E1' : Ext n h h1 := E0.trans (Nat.le_succ n) E1
  repeat' (first | refine stpS ?_ | (refine stp2 ?_ ?_ <;> intro _))
  refine ⟨n, a', rfl, E1'.appSets (Nat.le_refl _), Nat.le_refl _, ⟨by omega, cell, ?_, fun x hx => ?_⟩⟩
  · exact OwnSl.slr (O1.sets (Nat.lt_succ_self n))
  · obtain ⟨ad, S, -⟩ := R.cm x hx
    exact ⟨ad, S.ext (E1'.appSets (Nat.le_refl _)) (by omega)⟩
end Go.Proofs.YtfbddbpbifnhfaaGreatDoor

/- Contracts of wal: are just these commits told? -/
namespace Go.Proofs.YtfbddbpbifnhfaaGreatDoor
open Go.Abs Cd

theorem slR_obj {h : AH} {n z m b : Nat} {c : Option Addr} {f : Nat → Value} {mm : Meta} {o : AObj} (s : SlR h n c z m f) (hi : h.info b = some mm) (h0 : mm.sz = 0) (hz : z ≠ 0) : SlR (h.app (.obj b o)) n c z m f := by
  refine ⟨?_, fun j hj => c_obj (s.cell j hj)⟩
  rcases s.shape with k | ⟨k1, k2, m2, k3, k4⟩
  · exact .inl k
  · refine .inr ⟨k1, k2, m2, i_obj_ne (fun e => ?_) k3, k4⟩
    rw [e, hi] at k3; cases k3
    exact hz (k4.symm.trans h0)
set_option maxHeartbeats 4000000 in
theorem told_rf (f : FuncId) (caps : List Value) (K : Nat → AH → Prop) (L : List (List (List UInt8))) (N : List CmA) (w : Option Addr) (n : Nat) (h : AH) (it : IterFP Tryz.prog f caps L.length (cmVal L) K) (hK : ∀ n' h', n ≤ n' → Ext n h h' → K n' h')
    (hW : SlR h n w 1 N.length (fun j => (lgC N).getD j (.tuple #[]))) (hN : ∀ x ∈ N, ∃ ad, SlQ h n x.1 ad x.2) (hL : N.map (·.2) = L) (hl : L.length ≤ 1099511627776) (hs : ∀ l ∈ L, l.length ≤ 1099511627776) (hn0 : 0 < n) :
    RF Tryz.prog none' 18 #[.func (.func f) #[] caps.toArray, .slice w N.length N.length] n h (fun r n' h' => r = .bool true ∧ Ext n h h') := by
  have hNL : N.length = L.length := by rw [← hL, List.length_map]
  rw [hNL]
  rw [hNL] at hW
  refine RF.of Tryz.func18 rfl rfl (Nat.le_of_ble_eq_true rfl) ?_; dsimp only [argEnv]
  repeat' (first | refine stpS ?_ | (refine stp2 ?_ ?_ <;> intro _))
  obtain ⟨g, hg⟩ : ∃ g, g = (((h.app (.new n ⟨1, 0, true, 0⟩ [.slice w L.length L.length])).app (.new (n + 1) ⟨1, 0, true, 0⟩ [.bool false])).app (.new (n + 1 + 1) ⟨1, 0, true, 0⟩ [.int .i64 0])).app (.sets (n + 1 + 1) 0 [.int .i64 0]) := ⟨_, rfl⟩
  refine RC.heap hg ?_
  have E0 : Ext n h g := by rw [hg]; exact ext
  have k0 : g.cell n 0 = .slice w L.length L.length := by rw [hg]; exact cell
  have k2 : g.cell (n + 1 + 1) 0 = .int .i64 0 := by rw [hg]; exact cell
  have i1 : g.info (n + 1) = some ⟨1, 0, true, 0⟩ := by rw [hg]; exact info
  have i2 : g.info (n + 1 + 1) = some ⟨1, 0, true, 0⟩ := by rw [hg]; exact info
  clear hg
  refine RC.rangeFunc opd (env0 := [(3, .pointer (some ⟨n, 0, none⟩)), (4, .pointer (some ⟨n + 1, 0, none⟩)), (5, .pointer (some ⟨n + 1 + 1, 0, none⟩))]) envs (W := fun b => n ≤ b) (by intro b hb; first | omega | (dsimp only at hb ⊢; omega) | (dsimp only at hb; omega) | (dsimp only; omega)) ?_
  intro A hA
  refine (it _ _
    (fun i n6 h6 => n + 4 ≤ n6 ∧ Ext n h h6 ∧ h6.info (n + 1 + 1 + 1) = some (AObj.loop A).m ∧ h6.info (n + 1) = some ⟨1, 0, true, 0⟩ ∧ h6.info (n + 1 + 1) = some ⟨1, 0, true, 0⟩ ∧ h6.cell n 0 = .slice w L.length L.length ∧ h6.cell (n + 1 + 1) 0 = .int .i64 (i : Nat) ∧ i ≤ L.length)
    (fun _ _ => False) _ _ ⟨?_, ?_⟩ ?_ ?_ (by omega)).mono ?_
  · rintro i n6 h6 n7 h7 ⟨q1, q2, q3, q4, q5, q6, q7, q8⟩ hn hE
    exact ⟨by omega, q2.trans (by omega) hE, (hE.info _ (by omega)).trans q3, (hE.info _ (by omega)).trans q4, (hE.info _ (by omega)).trans q5, c_ext hE (by omega) q6, c_ext hE (by omega) q7, q8⟩
  · rintro i vs n6 h6 hil ⟨b, ad, l, rfl, hx, hS⟩ ⟨q1, q2, q3, q4, q5, q6, q7, q8⟩
    obtain ⟨y, hy⟩ : ∃ y, N[i]? = some y := ⟨_, List.getElem?_eq_getElem (by omega)⟩
    have hyl : y.2 = l := by
      rw [← hL, List.getElem?_map, hy] at hx
      exact Option.some.inj hx
    obtain ⟨ae, hS2⟩ := hN y (List.mem_of_getElem? hy)
    have hll := hs l (List.mem_of_getElem? hx)
    have hA1 : SlA w L.length := SlR.sla hW
    have hwn : sb w < n := SlR.lt hW (by omega)
    have d0 : h6.cell (sb w) (so w + i) = .slice y.1 y.2.length y.2.length := c_ext q2 hwn ((SlR.cell hW i (by omega)).trans (by simp [lgC, List.getD, List.getElem?_map, hy]))
    rw [hyl] at d0
    have hS6 : SlQ (h6.app (.obj (n + 1 + 1 + 1) (.loop A.busy))) n6 b ad l := ⟨slR_obj hS.out q3 rfl (by decide), fun j hj => slR_obj (hS.row j hj) q3 rfl (by decide)⟩
    have hN6 : SlQ (h6.app (.obj (n + 1 + 1 + 1) (.loop A.busy))) n6 y.1 ae l := by
      rw [← hyl]
      have e := hS2.ext q2 (by omega : n ≤ n6)
      exact ⟨slR_obj e.out q3 rfl (by decide), fun j hj => slR_obj (e.row j hj) q3 rfl (by decide)⟩
    have hsm := sameRec_ev l l ad ae b y.1 n6 (h6.app (.obj (n + 1 + 1 + 1) (.loop A.busy))) hS6 hN6 hll hll
    rw [decide_eq_true rfl] at hsm
    refine VF.yield1 hA q3 rfl (by show n ≤ _; omega) (by omega) ?_
    have d0' : (h6.app (.obj (n + 1 + 1 + 1) (.loop A.busy))).cell (sb w) (so w + i) = .slice y.1 l.length l.length := c_obj d0
    repeat' (first | refine stpS ?_ | (refine stp2 ?_ ?_ <;> intro _))
    refine RS.call1 rfl opds hsm none'W ?_
    repeat' (first | refine stpS ?_ | (refine stp2 ?_ ?_ <;> intro _))
    exact .inl ⟨rfl, by omega, ext, info, info, info, cell, cell, hil⟩
  · rintro i n6 h6 ⟨q1, q2, q3, q4, q5, q6, q7, q8⟩
    exact hK n6 h6 (by omega) q2
  · refine ⟨by omega, ?_, info, info, info, cell, cell, Nat.zero_le _⟩
    exact E0.trans (Nat.le_refl _) (Ext.appObj (by omega) (Ext.refl _ _))
  · rintro r n6 h6 (⟨q1, q2, q3, q4, q5, q6, q7, q8⟩ | q)
    · refine rangeC.normal q3 ?_
      repeat' (first | refine stpS ?_ | (refine stp2 ?_ ?_ <;> intro _))
      exact ⟨rfl, ext⟩
    · exact q.elim
end Go.Proofs.YtfbddbpbifnhfaaGreatDoor

/- The plain law of commits: what is written is what is read. -/
namespace Go.Proofs.YtfbddbpbifnhfaaGreatDoor
open Go.Abs Cd

theorem drop_succ_get (ls : List (List UInt8)) (i : Nat) (hi : i < ls.length) : ls.drop i = ls[i] :: ls.drop (i + 1) := List.drop_eq_getElem_cons hi
theorem restN_form (ls : List (List UInt8)) (r : List UInt8) : ∀ i, i ≤ ls.length → restN (ls.flatMap formB ++ r) i = (ls.drop i).flatMap formB ++ r := by
  intro i
  induction i with
  | zero => intro _; rfl
  | succ i ih =>
    intro hi
    have h1 := ih (by omega)
    show (restN _ i).drop (pB (restN _ i)).2.1 = _
    rw [h1, drop_succ_get ls i (by omega), List.flatMap_cons, List.append_assoc, pB_form, List.drop_left]
theorem recN_form (ls : List (List UInt8)) (r : List UInt8) (i : Nat) (hi : i < ls.length) : recN (ls.flatMap formB ++ r) i = (ls[i], (formB ls[i]).length, 0) := by
  unfold recN
  rw [restN_form ls r i (by omega), drop_succ_get ls i hi, List.flatMap_cons, List.append_assoc, pB_form]
theorem rowsN_form (ls : List (List UInt8)) (r : List UInt8) : rowsN (ls.flatMap formB ++ r) ls.length = ls := by
  unfold rowsN
  apply List.ext_getElem
  · simp
  · intro i h1 h2
    rw [List.getElem_map, List.getElem_range, recN_form ls r i h2]
theorem recordsP_data (ls : List (List UInt8)) (h1 : 1 ≤ ls.length) (h2 : ls.length ≤ 4096) : recordsP (dataB ls) = (ls, true) := by
  have hp : pI (dataB ls) = (((ls.length : Nat) : Int), (form (ls.length : Nat)).length, 0) := pI_form (ls.length : Nat) (by omega) (by omega) _
  unfold recordsP
  rw [hp]
  dsimp only
  have hd : (dataB ls).drop (form (ls.length : Nat)).length = ls.flatMap formB ++ [] := by unfold dataB; rw [List.drop_left, List.append_nil]
  rw [hd, Int.toNat_natCast, rowsN_form, restN_form ls [] ls.length (Nat.le_refl _), if_pos ⟨rfl, by omega, by omega, fun i hi => by rw [recN_form ls [] i hi]⟩]
  simp
theorem mkd_mark (g s m c : Int) (hg : may g) (hs : may s) (hm : 0 ≤ m ∧ m ≤ 262144) (hc : 0 ≤ c ∧ c < 4294967296) : mkd g s (markB g s m c) = (m, c, true) := by
  have hg' := hg.i64
  have hs' := hs.i64
  obtain ⟨t, ht⟩ : ∃ t, markB g s m c = form g ++ (form s ++ (form m ++ (form c ++ t))) := ⟨zeros (508 - (headB g s m c).length) ++ little (crc (padB g s m c)), by
    show headB g s m c ++ _ ++ _ = _
    unfold headB
    simp only [List.append_assoc]⟩
  have e1 : pI (markB g s m c) = (g, (form g).length, 0) := by rw [ht]; exact pI_form g hg'.1 hg'.2 _
  have e2 : pI ((markB g s m c).drop (form g).length) = (s, (form s).length, 0) := by rw [ht, List.drop_left]; exact pI_form s hs'.1 hs'.2 _
  have e3 : pI (((markB g s m c).drop (form g).length).drop (form s).length) = (m, (form m).length, 0) := by rw [ht, List.drop_left, List.drop_left]; exact pI_form m (by omega) (by omega) _
  have e4 : pI ((((markB g s m c).drop (form g).length).drop (form s).length).drop (form m).length) = (c, (form c).length, 0) := by rw [ht, List.drop_left, List.drop_left, List.drop_left]; exact pI_form c (by omega) (by omega) _
  unfold mkd
  rw [e1]
  dsimp only
  rw [e2]
  dsimp only
  rw [e3]
  dsimp only
  rw [e4]
  dsimp only
  rw [if_pos ⟨rfl, rfl, rfl, rfl, hg, hs, hm.1, hm.2, hc, rfl⟩]
def comB (gen : Int) (k : Nat) (ls : List (List UInt8)) : List UInt8 := markD gen (k : Nat) (dataB ls) ++ fillB (dataB ls)
theorem nextP_com (gen : Int) (k : Nat) (p q : List UInt8) (ls : List (List UInt8)) (hg : may gen) (hk : may (k : Nat)) (h1 : 1 ≤ ls.length) (h2 : ls.length ≤ 4096) (h3 : (dataB ls).length ≤ 262144) :
    nextP gen k p.length (p ++ (comB gen k ls ++ q)) = some (ls, 512 + (fillB (dataB ls)).length) := by
  have hc := crc_lt (dataB ls)
  have hml : (markD gen (k : Nat) (dataB ls)).length = 512 := markB_length hg.i64 hk.i64 ⟨by omega, by omega⟩ ⟨by omega, by omega⟩
  have hx := mkd_mark gen (k : Nat) ((dataB ls).length : Nat) (crc (dataB ls) : Nat) hg hk ⟨by omega, by omega⟩ ⟨by omega, by omega⟩
  have hf := fillB_length (dataB ls)
  unfold nextP comB
  rw [if_neg (by simp only [List.length_append]; omega), List.drop_left]
  have e1 : (markD gen (k : Nat) (dataB ls) ++ fillB (dataB ls) ++ q).take 512 = markD gen (k : Nat) (dataB ls) := by rw [List.append_assoc, ← hml, List.take_left]
  have e2 : (markD gen (k : Nat) (dataB ls) ++ fillB (dataB ls) ++ q).drop 512 = fillB (dataB ls) ++ q := by rw [List.append_assoc, ← hml, List.drop_left]
  have e3 : (fillB (dataB ls) ++ q).take (dataB ls).length = dataB ls := by unfold fillB; rw [List.append_assoc, List.take_left]
  rw [e1, e2]
  have hx : mkd gen (k : Nat) (markD gen (k : Nat) (dataB ls)) = ((((dataB ls).length : Nat) : Int), ((crc (dataB ls) : Nat) : Int), true) := hx
  dsimp only
  rw [hx]
  dsimp only
  rw [Int.toNat_natCast, e3, recordsP_data ls h1 h2, if_pos ⟨rfl, by rw [List.length_append]; omega, rfl, rfl, by rw [List.length_append]; omega, List.take_left⟩]
end Go.Proofs.YtfbddbpbifnhfaaGreatDoor

/- The plain law of writes: a file's bytes behind a write. -/
namespace Go.Proofs.YtfbddbpbifnhfaaGreatDoor
open Go.Abs Cd

def pad (l : List UInt8) (k : Nat) : List UInt8 := (l ++ zeros (k - l.length)).take k
def over (l : List UInt8) (k : Nat) (b : List UInt8) : List UInt8 := pad l k ++ (b ++ l.drop (k + b.length))
theorem pad_length (l : List UInt8) (k : Nat) : (pad l k).length = k := by
  unfold pad zeros
  rw [List.length_take, List.length_append, List.length_replicate]
  omega
theorem pad_of (l : List UInt8) (k : Nat) (h : k ≤ l.length) : pad l k = l.take k := by
  unfold pad zeros
  rw [show k - l.length = 0 by omega, List.replicate_zero, List.append_nil]
theorem doP_over (l : List UInt8) (f k : Nat) (b : List UInt8) : Dk.doP l ⟨f, false, k, b⟩ = over l k b := by
  unfold Dk.doP over Abs.splice
  simp only [Bool.false_eq_true, if_false]
  rw [List.append_assoc]
  congr 1
  · unfold pad zeros
    by_cases h : k ≤ l.length
    · rw [List.take_append_of_le_length h, List.take_append_of_le_length h]
    · rw [List.take_append, List.take_append, List.take_replicate, List.take_replicate]
      congr 2; omega
  · congr 1
    by_cases h : k + b.length ≤ l.length
    · rw [show k + b.length - l.length = 0 by omega, List.replicate_zero, List.append_nil]
    · rw [List.drop_of_length_le (by rw [List.length_append, List.length_replicate]; omega), List.drop_of_length_le (by omega)]
theorem over_app (l : List UInt8) (k : Nat) (b c : List UInt8) : over (over l k b) (k + b.length) c = over l k (b ++ c) := by
  have hp := pad_length l k
  have h1 : pad (over l k b) (k + b.length) = pad l k ++ b := by
    rw [pad_of _ _ (by unfold over; simp only [List.length_append, hp]; omega)]
    unfold over
    rw [← List.append_assoc, List.take_left' (by rw [List.length_append, hp])]
  have h2 : (over l k b).drop (k + b.length + c.length) = l.drop (k + (b ++ c).length) := by
    unfold over
    rw [← List.append_assoc, ← List.drop_drop, List.drop_left' (by rw [List.length_append, hp]), List.drop_drop, List.length_append]
    congr 1; omega
  rw [over, h1, h2, over, List.append_assoc, List.append_assoc]
theorem now_chunks (f : Nat) : ∀ (m k : Nat) (b l : List UInt8), b.length ≤ m → 0 < b.length → Dk.nowP f l (Dk.chunks f b.length k b) = over l k b := by
  intro m
  induction m with
  | zero => intro k b l h1 h2; omega
  | succ m ih =>
    intro k b l h1 h2
    rw [Dk.chunks_step f k b h2]
    have hk : k % 512 < 512 := Nat.mod_lt _ (by decide)
    generalize hj : min b.length (512 - k % 512) = j
    have hj0 : 0 < j := by omega
    have hjb : j ≤ b.length := by omega
    have hstep : ∀ ps, Dk.nowP f l (⟨f, false, k, b.take j⟩ :: ps) = Dk.nowP f (over l k (b.take j)) ps := fun ps => by
      unfold Dk.nowP
      rw [List.filter_cons_of_pos (by simp), List.foldl_cons, doP_over]
    rw [hstep]
    by_cases hr : j = b.length
    · rw [hr, List.take_length, List.drop_length]
      simp [Dk.nowP, Dk.chunks]
    · have hd : (b.drop j).length = b.length - j := List.length_drop
      have ht : (b.take j).length = j := by rw [List.length_take]; omega
      rw [ih (k + j) (b.drop j) _ (by omega) (by omega)]
      have := over_app l k (b.take j) (b.drop j)
      rw [ht, List.take_append_drop] at this
      exact this
end Go.Proofs.YtfbddbpbifnhfaaGreatDoor

/- The plain law of a log over a disk whose power stays on. -/
namespace Go.Proofs.YtfbddbpbifnhfaaGreatDoor
open Go.Abs Cd

theorem now_app (f : Nat) (l : List UInt8) (p q : List Dk.Pc) : Dk.nowP f l (p ++ q) = Dk.nowP f (Dk.nowP f l p) q := by
  unfold Dk.nowP
  rw [List.filter_append, List.foldl_append]
theorem wrS_on {S : Dk.DS} {k : Nat} {b : List UInt8} (hf : S.fuse = 0) (hd : S.down = false) (hb : 0 < b.length) (hk : k + b.length ≤ 4194304) :
    (wrS S k b).1 = 0 ∧ (wrS S k b).2.fuse = 0 ∧ (wrS S k b).2.down = false ∧ (wrS S k b).2.now 1 = over (S.now 1) k b ∧ (wrS S k b).2.calls = S.calls + 2 := by
  have hm : S.may 1 = 0 := by unfold Dk.DS.may; rw [hd]; simp
  have hw : Dk.writeE (k : Nat) b = 0 := by
    unfold Dk.writeE
    rw [if_neg (by omega), if_neg (by omega)]
  have he : S.write 1 (k : Nat) b = (0, { S with ps := S.ps ++ Dk.chunks 1 b.length k b, calls := S.calls + 1 }) := by
    unfold Dk.DS.write
    rw [if_neg (fun z => z hm), if_neg (fun z => z hw)]
    unfold Dk.DS.ends
    rw [if_pos (show (S.writes (1 : Int).toNat (k : Int).toNat b).fuse = 0 from hf)]; rfl
  have hs : ({ S with ps := S.ps ++ Dk.chunks 1 b.length k b, calls := S.calls + 1 } : Dk.DS).sync 1 = (0, ({ S with ps := S.ps ++ Dk.chunks 1 b.length k b, calls := S.calls + 1 + 1 } : Dk.DS).synced 1) := by
    unfold Dk.DS.sync
    have hm2 : ({ S with ps := S.ps ++ Dk.chunks 1 b.length k b, calls := S.calls + 1 } : Dk.DS).may 1 = 0 := hm
    have hen : ({ S with ps := S.ps ++ Dk.chunks 1 b.length k b, calls := S.calls + 1 } : Dk.DS).ends = (0, { S with ps := S.ps ++ Dk.chunks 1 b.length k b, calls := S.calls + 1 + 1 }) := by unfold Dk.DS.ends; rw [if_pos (show ({ S with ps := S.ps ++ Dk.chunks 1 b.length k b, calls := S.calls + 1 } : Dk.DS).fuse = 0 from hf)]
    rw [if_neg (fun z => z hm2), hen, if_neg (fun z => z rfl)]; rfl
  unfold wrS
  rw [he, if_neg (fun z => z rfl), hs]
  refine ⟨rfl, hf, hd, ?_, by show S.calls + 1 + 1 = _; omega⟩
  rw [Dk.synced_now]
  show Dk.nowP 1 (S.sure 1) (S.ps ++ Dk.chunks 1 b.length k b) = _
  rw [now_app, now_chunks 1 b.length k b _ (Nat.le_refl _) hb]; rfl
end Go.Proofs.YtfbddbpbifnhfaaGreatDoor

/- The plain law of a log over a disk whose power stays on: what is committed is there when it is opened again. -/
namespace Go.Proofs.YtfbddbpbifnhfaaGreatDoor
open Go.Abs Cd

def okC (ls : List (List UInt8)) : Prop := 1 ≤ ls.length ∧ ls.length ≤ 4096 ∧ (dataB ls).length ≤ 262144
def logB (gen : Int) : Nat → List (List (List UInt8)) → List UInt8
  | _, [] => []
  | k, l :: L => comB gen k l ++ logB gen (k + 1) L
theorem logB_app (gen : Int) : ∀ (L M : List (List (List UInt8))) (k : Nat), logB gen k (L ++ M) = logB gen k L ++ logB gen (k + L.length) M := by
  intro L
  induction L with
  | nil => intro M k; rfl
  | cons l L ih =>
    intro M k
    show comB gen k l ++ logB gen (k + 1) (L ++ M) = comB gen k l ++ logB gen (k + 1) L ++ logB gen (k + (L.length + 1)) M
    rw [ih M (k + 1), List.append_assoc, show k + 1 + L.length = k + (L.length + 1) by omega]
theorem logB_one (gen : Int) (k : Nat) (l : List (List UInt8)) : logB gen k [l] = comB gen k l := List.append_nil _
theorem comB_length {gen : Int} {k : Nat} {ls : List (List UInt8)} (hg : may gen) (hk : may (k : Nat)) (h3 : (dataB ls).length ≤ 262144) : (comB gen k ls).length = 512 + (fillB (dataB ls)).length := by
  have hc := crc_lt (dataB ls)
  have : (markD gen (k : Nat) (dataB ls)).length = 512 := markB_length hg.i64 hk.i64 ⟨by omega, by omega⟩ ⟨by omega, by omega⟩
  unfold comB
  rw [List.length_append, this]
def LS.all (X : LS) (b : List UInt8) : LS := X.scan (b.length - X.e) b
theorem all_logOf (S : Dk.DS) (gen : Int) (b : List UInt8) : logOf S gen b = LS.all ⟨S, gen, [], 0⟩ b := rfl
theorem all_none {X : LS} {b : List UInt8} (h : X.next b = none) : X.all b = X := scan_none h _
theorem all_some {X Y : LS} {b : List UInt8} (h : X.next b = some Y) : X.all b = Y.all b := by
  obtain ⟨q1, q2, -⟩ := next_facts h
  obtain ⟨j, hj⟩ : ∃ j, b.length - X.e = j + 1 := ⟨b.length - X.e - 1, by omega⟩
  unfold LS.all
  rw [hj, scan_some h]
  exact scan_fuel b _ _ Y (by omega) (Nat.le_refl _)
theorem next_com {X : LS} {p q : List UInt8} {l : List (List UInt8)} (hg : may X.gen) (hk : may (X.L.length : Nat)) (he : X.e = p.length) (hl : okC l) :
    X.next (p ++ (comB X.gen X.L.length l ++ q)) = some { X with L := X.L ++ [l], e := X.e + (comB X.gen X.L.length l).length } := by
  unfold LS.next
  rw [he, nextP_com X.gen X.L.length p q l hg hk hl.1 hl.2.1 hl.2.2, comB_length hg hk hl.2.2]
  rfl
theorem all_logB (q : List UInt8) : ∀ (L : List (List (List UInt8))) (X : LS) (p : List UInt8), may X.gen → X.L.length + L.length ≤ 1099511627776 → X.e = p.length → (∀ l ∈ L, okC l) →
    X.all (p ++ (logB X.gen X.L.length L ++ q)) = LS.all { X with L := X.L ++ L, e := X.e + (logB X.gen X.L.length L).length } (p ++ (logB X.gen X.L.length L ++ q)) := by
  intro L
  induction L with
  | nil => intro X p hg hL he hl; rw [List.append_nil]; rfl
  | cons l L ih =>
    intro X p hg hL he hl
    rw [List.length_cons] at hL
    have hn := next_com (q := logB X.gen (X.L.length + 1) L ++ q) hg (by unfold may; omega) he (hl l (by simp))
    have e0 : p ++ (logB X.gen X.L.length (l :: L) ++ q) = p ++ (comB X.gen X.L.length l ++ (logB X.gen (X.L.length + 1) L ++ q)) := by
      show p ++ (comB X.gen X.L.length l ++ logB X.gen (X.L.length + 1) L ++ q) = _
      rw [List.append_assoc]
    rw [e0, all_some hn]
    have := ih { X with L := X.L ++ [l], e := X.e + (comB X.gen X.L.length l).length } (p ++ comB X.gen X.L.length l) hg (by simp only [List.length_append, List.length_singleton]; omega) (by rw [List.length_append]; show X.e + _ = _; omega) (fun x hx => hl x (by simp [hx]))
    simp only [List.length_append, List.length_singleton] at this
    rw [List.append_assoc] at this
    rw [this]
    congr 1
    show LS.mk _ _ _ _ = LS.mk _ _ _ _
    congr 1
    · rw [List.append_assoc]; rfl
    · show _ = X.e + (comB X.gen X.L.length l ++ logB X.gen (X.L.length + 1) L).length
      rw [List.length_append]; omega
theorem next_short {X : LS} {b : List UInt8} (h : b.length < X.e + 512) : X.next b = none := by
  unfold LS.next nextP
  rw [if_pos h]; rfl
theorem logOf_logB (S : Dk.DS) (gen : Int) (L : List (List (List UInt8))) (hg : may gen) (hL : L.length ≤ 1099511627776) (hl : ∀ l ∈ L, okC l) : logOf S gen (logB gen 0 L) = ⟨S, gen, L, (logB gen 0 L).length⟩ := by
  have := all_logB [] L ⟨S, gen, [], 0⟩ [] hg (by show 0 + _ ≤ _; omega) rfl hl
  rw [List.nil_append, List.append_nil, List.nil_append, Nat.zero_add] at this
  rw [all_logOf]
  refine this.trans (all_none (next_short ?_))
  show (logB gen 0 L).length < (logB gen 0 L).length + 512
  omega
structure On (X : LS) : Prop where
  fuse : X.S.fuse = 0
  down : X.S.down = false
  now : X.S.now 1 = logB X.gen 0 X.L
  e : X.e = (logB X.gen 0 X.L).length
  ok : ∀ l ∈ X.L, okC l
  gm : may X.gen
  le : X.L.length ≤ 1099511627776
theorem may1 {S : Dk.DS} (h : S.down = false) : S.may 1 = 0 := by unfold Dk.DS.may; rw [h]; simp
theorem openP_on {X : LS} (h : On X) : openP X.S X.gen = (0, X) := by
  unfold openP
  rw [if_neg (fun z => z h.gm), if_neg (fun z => z (may1 h.down)), h.now]
  dsimp only
  rw [logOf_logB X.S X.gen X.L h.gm h.le h.ok, if_pos rfl, ← h.e]
theorem wrS_full {S : Dk.DS} {k : Nat} {b : List UInt8} (hd : S.down = false) (hb : 0 < b.length) (hk : 4194304 < k + b.length) : wrS S k b = (5, S) := by
  have hw : Dk.writeE (k : Nat) b = 5 := by
    unfold Dk.writeE
    rw [if_neg (by omega), if_pos ⟨hb, by omega⟩]
  have he : S.write 1 (k : Nat) b = (5, S) := by
    unfold Dk.DS.write
    rw [if_neg (fun z => z (may1 hd)), hw, if_pos (by decide)]
  unfold wrS
  rw [he, if_pos (fun z : (5 : Int) = 0 => by omega)]
theorem dataB_pos (ls : List (List UInt8)) : 0 < (dataB ls).length := by
  unfold dataB
  rw [List.length_append]
  have : 0 < (form (ls.length : Nat)).length := by
    have q := form_lenP (v := (ls.length : Nat)) (by omega)
    split at q <;> omega
  omega
theorem commitP_on {X : LS} (h : On X) (ls : List (List UInt8)) (me : X.e ≤ 4194304) :
    ((commitP X ls).1 ≠ 0 ∧ commitP X ls = ((commitP X ls).1, X) ∧ (262144 < sizeL ls ∨ ¬ okC ls ∨ 4194304 < X.e + 512 + (fillB (dataB ls)).length)) ∨
    (okC ls ∧ sizeL ls ≤ 262144 ∧ ∃ S', commitP X ls = (0, ⟨S', X.gen, X.L ++ [ls], X.e + (512 + (fillB (dataB ls)).length)⟩) ∧ On ⟨S', X.gen, X.L ++ [ls], X.e + (512 + (fillB (dataB ls)).length)⟩) := by
  have hD : commitP X ls = if 262144 < sizeL ls then (60, X) else if ls.length = 0 ∨ 4096 < ls.length ∨ 262144 < (dataB ls).length then (60, X) else
      if (wrS X.S (X.e + 512) (fillB (dataB ls))).1 ≠ 0 then ((wrS X.S (X.e + 512) (fillB (dataB ls))).1, { X with S := (wrS X.S (X.e + 512) (fillB (dataB ls))).2 }) else
      if (wrS (wrS X.S (X.e + 512) (fillB (dataB ls))).2 X.e (markD X.gen (X.L.length : Nat) (dataB ls))).1 ≠ 0 then ((wrS (wrS X.S (X.e + 512) (fillB (dataB ls))).2 X.e (markD X.gen (X.L.length : Nat) (dataB ls))).1, { X with S := (wrS (wrS X.S (X.e + 512) (fillB (dataB ls))).2 X.e (markD X.gen (X.L.length : Nat) (dataB ls))).2 }) else
      (0, ⟨(wrS (wrS X.S (X.e + 512) (fillB (dataB ls))).2 X.e (markD X.gen (X.L.length : Nat) (dataB ls))).2, X.gen, X.L ++ [ls], X.e + (512 + (fillB (dataB ls)).length)⟩) := rfl
  by_cases p1 : 262144 < sizeL ls
  · rw [if_pos p1] at hD
    rw [hD]
    exact .inl ⟨fun z : (60 : Int) = 0 => by omega, rfl, .inl p1⟩
  rw [if_neg p1] at hD
  by_cases p2 : ls.length = 0 ∨ 4096 < ls.length ∨ 262144 < (dataB ls).length
  · rw [if_pos p2] at hD
    rw [hD]
    exact .inl ⟨fun z : (60 : Int) = 0 => by omega, rfl, .inr (.inl fun z => by obtain ⟨z1, z2, z3⟩ := z; omega)⟩
  rw [if_neg p2] at hD
  have hpos := dataB_pos ls
  have hfl := fillB_length (dataB ls)
  by_cases p3 : 4194304 < X.e + 512 + (fillB (dataB ls)).length
  · rw [wrS_full h.down (by omega) p3, if_pos (fun z : (5 : Int) = 0 => by omega)] at hD
    rw [hD]
    exact .inl ⟨fun z : (5 : Int) = 0 => by omega, rfl, .inr (.inr p3)⟩
  have hnl : (logB X.gen 0 X.L).length = X.e := h.e.symm
  have hle := h.le
  have hmk : may (X.L.length : Nat) := ⟨by omega, by omega⟩
  have hml : (markD X.gen (X.L.length : Nat) (dataB ls)).length = 512 := markB_length h.gm.i64 hmk.i64 ⟨by omega, by omega⟩ ⟨by omega, by have := crc_lt (dataB ls); omega⟩
  obtain ⟨a1, a2, a3, a4, -⟩ := wrS_on (b := fillB (dataB ls)) h.fuse h.down (by omega) (by omega : X.e + 512 + (fillB (dataB ls)).length ≤ 4194304)
  rw [if_neg (fun z => z a1)] at hD
  obtain ⟨b1, b2, b3, b4, -⟩ := wrS_on (b := markD X.gen (X.L.length : Nat) (dataB ls)) a2 a3 (by omega) (by omega : X.e + _ ≤ 4194304)
  rw [if_neg (fun z => z b1)] at hD
  refine .inr ⟨⟨by omega, by omega, by omega⟩, by omega, _, hD, ?_⟩
  have hcl := comB_length (gen := X.gen) (ls := ls) h.gm hmk (by omega)
  have hlb : logB X.gen 0 (X.L ++ [ls]) = logB X.gen 0 X.L ++ comB X.gen X.L.length ls := by rw [logB_app, logB_one, Nat.zero_add]
  refine ⟨b2, b3, ?_, ?_, ?_, h.gm, ?_⟩
  · show _ = logB X.gen 0 (X.L ++ [ls])
    rw [b4, a4, h.now, hlb]
    generalize logB X.gen 0 X.L = P at hnl
    unfold comB
    generalize markD X.gen (X.L.length : Nat) (dataB ls) = mk at hml
    generalize fillB (dataB ls) = fb
    have e1 : over P (X.e + 512) fb = P ++ zeros 512 ++ fb := by
      unfold over pad
      rw [hnl, show X.e + 512 - X.e = 512 by omega, List.take_of_length_le (by rw [List.length_append, zeros, List.length_replicate]; omega), List.drop_of_length_le (by omega), List.append_nil]
    rw [e1]
    unfold over
    have hdz : (zeros 512 ++ fb).drop 512 = fb := by
      have := List.drop_left (l₁ := zeros 512) (l₂ := fb)
      rwa [zeros, List.length_replicate] at this
    rw [pad_of _ _ (by rw [List.length_append, List.length_append]; omega), List.append_assoc, ← hnl, List.take_left, hml, ← List.drop_drop, List.drop_left, hdz]
  · show X.e + (512 + _) = (logB X.gen 0 (X.L ++ [ls])).length
    rw [hlb, List.length_append, hcl, hnl]
  · intro l hl
    rcases List.mem_append.1 hl with q | q
    · exact h.ok l q
    · rw [List.mem_singleton.1 q]; exact ⟨by omega, by omega, by omega⟩
  · show (X.L ++ [ls]).length ≤ _
    rw [List.length_append, List.length_singleton]
    have : X.L.length ≤ X.e := by
      rw [← hnl]
      have key : ∀ (L : List (List (List UInt8))) (k : Nat), k + L.length ≤ 1099511627776 → (∀ l ∈ L, okC l) → L.length ≤ (logB X.gen k L).length := by
        intro L
        induction L with
        | nil => intro k _ _; exact Nat.zero_le _
        | cons l L ih =>
          intro k hk hl
          rw [List.length_cons] at hk ⊢
          have := ih (k + 1) (by omega) (fun x hx => hl x (by simp [hx]))
          show _ ≤ (comB X.gen k l ++ logB X.gen (k + 1) L).length
          rw [List.length_append, comB_length h.gm ⟨by omega, by omega⟩ (hl l (by simp)).2.2]
          omega
      exact key X.L 0 (by omega) h.ok
    omega
theorem on_init (gen : Int) (h : may gen) : On ⟨Dk.DS.init, gen, [], 0⟩ := ⟨rfl, rfl, rfl, rfl, (fun l hl => by cases hl), h, Nat.zero_le _⟩
theorem commitP_b (X : LS) (ls : List (List UInt8)) (hg : may X.gen) (hL : X.L.length ≤ 1099511627776) : (commitP X ls).2.S.ps.length ≤ X.S.ps.length + 1000000 ∧ (commitP X ls).2.S.calls ≤ X.S.calls + 4 := by
  unfold commitP
  by_cases p1 : 262144 < sizeL ls
  · rw [if_pos p1]; exact ⟨by show X.S.ps.length ≤ _; omega, by show X.S.calls ≤ _; omega⟩
  rw [if_neg p1]
  by_cases p2 : ls.length = 0 ∨ 4096 < ls.length ∨ 262144 < (dataB ls).length
  · rw [if_pos p2]; exact ⟨by show X.S.ps.length ≤ _; omega, by show X.S.calls ≤ _; omega⟩
  rw [if_neg p2]
  have hfl := fillB_length (dataB ls)
  obtain ⟨a1, a2⟩ := wrS_b X.S (X.e + 512) (fillB (dataB ls))
  dsimp only
  split
  · exact ⟨by show (wrS X.S (X.e + 512) (fillB (dataB ls))).2.ps.length ≤ _; omega, by show (wrS X.S (X.e + 512) (fillB (dataB ls))).2.calls ≤ _; omega⟩
  obtain ⟨b1, b2⟩ := wrS_b (wrS X.S (X.e + 512) (fillB (dataB ls))).2 X.e (markD X.gen (X.L.length : Nat) (dataB ls))
  have hml : (markD X.gen (X.L.length : Nat) (dataB ls)).length = 512 := markB_length hg.i64 ⟨by omega, by omega⟩ ⟨by omega, by omega⟩ ⟨by omega, by have := crc_lt (dataB ls); omega⟩
  split
  · exact ⟨by show (wrS (wrS X.S (X.e + 512) (fillB (dataB ls))).2 X.e (markD X.gen (X.L.length : Nat) (dataB ls))).2.ps.length ≤ _; omega, by show (wrS (wrS X.S (X.e + 512) (fillB (dataB ls))).2 X.e (markD X.gen (X.L.length : Nat) (dataB ls))).2.calls ≤ _; omega⟩
  · exact ⟨by show (wrS (wrS X.S (X.e + 512) (fillB (dataB ls))).2 X.e (markD X.gen (X.L.length : Nat) (dataB ls))).2.ps.length ≤ _; omega, by show (wrS (wrS X.S (X.e + 512) (fillB (dataB ls))).2 X.e (markD X.gen (X.L.length : Nat) (dataB ls))).2.calls ≤ _; omega⟩
theorem okC_lens {l : List (List UInt8)} (h : okC l) : l.length ≤ 1099511627776 ∧ ∀ x ∈ l, x.length ≤ 1099511627776 := by
  obtain ⟨h1, h2, h3⟩ := h
  refine ⟨by omega, fun x hx => ?_⟩
  have key : ∀ (l : List (List UInt8)), x ∈ l → x.length ≤ (l.flatMap formB).length := by
    intro l
    induction l with
    | nil => intro hx; cases hx
    | cons y l ih =>
      intro hx
      rw [List.flatMap_cons, List.length_append]
      rcases List.mem_cons.1 hx with q | q
      · have := formB_ge y; rw [q]; omega
      · have := ih q; omega
  have := key l hx
  unfold dataB at h3
  rw [List.length_append] at h3
  omega
end Go.Proofs.YtfbddbpbifnhfaaGreatDoor

/- Contracts taken from disk (written by port.py). -/
namespace Go.Proofs.YtfbddbpbifnhfaaGreatDoor.Dk
open Go.Abs
section
variable {h h1 h2 : AH} {n n1 n2 r : Nat} {sa : Nat → Option Addr} {ol ka : Option Addr} {pa : List (Option Addr)} {F G F1 G1 : Nat → Prop} {S S1 : DS}
theorem writes_ok {S : DS} (ok : DSOk S) {i p : Nat} {b : List UInt8} (hi : i = 0 ∨ i = 1) (hb : 0 < b.length → p + b.length ≤ 4194304) : DSOk (S.writes i p b) :=
  ⟨fun q hq => by
    rcases List.mem_append.1 (show q ∈ S.ps ++ chunks i b.length p b from hq) with k | k
    · exact ok.ps q k
    · exact chunks_ok i hi _ _ _ hb q k, ok.sure, ok.fuse, ok.calls, ok.keep⟩
set_option maxHeartbeats 4000000 in
theorem rwrite_rk {c : Option Addr} {b : List UInt8} (D : Rk h n r F G S) (f at_ : Int) (hat : at_ ≤ 9223372036854775807) (hB : SlB h n c b) (hc : c ≠ none → ¬ F (sb c)) (hps : S.ps.length + b.length ≤ 1099511627775) (hcl : S.calls < 4611686018427387904) :
    RF Tryz.prog F 30 #[.pointer (some ⟨r, 0, none⟩), .int .i64 f, .int .i64 at_, .slice c b.length b.length] n h (fun v n' h' => v = .int .i64 (S.write f at_ b).1 ∧ RkTo n r F G h (S.write f at_ b).2 n' h') := by
  refine RF.of Tryz.func30 rfl rfl (Nat.le_of_ble_eq_true rfl) ?_; dsimp only [argEnv]
  have hlt := D.lt
  by_cases hm : S.may f = 0
  · obtain ⟨i, hi, rfl, hd⟩ := may_zero hm
    have hme := rmay_rk D (i : Int)
    rw [hm] at hme
    by_cases hw : writeE at_ b = 0
    · have hw1 : ¬ at_ < 0 := fun q => by rw [writeE, if_pos q] at hw; cases hw
      obtain ⟨p, rfl⟩ : ∃ p : Nat, at_ = p := ⟨at_.toNat, by omega⟩
      have hw2 : 0 < b.length → p + b.length ≤ 4194304 := fun q => by
        rw [writeE, if_neg hw1] at hw
        split at hw
        · cases hw
        · omega
      have hwok := writes_ok D.ok (i := i) (p := p) (b := b) (by omega) hw2
      have he : S.write (i : Int) (p : Nat) b = (S.writes i p b).ends := by rw [DS.write, if_neg (by rw [hm]; simp), if_neg (by rw [hw]; simp)]; simp
      rw [he, ends_meets (show 0 ≤ (S.writes i p b).fuse from D.ok.fuse.1), meets_writes]
      repeat' (first | refine stpS ?_ | (refine stp2 ?_ ?_ <;> intro _))
      refine RS.call1 rfl opds (hme) none'W ?_
      repeat' (first | refine stpS ?_ | (refine stp2 ?_ ?_ <;> intro _))
      all_goals try (exfalso; omega)
      all_goals
        refine RS.call rfl opds (rmeets_rk D hcl) (fun b hb => .inl hb) ?_
        rintro v n2 h2 hle2 ⟨rfl, rfl, D2, e2⟩
        have hmk : S.meets.2.keep = S.keep := by unfold DS.meets; split <;> rfl
        have hmp : S.meets.2.ps = S.ps := by unfold DS.meets; split <;> rfl
        have hmf : (S.writes i p b).keep = S.meets.2.keep := hmk.symm
        have hok := writes_ok (meets_ok D.ok) (i := i) (p := p) (b := b) (by omega) hw2
        have hlt2 := D2.lt
        rw [hmf]
        generalize S.meets = M at *
        obtain ⟨hit, S2⟩ := M
        dsimp only at D2 hmk hmp hok hmf ⊢
        have hpl : S2.ps.length = S.ps.length := by rw [hmp]
        have hB2 : SlB h2 n2 c b := hB.extW e2 (Nat.le_refl _) hc
        repeat' (first | refine stpS ?_ | (refine stp2 ?_ ?_ <;> intro _))
        refine RS.append rfl opd opd (OwnSl.nil (h := h2) (n0 := n2) (n := n2) (z := 1) (Nat.le_refl n2)) hB2.src full_slice (fun b hb => Or.inr (by omega)) (by omega) ?_
        intro c1 n3 h3 hle3 hO hX hnew
        have hE := hX.ext (OwnSl.nil (h := h2) (n0 := n2) (n := n2) (z := 1) (Nat.le_refl n2))
        simp only [Nat.zero_add, List.nil_append] at hO ⊢
        obtain ⟨-, sa, ol, ka, pa, rfl, rfl, R⟩ := id D2
        have hat1 := hO.at'
        have hol : ol = none ∨ sb ol < n2 := by
          by_cases q : ol = none
          · exact .inl q
          · exact .inr (R.ltF _ (.inr ⟨q, rfl⟩))
        have hac : apt ol c1 := by
          rcases hol with q | q
          · exact .inl q
          · rcases hat1 with k | k
            · exact .inr (.inl k)
            · exact .inr (.inr (by omega))
        have hS2e : ({ S2 with ps := S2.ps } : DS) = S2 := rfl
        repeat' (first | refine stpS ?_ | (refine stp2 ?_ ?_ <;> intro _))
        refine RC.loop ?_
        refine RL.inv (α := Nat × Option Addr × List UInt8 × List Pc × Option Addr × List (Option Addr)) (fun s => [(2, .int .i64 (s.1 : Nat)), (11, .slice s.2.1 s.2.2.1.length s.2.2.1.length), (1, .int .i64 (i : Nat)), (0, .pointer (some ⟨r, 0, none⟩)), (10, .bool hit)])
          (fun s n4 h4 => n3 ≤ n4 ∧ SlB h4 n4 s.2.1 s.2.2.1 ∧ (s.2.1 = none ∨ n2 ≤ sb s.2.1) ∧ apt s.2.2.2.2.1 s.2.1 ∧ (0 < s.2.2.1.length → s.1 + s.2.2.1.length ≤ 4194304) ∧ s.2.2.2.1.length + s.2.2.1.length ≤ S.ps.length + b.length ∧
            s.2.2.2.1 ++ chunks i s.2.2.1.length s.1 s.2.2.1 = S2.ps ++ chunks i b.length p b ∧ RfR h4 n4 r sa s.2.2.2.2.1 ka s.2.2.2.2.2 { S2 with ps := s.2.2.2.1 } ∧ (s.2.2.2.2.1 = ol ∨ s.2.2.2.2.1 = none ∨ n2 ≤ sb s.2.2.2.2.1) ∧
            (∀ x, x ∈ rfG sa ka s.2.2.2.2.2 → x ∈ rfG sa ka pa ∨ x = none ∨ n2 ≤ sb x) ∧ ExtW (RkF r ol) n2 h2 h4)
          (fun s => s.2.2.1.length) (p, c1, b, S2.ps, ol, pa) envs ⟨Nat.le_refl _, hO.slbE, hat1.imp id (·.1), hac, hw2, by dsimp only; omega, rfl, R.ext hE hle3, .inl rfl, fun x hx => .inl hx, ExtW.of hE (Nat.le_refl _)⟩ ?_
        clear hO hX hE hnew hat1 hac
        rintro ⟨a1, c1, l1, ps1, ol1, pa1⟩ n4 h4 ⟨hn4, hS1, hc1, hac, hl1, hl2, hch, R1, ho1, hg1, e4⟩
        dsimp only at hS1 hc1 hac hl1 hl2 hch R1 ho1 hg1 ⊢
        have hlt4 := R1.lt
        have hinf := R1.inf
        have c2 : h4.cell r 2 = .slice ol1 ps1.length ps1.length := R1.cs 2 _ rfl
        by_cases hl0 : 0 < l1.length
        · have hstep := chunks_step i a1 l1 (by omega)
          have hk0 : 0 < min l1.length (512 - a1 % 512) := by omega
          have hk1 : min l1.length (512 - a1 % 512) ≤ l1.length := by omega
          have ek : min (l1.length : Int) (512 - (a1 : Int) % 512) = ((min l1.length (512 - a1 % 512) : Nat) : Int) := by omega
          repeat' (first | refine stpS ?_ | (refine stp2 ?_ ?_ <;> intro _))
          rw [ek]
          generalize min l1.length (512 - a1 % 512) = k at *
          have htl : (l1.take k).length = k := by rw [List.length_take]; omega
          have hlb := hl1 (by omega)
          have hc0 : c1 ≠ none := fun q => by
            subst q
            rcases hS1.shape with z | z
            · omega
            · cases z.1
          have hcl1 := hS1.ltA hc0
          have hnd : ¬ inA ol1 r := fun q => (R1.rl.resolve_left q.1) q.2
          have hnc : ¬ inA ol1 (sb c1) := fun q => ((hac.resolve_left q.1).resolve_left hc0) q.2.symm
          have hWl : ∀ b, inA ol1 b → b < n4 + 1 := fun b q => Nat.lt_succ_of_lt (R1.ltF _ (.inr q))
          have hTo : ol1 ≠ none → RkF r ol (sb ol1) ∨ n2 ≤ sb ol1 := fun q => by
            rcases ho1 with z | z | z
            · rw [z]; rw [z] at q; exact .inl (.inr ⟨q, rfl⟩)
            · exact absurd z q
            · exact .inr z
          have hTr : RkF r ol r := .inl rfl
          have hpo : PcOk ⟨i, false, a1, l1.take k⟩ := ⟨by show i = 0 ∨ i = 1; omega, fun _ => ⟨by show 0 < (l1.take k).length; omega, by show a1 + (l1.take k).length ≤ 4194304; omega⟩, fun q => by cases q⟩
          repeat' (first | refine stp ?_ | (refine stp2 ?_ ?_ <;> intro _))
          rw [Int.toNat_natCast]
          have hrp : rpC ⟨i, false, a1, l1.take k⟩ c1 = [.int .i64 (i : Nat), .bool false, .int .i64 (a1 : Nat), .slice c1 k k] := by
            show [Value.int .i64 (i : Nat), .bool false, .int .i64 (a1 : Nat), .slice c1 (l1.take k).length (l1.take k).length] = _
            rw [htl]
          have hnew : OwnSl (h4.app (.new n4 ⟨4, 0, true, 4⟩ [.int .i64 (i : Nat), .bool false, .int .i64 (a1 : Nat), .slice c1 k k])) n4 (n4 + 1) (some ⟨n4, 0, none⟩) 4 1 [.int .i64 (i : Nat), .bool false, .int .i64 (a1 : Nat), .slice c1 k k] := OwnSl.new (h := h4) (m := 1) (z := 4) (Nat.le_refl n4) rfl rfl
          have hlo : OwnSl h4 0 n4 ol1 4 ps1.length (rpsC ps1 pa1) := R1.lo
          refine RD.appendT (n4 + 1) rfl opd opd (hlo.ext (n1 := n4 + 1) (h1 := h4.app (.new n4 ⟨4, 0, true, 4⟩ [.int .i64 (i : Nat), .bool false, .int .i64 (a1 : Nat), .slice c1 k k])) ext (Nat.le_succ n4)) (hnew.ext (AH.below_ext _ _) (Nat.le_refl _)).src full_slice hTo (by omega) (Nat.le_refl _) cfw ?_
          intro a3 n5 h5 hle5 hO5 hX5 hwh
          rw [← hrp] at hO5
          have hX : ExtX n4 ol1 h4 h5 := fun x hx hne => by
            have := hX5 x (by omega) hne
            exact ⟨this.1.trans (i_new_ne (by omega) rfl), fun i => (this.2 i).trans (c_new_ne (by omega) rfl)⟩
          have hS5 : SlB h5 n5 c1 l1 := (hS1.extX hX (by
            rcases hac with z | z | z
            · exact .inl z
            · exact .inr (.inl z)
            · exact .inr (.inr (Ne.symm z)))).ext (Ext.refl _ _) (by omega)
          have hrc : apd r c1 := hc1.imp id (by omega)
          have hac3 : apt a3 c1 := by
            rcases hwh with z | z
            · rw [z]; exact hac
            · exact .inr (.inr (by omega))
          have R2 : RfR (h5.app (.sets r 2 [.slice a3 (ps1.length + 1) (ps1.length + 1)])) n5 r sa a3 ka (pa1 ++ [c1]) { S2 with ps := ps1 ++ [⟨i, false, a1, l1.take k⟩] } := R1.push (p := ⟨i, false, a1, l1.take k⟩) (c := c1) hX (by omega) (hO5.mono (Nat.zero_le _)) (hwh.imp id (fun q => .inr (by omega))) (by
            have := hS5.takeA k
            exact this) hrc hac3
          have hinf5 : h5.info r = some ⟨7, 0, true, 0⟩ := i_extX hX hlt4 R1.rl hinf
          have hrn : r < n5 := by omega
          have hS6 : SlB (h5.app (.sets r 2 [.slice a3 (ps1.length + 1) (ps1.length + 1)])) n5 c1 l1 := hS5.extW (W := fun b => b = r) (ExtW.appSets (.inl rfl) (ExtW.refl _ _ _)) (Nat.le_refl _) (fun q e => (hrc.resolve_left hc0) e.symm)
          repeat' (first | refine stp ?_ | (refine stp2 ?_ ?_ <;> intro _))
          rw [Int.toNat_natCast]
          refine nextC.normal ⟨(a1 + k, sub c1 k, l1.drop k, ps1 ++ [(⟨i, false, a1, l1.take k⟩ : Pc)], a3, pa1 ++ [c1]), ?_, ?_, by omega, ?_, ?_, ?_, ?_, ?_, ?_, R2, ?_, ?_, ?_⟩
          · dsimp only; rw [List.length_drop]; omega
          · dsimp only; rw [List.length_drop]; exact envs
          · have := hS6.cut (i := k) (u := l1.length) hk1 (Nat.le_refl _)
            rwa [List.take_length] at this
          · dsimp only; rw [sb_sub]; exact .inr (hc1.resolve_left hc0)
          · dsimp only
            rcases hac3 with z | z | z
            · exact .inl z
            · exact absurd z hc0
            · exact .inr (.inr (by rw [sb_sub]; exact z))
          · dsimp only; rw [List.length_drop]; intro _; omega
          · dsimp only; rw [List.length_drop, List.length_append]; simp only [List.length_cons, List.length_nil]; omega
          · dsimp only; rw [List.append_assoc, List.singleton_append, ← hstep]; exact hch
          · dsimp only
            rcases hwh with z | z
            · rw [z]; exact ho1
            · exact .inr (.inr (by omega))
          · intro x hx
            have hx : x = c1 ∨ x ∈ rfG sa ka pa1 := by
              simp only [rfG, List.mem_cons, List.mem_append, List.not_mem_nil, or_false] at hx ⊢
              rcases hx with k | k | k | k | k <;> simp [k]
            rcases hx with rfl | z
            · exact .inr hc1
            · exact hg1 x z
          · exact ExtW.appSets (.inl hTr) (e4.trans (ExtW.ofX (W := fun b => RkF r ol b ∨ n2 ≤ b) hX (fun q => hTo q)) (by omega) (fun x hx q => q.resolve_right (by omega)))
        · have hl0 : l1 = [] := List.eq_nil_of_length_eq_zero (by omega)
          subst hl0
          have hch' : ps1 = S2.ps ++ chunks i b.length p b := by simpa [chunks] using hch
          have hSe : ({ S2 with ps := ps1 } : DS) = S2.writes i p b := by rw [hch']; rfl
          rw [hSe] at R1
          have hlen : (S2.writes i p b).ps.length ≤ 1099511627776 := by
            have := writes_len S2 i p b
            omega
          obtain ⟨F3, G3, D3, hF3, hG3, e3⟩ := RkTo.mk (n := n2) (h := h2) (ol := ol) (ka := ka) (pa := pa) (sa := sa) hok R1 ho1 hg1 e4
          repeat' (first | refine stpS ?_ | (refine stp2 ?_ ?_ <;> intro _))
          refine RS.call rfl opds (rends_rk D3 hlen hit) (fun b hb => ?_) ?_
          · by_cases q : b < n2
            · exact .inl (hF3 b q hb)
            · exact .inr (by omega)
          rintro v n5 h5 hle5 ⟨rfl, to5⟩
          have fin := RkTo.trans (n := n2) (h := h) (F := RkF r ol) (G := RkG sa ka pa) (e2.trans e3 (Nat.le_refl _) (fun _ _ q => q)) hF3 hG3 (by omega) to5
          cases hit
          · repeat' (first | refine stpS ?_ | (refine stp2 ?_ ?_ <;> intro _))
            exact ⟨rfl, fin⟩
          · repeat' (first | refine stpS ?_ | (refine stp2 ?_ ?_ <;> intro _))
            exact ⟨rfl, fin⟩
    · by_cases hw1 : at_ < 0
      · have he : S.write (i : Int) at_ b = (1, S) := by simp [DS.write, hm, writeE, hw1]
        rw [he]
        repeat' (first | refine stpS ?_ | (refine stp2 ?_ ?_ <;> intro _))
        refine RS.call1 rfl opds (hme) none'W ?_
        repeat' (first | refine stpS ?_ | (refine stp2 ?_ ?_ <;> intro _))
        exact ⟨rfl, D.to⟩
      · have hw2 : 0 < b.length ∧ (4194304 < at_ ∨ 4194304 - at_ < b.length) := Classical.byContradiction fun q => hw (by rw [writeE, if_neg hw1, if_neg q])
        have he : S.write (i : Int) at_ b = (5, S) := by simp [DS.write, hm, writeE, hw1, hw2]
        rw [he]
        repeat' (first | refine stpS ?_ | (refine stp2 ?_ ?_ <;> intro _))
        refine RS.call1 rfl opds (hme) none'W ?_
        repeat' (first | refine stpS ?_ | (refine stp2 ?_ ?_ <;> intro _))
        all_goals first | exact ⟨rfl, D.to⟩ | (exfalso; omega)
  · have he : S.write f at_ b = (S.may f, S) := by simp [DS.write, hm]
    rw [he]
    repeat' (first | refine stpS ?_ | (refine stp2 ?_ ?_ <;> intro _))
    refine RS.call1 rfl opds (rmay_rk D f) none'W ?_
    repeat' (first | refine stpS ?_ | (refine stp2 ?_ ?_ <;> intro _))
    exact ⟨rfl, D.to⟩
end
end Go.Proofs.YtfbddbpbifnhfaaGreatDoor.Dk

/- Contracts of wal: the document writes a commit. -/
namespace Go.Proofs.YtfbddbpbifnhfaaGreatDoor
open Go.Abs Cd

theorem sizeL_data (ls : List (List UInt8)) : sizeL ls ≤ (dataB ls).length := by
  have key : sizeL ls ≤ (ls.flatMap formB).length := by
    induction ls with
    | nil => exact Nat.le_refl _
    | cons b r ih =>
      have h2 := formB_ge b
      rw [List.flatMap_cons, List.length_append]
      show (min b.length 262145 + 1) + sizeL r ≤ _
      omega
  unfold dataB
  rw [List.length_append]; omega
section
variable {h : AH} {n lg d : Nat} {T : Nat → Prop} {X : LS}
set_option maxHeartbeats 4000000 in
theorem refCommit_rf (R : Rg h n lg d T X) (ls : List (List UInt8)) (ad : Nat → Option Addr) (c : Option Addr) (S : SlQ h n c ad ls) (hc : c ≠ none → ¬ T (sb c)) (hr : ∀ j, j < ls.length → ad j ≠ none → ¬ T (sb (ad j)))
    (hl : ls.length ≤ 1048576) (hrl : ∀ l ∈ ls, l.length ≤ 1052000) (hps : X.S.ps.length ≤ 1099511000000) (hcl : X.S.calls < 4611686018427387900) (hn0 : 0 < n) :
    RF Tryz.prog T 22 #[.pointer (some ⟨lg, 0, none⟩), .slice c ls.length ls.length] n h (fun r n' h' => r = .int .i64 (commitP X ls).1 ∧ RgTo n lg d T h (commitP X ls).2 n' h') := by
  refine RF.of Tryz.func22 rfl rfl (Nat.le_of_ble_eq_true rfl) ?_; dsimp only [argEnv]
  obtain ⟨F, G, a, N, B, R, rfl⟩ := R
  have hD : commitP X ls = if ls.length = 0 ∨ 4096 < ls.length ∨ 262144 < (dataB ls).length then (60, X) else
      if (wrS X.S (X.e + 512) (fillB (dataB ls))).1 ≠ 0 then ((wrS X.S (X.e + 512) (fillB (dataB ls))).1, { X with S := (wrS X.S (X.e + 512) (fillB (dataB ls))).2 }) else
      if (wrS (wrS X.S (X.e + 512) (fillB (dataB ls))).2 X.e (markD X.gen (X.L.length : Nat) (dataB ls))).1 ≠ 0 then ((wrS (wrS X.S (X.e + 512) (fillB (dataB ls))).2 X.e (markD X.gen (X.L.length : Nat) (dataB ls))).1, { X with S := (wrS (wrS X.S (X.e + 512) (fillB (dataB ls))).2 X.e (markD X.gen (X.L.length : Nat) (dataB ls))).2 }) else
      (0, ⟨(wrS (wrS X.S (X.e + 512) (fillB (dataB ls))).2 X.e (markD X.gen (X.L.length : Nat) (dataB ls))).2, X.gen, X.L ++ [ls], X.e + (512 + (fillB (dataB ls)).length)⟩) := by
    have h1 := sizeL_data ls
    show (if 262144 < sizeL ls then (60, X) else _) = _
    by_cases q : 262144 < sizeL ls
    · rw [if_pos q, if_pos (.inr (.inr (by omega)))]
    · rw [if_neg q]
  have no : commitP X ls = (60, X) → ∀ {n' : Nat} {h' : AH}, n ≤ n' → Ext n h h' → Value.int .i64 60 = .int .i64 (commitP X ls).1 ∧ RgTo n lg d (RgT lg F G a B) h (commitP X ls).2 n' h' := fun q n' h' hn E => by
    rw [q]
    exact ⟨rfl, _, ⟨F, G, a, N, B, R.extW (ExtW.of E (Nat.le_refl _) : ExtW (fun _ => False) n h h') hn (fun _ _ q => q), rfl⟩, fun _ _ q => q, ExtW.of E (Nat.le_refl _)⟩
  have hpos := dataB_pos ls
  have hdm : (dataB ls).length ≤ 2206206001200 := by
    have h1 := flat_max ls 1052000 hrl
    have h2 := form_le (ls.length : Nat) (by omega) (by omega)
    have h3 : ls.length * (2 * 1052000 + 2) ≤ 1048576 * (2 * 1052000 + 2) := Nat.mul_le_mul_right _ hl
    unfold dataB
    rw [List.length_append]; omega
  repeat' (first | refine stpS ?_ | (refine stp2 ?_ ?_ <;> intro _))
  refine RS.call rfl opds (refData_rf ls ad c n h S hl hrl hn0) none'W ?_
  rintro r n5 h5 k5 ⟨a5, rfl, E5, O5⟩
  obtain ⟨l, hld⟩ : ∃ l, l = dataB ls := ⟨_, rfl⟩
  rw [← hld] at hD O5 hpos hdm ⊢
  clear hld
  by_cases pc : ls.length = 0 ∨ 4096 < ls.length ∨ 262144 < l.length
  · rw [if_pos pc] at hD
    repeat' (first | refine stpS ?_ | (refine stp2 ?_ ?_ <;> intro _))
    all_goals (first | exact no hD k5 E5 | (exfalso; omega))
  rw [if_neg pc] at hD
  have R5 : RgR h5 n5 lg d F G a N B X := R.extW (ExtW.of E5 (Nat.le_refl _) : ExtW (fun _ => False) n h h5) k5 (fun _ _ q => q)
  have hlt5 := R5.hi
  have d0 := R5.c0
  have d1 := R5.c1
  have d2 := R5.c2
  have d3 := R5.c3
  have me := R.me
  have le := R.le
  have hfl2 := fillB_length l
  have hwh := whole_ev l.length (by omega) n5 h5
  obtain ⟨W, hW⟩ : ∃ W, W = (l.length + 511) / 512 * 512 := ⟨_, rfl⟩
  rw [← hW] at hwh hfl2
  repeat' (first | refine stpS ?_ | (refine stp2 ?_ ?_ <;> intro _))
  refine RS.call1 rfl opds hwh none'W ?_
  have hto : ∀ {S' : Dk.DS} {F' G' : Nat → Prop} {n' : Nat} {h' : AH} {v : Int}, commitP X ls = (v, { X with S := S' }) → n ≤ n' → RgR h' n' lg d F' G' a N B { X with S := S' } → (∀ x, x < n → F' x → F x) → (∀ x, x < n → G' x → G x) → ExtW F n h h' → Value.int .i64 v = .int .i64 (commitP X ls).1 ∧ RgTo n lg d (RgT lg F G a B) h (commitP X ls).2 n' h' := fun q hn' R' hF' hG' e' => by
    rw [q]
    refine ⟨rfl, _, ⟨_, _, a, N, B, R', rfl⟩, ?_, e'.mono (Nat.le_refl _) (fun b _ q => .inl q)⟩
    rintro b hb (q | q | q)
    · exact .inl (hF' b hb q)
    · exact .inr (.inl (hG' b hb q))
    · exact .inr (.inr q)
  by_cases pf : 4194304 < X.e + 512 + W
  · have hdn := Dk.rdown_rk R5.dk
    cases hdd : X.S.down with
    | true =>
      rw [hdd] at hdn
      have hw : wrS X.S (X.e + 512) (fillB l) = (6, X.S) := by
        have hm : X.S.may 1 = 6 := by unfold Dk.DS.may; rw [hdd]; rfl
        have he : X.S.write 1 ((X.e + 512 : Nat) : Int) (fillB l) = (6, X.S) := by unfold Dk.DS.write; rw [hm]; rfl
        unfold wrS
        rw [he, if_pos (fun z : (6 : Int) = 0 => by omega)]
      rw [hw, if_pos (fun z : (6 : Int) = 0 => by omega)] at hD
      repeat' (first | refine stpS ?_ | (refine stp2 ?_ ?_ <;> intro _))
      refine RS.call1 rfl opds hdn none'W ?_
      repeat' (first | refine stpS ?_ | (refine stp2 ?_ ?_ <;> intro _))
      exact hto hD k5 R5 (fun _ _ q => q) (fun _ _ q => q) (ExtW.of E5 (Nat.le_refl _))
    | false =>
      rw [hdd] at hdn
      rw [wrS_full hdd (by omega) (by omega), if_pos (fun z : (5 : Int) = 0 => by omega)] at hD
      repeat' (first | refine stpS ?_ | (refine stp2 ?_ ?_ <;> intro _))
      refine RS.call1 rfl opds hdn none'W ?_
      repeat' (first | refine stpS ?_ | (refine stp2 ?_ ?_ <;> intro _))
      exact hto hD k5 R5 (fun _ _ q => q) (fun _ _ q => q) (ExtW.of E5 (Nat.le_refl _))
  have hmk := refMark_rf X.gen (X.L.length : Nat) l a5 l.length n5 (h5.below n5) (O5.slb.ext (AH.below_ext _ _) (Nat.le_refl _)) rfl (by omega)
  have hy : mayMark X.gen (X.L.length : Nat) l := ⟨R.gm, ⟨by omega, by omega⟩, by omega⟩
  repeat' (first | refine stpS ?_ | (refine stp2 ?_ ?_ <;> intro _))
  repeat' (first | refine stp ?_ | (refine stp2 ?_ ?_ <;> intro _))
  refine RD.call n5 rfl opds hmk (Nat.le_refl _) cfc ?_
  rintro r n6 h6 k6 hto6
  unfold MkTo at hto6
  simp only [if_pos hy] at hto6
  obtain ⟨a6, rfl, E6, O6⟩ := hto6
  have E6 : Ext n5 h5 h6 := E6.via (Nat.le_refl _) (AH.below_ext h5 n5)
  have hml : (markD X.gen (X.L.length : Nat) l).length = 512 := markB_length R.gm.i64 ⟨by omega, by omega⟩ ⟨by omega, by omega⟩ ⟨by omega, by have := crc_lt l; omega⟩
  obtain ⟨mk, hmkd⟩ : ∃ mk, mk = markD X.gen (X.L.length : Nat) l := ⟨_, rfl⟩
  rw [← hmkd] at O6 hml hD ⊢
  clear hmkd hmk
  have E6' : Ext n h h6 := E5.trans k5 E6
  have R6 : RgR h6 n6 lg d F G a N B X := R.extW (ExtW.of E6' (Nat.le_refl _) : ExtW (fun _ => False) n h h6) (by omega) (fun _ _ q => q)
  have hlt6 := R6.hi
  have d06 := R6.c0
  have S5 : SlB h6 n6 a5 l := O5.slb.ext E6 k6
  have hs5 : sb a5 < n6 := SlR.lt S5 (by omega)
  have hwh6 := whole_ev l.length (by omega) n6 (h6.below n6)
  rw [← hW] at hwh6
  have hmapB : (List.range (l.length * 1)).map (bytesF l) = bytesV l := by
    unfold bytesV bytesF
    apply List.ext_getElem
    · simp
    · intro i h1 h2
      have : i < l.length := by simpa using h2
      simp [List.getD, this]
  have hzr : ∀ k, zrow (Value.cells (.int .u8 0)).toList k = bytesV (zeros k) := fun k => by
    rw [show (Value.cells (.int .u8 0)).toList = [.int .u8 0] from rfl, zrow_one]
    unfold zeros bytesV; rw [List.map_replicate]; rfl
  repeat' (first | refine stp ?_ | (refine stp2 ?_ ?_ <;> intro _))
  refine RD.appendN rfl opd opd S5 (Ext.refl _ _) (Nat.le_refl _) hs5 (by rw [hmapB]; exact bytesV_known _) (by omega) cfl ?_
  intro a7 n7 h7 k7 O7 E7
  rw [hmapB] at O7
  repeat' (first | refine stp ?_ | (refine stp2 ?_ ?_ <;> intro _))
  have hwh7 := whole_ev l.length (by omega) n7 (h7.below n7)
  rw [← hW] at hwh7
  refine RD.callP n7 rfl opds hwh7 (Nat.le_refl _) cfc ?_
  have hna : ¬ inA a7 lg := fun q => by have := q.2; have := O7.at'.resolve_left q.1; omega
  have hWl : ∀ b, inA a7 b → b < n7 := fun b q => by have := O7.at'.resolve_left q.1; have := q.2; omega
  repeat' (first | refine stp ?_ | (refine stp2 ?_ ?_ <;> intro _))
  refine RD.appendZT n7 rfl opd opd O7 (by omega) (fun q => .inr (by have := O7.at'.resolve_left q; omega)) (by omega) (by rw [hzr]; exact bytesV_known _) (Nat.le_refl _) cfw ?_
  intro a8 n8 h8 k8 O8 X8 w8
  have eN : ((W : Int) - (l.length : Nat)).toNat = W - l.length := by omega
  have eL : l.length + (W - l.length) = W := by omega
  have hfb : l ++ zeros (W - l.length) = fillB l := by unfold fillB; rw [← hW]
  rw [hzr, eN, ← bytesV_app, hfb, eL] at O8
  rw [eN, eL]
  obtain ⟨fb, hfbd⟩ : ∃ fb, fb = fillB l := ⟨_, rfl⟩
  rw [← hfbd] at O8 hfl2 hD
  clear hfbd hfb
  have E8 : Ext n6 h6 h8 := E7.trans (Nat.le_refl _) (X8.ext O7)
  have E8' : Ext n h h8 := E6'.trans (by omega) E8
  have R8 : RgR h8 n8 lg d F G a N B X := R.extW (ExtW.of E8' (Nat.le_refl _) : ExtW (fun _ => False) n h h8) (by omega) (fun _ _ q => q)
  have S8 : SlB h8 n8 a8 fb := by rw [← hfl2] at O8; exact O8.slb
  have hFn : ∀ x, F x → x < n := R.dk.ltF
  have hFn8 : ∀ x, F x → x < n8 := fun x q => by have := hFn x q; omega
  have hFl := R8.lF.1
  have hwd := Dk.rwrite_rk (R8.dk.ext (AH.below_ext h8 n8) (Nat.le_refl _)) 1 ((X.e + 512 : Nat) : Int) (by omega) (SlR.ext S8 (AH.below_ext h8 n8) (Nat.le_refl _)) (fun q w => by have := O8.at'.resolve_left q; have := hFn _ w; omega) (by omega) (by omega)
  have hat : ((X.e + 512 : Nat) : Int) = (X.e : Int) + 512 := by omega
  obtain ⟨w1, hw1⟩ : ∃ w, w = wrS X.S (X.e + 512) fb := ⟨_, rfl⟩
  have hwS : wrS X.S (X.e + 512) fb = if (X.S.write 1 ((X.e + 512 : Nat) : Int) fb).1 ≠ 0 then X.S.write 1 ((X.e + 512 : Nat) : Int) fb else (X.S.write 1 ((X.e + 512 : Nat) : Int) fb).2.sync 1 := rfl
  rw [← hw1] at hwS hD
  obtain ⟨tb1, tb2⟩ := write_b X.S 1 ((X.e + 512 : Nat) : Int) fb
  obtain ⟨t, ht⟩ : ∃ t, t = X.S.write 1 ((X.e + 512 : Nat) : Int) fb := ⟨_, rfl⟩
  rw [← ht] at hwd hwS tb1 tb2
  rw [hat, hfl2] at hwd
  clear ht hw1
  obtain ⟨t1, t2⟩ := t
  dsimp only at hwd hwS tb1 tb2
  repeat' (first | refine stp ?_ | (refine stp2 ?_ ?_ <;> intro _))
  refine RD.callW n8 rfl opds hwd (fun x q => .inl (.inl q)) (Nat.le_refl _) cfw ?_
  rintro r n9 h9 k9 ⟨rfl, F9, G9, D9, hF9, hG9, e9⟩
  have e9 : ExtW F n8 h8 h9 := (ExtW.of (AH.below_ext h8 n8) (Nat.le_refl _)).trans e9 (Nat.le_refl _) (fun _ _ q => q)
  have R9 := R8.diskR D9 hF9 hG9 e9 k9
  have e9' : ExtW F n h h9 := (ExtW.of E8' (Nat.le_refl _)).trans e9 (by omega) (fun _ _ q => q)
  have hF9' : ∀ x, x < n → F9 x → F x := fun x hx q => hF9 x (by omega) q
  have hG9' : ∀ x, x < n → G9 x → G x := fun x hx q => hG9 x (by omega) q
  have hlt9 := R9.hi
  have d09 := R9.c0
  by_cases pt : t1 = 0
  rotate_left
  · rw [if_pos pt] at hwS
    rw [hwS, if_pos pt] at hD
    repeat' (first | refine stp ?_ | (refine stp2 ?_ ?_ <;> intro _))
    repeat' (first | refine stpS ?_ | (refine stp2 ?_ ?_ <;> intro _))
    exact hto hD (by omega) R9 hF9' hG9' e9'
  rw [if_neg (fun z => z pt)] at hwS
  subst pt
  obtain ⟨sb1, sb2⟩ := sync_b t2 1
  have hsy := Dk.rsync_rk D9 (by omega) (by omega) 1
  rw [← hwS] at hsy sb1 sb2
  clear hwS
  obtain ⟨y1, y2⟩ := w1
  dsimp only at hsy sb1 sb2 hD
  repeat' (first | refine stp ?_ | (refine stp2 ?_ ?_ <;> intro _))
  repeat' (first | refine stpS ?_ | (refine stp2 ?_ ?_ <;> intro _))
  refine RS.call rfl opds hsy (fun x q => ?_) ?_
  · by_cases z : x < n
    · exact .inl (.inl (hF9' x z q))
    · exact .inr (by omega)
  rintro r n10 h10 k10 ⟨rfl, F10, G10, D10, hF10, hG10, e10⟩
  have R10 := R9.diskR D10 hF10 hG10 e10 k10
  have e10' : ExtW F n h h10 := e9'.trans e10 (by omega) hF9'
  have hF10' : ∀ x, x < n → F10 x → F x := fun x hx q => hF9' x hx (hF10 x (by omega) q)
  have hG10' : ∀ x, x < n → G10 x → G x := fun x hx q => hG9' x hx (hG10 x (by omega) q)
  by_cases py : y1 = 0
  rotate_left
  · rw [if_pos py] at hD
    repeat' (first | refine stpS ?_ | (refine stp2 ?_ ?_ <;> intro _))
    exact hto hD (by omega) R10 hF10' hG10' e10'
  rw [if_neg (fun z => z py)] at hD
  subst py
  have hlt10 := R10.hi
  have d0a : h10.cell lg 0 = .pointer (some ⟨d, 0, none⟩) := R10.c0
  have d3a : h10.cell lg 3 = .int .i64 (X.e : Nat) := R10.c3
  have S68 : SlB h8 n8 a6 mk := SlR.ext O6.slb E8 (by omega : n6 ≤ n8)
  have S69 : SlB h9 n9 a6 mk := SlR.extW S68 e9 k9 (fun q w => by have := O6.at'.resolve_left q; have := hFn _ w; omega)
  have S6a : SlB h10 n10 a6 mk := SlR.extW S69 e10 k10 (fun q w => by have := O6.at'.resolve_left q; have := hF9 _ (by omega) w; have := hFn _ this; omega)
  have hF10n : ∀ x, F10 x → x < n10 := R10.dk.ltF
  have hF10l := R10.lF.1
  have hwd := Dk.rwrite_rk (R10.dk.ext (AH.below_ext h10 n10) (Nat.le_refl _)) 1 (X.e : Nat) (by omega) (SlR.ext S6a (AH.below_ext h10 n10) (Nat.le_refl _)) (fun q w => by have := O6.at'.resolve_left q; have := hF10 _ (by omega) w; have := hF9 _ (by omega) this; have := hFn _ this; omega) (by show y2.ps.length + _ ≤ _; omega) (by show y2.calls < _; omega)
  have hwS : wrS y2 X.e mk = if (y2.write 1 (X.e : Nat) mk).1 ≠ 0 then y2.write 1 (X.e : Nat) mk else (y2.write 1 (X.e : Nat) mk).2.sync 1 := rfl
  obtain ⟨w2, hw2⟩ : ∃ w, w = wrS y2 X.e mk := ⟨_, rfl⟩
  rw [← hw2] at hwS hD
  obtain ⟨ub1, ub2⟩ := write_b y2 1 (X.e : Nat) mk
  obtain ⟨u, hu⟩ : ∃ u, u = y2.write 1 (X.e : Nat) mk := ⟨_, rfl⟩
  have hwd : RF Tryz.prog F10 30 #[.pointer (some ⟨d, 0, none⟩), .int .i64 1, .int .i64 (X.e : Nat), .slice a6 mk.length mk.length] n10 (h10.below n10) (fun r n' h' => r = .int .i64 u.1 ∧ Dk.RkTo n10 d F10 G10 (h10.below n10) u.2 n' h') := by rw [hu]; exact hwd
  rw [← hu] at hwS ub1 ub2
  clear hu hw2
  obtain ⟨u1, u2⟩ := u
  dsimp only at hwd hwS ub1 ub2
  repeat' (first | refine stpS ?_ | (refine stp2 ?_ ?_ <;> intro _))
  repeat' (first | refine stp ?_ | (refine stp2 ?_ ?_ <;> intro _))
  refine RD.callW n10 rfl opds hwd (fun x q => ?_) (Nat.le_refl _) cfw ?_
  · by_cases z : x < n
    · exact .inl (.inl (hF10' x z q))
    · exact .inr (by omega)
  rintro r n11 h11 k11 ⟨rfl, F11, G11, D11, hF11, hG11, e11⟩
  have e11 : ExtW F10 n10 h10 h11 := (ExtW.of (AH.below_ext h10 n10) (Nat.le_refl _)).trans e11 (Nat.le_refl _) (fun _ _ q => q)
  have R11 := R10.diskR D11 hF11 hG11 e11 k11
  have e11' : ExtW F n h h11 := e10'.trans e11 (by omega) hF10'
  have hF11' : ∀ x, x < n → F11 x → F x := fun x hx q => hF10' x hx (hF11 x (by omega) q)
  have hG11' : ∀ x, x < n → G11 x → G x := fun x hx q => hG10' x hx (hG11 x (by omega) q)
  have hlt11 := R11.hi
  have d0b : h11.cell lg 0 = .pointer (some ⟨d, 0, none⟩) := R11.c0
  by_cases pu : u1 = 0
  rotate_left
  · rw [if_pos pu] at hwS
    rw [hwS, if_pos pu] at hD
    repeat' (first | refine stp ?_ | (refine stp2 ?_ ?_ <;> intro _))
    repeat' (first | refine stpS ?_ | (refine stp2 ?_ ?_ <;> intro _))
    exact hto hD (by omega) R11 hF11' hG11' e11'
  rw [if_neg (fun z => z pu)] at hwS
  subst pu
  have hsy2 := Dk.rsync_rk D11 (by omega) (by omega) 1
  rw [← hwS] at hsy2
  clear hwS
  obtain ⟨v1, v2⟩ := w2
  dsimp only at hsy2 hD
  repeat' (first | refine stp ?_ | (refine stp2 ?_ ?_ <;> intro _))
  repeat' (first | refine stpS ?_ | (refine stp2 ?_ ?_ <;> intro _))
  refine RS.call rfl opds hsy2 (fun x q => ?_) ?_
  · by_cases z : x < n
    · exact .inl (.inl (hF11' x z q))
    · exact .inr (by omega)
  rintro r n12 h12 k12 ⟨rfl, F12, G12, D12, hF12, hG12, e12⟩
  have R12 : RgR h12 n12 lg d F12 G12 a N B { X with S := v2 } := R11.diskR D12 hF12 hG12 e12 k12
  have e12' : ExtW F n h h12 := e11'.trans e12 (by omega) hF11'
  have hF12' : ∀ x, x < n → F12 x → F x := fun x hx q => hF11' x hx (hF12 x (by omega) q)
  have hG12' : ∀ x, x < n → G12 x → G x := fun x hx q => hG11' x hx (hG12 x (by omega) q)
  by_cases pv : v1 = 0
  rotate_left
  · rw [if_pos pv] at hD
    repeat' (first | refine stpS ?_ | (refine stp2 ?_ ?_ <;> intro _))
    exact hto hD (by omega) R12 hF12' hG12' e12'
  rw [if_neg (fun z => z pv)] at hD
  subst pv
  have S12 : SlQ h12 n12 c ad ls := SlQ.extW S e12' (by omega) (fun q z => hc q (.inl z)) (fun j hj q z => hr j hj q (.inl z))
  repeat' (first | refine stpS ?_ | (refine stp2 ?_ ?_ <;> intro _))
  refine RC.loop ?_
  refine RL.inv (α := Nat × Option Addr × List (Option Addr × List UInt8)) (fun u => [(14, .int .i64 (u.1 : Nat)), (13, .slice u.2.1 u.1 u.1), (6, .int .i64 ((X.e : Int) + 512)), (5, .slice a5 l.length l.length), (1, .slice c ls.length ls.length), (0, .pointer (some ⟨lg, 0, none⟩))])
    (fun u n3 h3 => u.1 ≤ ls.length ∧ n12 ≤ n3 ∧ Ext n12 h12 h3 ∧ Cm h3 n12 n3 u.2.1 u.2.2 ∧ u.2.2.map (·.2) = ls.take u.1)
    (fun u => ls.length - u.1) (0, none, []) envs ⟨by omega, Nat.le_refl _, Ext.refl _ _, OwnRR.nil (Nat.le_refl _), rfl⟩ ?_
  rintro ⟨i, s, M⟩ n3 h3 ⟨hi, hn3, E3, hM, hMs⟩
  dsimp only at hi hn3 E3 hM hMs ⊢
  have hMl : M.length = i := by have := congrArg List.length hMs; rw [List.length_map, List.length_take] at this; omega
  by_cases hlt : i < ls.length
  · have S3 := S12.ext E3 hn3
    have hout := S3.out
    have hrow := S3.row i hlt
    have hA : SlA c ls.length := SlR.sla hout
    have hsn : sb c < n3 := SlR.lt hout (by omega)
    have hmem : ls.getD i [] ∈ ls := by simp [List.getD, List.getElem?_eq_getElem hlt]
    have hr1 := hrl _ hmem
    have htk : ls.take (i + 1) = ls.take i ++ [ls.getD i []] := by rw [List.take_succ_eq_append_getElem hlt]; simp [List.getD, hlt]
    obtain ⟨y, hy⟩ : ∃ y, y = ls.getD i [] := ⟨_, rfl⟩
    have hyI : ls.getD ((i : Nat) : Int).toNat [] = y := by rw [Int.toNat_natCast, hy]
    rw [← hy] at hrow hr1 htk
    repeat' (first | refine stpS ?_ | (refine stp2 ?_ ?_ <;> intro _))
    unfold rowsF
    rw [hyI, Int.toNat_natCast]
    refine RS.append rfl opd opd (OwnSl.nil (h := h3) (n0 := n3) (n := n3) (z := 1) (Nat.le_refl n3)) (SlB.src hrow) full_slice (fun b hb => Or.inr (by omega)) (by omega) ?_
    intro c5 n5' h5' k5' O5' X5' w5'
    have E5' : Ext n3 h3 h5' := X5'.ext (OwnSl.nil (h := h3) (n0 := n3) (n := n3) (z := 1) (Nat.le_refl n3))
    rw [Nat.zero_add, List.nil_append] at O5'
    rw [Nat.zero_add]
    have hcn : c5 = none ∨ n3 ≤ sb c5 := O5'.at'.imp id (·.1)
    repeat' (first | refine stpS ?_ | (refine stp2 ?_ ?_ <;> intro _))
    obtain ⟨g8, hg⟩ : ∃ g8, g8 = h5'.app (.new n5' ⟨1, 0, true, 1⟩ [.slice c5 y.length y.length]) := ⟨_, rfl⟩
    refine RS.heap hg ?_
    have E8 : Ext n5' h5' g8 := by rw [hg]; exact ext
    have hnew : OwnSl g8 n5' (n5' + 1) (some ⟨n5', 0, none⟩) 1 1 [.slice c5 y.length y.length] := by rw [hg]; exact OwnSl.new (m := 1) (z := 1) (Nat.le_refl _) rfl rfl
    clear hg
    have E38 : Ext n3 h3 g8 := E5'.trans k5' E8
    have kM8 : Cm g8 n12 (n5' + 1) s M := hM.ext E38 (by omega)
    have hO8 := kM8.out
    rw [cmL_length, hMl] at hO8
    refine RS.append rfl opd opd hO8 hnew.src full_slice (fun b hb => Or.inr (by omega)) (by omega) ?_
    intro s' n9' h9' hle9 hO9 hX9 hwh
    have kM9 : Cm h9' n12 n9' s' (M ++ [(c5, y)]) := by
      have := OwnRR.push (e := (c5, y.length, bytesV y)) kM8 ((O5'.ext E8 (Nat.le_succ _)).mono (by omega)) (Apart.of (n := n3) (hM.out.at'.imp id (·.2)) hcn)
        (fun j f hf => (Apart.of (n := n3) ((hM.inn j f hf).at'.imp id (·.2)) hcn).symm) hX9 hle9 (by rw [cmL_length, hMl]; exact hO9) hwh
      unfold Cm
      rw [cmL_snoc]
      exact this
    have E9 : Ext n12 h12 h9' := (E3.trans hn3 E38).trans (by omega) (hX9.ext hO8)
    repeat' (first | refine stpS ?_ | (refine stp2 ?_ ?_ <;> intro _))
    refine nextC.normal ⟨(i + 1, s', M ++ [(c5, y)]), by dsimp only; omega, envs, by dsimp only; omega, by omega, E9, kM9, ?_⟩
    show (M ++ [(c5, y)]).map (·.2) = ls.take (i + 1)
    rw [List.map_append, hMs, htk]; rfl
  obtain rfl : i = ls.length := by omega
  rw [List.take_length] at hMs
  have R3 : RgR h3 n3 lg d F12 G12 a N B { X with S := v2 } := R12.extW (ExtW.of E3 (Nat.le_refl _) : ExtW (fun _ => False) n12 h12 h3) hn3 (fun _ _ q => q)
  have hlt3 := R3.hi
  have d23 : h3.cell lg 2 = .slice a X.L.length X.L.length := R3.c2
  have hTl : RgT lg F G a B lg := .inr (.inr (.inl rfl))
  repeat' (first | refine stpS ?_ | (refine stp2 ?_ ?_ <;> intro _))
  obtain ⟨g8, hg⟩ : ∃ g8, g8 = h3.app (.new n3 ⟨1, 0, true, 1⟩ [.slice s ls.length ls.length]) := ⟨_, rfl⟩
  refine RS.heap hg ?_
  have E8 : Ext n3 h3 g8 := by rw [hg]; exact ext
  have hnew : OwnSl g8 n3 (n3 + 1) (some ⟨n3, 0, none⟩) 1 1 [.slice s ls.length ls.length] := by rw [hg]; exact OwnSl.new (m := 1) (z := 1) (Nat.le_refl _) rfl rfl
  clear hg
  have R8' : RgR g8 (n3 + 1) lg d F12 G12 a N B { X with S := v2 } := R3.extW (ExtW.of E8 (Nat.le_refl _) : ExtW (fun _ => False) n3 h3 g8) (Nat.le_succ _) (fun _ _ q => q)
  have hO8 : OwnSl g8 0 (n3 + 1) a 1 X.L.length (lgC N) := R8'.own
  have hleL : X.L.length ≤ X.e := le
  refine RS.appendT rfl opd opd hO8 hnew.src full_slice (fun q => .inl (.inr (.inr (.inr (.inl ⟨q, rfl⟩))))) (by omega) ?_
  intro a' n9' h9' k9' O9' X9' wh
  have hla := R3.lF.2.2
  have hal : a = none ∨ lg ≠ sb a := by
    by_cases z : a = none
    · exact .inl z
    · exact .inr fun w => hla ⟨z, w⟩
  have hlt9' : lg < n9' := by omega
  have i9' : h9'.info lg = some ⟨4, 0, true, 0⟩ := i_extX X9' (by omega) hal R8'.inf
  have hC3 : CmR g8 (n3 + 1) (fun b => n12 ≤ b ∧ b < n3) s ls := by
    have := hM.cmr
    rw [hMs] at this
    exact this.extW (ExtW.of E8 (Nat.le_refl _) : ExtW (fun _ => False) n3 h3 g8) (Nat.le_succ _) (fun _ _ q => q)
  have hP := RgR.push (k := 512 + W) R8' hC3 (fun b q => ⟨by omega, by omega, fun z => by have := R12.alt b z; omega, fun z => by have := R12.dk.ltF b z; omega⟩) X9' k9' O9' wh (by show X.e + (512 + W) ≤ _; omega) (by omega)
  have hN : (X.e : Int) + 512 + (W : Nat) = ((X.e + (512 + W) : Nat) : Int) := by omega
  have e9z : ExtW (RgT lg F G a B) n h h9' := by
    have q1 : ExtW (RgT lg F G a B) n h h12 := e12'.mono (Nat.le_refl _) (fun b _ q => .inl q)
    have q2 : ExtW (RgT lg F G a B) n h g8 := q1.then (E3.trans hn3 E8) (by omega)
    exact q2.trans (extX_extW X9') (by omega) (fun b _ q => .inr (.inr (.inr (.inl q))))
  have hwhf : ∀ (n' : Nat) (h' : AH), Ev Tryz.prog none' 57 #[.int .i64 (l.length : Nat)] n' h' (.int .i64 (W : Nat)) n' h' := fun n' h' => by rw [hW]; exact whole_ev l.length (by omega) n' h'
  repeat' (first | refine stpS ?_ | (refine stp2 ?_ ?_ <;> intro _))
  refine RS.call1 rfl opds (hwhf _ _) none'W ?_
  repeat' (first | refine stpS ?_ | (refine stp2 ?_ ?_ <;> intro _))
  rw [hN]
  rw [hD, hfl2]
  refine ⟨rfl, _, ⟨F12, G12, a', _, _, hP, rfl⟩, ?_, ExtW.appSets (.inl (.inr (.inr (.inl rfl)))) (ExtW.appSets (.inl (.inr (.inr (.inl rfl)))) e9z)⟩
  rintro x hx (w | w | w | w | w | w)
  · exact .inl (hF12' x hx w)
  · exact .inr (.inl (hG12' x hx w))
  · exact .inr (.inr (.inl w))
  · rcases wh with z | z
    · rw [z] at w; exact .inr (.inr (.inr (.inl w)))
    · have := w.2; omega
  · exact .inr (.inr (.inr (.inr w)))
  · omega
end
end Go.Proofs.YtfbddbpbifnhfaaGreatDoor
