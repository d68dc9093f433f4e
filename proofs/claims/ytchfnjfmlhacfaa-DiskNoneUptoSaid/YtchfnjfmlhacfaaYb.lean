/- The document's disk: now, may, meets. -/
import Derived.Test.YtchfnjfmlhacfaaYa
import Derived.Test.YtchfnjfmlhacfaaAp
namespace Go.Proofs.Ytchfnjfmlhacfaa
open Go.Abs

section
variable {h h1 h2 : AH} {n n1 n2 r : Nat} {sa : Nat → Option Addr} {ol ka : Option Addr} {pa : List (Option Addr)} {S : DS}
theorem RfR.row (R : RfR h n r sa ol ka pa S) {i : Nat} {p : Pc} (hp : S.ps[i]? = some p) : SlA ol S.ps.length ∧ sb ol < n ∧ h.cell (sb ol) (so ol + i * 4) = .int .i64 (p.file : Nat) ∧ h.cell (sb ol) (so ol + i * 4 + 1) = .bool p.cut ∧ h.cell (sb ol) (so ol + i * 4 + 2) = .int .i64 (p.at_ : Nat) ∧ h.cell (sb ol) (so ol + i * 4 + 3) = .slice (pa.getD i none) p.b.length p.b.length := by
  have hi := (List.getElem?_eq_some_iff.1 hp).1
  obtain ⟨hso, -, hsn, -, hA, hC⟩ := R.lo.facts (by omega)
  have go : ∀ j v, (rpC p (pa.getD i none))[j]? = some v → h.cell (sb ol) (so ol + (i * 4 + j)) = v := fun j v hv => by
    have hj : j < 4 := (List.getElem?_eq_some_iff.1 hv).1
    have := rpsC_at S.ps pa i p R.len hp j v hv
    exact (hC (i * 4 + j) (by omega)).trans (by simp [List.getD, this])
  exact ⟨hA, hsn, go 0 _ rfl, go 1 _ rfl, go 2 _ rfl, go 3 _ rfl⟩
theorem nowP_take (f : Nat) (l : List UInt8) (ps : List Pc) (i : Nat) (p : Pc) (hp : ps[i]? = some p) : nowP f l (ps.take (i + 1)) = if p.file = f then doP (nowP f l (ps.take i)) p else nowP f l (ps.take i) := by
  have htk : ps.take (i + 1) = ps.take i ++ [p] := by rw [List.take_add_one, hp]; rfl
  rw [htk, nowP_snoc]
set_option maxHeartbeats 4000000 in
theorem rnow_rf (R : RfR h n r sa ol ka pa S) (ok : DSOk S) (hps : S.ps.length ≤ 1099511627776) {f : Nat} (hf : f < 2) :
    RF Try.prog none' 49 #[.pointer (some ⟨r, 0, none⟩), .int .i64 (f : Nat)] n h (fun v n' h' => ∃ a', v = .slice a' (S.now f).length (S.now f).length ∧ Ext n h h' ∧ SlB h' n' a' (S.now f) ∧ (a' = sa f ∨ a' = none ∨ n ≤ sb a')) := by
  refine RF.of Try.func49 rfl rfl (Nat.le_of_ble_eq_true rfl) ?_; dsimp only [argEnv]
  have hlt := R.lt
  have cf : h.cell r f = .slice (sa f) (S.sure f).length (S.sure f).length := by
    rcases (show f = 0 ∨ f = 1 by omega) with rfl | rfl
    · exact R.cs 0 _ rfl
    · exact R.cs 1 _ rfl
  repeat' (first | refine stpS ?_ | (refine stp2 ?_ ?_ <;> intro _))
  refine RC.loop ?_
  refine RL.inv (α := Nat × Option Addr) (fun s => [(6, .int .i64 (s.1 : Nat)), (5, .slice s.2 (nowP f (S.sure f) (S.ps.take s.1)).length (nowP f (S.sure f) (S.ps.take s.1)).length), (0, .pointer (some ⟨r, 0, none⟩)), (1, .int .i64 (f : Nat))])
    (fun s n1 h1 => s.1 ≤ S.ps.length ∧ n ≤ n1 ∧ Ext n h h1 ∧ SlB h1 n1 s.2 (nowP f (S.sure f) (S.ps.take s.1)) ∧ (s.2 = sa f ∨ s.2 = none ∨ n ≤ sb s.2)) (fun s => S.ps.length - s.1) (0, sa f) envs ⟨by omega, Nat.le_refl _, Ext.refl _ _, R.su f hf, .inl rfl⟩ ?_
  rintro ⟨i, a⟩ n1 h1 ⟨hi, hn1, hE, hS, ha⟩
  dsimp only at hi hS ha ⊢
  have R1 := R.ext hE hn1
  have hlt1 := R1.lt
  have c2 : h1.cell r 2 = .slice ol S.ps.length S.ps.length := R1.cs 2 _ rfl
  have hnl : (nowP f (S.sure f) (S.ps.take i)).length ≤ 4194304 := nowP_le f (ok.sure f) (fun p hp => ok.ps p (List.mem_of_mem_take hp))
  by_cases hlti : i < S.ps.length
  · obtain ⟨p, hp⟩ : ∃ p, S.ps[i]? = some p := ⟨_, List.getElem?_eq_getElem hlti⟩
    have hpo := ok.ps p (List.mem_of_getElem? hp)
    obtain ⟨hA, hsn, d0, d1, d2, d3⟩ := R1.row hp
    have htk := nowP_take f (S.sure f) S.ps i p hp
    have hB := R1.dat i p hp
    generalize nowP f (S.sure f) (S.ps.take i) = t at *
    by_cases e : p.file = f
    · rw [if_pos e] at htk
      repeat' (first | refine stpS ?_ | (refine stp2 ?_ ?_ <;> intro _))
      refine RS.call rfl opds (rdone_rf t p a (pa.getD i none) n1 h1 hnl hpo hS hB (by omega)) none'W ?_
      rintro v n2 h2 hle ⟨a2, rfl, hE2, hS2, hnew⟩
      repeat' (first | refine stpS ?_ | (refine stp2 ?_ ?_ <;> intro _))
      refine nextC.normal ⟨(i + 1, a2), by dsimp only; omega, ?_, by dsimp only; omega, by omega, ext, ?_, ?_⟩
      · dsimp only; rw [htk]; exact envs
      · dsimp only; rw [htk]; exact hS2
      · dsimp only; exact .inr (hnew.imp id (by omega))
    · rw [if_neg e] at htk
      repeat' (first | refine stpS ?_ | (refine stp2 ?_ ?_ <;> intro _))
      refine nextC.normal ⟨(i + 1, a), by dsimp only; omega, ?_, by dsimp only; omega, hn1, ext, ?_, ha⟩
      · dsimp only; rw [htk]; exact envs
      · dsimp only; rw [htk]; exact hS
  · have hie : i = S.ps.length := by omega
    subst hie
    rw [List.take_length] at hS ⊢
    repeat' (first | refine stpS ?_ | (refine stp2 ?_ ?_ <;> intro _))
    exact ⟨a, rfl, hE, hS, ha⟩
set_option maxHeartbeats 4000000 in
theorem rmay_rk {F G : Nat → Prop} (D : Rk h n r F G S) (f : Int) : Ev Try.prog none' 55 #[.pointer (some ⟨r, 0, none⟩), .int .i64 f] n h (.int .i64 (S.may f)) n h := by
  refine RF.pure rfl fun n' hn => ?_
  have D := D.ext (Ext.refl n h) hn
  refine RF.of Try.func55 rfl rfl (Nat.le_of_ble_eq_true rfl) ?_; dsimp only [argEnv]
  have hlt := D.lt
  obtain ⟨sa, ol, ka, C⟩ := D.cell
  have c6 : h.cell r 6 = .bool S.down := C 6 _ rfl
  unfold DS.may
  cases hd : S.down
  · rw [hd] at c6
    by_cases h0 : f = 0
    · repeat' (first | refine stpS ?_ | (refine stp2 ?_ ?_ <;> intro _))
      simp [h0]
    · by_cases h1 : f = 1
      · repeat' (first | refine stpS ?_ | (refine stp2 ?_ ?_ <;> intro _))
        simp [h1]
      · repeat' (first | refine stpS ?_ | (refine stp2 ?_ ?_ <;> intro _))
        simp [h0, h1]
  · rw [hd] at c6
    repeat' (first | refine stpS ?_ | (refine stp2 ?_ ?_ <;> intro _))
    simp
/-- A call is counted: does it meet the fuse? -/
def DS.meets (S : DS) : Bool × DS := if S.fuse = 0 then (false, { S with calls := S.calls + 1 }) else (decide (S.fuse - 1 = 0), { S with calls := S.calls + 1, fuse := S.fuse - 1 })
theorem ends_meets {S : DS} (h : 0 ≤ S.fuse) : S.ends = if S.meets.1 = true then (6, S.meets.2.lose S.keep) else (0, S.meets.2) := by
  unfold DS.ends DS.meets
  by_cases h0 : S.fuse = 0
  · simp [h0]
  · rw [if_neg h0, if_neg h0]
    by_cases h1 : 1 < S.fuse
    · rw [if_pos h1, if_neg (by simp; omega)]
    · rw [if_neg h1, if_pos (by simp; omega)]
theorem meets_ps (S : DS) (ps : List Pc) : ({ S with ps := ps } : DS).meets = (S.meets.1, { S.meets.2 with ps := ps }) := by
  unfold DS.meets
  split <;> rfl
theorem RfR.scalar {j : Nat} {v : Value} {S' : DS} (R : RfR h n r sa ol ka pa S) (hj : j = 3 ∨ j = 5 ∨ j = 6) (hc : rfC sa ol ka S' = (rfC sa ol ka S).set j v) (h1 : S'.sure = S.sure) (h2 : S'.ps = S.ps) (h3 : S'.keep = S.keep) :
    RfR (h.app (.sets r j [v])) n r sa ol ka pa S' := by
  have hX : ExtX n ol h h := ExtX.refl
  obtain ⟨q1, q2, q3⟩ := R.rest hX (Nat.le_refl _)
  exact R.put hX (Nat.le_refl _) hc (by omega) (by rw [h1]; exact q1) (by rw [h2]; exact R.lo) (by rw [h3]; exact q2) (by rw [h2]; exact q3) (by rw [h2]; exact R.len) (.inl rfl) (fun x hx => .inl hx)
theorem meets_ok (ok : DSOk S) : DSOk S.meets.2 := by
  unfold DS.meets
  split
  · exact ⟨ok.ps, ok.sure, ok.fuse, by show 0 ≤ S.calls + 1; have := ok.calls; omega, ok.keep⟩
  · exact ⟨ok.ps, ok.sure, by show 0 ≤ S.fuse - 1 ∧ S.fuse - 1 ≤ _; have := ok.fuse; omega, by show 0 ≤ S.calls + 1; have := ok.calls; omega, ok.keep⟩
set_option maxHeartbeats 4000000 in
theorem rmeets_rk {F G : Nat → Prop} (D : Rk h n r F G S) (hcl : S.calls < 4611686018427387904) :
    RF Try.prog F 56 #[.pointer (some ⟨r, 0, none⟩)] n h (fun v n' h' => v = .bool S.meets.1 ∧ n' = n ∧ Rk h' n r F G S.meets.2 ∧ ExtW F n h h') := by
  refine RF.of Try.func56 rfl rfl (Nat.le_of_ble_eq_true rfl) ?_; dsimp only [argEnv]
  have hlt := D.lt
  have hTr := D.inF
  obtain ⟨ok, sa, ol, ka, pa, rfl, rfl, R⟩ := id D
  have hinf := R.inf
  have c3 : h.cell r 3 = .int .i64 S.fuse := R.cs 3 _ rfl
  have c5 : h.cell r 5 = .int .i64 S.calls := R.cs 5 _ rfl
  have hok := meets_ok ok
  have hcn := ok.calls
  have hfn := ok.fuse
  have R1 : RfR (h.app (.sets r 5 [.int .i64 (S.calls + 1)])) n r sa ol ka pa { S with calls := S.calls + 1 } := R.scalar (.inr (.inl rfl)) rfl rfl rfl rfl
  by_cases h0 : S.fuse = 0
  · have hm : S.meets = (false, { S with calls := S.calls + 1 }) := by rw [DS.meets, if_pos h0]
    rw [hm] at hok ⊢
    repeat' (first | refine stpS ?_ | (refine stp2 ?_ ?_ <;> intro _))
    exact ⟨rfl, rfl, ⟨hok, sa, ol, ka, pa, rfl, rfl, R1⟩, ExtW.appSets (.inl hTr) (ExtW.refl _ _ _)⟩
  · have hm : S.meets = (decide (S.fuse - 1 = 0), { S with calls := S.calls + 1, fuse := S.fuse - 1 }) := by rw [DS.meets, if_neg h0]
    rw [hm] at hok ⊢
    have R2 : RfR ((h.app (.sets r 5 [.int .i64 (S.calls + 1)])).app (.sets r 3 [.int .i64 (S.fuse - 1)])) n r sa ol ka pa { S with calls := S.calls + 1, fuse := S.fuse - 1 } := R1.scalar (.inl rfl) rfl rfl rfl rfl
    by_cases h1 : S.fuse - 1 = 0
    · repeat' (first | refine stpS ?_ | (refine stp2 ?_ ?_ <;> intro _))
      exact ⟨by simp [h1], rfl, ⟨hok, sa, ol, ka, pa, rfl, rfl, R2⟩, ExtW.appSets (.inl hTr) (ExtW.appSets (.inl hTr) (ExtW.refl _ _ _))⟩
    · repeat' (first | refine stpS ?_ | (refine stp2 ?_ ?_ <;> intro _))
      exact ⟨by simp [h1], rfl, ⟨hok, sa, ol, ka, pa, rfl, rfl, R2⟩, ExtW.appSets (.inl hTr) (ExtW.appSets (.inl hTr) (ExtW.refl _ _ _))⟩
end
end Go.Proofs.Ytchfnjfmlhacfaa
