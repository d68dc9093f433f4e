/- The document's disk: lose, ends, crash, the fuse, the answers. -/
import Derived.Test.YtchfnjfmlhacfaaYb
namespace Go.Proofs.Ytchfnjfmlhacfaa
open Go.Abs

section
variable {h h1 h2 : AH} {n n1 n2 r : Nat} {F G F1 G1 : Nat → Prop} {S S1 : DS}
theorem mem_upd {sa : Nat → Option Addr} {ka : Option Addr} {pa : List (Option Addr)} {i : Nat} {a x : Option Addr} (hx : x ∈ rfG (upd sa i a) ka pa) : x = a ∨ x ∈ rfG sa ka pa := by
  simp only [rfG, List.mem_cons] at hx ⊢
  unfold upd at hx
  rcases hx with k | k | k
  · split at k
    · exact .inl k
    · exact .inr (.inl k)
  · split at k
    · exact .inl k
    · exact .inr (.inr (.inl k))
  · exact .inr (.inr (.inr k))
set_option maxHeartbeats 4000000 in
theorem rnew_rf (n : Nat) (h : AH) (hn : 0 < n) : RF Try.prog none' 24 #[] n h (fun v n' h' => ∃ r F G, v = .pointer (some ⟨r, 0, none⟩) ∧ Rk h' n' r F G DS.init ∧ (∀ b, F b → n ≤ b) ∧ (∀ b, ¬ G b) ∧ Ext n h h') := by
  refine RF.of Try.func24 rfl rfl (Nat.le_of_ble_eq_true rfl) ?_; dsimp only [argEnv]
  repeat' (first | refine stpS ?_ | (refine stp2 ?_ ?_ <;> intro _))
  have hg : ∀ x : Option Addr, x ∈ rfG (fun _ => none) none [] → x = none := fun x hx => by simpa [rfG] using hx
  refine ⟨n, RkF n none, RkG (fun _ => none) none [], rfl, ⟨init_ok, fun _ => none, none, none, [], rfl, rfl, ?_⟩, ?_, ?_, ext⟩
  · refine ⟨Nat.lt_succ_self n, i_new, fun i v hv => ?_, fun i _ => .nil, .nil (Nat.zero_le _), .nil, fun i p hp => (by cases hp), rfl, .inl rfl, fun x hx => ⟨.inl (hg x hx), .inl rfl⟩, fun x hx q => absurd (hg x hx) q⟩
    have hi : i < 7 := (List.getElem?_eq_some_iff.1 hv).1
    rcases (show i = 0 ∨ i = 1 ∨ i = 2 ∨ i = 3 ∨ i = 4 ∨ i = 5 ∨ i = 6 by omega) with rfl | rfl | rfl | rfl | rfl | rfl | rfl <;> (cases hv; exact cell)
  · rintro b (rfl | ⟨hne, _⟩)
    · exact Nat.le_refl _
    · exact absurd rfl hne
  · rintro b ⟨x, hx, hne, _⟩
    exact hne (hg x hx)
set_option maxHeartbeats 4000000 in
theorem rlose_rk {c : Option Addr} {ks : List Bool} (D : Rk h n r F G S) (hps : S.ps.length ≤ 1099511627776) (hks : ks.length ≤ 1099511627776) (hS : SlT h n c ks) (hc : c ≠ none → ¬ F (sb c)) :
    RF Try.prog F 58 #[.pointer (some ⟨r, 0, none⟩), .slice c ks.length ks.length] n h (fun _ n' h' => RkTo n r F G h (S.lose ks) n' h') := by
  refine RF.of Try.func58 rfl rfl (Nat.le_of_ble_eq_true rfl) ?_; dsimp only [argEnv]
  obtain ⟨ok, sa, ol, ka, pa, rfl, rfl, R⟩ := D
  repeat' (first | refine stpS ?_ | (refine stp2 ?_ ?_ <;> intro _))
  refine RC.loop ?_
  refine RL.inv (α := Nat × (Nat → Option Addr)) (fun s => [(4, .int .i64 (s.1 : Nat)), (0, .pointer (some ⟨r, 0, none⟩)), (1, .slice c ks.length ks.length)])
    (fun s n1 h1 => s.1 ≤ S.ps.length ∧ n ≤ n1 ∧ RfR h1 n1 r s.2 ol ka pa { S with sure := loseP S.sure (S.ps.take s.1) ks } ∧ (∀ x, x ∈ rfG s.2 ka pa → x ∈ rfG sa ka pa ∨ x = none ∨ n ≤ sb x) ∧ ExtW (RkF r ol) n h h1) (fun s => S.ps.length - s.1) (0, sa) envs ⟨by omega, Nat.le_refl _, R, fun x hx => .inl hx, ExtW.refl _ _ _⟩ ?_
  rintro ⟨i, sa1⟩ n1 h1 ⟨hi, hn1, R1, hg1, e1⟩
  dsimp only at hi R1 hg1 ⊢
  have hlt1 := R1.lt
  have hinf := R1.inf
  have c2 : h1.cell r 2 = .slice ol S.ps.length S.ps.length := R1.cs 2 _ rfl
  have hlen := loseP_le (ps := S.ps.take i) (ks := ks) ok.sure (fun p hp' => ok.ps p (List.mem_of_mem_take hp'))
  have hTr : RkF r ol r := .inl rfl
  by_cases hlti : i < S.ps.length
  · obtain ⟨p, hp⟩ : ∃ p, S.ps[i]? = some p := ⟨_, List.getElem?_eq_getElem hlti⟩
    have hpo := ok.ps p (List.mem_of_getElem? hp)
    obtain ⟨hA, hsn, d0, d1, d2, d3⟩ := R1.row hp
    have hf2 : p.file < 2 := by rcases hpo.file with q | q <;> omega
    have htk : S.ps.take (i + 1) = S.ps.take i ++ [p] := by rw [List.take_add_one, hp]; rfl
    have hti : (S.ps.take i).length = i := by rw [List.length_take]; omega
    have hA2 : SlA c ks.length := hS.sla
    have R2 := R1.ext (h1 := (h1.app (.new n1 ⟨4, 0, true, 0⟩ [.int .i64 0, .bool false, .int .i64 0, .slice none 0 0])).app (.sets n1 0 (rpC p (pa.getD i none)))) ext (Nat.le_succ n1)
    have e2 : ExtW (RkF r ol) n h ((h1.app (.new n1 ⟨4, 0, true, 0⟩ [.int .i64 0, .bool false, .int .i64 0, .slice none 0 0])).app (.sets n1 0 (rpC p (pa.getD i none)))) := ExtW.appSets (.inr hn1) (ExtW.appNew hn1 e1)
    cases hk : ks.getD i false
    · have hls : loseP S.sure (S.ps.take (i + 1)) ks = loseP S.sure (S.ps.take i) ks := by
        rw [htk, loseP_snoc, hti, hk]; simp
      by_cases hik : i < ks.length
      · have hcb : h1.cell (sb c) (so c + i) = .bool false := by
          have := (hS.extW e1 hn1 hc).cell i (by omega)
          rw [this, boolsF, hk]
        have hcl : sb c < n1 := Nat.lt_of_lt_of_le (hS.lt (by omega)) hn1
        repeat' (first | refine stpS ?_ | (refine stp2 ?_ ?_ <;> intro _))
        refine nextC.normal ⟨(i + 1, sa1), by dsimp only; omega, envs, by dsimp only; omega, by omega, ?_, hg1, e2⟩
        dsimp only
        rw [hls]
        exact R2
      · repeat' (first | refine stpS ?_ | (refine stp2 ?_ ?_ <;> intro _))
        refine nextC.normal ⟨(i + 1, sa1), by dsimp only; omega, envs, by dsimp only; omega, by omega, ?_, hg1, e2⟩
        dsimp only
        rw [hls]
        exact R2
    · have hik : i < ks.length := by
        refine Classical.byContradiction fun q => ?_
        rw [List.getD, List.getElem?_eq_none (by omega)] at hk
        cases hk
      have hls : loseP S.sure (S.ps.take (i + 1)) ks = upd (loseP S.sure (S.ps.take i) ks) p.file (doP (loseP S.sure (S.ps.take i) ks p.file) p) := by
        rw [htk, loseP_snoc, hti, hk]; simp
      have hcb : h1.cell (sb c) (so c + i) = .bool true := by
        have := (hS.extW e1 hn1 hc).cell i (by omega)
        rw [this, boolsF, hk]
      have hcl : sb c < n1 := Nat.lt_of_lt_of_le (hS.lt (by omega)) hn1
      repeat' (first | refine stpS ?_ | (refine stp2 ?_ ?_ <;> intro _))
      generalize hL : loseP S.sure (S.ps.take i) ks = L at *
      have cf : ((h1.app (.new n1 ⟨4, 0, true, 0⟩ [.int .i64 0, .bool false, .int .i64 0, .slice none 0 0])).app (.sets n1 0 (rpC p (pa.getD i none)))).cell r p.file = .slice (sa1 p.file) (L p.file).length (L p.file).length := by
        rcases hpo.file with q | q <;> rw [q]
        · exact R2.cs 0 _ rfl
        · exact R2.cs 1 _ rfl
      have g0 : ((h1.app (.new n1 ⟨4, 0, true, 0⟩ [.int .i64 0, .bool false, .int .i64 0, .slice none 0 0])).app (.sets n1 0 (rpC p (pa.getD i none)))).cell n1 0 = .int .i64 (p.file : Nat) := cell
      have g1 : ((h1.app (.new n1 ⟨4, 0, true, 0⟩ [.int .i64 0, .bool false, .int .i64 0, .slice none 0 0])).app (.sets n1 0 (rpC p (pa.getD i none)))).cell n1 1 = .bool p.cut := cell
      have g2 : ((h1.app (.new n1 ⟨4, 0, true, 0⟩ [.int .i64 0, .bool false, .int .i64 0, .slice none 0 0])).app (.sets n1 0 (rpC p (pa.getD i none)))).cell n1 2 = .int .i64 (p.at_ : Nat) := cell
      have g3 : ((h1.app (.new n1 ⟨4, 0, true, 0⟩ [.int .i64 0, .bool false, .int .i64 0, .slice none 0 0])).app (.sets n1 0 (rpC p (pa.getD i none)))).cell n1 3 = .slice (pa.getD i none) p.b.length p.b.length := cell
      have hrlt := R2.lt
      have hinf2 := R2.inf
      refine RC.gen (fun g => RfR g (n1 + 1) r sa1 ol ka pa { S with sure := L } ∧ g.cell r p.file = .slice (sa1 p.file) (L p.file).length (L p.file).length ∧ (g.cell n1 0 = .int .i64 (p.file : Nat) ∧ g.cell n1 1 = .bool p.cut ∧ g.cell n1 2 = .int .i64 (p.at_ : Nat) ∧ g.cell n1 3 = .slice (pa.getD i none) p.b.length p.b.length) ∧ ExtW (RkF r ol) n h g ∧ g.info r = some ⟨7, 0, true, 0⟩) ⟨R2, cf, ⟨g0, g1, g2, g3⟩, e2, hinf2⟩ ?_
      clear R2 cf g0 g1 g2 g3 e2 R1 e1 hcb d0 d1 d2 d3 c2 hinf hinf2
      rintro g ⟨R2, cf, ⟨g0, g1, g2, g3⟩, e2, hinf2⟩
      have hfl := hlen p.file
      repeat' (first | refine stp ?_ | (refine stp2 ?_ ?_ <;> intro _))
      refine RD.call (n1 + 1) rfl opds (rdone_rf (L p.file) p (sa1 p.file) (pa.getD i none) (n1 + 1) _ hfl hpo ((R2.su p.file hf2).ext (AH.below_ext g (n1 + 1)) (Nat.le_refl _)) ((R2.dat i p hp).ext (AH.below_ext g (n1 + 1)) (Nat.le_refl _)) (by omega)) (Nat.le_refl _) cfc ?_
      rintro v n2 h2 hle2 ⟨a2, rfl, hE2, hS2, hnew⟩
      have hE3 : Ext (n1 + 1) g h2 := hE2.via (Nat.le_refl _) (AH.below_ext g (n1 + 1))
      have hX : ExtX (n1 + 1) ol g h2 := fun x hx _ => ⟨hE3.info x hx, fun k => hE3.cell x k hx⟩
      obtain ⟨q1, q2, q3⟩ := R2.rest hX hle2
      have hrl := R2.rl
      have hol : ol = none ∨ sb ol < n1 + 1 := by
        by_cases q : ol = none
        · exact .inl q
        · exact .inr (R2.ltF _ (.inr ⟨q, rfl⟩))
      have R3 : RfR (h2.app (.sets r p.file [.slice a2 (doP (L p.file) p).length (doP (L p.file) p).length])) n2 r (upd sa1 p.file a2) ol ka pa { S with sure := upd L p.file (doP (L p.file) p) } := by
        refine R2.put hX hle2 ?_ (by omega) (fun i hi => ?_) (R2.lo.ext hE3 hle2) q2 q3 R2.len (.inl rfl) (fun x hx => ?_)
        · have hd : ∀ (k : Nat), p.file = k → ∀ {α : Type} (f : Nat → α) (x : α) (j : Nat), upd f p.file x j = upd f k x j := fun k q => by subst q; intros; rfl
          rcases hpo.file with q | q <;> rw [q] <;> rfl
        · by_cases e : i = p.file
          · subst e; rw [upd_same]; show SlB _ _ _ (upd L p.file _ p.file); rw [upd_same]; exact hS2
          · rw [upd_ne _ _ e]; show SlB _ _ _ (upd L p.file _ i); rw [upd_ne _ _ e]; exact q1 i hi
        · rcases mem_upd hx with rfl | k
          · rcases hnew with k | k
            · exact .inr (.inl k)
            · refine .inr (.inr ⟨?_, .inr (by omega), ?_⟩)
              · by_cases q : x = none
                · rw [q]; show 0 < n2; omega
                · exact hS2.ltA q
              · rcases hol with q | q
                · exact .inl q
                · exact .inr (.inr (by omega))
          · exact .inl k
      repeat' (first | refine stp ?_ | (refine stp2 ?_ ?_ <;> intro _))
      refine nextC.normal ⟨(i + 1, upd sa1 p.file a2), by dsimp only; omega, envs, by dsimp only; omega, by omega, ?_, fun x hx => ?_, ExtW.appSets (.inl hTr) (e2.then hE3 (by omega))⟩
      · dsimp only
        rw [hls]; exact R3
      · rcases mem_upd hx with rfl | k
        · exact .inr (hnew.imp id (by omega))
        · exact hg1 x k
  · have hie : i = S.ps.length := by omega
    subst hie
    rw [List.take_length] at R1
    have hok := loseP_ok ok ks
    obtain ⟨q1, q2, q3⟩ := R1.rest ExtX.refl (Nat.le_refl _)
    have R3 : RfR (h1.app (.sets r 2 [.slice none 0 0])) n1 r sa1 none ka [] { S with sure := loseP S.sure S.ps ks, ps := [] } :=
      R1.put ExtX.refl (Nat.le_refl _) rfl (by omega) q1 (.nil (Nat.zero_le _)) q2 (fun i p hp => (by cases hp)) rfl (.inr (.inl rfl)) (fun x hx => .inl (by simp only [rfG, List.mem_cons, List.not_mem_nil, or_false] at hx ⊢; rcases hx with k | k | k <;> simp [k]))
    have R4 : RfR ((h1.app (.sets r 2 [.slice none 0 0])).app (.sets r 3 [.int .i64 0])) n1 r sa1 none ka [] { S with sure := loseP S.sure S.ps ks, ps := [], fuse := 0 } := R3.scalar (.inl rfl) rfl rfl rfl rfl
    have R5 : RfR (((h1.app (.sets r 2 [.slice none 0 0])).app (.sets r 3 [.int .i64 0])).app (.sets r 6 [.bool true])) n1 r sa1 none ka [] (S.lose ks) := R4.scalar (.inr (.inr rfl)) rfl rfl rfl rfl
    repeat' (first | refine stpS ?_ | (refine stp2 ?_ ?_ <;> intro _))
    exact RkTo.mk hok R5 (.inr (.inl rfl)) (fun x hx => hg1 x (by simp only [rfG, List.mem_cons, List.not_mem_nil, or_false] at hx ⊢; rcases hx with k | k | k <;> simp [k])) (ExtW.appSets (.inl hTr) (ExtW.appSets (.inl hTr) (ExtW.appSets (.inl hTr) e1)))
end
end Go.Proofs.Ytchfnjfmlhacfaa
