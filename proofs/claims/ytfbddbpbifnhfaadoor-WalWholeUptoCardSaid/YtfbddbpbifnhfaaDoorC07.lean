/- Contracts and laws that a statement of this seat is proved by (part 7). -/
import Derived.Test.YtfbddbpbifnhfaaDoorC06
set_option linter.unusedSimpArgs false
set_option linter.unusedVariables false
/- WalWhole, over plain arguments. -/
namespace Go.Proofs.YtfbddbpbifnhfaaDoor
open Go.Abs Cd

theorem left_self (gen : Int) (M : List (List (List UInt8))) : Left gen M (logB gen 0 M) := ⟨[], by rw [List.append_nil], by simp [zeros]⟩
theorem cmr_log {n n1 : Nat} {h h1 : AH} {T T' : Nat → Prop} {aa ae c : Option Addr} {ls : List (List UInt8)} (C : CmR h n (fun b => b < n ∧ ¬ T b ∧ ¬ inA aa b ∧ ¬ inA ae b) c ls) (hT' : ∀ b, b < n → T' b → T b) (e : ExtW T n h h1) (hn : n ≤ n1) :
    CmR h1 n1 (fun b => b < n1 ∧ ¬ T' b ∧ ¬ inA aa b ∧ ¬ inA ae b) c ls :=
  (C.extW e hn (fun b q => q.2.1)).mono (fun b q => ⟨by omega, fun w => q.2.1 (hT' b q.1 w), q.2.2⟩)
section
variable {n0 n lg d : Nat} {h0 h : AH} {T : Nat → Prop} {X : LS} {aa ae : Option Addr} {N : List CmA} {es : List Nat}
theorem commits_dm (D : Dm n0 h0 lg d T X aa ae N es n h) :
    RF Tryd.prog none' 23 #[.pointer (some ⟨lg, 0, none⟩)] n h (fun r n' h' => ∃ q a' MM, r = .func (.func 54) #[] #[.pointer (some ⟨q, 0, none⟩)] ∧ Ext n h h' ∧ CmK q a' MM n' h' ∧ MM.map (·.2) = X.L) := by
  obtain ⟨F, G, a, M, B, R, -⟩ := D.R
  obtain ⟨r, n', h', e, q, a', q1, q2, q3, q4⟩ := commits_rf R
  exact ⟨r, n', h', e, q, a', M, q1, q2, q4, R.nl⟩
theorem told_dm {q : Nat} {a : Option Addr} {MM : List CmA} (D : Dm n0 h0 lg d T X aa ae N es n h) (nl : N.map (·.2) = X.L) (hok : ∀ l ∈ X.L, okC l) (hle : X.L.length ≤ 1099511627776) (K : CmK q a MM n h) (hMM : MM.map (·.2) = X.L) (hn : 0 < n) :
    RF Tryd.prog none' 22 #[.func (.func 54) #[] #[.pointer (some ⟨q, 0, none⟩)], .slice aa N.length N.length] n h (fun r n' h' => r = .bool true ∧ Ext n h h') := by
  have hl : MM.length = X.L.length := by rw [← hMM, List.length_map]
  have it := commits1_iter q a MM (by omega) (fun x hx => by
    have : x.2 ∈ MM.map (·.2) := List.mem_map_of_mem hx
    rw [hMM] at this
    exact okC_lens (hok _ this))
  rw [hl, hMM] at it
  exact told_rf _ _ _ X.L N aa n h it (fun n' h' hn' E' => K.ext E' hn') D.allO.slr (fun x hx => by obtain ⟨ad, S, -⟩ := D.cm x hx; exact ⟨ad, S⟩) nl hle (fun l hl => (okC_lens (hok l hl)).1) hn
end
set_option maxHeartbeats 4000000 in
theorem law_WalWhole (c : Option Addr) (L : List OpE) (m n : Nat) (h : AH) (B : OpsRep h n c L m) (hL : L.length ≤ 1048576) (hm : m ≤ 1048576) (hn0 : 0 < n) :
    RF Tryd.prog none' 6 #[.slice c L.length L.length] n h (fun r _ _ => r = .bool true) := by
  refine RF.of Tryd.func6 rfl rfl (Nat.le_of_ble_eq_true rfl) ?_; dsimp only [argEnv]
  repeat' (first | refine stpS ?_ | (refine stp2 ?_ ?_ <;> intro _))
  refine RS.call rfl opds (Dk.new_rf n h hn0) none'W ?_
  rintro r n1 h1 k1 ⟨d, F, G, rfl, D, hF, hG, E1⟩
  repeat' (first | refine stpS ?_ | (refine stp2 ?_ ?_ <;> intro _))
  refine RS.call rfl opds (open_rf D 1 (by decide) (by decide) (by omega)) (fun b hb => .inr (hF b hb)) ?_
  rintro r n2 h2 k2 hop
  have h0 : openP Dk.DS.init 1 = (0, ⟨Dk.DS.init, 1, [], 0⟩) := openP_on (on_init 1 (by decide))
  unfold OpTo at hop
  rw [h0] at hop
  rcases hop with ⟨-, lg0, T, rfl, R2, hT, e2⟩ | ⟨q, -⟩
  rotate_left
  · exact absurd rfl q
  dsimp only at R2
  have hTn : ∀ b, T b → n ≤ b := fun b hb => by
    by_cases w : b < n1
    · rcases hT b w hb with q | q
      · exact hF b q
      · exact absurd q (hG b)
    · omega
  have E2 : Ext n h h2 := E1.viaW e2 k1 hF
  clear h0 hT e2 E1 D hF hG
  repeat' (first | refine stpS ?_ | (refine stp2 ?_ ?_ <;> intro _))
  refine RS.call rfl opds (begun_rf n2 h2 (by omega)) none'W ?_
  rintro r n3 h3 k3 ⟨rfl, E3⟩
  have D3 : Dm n h lg0 d T ⟨Dk.DS.init, 1, [], 0⟩ none none [] [] n3 h3 :=
    ⟨by omega, E2.trans (by omega) E3, R2.ext E3 k3, hTn, OwnSl.nil (by omega), OwnSl.nil (by omega), fun q => absurd rfl q, fun q => absurd rfl q, .inl rfl, fun x hx => by cases hx⟩
  have B3 := B.ext (E2.trans (by omega) E3) (by omega : n ≤ n3)
  clear R2 E2 E3 hTn
  repeat' (first | refine stpS ?_ | (refine stp2 ?_ ?_ <;> intro _))
  have hI3 : SlI h3 c 7 L.length := B3.shp.out.imp id (fun q => ⟨q.1, q.2.2⟩)
  obtain ⟨K, hK⟩ : ∃ K : Nat, K = min L.length 60 := ⟨_, rfl⟩
  have hK' : min ((L.length : Nat) : Int) 60 = (K : Nat) := by omega
  rw [hK']
  repeat' (first | refine stpS ?_ | (refine stp2 ?_ ?_ <;> intro _))
  simp only [Int.toNat_natCast]
  refine RC.loop ?_
  refine RL.inv (α := Nat × (Nat → Prop) × LS × Option Addr × List CmA × Nat) (fun u => [(38, .int .i64 (u.1 : Nat)), (37, .int .i64 (K : Nat)), (36, .slice c K K), (7, .slice none 0 0), (6, .slice u.2.2.2.1 u.2.2.2.2.1.length u.2.2.2.2.1.length), (4, .pointer (some ⟨u.2.2.2.2.2, 0, none⟩)), (3, .pointer (some ⟨d, 0, none⟩))])
    (fun u n4 h4 => u.1 ≤ K ∧ n3 ≤ n4 ∧ Dm n h u.2.2.2.2.2 d u.2.1 u.2.2.1 u.2.2.2.1 none u.2.2.2.2.1 [] n4 h4 ∧ Up u.2.2.1 ∧ u.2.2.1.gen = 1 ∧ u.2.2.2.2.1.map (·.2) = u.2.2.1.L ∧ u.2.2.1.L.length ≤ u.1 ∧ u.2.2.1.S.calls ≤ (u.1 * 6 : Nat))
    (fun u => K - u.1) (0, T, ⟨Dk.DS.init, 1, [], 0⟩, none, [], lg0) envs ⟨Nat.zero_le _, Nat.le_refl _, D3, up_init 1 (by decide), rfl, rfl, Nat.le_refl _, Int.le_refl _⟩ ?_
  clear D3
  rintro ⟨i, T4, X4, aa, N4, lg⟩ n4 h4 ⟨hi, hn4, D4, o4, g4, nl4, ll4, cl4⟩
  dsimp only at hi D4 o4 g4 nl4 ll4 cl4 ⊢
  have hK60 : K ≤ 60 := by omega
  have hNX : N4.length = X4.L.length := by rw [← nl4, List.length_map]
  by_cases hlt : i < K
  · obtain ⟨x, hx⟩ : ∃ x, L[i]? = some x := ⟨_, List.getElem?_eq_getElem (by omega)⟩
    have B4 := B.ext D4.E D4.hn
    obtain ⟨⟨c0, c1, c2, c3, c4, c5, c6⟩, ok⟩ := B4.at_ i x hx
    have hsn : sb c < n4 := B4.shp.lt (by omega)
    have hA : SlA c K := B4.shp.out.imp (fun q => by omega) (fun q => q.1)
    have ok0 := (B.at_ i x hx).2
    have hT4 := D4.R.lt
    obtain ⟨hrows, hrow⟩ := recsOf_row ok0
    have hrl : (recsOf x).length = x.rl.length := by rw [← recsE_snd x none, List.length_map, recsE_len]
    by_cases d4 : x.do_ = 4
    · repeat' (first | refine stpS ?_ | (refine stp2 ?_ ?_ <;> intro _))
      obtain ⟨g5, hg⟩ : ∃ g5, g5 = (h4.app (.new n4 ⟨7, 0, true, 0⟩ [.int .i64 0, .slice none 0 0, .int .u16 0, .int .i64 0, .int .u16 0, .int .i64 0, .slice none 0 0])).app (.sets n4 0 [.int .i64 x.do_, .slice x.ra x.rl.length x.rl.length, .int .u16 (x.many : Nat), .int .i64 x.gen, .int .u16 (x.at_ : Nat), .int .i64 x.num, .slice x.ka x.keep.length x.keep.length]) := ⟨_, rfl⟩
      refine RS.heap hg ?_
      have E5 : Ext n4 h4 g5 := by rw [hg]; exact ext
      have y0 : g5.cell n4 0 = .int .i64 x.do_ := by rw [hg]; exact cell
      have y1 : g5.cell n4 1 = .slice x.ra x.rl.length x.rl.length := by rw [hg]; exact cell
      have y2 : g5.cell n4 2 = .int .u16 (x.many : Nat) := by rw [hg]; exact cell
      have y3 : g5.cell n4 3 = .int .i64 x.gen := by rw [hg]; exact cell
      have y4 : g5.cell n4 4 = .int .u16 (x.at_ : Nat) := by rw [hg]; exact cell
      have y5 : g5.cell n4 5 = .int .i64 x.num := by rw [hg]; exact cell
      have y6 : g5.cell n4 6 = .slice x.ka x.keep.length x.keep.length := by rw [hg]; exact cell
      have yi : g5.info n4 = some ⟨7, 0, true, 0⟩ := by rw [hg]; exact info
      clear hg
      have D5 := D4.ext E5 (Nat.le_succ _)
      have ok5 := ok.ext E5 (Nat.le_succ _)
      have hkl := ok.kl
      obtain ⟨F5, G5, a5, M5, B5, R5, hTe⟩ := D5.R
      have hFT : ∀ b, F5 b → T4 b := fun b q => by rw [hTe]; exact .inl q
      have hkT : x.ka ≠ none → ¬ F5 (sb x.ka) := fun q w => by
        have := D4.Tn _ (hFT _ w)
        rcases ok0.keep.shape with ⟨k, -⟩ | ⟨-, k, -⟩
        · exact q k
        · omega
      have hfz : 0 ≤ max x.num 0 % 9 ∧ max x.num 0 % 9 ≤ 8 := by omega
      obtain ⟨hj1, hj2⟩ := ok.num
      obtain ⟨fz, hfz'⟩ : ∃ fz, fz = max x.num 0 % 9 := ⟨_, rfl⟩
      have hsf := Dk.setFuse_dk R5.dk fz (by omega) (by omega) ok5.keep
      have hsv : X4.S.setFuse fz x.keep = (0, { X4.S with fuse := fz, keep := x.keep }) := by
        unfold Dk.DS.setFuse
        rw [if_neg (by omega)]
      rw [hsv] at hsf
      dsimp only at hsf
      rw [← hfz']
      refine RS.call rfl opds hsf (fun b q => .inr (D4.Tn b (hFT b q))) ?_
      rintro r n6 h6 k6 ⟨rfl, Q6⟩
      obtain ⟨T6, D6⟩ := D5.log (by have := R5.disk Q6 k6; rw [hTe]; exact this) k6
      repeat' (first | refine stpS ?_ | (refine stp2 ?_ ?_ <;> intro _))
      exact nextC.normal ⟨(i + 1, T6, { X4 with S := { X4.S with fuse := fz, keep := x.keep } }, aa, N4, lg), by dsimp only; omega, envs, by dsimp only; omega, by omega, D6, ⟨o4.ps, o4.down, o4.sure, o4.e, o4.ok, o4.gm, o4.le⟩, g4, nl4, by show X4.L.length ≤ i + 1; omega, by show X4.S.calls ≤ (((i + 1) * 6 : Nat) : Int); omega⟩
    by_cases d0 : x.do_ = 0
    · repeat' (first | refine stpS ?_ | (refine stp2 ?_ ?_ <;> intro _))
      obtain ⟨g5, hg⟩ : ∃ g5, g5 = (h4.app (.new n4 ⟨7, 0, true, 0⟩ [.int .i64 0, .slice none 0 0, .int .u16 0, .int .i64 0, .int .u16 0, .int .i64 0, .slice none 0 0])).app (.sets n4 0 [.int .i64 x.do_, .slice x.ra x.rl.length x.rl.length, .int .u16 (x.many : Nat), .int .i64 x.gen, .int .u16 (x.at_ : Nat), .int .i64 x.num, .slice x.ka x.keep.length x.keep.length]) := ⟨_, rfl⟩
      refine RS.heap hg ?_
      have E5 : Ext n4 h4 g5 := by rw [hg]; exact ext
      have y0 : g5.cell n4 0 = .int .i64 x.do_ := by rw [hg]; exact cell
      have y1 : g5.cell n4 1 = .slice x.ra x.rl.length x.rl.length := by rw [hg]; exact cell
      have y2 : g5.cell n4 2 = .int .u16 (x.many : Nat) := by rw [hg]; exact cell
      have y3 : g5.cell n4 3 = .int .i64 x.gen := by rw [hg]; exact cell
      have y4 : g5.cell n4 4 = .int .u16 (x.at_ : Nat) := by rw [hg]; exact cell
      have y5 : g5.cell n4 5 = .int .i64 x.num := by rw [hg]; exact cell
      have y6 : g5.cell n4 6 = .slice x.ka x.keep.length x.keep.length := by rw [hg]; exact cell
      have yi : g5.info n4 = some ⟨7, 0, true, 0⟩ := by rw [hg]; exact info
      clear hg
      have D5 := D4.ext E5 (Nat.le_succ _)
      have ok5 := ok.ext E5 (Nat.le_succ _)
      have hkl := ok.kl
      obtain ⟨F5, G5, a5, M5, B5, R5, hTe⟩ := D5.R
      have hFT : ∀ b, F5 b → T4 b := fun b q => by rw [hTe]; exact .inl q
      have hkT : x.ka ≠ none → ¬ F5 (sb x.ka) := fun q w => by
        have := D4.Tn _ (hFT _ w)
        rcases ok0.keep.shape with ⟨k, -⟩ | ⟨-, k, -⟩
        · exact q k
        · omega
      refine RS.call rfl opds (opRecs_rf x m (n4 + 1) g5 ok5 hm) none'W ?_
      rintro r n6 h6 k6 ⟨c6, a6, rfl, E6, RO6⟩
      have D6 := D5.ext E6 k6
      have C6 := RO6.cmr ok0
      obtain ⟨ad6, S6, hc6, hr6⟩ := id C6
      have hnT : ∀ b, b < n6 ∧ (n4 + 1 ≤ b ∨ b < n) → ¬ T4 b := fun b q w => by
        have := hT4 b w
        have := D4.Tn b w
        omega
      have hps4 := o4.ps
      have hcom := commit_rf D6.R (recsOf x) ad6 c6 S6 (fun q => hnT _ (hc6 q)) (fun j hj q => hnT _ (hr6 j hj q)) (by omega) (fun l hl => by have := hrow l hl; omega) (by rw [hps4]; decide) (by omega) (by omega)
      rw [hrl] at hcom
      have hbd := commitP_b X4 (recsOf x) o4.gm o4.le
      obtain ⟨Y, hY⟩ : ∃ Y, Y = commitP X4 (recsOf x) := ⟨_, rfl⟩
      have hup := commitP_up o4 R5.dk.ok.fuse.1 (recsOf x) (by omega)
      rw [← hY] at hcom hbd hup
      obtain ⟨-, hbd⟩ := hbd
      obtain ⟨code, X7⟩ := Y
      dsimp only at hcom hbd hup
      clear hY
      repeat' (first | refine stpS ?_ | (refine stp2 ?_ ?_ <;> intro _))
      refine RS.call rfl opds hcom (fun b hb => .inr (D4.Tn b hb)) ?_
      rintro r n7 h7 k7 ⟨rfl, Q7⟩
      obtain ⟨T7, R7, hTT7, e7⟩ := Q7
      have D7 := D6.relog R7 hTT7 e7 k7
      have hT7 := D7.R.lt
      have C7 : CmR h7 n7 (fun b => b < n7 ∧ ¬ T7 b ∧ ¬ inA aa b ∧ ¬ inA none b) c6 (recsOf x) := (C6.extW e7 k7 (fun b q => hnT b q)).mono (fun b q => ⟨by omega, fun w => hnT b q (hTT7 b q.1 w), fun w => by have := D4.allO.at'.resolve_left w.1; have := w.2; omega, fun w => w.1 rfl⟩)
      rcases hup with ⟨q1, q2⟩ | ⟨q1, okc, q2, q3, q4, q5⟩ | ⟨q1, okc, q2, q3, q4, M, hM, hLf⟩
      · subst q2
        repeat' (first | refine stpS ?_ | (refine stp2 ?_ ?_ <;> intro _))
        all_goals first | exact nextC.normal ⟨(i + 1, T7, X7, aa, N4, lg), by dsimp only; omega, envs, by dsimp only; omega, by omega, D7, o4, g4, nl4, by show X7.L.length ≤ i + 1; omega, by show X7.S.calls ≤ (((i + 1) * 6 : Nat) : Int); omega⟩ | (exfalso; omega)
      · subst q1
        have hNl : N4.length ≤ 60 := by omega
        repeat' (first | refine stpS ?_ | (refine stp2 ?_ ?_ <;> intro _))
        obtain ⟨g9, hg⟩ : ∃ g9, g9 = h7.app (.new n7 ⟨1, 0, true, 1⟩ [.slice c6 x.rl.length x.rl.length]) := ⟨_, rfl⟩
        refine RS.heap hg ?_
        have E9 : Ext n7 h7 g9 := by rw [hg]; exact ext
        have hnew : OwnSl g9 n7 (n7 + 1) (some ⟨n7, 0, none⟩) 1 1 [.slice c6 x.rl.length x.rl.length] := by rw [hg]; exact OwnSl.new (m := 1) (z := 1) (Nat.le_refl _) rfl rfl
        clear hg
        have D9 := D7.ext E9 (Nat.le_succ _)
        have C9 : CmR g9 (n7 + 1) (fun b => b < n7 + 1 ∧ ¬ T7 b ∧ ¬ inA aa b ∧ ¬ inA none b) c6 (recsOf x) := (C7.extW (ExtW.of E9 (Nat.le_refl _) : ExtW (fun _ => False) n7 h7 g9) (Nat.le_succ _) (fun _ _ q => q)).mono (fun b q => ⟨by omega, q.2⟩)
        refine RS.append rfl opd opd D9.allO hnew.src full_slice (fun b hb => Or.inr (by omega)) (by omega) ?_
        intro aa' n10 h10 k10 O10 X10 w10
        have D10 := D9.pushA C9 X10 k10 (by rw [hrl]; exact O10) w10
        repeat' (first | refine stpS ?_ | (refine stp2 ?_ ?_ <;> intro _))
        refine nextC.normal ⟨(i + 1, T7, X7, aa', N4 ++ [(c6, recsOf x)], lg), by dsimp only; omega, ?_, by dsimp only; omega, by omega, D10, q2, by show X7.gen = 1; rw [q4]; exact g4, ?_, ?_, by show X7.S.calls ≤ (((i + 1) * 6 : Nat) : Int); omega⟩
        · simp only [List.length_append, List.length_singleton]
          exact envs
        · dsimp only
          rw [List.map_append, nl4, q5]; rfl
        · show X7.L.length ≤ i + 1
          rw [q5, List.length_append, List.length_singleton]; omega
      · subst q1
        have hlen : 1 ≤ x.rl.length := by rw [← hrl]; exact okc.1
        obtain ⟨bc, hbc⟩ : ∃ bc, c6 = some ⟨bc, 0, none⟩ := by
          rcases RO6.out.or with ⟨-, k2⟩ | ⟨k1, -⟩
          · omega
          · exact ⟨_, k1⟩
        clear RO6 C6 S6 hc6 hr6 hcom
        subst hbc
        have hS1 := q2
        have hS2 := q3
        have hS3 : Left 1 M (X7.S.sure 1) := by rw [← g4]; exact hLf
        have hokM : ∀ l ∈ M, okC l := by
          rcases hM with rfl | rfl
          · exact o4.ok
          · intro l hl
            rcases List.mem_append.1 hl with w | w
            · exact o4.ok l w
            · rw [List.mem_singleton.1 w]; exact okc
        have hMl : M.length = N4.length ∨ M.length = N4.length + 1 := by
          rcases hM with rfl | rfl
          · exact .inl hNX.symm
          · right; rw [List.length_append, List.length_singleton]; omega
        repeat' (first | refine stpS ?_ | (refine stp2 ?_ ?_ <;> intro _))
        obtain ⟨F7, G7, a7, M7, B7, R7', hTe7⟩ := D7.R
        have hF7 : ∀ b, F7 b → T7 b := fun b q => by rw [hTe7]; exact .inl q
        refine RS.call rfl opds (Dk.restart_dk R7'.dk) (fun b q => .inr (D7.Tn b (hF7 b q))) ?_
        rintro r n8 h8 k8 ⟨rfl, Q8⟩
        obtain ⟨T8, R8, hT8, e8⟩ := (by have := R7'.disk Q8 k8; rw [hTe7]; exact this : LgTo _ lg d T7 _ _ n8 h8)
        have D8 := D7.relog R8 hT8 e8 k8
        have C8 := cmr_log C7 hT8 e8 k8
        repeat' (first | refine stpS ?_ | (refine stp2 ?_ ?_ <;> intro _))
        obtain ⟨F8, G8, a8, M8, B8, R8', hTe8⟩ := D8.R
        have hF8 : ∀ b, F8 b → T8 b := fun b q => by rw [hTe8]; exact .inl q
        have hG8 : ∀ b, G8 b → T8 b := fun b q => by rw [hTe8]; exact .inr (.inl q)
        have hopl := openP_left (S := X7.S.restart) (gen := 1) (M := M) hS1 rfl hS2 hS3 hokM (by decide) (by omega)
        have hop := open_rf R8'.dk 1 (by show X7.S.ps.length < _; rw [hS1]; decide) (by show X7.S.calls < _; omega) (by omega)
        unfold OpTo at hop
        dsimp only at hop
        obtain ⟨Z, hZ⟩ : ∃ Z, Z = openP X7.S.restart 1 := ⟨_, rfl⟩
        rw [← hZ] at hopl hop
        clear hZ
        obtain ⟨z1, X9⟩ := Z
        obtain ⟨v1, v2, v3, v4, v5, v6⟩ := hopl
        dsimp only at v1 v2 v3 v4 v5 v6 hop
        subst v1
        have v6 : X9.S.calls ≤ X7.S.calls + 2 := v6
        refine RS.call rfl opds hop (fun b q => .inr (D8.Tn b (hF8 b q))) ?_
        rintro r n9 h9 k9 hop9
        rcases hop9 with ⟨-, lg9, T9, rfl, R9, hT9, e9⟩ | ⟨q, -⟩
        rotate_left
        · exact absurd rfl q
        have e9 := e9.mono (W' := T8) (Nat.le_refl _) (fun b _ q => hF8 b q)
        have hT9 : ∀ b, b < n8 → T9 b → T8 b := fun b hb q => by
          rcases hT9 b hb q with w | w
          · exact hF8 b w
          · exact hG8 b w
        have D9 := D8.relog R9 hT9 e9 k9
        have C9 := cmr_log C8 hT9 e9 k9
        have hmany : Ev Tryd.prog none' 21 #[.pointer (some ⟨lg9, 0, none⟩)] n9 h9 (.int .i64 (M.length : Nat)) n9 h9 := by
          have := many_ev D9.R
          rwa [v3] at this
        have hok9 : ∀ l ∈ X9.L, okC l := v4.ok
        have hle9 := v4.le
        repeat' (first | refine stpS ?_ | (refine stp2 ?_ ?_ <;> intro _))
        refine RS.call1 rfl opds hmany none'W ?_
        rcases hM with rfl | rfl
        · rw [← hNX]
          repeat' (first | refine stpS ?_ | (refine stp2 ?_ ?_ <;> intro _))
          refine RS.call rfl opds (commits_dm D9) none'W ?_
          rintro r na ha ka ⟨qa, aq, MM, rfl, Ea, Ka, hMM⟩
          repeat' (first | refine stpS ?_ | (refine stp2 ?_ ?_ <;> intro _))
          refine RS.call rfl opds (told_dm (D9.ext Ea ka) (by rw [v3]; exact nl4) hok9 hle9 Ka hMM (by omega)) none'W ?_
          rintro r nb hb kb ⟨rfl, Eb⟩
          repeat' (first | refine stpS ?_ | (refine stp2 ?_ ?_ <;> intro _))
          exact nextC.normal ⟨(i + 1, T9, X9, aa, N4, lg9), by dsimp only; omega, envs, by dsimp only; omega, by omega, (D9.ext Ea ka).ext Eb kb, v4, v2, by rw [v3]; exact nl4, by show X9.L.length ≤ i + 1; rw [v3]; omega, by show X9.S.calls ≤ (((i + 1) * 6 : Nat) : Int); omega⟩
        · rw [List.length_append, List.length_singleton, ← hNX]
          repeat' (first | refine stpS ?_ | (refine stp2 ?_ ?_ <;> intro _))
          obtain ⟨g10, hg⟩ : ∃ g10, g10 = h9.app (.new n9 ⟨1, 0, true, 1⟩ [.slice (some ⟨bc, 0, none⟩) x.rl.length x.rl.length]) := ⟨_, rfl⟩
          refine RS.heap hg ?_
          have E10 : Ext n9 h9 g10 := by rw [hg]; exact ext
          have hnew : OwnSl g10 n9 (n9 + 1) (some ⟨n9, 0, none⟩) 1 1 [.slice (some ⟨bc, 0, none⟩) x.rl.length x.rl.length] := by rw [hg]; exact OwnSl.new (m := 1) (z := 1) (Nat.le_refl _) rfl rfl
          clear hg
          have D10 := D9.ext E10 (Nat.le_succ _)
          have C10 : CmR g10 (n9 + 1) (fun b => b < n9 + 1 ∧ ¬ T9 b ∧ ¬ inA aa b ∧ ¬ inA none b) (some ⟨bc, 0, none⟩) (recsOf x) := (C9.extW (ExtW.of E10 (Nat.le_refl _) : ExtW (fun _ => False) n9 h9 g10) (Nat.le_succ _) (fun _ _ q => q)).mono (fun b q => ⟨by omega, q.2⟩)
          refine RS.append rfl opd opd D10.allO hnew.src full_slice (fun b hb => Or.inr (by omega)) (by omega) ?_
          intro aa' n11 h11 k11 O11 X11 w11
          have D11 := D10.pushA C10 X11 k11 (by rw [hrl]; exact O11) w11
          have nl11 : (N4 ++ [((some ⟨bc, 0, none⟩ : Option Addr), recsOf x)]).map (·.2) = X9.L := by rw [List.map_append, nl4, v3]; rfl
          have hl11 : N4.length + 1 = (N4 ++ [((some ⟨bc, 0, none⟩ : Option Addr), recsOf x)]).length := by rw [List.length_append, List.length_singleton]
          repeat' (first | refine stpS ?_ | (refine stp2 ?_ ?_ <;> intro _))
          rw [hl11]
          refine RS.call rfl opds (commits_dm D11) none'W ?_
          rintro r na ha ka ⟨qa, aq, MM, rfl, Ea, Ka, hMM⟩
          repeat' (first | refine stpS ?_ | (refine stp2 ?_ ?_ <;> intro _))
          refine RS.call rfl opds (told_dm (D11.ext Ea ka) nl11 hok9 hle9 Ka hMM (by omega)) none'W ?_
          rintro r nb hb kb ⟨rfl, Eb⟩
          repeat' (first | refine stpS ?_ | (refine stp2 ?_ ?_ <;> intro _))
          exact nextC.normal ⟨(i + 1, T9, X9, aa', N4 ++ [(some ⟨bc, 0, none⟩, recsOf x)], lg9), by dsimp only; omega, envs, by dsimp only; omega, by omega, (D11.ext Ea ka).ext Eb kb, v4, v2, nl11, by show X9.L.length ≤ i + 1; rw [v3, List.length_append, List.length_singleton]; omega, by show X9.S.calls ≤ (((i + 1) * 6 : Nat) : Int); omega⟩
    by_cases d3 : x.do_ = 3
    · repeat' (first | refine stpS ?_ | (refine stp2 ?_ ?_ <;> intro _))
      obtain ⟨g5, hg⟩ : ∃ g5, g5 = (h4.app (.new n4 ⟨7, 0, true, 0⟩ [.int .i64 0, .slice none 0 0, .int .u16 0, .int .i64 0, .int .u16 0, .int .i64 0, .slice none 0 0])).app (.sets n4 0 [.int .i64 x.do_, .slice x.ra x.rl.length x.rl.length, .int .u16 (x.many : Nat), .int .i64 x.gen, .int .u16 (x.at_ : Nat), .int .i64 x.num, .slice x.ka x.keep.length x.keep.length]) := ⟨_, rfl⟩
      refine RS.heap hg ?_
      have E5 : Ext n4 h4 g5 := by rw [hg]; exact ext
      have y0 : g5.cell n4 0 = .int .i64 x.do_ := by rw [hg]; exact cell
      have y1 : g5.cell n4 1 = .slice x.ra x.rl.length x.rl.length := by rw [hg]; exact cell
      have y2 : g5.cell n4 2 = .int .u16 (x.many : Nat) := by rw [hg]; exact cell
      have y3 : g5.cell n4 3 = .int .i64 x.gen := by rw [hg]; exact cell
      have y4 : g5.cell n4 4 = .int .u16 (x.at_ : Nat) := by rw [hg]; exact cell
      have y5 : g5.cell n4 5 = .int .i64 x.num := by rw [hg]; exact cell
      have y6 : g5.cell n4 6 = .slice x.ka x.keep.length x.keep.length := by rw [hg]; exact cell
      have yi : g5.info n4 = some ⟨7, 0, true, 0⟩ := by rw [hg]; exact info
      clear hg
      have D5 := D4.ext E5 (Nat.le_succ _)
      have ok5 := ok.ext E5 (Nat.le_succ _)
      have hkl := ok.kl
      obtain ⟨F5, G5, a5, M5, B5, R5, hTe⟩ := D5.R
      have hFT : ∀ b, F5 b → T4 b := fun b q => by rw [hTe]; exact .inl q
      have hkT : x.ka ≠ none → ¬ F5 (sb x.ka) := fun q w => by
        have := D4.Tn _ (hFT _ w)
        rcases ok0.keep.shape with ⟨k, -⟩ | ⟨-, k, -⟩
        · exact q k
        · omega
      have hcr := Dk.crash_dk R5.dk (by show X4.S.ps.length ≤ _; rw [o4.ps]; decide) (by omega) ok5.keep hkT
      have hcv : X4.S.crash x.keep = (0, X4.S.lose x.keep) := by
        unfold Dk.DS.crash
        rw [o4.down]; rfl
      have hcr : RF Tryd.prog F5 27 #[.pointer (some ⟨d, 0, none⟩), .slice x.ka x.keep.length x.keep.length] (n4 + 1) g5 (fun r n' h' => r = .int .i64 0 ∧ Dk.DkTo (n4 + 1) d F5 G5 g5 (X4.S.lose x.keep) n' h') := by
        have := hcr
        rw [hcv] at this
        exact this
      refine RS.call rfl opds hcr (fun b q => .inr (D4.Tn b (hFT b q))) ?_
      rintro r n6 h6 k6 ⟨rfl, Q6⟩
      obtain ⟨T6, R6, hT6, e6⟩ := (by have := R5.disk Q6 k6; rw [hTe]; exact this : LgTo _ lg d T4 _ _ n6 h6)
      have D6 := D5.relog R6 hT6 e6 k6
      have hsl : (X4.S.lose x.keep).sure = X4.S.sure := by
        show Dk.loseP X4.S.sure X4.S.ps x.keep = _
        rw [o4.ps]; rfl
      obtain ⟨M, hM⟩ : ∃ M, M = X4.L := ⟨_, rfl⟩
      have hS1 : (X4.S.lose x.keep).ps = [] := rfl
      have hS2 : (X4.S.lose x.keep).fuse = 0 := rfl
      have hS3 : Left 1 M ((X4.S.lose x.keep).sure 1) := by rw [hsl, o4.sure, hM, g4]; exact left_self 1 _
      have hokM : ∀ l ∈ M, okC l := by rw [hM]; exact o4.ok
      have hMl : M.length = N4.length := by rw [hM]; exact hNX.symm
      have hcl6 : (X4.S.lose x.keep).calls = X4.S.calls := rfl
      repeat' (first | refine stpS ?_ | (refine stp2 ?_ ?_ <;> intro _))
      obtain ⟨F7, G7, a7, M7, B7, R7', hTe7⟩ := D6.R
      have hF7 : ∀ b, F7 b → T6 b := fun b q => by rw [hTe7]; exact .inl q
      refine RS.call rfl opds (Dk.restart_dk R7'.dk) (fun b q => .inr (D6.Tn b (hF7 b q))) ?_
      rintro r n8 h8 k8 ⟨rfl, Q8⟩
      obtain ⟨T8, R8, hT8, e8⟩ := (by have := R7'.disk Q8 k8; rw [hTe7]; exact this : LgTo _ lg d T6 _ _ n8 h8)
      have D8 := D6.relog R8 hT8 e8 k8
      repeat' (first | refine stpS ?_ | (refine stp2 ?_ ?_ <;> intro _))
      obtain ⟨F8, G8, a8, M8, B8, R8', hTe8⟩ := D8.R
      have hF8 : ∀ b, F8 b → T8 b := fun b q => by rw [hTe8]; exact .inl q
      have hG8 : ∀ b, G8 b → T8 b := fun b q => by rw [hTe8]; exact .inr (.inl q)
      have hopl := openP_left (S := (X4.S.lose x.keep).restart) (gen := 1) (M := M) hS1 rfl hS2 hS3 hokM (by decide) (by omega)
      have hop := open_rf R8'.dk 1 (by show (X4.S.lose x.keep).ps.length < _; rw [hS1]; decide) (by show (X4.S.lose x.keep).calls < _; omega) (by omega)
      unfold OpTo at hop
      dsimp only at hop
      obtain ⟨Z, hZ⟩ : ∃ Z, Z = openP (X4.S.lose x.keep).restart 1 := ⟨_, rfl⟩
      rw [← hZ] at hopl hop
      clear hZ
      obtain ⟨z1, X9⟩ := Z
      obtain ⟨v1, v2, v3, v4, v5, v6⟩ := hopl
      dsimp only at v1 v2 v3 v4 v5 v6 hop
      subst v1
      have v6 : X9.S.calls ≤ (X4.S.lose x.keep).calls + 2 := v6
      refine RS.call rfl opds hop (fun b q => .inr (D8.Tn b (hF8 b q))) ?_
      rintro r n9 h9 k9 hop9
      rcases hop9 with ⟨-, lg9, T9, rfl, R9, hT9, e9⟩ | ⟨q, -⟩
      rotate_left
      · exact absurd rfl q
      have e9 := e9.mono (W' := T8) (Nat.le_refl _) (fun b _ q => hF8 b q)
      have hT9 : ∀ b, b < n8 → T9 b → T8 b := fun b hb q => by
        rcases hT9 b hb q with w | w
        · exact hF8 b w
        · exact hG8 b w
      have D9 := D8.relog R9 hT9 e9 k9
      have hmany : Ev Tryd.prog none' 21 #[.pointer (some ⟨lg9, 0, none⟩)] n9 h9 (.int .i64 (M.length : Nat)) n9 h9 := by
        have := many_ev D9.R
        rwa [v3] at this
      have hok9 : ∀ l ∈ X9.L, okC l := v4.ok
      have hle9 := v4.le
      repeat' (first | refine stpS ?_ | (refine stp2 ?_ ?_ <;> intro _))
      refine RS.call1 rfl opds hmany none'W ?_
      rw [hMl]
      repeat' (first | refine stpS ?_ | (refine stp2 ?_ ?_ <;> intro _))
      refine RS.call rfl opds (commits_dm D9) none'W ?_
      rintro r na ha ka ⟨qa, aq, MM, rfl, Ea, Ka, hMM⟩
      repeat' (first | refine stpS ?_ | (refine stp2 ?_ ?_ <;> intro _))
      refine RS.call rfl opds (told_dm (D9.ext Ea ka) (by rw [v3, hM]; exact nl4) hok9 hle9 Ka hMM (by omega)) none'W ?_
      rintro r nb hb kb ⟨rfl, Eb⟩
      repeat' (first | refine stpS ?_ | (refine stp2 ?_ ?_ <;> intro _))
      exact nextC.normal ⟨(i + 1, T9, X9, aa, N4, lg9), by dsimp only; omega, envs, by dsimp only; omega, by omega, (D9.ext Ea ka).ext Eb kb, v4, v2, by rw [v3, hM]; exact nl4, by show X9.L.length ≤ i + 1; rw [v3]; omega, by show X9.S.calls ≤ (((i + 1) * 6 : Nat) : Int); omega⟩
    · repeat' (first | refine stpS ?_ | (refine stp2 ?_ ?_ <;> intro _))
      all_goals (exact nextC.normal ⟨(i + 1, T4, X4, aa, N4, lg), by dsimp only; omega, envs, by dsimp only; omega, by omega, D4.ext ext (Nat.le_succ _), o4, g4, nl4, by show X4.L.length ≤ i + 1; omega, by show X4.S.calls ≤ (((i + 1) * 6 : Nat) : Int); omega⟩)
  · obtain rfl : i = K := by omega
    repeat' (first | refine stpS ?_ | (refine stp2 ?_ ?_ <;> intro _))
    have hfin := o4.le
    refine RS.call rfl opds (commits_dm D4) none'W ?_
    rintro r na ha ka ⟨qa, aq, MM, rfl, Ea, Ka, hMM⟩
    repeat' (first | refine stpS ?_ | (refine stp2 ?_ ?_ <;> intro _))
    refine RS.call rfl opds (told_dm (D4.ext Ea ka) nl4 o4.ok o4.le Ka hMM (by omega)) none'W ?_
    rintro r nb hb kb ⟨rfl, Eb⟩
    repeat' (first | refine stpS ?_ | (refine stp2 ?_ ?_ <;> intro _))
    rfl
end Go.Proofs.YtfbddbpbifnhfaaDoor

/- WalWhole, over its arguments. -/
namespace Go.Proofs.YtfbddbpbifnhfaaDoor
open Go.Abs Go.RowKit Cd
set_option maxRecDepth 100000 in
theorem bodyWalWhole {H : Type} {h : AH} {n : Nat} {vs : List Value} {ds : List (DataW H)} (lo : Low n h) (hn : 0 < n) (hr : RepArgs Tryd.prog h [35] vs ds) (hb : Rows.uptoBulkAll ds ≤ 1048576) :
    ∃ n' h', Ev Tryd.prog none' 6 vs.toArray n h (.bool true) n' h' := by
  obtain ⟨a0, d0, vs, ds, rfl, rfl, r0, hr⟩ := hr.cons_
  obtain ⟨rfl, rfl⟩ := hr.nil_
  obtain ⟨c, L, rfl, B, hl⟩ := ops_arg lo r0
  simp only [Rows.uptoBulkAll] at hb
  obtain ⟨r, n', h', e, rfl⟩ := law_WalWhole c L _ n h B (by omega) (by omega) hn
  exact ⟨n', h', e⟩
end Go.Proofs.YtfbddbpbifnhfaaDoor
