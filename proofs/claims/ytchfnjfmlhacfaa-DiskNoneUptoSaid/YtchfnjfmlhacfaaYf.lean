/- The document's disk: write. -/
import Derived.Test.YtchfnjfmlhacfaaYe
namespace Go.Proofs.Ytchfnjfmlhacfaa
open Go.Abs

section
variable {h h1 h2 : AH} {n n1 n2 r : Nat} {sa : Nat → Option Addr} {ol ka : Option Addr} {pa : List (Option Addr)} {F G F1 G1 : Nat → Prop} {S S1 : DS}
theorem writes_ok {S : DS} (ok : DSOk S) {i p : Nat} {b : List UInt8} (hi : i = 0 ∨ i = 1) (hb : 0 < b.length → p + b.length ≤ 4194304) : DSOk (S.writes i p b) :=
  ⟨fun q hq => by
    rcases List.mem_append.1 (show q ∈ S.ps ++ chunks i b.length p b from hq) with k | k
    · exact ok.ps q k
    · exact chunks_ok i hi _ _ _ hb q k, ok.sure, ok.fuse, ok.calls, ok.keep⟩
set_option maxHeartbeats 4000000 in
theorem rwrite_rk {c : Option Addr} {b : List UInt8} (D : Rk h n r F G S) (f at_ : Int) (hat : at_ ≤ 9223372036854775807) (hB : SlB h n c b) (hc : c ≠ none → ¬ F (sb c)) (hps : S.ps.length + b.length ≤ 1099511627775) (hcl : S.calls < 4611686018427387904) :
    RF Try.prog F 42 #[.pointer (some ⟨r, 0, none⟩), .int .i64 f, .int .i64 at_, .slice c b.length b.length] n h (fun v n' h' => v = .int .i64 (S.write f at_ b).1 ∧ RkTo n r F G h (S.write f at_ b).2 n' h') := by
  refine RF.of Try.func42 rfl rfl (Nat.le_of_ble_eq_true rfl) ?_; dsimp only [argEnv]
  have hlt := D.lt
  by_cases hm : S.may f = 0
  · obtain ⟨i, hi, rfl, hd⟩ := may_zero hm
    have hme := rmay_rk D (i : Int)
    rw [hm] at hme
    by_cases hw : writeE at_ b = 0
    · have hw1 : ¬ at_ < 0 := fun q => by rw [writeE, if_pos q] at hw; cases hw
      obtain ⟨p, rfl⟩ : ∃ p : Nat, at_ = p := ⟨at_.toNat, by omega⟩
      have hw2 : 0 < b.length → p + b.length ≤ 4194304 := fun q => by
        rw [writeE, if_neg hw1] at hw
        split at hw
        · cases hw
        · omega
      have hwok := writes_ok D.ok (i := i) (p := p) (b := b) (by omega) hw2
      have he : S.write (i : Int) (p : Nat) b = (S.writes i p b).ends := by rw [DS.write, if_neg (by rw [hm]; simp), if_neg (by rw [hw]; simp)]; simp
      rw [he, ends_meets (show 0 ≤ (S.writes i p b).fuse from D.ok.fuse.1), meets_writes]
      repeat' (first | refine stpS ?_ | (refine stp2 ?_ ?_ <;> intro _) | refine RS.call1 rfl opds (hme) none'W ?_)
      all_goals try (exfalso; omega)
      all_goals
        refine RS.call rfl opds (rmeets_rk D hcl) (fun b hb => .inl hb) ?_
        rintro v n2 h2 hle2 ⟨rfl, rfl, D2, e2⟩
        have hmk : S.meets.2.keep = S.keep := by unfold DS.meets; split <;> rfl
        have hmp : S.meets.2.ps = S.ps := by unfold DS.meets; split <;> rfl
        have hmf : (S.writes i p b).keep = S.meets.2.keep := hmk.symm
        have hok := writes_ok (meets_ok D.ok) (i := i) (p := p) (b := b) (by omega) hw2
        have hlt2 := D2.lt
        rw [hmf]
        generalize S.meets = M at *
        obtain ⟨hit, S2⟩ := M
        dsimp only at D2 hmk hmp hok hmf ⊢
        have hpl : S2.ps.length = S.ps.length := by rw [hmp]
        have hB2 : SlB h2 n2 c b := hB.extW e2 (Nat.le_refl _) hc
        repeat' (first | refine stpS ?_ | (refine stp2 ?_ ?_ <;> intro _))
        refine RS.append rfl opd opd (OwnSl.nil (h := h2) (n0 := n2) (n := n2) (z := 1) (Nat.le_refl n2)) hB2.src full_slice (fun b hb => Or.inr (by omega)) (by omega) ?_
        intro c1 n3 h3 hle3 hO hX hnew
        have hE := hX.ext (OwnSl.nil (h := h2) (n0 := n2) (n := n2) (z := 1) (Nat.le_refl n2))
        simp only [Nat.zero_add, List.nil_append] at hO ⊢
        obtain ⟨-, sa, ol, ka, pa, rfl, rfl, R⟩ := id D2
        have hat1 := hO.at'
        have hol : ol = none ∨ sb ol < n2 := by
          by_cases q : ol = none
          · exact .inl q
          · exact .inr (R.ltF _ (.inr ⟨q, rfl⟩))
        have hac : apt ol c1 := by
          rcases hol with q | q
          · exact .inl q
          · rcases hat1 with k | k
            · exact .inr (.inl k)
            · exact .inr (.inr (by omega))
        have hS2e : ({ S2 with ps := S2.ps } : DS) = S2 := rfl
        repeat' (first | refine stpS ?_ | (refine stp2 ?_ ?_ <;> intro _))
        refine RC.loop ?_
        refine RL.inv (α := Nat × Option Addr × List UInt8 × List Pc × Option Addr × List (Option Addr)) (fun s => [(2, .int .i64 (s.1 : Nat)), (11, .slice s.2.1 s.2.2.1.length s.2.2.1.length), (1, .int .i64 (i : Nat)), (0, .pointer (some ⟨r, 0, none⟩)), (10, .bool hit)])
          (fun s n4 h4 => n3 ≤ n4 ∧ SlB h4 n4 s.2.1 s.2.2.1 ∧ (s.2.1 = none ∨ n2 ≤ sb s.2.1) ∧ apt s.2.2.2.2.1 s.2.1 ∧ (0 < s.2.2.1.length → s.1 + s.2.2.1.length ≤ 4194304) ∧ s.2.2.2.1.length + s.2.2.1.length ≤ S.ps.length + b.length ∧
            s.2.2.2.1 ++ chunks i s.2.2.1.length s.1 s.2.2.1 = S2.ps ++ chunks i b.length p b ∧ RfR h4 n4 r sa s.2.2.2.2.1 ka s.2.2.2.2.2 { S2 with ps := s.2.2.2.1 } ∧ (s.2.2.2.2.1 = ol ∨ s.2.2.2.2.1 = none ∨ n2 ≤ sb s.2.2.2.2.1) ∧
            (∀ x, x ∈ rfG sa ka s.2.2.2.2.2 → x ∈ rfG sa ka pa ∨ x = none ∨ n2 ≤ sb x) ∧ ExtW (RkF r ol) n2 h2 h4)
          (fun s => s.2.2.1.length) (p, c1, b, S2.ps, ol, pa) envs ⟨Nat.le_refl _, hO.slbE, hat1.imp id (·.1), hac, hw2, by dsimp only; omega, rfl, R.ext hE hle3, .inl rfl, fun x hx => .inl hx, ExtW.of hE (Nat.le_refl _)⟩ ?_
        clear hO hX hE hnew hat1 hac
        rintro ⟨a1, c1, l1, ps1, ol1, pa1⟩ n4 h4 ⟨hn4, hS1, hc1, hac, hl1, hl2, hch, R1, ho1, hg1, e4⟩
        dsimp only at hS1 hc1 hac hl1 hl2 hch R1 ho1 hg1 ⊢
        have hlt4 := R1.lt
        have hinf := R1.inf
        have c2 : h4.cell r 2 = .slice ol1 ps1.length ps1.length := R1.cs 2 _ rfl
        by_cases hl0 : 0 < l1.length
        · have hstep := chunks_step i a1 l1 (by omega)
          have hk0 : 0 < min l1.length (512 - a1 % 512) := by omega
          have hk1 : min l1.length (512 - a1 % 512) ≤ l1.length := by omega
          have ek : min (l1.length : Int) (512 - (a1 : Int) % 512) = ((min l1.length (512 - a1 % 512) : Nat) : Int) := by omega
          repeat' (first | refine stpS ?_ | (refine stp2 ?_ ?_ <;> intro _))
          rw [ek]
          generalize min l1.length (512 - a1 % 512) = k at *
          have htl : (l1.take k).length = k := by rw [List.length_take]; omega
          have hlb := hl1 (by omega)
          have hc0 : c1 ≠ none := fun q => by
            subst q
            rcases hS1.shape with z | z
            · omega
            · cases z.1
          have hcl1 := hS1.ltA hc0
          have hnd : ¬ inA ol1 r := fun q => (R1.rl.resolve_left q.1) q.2
          have hnc : ¬ inA ol1 (sb c1) := fun q => ((hac.resolve_left q.1).resolve_left hc0) q.2.symm
          have hWl : ∀ b, inA ol1 b → b < n4 + 1 := fun b q => Nat.lt_succ_of_lt (R1.ltF _ (.inr q))
          have hTo : ol1 ≠ none → RkF r ol (sb ol1) ∨ n2 ≤ sb ol1 := fun q => by
            rcases ho1 with z | z | z
            · rw [z]; rw [z] at q; exact .inl (.inr ⟨q, rfl⟩)
            · exact absurd z q
            · exact .inr z
          have hTr : RkF r ol r := .inl rfl
          have hpo : PcOk ⟨i, false, a1, l1.take k⟩ := ⟨by show i = 0 ∨ i = 1; omega, fun _ => ⟨by show 0 < (l1.take k).length; omega, by show a1 + (l1.take k).length ≤ 4194304; omega⟩, fun q => by cases q⟩
          repeat' (first | refine stp ?_ | (refine stp2 ?_ ?_ <;> intro _))
          rw [Int.toNat_natCast]
          have hrp : rpC ⟨i, false, a1, l1.take k⟩ c1 = [.int .i64 (i : Nat), .bool false, .int .i64 (a1 : Nat), .slice c1 k k] := by
            show [Value.int .i64 (i : Nat), .bool false, .int .i64 (a1 : Nat), .slice c1 (l1.take k).length (l1.take k).length] = _
            rw [htl]
          have hnew : OwnSl (h4.app (.new n4 ⟨4, 0, true, 4⟩ [.int .i64 (i : Nat), .bool false, .int .i64 (a1 : Nat), .slice c1 k k])) n4 (n4 + 1) (some ⟨n4, 0, none⟩) 4 1 [.int .i64 (i : Nat), .bool false, .int .i64 (a1 : Nat), .slice c1 k k] := OwnSl.new (h := h4) (m := 1) (z := 4) (Nat.le_refl n4) rfl rfl
          have hlo : OwnSl h4 0 n4 ol1 4 ps1.length (rpsC ps1 pa1) := R1.lo
          refine RD.appendT (n4 + 1) rfl opd opd (hlo.ext (n1 := n4 + 1) (h1 := h4.app (.new n4 ⟨4, 0, true, 4⟩ [.int .i64 (i : Nat), .bool false, .int .i64 (a1 : Nat), .slice c1 k k])) ext (Nat.le_succ n4)) (hnew.ext (AH.below_ext _ _) (Nat.le_refl _)).src full_slice hTo (by omega) (Nat.le_refl _) cfw ?_
          intro a3 n5 h5 hle5 hO5 hX5 hwh
          rw [← hrp] at hO5
          have hX : ExtX n4 ol1 h4 h5 := fun x hx hne => by
            have := hX5 x (by omega) hne
            exact ⟨this.1.trans (i_new_ne (by omega) rfl), fun i => (this.2 i).trans (c_new_ne (by omega) rfl)⟩
          have hS5 : SlB h5 n5 c1 l1 := (hS1.extX hX (by
            rcases hac with z | z | z
            · exact .inl z
            · exact .inr (.inl z)
            · exact .inr (.inr (Ne.symm z)))).ext (Ext.refl _ _) (by omega)
          have hrc : apd r c1 := hc1.imp id (by omega)
          have hac3 : apt a3 c1 := by
            rcases hwh with z | z
            · rw [z]; exact hac
            · exact .inr (.inr (by omega))
          have R2 : RfR (h5.app (.sets r 2 [.slice a3 (ps1.length + 1) (ps1.length + 1)])) n5 r sa a3 ka (pa1 ++ [c1]) { S2 with ps := ps1 ++ [⟨i, false, a1, l1.take k⟩] } := R1.push (p := ⟨i, false, a1, l1.take k⟩) (c := c1) hX (by omega) (hO5.mono (Nat.zero_le _)) (hwh.imp id (fun q => .inr (by omega))) (by
            have := hS5.takeA k
            exact this) hrc hac3
          have hinf5 : h5.info r = some ⟨7, 0, true, 0⟩ := i_extX hX hlt4 R1.rl hinf
          have hrn : r < n5 := by omega
          have hS6 : SlB (h5.app (.sets r 2 [.slice a3 (ps1.length + 1) (ps1.length + 1)])) n5 c1 l1 := hS5.extW (W := fun b => b = r) (ExtW.appSets (.inl rfl) (ExtW.refl _ _ _)) (Nat.le_refl _) (fun q e => (hrc.resolve_left hc0) e.symm)
          repeat' (first | refine stp ?_ | (refine stp2 ?_ ?_ <;> intro _))
          rw [Int.toNat_natCast]
          refine nextC.normal ⟨(a1 + k, sub c1 k, l1.drop k, ps1 ++ [(⟨i, false, a1, l1.take k⟩ : Pc)], a3, pa1 ++ [c1]), ?_, ?_, by omega, ?_, ?_, ?_, ?_, ?_, ?_, R2, ?_, ?_, ?_⟩
          · dsimp only; rw [List.length_drop]; omega
          · dsimp only; rw [List.length_drop]; exact envs
          · have := hS6.cut (i := k) (u := l1.length) hk1 (Nat.le_refl _)
            rwa [List.take_length] at this
          · dsimp only; rw [sb_sub]; exact .inr (hc1.resolve_left hc0)
          · dsimp only
            rcases hac3 with z | z | z
            · exact .inl z
            · exact absurd z hc0
            · exact .inr (.inr (by rw [sb_sub]; exact z))
          · dsimp only; rw [List.length_drop]; intro _; omega
          · dsimp only; rw [List.length_drop, List.length_append]; simp only [List.length_cons, List.length_nil]; omega
          · dsimp only; rw [List.append_assoc, List.singleton_append, ← hstep]; exact hch
          · dsimp only
            rcases hwh with z | z
            · rw [z]; exact ho1
            · exact .inr (.inr (by omega))
          · intro x hx
            have hx : x = c1 ∨ x ∈ rfG sa ka pa1 := by
              simp only [rfG, List.mem_cons, List.mem_append, List.not_mem_nil, or_false] at hx ⊢
              rcases hx with k | k | k | k | k <;> simp [k]
            rcases hx with rfl | z
            · exact .inr hc1
            · exact hg1 x z
          · exact ExtW.appSets (.inl hTr) (e4.trans (ExtW.ofX (W := fun b => RkF r ol b ∨ n2 ≤ b) hX (fun q => hTo q)) (by omega) (fun x hx q => q.resolve_right (by omega)))
        · have hl0 : l1 = [] := List.eq_nil_of_length_eq_zero (by omega)
          subst hl0
          have hch' : ps1 = S2.ps ++ chunks i b.length p b := by simpa [chunks] using hch
          have hSe : ({ S2 with ps := ps1 } : DS) = S2.writes i p b := by rw [hch']; rfl
          rw [hSe] at R1
          have hlen : (S2.writes i p b).ps.length ≤ 1099511627776 := by
            have := writes_len S2 i p b
            omega
          obtain ⟨F3, G3, D3, hF3, hG3, e3⟩ := RkTo.mk (n := n2) (h := h2) (ol := ol) (ka := ka) (pa := pa) (sa := sa) hok R1 ho1 hg1 e4
          repeat' (first | refine stpS ?_ | (refine stp2 ?_ ?_ <;> intro _))
          refine RS.call rfl opds (rends_rk D3 hlen hit) (fun b hb => ?_) ?_
          · by_cases q : b < n2
            · exact .inl (hF3 b q hb)
            · exact .inr (by omega)
          rintro v n5 h5 hle5 ⟨rfl, to5⟩
          have fin := RkTo.trans (n := n2) (h := h) (F := RkF r ol) (G := RkG sa ka pa) (e2.trans e3 (Nat.le_refl _) (fun _ _ q => q)) hF3 hG3 (by omega) to5
          cases hit
          · repeat' (first | refine stpS ?_ | (refine stp2 ?_ ?_ <;> intro _))
            exact ⟨rfl, fin⟩
          · repeat' (first | refine stpS ?_ | (refine stp2 ?_ ?_ <;> intro _))
            exact ⟨rfl, fin⟩
    · by_cases hw1 : at_ < 0
      · have he : S.write (i : Int) at_ b = (1, S) := by simp [DS.write, hm, writeE, hw1]
        rw [he]
        repeat' (first | refine stpS ?_ | (refine stp2 ?_ ?_ <;> intro _) | refine RS.call1 rfl opds (hme) none'W ?_)
        exact ⟨rfl, D.to⟩
      · have hw2 : 0 < b.length ∧ (4194304 < at_ ∨ 4194304 - at_ < b.length) := Classical.byContradiction fun q => hw (by rw [writeE, if_neg hw1, if_neg q])
        have he : S.write (i : Int) at_ b = (5, S) := by simp [DS.write, hm, writeE, hw1, hw2]
        rw [he]
        repeat' (first | refine stpS ?_ | (refine stp2 ?_ ?_ <;> intro _) | refine RS.call1 rfl opds (hme) none'W ?_)
        all_goals first | exact ⟨rfl, D.to⟩ | (exfalso; omega)
  · have he : S.write f at_ b = (S.may f, S) := by simp [DS.write, hm]
    rw [he]
    repeat' (first | refine stpS ?_ | (refine stp2 ?_ ?_ <;> intro _) | refine RS.call1 rfl opds (rmay_rk D f) none'W ?_)
    exact ⟨rfl, D.to⟩
end
end Go.Proofs.Ytchfnjfmlhacfaa
