/- The law DiskFuse. -/
import Derived.Test.YtchfnjfmlhacfaaT
import Derived.Test.YtchfnjfmlhacfaaArg
namespace Go.Proofs.Ytchfnjfmlhacfaa
open Go.Abs

theorem DL.argB {n0 n d : Nat} {h0 h : AH} {F G : Nat → Prop} {S : DS} (D : DL n0 h0 n h d F G S) {c : Option Addr} {b : List UInt8} (hS : SlB h0 n0 c b) : c ≠ none → ¬ F (sb c) := D.low fun q => hS.ltA q
theorem DL.argK {n0 n d : Nat} {h0 h : AH} {F G : Nat → Prop} {S : DS} (D : DL n0 h0 n h d F G S) {c : Option Addr} {b : List Bool} (hS : SlT h0 n0 c b) : c ≠ none → ¬ F (sb c) := D.low fun q => hS.ltA q
theorem fz_init (k : Int) (ks : List Bool) : ({ DS.init with fuse := k, keep := ks } : DS) = fz DS.init k ks := by
  show DS.mk _ _ _ _ _ _ = DS.mk _ _ _ _ _ _
  congr 1
  show k = k - 0
  omega
set_option maxHeartbeats 4000000 in
theorem law_DiskFuse (L1 : List OpE) (x : Int) (ks : List Bool) (a1 a3 : Option Addr) (m n : Nat) (h : AH) (B1 : OpsRep h n a1 L1 m) (hx : 0 ≤ x ∧ x < 256) (S3 : SlT h n a3 ks) (hn : 0 < n)
    (hm1 : L1.length ≤ 1048576) (hks : ks.length ≤ 1048576) (hm : L1.length * m ≤ 1099511627000) (h1m : 1 ≤ m) (hmm : m ≤ 1048576) :
    RF Try.prog none' 5 #[.slice a1 L1.length L1.length, .int .u8 x, .slice a3 ks.length ks.length] n h (fun r _ _ => r = .bool true) := by
  refine RF.of Try.func5 rfl rfl (Nat.le_of_ble_eq_true rfl) ?_; dsimp only [argEnv]
  repeat' (first | refine stpS ?_ | (refine stp2 ?_ ?_ <;> intro _))
  refine RS.call rfl opds (new_rf n h hn) none'W ?_
  rintro r n1 h1 hle ⟨d, F, G, rfl, D, hF, hG, e1⟩
  have L := new_dl (n0 := n) (h0 := h) (Nat.le_refl n) (Ext.refl n h) D hF hle e1
  repeat' (first | refine stpS ?_ | (refine stp2 ?_ ?_ <;> intro _))
  refine RS.call rfl opds (new_rf n1 h1 (by omega)) none'W ?_
  rintro r n2 h2 hle2 ⟨c, F', G', rfl, D', hF', hG', e2⟩
  have DD : DLL n h n2 h2 d F G DS.init c F' G' DS.init := ⟨L.step hle2 e2, new_dl hle L.ext D' hF' hle2 e2, fun b q k => by have := L.dk.ltF _ q; have := hF' b k; omega, fun b _ k => hG' b k, fun b _ k => hG b k⟩
  clear D D' hF hF' hG hG' e1 e2 L
  repeat' (first | refine stpS ?_ | (refine stp2 ?_ ?_ <;> intro _))
  refine RS.call rfl opds (begun_rf n2 h2 (by omega)) none'W ?_
  rintro r n3 h3 hle3 ⟨rfl, e3⟩
  have DD := DD.step hle3 e3
  repeat' (first | refine stpS ?_ | (refine stp2 ?_ ?_ <;> intro _))
  have hk : 1 ≤ x % 6 + 1 ∧ x % 6 + 1 ≤ 6 := by omega
  generalize x % 6 + 1 = k at *
  have hsf : DS.init.setFuse k ks = (0, fz DS.init k ks) := by rw [DS.setFuse, if_neg (by omega), fz_init]
  have hc := setFuse_dk DD.a.dk k (by omega) (by omega) (S3.ext DD.a.ext DD.a.le)
  rw [hsf] at hc
  dsimp only at hc
  refine RS.call rfl opds hc (fun b => DD.a.W b) ?_
  rintro r n4 h4 hle4 ⟨rfl, to⟩
  obtain ⟨F1, G1, DD, -, -⟩ := DD.one hle4 to
  clear to hc
  repeat' (first | refine stpS ?_ | (refine stp2 ?_ ?_ <;> intro _))
  refine RC.loop ?_
  refine RL.inv (α := Nat × DS × (Nat → Prop) × (Nat → Prop) × (Nat → Prop) × (Nat → Prop)) (fun s => [(38, .int .i64 (s.1 : Nat)), (37, .int .i64 L1.length), (36, .slice a1 L1.length L1.length), (9, .int .i64 k), (2, .slice a3 ks.length ks.length), (7, .pointer (some ⟨d, 0, none⟩)), (8, .pointer (some ⟨c, 0, none⟩))])
    (fun s n7 h7 => s.1 ≤ L1.length ∧ s.2.1.fuse = 0 ∧ s.2.1.down = false ∧ 0 ≤ s.2.1.calls ∧ s.2.1.calls < k ∧ s.2.1.ps.length ≤ s.1 * m ∧ DLL n h n7 h7 d s.2.2.1 s.2.2.2.1 (fz s.2.1 k ks) c s.2.2.2.2.1 s.2.2.2.2.2 s.2.1) (fun s => L1.length - s.1)
    (0, DS.init, F1, G1, F', G') envs ⟨by omega, rfl, rfl, by simp [DS.init], by simp [DS.init]; omega, by simp [DS.init], DD⟩ ?_
  clear DD
  rintro ⟨i, S, F1, G1, F2, G2⟩ n7 h7 ⟨hi, hf, hd, hc0, hck, hps, DD⟩
  dsimp only at hi hf hd hc0 hck hps DD ⊢
  have hlt1 := DD.a.dk.lt
  have hlt2 := DD.b.dk.lt
  have hle7 := DD.a.le
  by_cases hlt7 : i < L1.length
  · obtain ⟨x, hx⟩ : ∃ x, L1[i]? = some x := ⟨L1[i], by simp [hlt7]⟩
    have B := B1.ext DD.a.ext DD.a.le
    obtain ⟨⟨c0, c1, c2, c3, c4, c5⟩, ok⟩ := B.at_ i x hx
    obtain ⟨-, ok0⟩ := B1.at_ i x hx
    have hA := B.shp.sla
    have hba := B.shp.lt (by omega)
    have him : (i + 1) * m ≤ L1.length * m := Nat.mul_le_mul_right _ (by omega)
    rw [Nat.succ_mul] at him
    have hdl := ok.dl
    have DD5 := DD.step (Nat.le_succ n7) (h' := (h7.app (.new n7 ⟨6, 0, true, 0⟩ [.int .i64 0, .int .i64 0, .int .i64 0, .int .i64 0, .slice none 0 0, .slice none 0 0])).app (.sets n7 0 x.cells)) ext
    have hb1 : ¬ F1 n7 := fun k => by have := DD.a.dk.ltF _ k; omega
    have hb2 : ¬ F2 n7 := fun k => by have := DD.b.dk.ltF _ k; omega
    by_cases hdo : x.do_ = 2
    · repeat' (first | refine stpS ?_ | (refine stp2 ?_ ?_ <;> intro _))
      refine RS.call rfl opds (sync_dk DD5.a.dk (by show S.ps.length ≤ _; omega) (by show S.calls < _; omega) x.file) (fun b => DD5.a.W b) ?_
      rintro r n8 h8 hle8 ⟨rfl, to⟩
      obtain ⟨F3, G3, DD6, hF3, e4⟩ := DD5.one hle8 to
      have b1 : h8.cell n7 1 = .int .i64 x.file := c_extW e4 (by omega) hb1 cell
      have hlt8 := DD6.a.dk.lt
      have hlt9 := DD6.b.dk.lt
      clear DD5 to hF3 e4
      rcases fz_sync (ks := ks) hf hd hck x.file with ⟨e, he0, he6, q1, q2⟩ | ⟨S', hf', hd', hc', hp', q1, q3, q2⟩ | ⟨hc', D, q2, q3⟩
      · rw [q2] at DD6 ⊢
        dsimp only at DD6 ⊢
        repeat' (first | refine stpS ?_ | (refine stp2 ?_ ?_ <;> intro _))
        have hs2 := sync_dk DD6.b.dk (by omega) (by omega) x.file
        rw [q1] at hs2
        dsimp only at hs2
        refine RS.call rfl opds hs2 (fun b => DD6.b.W b) ?_
        rintro r n9 h9 hle9 ⟨rfl, to⟩
        obtain ⟨F4, G4, DD7, -, -⟩ := DD6.two hle9 to
        repeat' (first | refine stpS ?_ | (refine stp2 ?_ ?_ <;> intro _))
        refine nextC.normal ⟨(i + 1, S, F3, G3, F4, G4), by dsimp only; omega, envs, by dsimp only; omega, hf, hd, hc0, hck, by dsimp only; rw [Nat.succ_mul]; omega, DD7⟩
      · rw [q2] at DD6 ⊢
        dsimp only at DD6 ⊢
        repeat' (first | refine stpS ?_ | (refine stp2 ?_ ?_ <;> intro _))
        have hs2 := sync_dk DD6.b.dk (by omega) (by omega) x.file
        rw [q1] at hs2
        dsimp only at hs2
        refine RS.call rfl opds hs2 (fun b => DD6.b.W b) ?_
        rintro r n9 h9 hle9 ⟨rfl, to⟩
        obtain ⟨F4, G4, DD7, -, -⟩ := DD6.two hle9 to
        repeat' (first | refine stpS ?_ | (refine stp2 ?_ ?_ <;> intro _))
        refine nextC.normal ⟨(i + 1, S', F3, G3, F4, G4), by dsimp only; omega, envs, by dsimp only; omega, hf', hd', by dsimp only; omega, q3, by dsimp only; rw [Nat.succ_mul]; omega, DD7⟩
      · rw [q2] at DD6 ⊢
        dsimp only at DD6 ⊢
        have hca := calls_dk DD6.a.dk
        rw [q3.1] at hca
        have hcr := crash_dk DD6.b.dk (by omega) (by omega) (S3.ext DD6.b.ext DD6.b.le) (DD6.b.argK S3)
        rw [show S.crash ks = (0, S.lose ks) by rw [DS.crash, if_neg (by rw [hd]; simp)]] at hcr
        dsimp only at hcr
        repeat' (first | refine stpS ?_ | (refine stp2 ?_ ?_ <;> intro _) | refine RS.call1 rfl opds (hca) none'W ?_)
        refine RS.call rfl opds hcr (fun b => DD6.b.W b) ?_
        rintro r n9 h9 hle9 ⟨rfl, to⟩
        obtain ⟨F4, G4, DD7, -, -⟩ := DD6.two hle9 to
        have hsm := same_ev DD7.b.dk DD7.a.dk
        rw [decide_eq_true ⟨(q3.2 0).symm, (q3.2 1).symm⟩] at hsm
        repeat' (first | refine stpS ?_ | (refine stp2 ?_ ?_ <;> intro _) | refine RS.call1 rfl opds (hsm) none'W ?_)
        rfl
    · by_cases hdo1 : x.do_ = 1
      · repeat' (first | refine stpS ?_ | (refine stp2 ?_ ?_ <;> intro _))
        repeat' (first | refine stp ?_ | (refine stp2 ?_ ?_ <;> intro _))
        have DDb := DD5.step (Nat.le_refl _) (AH.below_ext _ _)
        have hl1 := DD5.a.dk.ltF
        refine RD.callW (n7 + 1) rfl opds (truncate_dk DDb.a.dk (by show S.ps.length < _; omega) (by show S.calls < _; omega) x.file x.at_) (fun b => DDb.a.W b) (Nat.le_refl _) cfw ?_
        rintro r n8 h8 hle8 ⟨rfl, to⟩
        obtain ⟨F3, G3, DD6, hF3, e4⟩ := DDb.one hle8 to
        have b1 : h8.cell n7 1 = .int .i64 x.file := c_extW e4 (by omega) hb1 (c_ext (AH.below_ext _ _) (by omega) cell)
        have b2 : h8.cell n7 2 = .int .i64 x.at_ := c_extW e4 (by omega) hb1 (c_ext (AH.below_ext _ _) (by omega) cell)
        have hlt8 := DD6.a.dk.lt
        have hlt9 := DD6.b.dk.lt
        have hb6 : ¬ F3 n7 := fun k => hb1 (hF3 _ (by omega) k)
        have DDc := DD6.step (Nat.le_refl _) (AH.below_ext _ _)
        have hl2 := DD6.b.dk.ltF
        repeat' (first | refine stp ?_ | (refine stp2 ?_ ?_ <;> intro _))
        refine RD.callW n8 rfl opds (truncate_dk DDc.b.dk (by omega) (by omega) x.file x.at_) (fun b => DDc.b.W b) (Nat.le_refl _) cfw ?_
        rintro r n9 h9 hle9 ⟨rfl, to⟩
        obtain ⟨F4, G4, DD7, -, -⟩ := DDc.two hle9 to
        clear DD5 DDb DDc DD6 to hF3 e4 b1 b2 hl1 hl2 hb1 hb2 hb6 c0 c1 c2 c3 c4 c5 B hA hba
        have hlt8 := DD7.a.dk.lt
        have hlt9 := DD7.b.dk.lt
        rcases fz_truncate (ks := ks) hf hd hck x.file x.at_ with ⟨e, he0, he6, q1, q2⟩ | ⟨S', hf', hd', hc', hp', q1, ⟨q3, q2⟩ | ⟨q3, D, q2, q4⟩⟩
        · rw [q1, q2] at DD7 ⊢
          dsimp only at DD7 ⊢
          repeat' (first | refine stp ?_ | (refine stp2 ?_ ?_ <;> intro _))
          refine nextC.normal ⟨(i + 1, S, F3, G3, F4, G4), by dsimp only; omega, envs, by dsimp only; omega, hf, hd, hc0, hck, by dsimp only; rw [Nat.succ_mul]; omega, DD7⟩
        · rw [q1, q2] at DD7 ⊢
          dsimp only at DD7 ⊢
          repeat' (first | refine stp ?_ | (refine stp2 ?_ ?_ <;> intro _))
          refine nextC.normal ⟨(i + 1, S', F3, G3, F4, G4), by dsimp only; omega, envs, by dsimp only; omega, hf', hd', by dsimp only; omega, q3, by dsimp only; rw [Nat.succ_mul]; omega, DD7⟩
        · rw [q1, q2] at DD7 ⊢
          dsimp only at DD7 ⊢
          have hca := calls_dk DD7.a.dk
          rw [q4.1] at hca
          have hcr := crash_dk DD7.b.dk (by omega) (by omega) (S3.ext DD7.b.ext DD7.b.le) (DD7.b.argK S3)
          rw [show S'.crash ks = (0, S'.lose ks) by rw [DS.crash, if_neg (by rw [hd']; simp)]] at hcr
          dsimp only at hcr
          repeat' (first | refine stp ?_ | (refine stp2 ?_ ?_ <;> intro _))
          repeat' (first | refine stpS ?_ | (refine stp2 ?_ ?_ <;> intro _) | refine RS.call1 rfl opds (hca) none'W ?_)
          refine RS.call rfl opds hcr (fun b => DD7.b.W b) ?_
          rintro r n10 h10 hle10 ⟨rfl, to⟩
          obtain ⟨F5, G5, DD8, -, -⟩ := DD7.two hle10 to
          have hsm := same_ev DD8.b.dk DD8.a.dk
          rw [decide_eq_true ⟨(q4.2 0).symm, (q4.2 1).symm⟩] at hsm
          repeat' (first | refine stpS ?_ | (refine stp2 ?_ ?_ <;> intro _) | refine RS.call1 rfl opds (hsm) none'W ?_)
          rfl
      · repeat' (first | refine stpS ?_ | (refine stp2 ?_ ?_ <;> intro _))
        repeat' (first | refine stp ?_ | (refine stp2 ?_ ?_ <;> intro _))
        have DDb := DD5.step (Nat.le_refl _) (AH.below_ext _ _)
        have hl1 := DD5.a.dk.ltF
        refine RD.callW (n7 + 1) rfl opds (write_dk DDb.a.dk x.file x.at_ ok.at_.2 (ok0.data.ext DDb.a.ext DDb.a.le) (DDb.a.argB ok0.data) (by show S.ps.length + _ ≤ _; omega) (by show S.calls < _; omega)) (fun b => DDb.a.W b) (Nat.le_refl _) cfw ?_
        rintro r n8 h8 hle8 ⟨rfl, to⟩
        obtain ⟨F3, G3, DD6, hF3, e4⟩ := DDb.one hle8 to
        have b1 : h8.cell n7 1 = .int .i64 x.file := c_extW e4 (by omega) hb1 (c_ext (AH.below_ext _ _) (by omega) cell)
        have b2 : h8.cell n7 2 = .int .i64 x.at_ := c_extW e4 (by omega) hb1 (c_ext (AH.below_ext _ _) (by omega) cell)
        have b4 : h8.cell n7 4 = .slice x.da x.data.length x.data.length := c_extW e4 (by omega) hb1 (c_ext (AH.below_ext _ _) (by omega) cell)
        have hlt8 := DD6.a.dk.lt
        have hlt9 := DD6.b.dk.lt
        have hb6 : ¬ F3 n7 := fun k => hb1 (hF3 _ (by omega) k)
        have DDc := DD6.step (Nat.le_refl _) (AH.below_ext _ _)
        have hl2 := DD6.b.dk.ltF
        repeat' (first | refine stp ?_ | (refine stp2 ?_ ?_ <;> intro _))
        refine RD.callW n8 rfl opds (write_dk DDc.b.dk x.file x.at_ ok.at_.2 (ok0.data.ext DDc.b.ext DDc.b.le) (DDc.b.argB ok0.data) (by omega) (by omega)) (fun b => DDc.b.W b) (Nat.le_refl _) cfw ?_
        rintro r n9 h9 hle9 ⟨rfl, to⟩
        obtain ⟨F4, G4, DD7, -, -⟩ := DDc.two hle9 to
        clear DD5 DDb DDc DD6 to hF3 e4 b1 b2 hl1 hl2 hb1 hb2 hb6 c0 c1 c2 c3 c4 c5 B hA hba b4
        have hlt8 := DD7.a.dk.lt
        have hlt9 := DD7.b.dk.lt
        rcases fz_write (ks := ks) hf hd hck x.file x.at_ x.data with ⟨e, he0, he6, q1, q2⟩ | ⟨S', hf', hd', hc', hp', q1, ⟨q3, q2⟩ | ⟨q3, D, q2, q4⟩⟩
        · rw [q1, q2] at DD7 ⊢
          dsimp only at DD7 ⊢
          repeat' (first | refine stp ?_ | (refine stp2 ?_ ?_ <;> intro _))
          refine nextC.normal ⟨(i + 1, S, F3, G3, F4, G4), by dsimp only; omega, envs, by dsimp only; omega, hf, hd, hc0, hck, by dsimp only; rw [Nat.succ_mul]; omega, DD7⟩
        · rw [q1, q2] at DD7 ⊢
          dsimp only at DD7 ⊢
          repeat' (first | refine stp ?_ | (refine stp2 ?_ ?_ <;> intro _))
          refine nextC.normal ⟨(i + 1, S', F3, G3, F4, G4), by dsimp only; omega, envs, by dsimp only; omega, hf', hd', by dsimp only; omega, q3, by dsimp only; rw [Nat.succ_mul]; omega, DD7⟩
        · rw [q1, q2] at DD7 ⊢
          dsimp only at DD7 ⊢
          have hca := calls_dk DD7.a.dk
          rw [q4.1] at hca
          have hcr := crash_dk DD7.b.dk (by omega) (by omega) (S3.ext DD7.b.ext DD7.b.le) (DD7.b.argK S3)
          rw [show S'.crash ks = (0, S'.lose ks) by rw [DS.crash, if_neg (by rw [hd']; simp)]] at hcr
          dsimp only at hcr
          repeat' (first | refine stp ?_ | (refine stp2 ?_ ?_ <;> intro _))
          repeat' (first | refine stpS ?_ | (refine stp2 ?_ ?_ <;> intro _) | refine RS.call1 rfl opds (hca) none'W ?_)
          refine RS.call rfl opds hcr (fun b => DD7.b.W b) ?_
          rintro r n10 h10 hle10 ⟨rfl, to⟩
          obtain ⟨F5, G5, DD8, -, -⟩ := DD7.two hle10 to
          have hsm := same_ev DD8.b.dk DD8.a.dk
          rw [decide_eq_true ⟨(q4.2 0).symm, (q4.2 1).symm⟩] at hsm
          repeat' (first | refine stpS ?_ | (refine stp2 ?_ ?_ <;> intro _) | refine RS.call1 rfl opds (hsm) none'W ?_)
          rfl
  · have hdn := down_dk DD.a.dk
    have hca := calls_dk DD.a.dk
    rw [show (fz S k ks).down = false from hd] at hdn
    rw [show (fz S k ks).calls = S.calls from rfl] at hca
    repeat' (first | refine stpS ?_ | (refine stp2 ?_ ?_ <;> intro _) | refine RS.call1 rfl opds (hdn) none'W ?_ | refine RS.call1 rfl opds (hca) none'W ?_)
    rfl
end Go.Proofs.Ytchfnjfmlhacfaa
