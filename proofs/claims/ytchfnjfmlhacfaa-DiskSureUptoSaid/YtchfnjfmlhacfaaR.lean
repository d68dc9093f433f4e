/- The law DiskSure. -/
import Derived.Test.YtchfnjfmlhacfaaPs
import Derived.Test.YtchfnjfmlhacfaaArg
namespace Go.Proofs.Ytchfnjfmlhacfaa
open Go.Abs

theorem DL.arg {n0 n d : Nat} {h0 h : AH} {F G : Nat → Prop} {S : DS} (D : DL n0 h0 n h d F G S) {c : Option Addr} {b : List UInt8} (hS : SlB h0 n0 c b) : c ≠ none → ¬ F (sb c) := D.low fun q => hS.ltA q
theorem DL.argT {n0 n d : Nat} {h0 h : AH} {F G : Nat → Prop} {S : DS} (D : DL n0 h0 n h d F G S) {c : Option Addr} {b : List Bool} (hS : SlT h0 n0 c b) : c ≠ none → ¬ F (sb c) := D.low fun q => hS.ltA q
set_option maxHeartbeats 4000000 in
theorem law_DiskSure (L1 L2 : List OpE) (ks : List Bool) (a1 a2 a3 : Option Addr) (m1 m2 n : Nat) (h : AH) (B1 : OpsRep h n a1 L1 m1) (B2 : OpsRep h n a2 L2 m2) (S3 : SlT h n a3 ks) (hn : 0 < n)
    (hm1 : L1.length ≤ 1048576) (hm2 : L2.length ≤ 1048576) (hks : ks.length ≤ 1048576) (hm : L1.length * m1 + L2.length * m2 ≤ 1099511627000) (h1m : 1 ≤ m2) (hmm : m1 + m2 ≤ 1048576) :
    RF Try.prog none' 4 #[.slice a1 L1.length L1.length, .slice a2 L2.length L2.length, .slice a3 ks.length ks.length] n h (fun r _ _ => r = .bool true) := by
  refine RF.of Try.func4 rfl rfl (Nat.le_of_ble_eq_true rfl) ?_; dsimp only [argEnv]
  repeat' (first | refine stpS ?_ | (refine stp2 ?_ ?_ <;> intro _))
  refine RS.call rfl opds (new_rf n h hn) none'W ?_
  rintro r n1 h1 hle ⟨d, F, G, rfl, D, hF, hG, e1⟩
  have L := new_dl (n0 := n) (h0 := h) (Nat.le_refl n) (Ext.refl n h) D hF hle e1
  clear D hF hG e1
  repeat' (first | refine stpS ?_ | (refine stp2 ?_ ?_ <;> intro _))
  refine RS.call rfl opds (begun_rf n1 h1 (by omega)) none'W ?_
  rintro r n2 h2 hle2 ⟨rfl, e2⟩
  have L := L.step hle2 e2
  have hlt := L.dk.lt
  repeat' (first | refine stpS ?_ | (refine stp2 ?_ ?_ <;> intro _))
  refine RC.loop ?_
  refine RL.inv (α := Nat × DS × (Nat → Prop) × (Nat → Prop)) (fun s => [(31, .int .i64 (s.1 : Nat)), (30, .int .i64 L1.length), (29, .slice a1 L1.length L1.length), (1, .slice a2 L2.length L2.length), (2, .slice a3 ks.length ks.length), (7, .pointer (some ⟨d, 0, none⟩))])
    (fun s n3 h3 => s.1 ≤ L1.length ∧ s.2.1.fuse = 0 ∧ s.2.1.down = false ∧ s.2.1.calls ≤ s.1 ∧ s.2.1.ps.length ≤ s.1 * m1 ∧ DL n h n3 h3 d s.2.2.1 s.2.2.2 s.2.1) (fun s => L1.length - s.1) (0, DS.init, F, G) envs ⟨by omega, rfl, rfl, by simp [DS.init], by simp [DS.init], L⟩ ?_
  rintro ⟨i, S, F1, G1⟩ n3 h3 ⟨hi, hf, hd, hcl, hps, D1⟩
  dsimp only at hi hf hd hcl hps D1 ⊢
  have hlt := D1.dk.lt
  have hle3 := D1.le
  by_cases hlt1 : i < L1.length
  · obtain ⟨x, hx⟩ : ∃ x, L1[i]? = some x := ⟨L1[i], by simp [hlt1]⟩
    have B := B1.ext D1.ext D1.le
    obtain ⟨⟨c0, c1, c2, c3, c4, c5⟩, ok⟩ := B.at_ i x hx
    obtain ⟨-, ok0⟩ := B1.at_ i x hx
    have hA := B.shp.sla
    have hba := B.shp.lt (by omega)
    have him : (i + 1) * m1 ≤ L1.length * m1 := Nat.mul_le_mul_right _ (by omega)
    rw [Nat.succ_mul] at him
    have hdl := ok.dl
    repeat' (first | refine stpS ?_ | (refine stp2 ?_ ?_ <;> intro _))
    have D2 := D1.step (Nat.le_succ n3) (h' := (h3.app (.new n3 ⟨6, 0, true, 0⟩ [.int .i64 0, .int .i64 0, .int .i64 0, .int .i64 0, .slice none 0 0, .slice none 0 0])).app (.sets n3 0 x.cells)) ext
    refine RS.call rfl opds (write_dk D2.dk x.file x.at_ ok.at_.2 (ok0.data.ext D2.ext D2.le) (D2.arg ok0.data) (by omega) (by omega)) (fun b => D2.W b) ?_
    rintro r n4 h4 hle4 ⟨rfl, to⟩
    obtain ⟨F2, G2, D3, -, -, -⟩ := D2.to hle4 to
    clear D2 to
    generalize hW : S.write x.file x.at_ x.data = W at *
    obtain ⟨e, S'⟩ := W
    dsimp only at D3 ⊢
    have hS' : S'.fuse = 0 ∧ S'.down = false ∧ S'.calls ≤ S.calls + 1 ∧ S'.ps.length ≤ S.ps.length + x.data.length := by
      rcases write_cases S x.file x.at_ x.data hf with ⟨e', _, k⟩ | ⟨i', p, _, _, _, _, _, k⟩
      · rw [hW] at k; cases k; exact ⟨hf, hd, by omega, by omega⟩
      · rw [hW] at k; cases k
        exact ⟨hf, hd, Int.le_refl _, writes_len S i' p x.data⟩
    repeat' (first | refine stpS ?_ | (refine stp2 ?_ ?_ <;> intro _))
    refine nextC.normal ⟨(i + 1, S', F2, G2), by dsimp only; omega, envs, by dsimp only; omega, hS'.1, hS'.2.1, by dsimp only; omega, ?_, D3⟩
    dsimp only
    rw [Nat.succ_mul]; omega
  · have hi' : i = L1.length := by omega
    subst hi'
    repeat' (first | refine stpS ?_ | (refine stp2 ?_ ?_ <;> intro _))
    refine RS.call rfl opds (sync_dk D1.dk (by omega) (by omega) 0) (fun b => D1.W b) ?_
    rintro r n4 h4 hle4 ⟨rfl, to⟩
    obtain ⟨F2, G2, D2, -, -, -⟩ := D1.to hle4 to
    rw [sync_zero hf hd] at D2 ⊢
    have I0 := SureInv.start hf hd
    have hwl : (S.now 0).length ≤ 4194304 := D1.dk.ok.now 0
    clear D1 to
    have hps2 : ({ S with calls := S.calls + 1 }.synced 0).ps.length ≤ L1.length * m1 := Nat.le_trans (List.length_filter_le _ _) hps
    have hcl2 : ({ S with calls := S.calls + 1 }.synced 0).calls ≤ (L1.length : Int) + 1 := by show S.calls + 1 ≤ (L1.length : Int) + 1; omega
    have hnow2 : ({ S with calls := S.calls + 1 }.synced 0).now 0 = S.now 0 := synced_now _ 0 0
    dsimp only at D2 ⊢
    generalize ({ S with calls := S.calls + 1 }.synced 0) = S2 at *
    generalize S.now 0 = was at *
    clear hf hd hcl hps
    have hrd : S2.read 0 0 4194304 = (0, was) := by
      have h2 := read_zero (S := S2) (i := 0) (at_ := 0) (k := 4194304) I0.down (by omega)
      rw [hnow2, List.drop_zero, List.take_of_length_le hwl] at h2
      exact h2
    have hr := read_dk D2.dk 0 0 4194304
    rw [hrd] at hr
    dsimp only at hr
    have hlt := D2.dk.lt
    have hle4 := D2.le
    repeat' (first | refine stpS ?_ | (refine stp2 ?_ ?_ <;> intro _))
    skip
    refine RS.call rfl opds hr none'W ?_
    rintro r n5 h5 hle5 ⟨aw, rfl, e5, hOw⟩
    have D3 := D2.step hle5 e5
    repeat' (first | refine stpS ?_ | (refine stp2 ?_ ?_ <;> intro _))
    have hOs : OwnSl (h5.app (.new n5 ⟨was.length, 0, true, 1⟩ (List.replicate was.length (.bool false)))) n5 (n5 + 1) (some ⟨n5, 0, none⟩) 1 was.length (boolsV (List.replicate was.length false)) := by
      have := OwnSl.new1 (h := h5) (n0 := n5) (m := was.length) (cs := List.replicate was.length (.bool false)) (Nat.le_refl n5) (by simp) (by
        generalize was.length = k
        induction k with
        | zero => rfl
        | succ k ih => rw [List.replicate_succ]; exact ih)
      rw [show boolsV (List.replicate was.length false) = List.replicate was.length (.bool false) by simp [boolsV]]
      exact this
    rw [Int.toNat_natCast]
    obtain ⟨aS, haS⟩ : ∃ aS : Option Addr, aS = some ⟨n5, 0, none⟩ := ⟨_, rfl⟩
    rw [← haS] at hOs ⊢
    have hFG2 : ∀ b, n5 ≤ b → ¬ F2 b ∧ ¬ G2 b := fun b hb => ⟨fun k => by have := D3.dk.ltF _ k; omega, fun k => by have := D3.dk.ltG _ k; omega⟩
    have hFw : aw ≠ none → ¬ F2 (sb aw) := fun q k => by
      have := hOw.at'.resolve_left q
      have := D2.dk.ltF _ k
      omega
    have hle5' := D3.le
    refine RC.gen (fun g => OwnSl g n5 (n5 + 1) aS 1 was.length (boolsV (List.replicate was.length false)) ∧ DL n h (n5 + 1) g d F2 G2 S2 ∧ OwnSl g n4 n5 aw 1 was.length (bytesV was)) ⟨hOs, D3.step (Nat.le_succ n5) ext, hOw.ext ext (Nat.le_refl _)⟩ ?_
    rintro g ⟨hOs, D3, hOw⟩
    refine RC.loop ?_
    refine RL.inv (α := Nat × List Bool) (fun s => [(57, .int .i64 (s.1 : Nat)), (56, .int .i64 was.length), (12, .slice aS was.length was.length), (10, .slice aw was.length was.length), (1, .slice a2 L2.length L2.length), (2, .slice a3 ks.length ks.length), (7, .pointer (some ⟨d, 0, none⟩))])
      (fun s n6 h6 => s.1 ≤ was.length ∧ n5 + 1 ≤ n6 ∧ s.2.length = was.length ∧ (∀ k, k < s.1 → s.2.getD k false = true) ∧ OwnSl h6 n5 (n5 + 1) aS 1 was.length (boolsV s.2) ∧ DL n h n6 h6 d F2 G2 S2 ∧ OwnSl h6 n4 n5 aw 1 was.length (bytesV was)) (fun s => was.length - s.1) (0, List.replicate was.length false) envs ⟨by omega, Nat.le_refl _, by simp, fun k hk => by omega, hOs, D3, hOw⟩ ?_
    rintro ⟨i, t⟩ n6 h6 ⟨hi, hn6, htl, htt, hOs, D4, hOw⟩
    dsimp only at hi htl htt hOs ⊢
    by_cases hlt6 : i < was.length
    · obtain ⟨ho, hlo, hhi, hI, hA, hC⟩ := hOs.facts (by omega)
      have hlt := D4.dk.lt
      have hSt : SlT h6 (n5 + 1) aS t := hOs.slt
      repeat' (first | refine stpS ?_ | (refine stp2 ?_ ?_ <;> intro _))
      have hO7 := hOs.set1 (i := i) (v := .bool true) (by omega) rfl
      have hbs : (boolsV t).set i (.bool true) = boolsV (t.set i true) := by simp [boolsV, List.map_set]
      rw [hbs] at hO7
      have hne := hFG2 (sb aS) (by omega)
      refine nextC.normal ⟨(i + 1, t.set i true), by dsimp only; omega, envs, by dsimp only; omega, hn6, by dsimp only; rw [List.length_set]; exact htl, fun k hk => ?_, hO7, D4.sets (by omega) hne.1 hne.2, hOw.setsN (hOw.at'.imp id (by omega))⟩
      dsimp only at hk ⊢
      by_cases e : k = i
      · subst e; simp [List.getD, htl, hlt6]
      · have := htt k (by omega)
        simp only [List.getD] at this ⊢
        rw [List.getElem?_set_ne (by omega)]; exact this
    · have htr : t = List.replicate was.length true := by
        apply List.ext_getElem (by simp [htl])
        intro k h1 h2
        have := htt k (by omega)
        simpa [List.getD, h1] using this
      subst htr
      have hFs2 : aS ≠ none → ¬ F2 (sb aS) ∧ ¬ G2 (sb aS) := fun q => hFG2 _ (hOs.at'.resolve_left q).1
      have hlt := D4.dk.lt
      have hle6 := D4.le
      repeat' (first | refine stpS ?_ | (refine stp2 ?_ ?_ <;> intro _))
      refine RC.loop ?_
      refine RL.inv (α := Nat × DS × (Nat → Prop) × (Nat → Prop) × List Bool × Nat) (fun s => [(68, .int .i64 (s.1 : Nat)), (67, .int .i64 L2.length), (66, .slice a2 L2.length L2.length), (14, .int .i64 (s.2.2.2.2.2 : Nat)), (12, .slice aS was.length was.length), (10, .slice aw was.length was.length), (2, .slice a3 ks.length ks.length), (7, .pointer (some ⟨d, 0, none⟩))])
        (fun s n7 h7 => s.1 ≤ L2.length ∧ n6 ≤ n7 ∧ SureInv was s.2.1 s.2.2.2.2.1 s.2.2.2.2.2 ∧ s.2.1.calls ≤ (L1.length : Int) + 1 + s.1 ∧ s.2.1.ps.length ≤ L1.length * m1 + s.1 * m2 ∧ DL n h n7 h7 d s.2.2.1 s.2.2.2.1 s.2.1 ∧
          OwnSl h7 n5 (n5 + 1) aS 1 was.length (boolsV s.2.2.2.2.1) ∧ OwnSl h7 n4 n5 aw 1 was.length (bytesV was) ∧ (aS ≠ none → ¬ s.2.2.1 (sb aS) ∧ ¬ s.2.2.2.1 (sb aS)) ∧ (aw ≠ none → ¬ s.2.2.1 (sb aw))) (fun s => L2.length - s.1)
        (0, S2, F2, G2, List.replicate was.length true, was.length) envs ⟨by omega, Nat.le_refl _, I0, by dsimp only; omega, by dsimp only; omega, D4, hOs, hOw, hFs2, hFw⟩ ?_
      clear hFs2 hlt hle6 D4 hOw hOs hFw hr hrd D3 hlt1 I0 hFG2 hps2 hcl2 hnow2
      rintro ⟨i, S, F3, G3, t, least⟩ n7 h7 ⟨hi, hn7, I, hcl, hps, D4, hOs, hOw, hFs, hFw⟩
      dsimp only at hi I hcl hps D4 hOs hOw hFs hFw ⊢
      have hlt := D4.dk.lt
      have hle7 := D4.le
      by_cases hlt7 : i < L2.length
      · obtain ⟨x, hx⟩ : ∃ x, L2[i]? = some x := ⟨L2[i], by simp [hlt7]⟩
        have B := B2.ext D4.ext D4.le
        obtain ⟨⟨c0, c1, c2, c3, c4, c5⟩, ok⟩ := B.at_ i x hx
        obtain ⟨-, ok0⟩ := B2.at_ i x hx
        have hA := B.shp.sla
        have hba := B.shp.lt (by omega)
        have him : (i + 1) * m2 ≤ L2.length * m2 := Nat.mul_le_mul_right _ (by omega)
        rw [Nat.succ_mul] at him
        have hdl := ok.dl
        have D5 := D4.step (Nat.le_succ n7) (h' := (h7.app (.new n7 ⟨6, 0, true, 0⟩ [.int .i64 0, .int .i64 0, .int .i64 0, .int .i64 0, .slice none 0 0, .slice none 0 0])).app (.sets n7 0 x.cells)) ext
        have hOs5 := hOs.ext (h1 := (h7.app (.new n7 ⟨6, 0, true, 0⟩ [.int .i64 0, .int .i64 0, .int .i64 0, .int .i64 0, .slice none 0 0, .slice none 0 0])).app (.sets n7 0 x.cells)) ext (Nat.le_refl _)
        have hOw5 := hOw.ext (h1 := (h7.app (.new n7 ⟨6, 0, true, 0⟩ [.int .i64 0, .int .i64 0, .int .i64 0, .int .i64 0, .slice none 0 0, .slice none 0 0])).app (.sets n7 0 x.cells)) ext (Nat.le_refl _)
        have hb7 : ¬ F3 n7 := fun k => by have := D4.dk.ltF _ k; omega
        by_cases hdo : x.do_ = 1
        · repeat' (first | refine stpS ?_ | (refine stp2 ?_ ?_ <;> intro _))
          refine RS.call rfl opds (truncate_dk D5.dk (by omega) (by omega) x.file x.at_) (fun b => D5.W b) ?_
          rintro r n8 h8 hle8 ⟨rfl, to⟩
          obtain ⟨F4, G4, D6, hF4, hG4, e4⟩ := D5.to hle8 to
          have hOs6 := hOs5.extW e4 (Nat.le_refl _) (by omega) (fun q => (hFs q).1)
          have hOw6 := hOw5.extW e4 (Nat.le_refl _) (by omega) hFw
          have hFs6 : aS ≠ none → ¬ F4 (sb aS) ∧ ¬ G4 (sb aS) := fun q => by
            have hb := hOs.at'.resolve_left q
            exact ⟨fun k => (hFs q).1 (hF4 _ (by omega) k), fun k => (hFs q).2 (hG4 _ (by omega) k)⟩
          have hFw6 : aw ≠ none → ¬ F4 (sb aw) := fun q k => by
            have hb := hOw.at'.resolve_left q
            exact hFw q (hF4 _ (by omega) k)
          have b1 : h8.cell n7 1 = .int .i64 x.file := c_extW e4 (by omega) hb7 cell
          have b2 : h8.cell n7 2 = .int .i64 x.at_ := c_extW e4 (by omega) hb7 cell
          clear D5 hOs5 hOw5 hF4 hG4 e4 to
          rcases truncate_cases S x.file x.at_ I.fuse with ⟨e, he, k⟩ | ⟨i', k', hxf, hxa, hi', hd, hk, k⟩
          · rw [k] at D6 ⊢
            dsimp only at D6 ⊢
            repeat' (first | refine stpS ?_ | (refine stp2 ?_ ?_ <;> intro _))
            refine nextC.normal ⟨(i + 1, S, F4, G4, t, least), by dsimp only; omega, envs, by dsimp only; omega, by omega, I, by dsimp only; omega, by dsimp only; rw [Nat.succ_mul]; omega, D6, hOs6, hOw6, hFs6, hFw6⟩
          · rw [k] at D6 ⊢
            dsimp only at D6 ⊢
            have hl2 : (S.done ⟨i', true, k', []⟩).ps.length = S.ps.length + 1 := by simp [DS.done]
            by_cases h0 : i' = 0
            · have I2 := I.cut (l2 := min least k') (i := i') (k := k') (by omega) (fun _ => by omega)
              have e90 : min (least : Int) x.at_ = ((min least k' : Nat) : Int) := by omega
              repeat' (first | refine stpS ?_ | (refine stp2 ?_ ?_ <;> intro _))
              rw [e90]
              refine nextC.normal ⟨(i + 1, _, F4, G4, t, min least k'), by dsimp only; omega, envs, by dsimp only; omega, by omega, I2, by dsimp only; omega, by dsimp only; rw [hl2, Nat.succ_mul]; omega, D6, hOs6, hOw6, hFs6, hFw6⟩
            · have I2 := I.cut (l2 := least) (i := i') (k := k') (by omega) (fun q => absurd q h0)
              repeat' (first | refine stpS ?_ | (refine stp2 ?_ ?_ <;> intro _))
              refine nextC.normal ⟨(i + 1, _, F4, G4, t, least), by dsimp only; omega, envs, by dsimp only; omega, by omega, I2, by dsimp only; omega, by dsimp only; rw [hl2, Nat.succ_mul]; omega, D6, hOs6, hOw6, hFs6, hFw6⟩
        · repeat' (first | refine stpS ?_ | (refine stp2 ?_ ?_ <;> intro _))
          refine RS.call rfl opds (write_dk D5.dk x.file x.at_ ok.at_.2 (ok0.data.ext D5.ext D5.le) (D5.arg ok0.data) (by omega) (by omega)) (fun b => D5.W b) ?_
          rintro r n8 h8 hle8 ⟨rfl, to⟩
          obtain ⟨F4, G4, D6, hF4, hG4, e4⟩ := D5.to hle8 to
          have hOs6 := hOs5.extW e4 (Nat.le_refl _) (by omega) (fun q => (hFs q).1)
          have hOw6 := hOw5.extW e4 (Nat.le_refl _) (by omega) hFw
          have hFs6 : aS ≠ none → ¬ F4 (sb aS) ∧ ¬ G4 (sb aS) := fun q => by
            have hb := hOs.at'.resolve_left q
            exact ⟨fun k => (hFs q).1 (hF4 _ (by omega) k), fun k => (hFs q).2 (hG4 _ (by omega) k)⟩
          have hFw6 : aw ≠ none → ¬ F4 (sb aw) := fun q k => by
            have hb := hOw.at'.resolve_left q
            exact hFw q (hF4 _ (by omega) k)
          have b1 : h8.cell n7 1 = .int .i64 x.file := c_extW e4 (by omega) hb7 cell
          have b2 : h8.cell n7 2 = .int .i64 x.at_ := c_extW e4 (by omega) hb7 cell
          have b4 : h8.cell n7 4 = .slice x.da x.data.length x.data.length := c_extW e4 (by omega) hb7 cell
          have hlt8 := D6.dk.lt
          clear D5 hOs5 hOw5 hF4 hG4 e4 to
          rcases write_cases S x.file x.at_ x.data I.fuse with ⟨e, he, k⟩ | ⟨i', p, hxf, hxa, hi', hd, hk, k⟩
          · rw [k] at D6 ⊢
            dsimp only at D6 ⊢
            repeat' (first | refine stpS ?_ | (refine stp2 ?_ ?_ <;> intro _))
            refine nextC.normal ⟨(i + 1, S, F4, G4, t, least), by dsimp only; omega, envs, by dsimp only; omega, by omega, I, by dsimp only; omega, by dsimp only; rw [Nat.succ_mul]; omega, D6, hOs6, hOw6, hFs6, hFw6⟩
          · rw [k] at D6 ⊢
            dsimp only at D6 ⊢
            have hl2 := writes_len S i' p x.data
            by_cases h0 : i' = 0
            · have hk' : 0 < x.data.length → p + x.data.length ≤ 4194304 := fun q => hk (List.length_pos_iff.1 q)
              repeat' (first | refine stpS ?_ | (refine stp2 ?_ ?_ <;> intro _))
              refine RC.loop ?_
              refine RL.inv (α := Nat × List Bool) (fun s => [(108, .int .i64 (s.1 : Nat)), (107, .int .i64 x.data.length), (16, .pointer (some ⟨n7, 0, none⟩)), (68, .int .i64 (i : Nat)), (67, .int .i64 L2.length), (66, .slice a2 L2.length L2.length), (14, .int .i64 (least : Nat)), (12, .slice aS was.length was.length), (10, .slice aw was.length was.length), (2, .slice a3 ks.length ks.length), (7, .pointer (some ⟨d, 0, none⟩))])
                (fun s n9 h9 => s.1 ≤ x.data.length ∧ n8 ≤ n9 ∧ s.2.length = was.length ∧ (∀ k, s.2.getD k false = true → t.getD k false = true ∧ ¬ (p ≤ k ∧ k < p + s.1)) ∧ h9.cell n7 2 = .int .i64 x.at_ ∧ DL n h n9 h9 d F4 G4 { S.writes i' p x.data with calls := S.calls + 1 } ∧
                  OwnSl h9 n5 (n5 + 1) aS 1 was.length (boolsV s.2) ∧ OwnSl h9 n4 n5 aw 1 was.length (bytesV was)) (fun s => x.data.length - s.1) (0, t) envs ⟨by omega, Nat.le_refl _, I.len, fun k q => ⟨q, by dsimp only; omega⟩, b2, D6, hOs6, hOw6⟩ ?_
              clear D6 hOs6 hOw6 b1 b2 b4 hlt8 hlt hOs hOw hFs hFw c0 c1 c2 c3 c4 c5 B hA hba D4
              rintro ⟨j, t2⟩ n9 h9 ⟨hj, hn9, ht2, htt, b2, D6, hOs6, hOw6⟩
              dsimp only at hj ht2 htt hOs6 ⊢
              have hlt9 := D6.dk.lt
              by_cases hltj : j < x.data.length
              · by_cases hin : p + j < was.length
                · obtain ⟨ho, hlo, hhi, hI, hA, hC⟩ := hOs6.facts (by omega)
                  have hSt : SlT h9 (n5 + 1) aS t2 := hOs6.slt
                  have hpj : x.at_ + (j : Int) = ((p + j : Nat) : Int) := by omega
                  have hFs9 := hFs6 (OwnSl.ne hOs6 (by omega))
                  repeat' (first | refine stpS ?_ | (refine stp2 ?_ ?_ <;> intro _))
                  rw [hpj, Int.toNat_natCast]
                  have hO9 := hOs6.set1 (i := p + j) (v := .bool false) (by omega) rfl
                  have hbs : (boolsV t2).set (p + j) (.bool false) = boolsV (t2.set (p + j) false) := by simp [boolsV, List.map_set]
                  rw [hbs] at hO9
                  refine nextC.normal ⟨(j + 1, t2.set (p + j) false), by dsimp only; omega, envs, by dsimp only; omega, hn9, by dsimp only; rw [List.length_set]; exact ht2, fun k hk => ?_, c_out (.inl (by omega)) b2, D6.sets (by omega) hFs9.1 hFs9.2, hO9, hOw6.setsN (hOw6.at'.imp id (by omega))⟩
                  dsimp only at hk ⊢
                  by_cases e : k = p + j
                  · subst e; simp [List.getD, ht2, hin] at hk
                  · have : t2.getD k false = true := by
                      simp only [List.getD] at hk ⊢
                      rw [List.getElem?_set_ne (by omega)] at hk; exact hk
                    have := htt k this
                    exact ⟨this.1, by omega⟩
                · repeat' (first | refine stpS ?_ | (refine stp2 ?_ ?_ <;> intro _))
                  refine nextC.normal ⟨(j + 1, t2), by dsimp only; omega, envs, by dsimp only; omega, hn9, ht2, fun k hk => ?_, b2, D6, hOs6, hOw6⟩
                  have hkl : k < was.length := by
                    refine Classical.byContradiction fun q => ?_
                    simp [List.getD, List.getElem?_eq_none (show t2.length ≤ k by omega)] at hk
                  have := htt k hk
                  exact ⟨this.1, by dsimp only; omega⟩
              · have hje : j = x.data.length := by omega
                subst hje
                have I2 := I.write (t2 := t2) (i := i') (p := p) (b := x.data) (by rw [ht2, I.len]) (fun k q => (htt k q).1) (fun _ k q1 q2 => by
                  cases e : t2.getD k false
                  · rfl
                  · exact absurd ⟨q1, q2⟩ (htt k e).2)
                repeat' (first | refine stpS ?_ | (refine stp2 ?_ ?_ <;> intro _))
                refine nextC.normal ⟨(i + 1, _, F4, G4, t2, least), by dsimp only; omega, envs, by dsimp only; omega, by omega, I2, by dsimp only; omega, by dsimp only; rw [Nat.succ_mul]; omega, D6, hOs6, hOw6, hFs6, hFw6⟩
            · have I2 := I.write (t2 := t) (i := i') (p := p) (b := x.data) rfl (fun _ h => h) (fun q => absurd q h0)
              repeat' (first | refine stpS ?_ | (refine stp2 ?_ ?_ <;> intro _))
              refine nextC.normal ⟨(i + 1, _, F4, G4, t, least), by dsimp only; omega, envs, by dsimp only; omega, by omega, I2, by dsimp only; omega, by dsimp only; rw [Nat.succ_mul]; omega, D6, hOs6, hOw6, hFs6, hFw6⟩
      · have hi' : i = L2.length := by omega
        subst hi'
        have hc := crash_dk D4.dk (by omega) (by omega) (S3.ext D4.ext D4.le) (D4.argT S3)
        have he : S.crash ks = (0, S.lose ks) := by rw [DS.crash, if_neg (by rw [I.down]; simp)]
        rw [he] at hc
        dsimp only at hc
        repeat' (first | refine stpS ?_ | (refine stp2 ?_ ?_ <;> intro _))
        refine RS.call rfl opds hc (fun b => D4.W b) ?_
        rintro r n8 h8 hle8 ⟨rfl, to⟩
        obtain ⟨F4, G4, D5, hF4, hG4, e4⟩ := D4.to hle8 to
        have hOs5 := hOs.extW e4 (Nat.le_refl _) (by omega) (fun q => (hFs q).1)
        have hOw5 := hOw.extW e4 (Nat.le_refl _) (by omega) hFw
        have hFs5 : aS ≠ none → ¬ F4 (sb aS) := fun q k => by
          have hb := hOs.at'.resolve_left q
          exact (hFs q).1 (hF4 _ (by omega) k)
        have hFw5 : aw ≠ none → ¬ F4 (sb aw) := fun q k => by
          have hb := hOw.at'.resolve_left q
          exact hFw q (hF4 _ (by omega) k)
        have hlt8 := D5.dk.lt
        repeat' (first | refine stpS ?_ | (refine stp2 ?_ ?_ <;> intro _))
        refine RS.call rfl opds (restart_dk D5.dk) (fun b => D5.W b) ?_
        rintro r n9 h9 hle9 ⟨rfl, to⟩
        obtain ⟨F5, G5, D6, hF5, hG5, e5⟩ := D5.to hle9 to
        have hOs6 := hOs5.extW e5 (Nat.le_refl _) (by omega) hFs5
        have hOw6 := hOw5.extW e5 (Nat.le_refl _) (by omega) hFw5
        clear D4 D5 hOs5 hOw5 hc hOs hOw
        have hkp : keptOk was t least (loseP S.sure S.ps ks 0) := keptOk.lose ⟨by rw [I.sure]; exact I.le, fun _ _ _ => by rw [I.sure]⟩ I.ps
        have hnl : ((S.lose ks).restart.now 0).length ≤ 4194304 := D6.dk.ok.now 0
        have hrd : (S.lose ks).restart.read 0 0 4194304 = (0, (S.lose ks).restart.now 0) := by
          have h2 := read_zero (S := (S.lose ks).restart) (i := 0) (at_ := 0) (k := 4194304) rfl (by omega)
          rw [List.drop_zero, List.take_of_length_le hnl] at h2
          exact h2
        have hnw : (S.lose ks).restart.now 0 = loseP S.sure S.ps ks 0 := rfl
        rw [hnw] at hrd hnl
        generalize (S.lose ks).restart = S6 at *
        generalize loseP S.sure S.ps ks 0 = nw at *
        have hr := read_dk D6.dk 0 0 4194304
        rw [hrd] at hr
        dsimp only at hr
        have hlt9 := D6.dk.lt
        have hkl := hkp.1
        repeat' (first | refine stpS ?_ | (refine stp2 ?_ ?_ <;> intro _))
        refine RS.call rfl opds hr none'W ?_
        rintro r n10 h10 hle10 ⟨an, rfl, e10, hOn⟩
        have hOs7 := hOs6.ext (n1 := n10) (Ext.mono e10 (by omega)) (by omega)
        have hOw7 := hOw6.ext (n1 := n10) (Ext.mono e10 (by omega)) (by omega)
        repeat' (first | refine stpS ?_ | (refine stp2 ?_ ?_ <;> intro _))
        refine RC.loop ?_
        refine RL.inv (α := Nat) (fun s => [(147, .int .i64 (s : Nat)), (146, .int .i64 least), (12, .slice aS was.length was.length), (10, .slice aw was.length was.length), (19, .slice an nw.length nw.length)])
          (fun s n11 h11 => s ≤ least ∧ n10 ≤ n11 ∧ h11 = h10) (fun s => least - s) 0 envs ⟨by omega, Nat.le_refl _, rfl⟩ ?_
        rintro i n11 h11 ⟨hi, hn11, rfl⟩
        by_cases hlt11 : i < least
        · have hle := I.le
          have htl := I.len
          have hSt : SlT h11 n11 aS t := hOs7.slt.ext (Ext.refl _ _) hn11
          have hSw : SlB h11 n11 aw was := hOw7.slbE.ext (Ext.refl _ _) hn11
          have hSn : SlB h11 n11 an nw := hOn.slbE.ext (Ext.refl _ _) hn11
          have hA1 : SlA aS was.length := by rw [← htl]; exact hSt.sla
          have hA2 : SlA aw was.length := hSw.sla
          have hA3 : SlA an nw.length := hSn.sla
          have hb1 : sb aS < n11 := hSt.lt (by omega)
          have hb2 : sb aw < n11 := hSw.lt (by omega)
          have hb3 : sb an < n11 := hSn.lt (by omega)
          have d1 : h11.cell (sb aS) (so aS + i) = .bool (t.getD i false) := (hSt.cell i (by omega)).trans (by simp [boolsF])
          have d2 : h11.cell (sb aw) (so aw + i) = .int .u8 ((was.getD i 0).toNat : Nat) := (hSw.cell i (by omega)).trans (by simp [bytesF])
          have d3 : h11.cell (sb an) (so an + i) = .int .u8 ((nw.getD i 0).toNat : Nat) := (hSn.cell i (by omega)).trans (by simp [bytesF])
          clear hSt hSw hSn
          cases ht : t.getD i false
          · rw [ht] at d1
            repeat' (first | refine stp ?_ | (refine stp2 ?_ ?_ <;> intro _))
            refine nextC.normal ⟨i + 1, by omega, envs, by omega, hn11, rfl⟩
          · have hv := hkp.2 i hlt11 ht
            rw [ht] at d1
            rw [hv] at d3
            repeat' (first | refine stp ?_ | (refine stp2 ?_ ?_ <;> intro _))
            refine nextC.normal ⟨i + 1, by omega, envs, by omega, hn11, rfl⟩
        · repeat' (first | refine stpS ?_ | (refine stp2 ?_ ?_ <;> intro _))
          rfl
end Go.Proofs.Ytchfnjfmlhacfaa
