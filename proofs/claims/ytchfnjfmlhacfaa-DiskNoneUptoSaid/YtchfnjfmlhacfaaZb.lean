/- The disk and the document's, side by side: one step of a script. -/
import Derived.Test.YtchfnjfmlhacfaaZa
namespace Go.Proofs.Ytchfnjfmlhacfaa
open Go.Abs

/-- What an operation of a script makes of a disk. -/
def DS.op (S : DS) (x : OpE) : DS :=
  if x.do_ = 0 then (S.write x.file x.at_ x.data).2 else if x.do_ = 1 then (S.truncate x.file x.at_).2 else if x.do_ = 2 then (S.sync x.file).2 else if x.do_ = 4 then (S.crash x.keep).2 else if x.do_ = 5 then (S.setFuse x.n x.keep).2 else if x.do_ = 6 then S.restart else S
section
variable {h h0 h1 h2 h3 h' : AH} {n n0 n1 n2 n3 n' d r : Nat} {F G F1 G1 F2 G2 F3 G3 F4 G4 : Nat → Prop} {S S1 S2 S' : DS}
theorem ends_len (S : DS) : S.ends.2.ps.length ≤ S.ps.length ∧ S.ends.2.calls = S.calls + 1 := by
  unfold DS.ends
  split
  · exact ⟨Nat.le_refl _, rfl⟩
  · split
    · exact ⟨Nat.le_refl _, rfl⟩
    · exact ⟨Nat.zero_le _, rfl⟩
theorem op_bound (S : DS) (x : OpE) {m : Nat} (hm : 1 ≤ m) (hx : x.data.length ≤ m) : (S.op x).ps.length ≤ S.ps.length + m ∧ (S.op x).calls ≤ S.calls + 1 := by
  unfold DS.op
  split
  · unfold DS.write
    split
    · dsimp only; omega
    · split
      · dsimp only; omega
      · have := ends_len (S.writes x.file.toNat x.at_.toNat x.data)
        have h2 := writes_len S x.file.toNat x.at_.toNat x.data
        have h3 : (S.writes x.file.toNat x.at_.toNat x.data).calls = S.calls := rfl
        omega
  · split
    · unfold DS.truncate
      split
      · dsimp only; omega
      · split
        · dsimp only; omega
        · have := ends_len (S.done ⟨x.file.toNat, true, x.at_.toNat, []⟩)
          have h2 : (S.done ⟨x.file.toNat, true, x.at_.toNat, []⟩).ps.length = S.ps.length + 1 := by simp [DS.done]
          have h3 : (S.done ⟨x.file.toNat, true, x.at_.toNat, []⟩).calls = S.calls := rfl
          omega
    · split
      · unfold DS.sync
        have := ends_len S
        split
        · dsimp only; omega
        · split
          · omega
          · have h2 : (S.ends.2.synced x.file.toNat).ps.length ≤ S.ends.2.ps.length := List.length_filter_le _ _
            have h3 : (S.ends.2.synced x.file.toNat).calls = S.ends.2.calls := rfl
            dsimp only; omega
      · split
        · unfold DS.crash
          split
          · dsimp only; omega
          · show 0 ≤ _ ∧ S.calls ≤ _
            omega
        · split
          · unfold DS.setFuse
            split
            · dsimp only; omega
            · show S.ps.length ≤ _ ∧ S.calls ≤ _
              omega
          · split
            · show S.ps.length ≤ _ ∧ S.calls ≤ _
              omega
            · omega
theorem ext_two {hb hb2 : AH} (e0 : Ext n h h0) (eb : Ext (n + 1) h0 hb) (e2 : ExtW F1 (n + 1) hb h2) (hn2 : n + 1 ≤ n2) (eb2 : Ext n2 h2 hb2) (e3 : ExtW F2 n2 hb2 h3) : ExtW (fun b => F1 b ∨ F2 b) n h h3 :=
  ⟨fun b hb' hw => (e3.info b (by omega) (fun k => hw (.inr k))).trans ((eb2.info b (by omega)).trans ((e2.info b (by omega) (fun k => hw (.inl k))).trans ((eb.info b (by omega)).trans (e0.info b hb')))),
   fun b i hb' hw => (e3.cell b i (by omega) (fun k => hw (.inr k))).trans ((eb2.cell b i (by omega)).trans ((e2.cell b i (by omega) (fun k => hw (.inl k))).trans ((eb.cell b i (by omega)).trans (e0.cell b i hb'))))⟩
set_option maxHeartbeats 4000000 in
theorem step_rf {m : Nat} (D : PQ h n d F1 G1 S r F2 G2 S) (x : OpE) (ok : x.Ok h n m) (hda : x.da ≠ none → ¬ F1 (sb x.da) ∧ ¬ F2 (sb x.da)) (hka : x.ka ≠ none → ¬ F1 (sb x.ka) ∧ ¬ F2 (sb x.ka)) (hm : m ≤ 1048576) (h1m : 1 ≤ m)
    (hps : S.ps.length + m ≤ 1099511627000) (hcl : S.calls < 4611686018427387904) :
    RF Try.prog (fun b => F1 b ∨ F2 b) 25 #[.pointer (some ⟨d, 0, none⟩), .pointer (some ⟨r, 0, none⟩), .agg x.cells.toArray] n h (fun v n' h' => ∃ d', v = .tuple #[.pointer (some ⟨d', 0, none⟩), .bool true] ∧ PTo n r F1 G1 F2 G2 h (S.op x) d' n' h' ∧ (x.do_ ≠ 7 → d' = d)) := by
  refine RF.of Try.func25 rfl rfl (Nat.le_of_ble_eq_true rfl) ?_; dsimp only [argEnv]
  have hlt1 := D.a.lt
  have hlt2 := D.b.lt
  have hdl := ok.dl
  have hkl := ok.kl
  have hE0 : Ext n h (h.app (.new n ⟨6, 0, true, 0⟩ x.cells)) := ext
  have D0 := D.step (Nat.le_succ n) hE0
  have ok0 := ok.ext hE0 (Nat.le_succ n)
  have hb1 : ¬ F1 n := fun k => by have := D.a.ltF _ k; omega
  have hb2 : ¬ F2 n := fun k => by have := D.b.ltF _ k; omega
  have hl1 : ∀ b, F1 b → b < n + 1 := fun b k => Nat.lt_succ_of_lt (D.a.ltF b k)
  by_cases e0 : x.do_ = 0
  · have hop : S.op x = (S.write x.file x.at_ x.data).2 := by unfold DS.op; rw [if_pos e0]
    rw [hop]
    repeat' (first | refine stpS ?_ | (refine stp2 ?_ ?_ <;> intro _))
    repeat' (first | refine stp ?_ | (refine stp2 ?_ ?_ <;> intro _))
    have Db := D0.step (Nat.le_refl _) (AH.below_ext (h.app (.new n ⟨6, 0, true, 0⟩ x.cells)) (n + 1))
    have okb := ok0.ext (AH.below_ext (h.app (.new n ⟨6, 0, true, 0⟩ x.cells)) (n + 1)) (Nat.le_refl _)
    refine RD.callW (n + 1) rfl opds (write_dk Db.a x.file x.at_ ok.at_.2 okb.data (fun q => (hda q).1) (by omega) hcl) (fun b hb => .inl (.inl hb)) (Nat.le_refl _) cfw ?_
    rintro v n2 h2 hle2 ⟨rfl, to⟩
    obtain ⟨F3, G3, D2, hF3, hG3, x2⟩ := Db.one hle2 to
    have b1 : h2.cell n 1 = .int .i64 x.file := c_extW x2 (by omega) hb1 (c_ext (AH.below_ext _ _) (by omega) cell)
    have b2 : h2.cell n 2 = .int .i64 x.at_ := c_extW x2 (by omega) hb1 (c_ext (AH.below_ext _ _) (by omega) cell)
    have b4 : h2.cell n 4 = .slice x.da x.data.length x.data.length := c_extW x2 (by omega) hb1 (c_ext (AH.below_ext _ _) (by omega) cell)
    have hl2 : ∀ b, F2 b → b < n2 := D2.b.ltF
    have Dc := D2.step (Nat.le_refl _) (AH.below_ext h2 n2)
    have okd : x.data.length = x.data.length → SlB (h2.below n2) n2 x.da x.data := fun _ => ((okb.data.extW x2 hle2 (fun q => (hda q).1))).ext (AH.below_ext h2 n2) (Nat.le_refl _)
    have okk : x.keep.length = x.keep.length → SlT (h2.below n2) n2 x.ka x.keep := fun _ => ((okb.keep.extW x2 hle2 (fun q => (hka q).1))).ext (AH.below_ext h2 n2) (Nat.le_refl _)
    have hltd := D2.a.lt
    have hltr := D2.b.lt
    repeat' (first | refine stp ?_ | (refine stp2 ?_ ?_ <;> intro _))
    refine RD.callW n2 rfl opds (rwrite_rk Dc.b x.file x.at_ ok.at_.2 (okd rfl) (fun q => (hda q).2) (by omega) hcl) (fun b hb => .inl (.inr hb)) (Nat.le_refl _) cfw ?_
    rintro v n3 h3 hle3 ⟨rfl, to⟩
    obtain ⟨F4, G4, D3, hF4, hG4, x3⟩ := Dc.two hle3 to
    repeat' (first | refine stp ?_ | (refine stp2 ?_ ?_ <;> intro _))
    exact ⟨d, rfl, ⟨F3, G3, F4, G4, D3, fun b hb => hF3 b (by omega), fun b hb => hG3 b (by omega), fun b hb => hF4 b (by omega), fun b hb => hG4 b (by omega), ext_two hE0 (AH.below_ext _ _) x2 hle2 (AH.below_ext _ _) x3⟩, fun _ => rfl⟩
  by_cases e1 : x.do_ = 1
  · have hop : S.op x = (S.truncate x.file x.at_).2 := by unfold DS.op; rw [if_neg e0, if_pos e1]
    rw [hop]
    repeat' (first | refine stpS ?_ | (refine stp2 ?_ ?_ <;> intro _))
    repeat' (first | refine stp ?_ | (refine stp2 ?_ ?_ <;> intro _))
    have Db := D0.step (Nat.le_refl _) (AH.below_ext (h.app (.new n ⟨6, 0, true, 0⟩ x.cells)) (n + 1))
    have okb := ok0.ext (AH.below_ext (h.app (.new n ⟨6, 0, true, 0⟩ x.cells)) (n + 1)) (Nat.le_refl _)
    refine RD.callW (n + 1) rfl opds (truncate_dk Db.a (by omega) hcl x.file x.at_) (fun b hb => .inl (.inl hb)) (Nat.le_refl _) cfw ?_
    rintro v n2 h2 hle2 ⟨rfl, to⟩
    obtain ⟨F3, G3, D2, hF3, hG3, x2⟩ := Db.one hle2 to
    have b1 : h2.cell n 1 = .int .i64 x.file := c_extW x2 (by omega) hb1 (c_ext (AH.below_ext _ _) (by omega) cell)
    have b2 : h2.cell n 2 = .int .i64 x.at_ := c_extW x2 (by omega) hb1 (c_ext (AH.below_ext _ _) (by omega) cell)
    have hl2 : ∀ b, F2 b → b < n2 := D2.b.ltF
    have Dc := D2.step (Nat.le_refl _) (AH.below_ext h2 n2)
    have okd : x.data.length = x.data.length → SlB (h2.below n2) n2 x.da x.data := fun _ => ((okb.data.extW x2 hle2 (fun q => (hda q).1))).ext (AH.below_ext h2 n2) (Nat.le_refl _)
    have okk : x.keep.length = x.keep.length → SlT (h2.below n2) n2 x.ka x.keep := fun _ => ((okb.keep.extW x2 hle2 (fun q => (hka q).1))).ext (AH.below_ext h2 n2) (Nat.le_refl _)
    have hltd := D2.a.lt
    have hltr := D2.b.lt
    repeat' (first | refine stp ?_ | (refine stp2 ?_ ?_ <;> intro _))
    refine RD.callW n2 rfl opds (rtruncate_rk Dc.b (by omega) hcl x.file x.at_ ok.at_.2) (fun b hb => .inl (.inr hb)) (Nat.le_refl _) cfw ?_
    rintro v n3 h3 hle3 ⟨rfl, to⟩
    obtain ⟨F4, G4, D3, hF4, hG4, x3⟩ := Dc.two hle3 to
    repeat' (first | refine stp ?_ | (refine stp2 ?_ ?_ <;> intro _))
    exact ⟨d, rfl, ⟨F3, G3, F4, G4, D3, fun b hb => hF3 b (by omega), fun b hb => hG3 b (by omega), fun b hb => hF4 b (by omega), fun b hb => hG4 b (by omega), ext_two hE0 (AH.below_ext _ _) x2 hle2 (AH.below_ext _ _) x3⟩, fun _ => rfl⟩
  by_cases e2 : x.do_ = 2
  · have hop : S.op x = (S.sync x.file).2 := by unfold DS.op; rw [if_neg e0, if_neg e1, if_pos e2]
    rw [hop]
    repeat' (first | refine stpS ?_ | (refine stp2 ?_ ?_ <;> intro _))
    repeat' (first | refine stp ?_ | (refine stp2 ?_ ?_ <;> intro _))
    have Db := D0.step (Nat.le_refl _) (AH.below_ext (h.app (.new n ⟨6, 0, true, 0⟩ x.cells)) (n + 1))
    have okb := ok0.ext (AH.below_ext (h.app (.new n ⟨6, 0, true, 0⟩ x.cells)) (n + 1)) (Nat.le_refl _)
    refine RD.callW (n + 1) rfl opds (sync_dk Db.a (by omega) hcl x.file) (fun b hb => .inl (.inl hb)) (Nat.le_refl _) cfw ?_
    rintro v n2 h2 hle2 ⟨rfl, to⟩
    obtain ⟨F3, G3, D2, hF3, hG3, x2⟩ := Db.one hle2 to
    have b1 : h2.cell n 1 = .int .i64 x.file := c_extW x2 (by omega) hb1 (c_ext (AH.below_ext _ _) (by omega) cell)
    have hl2 : ∀ b, F2 b → b < n2 := D2.b.ltF
    have Dc := D2.step (Nat.le_refl _) (AH.below_ext h2 n2)
    have okd : x.data.length = x.data.length → SlB (h2.below n2) n2 x.da x.data := fun _ => ((okb.data.extW x2 hle2 (fun q => (hda q).1))).ext (AH.below_ext h2 n2) (Nat.le_refl _)
    have okk : x.keep.length = x.keep.length → SlT (h2.below n2) n2 x.ka x.keep := fun _ => ((okb.keep.extW x2 hle2 (fun q => (hka q).1))).ext (AH.below_ext h2 n2) (Nat.le_refl _)
    have hltd := D2.a.lt
    have hltr := D2.b.lt
    repeat' (first | refine stp ?_ | (refine stp2 ?_ ?_ <;> intro _))
    refine RD.callW n2 rfl opds (rsync_rk Dc.b (by omega) hcl x.file) (fun b hb => .inl (.inr hb)) (Nat.le_refl _) cfw ?_
    rintro v n3 h3 hle3 ⟨rfl, to⟩
    obtain ⟨F4, G4, D3, hF4, hG4, x3⟩ := Dc.two hle3 to
    repeat' (first | refine stp ?_ | (refine stp2 ?_ ?_ <;> intro _))
    exact ⟨d, rfl, ⟨F3, G3, F4, G4, D3, fun b hb => hF3 b (by omega), fun b hb => hG3 b (by omega), fun b hb => hF4 b (by omega), fun b hb => hG4 b (by omega), ext_two hE0 (AH.below_ext _ _) x2 hle2 (AH.below_ext _ _) x3⟩, fun _ => rfl⟩
  by_cases e4 : x.do_ = 4
  · have hop : S.op x = (S.crash x.keep).2 := by unfold DS.op; rw [if_neg e0, if_neg e1, if_neg e2, if_pos e4]
    rw [hop]
    repeat' (first | refine stpS ?_ | (refine stp2 ?_ ?_ <;> intro _))
    repeat' (first | refine stp ?_ | (refine stp2 ?_ ?_ <;> intro _))
    have Db := D0.step (Nat.le_refl _) (AH.below_ext (h.app (.new n ⟨6, 0, true, 0⟩ x.cells)) (n + 1))
    have okb := ok0.ext (AH.below_ext (h.app (.new n ⟨6, 0, true, 0⟩ x.cells)) (n + 1)) (Nat.le_refl _)
    refine RD.callW (n + 1) rfl opds (crash_dk Db.a (by omega) (by omega) okb.keep (fun q => (hka q).1)) (fun b hb => .inl (.inl hb)) (Nat.le_refl _) cfw ?_
    rintro v n2 h2 hle2 ⟨rfl, to⟩
    obtain ⟨F3, G3, D2, hF3, hG3, x2⟩ := Db.one hle2 to
    have b5 : h2.cell n 5 = .slice x.ka x.keep.length x.keep.length := c_extW x2 (by omega) hb1 (c_ext (AH.below_ext _ _) (by omega) cell)
    have hl2 : ∀ b, F2 b → b < n2 := D2.b.ltF
    have Dc := D2.step (Nat.le_refl _) (AH.below_ext h2 n2)
    have okd : x.data.length = x.data.length → SlB (h2.below n2) n2 x.da x.data := fun _ => ((okb.data.extW x2 hle2 (fun q => (hda q).1))).ext (AH.below_ext h2 n2) (Nat.le_refl _)
    have okk : x.keep.length = x.keep.length → SlT (h2.below n2) n2 x.ka x.keep := fun _ => ((okb.keep.extW x2 hle2 (fun q => (hka q).1))).ext (AH.below_ext h2 n2) (Nat.le_refl _)
    have hltd := D2.a.lt
    have hltr := D2.b.lt
    repeat' (first | refine stp ?_ | (refine stp2 ?_ ?_ <;> intro _))
    refine RD.callW n2 rfl opds (rcrash_rk Dc.b (by omega) (by omega) (okk rfl) (fun q => (hka q).2)) (fun b hb => .inl (.inr hb)) (Nat.le_refl _) cfw ?_
    rintro v n3 h3 hle3 ⟨rfl, to⟩
    obtain ⟨F4, G4, D3, hF4, hG4, x3⟩ := Dc.two hle3 to
    repeat' (first | refine stp ?_ | (refine stp2 ?_ ?_ <;> intro _))
    exact ⟨d, rfl, ⟨F3, G3, F4, G4, D3, fun b hb => hF3 b (by omega), fun b hb => hG3 b (by omega), fun b hb => hF4 b (by omega), fun b hb => hG4 b (by omega), ext_two hE0 (AH.below_ext _ _) x2 hle2 (AH.below_ext _ _) x3⟩, fun _ => rfl⟩
  by_cases e5 : x.do_ = 5
  · have hop : S.op x = (S.setFuse x.n x.keep).2 := by unfold DS.op; rw [if_neg e0, if_neg e1, if_neg e2, if_neg e4, if_pos e5]
    rw [hop]
    repeat' (first | refine stpS ?_ | (refine stp2 ?_ ?_ <;> intro _))
    repeat' (first | refine stp ?_ | (refine stp2 ?_ ?_ <;> intro _))
    have Db := D0.step (Nat.le_refl _) (AH.below_ext (h.app (.new n ⟨6, 0, true, 0⟩ x.cells)) (n + 1))
    have okb := ok0.ext (AH.below_ext (h.app (.new n ⟨6, 0, true, 0⟩ x.cells)) (n + 1)) (Nat.le_refl _)
    refine RD.callW (n + 1) rfl opds (setFuse_dk Db.a x.n ok.num.2 (by omega) okb.keep) (fun b hb => .inl (.inl hb)) (Nat.le_refl _) cfw ?_
    rintro v n2 h2 hle2 ⟨rfl, to⟩
    obtain ⟨F3, G3, D2, hF3, hG3, x2⟩ := Db.one hle2 to
    have b3 : h2.cell n 3 = .int .i64 x.n := c_extW x2 (by omega) hb1 (c_ext (AH.below_ext _ _) (by omega) cell)
    have b5 : h2.cell n 5 = .slice x.ka x.keep.length x.keep.length := c_extW x2 (by omega) hb1 (c_ext (AH.below_ext _ _) (by omega) cell)
    have hl2 : ∀ b, F2 b → b < n2 := D2.b.ltF
    have Dc := D2.step (Nat.le_refl _) (AH.below_ext h2 n2)
    have okd : x.data.length = x.data.length → SlB (h2.below n2) n2 x.da x.data := fun _ => ((okb.data.extW x2 hle2 (fun q => (hda q).1))).ext (AH.below_ext h2 n2) (Nat.le_refl _)
    have okk : x.keep.length = x.keep.length → SlT (h2.below n2) n2 x.ka x.keep := fun _ => ((okb.keep.extW x2 hle2 (fun q => (hka q).1))).ext (AH.below_ext h2 n2) (Nat.le_refl _)
    have hltd := D2.a.lt
    have hltr := D2.b.lt
    repeat' (first | refine stp ?_ | (refine stp2 ?_ ?_ <;> intro _))
    refine RD.callW n2 rfl opds (rsetFuse_rk Dc.b x.n ok.num.2 (by omega) (okk rfl) (fun q => (hka q).2)) (fun b hb => .inl (.inr hb)) (Nat.le_refl _) cfw ?_
    rintro v n3 h3 hle3 ⟨rfl, to⟩
    obtain ⟨F4, G4, D3, hF4, hG4, x3⟩ := Dc.two hle3 to
    repeat' (first | refine stp ?_ | (refine stp2 ?_ ?_ <;> intro _))
    exact ⟨d, rfl, ⟨F3, G3, F4, G4, D3, fun b hb => hF3 b (by omega), fun b hb => hG3 b (by omega), fun b hb => hF4 b (by omega), fun b hb => hG4 b (by omega), ext_two hE0 (AH.below_ext _ _) x2 hle2 (AH.below_ext _ _) x3⟩, fun _ => rfl⟩
  by_cases e6 : x.do_ = 6
  · have hop : S.op x = S.restart := by unfold DS.op; rw [if_neg e0, if_neg e1, if_neg e2, if_neg e4, if_neg e5, if_pos e6]
    rw [hop]
    repeat' (first | refine stpS ?_ | (refine stp2 ?_ ?_ <;> intro _))
    refine RS.call rfl opds (restart_dk D0.a) (fun b hb => .inl (.inl hb)) ?_
    rintro v n2 h2 hle2 ⟨rfl, to⟩
    obtain ⟨F3, G3, D2, hF3, hG3, x2⟩ := D0.one hle2 to
    have hltd := D2.a.lt
    have hltr := D2.b.lt
    repeat' (first | refine stpS ?_ | (refine stp2 ?_ ?_ <;> intro _))
    refine RS.call rfl opds (rrestart_rk D2.b) (fun b hb => .inl (.inr hb)) ?_
    rintro v n3 h3 hle3 ⟨rfl, to⟩
    obtain ⟨F4, G4, D3, hF4, hG4, x3⟩ := D2.two hle3 to
    repeat' (first | refine stpS ?_ | (refine stp2 ?_ ?_ <;> intro _))
    exact ⟨d, rfl, ⟨F3, G3, F4, G4, D3, fun b hb => hF3 b (by omega), fun b hb => hG3 b (by omega), fun b hb => hF4 b (by omega), fun b hb => hG4 b (by omega), ext_two hE0 (Ext.refl _ _) x2 hle2 (Ext.refl _ _) x3⟩, fun _ => rfl⟩
  have hop : S.op x = S := by unfold DS.op; rw [if_neg e0, if_neg e1, if_neg e2, if_neg e4, if_neg e5, if_neg e6]
  rw [hop]
  by_cases e7 : x.do_ = 7
  · repeat' (first | refine stpS ?_ | (refine stp2 ?_ ?_ <;> intro _))
    refine RS.call rfl opds (clone_dk D0.a (by omega)) none'W ?_
    rintro v n2 h2 hle2 ⟨c, Fc, Gc, rfl, Dc, hFc, hGc, x2⟩
    have D2 := D0.step hle2 x2
    have hsm := same_ev Dc D2.a
    rw [decide_eq_true ⟨rfl, rfl⟩] at hsm
    have b1 : h2.cell n 1 = .int .i64 x.file := c_ext x2 (by omega) cell
    have hltc := Dc.lt
    have hltd := D2.a.lt
    repeat' (first | refine stpS ?_ | (refine stp2 ?_ ?_ <;> intro _) | refine RS.call1 rfl opds (hsm) none'W ?_)
    have S3 : SlB (h2.app (.new n2 ⟨3, 0, true, 1⟩ (bytesV [1, 2, 3]))) (n2 + 1) (some ⟨n2, 0, none⟩) [1, 2, 3] := (OwnSl.new1 (h := h2) (n0 := n2) (m := 3) (Nat.le_refl n2) rfl rfl).slb
    have E3 : Ext n2 h2 (h2.app (.new n2 ⟨3, 0, true, 1⟩ (bytesV [1, 2, 3]))) := ext
    have D3 := D2.step (Nat.le_succ n2) E3
    have Dc3 := Dc.ext E3 (Nat.le_succ n2)
    refine RS.call rfl opds (write_dk D3.a x.file 0 (by omega) S3 (fun _ q => by have := D2.a.ltF _ q; exact Nat.lt_irrefl _ this) (by show S.ps.length + 3 ≤ _; omega) hcl) (fun b hb => .inl (.inl hb)) ?_
    rintro v n4 h4 hle4 ⟨rfl, to⟩
    obtain ⟨F4, G4, D4, hF4, hG4, x4⟩ := D3.one hle4 to
    have hFcF : ∀ b, Fc b → ¬ F1 b := fun b q k => by have := hFc b q; have := D.a.ltF b k; omega
    have hGcF : ∀ b, Gc b → ¬ F1 b := fun b q k => D.a.apart b k (hGc b q)
    have Dc4 := Dc3.extW x4 hle4 hFcF hGcF
    have hltc4 := Dc4.lt
    have hltd4 := D4.a.lt
    repeat' (first | refine stpS ?_ | (refine stp2 ?_ ?_ <;> intro _))
    have S5 : SlT (h4.app (.new n4 ⟨1, 0, true, 1⟩ [.bool true])) (n4 + 1) (some ⟨n4, 0, none⟩) [true] := OwnSl.slt (OwnSl.new1 (h := h4) (n0 := n4) (m := 1) (cs := boolsV [true]) (Nat.le_refl n4) rfl rfl)
    have E5 : Ext n4 h4 (h4.app (.new n4 ⟨1, 0, true, 1⟩ [.bool true])) := ext
    have D5 := D4.step (Nat.le_succ n4) E5
    have Dc5 := Dc4.ext E5 (Nat.le_succ n4)
    have hwl : (S.write x.file 0 [1, 2, 3]).2.ps.length ≤ 1099511627776 := by
      have q := (op_bound S ⟨0, x.file, 0, 0, none, [1, 2, 3], none, []⟩ (m := 3) (by omega) (by simp)).1
      rw [show S.op ⟨0, x.file, 0, 0, none, [1, 2, 3], none, []⟩ = (S.write x.file 0 [1, 2, 3]).2 by unfold DS.op; rw [if_pos rfl]] at q
      omega
    refine RS.call rfl opds (crash_dk D5.a hwl (by simp) S5 (fun _ q => by have := D4.a.ltF _ q; exact Nat.lt_irrefl _ this)) (fun b hb => ?_) ?_
    · by_cases q : b < n2 + 1
      · exact .inl (.inl (hF4 b q hb))
      · exact .inr (by omega)
    rintro v n6 h6 hle6 ⟨rfl, to⟩
    obtain ⟨F6, G6, D6, hF6, hG6, x6⟩ := D5.one hle6 to
    have hFc6 : ∀ b, Fc b → ¬ F4 b := fun b q k => hFcF b q (hF4 b (by have := Dc3.ltF b q; omega) k)
    have hGc6 : ∀ b, Gc b → ¬ F4 b := fun b q k => hGcF b q (hF4 b (by have := Dc3.ltG b q; omega) k)
    have Dc6 := Dc5.extW x6 hle6 hFc6 hGc6
    repeat' (first | refine stpS ?_ | (refine stp2 ?_ ?_ <;> intro _))
    have hr2 := D.b.ltF
    have hr3 := D.b.ltG
    refine ⟨c, rfl, ⟨Fc, Gc, F2, G2, ⟨Dc6, D6.b, fun b q k => by have := hFc b q; have := hr2 b k; omega, fun b q k => by have := hFc b q; have := hr3 b k; omega, fun b q k => D.gf b q (hGc b k)⟩, fun b hb q => by have := hFc b q; omega, fun b _ q => hGc b q, fun _ _ q => q, fun _ _ q => q, ?_⟩, fun q => absurd e7 q⟩
    have y : ExtW F1 n h h4 := ((ExtW.of (W := F1) hE0 (Nat.le_refl n)).then x2 (by omega)).then E3 (by omega) |>.trans x4 (by omega) (fun _ _ q => q)
    have y6 : ExtW F1 n h h6 := (y.then E5 (by omega)).trans x6 (by omega) (fun b hb q => hF4 b (by omega) q)
    exact y6.mono (Nat.le_refl _) (fun _ _ q => .inl q)
  · have hr := read_dk D0.a x.file x.at_ x.n
    repeat' (first | refine stpS ?_ | (refine stp2 ?_ ?_ <;> intro _))
    refine RS.call rfl opds hr none'W ?_
    rintro v n2 h2 hle2 ⟨a2, rfl, x2, hO2⟩
    have D2 := D0.step hle2 x2
    have b1 : h2.cell n 1 = .int .i64 x.file := c_ext x2 (by omega) cell
    have b2 : h2.cell n 2 = .int .i64 x.at_ := c_ext x2 (by omega) cell
    have b3 : h2.cell n 3 = .int .i64 x.n := c_ext x2 (by omega) cell
    have hltd := D2.a.lt
    have hltr := D2.b.lt
    repeat' (first | refine stpS ?_ | (refine stp2 ?_ ?_ <;> intro _))
    refine RS.call rfl opds (rread_rk D2.b (by omega) x.file x.at_ x.n) none'W ?_
    rintro v n3 h3 hle3 ⟨a3, rfl, x3, s3⟩
    have D3 := D2.step hle3 x3
    have s2 := SlR.ext hO2.slbE x3 hle3
    have c1 := c_ext x3 (by omega) b1
    have hltd3 := D3.a.lt
    have hltr3 := D3.b.lt
    repeat' (first | refine stpS ?_ | (refine stp2 ?_ ?_ <;> intro _) | refine RS.call1 rfl opds (size_dk D3.a x.file) none'W ?_)
    refine RS.call rfl opds (rsize_rk D3.b (by omega) x.file) none'W ?_
    rintro v n4 h4 hle4 ⟨rfl, x4⟩
    have D4 := D3.step hle4 x4
    have q0 := equal_ev _ _ a2 a3 _ _ n4 h4 (SlR.ext s2 x4 hle4) (SlR.ext s3 x4 hle4) rfl rfl
    rw [decide_eq_true rfl] at q0
    repeat' (first | refine stpS ?_ | (refine stp2 ?_ ?_ <;> intro _) | refine RS.call1 rfl opds (q0) none'W ?_)
    exact ⟨d, rfl, ⟨F1, G1, F2, G2, D4, fun _ _ q => q, fun _ _ q => q, fun _ _ q => q, fun _ _ q => q, ExtW.of (hE0.trans (by omega) (x2.trans hle2 (x3.trans hle3 x4))) (Nat.le_refl _)⟩, fun _ => rfl⟩
end
end Go.Proofs.Ytchfnjfmlhacfaa
