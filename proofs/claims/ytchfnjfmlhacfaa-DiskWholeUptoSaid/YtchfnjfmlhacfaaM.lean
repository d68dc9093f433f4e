/- Contracts of the disk's methods: sync, clone, same, new. -/
import Derived.Test.YtchfnjfmlhacfaaK
namespace Go.Proofs.Ytchfnjfmlhacfaa
open Go.Abs

theorem synced_ok {S : DS} {f : Nat} (h : DSOk S) : DSOk (S.synced f) := by
  refine ⟨fun p hp => h.ps p (List.mem_filter.1 hp).1, fun g => ?_, h.fuse, h.calls, h.keep⟩
  show (upd S.sure f (S.now f) g).length ≤ _
  unfold upd
  split
  · exact h.now f
  · exact h.sure g
theorem nowP_filter {f g : Nat} (l : List UInt8) (ps : List Pc) (h : g ≠ f) : nowP g l (ps.filter fun p => !decide (p.file = f)) = nowP g l ps := by
  unfold nowP
  rw [List.filter_filter]
  congr 1
  refine List.filter_congr fun p _ => ?_
  by_cases q : p.file = g
  · subst q; simp [h]
  · simp [q]
theorem nowP_none {f : Nat} (l : List UInt8) (ps : List Pc) : nowP f l (ps.filter fun p => !decide (p.file = f)) = l := by
  unfold nowP
  have : (ps.filter fun p => !decide (p.file = f)).filter (fun p => decide (p.file = f)) = [] := by
    rw [List.filter_filter]
    refine List.filter_eq_nil_iff.2 fun p _ => ?_
    by_cases q : p.file = f <;> simp [q]
  rw [this]; rfl
theorem synced_now (S : DS) (f g : Nat) : (S.synced f).now g = S.now g := by
  show nowP g (upd S.sure f (S.now f) g) (S.ps.filter fun p => !decide (p.file = f)) = nowP g (S.sure g) S.ps
  by_cases e : g = f
  · subst e; rw [upd_same, nowP_none]; rfl
  · rw [upd_ne _ _ e, nowP_filter _ _ e]
theorem zip_fs {α β : Type} : ∀ L : List (α × β), (L.map Prod.fst).zip (L.map Prod.snd) = L
  | [] => rfl
  | x :: r => by simp [zip_fs r]
theorem zip_fst {α β : Type} : ∀ (l : List α) (m : List β), l.length = m.length → (l.zip m).map Prod.fst = l ∧ (l.zip m).map Prod.snd = m
  | [], [], _ => ⟨rfl, rfl⟩
  | [], _ :: _, h => by simp at h
  | _ :: _, [], h => by simp at h
  | x :: l, y :: m, h => by have := zip_fst l m (by simpa using h); simp [this.1, this.2]
section
variable {h h1 h2 : AH} {n n1 n2 d : Nat} {F G : Nat → Prop} {S S1 S2 : DS}
set_option maxHeartbeats 4000000 in
theorem sync_dk (D : Dk h n d F G S) (hps : S.ps.length ≤ 1099511627776) (hcl : S.calls < 4611686018427387904) (f : Int) :
    RF Try.prog F 16 #[.pointer (some ⟨d, 0, none⟩), .int .i64 f] n h (fun r n' h' => r = .int .i64 (S.sync f).1 ∧ DkTo n d F G h (S.sync f).2 n' h') := by
  refine RF.of Try.func16 rfl rfl (Nat.le_of_ble_eq_true rfl) ?_; dsimp only [argEnv]
  have hlt := D.lt
  have D0 : Dk (h.app (.new n ⟨1, 0, true, 0⟩ [.int .i64 f])) (n + 1) d F G S := D.ext ext (Nat.le_succ n)
  by_cases hm : S.may f = 0
  · obtain ⟨i, hi, rfl, hd⟩ := may_zero hm
    have hme := may_dk D0 (i : Int)
    rw [hm] at hme
    repeat' (first | refine stpS ?_ | (refine stp2 ?_ ?_ <;> intro _) | refine RS.call1 rfl opds (hme) none'W ?_)
    refine RS.call rfl opds (ends_dk D0 hps hcl) (fun b hb => .inl hb) ?_
    rintro r n1 h1 hle ⟨rfl, F1, G1, D1, hF1, hG1, e1⟩
    have hnF : ¬ F n := fun q => by have := D.ltF _ q; omega
    have e0 : ExtW F n h h1 := (ExtW.appNew (Nat.le_refl n) (ExtW.refl F n h)).trans e1 (Nat.le_succ n) (fun _ _ q => q)
    by_cases he : S.ends.1 = 0
    · have hs : S.sync (i : Int) = (0, S.ends.2.synced i) := by rw [DS.sync, if_neg (by rw [hm]; simp), if_neg (by rw [he]; simp), Int.toNat_natCast]
      rw [hs, he]
      have hbx : h1.cell n 0 = .int .i64 (i : Nat) := c_extW e1 (by omega) hnF cell
      have hpl : S.ends.2.ps.length ≤ 1099511627776 := by
        unfold DS.ends at he ⊢
        split
        · exact hps
        · split
          · exact hps
          · simp [DS.lose]
      generalize S.ends.2 = S1 at *
      obtain ⟨ok, o, ka, pa, rfl, rfl, R⟩ := id D1
      have hno := ok.now i
      have c1 := now_cell R hi
      have S0 : SlB h1 n1 (o i) (S1.now i) := by
        have := (R.fo i (by omega)).slb
        rwa [flOf_lt _ hi] at this
      have hlt1 := R.lt
      have hinf := R.inf
      have hTd : F d := hF1 d (by omega) (.inl rfl)
      repeat' (first | refine stpS ?_ | (refine stp2 ?_ ?_ <;> intro _))
      repeat' (first | refine stp ?_ | (refine stp2 ?_ ?_ <;> intro _))
      refine RD.call n1 rfl opds (clone_rf (S1.now i) (o i) _ n1 _ (S0.ext (AH.below_ext h1 n1) (Nat.le_refl _)) rfl (by omega)) (Nat.le_refl _) cfc ?_
      rintro r n2 h2 hle2 ⟨a1, rfl, hE, hO⟩
      have hE2 : Ext n1 h1 h2 := hE.via (Nat.le_refl _) (AH.below_ext h1 n1)
      have hnew : a1 = o (2 + i) ∨ a1 = none ∨ n1 ≤ sb a1 := .inr (hO.at'.imp id (·.1))
      have R2 := R.fileJ (i := 2 + i) (j := 3 + i) (by omega) (by omega) (fun x hx _ => ⟨hE2.info x hx, fun k => hE2.cell x k hx⟩) hle2 (hO.mono (Nat.zero_le _)) hnew
      repeat' (first | refine stp ?_ | (refine stp2 ?_ ?_ <;> intro _))
      have e4 : upd o (2 + i) a1 4 = o 4 := upd_ne _ _ (by omega)
      have c5 := R2.c5
      rw [e4] at c5
      have hLl : (S1.ps.zip pa).length = S1.ps.length := by rw [List.length_zip, R.len, Nat.min_self]
      have hLo := R2.lo
      rw [e4, ← pcsL_zip, ← hLl] at hLo
      have hbx2 : (h2.app (.sets d (3 + i) [.slice a1 (S1.now i).length (S1.now i).length])).cell n 0 = .int .i64 (i : Nat) := c_out (.inl (by omega)) (c_ext hE2 (by omega) hbx)
      have hlt2 := R2.lt
      have hinf2 := R2.inf
      have hE3 : ExtW F n h (h2.app (.sets d (3 + i) [.slice a1 (S1.now i).length (S1.now i).length])) := ExtW.appSets (.inl hTd) (e0.then hE2 (by omega))
      generalize h2.app (.sets d (3 + i) [.slice a1 (S1.now i).length (S1.now i).length]) = h3 at *
      have hcw := cloneW_rf (S1.ps.zip pa) (o 4) n2 h3 hLo (by omega)
      rw [hLl] at hcw
      repeat' refine stp ?_
      refine RS.call rfl opds hcw none'W ?_
      rintro r n4 h4 hle4 ⟨a4, rfl, hE4, hO4⟩
      have ha4 := hO4.at'
      have hdel := delete_rf (S1.ps.zip pa) a4 i n n4 h4 (by rw [hLl]; exact hO4.mono (Nat.zero_le _)) (by omega) (by omega) (c_ext hE4 (by omega) hbx2) (ha4.imp id (by omega))
      rw [hLl] at hdel
      repeat' refine stp ?_
      refine RS.call rfl opds hdel (fun b hb => .inr (by have := ha4.resolve_left hb.1; have := hb.2; omega)) ?_
      rintro r n5 h5 hle5 ⟨rfl, hO5, hX5⟩
      have hE5 : Ext n2 h3 h5 := ⟨fun x hx => (hX5 x (by omega) (ha4.imp id (by omega))).1.trans (hE4.info x hx), fun x k hx => ((hX5 x (by omega) (ha4.imp id (by omega))).2 k).trans (hE4.cell x k hx)⟩
      have hi5 : h5.info d = some ⟨10, 0, true, 0⟩ := (hE5.info d hlt2).trans hinf2
      repeat' refine stp ?_
      obtain ⟨z1, z2⟩ := zip_fst S1.ps pa R.len.symm
      generalize hL : S1.ps.zip pa = L at *
      have hps' : (L.filter (keepP i)).map Prod.fst = S1.ps.filter fun p => !decide (p.file = i) := by
        rw [← z1, List.filter_map]; rfl
      have hlen' : ((L.filter (keepP i)).map Prod.snd).length = ((L.filter (keepP i)).map Prod.fst).length := by simp
      have hll : (L.filter (keepP i)).length = ((L.filter (keepP i)).map Prod.fst).length := by simp
      have hcs : pcsL (L.filter (keepP i)) = pcsC ((L.filter (keepP i)).map Prod.fst) ((L.filter (keepP i)).map Prod.snd) := by rw [← pcsL_zip, zip_fs]
      rw [hcs, hll] at hO5
      have hsub : ∀ x ∈ (L.filter (keepP i)).map Prod.snd, x ∈ pa := fun x hx => by
        rw [← z2]
        obtain ⟨y, hy, rfl⟩ := List.mem_map.1 hx
        exact List.mem_map.2 ⟨y, (List.mem_filter.1 hy).1, rfl⟩
      have R3 := R2.list (a' := a4) (ps' := (L.filter (keepP i)).map Prod.fst) (pa' := (L.filter (keepP i)).map Prod.snd) (fun x hx _ => ⟨hE5.info x hx, fun k => hE5.cell x k hx⟩) (by omega) hO5 (.inr (ha4.imp id (·.1))) hlen' hsub (fun k p hk _ => by
        rw [List.getElem?_map] at hk
        cases hq : (L.filter (keepP i))[k]? with
        | none => rw [hq] at hk; cases hk
        | some y =>
          rw [hq] at hk
          simp only [Option.map_some, Option.some.injEq] at hk
          have hy := (List.mem_filter.1 (List.mem_of_getElem? hq)).1
          obtain ⟨j, hj⟩ := List.mem_iff_getElem?.1 hy
          refine ⟨j, ?_, ?_⟩
          · rw [← z1, List.getElem?_map, hj, ← hk]; rfl
          · rw [← z2]
            simp only [List.getD, List.getElem?_map, hj, hq, Option.map_some])
      rw [hps'] at R3
      have ho : oNew n1 o (upd (upd o (2 + i) a1) 4 a4) := ((oNew.refl n1 o).upd (Nat.le_refl _) hnew).upd (n1 := n2) hle2 (.inr (ha4.imp id (·.1)))
      refine ⟨rfl, DkF d (upd (upd o (2 + i) a1) 4 a4), DkG ka ((L.filter (keepP i)).map Prod.snd), ⟨synced_ok ok, _, ka, (L.filter (keepP i)).map Prod.snd, rfl, rfl, ?_⟩, fun b hb q => hF1 b (by omega) (ho.F b (by omega) q), fun b hb q => hG1 b (by omega) ?_, ?_⟩
      · rw [hll, hps']
        refine R3.congr fun j hj => ?_
        unfold flOf upd
        by_cases h2 : j < 2
        · simp only [if_pos h2, if_neg (show ¬ j = 2 + i by omega)]
          exact (synced_now S1 i j).symm
        · simp only [if_neg h2]
          by_cases e : j = 2 + i
          · rw [if_pos e]
            subst e
            show S1.now i = upd S1.sure i (S1.now i) (2 + i - 2)
            rw [Nat.add_sub_cancel_left, upd_same]
          · rw [if_neg e]
            show S1.sure (j - 2) = upd S1.sure i (S1.now i) (j - 2)
            rw [upd_ne _ _ (by omega)]
      · obtain ⟨x, hx, hne, rfl⟩ := q
        refine ⟨x, ?_, hne, rfl⟩
        simp only [List.mem_cons] at hx ⊢
        exact hx.imp id (hsub x)
      · exact ExtW.appSets (.inl hTd) (hE3.then hE5 (by omega))
    · have hs : S.sync (i : Int) = S.ends := by rw [DS.sync, if_neg (by rw [hm]; simp), if_pos he]
      rw [hs]
      repeat' (first | refine stpS ?_ | (refine stp2 ?_ ?_ <;> intro _))
      exact ⟨rfl, _, _, D1, fun b hb q => hF1 b (by omega) q, fun b hb q => hG1 b (by omega) q, e0⟩
  · have he : S.sync f = (S.may f, S) := by simp [DS.sync, hm]
    rw [he]
    repeat' (first | refine stpS ?_ | (refine stp2 ?_ ?_ <;> intro _) | refine RS.call1 rfl opds (may_dk D0 f) none'W ?_)
    exact ⟨rfl, _, _, D0, fun _ _ q => q, fun _ _ q => q, ExtW.appNew (Nat.le_refl n) (ExtW.refl F n h)⟩
end
end Go.Proofs.Ytchfnjfmlhacfaa
