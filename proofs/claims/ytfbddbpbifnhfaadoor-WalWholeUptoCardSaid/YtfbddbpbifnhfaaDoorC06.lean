/- Contracts and laws that a statement of this seat is proved by (part 6). -/
import Derived.Test.YtfbddbpbifnhfaaDoorC05
import Derived.Test.YtfbddbpbifnhfaaDoorRows
set_option linter.unusedSimpArgs false
set_option linter.unusedVariables false
/- Contracts taken from disk (written by port.py). -/
namespace Go.Proofs.YtfbddbpbifnhfaaDoor.Dk
open Go.Abs
theorem known_map {α : Type} (f : α → Value) : ∀ l : List α, (∀ x ∈ l, known [f x] = true) → known (l.map f) = true
  | [], _ => rfl
  | x :: r, h => by
    have h1 := h x (by simp)
    have h2 := known_map f r (fun y hy => h y (by simp [hy]))
    rw [List.map_cons]
    cases hf : f x <;> rw [hf] at h1 <;> simp_all [known]
def keepP (f : Nat) (x : PA) : Bool := !decide (x.1.file = f)
section
variable {h h1 h2 : AH} {n n1 n2 d : Nat}
set_option maxHeartbeats 4000000 in
theorem delete_rf (L : List PA) (a : Option Addr) (f bx n : Nat) (h : AH) (hO : OwnSl h 0 n a 2 L.length (pcsL L)) (hL : L.length ≤ 1099511627776) (hb : bx < n) (hf : h.cell bx 0 = .int .i64 (f : Nat)) (hab : a = none ∨ bx ≠ sb a) :
    RF Tryd.prog (inA a) 66 #[.slice a L.length L.length, .func (.func 68) #[] #[.pointer (some ⟨bx, 0, none⟩)]] n h (fun r n' h' =>
      r = .slice a (L.filter (keepP f)).length (L.filter (keepP f)).length ∧ OwnSl h' 0 n' a 2 (L.filter (keepP f)).length (pcsL (L.filter (keepP f))) ∧ ExtX n a h h') := by
  refine RF.of Tryd.func66 rfl rfl (Nat.le_of_ble_eq_true rfl) ?_; dsimp only [argEnv]
  repeat' (first | refine stpS ?_ | (refine stp2 ?_ ?_ <;> intro _))
  refine RS.call rfl opds (index_rf L a f bx n h hO hL hb hf) none'W ?_
  rintro r n1 h1 hle ⟨hE, hr⟩
  have hX : ExtX n a h h1 := fun x hx _ => ⟨hE.info x hx, fun i => hE.cell x i hx⟩
  rcases hr with ⟨rfl, hno⟩ | ⟨j, hj, rfl, hno, xj, hxj, hfj⟩
  · have hfl : L.filter (keepP f) = L := List.filter_eq_self.2 fun x hx => by simp [keepP, hno x hx]
    rw [hfl]
    repeat' (first | refine stpS ?_ | (refine stp2 ?_ ?_ <;> intro _))
    exact ⟨rfl, hO.ext hE hle, hX⟩
  · have ha : a ≠ none := by
      intro q; subst q
      rcases hO.or with ⟨_, k⟩ | ⟨k, _⟩
      · omega
      · cases k
    have hbn : bx ≠ sb a := hab.resolve_left ha
    have hfl1 : (L.take j).filter (keepP f) = L.take j := List.filter_eq_self.2 fun x hx => by simp [keepP, hno x hx]
    have htj : L.take (j + 1) = L.take j ++ [xj] := by rw [List.take_add_one, hxj]; rfl
    have hfl2 : (L.take (j + 1)).filter (keepP f) = L.take j := by rw [htj, List.filter_append, hfl1]; simp [keepP, hfj]
    have hTa : inA a (sb a) := ⟨ha, rfl⟩
    repeat' (first | refine stpS ?_ | (refine stp2 ?_ ?_ <;> intro _))
    refine RC.loop ?_
    refine RL.inv (α := Nat × Nat × List PA) (fun s => [(5, .int .i64 (s.1 : Nat)), (6, .int .i64 (s.2.1 : Nat)), (1, .func (.func 68) #[] #[.pointer (some ⟨bx, 0, none⟩)]), (0, .slice a L.length L.length)])
      (fun s n2 h2 => s.1 < s.2.1 ∧ s.2.1 ≤ L.length ∧ n ≤ n2 ∧ ExtX n a h h2 ∧ s.2.2.length = L.length ∧ s.2.2.take s.1 = (L.take s.2.1).filter (keepP f) ∧ s.2.2.drop s.2.1 = L.drop s.2.1 ∧ OwnSl h2 0 n2 a 2 L.length (pcsL s.2.2)) (fun s => L.length - s.2.1) (j, j + 1, L) envs
      ⟨by dsimp only; omega, by dsimp only; omega, hle, hX, rfl, hfl2.symm, rfl, hO.ext hE hle⟩ ?_
    rintro ⟨i, k, M⟩ n2 h2 ⟨hik, hk, hn2, hX2, hM, hMt, hMd, hO2⟩
    dsimp only at hik hk hM hMt hMd hO2 ⊢
    have hil : i = ((L.take k).filter (keepP f)).length := by rw [← hMt, List.length_take]; omega
    repeat' (first | refine stpS ?_ | (refine stp2 ?_ ?_ <;> intro _))
    · have hk' : k < L.length := by omega
      obtain ⟨x, hx⟩ : ∃ x, L[k]? = some x := ⟨_, List.getElem?_eq_getElem hk'⟩
      have hxM : M[k]? = some x := by
        have e : (M.drop k)[0]? = (L.drop k)[0]? := by rw [hMd]
        simpa [hx] using e
      obtain ⟨hA, hsn, hc0, hc1⟩ := row_at (L := M) (by rw [hM]; exact hO2) hxM
      rw [hM] at hA
      obtain ⟨t, w, hv⟩ : ∃ t w, pcV x.1 x.2 = .iface t w := by
        unfold pcV; split
        · exact ⟨_, _, rfl⟩
        · exact ⟨_, _, rfl⟩
      have htk : L.take (k + 1) = L.take k ++ [x] := by rw [List.take_add_one, hx]; rfl
      have hs := sync1_rf x f bx (n2 + 1) ((h2.app (.new n2 ⟨2, 0, true, 0⟩ [.int .i64 0, .nilIface])).app (.sets n2 0 [.int .i64 (x.1.file : Nat), .iface t w])) (by omega) (c_out (by omega) (c_new_ne (by omega) ((hX2 bx hb hab |>.2 0).trans hf)))
      rw [pcC] at hs
      have hpc : pcC x.1 x.2 = [.int .i64 (x.1.file : Nat), .iface t w] := by rw [pcC, hv]
      rw [hv] at hc1 hs
      obtain ⟨hso, -, -, hI, -, -⟩ := hO2.facts (by omega)
      repeat' (first | refine stpS ?_ | (refine stp2 ?_ ?_ <;> intro _))
      refine RS.callv (caps := [.pointer (some ⟨bx, 0, none⟩)]) rfl opd opds (RF.ev hs (Q := fun r n3 h3 => r = .bool (decide (x.1.file = f)) ∧ n3 = n2 + 1 ∧ h3 = (h2.app (.new n2 ⟨2, 0, true, 0⟩ [.int .i64 0, .nilIface])).app (.sets n2 0 [.int .i64 (x.1.file : Nat), .iface t w])) ⟨rfl, rfl, rfl⟩) none'W ?_
      rintro r n3 h3 hle3 ⟨rfl, rfl, rfl⟩
      have hX3 : ExtX n a h ((h2.app (.new n2 ⟨2, 0, true, 0⟩ [.int .i64 0, .nilIface])).app (.sets n2 0 [.int .i64 (x.1.file : Nat), .iface t w])) := fun y hy hne => by
        have e : Ext n2 h2 ((h2.app (.new n2 ⟨2, 0, true, 0⟩ [.int .i64 0, .nilIface])).app (.sets n2 0 [.int .i64 (x.1.file : Nat), .iface t w])) := ext
        have := hX2 y hy hne
        exact ⟨(e.info y (by omega)).trans this.1, fun z => (e.cell y z (by omega)).trans (this.2 z)⟩
      have hO3 := hO2.ext (n1 := n2 + 1) (h1 := (h2.app (.new n2 ⟨2, 0, true, 0⟩ [.int .i64 0, .nilIface])).app (.sets n2 0 [.int .i64 (x.1.file : Nat), .iface t w])) ext (by omega)
      by_cases q : x.1.file = f
      · rw [decide_eq_true q]
        repeat' (first | refine stpS ?_ | (refine stp2 ?_ ?_ <;> intro _))
        refine nextC.normal ⟨(i, k + 1, M), by dsimp only; omega, envs, by dsimp only; omega, by dsimp only; omega, by omega, hX3, hM, ?_, ?_, hO3⟩
        · dsimp only
          rw [htk, List.filter_append, hMt]; simp [keepP, q]
        · dsimp only
          rw [← List.drop_drop, ← List.drop_drop, hMd]
      · rw [decide_eq_false q]
        have hI' : h2.info (sb a) = some ⟨L.length * 2, 0, true, 2⟩ := hI
        have hAi : SlA a L.length := hA
        repeat' (first | refine stpS ?_ | (refine stp2 ?_ ?_ <;> intro _))
        have hi' : i < M.length := by omega
        refine nextC.normal ⟨(i + 1, k + 1, M.set i x), by dsimp only; omega, envs, by dsimp only; omega, by dsimp only; omega, by omega, hX3.sets (fun z => ha z), by dsimp only; rw [List.length_set]; exact hM, ?_, ?_, ?_⟩
        · dsimp only
          rw [htk, List.filter_append, ← hMt, List.set_eq_take_append_cons_drop, if_pos hi', List.take_append, List.take_take]
          have e1 : (M.take i).length = i := by rw [List.length_take]; omega
          rw [e1, Nat.min_eq_right (by omega), show i + 1 - i = 1 by omega]
          simp [keepP, q]
        · dsimp only
          rw [List.drop_set_of_lt (by omega), ← List.drop_drop, ← List.drop_drop, hMd]
        · have := hO3.splice (i := i * 2) (vs := pcC x.1 x.2) (by rw [pcC_length]; omega) (pcV_known _ _)
          rw [← pcsL_set M i x hi', hpc] at this
          exact this
    · have hkl : k = L.length := by omega
      subst hkl
      rw [List.take_length] at hMt hil
      have hS2 := hO2.slr
      repeat' (first | refine stpS ?_ | (refine stp2 ?_ ?_ <;> intro _))
      rw [Int.toNat_natCast]
      have hkz : known (zrow (Value.agg #[.int .i64 0, .nilIface]).cells.toList (L.length - i)) = true := by
        refine known_map _ _ fun j _ => ?_
        show known [[Value.int .i64 0, .nilIface].getD (j % 2) (.tuple #[])] = true
        have : j % 2 = 0 ∨ j % 2 = 1 := by omega
        rcases this with e | e <;> rw [e] <;> rfl
      refine RS.clear rfl opd hO2 (by omega) ha (.inl hTa) hkz ?_
      intro hO3
      repeat' (first | refine stpS ?_ | (refine stp2 ?_ ?_ <;> intro _))
      refine RS.sliceCut (u := i) rfl opd opd hO3 (by omega) (fun _ => .inl hTa) ?_
      intro h4 hO4 hX4
      repeat' (first | refine stpS ?_ | (refine stp2 ?_ ?_ <;> intro _))
      rw [← hil]
      refine ⟨rfl, ?_, fun y hy hne => ?_⟩
      · have e : (splice (pcsL M) (i * 2) (zrow (Value.agg #[.int .i64 0, .nilIface]).cells.toList (L.length - i))).take (i * 2) = pcsL (L.filter (keepP f)) := by
          have hl : ((pcsL M).take (i * 2)).length = i * 2 := by rw [List.length_take, pcsL_length]; omega
          rw [splice, List.append_assoc, List.take_append_of_le_length (by omega), List.take_take, Nat.min_self, pcsL_take, hMt]
        rw [e] at hO4
        exact hO4
      · have h5 := hX4 y (by omega) hne
        have h6 := (hX2.sets (o' := so a + i * 2) (vs := zrow (Value.agg #[.int .i64 0, .nilIface]).cells.toList (L.length - i)) (fun z => ha z)) y hy hne
        exact ⟨h5.1.trans h6.1, fun z => (h5.2 z).trans (h6.2 z)⟩
end
end Go.Proofs.YtfbddbpbifnhfaaDoor.Dk

/- Contracts taken from disk (written by port.py). -/
namespace Go.Proofs.YtfbddbpbifnhfaaDoor.Dk
open Go.Abs
theorem synced_ok {S : DS} {f : Nat} (h : DSOk S) : DSOk (S.synced f) := by
  refine ⟨fun p hp => h.ps p (List.mem_filter.1 hp).1, fun g => ?_, h.fuse, h.calls, h.keep⟩
  show (upd S.sure f (S.now f) g).length ≤ _
  unfold upd
  split
  · exact h.now f
  · exact h.sure g
theorem nowP_filter {f g : Nat} (l : List UInt8) (ps : List Pc) (h : g ≠ f) : nowP g l (ps.filter fun p => !decide (p.file = f)) = nowP g l ps := by
  unfold nowP
  rw [List.filter_filter]
  congr 1
  refine List.filter_congr fun p _ => ?_
  by_cases q : p.file = g
  · subst q; simp [h]
  · simp [q]
theorem nowP_none {f : Nat} (l : List UInt8) (ps : List Pc) : nowP f l (ps.filter fun p => !decide (p.file = f)) = l := by
  unfold nowP
  have : (ps.filter fun p => !decide (p.file = f)).filter (fun p => decide (p.file = f)) = [] := by
    rw [List.filter_filter]
    refine List.filter_eq_nil_iff.2 fun p _ => ?_
    by_cases q : p.file = f <;> simp [q]
  rw [this]; rfl
theorem synced_now (S : DS) (f g : Nat) : (S.synced f).now g = S.now g := by
  show nowP g (upd S.sure f (S.now f) g) (S.ps.filter fun p => !decide (p.file = f)) = nowP g (S.sure g) S.ps
  by_cases e : g = f
  · subst e; rw [upd_same, nowP_none]; rfl
  · rw [upd_ne _ _ e, nowP_filter _ _ e]
theorem zip_fs {α β : Type} : ∀ L : List (α × β), (L.map Prod.fst).zip (L.map Prod.snd) = L
  | [] => rfl
  | x :: r => by simp [zip_fs r]
theorem zip_fst {α β : Type} : ∀ (l : List α) (m : List β), l.length = m.length → (l.zip m).map Prod.fst = l ∧ (l.zip m).map Prod.snd = m
  | [], [], _ => ⟨rfl, rfl⟩
  | [], _ :: _, h => by simp at h
  | _ :: _, [], h => by simp at h
  | x :: l, y :: m, h => by have := zip_fst l m (by simpa using h); simp [this.1, this.2]
section
variable {h h1 h2 : AH} {n n1 n2 d : Nat} {F G : Nat → Prop} {S S1 S2 : DS}
set_option maxHeartbeats 4000000 in
theorem sync_dk (D : Dk h n d F G S) (hps : S.ps.length ≤ 1099511627776) (hcl : S.calls < 4611686018427387904) (f : Int) :
    RF Tryd.prog F 41 #[.pointer (some ⟨d, 0, none⟩), .int .i64 f] n h (fun r n' h' => r = .int .i64 (S.sync f).1 ∧ DkTo n d F G h (S.sync f).2 n' h') := by
  refine RF.of Tryd.func41 rfl rfl (Nat.le_of_ble_eq_true rfl) ?_; dsimp only [argEnv]
  have hlt := D.lt
  have D0 : Dk (h.app (.new n ⟨1, 0, true, 0⟩ [.int .i64 f])) (n + 1) d F G S := D.ext ext (Nat.le_succ n)
  by_cases hm : S.may f = 0
  · obtain ⟨i, hi, rfl, hd⟩ := may_zero hm
    have hme := may_dk D0 (i : Int)
    rw [hm] at hme
    repeat' (first | refine stpS ?_ | (refine stp2 ?_ ?_ <;> intro _))
    refine RS.call1 rfl opds hme none'W ?_
    repeat' (first | refine stpS ?_ | (refine stp2 ?_ ?_ <;> intro _))
    refine RS.call rfl opds (ends_dk D0 hps hcl) (fun b hb => .inl hb) ?_
    rintro r n1 h1 hle ⟨rfl, F1, G1, D1, hF1, hG1, e1⟩
    have hnF : ¬ F n := fun q => by have := D.ltF _ q; omega
    have e0 : ExtW F n h h1 := (ExtW.appNew (Nat.le_refl n) (ExtW.refl F n h)).trans e1 (Nat.le_succ n) (fun _ _ q => q)
    by_cases he : S.ends.1 = 0
    · have hs : S.sync (i : Int) = (0, S.ends.2.synced i) := by rw [DS.sync, if_neg (by rw [hm]; simp), if_neg (by rw [he]; simp), Int.toNat_natCast]
      rw [hs, he]
      have hbx : h1.cell n 0 = .int .i64 (i : Nat) := c_extW e1 (by omega) hnF cell
      have hpl : S.ends.2.ps.length ≤ 1099511627776 := by
        unfold DS.ends at he ⊢
        split
        · exact hps
        · split
          · exact hps
          · simp [DS.lose]
      generalize S.ends.2 = S1 at *
      obtain ⟨ok, o, ka, pa, rfl, rfl, R⟩ := id D1
      have hno := ok.now i
      have c1 := now_cell R hi
      have S0 : SlB h1 n1 (o i) (S1.now i) := by
        have := (R.fo i (by omega)).slb
        rwa [flOf_lt _ hi] at this
      have hlt1 := R.lt
      have hinf := R.inf
      have hTd : F d := hF1 d (by omega) (.inl rfl)
      repeat' (first | refine stpS ?_ | (refine stp2 ?_ ?_ <;> intro _))
      repeat' (first | refine stp ?_ | (refine stp2 ?_ ?_ <;> intro _))
      refine RD.call n1 rfl opds (clone_rf (S1.now i) (o i) _ n1 _ (S0.ext (AH.below_ext h1 n1) (Nat.le_refl _)) rfl (by omega)) (Nat.le_refl _) cfc ?_
      rintro r n2 h2 hle2 ⟨a1, rfl, hE, hO⟩
      have hE2 : Ext n1 h1 h2 := hE.via (Nat.le_refl _) (AH.below_ext h1 n1)
      have hnew : a1 = o (2 + i) ∨ a1 = none ∨ n1 ≤ sb a1 := .inr (hO.at'.imp id (·.1))
      have R2 := R.fileJ (i := 2 + i) (j := 3 + i) (by omega) (by omega) (fun x hx _ => ⟨hE2.info x hx, fun k => hE2.cell x k hx⟩) hle2 (hO.mono (Nat.zero_le _)) hnew
      repeat' (first | refine stp ?_ | (refine stp2 ?_ ?_ <;> intro _))
      have e4 : upd o (2 + i) a1 4 = o 4 := upd_ne _ _ (by omega)
      have c5 := R2.c5
      rw [e4] at c5
      have hLl : (S1.ps.zip pa).length = S1.ps.length := by rw [List.length_zip, R.len, Nat.min_self]
      have hLo := R2.lo
      rw [e4, ← pcsL_zip, ← hLl] at hLo
      have hbx2 : (h2.app (.sets d (3 + i) [.slice a1 (S1.now i).length (S1.now i).length])).cell n 0 = .int .i64 (i : Nat) := c_out (.inl (by omega)) (c_ext hE2 (by omega) hbx)
      have hlt2 := R2.lt
      have hinf2 := R2.inf
      have hE3 : ExtW F n h (h2.app (.sets d (3 + i) [.slice a1 (S1.now i).length (S1.now i).length])) := ExtW.appSets (.inl hTd) (e0.then hE2 (by omega))
      generalize h2.app (.sets d (3 + i) [.slice a1 (S1.now i).length (S1.now i).length]) = h3 at *
      have hcw := cloneW_rf (S1.ps.zip pa) (o 4) n2 h3 hLo (by omega)
      rw [hLl] at hcw
      repeat' refine stp ?_
      refine RS.call rfl opds hcw none'W ?_
      rintro r n4 h4 hle4 ⟨a4, rfl, hE4, hO4⟩
      have ha4 := hO4.at'
      have hdel := delete_rf (S1.ps.zip pa) a4 i n n4 h4 (by rw [hLl]; exact hO4.mono (Nat.zero_le _)) (by omega) (by omega) (c_ext hE4 (by omega) hbx2) (ha4.imp id (by omega))
      rw [hLl] at hdel
      repeat' refine stp ?_
      refine RS.call rfl opds hdel (fun b hb => .inr (by have := ha4.resolve_left hb.1; have := hb.2; omega)) ?_
      rintro r n5 h5 hle5 ⟨rfl, hO5, hX5⟩
      have hE5 : Ext n2 h3 h5 := ⟨fun x hx => (hX5 x (by omega) (ha4.imp id (by omega))).1.trans (hE4.info x hx), fun x k hx => ((hX5 x (by omega) (ha4.imp id (by omega))).2 k).trans (hE4.cell x k hx)⟩
      have hi5 : h5.info d = some ⟨10, 0, true, 0⟩ := (hE5.info d hlt2).trans hinf2
      repeat' refine stp ?_
      obtain ⟨z1, z2⟩ := zip_fst S1.ps pa R.len.symm
      generalize hL : S1.ps.zip pa = L at *
      have hps' : (L.filter (keepP i)).map Prod.fst = S1.ps.filter fun p => !decide (p.file = i) := by
        rw [← z1, List.filter_map]; rfl
      have hlen' : ((L.filter (keepP i)).map Prod.snd).length = ((L.filter (keepP i)).map Prod.fst).length := by simp
      have hll : (L.filter (keepP i)).length = ((L.filter (keepP i)).map Prod.fst).length := by simp
      have hcs : pcsL (L.filter (keepP i)) = pcsC ((L.filter (keepP i)).map Prod.fst) ((L.filter (keepP i)).map Prod.snd) := by rw [← pcsL_zip, zip_fs]
      rw [hcs, hll] at hO5
      have hsub : ∀ x ∈ (L.filter (keepP i)).map Prod.snd, x ∈ pa := fun x hx => by
        rw [← z2]
        obtain ⟨y, hy, rfl⟩ := List.mem_map.1 hx
        exact List.mem_map.2 ⟨y, (List.mem_filter.1 hy).1, rfl⟩
      have R3 := R2.list (a' := a4) (ps' := (L.filter (keepP i)).map Prod.fst) (pa' := (L.filter (keepP i)).map Prod.snd) (fun x hx _ => ⟨hE5.info x hx, fun k => hE5.cell x k hx⟩) (by omega) hO5 (.inr (ha4.imp id (·.1))) hlen' hsub (fun k p hk _ => by
        rw [List.getElem?_map] at hk
        cases hq : (L.filter (keepP i))[k]? with
        | none => rw [hq] at hk; cases hk
        | some y =>
          rw [hq] at hk
          simp only [Option.map_some, Option.some.injEq] at hk
          have hy := (List.mem_filter.1 (List.mem_of_getElem? hq)).1
          obtain ⟨j, hj⟩ := List.mem_iff_getElem?.1 hy
          refine ⟨j, ?_, ?_⟩
          · rw [← z1, List.getElem?_map, hj, ← hk]; rfl
          · rw [← z2]
            simp only [List.getD, List.getElem?_map, hj, hq, Option.map_some])
      rw [hps'] at R3
      have ho : oNew n1 o (upd (upd o (2 + i) a1) 4 a4) := ((oNew.refl n1 o).upd (Nat.le_refl _) hnew).upd (n1 := n2) hle2 (.inr (ha4.imp id (·.1)))
      refine ⟨rfl, DkF d (upd (upd o (2 + i) a1) 4 a4), DkG ka ((L.filter (keepP i)).map Prod.snd), ⟨synced_ok ok, _, ka, (L.filter (keepP i)).map Prod.snd, rfl, rfl, ?_⟩, fun b hb q => hF1 b (by omega) (ho.F b (by omega) q), fun b hb q => hG1 b (by omega) ?_, ?_⟩
      · rw [hll, hps']
        refine R3.congr fun j hj => ?_
        unfold flOf upd
        by_cases h2 : j < 2
        · simp only [if_pos h2, if_neg (show ¬ j = 2 + i by omega)]
          exact (synced_now S1 i j).symm
        · simp only [if_neg h2]
          by_cases e : j = 2 + i
          · rw [if_pos e]
            subst e
            show S1.now i = upd S1.sure i (S1.now i) (2 + i - 2)
            rw [Nat.add_sub_cancel_left, upd_same]
          · rw [if_neg e]
            show S1.sure (j - 2) = upd S1.sure i (S1.now i) (j - 2)
            rw [upd_ne _ _ (by omega)]
      · obtain ⟨x, hx, hne, rfl⟩ := q
        refine ⟨x, ?_, hne, rfl⟩
        simp only [List.mem_cons] at hx ⊢
        exact hx.imp id (hsub x)
      · exact ExtW.appSets (.inl hTd) (hE3.then hE5 (by omega))
    · have hs : S.sync (i : Int) = S.ends := by rw [DS.sync, if_neg (by rw [hm]; simp), if_pos he]
      rw [hs]
      repeat' (first | refine stpS ?_ | (refine stp2 ?_ ?_ <;> intro _))
      exact ⟨rfl, _, _, D1, fun b hb q => hF1 b (by omega) q, fun b hb q => hG1 b (by omega) q, e0⟩
  · have he : S.sync f = (S.may f, S) := by simp [DS.sync, hm]
    rw [he]
    repeat' (first | refine stpS ?_ | (refine stp2 ?_ ?_ <;> intro _) | refine RS.call1 rfl opds (may_dk D0 f) none'W ?_)
    exact ⟨rfl, _, _, D0, fun _ _ q => q, fun _ _ q => q, ExtW.appNew (Nat.le_refl n) (ExtW.refl F n h)⟩
end
end Go.Proofs.YtfbddbpbifnhfaaDoor.Dk

/- Contracts taken from disk (written by port.py). -/
namespace Go.Proofs.YtfbddbpbifnhfaaDoor.Dk
open Go.Abs
section
variable {h h1 h2 : AH} {n n1 n2 d : Nat} {F G F1 G1 F2 G2 : Nat → Prop} {S S1 S2 : DS}
theorem init_ok : DSOk DS.init := ⟨fun p hp => (by cases hp), fun f => by simp [DS.init], by simp [DS.init], by simp [DS.init], by simp [DS.init]⟩
set_option maxHeartbeats 4000000 in
theorem new_rf (n : Nat) (h : AH) (hn : 0 < n) : RF Tryd.prog none' 14 #[] n h (fun r n' h' => ∃ d F G, r = .pointer (some ⟨d, 0, none⟩) ∧ Dk h' n' d F G DS.init ∧ (∀ b, F b → n ≤ b) ∧ (∀ b, ¬ G b) ∧ Ext n h h') := by
  refine RF.of Tryd.func14 rfl rfl (Nat.le_of_ble_eq_true rfl) ?_; dsimp only [argEnv]
  repeat' (first | refine stpS ?_ | (refine stp2 ?_ ?_ <;> intro _))
  refine ⟨n, DkF n (fun _ => none), DkG none [], rfl, ⟨init_ok, fun _ => none, none, [], rfl, rfl, ?_⟩, ?_, ?_, ext⟩
  · have e : ∀ i, flOf DS.init i = [] := fun i => by unfold flOf; split <;> rfl
    refine ⟨Nat.lt_succ_self n, i_new, cell, fun i hi => ?_, cell, cell, cell, cell, cell, fun i hi => by rw [e]; exact .nil (Nat.zero_le _), .nil (Nat.zero_le _), .nil, fun i p hp => (by cases hp), rfl, fun i hi => .inl rfl, fun i j _ _ _ => .inl rfl, fun i x _ _ => .inl rfl, fun x hx => ?_, fun x hx q => ?_⟩
    · rw [e]
      rcases (show i = 0 ∨ i = 1 ∨ i = 2 ∨ i = 3 by omega) with rfl | rfl | rfl | rfl <;> exact cell
    · simp at hx; exact .inl hx
    · simp at hx; exact absurd hx q
  · rintro b (rfl | ⟨i, _, q, _⟩)
    · exact Nat.le_refl _
    · exact absurd rfl q
  · rintro b ⟨x, hx, q, _⟩
    simp at hx; exact q hx
end
end Go.Proofs.YtfbddbpbifnhfaaDoor.Dk

/- Contracts of wal: a log in memory. -/
namespace Go.Proofs.YtfbddbpbifnhfaaDoor
open Go.Abs Cd

/-- A commit lies at c, and looks at blocks of B alone. -/
def CmR (h : AH) (n : Nat) (B : Nat → Prop) (c : Option Addr) (l : List (List UInt8)) : Prop :=
  ∃ ad, SlQ h n c ad l ∧ (c ≠ none → B (sb c)) ∧ ∀ j, j < l.length → ad j ≠ none → B (sb (ad j))
theorem SlQ.extW {W : Nat → Prop} {h h1 : AH} {n n1 : Nat} {a : Option Addr} {ad : Nat → Option Addr} {ls : List (List UInt8)} (S : SlQ h n a ad ls) (E : ExtW W n h h1) (hn : n ≤ n1) (ha : a ≠ none → ¬ W (sb a)) (hr : ∀ j, j < ls.length → ad j ≠ none → ¬ W (sb (ad j))) : SlQ h1 n1 a ad ls :=
  ⟨SlR.extW S.out E hn ha, fun j hj => SlR.extW (S.row j hj) E hn (hr j hj)⟩
theorem CmR.extW {W B : Nat → Prop} {h h1 : AH} {n n1 : Nat} {c : Option Addr} {l : List (List UInt8)} (C : CmR h n B c l) (E : ExtW W n h h1) (hn : n ≤ n1) (hB : ∀ b, B b → ¬ W b) : CmR h1 n1 B c l := by
  obtain ⟨ad, S, c1, c2⟩ := C
  exact ⟨ad, SlQ.extW S E hn (fun q => hB _ (c1 q)) (fun j hj q => hB _ (c2 j hj q)), c1, c2⟩
theorem CmR.mono {B B' : Nat → Prop} {h : AH} {n : Nat} {c : Option Addr} {l : List (List UInt8)} (C : CmR h n B c l) (hB : ∀ b, B b → B' b) : CmR h n B' c l := by
  obtain ⟨ad, S, c1, c2⟩ := C
  exact ⟨ad, S, fun q => hB _ (c1 q), fun j hj q => hB _ (c2 j hj q)⟩
theorem Cm.cmr {h : AH} {n0 n : Nat} {a : Option Addr} {M : List (Option Addr × List UInt8)} (c : Cm h n0 n a M) : CmR h n (fun b => n0 ≤ b ∧ b < n) a (M.map (·.2)) := by
  refine ⟨_, c.slq, fun q => c.out.at'.resolve_left q, fun j hj q => ?_⟩
  rw [List.length_map] at hj
  have hg : (cmL M)[j]? = some (M[j].1, M[j].2.length, bytesV M[j].2) := by unfold cmL; rw [List.getElem?_map, List.getElem?_eq_getElem hj]; rfl
  have he : (M.getD j (none, [])).1 = M[j].1 := by simp [List.getD, hj]
  rw [he] at q ⊢
  exact (c.inn j _ hg).at'.resolve_left q
/-- A log's state. -/
structure LS where
  S : Dk.DS
  gen : Int
  L : List (List (List UInt8))
  e : Nat
abbrev CmA := Option Addr × List (List UInt8)
def lgC (N : List CmA) : List Value := N.map fun x => .slice x.1 x.2.length x.2.length
/-- A log lies at block lg, over the disk at block d. -/
structure LgR (h : AH) (n lg d : Nat) (F G : Nat → Prop) (a : Option Addr) (N : List CmA) (B : Nat → Prop) (X : LS) : Prop where
  dk : Dk.Dk h n d F G X.S
  hi : lg < n
  inf : h.info lg = some ⟨4, 0, true, 0⟩
  c0 : h.cell lg 0 = .pointer (some ⟨d, 0, none⟩)
  c1 : h.cell lg 1 = .int .i64 X.gen
  c2 : h.cell lg 2 = .slice a X.L.length X.L.length
  c3 : h.cell lg 3 = .int .i64 (X.e : Nat)
  own : OwnSl h 0 n a 1 X.L.length (lgC N)
  nl : N.map (·.2) = X.L
  cm : ∀ x ∈ N, CmR h n B x.1 x.2
  bn : ∀ b, B b → b < n ∧ b ≠ lg ∧ ¬ inA a b ∧ ¬ F b
  lF : ¬ F lg ∧ ¬ G lg ∧ ¬ inA a lg
  aF : ∀ b, inA a b → ¬ F b ∧ ¬ G b
  gm : may X.gen
  le : X.L.length ≤ X.e
  me : X.e ≤ 4194304
/-- The blocks of a log. -/
def LgT (lg : Nat) (F G : Nat → Prop) (a : Option Addr) (B : Nat → Prop) (b : Nat) : Prop := F b ∨ G b ∨ b = lg ∨ inA a b ∨ B b
def Lg (h : AH) (n lg d : Nat) (T : Nat → Prop) (X : LS) : Prop := ∃ F G a N B, LgR h n lg d F G a N B X ∧ T = LgT lg F G a B
/-- From (n, h) the log has come to the state X; what lay below n and is no block of it is as it was. -/
def LgTo (n lg d : Nat) (T : Nat → Prop) (h : AH) (X : LS) (n' : Nat) (h' : AH) : Prop :=
  ∃ T', Lg h' n' lg d T' X ∧ (∀ b, b < n → T' b → T b) ∧ ExtW T n h h'
section
variable {h h1 h2 : AH} {n n1 n2 lg d : Nat} {F G B T : Nat → Prop} {a : Option Addr} {N : List CmA} {X Y : LS}
theorem LgR.alt (R : LgR h n lg d F G a N B X) : ∀ b, inA a b → b < n := fun b q => by
  have := (R.own.at'.resolve_left q.1).2
  rw [q.2]; exact this
theorem LgR.lt (R : LgR h n lg d F G a N B X) : ∀ b, LgT lg F G a B b → b < n := by
  rintro b (q | q | q | q | q)
  · exact R.dk.ltF b q
  · exact R.dk.ltG b q
  · rw [q]; exact R.hi
  · exact R.alt b q
  · exact (R.bn b q).1
theorem Lg.lt (R : Lg h n lg d T X) : ∀ b, T b → b < n := by
  obtain ⟨F, G, a, N, B, R, rfl⟩ := R
  exact R.lt
theorem LgR.extW {W : Nat → Prop} (R : LgR h n lg d F G a N B X) (e : ExtW W n h h1) (hn : n ≤ n1) (hW : ∀ b, LgT lg F G a B b → ¬ W b) : LgR h1 n1 lg d F G a N B X := by
  have hl : ¬ W lg := hW lg (.inr (.inr (.inl rfl)))
  refine ⟨R.dk.extW e hn (fun b q => hW b (.inl q)) (fun b q => hW b (.inr (.inl q))), Nat.lt_of_lt_of_le R.hi hn, i_extW e R.hi hl R.inf, c_extW e R.hi hl R.c0, c_extW e R.hi hl R.c1, c_extW e R.hi hl R.c2, c_extW e R.hi hl R.c3, ?_, R.nl, fun x hx => (R.cm x hx).extW e hn (fun b q => hW b (.inr (.inr (.inr (.inr q))))), fun b q => ?_, R.lF, R.aF, R.gm, R.le, R.me⟩
  · exact (R.own.extW e (Nat.le_refl _) (Nat.le_refl _) fun q => hW _ (.inr (.inr (.inr (.inl ⟨q, rfl⟩))))).ext (Ext.refl _ _) hn
  · obtain ⟨q1, q2⟩ := R.bn b q
    exact ⟨by omega, q2⟩
theorem Lg.extW {W : Nat → Prop} (R : Lg h n lg d T X) (e : ExtW W n h h1) (hn : n ≤ n1) (hW : ∀ b, T b → ¬ W b) : Lg h1 n1 lg d T X := by
  obtain ⟨F, G, a, N, B, R, rfl⟩ := R
  exact ⟨F, G, a, N, B, R.extW e hn hW, rfl⟩
theorem Lg.ext (R : Lg h n lg d T X) (e : Ext n h h1) (hn : n ≤ n1) : Lg h1 n1 lg d T X := R.extW (ExtW.of e (Nat.le_refl _) : ExtW (fun _ => False) n h h1) hn (fun _ _ q => q)
theorem Lg.to (R : Lg h n lg d T X) : LgTo n lg d T h X n h := ⟨T, R, fun _ _ q => q, ExtW.refl _ _ _⟩
theorem LgTo.trans {T1 : Nat → Prop} (a : ExtW T n h h1) (hT : ∀ b, b < n → T1 b → T b) (hn : n ≤ n1) (b : LgTo n1 lg d T1 h1 X n2 h2) : LgTo n lg d T h X n2 h2 := by
  obtain ⟨T2, R, q1, q2⟩ := b
  exact ⟨T2, R, fun b hb q => hT b hb (q1 b (by omega) q), a.trans q2 hn hT⟩
theorem LgR.diskR {S' : Dk.DS} {F' G' : Nat → Prop} (R : LgR h n lg d F G a N B X) (D' : Dk.Dk h1 n1 d F' G' S') (hF : ∀ b, b < n → F' b → F b) (hG : ∀ b, b < n → G' b → G b) (e : ExtW F n h h1) (hn : n ≤ n1) : LgR h1 n1 lg d F' G' a N B { X with S := S' } := by
  have hlF := R.lF
  have hlt := R.hi
  refine ⟨D', Nat.lt_of_lt_of_le R.hi hn, i_extW e R.hi hlF.1 R.inf, c_extW e R.hi hlF.1 R.c0, c_extW e R.hi hlF.1 R.c1, c_extW e R.hi hlF.1 R.c2, c_extW e R.hi hlF.1 R.c3, ?_, R.nl, fun x hx => (R.cm x hx).extW e hn (fun b q => (R.bn b q).2.2.2), fun b q => ?_, ?_, fun b q => ?_, R.gm, R.le, R.me⟩
  · exact (R.own.extW e (Nat.le_refl _) (Nat.le_refl _) fun q => (R.aF _ ⟨q, rfl⟩).1).ext (Ext.refl _ _) hn
  · obtain ⟨q1, q2, q3, q4⟩ := R.bn b q
    exact ⟨by omega, q2, q3, fun q5 => q4 (hF b q1 q5)⟩
  · exact ⟨fun q => hlF.1 (hF _ hlt q), fun q => hlF.2.1 (hG _ hlt q), hlF.2.2⟩
  · obtain ⟨q1, q2⟩ := R.aF b q
    have := R.alt b q
    exact ⟨fun w => q1 (hF b this w), fun w => q2 (hG b this w)⟩
/-- The disk behind a log has been turned. -/
theorem LgR.disk {S' : Dk.DS} (R : LgR h n lg d F G a N B X) (D : Dk.DkTo n d F G h S' n1 h1) (hn : n ≤ n1) : LgTo n lg d (LgT lg F G a B) h { X with S := S' } n1 h1 := by
  obtain ⟨F', G', D', hF, hG, e⟩ := D
  refine ⟨LgT lg F' G' a B, ⟨F', G', a, N, B, R.diskR D' hF hG e hn, rfl⟩, ?_, e.mono (Nat.le_refl _) (fun b _ q => .inl q)⟩
  rintro b hb (q | q | q)
  · exact .inl (hF b hb q)
  · exact .inr (.inl (hG b hb q))
  · exact .inr (.inr q)
set_option maxHeartbeats 4000000 in
theorem noneN_ev : Ev Tryd.prog none' 42 #[.pointer none] n h (.bool true) n h := by
  refine RF.pure rfl fun n' hn => ?_
  refine RF.of Tryd.func42 rfl rfl (Nat.le_of_ble_eq_true rfl) ?_; dsimp only [argEnv]
  repeat' (first | refine stpS ?_ | (refine stp2 ?_ ?_ <;> intro _))
  rfl
set_option maxHeartbeats 4000000 in
theorem noneZ_ev (hlt : lg < n) (c0 : h.cell lg 0 = .pointer none) : Ev Tryd.prog none' 42 #[.pointer (some ⟨lg, 0, none⟩)] n h (.bool true) n h := by
  refine RF.pure rfl fun n' hn => ?_
  refine RF.of Tryd.func42 rfl rfl (Nat.le_of_ble_eq_true rfl) ?_; dsimp only [argEnv]
  repeat' (first | refine stpS ?_ | (refine stp2 ?_ ?_ <;> intro _))
  rfl
set_option maxHeartbeats 4000000 in
theorem none_ev (hlt : lg < n) (c0 : h.cell lg 0 = .pointer (some ⟨d, 0, none⟩)) : Ev Tryd.prog none' 42 #[.pointer (some ⟨lg, 0, none⟩)] n h (.bool false) n h := by
  refine RF.pure rfl fun n' hn => ?_
  refine RF.of Tryd.func42 rfl rfl (Nat.le_of_ble_eq_true rfl) ?_; dsimp only [argEnv]
  repeat' (first | refine stpS ?_ | (refine stp2 ?_ ?_ <;> intro _))
  rfl
set_option maxHeartbeats 4000000 in
theorem many_ev (R : Lg h n lg d T X) : Ev Tryd.prog none' 21 #[.pointer (some ⟨lg, 0, none⟩)] n h (.int .i64 (X.L.length : Nat)) n h := by
  refine RF.pure rfl fun n' hn => ?_
  refine RF.of Tryd.func21 rfl rfl (Nat.le_of_ble_eq_true rfl) ?_; dsimp only [argEnv]
  obtain ⟨F, G, a, N, B, R, rfl⟩ := R
  have hlt := R.hi
  have c0 := R.c0
  have c2 := R.c2
  repeat' (first | refine stpS ?_ | (refine stp2 ?_ ?_ <;> intro _))
  refine RS.call1 rfl opds (none_ev (by omega) c0) none'W ?_
  repeat' (first | refine stpS ?_ | (refine stp2 ?_ ?_ <;> intro _))
  rfl
set_option maxHeartbeats 4000000 in
theorem end_ev' (R : Lg h n lg d T X) : Ev Tryd.prog none' 18 #[.pointer (some ⟨lg, 0, none⟩)] n h (.int .i64 (X.e : Nat)) n h := by
  refine RF.pure rfl fun n' hn => ?_
  refine RF.of Tryd.func18 rfl rfl (Nat.le_of_ble_eq_true rfl) ?_; dsimp only [argEnv]
  obtain ⟨F, G, a, N, B, R, rfl⟩ := R
  have hlt := R.hi
  have c0 := R.c0
  have c3 := R.c3
  repeat' (first | refine stpS ?_ | (refine stp2 ?_ ?_ <;> intro _))
  refine RS.call1 rfl opds (none_ev (by omega) c0) none'W ?_
  repeat' (first | refine stpS ?_ | (refine stp2 ?_ ?_ <;> intro _))
  rfl
set_option maxHeartbeats 4000000 in
theorem gen_ev (R : Lg h n lg d T X) : Ev Tryd.prog none' 25 #[.pointer (some ⟨lg, 0, none⟩)] n h (.int .i64 X.gen) n h := by
  refine RF.pure rfl fun n' hn => ?_
  refine RF.of Tryd.func25 rfl rfl (Nat.le_of_ble_eq_true rfl) ?_; dsimp only [argEnv]
  obtain ⟨F, G, a, N, B, R, rfl⟩ := R
  have hlt := R.hi
  have c0 := R.c0
  have c1 := R.c1
  repeat' (first | refine stpS ?_ | (refine stp2 ?_ ?_ <;> intro _))
  refine RS.call1 rfl opds (none_ev (by omega) c0) none'W ?_
  repeat' (first | refine stpS ?_ | (refine stp2 ?_ ?_ <;> intro _))
  rfl
end
end Go.Proofs.YtfbddbpbifnhfaaDoor

/- Contracts of wal: the next commit. -/
namespace Go.Proofs.YtfbddbpbifnhfaaDoor
open Go.Abs Cd

theorem extX_extW {h h1 : AH} {n : Nat} {a : Option Addr} (E : ExtX n a h h1) : ExtW (inA a) n h h1 := by
  have : ∀ b, ¬ inA a b → a = none ∨ b ≠ sb a := fun b q => by
    by_cases z : a = none
    · exact .inl z
    · exact .inr fun w => q ⟨z, w⟩
  exact ⟨fun b hb q => (E b hb (this b q)).1, fun b i hb q => (E b hb (this b q)).2 i⟩
section
variable {h h1 h2 : AH} {n n1 n2 lg d : Nat} {F G B B1 T : Nat → Prop} {a a' : Option Addr} {N : List CmA} {X Y : LS}
/-- One more commit. -/
theorem LgR.push {k : Nat} {l : List (List UInt8)} {c : Option Addr} (R : LgR h n lg d F G a N B X) (C : CmR h n B1 c l) (hB1 : ∀ b, B1 b → b < n ∧ b ≠ lg ∧ ¬ inA a b ∧ ¬ F b) (E : ExtX n a h h1) (hn : n ≤ n1)
    (o : OwnSl h1 0 n1 a' 1 (X.L.length + 1) (lgC N ++ [.slice c l.length l.length])) (hw : a' = a ∨ n ≤ sb a') (hk : X.e + k ≤ 4194304) (hk1 : 1 ≤ k) :
    LgR ((h1.app (.sets lg 2 [.slice a' (X.L.length + 1) (X.L.length + 1)])).app (.sets lg 3 [.int .i64 (X.e + k : Nat)])) n1 lg d F G a' (N ++ [(c, l)]) (fun b => B b ∨ B1 b) { X with L := X.L ++ [l], e := X.e + k } := by
  have hlt := R.hi
  have hE : ExtW (fun b => b = lg ∨ inA a b) n h ((h1.app (.sets lg 2 [.slice a' (X.L.length + 1) (X.L.length + 1)])).app (.sets lg 3 [.int .i64 (X.e + k : Nat)])) :=
    ExtW.appSets (.inl (.inl rfl)) (ExtW.appSets (.inl (.inl rfl)) ((extX_extW E).mono (Nat.le_refl _) (fun b _ q => .inr q)))
  obtain ⟨l1, l2, l3⟩ := R.lF
  have hal : a = none ∨ lg ≠ sb a := by
    by_cases z : a = none
    · exact .inl z
    · exact .inr fun w => l3 ⟨z, w⟩
  have hal' : a' = none ∨ sb a' ≠ lg := by
    rcases hw with q | q
    · rw [q]; exact hal.imp id Ne.symm
    · exact .inr (by omega)
  have hin : ∀ b, b < n → inA a' b → inA a b := fun b hb q => by
    rcases hw with w | w
    · rw [w] at q; exact q
    · have := q.2; omega
  have i1 := i_extX E hlt hal R.inf
  have k0 := c_extX E hlt hal R.c0
  have k1 := c_extX E hlt hal R.c1
  have hnl : (N ++ [(c, l)]).map (·.2) = X.L ++ [l] := by rw [List.map_append, R.nl]; rfl
  have hle := R.le
  refine ⟨R.dk.extW hE hn (fun b q z => ?_) (fun b q z => ?_), by omega, info, cell, cell, ?_, cell, ?_, hnl, fun x hx => ?_, fun b q => ?_, ⟨l1, l2, fun q => l3 (hin _ hlt q)⟩, fun b q => ?_, R.gm, ?_, hk⟩
  · rcases z with z | z
    · rw [z] at q; exact l1 q
    · exact (R.aF b z).1 q
  · rcases z with z | z
    · rw [z] at q; exact l2 q
    · exact (R.aF b z).2 q
  · show _ = Value.slice a' (X.L ++ [l]).length (X.L ++ [l]).length
    rw [List.length_append]
    exact cell
  · show OwnSl _ 0 n1 a' 1 (X.L ++ [l]).length (lgC (N ++ [(c, l)]))
    rw [List.length_append, show lgC (N ++ [(c, l)]) = lgC N ++ [.slice c l.length l.length] by simp [lgC]]
    exact (o.setsN hal').setsN hal'
  · rcases List.mem_append.1 hx with q | q
    · refine ((R.cm x q).extW hE hn (fun b w z => ?_)).mono (fun b w => .inl w)
      obtain ⟨-, w1, w2, -⟩ := R.bn b w
      exact z.elim w1 w2
    · simp only [List.mem_cons, List.not_mem_nil, or_false] at q
      subst q
      refine (C.extW hE hn (fun b w z => ?_)).mono (fun b w => .inr w)
      obtain ⟨-, w1, w2, -⟩ := hB1 b w
      exact z.elim w1 w2
  · have : b < n ∧ b ≠ lg ∧ ¬ inA a b ∧ ¬ F b := q.elim (R.bn b) (hB1 b)
    exact ⟨by omega, this.2.1, fun z => this.2.2.1 (hin b this.1 z), this.2.2.2⟩
  · by_cases hb : b < n
    · exact R.aF b (hin b hb q)
    · exact ⟨fun z => hb (R.dk.ltF b z), fun z => hb (R.dk.ltG b z)⟩
  · show (X.L ++ [l]).length ≤ X.e + k
    rw [List.length_append]
    show X.L.length + 1 ≤ _
    omega
end
/-- What the bytes of the file say as the next commit: its records, and how many bytes it takes. -/
def nextP (gen : Int) (k e : Nat) (b : List UInt8) : Option (List (List UInt8) × Nat) :=
  if b.length < e + 512 then none else
  let r := (b.drop e).drop 512
  let x := mkd gen (k : Nat) ((b.drop e).take 512)
  let l := r.take x.1.toNat
  if x.2.2 = true ∧ x.1 ≤ (r.length : Nat) ∧ (recordsP l).2 = true ∧ (crc l : Nat) = x.2.1 ∧ ((fillB l).length ≤ r.length ∧ r.take (fillB l).length = fillB l) then some ((recordsP l).1, 512 + (fillB l).length) else none
def LS.next (X : LS) (b : List UInt8) : Option LS := (nextP X.gen X.L.length X.e b).map fun x => { X with L := X.L ++ [x.1], e := X.e + x.2 }
theorem mkd_ok {g s : Int} {b : List UInt8} (h : (mkd g s b).2.2 = true) : 0 ≤ (mkd g s b).1 ∧ (mkd g s b).1 ≤ 262144 ∧ 0 ≤ (mkd g s b).2.1 ∧ (mkd g s b).2.1 < 4294967296 ∧ may g ∧ may s ∧ b = markB g s (mkd g s b).1 (mkd g s b).2.1 := by
  rw [mkd_N] at h ⊢
  split at h
  · rename_i q
    obtain ⟨q1, q2, q3, q4, q5, q6, q7, q8, ⟨q9, q10⟩, q11⟩ := q
    rw [if_pos ⟨q1, q2, q3, q4, q5, q6, q7, q8, ⟨q9, q10⟩, q11⟩]
    exact ⟨q7, q8, q9, q10, q5, q6, q11⟩
  · cases h
theorem mkd_no {g s : Int} {b : List UInt8} (h : (mkd g s b).2.2 = false) : mkd g s b = (0, 0, false) := by
  rw [mkd_N] at h ⊢
  split at h
  · cases h
  · rename_i q
    rw [if_neg q]
end Go.Proofs.YtfbddbpbifnhfaaDoor

/- Contracts of wal: the next commit in the file. -/
namespace Go.Proofs.YtfbddbpbifnhfaaDoor
open Go.Abs Cd

section
variable {h : AH} {n lg d : Nat} {F G B : Nat → Prop} {a : Option Addr} {N : List CmA} {X : LS}
def NxTo (lg d : Nat) (F G B : Nat → Prop) (a : Option Addr) (X : LS) (b : List UInt8) (n : Nat) (h : AH) (r : Value) (n' : Nat) (h' : AH) : Prop :=
  r = .bool (X.next b).isSome ∧ ∃ a' N' B', LgR h' n' lg d F G a' N' B' ((X.next b).getD X) ∧ (∀ x, x < n → inA a' x → inA a x) ∧ (∀ x, x < n → B' x → B x) ∧ ExtW (fun x => x = lg ∨ inA a x) n h h'
set_option maxHeartbeats 4000000 in
theorem next_rf (R : LgR h n lg d F G a N B X) (b : List UInt8) (c : Option Addr) (S : SlB h n c b) (hc : c ≠ none → sb c ≠ lg ∧ ¬ inA a (sb c)) (hb : b.length ≤ 4194304) :
    RF Tryd.prog (fun x => x = lg ∨ inA a x) 39 #[.pointer (some ⟨lg, 0, none⟩), .slice c b.length b.length] n h (NxTo lg d F G B a X b n h) := by
  refine RF.of Tryd.func39 rfl rfl (Nat.le_of_ble_eq_true rfl) ?_; dsimp only [argEnv]
  have hlt := R.hi
  have c1 := R.c1
  have c2 := R.c2
  have c3 := R.c3
  have me := R.me
  have le := R.le
  have no : X.next b = none → ∀ {n' : Nat} {h' : AH}, n ≤ n' → Ext n h h' → NxTo lg d F G B a X b n h (.bool false) n' h' := fun q n' h' hn E => by
    unfold NxTo
    rw [q]
    exact ⟨rfl, a, N, B, R.extW (ExtW.of E (Nat.le_refl _) : ExtW (fun _ => False) n h h') hn (fun _ _ q => q), fun x _ q => q, fun x _ q => q, ExtW.of E (Nat.le_refl _)⟩
  have hD : X.next b = (nextP X.gen X.L.length X.e b).map fun x => { X with L := X.L ++ [x.1], e := X.e + x.2 } := rfl
  unfold nextP at hD
  by_cases p1 : b.length < X.e + 512
  · rw [if_pos p1] at hD
    repeat' (first | refine stpS ?_ | (refine stp2 ?_ ?_ <;> intro _))
    exact no hD (Nat.le_refl _) (Ext.refl _ _)
  rw [if_neg p1] at hD
  have hS1 : SlB h n (sub c X.e) (b.drop X.e) := by
    have := SlB.cut S (i := X.e) (u := b.length) (by omega) (Nat.le_refl _)
    rwa [List.take_length] at this
  have hS2 : SlB h n (sub c X.e) ((b.drop X.e).take 512) := SlB.take hS1 (u := 512) (by rw [List.length_drop]; omega)
  have hdl : (b.drop X.e).length = b.length - X.e := List.length_drop ..
  have hS3 : SlB h n (sub (sub c X.e) 512) ((b.drop X.e).drop 512) := by
    have := SlB.cut hS1 (i := 512) (u := (b.drop X.e).length) (by omega) (Nat.le_refl _)
    rwa [List.take_length] at this
  have hrl : ((b.drop X.e).drop 512).length = b.length - X.e - 512 := by rw [List.length_drop, hdl]
  have htl : ((b.drop X.e).take 512).length = 512 := by rw [List.length_take]; omega
  have hI1 : SlI h (sub c X.e) 1 (b.length - X.e) := by
    have := SlI.of hS1 (Ext.refl _ _)
    rwa [hdl] at this
  have hcn : sb (sub c X.e) < n := SlR.lt hS1 (by omega)
  have hmk := marked_ev X.gen (X.L.length : Nat) ((b.drop X.e).take 512) (sub c X.e) 512 n (h.below n) (hS2.ext (AH.below_ext _ _) (Nat.le_refl _)) htl.symm (by omega)
  have hok := @mkd_ok X.gen (X.L.length : Nat) ((b.drop X.e).take 512)
  have hno := @mkd_no X.gen (X.L.length : Nat) ((b.drop X.e).take 512)
  obtain ⟨r, hr⟩ : ∃ r, r = (b.drop X.e).drop 512 := ⟨_, rfl⟩
  obtain ⟨x, hx⟩ : ∃ x, x = mkd X.gen (X.L.length : Nat) ((b.drop X.e).take 512) := ⟨_, rfl⟩
  rw [← hr] at hS3 hrl hD
  rw [← hx] at hok hno hD hmk
  clear hx
  obtain ⟨m, s, ok⟩ := x
  dsimp only [mkV] at hok hno hD hmk
  obtain ⟨cr, hcr⟩ : ∃ cr, cr = sub (sub c X.e) 512 := ⟨_, rfl⟩
  have hst : (512 : Int).toNat = 512 := rfl
  rw [← hcr] at hS3
  repeat' (first | refine stpS ?_ | (refine stp2 ?_ ?_ <;> intro _))
  rw [Int.toNat_natCast]
  repeat' (first | refine stp ?_ | (refine stp2 ?_ ?_ <;> intro _))
  rw [hst]
  refine RD.callP n rfl opds hmk (Nat.le_refl _) cfc ?_
  repeat' (first | refine stp ?_ | (refine stp2 ?_ ?_ <;> intro _))
  rw [hst, ← hcr, ← hrl]
  cases ok with
  | false =>
    rw [if_neg (by rintro ⟨q, -⟩; cases q)] at hD
    repeat' (first | refine stpS ?_ | (refine stp2 ?_ ?_ <;> intro _))
    exact no hD (Nat.le_refl _) (Ext.refl _ _)
  | true =>
  obtain ⟨m1, m2, s1, s2, -, -, -⟩ := hok rfl
  obtain ⟨k, rfl⟩ : ∃ k : Nat, m = k := ⟨m.toNat, by omega⟩
  rw [Int.toNat_natCast] at hD
  by_cases p2 : k ≤ r.length
  rotate_left
  · rw [if_neg (by rintro ⟨-, q, -⟩; omega)] at hD
    repeat' (first | refine stpS ?_ | (refine stp2 ?_ ?_ <;> intro _))
    exact no hD (Nat.le_refl _) (Ext.refl _ _)
  obtain ⟨l, hl⟩ : ∃ l, l = r.take k := ⟨_, rfl⟩
  have hkl : k = l.length := by rw [hl, List.length_take]; omega
  have hSd : SlB h n cr l := by rw [hl]; exact SlB.take hS3 p2
  have hlb : l.length ≤ 262144 := by omega
  rw [← hl] at hD
  clear hl
  subst hkl
  have hD : X.next b = if (recordsP l).2 = true ∧ (crc l : Nat) = s ∧ ((fillB l).length ≤ r.length ∧ r.take (fillB l).length = fillB l) then some { X with L := X.L ++ [(recordsP l).1], e := X.e + (512 + (fillB l).length) } else none := by
    rw [hD]
    by_cases q : (recordsP l).2 = true ∧ (crc l : Nat) = s ∧ ((fillB l).length ≤ r.length ∧ r.take (fillB l).length = fillB l)
    · rw [if_pos q, if_pos ⟨rfl, by omega, q⟩]; rfl
    · rw [if_neg q, if_neg (fun z => q z.2.2)]; rfl
  repeat' (first | refine stpS ?_ | (refine stp2 ?_ ?_ <;> intro _))
  simp only [Int.toNat_natCast]
  refine RS.call rfl opds (filled_rf l cr l.length n h hSd rfl (by omega)) none'W ?_
  rintro v n1 h1 k1 ⟨af, rfl, E1, O1⟩
  repeat' (first | refine stpS ?_ | (refine stp2 ?_ ?_ <;> intro _))
  simp only [Int.toNat_natCast]
  refine RS.call rfl opds (records_rf l cr l.length n1 h1 (hSd.ext E1 k1) rfl (by omega)) none'W ?_
  rintro v n2 h2 k2 ⟨a2, M, rfl, E2, C2, hM⟩
  have E2' : Ext n h h2 := E1.trans k1 E2
  by_cases p3 : (recordsP l).2 = true
  rotate_left
  · rw [if_neg (fun z => p3 z.1)] at hD
    have p3 : (recordsP l).2 = false := by simpa using p3
    rw [p3]
    repeat' (first | refine stpS ?_ | (refine stp2 ?_ ?_ <;> intro _))
    exact no hD (by omega) E2'
  rw [p3]
  repeat' (first | refine stpS ?_ | (refine stp2 ?_ ?_ <;> intro _))
  simp only [Int.toNat_natCast]
  refine RS.gen (fun g => SlQ g (n2 + 1) (some ⟨n2, 0, none⟩) (fun j => (([(cr, l)] : List (Option Addr × List UInt8)).getD j (none, [])).1) [l] ∧ Ext n2 h2 g) ⟨slq_new [(cr, l)] (fun x hx => by simp only [List.mem_singleton] at hx; subst hx; exact hSd.ext E2' (by omega)), ext⟩ ?_
  rintro g ⟨hQ, E3⟩
  have hsum := sum_ev [l] _ _ 1 (n2 + 1) g hQ rfl (by omega) (by simp; omega)
  rw [show [l].flatten = l by simp] at hsum
  refine RS.call1 rfl opds hsum none'W ?_
  have hcl := crc_lt l
  have E3' : Ext n h g := E2'.trans (by omega) E3
  by_cases p4 : ((crc l : Nat) : Int) = s
  rotate_left
  · rw [if_neg (fun z => p4 z.2.1)] at hD
    repeat' (first | refine stpS ?_ | (refine stp2 ?_ ?_ <;> intro _))
    exact no hD (by omega) E3'
  have hpf := hasPrefix_ev r (fillB l) cr af r.length (fillB l).length (n2 + 1) g (hS3.ext E3' (by omega)) ((O1.slb.ext E2 k2).ext E3 (by omega)) rfl rfl
  by_cases p5 : (fillB l).length ≤ r.length ∧ r.take (fillB l).length = fillB l
  rotate_left
  · rw [if_neg (fun z => p5 z.2.2)] at hD
    rw [decide_eq_false p5] at hpf
    repeat' (first | refine stpS ?_ | (refine stp2 ?_ ?_ <;> intro _))
    refine RS.call1 rfl opds hpf none'W ?_
    repeat' (first | refine stpS ?_ | (refine stp2 ?_ ?_ <;> intro _))
    exact no hD (by omega) E3'
  rw [decide_eq_true p5] at hpf
  rw [if_pos ⟨p3, p4, p5⟩] at hD
  have c0' := c_ext E3' hlt c2
  have c3' := c_ext E3' hlt c3
  repeat' (first | refine stpS ?_ | (refine stp2 ?_ ?_ <;> intro _))
  refine RS.call1 rfl opds hpf none'W ?_
  repeat' (first | refine stpS ?_ | (refine stp2 ?_ ?_ <;> intro _))
  obtain ⟨g8, hg⟩ : ∃ g8, g8 = g.app (.new (n2 + 1) ⟨1, 0, true, 1⟩ [.slice a2 M.length M.length]) := ⟨_, rfl⟩
  refine RS.heap hg ?_
  have E8 : Ext (n2 + 1) g g8 := by rw [hg]; exact ext
  have hnew : OwnSl g8 (n2 + 1) (n2 + 1 + 1) (some ⟨n2 + 1, 0, none⟩) 1 1 [.slice a2 M.length M.length] := by rw [hg]; exact OwnSl.new (m := 1) (z := 1) (Nat.le_refl _) rfl rfl
  clear hg
  have E8' : Ext n h g8 := E3'.trans (by omega) E8
  have R8 : LgR g8 (n2 + 1 + 1) lg d F G a N B X := R.extW (ExtW.of E8' (Nat.le_refl _) : ExtW (fun _ => False) n h g8) (by omega) (fun _ _ q => q)
  refine RS.appendT rfl opd opd R8.own hnew.src full_slice (fun q => .inl (.inr ⟨q, rfl⟩)) (by omega) ?_
  intro a' n9 h9 hle9 hO9 hX9 hwh
  have hlM : ∀ x : Value, x = .slice a2 M.length M.length → x = .slice a2 (M.map (·.2)).length (M.map (·.2)).length := fun x q => by rw [q, List.length_map]
  have hO9' := hO9
  rw [hlM _ rfl] at hO9'
  have hal : a = none ∨ lg ≠ sb a := by
    by_cases z : a = none
    · exact .inl z
    · exact .inr fun w => R.lF.2.2 ⟨z, w⟩
  have i9 := i_extX hX9 (by omega) hal R8.inf
  have c39 := c_extX hX9 (by omega) hal R8.c3
  have hC8 : CmR g8 (n2 + 1 + 1) (fun b => n1 ≤ b ∧ b < n2) a2 (M.map (·.2)) := C2.cmr.extW (ExtW.of (E3.trans (by omega) E8) (Nat.le_refl _) : ExtW (fun _ => False) n2 h2 g8) (by omega) (fun _ _ q => q)
  have hbl : X.e + (512 + (fillB l).length) ≤ 4194304 := by omega
  have hP := LgR.push R8 hC8 (fun b q => ⟨by omega, by omega, fun z => by have := R.alt b z; omega, fun z => by have := R.dk.ltF b z; omega⟩) hX9 hle9 hO9' (hwh.imp id (by omega)) hbl (by omega)
  have hN : ((X.e : Int) + (512 + ((fillB l).length : Nat))) = ((X.e + (512 + (fillB l).length) : Nat) : Int) := by omega
  have hEW : ExtW (fun x => x = lg ∨ inA a x) n h h9 := (ExtW.of E8' (Nat.le_refl _)).trans ((extX_extW hX9).mono (Nat.le_refl _) (fun b _ q => .inr q)) (by omega) (fun _ _ q => q)
  repeat' (first | refine stpS ?_ | (refine stp2 ?_ ?_ <;> intro _))
  rw [hN]
  unfold NxTo
  rw [hD, ← hM]
  refine ⟨rfl, a', N ++ [(a2, M.map (·.2))], _, hP, fun x hx q => ?_, fun x hx q => ?_, ExtW.appSets (.inl (.inl rfl)) (ExtW.appSets (.inl (.inl rfl)) hEW)⟩
  · rcases hwh with w | w
    · rw [w] at q; exact q
    · have := q.2; omega
  · rcases q with q | q
    · exact q
    · omega
end
end Go.Proofs.YtfbddbpbifnhfaaDoor

/- Contracts of wal: a log is opened. -/
namespace Go.Proofs.YtfbddbpbifnhfaaDoor
open Go.Abs Cd

theorem next_facts {X Y : LS} {b : List UInt8} (h : X.next b = some Y) : X.e + 512 ≤ Y.e ∧ Y.e ≤ b.length ∧ Y.S = X.S ∧ Y.gen = X.gen ∧ ∃ l, Y.L = X.L ++ [l] := by
  unfold LS.next at h
  obtain ⟨x, h1, h2⟩ := Option.map_eq_some_iff.1 h
  unfold nextP at h1
  split at h1
  · cases h1
  rename_i q
  simp only at h1
  split at h1
  · rename_i q2
    obtain ⟨-, -, -, -, q3, -⟩ := q2
    rw [List.length_drop, List.length_drop] at q3
    cases h1
    subst h2
    refine ⟨by show X.e + 512 ≤ X.e + (512 + _); omega, ?_, rfl, rfl, _, rfl⟩
    show X.e + (512 + _) ≤ _
    omega
  · cases h1
/-- All commits that the file's bytes say, one behind the other. -/
def LS.scan : Nat → LS → List UInt8 → LS
  | 0, X, _ => X
  | k + 1, X, b => match X.next b with
    | none => X
    | some Y => LS.scan k Y b
theorem scan_none {X : LS} {b : List UInt8} (h : X.next b = none) (k : Nat) : X.scan k b = X := by
  cases k with
  | zero => rfl
  | succ k => unfold LS.scan; rw [h]
theorem scan_some {X Y : LS} {b : List UInt8} (h : X.next b = some Y) (k : Nat) : X.scan (k + 1) b = Y.scan k b := by
  rw [LS.scan, h]
theorem scan_fuel (b : List UInt8) : ∀ (k k' : Nat) (X : LS), b.length - X.e ≤ k → b.length - X.e ≤ k' → X.scan k b = X.scan k' b := by
  intro k
  induction k with
  | zero =>
    intro k' X h1 h2
    cases hn : X.next b with
    | none => rw [scan_none hn, scan_none hn]
    | some Y => obtain ⟨q1, q2, -⟩ := next_facts hn; omega
  | succ k ih =>
    intro k' X h1 h2
    cases hn : X.next b with
    | none => rw [scan_none hn, scan_none hn]
    | some Y =>
      obtain ⟨q1, q2, -⟩ := next_facts hn
      obtain ⟨j, rfl⟩ : ∃ j, k' = j + 1 := ⟨k' - 1, by omega⟩
      rw [scan_some hn, scan_some hn]
      exact ih j Y (by omega) (by omega)
theorem scan_S (b : List UInt8) : ∀ (k : Nat) (X : LS), (X.scan k b).S = X.S := by
  intro k
  induction k with
  | zero => intro X; rfl
  | succ k ih =>
    intro X
    cases hn : X.next b with
    | none => rw [scan_none hn]
    | some Y =>
      rw [scan_some hn, ih Y]
      exact (next_facts hn).2.2.1
/-- What the bytes of the file say as a log of a generation. -/
def logOf (S : Dk.DS) (gen : Int) (b : List UInt8) : LS := LS.scan b.length ⟨S, gen, [], 0⟩ b
/-- The disk behind a cut and a sync of the log's file. -/
def cutD (S : Dk.DS) (k : Nat) : Int × Dk.DS :=
  if (S.truncate 1 k).1 ≠ 0 then S.truncate 1 k else (S.truncate 1 k).2.sync 1
def openP (S : Dk.DS) (gen : Int) : Int × LS :=
  if ¬ may gen then (1, ⟨S, gen, [], 0⟩) else
  if S.may 1 ≠ 0 then (S.may 1, ⟨S, gen, [], 0⟩) else
  let X := logOf S gen (S.now 1)
  if (S.now 1).length = X.e then (0, X) else ((cutD S X.e).1, { X with S := (cutD S X.e).2 })
/-- What Open answers. -/
def OpTo (d : Nat) (F G : Nat → Prop) (S : Dk.DS) (gen : Int) (n : Nat) (h : AH) (r : Value) (n' : Nat) (h' : AH) : Prop :=
  ((openP S gen).1 = 0 ∧ ∃ lg T, r = .tuple #[.pointer (some ⟨lg, 0, none⟩), .int .i64 0] ∧ Lg h' n' lg d T (openP S gen).2 ∧ (∀ b, b < n → T b → F b ∨ G b) ∧ ExtW F n h h') ∨
  ((openP S gen).1 ≠ 0 ∧ r = .tuple #[.pointer none, .int .i64 (openP S gen).1] ∧ Dk.DkTo n d F G h (openP S gen).2.S n' h')
theorem may_le {S : Dk.DS} : (S.now 1).length = (S.now 1).length := rfl
theorem dkTo_ext {h h1 : AH} {n n1 d : Nat} {F G : Nat → Prop} {S : Dk.DS} (D : Dk.Dk h n d F G S) (E : Ext n h h1) (hn : n ≤ n1) : Dk.DkTo n d F G h S n1 h1 :=
  ⟨F, G, D.ext E hn, fun _ _ q => q, fun _ _ q => q, ExtW.of E (Nat.le_refl _)⟩
theorem ends_b (S : Dk.DS) : S.ends.2.ps.length ≤ S.ps.length ∧ S.ends.2.calls ≤ S.calls + 1 := by
  unfold Dk.DS.ends
  split
  · exact ⟨Nat.le_refl _, Int.le_refl _⟩
  · split
    · exact ⟨Nat.le_refl _, Int.le_refl _⟩
    · exact ⟨Nat.zero_le _, Int.le_refl _⟩
theorem trunc_b (S : Dk.DS) (f k : Int) : (S.truncate f k).2.ps.length ≤ S.ps.length + 1 ∧ (S.truncate f k).2.calls ≤ S.calls + 1 := by
  unfold Dk.DS.truncate
  split
  · exact ⟨Nat.le_succ _, by show S.calls ≤ _; omega⟩
  · split
    · exact ⟨Nat.le_succ _, by show S.calls ≤ _; omega⟩
    · obtain ⟨q1, q2⟩ := ends_b (S.done ⟨f.toNat, true, k.toNat, []⟩)
      refine ⟨?_, q2⟩
      have : (S.done ⟨f.toNat, true, k.toNat, []⟩).ps.length = S.ps.length + 1 := by simp [Dk.DS.done]
      omega
set_option maxHeartbeats 4000000 in
theorem open_rf {h : AH} {n d : Nat} {F G : Nat → Prop} {S : Dk.DS} (D : Dk.Dk h n d F G S) (gen : Int) (hps : S.ps.length < 1099511627775) (hcl : S.calls < 4611686018427387900) (hn0 : 0 < n) :
    RF Tryd.prog F 15 #[.pointer (some ⟨d, 0, none⟩), .int .i64 gen] n h (OpTo d F G S gen n h) := by
  refine RF.of Tryd.func15 rfl rfl (Nat.le_of_ble_eq_true rfl) ?_; dsimp only [argEnv]
  have hsz := Dk.size_dk D 1
  have hm2 : S.may 1 = 0 ∨ S.may 1 = 6 := by
    unfold Dk.DS.may
    split
    · exact .inr rfl
    · rw [if_neg (by omega)]; exact .inl rfl
  obtain ⟨sz, hsz0⟩ : ∃ sz : Int, sz = if S.may 1 = 0 then ((S.now (1 : Int).toNat).length : Int) else 0 := ⟨_, rfl⟩
  rw [← hsz0] at hsz
  have hmg := may_ev gen n h
  obtain ⟨my, hmy⟩ : ∃ my, my = S.may 1 := ⟨_, rfl⟩
  rw [← hmy] at hsz hm2
  have hD0 : openP S gen = if ¬ may gen then (1, ⟨S, gen, [], 0⟩) else if my ≠ 0 then (my, ⟨S, gen, [], 0⟩) else
      if (S.now 1).length = (logOf S gen (S.now 1)).e then (0, logOf S gen (S.now 1)) else ((cutD S (logOf S gen (S.now 1)).e).1, { logOf S gen (S.now 1) with S := (cutD S (logOf S gen (S.now 1)).e).2 }) := by rw [hmy]; rfl
  repeat' (first | refine stpS ?_ | (refine stp2 ?_ ?_ <;> intro _))
  refine RS.call1 rfl opds hsz none'W ?_
  by_cases pg : may gen
  rotate_left
  · rw [if_pos pg] at hD0
    rw [decide_eq_false pg] at hmg
    repeat' (first | refine stpS ?_ | (refine stp2 ?_ ?_ <;> intro _))
    refine RS.call1 rfl opds hmg none'W ?_
    repeat' (first | refine stpS ?_ | (refine stp2 ?_ ?_ <;> intro _))
    unfold OpTo
    rw [hD0]
    exact .inr ⟨by show (1 : Int) ≠ 0; decide, rfl, D.to⟩
  rw [if_neg (fun z => z pg)] at hD0
  rw [decide_eq_true pg] at hmg
  repeat' (first | refine stpS ?_ | (refine stp2 ?_ ?_ <;> intro _))
  refine RS.call1 rfl opds hmg none'W ?_
  repeat' (first | refine stpS ?_ | (refine stp2 ?_ ?_ <;> intro _))
  refine RS.call rfl opds (Dk.read_dk D 1 0 4194304) none'W ?_
  rintro r n1 h1 k1 ⟨c, rfl, E1, O1⟩
  have hrd : S.read 1 0 4194304 = if my ≠ 0 then (my, []) else (0, S.now 1) := by
    unfold Dk.DS.read
    rw [← hmy]
    split
    · rfl
    · have := D.ok.now 1
      rw [if_neg (by omega)]
      show (0, ((S.now 1).drop 0).take 4194304) = _
      rw [List.drop_zero, List.take_of_length_le (by omega)]
  rw [hrd] at O1 ⊢
  by_cases pm : my = 0
  rotate_left
  · rw [if_pos pm] at hD0 O1 ⊢
    repeat' (first | refine stpS ?_ | (refine stp2 ?_ ?_ <;> intro _))
    unfold OpTo
    rw [hD0]
    exact .inr ⟨pm, rfl, dkTo_ext D E1 k1⟩
  rw [if_neg (fun z => z pm)] at hD0 O1 ⊢
  dsimp only at O1 ⊢
  have hbl : (S.now 1).length ≤ 4194304 := D.ok.now 1
  obtain ⟨b, hb⟩ : ∃ b, b = S.now 1 := ⟨_, rfl⟩
  rw [← hb] at hD0 O1 hbl ⊢
  have hcb : c ≠ none → n ≤ sb c ∧ sb c < n1 := fun q => O1.at'.resolve_left q
  repeat' (first | refine stpS ?_ | (refine stp2 ?_ ?_ <;> intro _))
  have R0 : LgR (h1.app (.new n1 ⟨4, 0, true, 0⟩ [.pointer (some ⟨d, 0, none⟩), .int .i64 gen, .slice none 0 0, .int .i64 0])) (n1 + 1) n1 d F G none [] (fun _ => False) ⟨S, gen, [], 0⟩ :=
    ⟨D.ext (E1.trans k1 ext) (by omega), by omega, info, cell, cell, cell, cell, OwnSl.nil (Nat.zero_le _), rfl, fun x hx => (by cases hx), fun b q => q.elim, ⟨fun q => by have := D.ltF _ q; omega, fun q => by have := D.ltG _ q; omega, fun q => q.1 rfl⟩, fun b q => absurd rfl q.1, pg, Nat.le_refl _, Nat.zero_le _⟩
  have E0 : Ext n h (h1.app (.new n1 ⟨4, 0, true, 0⟩ [.pointer (some ⟨d, 0, none⟩), .int .i64 gen, .slice none 0 0, .int .i64 0])) := E1.trans k1 ext
  have S0 : SlB (h1.app (.new n1 ⟨4, 0, true, 0⟩ [.pointer (some ⟨d, 0, none⟩), .int .i64 gen, .slice none 0 0, .int .i64 0])) (n1 + 1) c b := O1.slb.ext ext (by omega)
  refine RC.loop ?_
  refine RL.inv (α := LS × Option Addr × List CmA × (Nat → Prop)) (fun u => [(10, .pointer (some ⟨n1, 0, none⟩)), (8, .slice c b.length b.length), (0, .pointer (some ⟨d, 0, none⟩))])
    (fun u n2 h2 => n1 + 1 ≤ n2 ∧ LgR h2 n2 n1 d F G u.2.1 u.2.2.1 u.2.2.2 u.1 ∧ SlB h2 n2 c b ∧ (∀ x, inA u.2.1 x → n1 < x) ∧ (∀ x, u.2.2.2 x → n1 < x) ∧ u.1.scan (b.length - u.1.e) b = logOf S gen b ∧ Ext n h h2 ∧ u.1.S = S)
    (fun u => b.length - u.1.e) (⟨S, gen, [], 0⟩, none, [], fun _ => False) envs ⟨Nat.le_refl _, R0, S0, fun x q => absurd rfl q.1, fun x q => q.elim, rfl, E0, rfl⟩ ?_
  rintro ⟨X, a, N, B⟩ n2 h2 ⟨hn2, R, S2, ha, hB, hsc, E2, hXS⟩
  dsimp only at R S2 ha hB hsc hXS ⊢
  repeat' (first | refine stpS ?_ | (refine stp2 ?_ ?_ <;> intro _))
  refine RS.call rfl opds (next_rf R b c S2 (fun q => ⟨by have := hcb q; omega, fun w => by have := ha _ w; have := hcb q; omega⟩) hbl) (fun x hx => .inr (by rcases hx with q | q; omega; have := ha x q; omega)) ?_
  rintro r n3 h3 k3 ⟨rfl, a', N', B', R3, ha3, hB3, e3⟩
  have E3 : Ext n h h3 := E2.viaW e3 (by omega) (fun x hx => by rcases hx with q | q; omega; have := ha x q; omega)
  have hW3 : ∀ x, inA a' x → n1 < x := fun x q => by
    by_cases w : x < n2
    · exact ha x (ha3 x w q)
    · omega
  have hB3' : ∀ x, B' x → n1 < x := fun x q => by
    by_cases w : x < n2
    · exact hB x (hB3 x w q)
    · omega
  cases hnx : X.next b with
  | some Y =>
    rw [hnx] at R3
    dsimp only [Option.getD_some, Option.isSome_some] at R3 ⊢
    obtain ⟨q1, q2, q3, q4, -⟩ := next_facts hnx
    repeat' (first | refine stpS ?_ | (refine stp2 ?_ ?_ <;> intro _))
    refine nextC.normal ⟨(Y, a', N', B'), by dsimp only; omega, envs, by omega, R3, S2.extW e3 k3 (fun q w => ?_), hW3, hB3', ?_, E3, by rw [← hXS]; exact q3⟩
    · have := hcb q
      rcases w with w | w
      · omega
      · have := ha _ w; omega
    · rw [← hsc]
      obtain ⟨j, hj⟩ : ∃ j, b.length - X.e = j + 1 := ⟨b.length - X.e - 1, by omega⟩
      rw [hj, scan_some hnx]
      exact scan_fuel b _ _ Y (Nat.le_refl _) (by omega)
  | none =>
    rw [hnx] at R3
    dsimp only [Option.getD_none, Option.isSome_none] at R3 ⊢
    rw [scan_none hnx] at hsc
    rw [← hsc] at hD0
    have hlt3 := R3.hi
    have c33 := R3.c3
    have hTn : ∀ x, x < n → LgT n1 F G a' B' x → F x ∨ G x := fun x hx q => by
      rcases q with q | q | q | q | q
      · exact .inl q
      · exact .inr q
      · omega
      · have := hW3 x q; omega
      · have := hB3' x q; omega
    by_cases pe : b.length = X.e
    · rw [if_pos pe] at hD0
      repeat' (first | refine stpS ?_ | (refine stp2 ?_ ?_ <;> intro _))
      unfold OpTo
      rw [hD0]
      exact .inl ⟨rfl, n1, _, rfl, ⟨F, G, a', N', B', R3, rfl⟩, hTn, ExtW.of E3 (Nat.le_refl _)⟩
    rw [if_neg pe] at hD0
    have D3 : Dk.Dk h3 n3 d F G S := hXS ▸ R3.dk
    obtain ⟨tb1, tb2⟩ := trunc_b S 1 (X.e : Nat)
    have hcut : cutD S X.e = if (S.truncate 1 (X.e : Nat)).1 ≠ 0 then S.truncate 1 (X.e : Nat) else (S.truncate 1 (X.e : Nat)).2.sync 1 := rfl
    repeat' (first | refine stpS ?_ | (refine stp2 ?_ ?_ <;> intro _))
    refine RS.call rfl opds (Dk.truncate_dk D3 (by omega) (by omega) 1 (X.e : Nat)) (fun x hx => .inl hx) ?_
    rintro r n4 h4 k4 ⟨rfl, D4⟩
    have D4' : Dk.DkTo n d F G h (S.truncate 1 (X.e : Nat)).2 n4 h4 := Dk.DkTo.trans (ExtW.of E3 (Nat.le_refl _)) (fun _ _ q => q) (fun _ _ q => q) (by omega) D4
    obtain ⟨t, ht⟩ : ∃ t, t = S.truncate 1 (X.e : Nat) := ⟨_, rfl⟩
    rw [← ht] at D4 D4' hcut tb1 tb2 ⊢
    clear ht
    obtain ⟨t1, t2⟩ := t
    dsimp only at D4 D4' hcut tb1 tb2 ⊢
    by_cases pt : t1 = 0
    rotate_left
    · rw [if_pos pt] at hcut
      rw [hcut] at hD0
      repeat' (first | refine stpS ?_ | (refine stp2 ?_ ?_ <;> intro _))
      unfold OpTo
      rw [hD0]
      exact .inr ⟨pt, rfl, D4'⟩
    rw [if_neg (fun z => z pt)] at hcut
    obtain ⟨F4, G4, D4d, hF4, hG4, e4⟩ := D4
    have R4 := R3.diskR D4d hF4 hG4 e4 k4
    repeat' (first | refine stpS ?_ | (refine stp2 ?_ ?_ <;> intro _))
    refine RS.call rfl opds (Dk.sync_dk D4d (by omega) (by omega) 1) (fun x hx => ?_) ?_
    · by_cases w : x < n3
      · exact .inl (hF4 x w hx)
      · exact .inr (by omega)
    rintro r n5 h5 k5 ⟨rfl, D5⟩
    have D5' : Dk.DkTo n d F G h (t2.sync 1).2 n5 h5 := Dk.DkTo.trans ((ExtW.of E3 (Nat.le_refl _)).trans e4 (by omega) (fun _ _ q => q)) (fun x hx q => hF4 x (by omega) q) (fun x hx q => hG4 x (by omega) q) (by omega) D5
    obtain ⟨y, hy⟩ : ∃ y, y = t2.sync 1 := ⟨_, rfl⟩
    rw [← hy] at D5 D5' hcut ⊢
    clear hy
    obtain ⟨y1, y2⟩ := y
    dsimp only at D5 D5' hcut ⊢
    rw [hcut] at hD0
    by_cases py : y1 = 0
    rotate_left
    · repeat' (first | refine stpS ?_ | (refine stp2 ?_ ?_ <;> intro _))
      unfold OpTo
      rw [hD0]
      exact .inr ⟨py, rfl, D5'⟩
    subst py
    obtain ⟨F5, G5, D5d, hF5, hG5, e5⟩ := D5
    have R5 := R4.diskR D5d hF5 hG5 e5 k5
    repeat' (first | refine stpS ?_ | (refine stp2 ?_ ?_ <;> intro _))
    unfold OpTo
    rw [hD0]
    refine .inl ⟨rfl, n1, _, rfl, ⟨F5, G5, a', N', B', R5, rfl⟩, fun x hx q => hTn x hx ?_, ?_⟩
    · rcases q with q | q | q
      · exact .inl (hF4 x (by omega) (hF5 x (by omega) q))
      · exact .inr (.inl (hG4 x (by omega) (hG5 x (by omega) q)))
      · exact .inr (.inr q)
    · exact ((ExtW.of E3 (Nat.le_refl _)).trans e4 (by omega) (fun _ _ q => q)).trans e5 (by omega) (fun x hx q => hF4 x (by omega) q)
end Go.Proofs.YtfbddbpbifnhfaaDoor

/- Contracts of wal: a commit's mark. -/
namespace Go.Proofs.YtfbddbpbifnhfaaDoor
open Go.Abs Cd

/-- The mark of data. -/
def markD (g s : Int) (l : List UInt8) : List UInt8 := markB g s (l.length : Nat) (crc l : Nat)
def mayMark (g s : Int) (l : List UInt8) : Prop := may g ∧ may s ∧ l.length ≤ 262144
instance (g s : Int) (l : List UInt8) : Decidable (mayMark g s l) := inferInstanceAs (Decidable (_ ∧ _))
/-- A mark, or why there is none. -/
def MkTo (g s : Int) (l : List UInt8) (n : Nat) (h : AH) (r : Value) (n' : Nat) (h' : AH) : Prop :=
  ∃ a', r = .tuple #[.slice a' (if mayMark g s l then markD g s l else []).length (if mayMark g s l then markD g s l else []).length, .int .i64 (if mayMark g s l then 0 else 1)] ∧ Ext n h h' ∧
    OwnSl h' n n' a' 1 (if mayMark g s l then markD g s l else []).length (bytesV (if mayMark g s l then markD g s l else []))
set_option maxHeartbeats 4000000 in
theorem mark_rf (g s : Int) (l : List UInt8) (a : Option Addr) (m n : Nat) (h : AH) (S : SlB h n a l) (e : m = l.length) (hm : m ≤ 1073741824) :
    RF Tryd.prog none' 7 #[.int .i64 g, .int .i64 s, .slice a m m] n h (MkTo g s l n h) := by
  subst e
  refine RF.of Tryd.func7 rfl rfl (Nat.le_of_ble_eq_true rfl) ?_; dsimp only [argEnv]
  have mg := may_ev g n h
  have ms := may_ev s n h
  have no : ¬ mayMark g s l → ∀ {h' : AH}, Ext n h h' → MkTo g s l n h (.tuple #[.slice none 0 0, .int .i64 1]) n h' := fun q h' E => by
    unfold MkTo
    simp only [if_neg q]
    exact ⟨none, rfl, E, OwnSl.nil (Nat.le_refl _)⟩
  by_cases pg : may g
  rotate_left
  · rw [decide_eq_false pg] at mg
    repeat' (first | refine stpS ?_ | (refine stp2 ?_ ?_ <;> intro _) | refine RS.call1 rfl opds (mg) none'W ?_ | refine RS.call1 rfl opds (ms) none'W ?_)
    exact no (fun q => pg q.1) (Ext.refl _ _)
  rw [decide_eq_true pg] at mg
  by_cases ps : may s
  rotate_left
  · rw [decide_eq_false ps] at ms
    repeat' (first | refine stpS ?_ | (refine stp2 ?_ ?_ <;> intro _))
    refine RS.call1 rfl opds mg none'W ?_
    repeat' (first | refine stpS ?_ | (refine stp2 ?_ ?_ <;> intro _))
    refine RS.call1 rfl opds ms none'W ?_
    repeat' (first | refine stpS ?_ | (refine stp2 ?_ ?_ <;> intro _))
    exact no (fun q => ps q.2.1) (Ext.refl _ _)
  rw [decide_eq_true ps] at ms
  repeat' (first | refine stpS ?_ | (refine stp2 ?_ ?_ <;> intro _))
  refine RS.call1 rfl opds mg none'W ?_
  repeat' (first | refine stpS ?_ | (refine stp2 ?_ ?_ <;> intro _))
  refine RS.call1 rfl opds ms none'W ?_
  by_cases pl : l.length ≤ 262144
  rotate_left
  · repeat' (first | refine stpS ?_ | (refine stp2 ?_ ?_ <;> intro _))
    exact no (fun q => pl q.2.2) (Ext.refl _ _)
  have hy : mayMark g s l := ⟨pg, ps, pl⟩
  repeat' (first | refine stpS ?_ | (refine stp2 ?_ ?_ <;> intro _))
  refine RS.gen (fun g => SlQ g (n + 1) (some ⟨n, 0, none⟩) (fun j => (([(a, l)] : List (Option Addr × List UInt8)).getD j (none, [])).1) [l] ∧ Ext n h g) ⟨slq_new [(a, l)] (fun x hx => by simp only [List.mem_singleton] at hx; subst hx; exact S), ext⟩ ?_
  rintro h2 ⟨hQ, E2⟩
  have hsum := sum_ev [l] _ _ 1 (n + 1) h2 hQ rfl (by omega) (by simp; omega)
  rw [show [l].flatten = l by simp] at hsum
  refine RS.call1 rfl opds hsum none'W ?_
  have hc := crc_lt l
  refine RS.call rfl opds (sector_rf g s (l.length : Nat) (crc l : Nat) pg.i64 ps.i64 ⟨by omega, by omega⟩ (by omega) (by omega) (n + 1) h2) none'W ?_
  rintro r n3 h3 k3 ⟨a3, rfl, E3, O3⟩
  repeat' (first | refine stpS ?_ | (refine stp2 ?_ ?_ <;> intro _))
  unfold MkTo
  simp only [if_pos hy]
  exact ⟨a3, rfl, E2.trans (by omega) E3, O3.mono (by omega)⟩
set_option maxHeartbeats 4000000 in
theorem refMark_rf (g s : Int) (l : List UInt8) (a : Option Addr) (m n : Nat) (h : AH) (S : SlB h n a l) (e : m = l.length) (hm : m ≤ 1073741824) :
    RF Tryd.prog none' 8 #[.int .i64 g, .int .i64 s, .slice a m m] n h (MkTo g s l n h) := by
  subst e
  refine RF.of Tryd.func8 rfl rfl (Nat.le_of_ble_eq_true rfl) ?_; dsimp only [argEnv]
  have mg := refMay_ev g n h
  have ms := refMay_ev s n h
  have no : ¬ mayMark g s l → ∀ {h' : AH}, Ext n h h' → MkTo g s l n h (.tuple #[.slice none 0 0, .int .i64 1]) n h' := fun q h' E => by
    unfold MkTo
    simp only [if_neg q]
    exact ⟨none, rfl, E, OwnSl.nil (Nat.le_refl _)⟩
  by_cases pg : may g
  rotate_left
  · rw [decide_eq_false pg] at mg
    repeat' (first | refine stpS ?_ | (refine stp2 ?_ ?_ <;> intro _) | refine RS.call1 rfl opds (mg) none'W ?_ | refine RS.call1 rfl opds (ms) none'W ?_)
    exact no (fun q => pg q.1) (Ext.refl _ _)
  rw [decide_eq_true pg] at mg
  by_cases ps : may s
  rotate_left
  · rw [decide_eq_false ps] at ms
    repeat' (first | refine stpS ?_ | (refine stp2 ?_ ?_ <;> intro _))
    refine RS.call1 rfl opds mg none'W ?_
    repeat' (first | refine stpS ?_ | (refine stp2 ?_ ?_ <;> intro _))
    refine RS.call1 rfl opds ms none'W ?_
    repeat' (first | refine stpS ?_ | (refine stp2 ?_ ?_ <;> intro _))
    exact no (fun q => ps q.2.1) (Ext.refl _ _)
  rw [decide_eq_true ps] at ms
  repeat' (first | refine stpS ?_ | (refine stp2 ?_ ?_ <;> intro _))
  refine RS.call1 rfl opds mg none'W ?_
  repeat' (first | refine stpS ?_ | (refine stp2 ?_ ?_ <;> intro _))
  refine RS.call1 rfl opds ms none'W ?_
  by_cases pl : l.length ≤ 262144
  rotate_left
  · repeat' (first | refine stpS ?_ | (refine stp2 ?_ ?_ <;> intro _))
    exact no (fun q => pl q.2.2) (Ext.refl _ _)
  have hy : mayMark g s l := ⟨pg, ps, pl⟩
  repeat' (first | refine stpS ?_ | (refine stp2 ?_ ?_ <;> intro _))
  refine RS.call1 rfl opds (refSum_ev l a _ _ _ S rfl (by omega)) none'W ?_
  have hc := crc_lt l
  refine RS.call rfl opds (refmark_rf g s (l.length : Nat) (crc l : Nat) pg.i64 ps.i64 ⟨by omega, by omega⟩ (by omega) (by omega) n h) none'W ?_
  rintro r n3 h3 k3 ⟨a3, rfl, E3, O3⟩
  repeat' (first | refine stpS ?_ | (refine stp2 ?_ ?_ <;> intro _))
  unfold MkTo
  simp only [if_pos hy]
  exact ⟨a3, rfl, E3, O3⟩
end Go.Proofs.YtfbddbpbifnhfaaDoor

/- Contracts taken from codec (written by port.py). -/
namespace Go.Proofs.YtfbddbpbifnhfaaDoor.Cd
open Go.Abs
/-- A piece. -/
structure Pc where
  w : Int
  v : Int
  s : List UInt8
structure Pc.Ok (x : Pc) (m : Nat) : Prop where
  w0 : 0 ≤ x.w
  w1 : x.w < 256
  v0 : -9223372036854775808 ≤ x.v
  v1 : x.v < 9223372036854775808
  sl : x.s.length ≤ m
theorem formB_le (l : List UInt8) : (formB l).length ≤ 2 * l.length + 2 := by
  unfold formB
  have := esc_le l
  rw [List.length_append]
  show _ + 2 ≤ _
  omega
theorem slbs_new (u : ByteArray) (n : Nat) (h : AH) : SlB (h.app (.new n ⟨(bytesV u.data.toList).length, 0, true, 1⟩ (bytesV u.data.toList))) (n + 1) (some ⟨n, 0, none⟩) u.data.toList := by
  have e : (bytesV u.data.toList).length = u.data.toList.length := bytesV_length _
  rw [e]; exact slb_new _ _ _
end Go.Proofs.YtfbddbpbifnhfaaDoor.Cd

/- Contracts of wal: a commit is written. -/
namespace Go.Proofs.YtfbddbpbifnhfaaDoor
open Go.Abs Cd

/-- What a commit's records are counted as. -/
def sizeL : List (List UInt8) → Nat
  | [] => 0
  | b :: r => (min b.length 262145 + 1) + sizeL r
theorem sizeL_app : ∀ (l r : List (List UInt8)), sizeL (l ++ r) = sizeL l + sizeL r
  | [], r => (Nat.zero_add _).symm
  | b :: l, r => by show _ + sizeL (l ++ r) = _ + sizeL l + sizeL r; rw [sizeL_app l r]; omega
theorem sizeL_take (ls : List (List UInt8)) (i : Nat) (hi : i < ls.length) : sizeL (ls.take (i + 1)) = sizeL (ls.take i) + (min (ls.getD i []).length 262145 + 1) := by
  rw [List.take_succ_eq_append_getElem hi, sizeL_app]
  simp [sizeL, List.getD, hi]
theorem sizeL_le (ls : List (List UInt8)) (i : Nat) : sizeL (ls.take i) ≤ sizeL ls := by
  have : sizeL ls = sizeL (ls.take i) + sizeL (ls.drop i) := by rw [← sizeL_app, List.take_append_drop]
  omega
theorem sizeL_mem {ls : List (List UInt8)} {l : List UInt8} (h : l ∈ ls) : min l.length 262145 + 1 ≤ sizeL ls := by
  induction ls with
  | nil => cases h
  | cons b r ih =>
    show _ ≤ (min b.length 262145 + 1) + sizeL r
    rcases List.mem_cons.1 h with q | q
    · rw [q]; omega
    · have := ih q; omega
/-- A commit's bytes. -/
def dataB (ls : List (List UInt8)) : List UInt8 := form (ls.length : Nat) ++ ls.flatMap formB
theorem flat_formB (ls : List (List UInt8)) (h : sizeL ls ≤ 262144) : (ls.flatMap formB).length ≤ 2 * sizeL ls := by
  induction ls with
  | nil => exact Nat.le_refl _
  | cons b r ih =>
    have h' : (min b.length 262145 + 1) + sizeL r ≤ 262144 := h
    have h1 := ih (by omega)
    have h2 := formB_le b
    rw [List.flatMap_cons, List.length_append]
    show _ ≤ 2 * ((min b.length 262145 + 1) + sizeL r)
    omega
/-- Bytes are written to the log's file, and made sure. -/
def wrS (S : Dk.DS) (k : Nat) (b : List UInt8) : Int × Dk.DS :=
  if (S.write 1 k b).1 ≠ 0 then S.write 1 k b else (S.write 1 k b).2.sync 1
def commitP (X : LS) (ls : List (List UInt8)) : Int × LS :=
  if 262144 < sizeL ls then (60, X) else
  if ls.length = 0 ∨ 4096 < ls.length ∨ 262144 < (dataB ls).length then (60, X) else
  let w1 := wrS X.S (X.e + 512) (fillB (dataB ls))
  if w1.1 ≠ 0 then (w1.1, { X with S := w1.2 }) else
  let w2 := wrS w1.2 X.e (markD X.gen (X.L.length : Nat) (dataB ls))
  if w2.1 ≠ 0 then (w2.1, { X with S := w2.2 }) else
  (0, ⟨w2.2, X.gen, X.L ++ [ls], X.e + (512 + (fillB (dataB ls)).length)⟩)
theorem write_b (S : Dk.DS) (f k : Int) (b : List UInt8) : (S.write f k b).2.ps.length ≤ S.ps.length + b.length ∧ (S.write f k b).2.calls ≤ S.calls + 1 := by
  unfold Dk.DS.write
  split
  · exact ⟨by show S.ps.length ≤ _; omega, by show S.calls ≤ _; omega⟩
  · split
    · exact ⟨by show S.ps.length ≤ _; omega, by show S.calls ≤ _; omega⟩
    · obtain ⟨q1, q2⟩ := ends_b (S.writes f.toNat k.toNat b)
      refine ⟨?_, q2⟩
      have h1 : (S.writes f.toNat k.toNat b).ps.length = S.ps.length + (Dk.chunks f.toNat b.length k.toNat b).length := by simp [Dk.DS.writes]
      have h2 := Dk.chunks_length f.toNat b.length k.toNat b
      omega
theorem sync_b (S : Dk.DS) (f : Int) : (S.sync f).2.ps.length ≤ S.ps.length ∧ (S.sync f).2.calls ≤ S.calls + 1 := by
  obtain ⟨q1, q2⟩ := ends_b S
  unfold Dk.DS.sync
  split
  · exact ⟨Nat.le_refl _, by show S.calls ≤ _; omega⟩
  · split
    · exact ⟨q1, q2⟩
    · refine ⟨?_, q2⟩
      have : (S.ends.2.synced f.toNat).ps.length ≤ S.ends.2.ps.length := List.length_filter_le _ _
      show (S.ends.2.synced f.toNat).ps.length ≤ _
      omega
theorem wrS_b (S : Dk.DS) (k : Nat) (b : List UInt8) : (wrS S k b).2.ps.length ≤ S.ps.length + b.length ∧ (wrS S k b).2.calls ≤ S.calls + 2 := by
  obtain ⟨q1, q2⟩ := write_b S 1 (k : Nat) b
  obtain ⟨q3, q4⟩ := sync_b (S.write 1 (k : Nat) b).2 1
  unfold wrS
  split
  · exact ⟨q1, by omega⟩
  · exact ⟨by omega, by omega⟩
theorem wrS_ok {S : Dk.DS} {k : Nat} {b : List UInt8} (h : (wrS S k b).1 = 0) (hb : 0 < b.length) : k + b.length ≤ 4194304 := by
  have h1 : (S.write 1 (k : Nat) b).1 = 0 := by
    by_cases q : (S.write 1 (k : Nat) b).1 = 0
    · exact q
    · unfold wrS at h
      rw [if_pos q] at h
      exact absurd h q
  unfold Dk.DS.write at h1
  by_cases q1 : S.may 1 = 0
  · rw [if_neg (fun z => z q1)] at h1
    by_cases q2 : Dk.writeE (k : Nat) b = 0
    · unfold Dk.writeE at q2
      rw [if_neg (by omega)] at q2
      split at q2
      · cases q2
      · omega
    · rw [if_pos q2] at h1
      exact absurd h1 q2
  · rw [if_pos q1] at h1
    exact absurd h1 q1
section
variable {h : AH} {n lg d : Nat} {T : Nat → Prop} {X : LS}
set_option maxHeartbeats 4000000 in
theorem commit_rf (R : Lg h n lg d T X) (ls : List (List UInt8)) (ad : Nat → Option Addr) (c : Option Addr) (S : SlQ h n c ad ls) (hc : c ≠ none → ¬ T (sb c)) (hr : ∀ j, j < ls.length → ad j ≠ none → ¬ T (sb (ad j)))
    (hl : ls.length ≤ 1099511627776) (hrl : ∀ l ∈ ls, l.length ≤ 1073741824) (hps : X.S.ps.length ≤ 1099511000000) (hcl : X.S.calls < 4611686018427387900) (hn0 : 0 < n) :
    RF Tryd.prog T 16 #[.pointer (some ⟨lg, 0, none⟩), .slice c ls.length ls.length] n h (fun r n' h' => r = .int .i64 (commitP X ls).1 ∧ LgTo n lg d T h (commitP X ls).2 n' h') := by
  refine RF.of Tryd.func16 rfl rfl (Nat.le_of_ble_eq_true rfl) ?_; dsimp only [argEnv]
  obtain ⟨F, G, a, N, B, R, rfl⟩ := R
  have hlt := R.hi
  have c0 := R.c0
  have hD : commitP X ls = if 262144 < sizeL ls then (60, X) else if ls.length = 0 ∨ 4096 < ls.length ∨ 262144 < (dataB ls).length then (60, X) else
      if (wrS X.S (X.e + 512) (fillB (dataB ls))).1 ≠ 0 then ((wrS X.S (X.e + 512) (fillB (dataB ls))).1, { X with S := (wrS X.S (X.e + 512) (fillB (dataB ls))).2 }) else
      if (wrS (wrS X.S (X.e + 512) (fillB (dataB ls))).2 X.e (markD X.gen (X.L.length : Nat) (dataB ls))).1 ≠ 0 then ((wrS (wrS X.S (X.e + 512) (fillB (dataB ls))).2 X.e (markD X.gen (X.L.length : Nat) (dataB ls))).1, { X with S := (wrS (wrS X.S (X.e + 512) (fillB (dataB ls))).2 X.e (markD X.gen (X.L.length : Nat) (dataB ls))).2 }) else
      (0, ⟨(wrS (wrS X.S (X.e + 512) (fillB (dataB ls))).2 X.e (markD X.gen (X.L.length : Nat) (dataB ls))).2, X.gen, X.L ++ [ls], X.e + (512 + (fillB (dataB ls)).length)⟩) := rfl
  have no : commitP X ls = (60, X) → ∀ {n' : Nat} {h' : AH}, n ≤ n' → Ext n h h' → Value.int .i64 60 = .int .i64 (commitP X ls).1 ∧ LgTo n lg d (LgT lg F G a B) h (commitP X ls).2 n' h' := fun q n' h' hn E => by
    rw [q]
    exact ⟨rfl, _, ⟨F, G, a, N, B, R.extW (ExtW.of E (Nat.le_refl _) : ExtW (fun _ => False) n h h') hn (fun _ _ q => q), rfl⟩, fun _ _ q => q, ExtW.of E (Nat.le_refl _)⟩
  have hout := S.out
  repeat' (first | refine stpS ?_ | (refine stp2 ?_ ?_ <;> intro _))
  refine RS.call1 rfl opds (none_ev hlt c0) none'W ?_
  repeat' (first | refine stpS ?_ | (refine stp2 ?_ ?_ <;> intro _))
  refine RC.loop ?_
  refine RL.inv (α := Nat) (fun i => [(23, .int .i64 (i : Nat)), (22, .int .i64 (ls.length : Nat)), (21, .slice c ls.length ls.length), (5, .int .i64 (sizeL (ls.take i) : Nat)), (0, .pointer (some ⟨lg, 0, none⟩)), (1, .slice c ls.length ls.length)])
    (fun i n1 h1 => i ≤ ls.length ∧ n1 = n ∧ h1 = h ∧ sizeL (ls.take i) ≤ 262144)
    (fun i => ls.length - i) 0 envs ⟨by omega, rfl, rfl, Nat.zero_le _⟩ ?_
  rintro i n1 h1 ⟨hi, rfl, rfl, hsz⟩
  by_cases hlt2 : i < ls.length
  · have hsu := sizeL_take ls i hlt2
    have hle := sizeL_le ls (i + 1)
    have hgl : (ls.getD (i : Int).toNat []).length = (ls.getD i []).length := by rw [Int.toNat_natCast]
    by_cases hbig : 262144 < sizeL (ls.take (i + 1))
    · rw [if_pos (by omega)] at hD
      repeat' (first | refine stpS ?_ | (refine stp2 ?_ ?_ <;> intro _))
      exact no hD (Nat.le_refl _) (Ext.refl _ _)
    · repeat' (first | refine stpS ?_ | (refine stp2 ?_ ?_ <;> intro _))
      refine nextC.normal ⟨i + 1, by omega, ?_, by omega, rfl, rfl, by omega⟩
      have e1 : ((sizeL (ls.take (i + 1)) : Nat) : Int) = (sizeL (ls.take i) : Int) + (min ((ls.getD (i : Int).toNat []).length : Int) 262145 + 1) := by rw [hsu, hgl]; omega
      rw [e1, Int.natCast_add]
      exact envs
  obtain rfl : i = ls.length := by omega
  rw [List.take_length] at hsz
  rw [if_neg (by omega)] at hD
  have hfl := flat_formB ls hsz
  have hfi : ∀ i, ((ls.take i).flatMap formB).length ≤ 524288 := fun i => by
    have h1 := sizeL_le ls i
    have h2 := flat_formB (ls.take i) (by omega)
    omega
  have hli : ls.length ≤ 262144 := by
    have : ∀ r : List (List UInt8), r.length ≤ sizeL r := by
      intro r
      induction r with
      | nil => exact Nat.le_refl _
      | cons b r ih => show r.length + 1 ≤ (min b.length 262145 + 1) + sizeL r; omega
    have := this ls; omega
  have hrb : ∀ l ∈ ls, l.length ≤ 262144 := fun l hl' => by have := sizeL_mem hl'; omega
  have hf9 := form_le (ls.length : Nat) (by omega) (by omega)
  repeat' (first | refine stpS ?_ | (refine stp2 ?_ ?_ <;> intro _))
  refine RS.call rfl opds (newWriter_rf n1 h1) none'W ?_
  rintro r n2 h2 k2 ⟨rfl, E2, W2⟩
  repeat' (first | refine stpS ?_ | (refine stp2 ?_ ?_ <;> intro _))
  refine RS.call rfl opds (wInt_rf n1 none [] (ls.length : Nat) (by omega) (by omega) n1 n2 h2 W2) (fun x hx => .inr (W2.lo_of x hx)) ?_
  rintro r n3 h3 k3 ⟨a3, rfl, W3, X3, -⟩
  have hf0 : (form (ls.length : Nat)).length + ([] : List UInt8).length ≤ 1048576 := by rw [List.length_nil]; omega
  rw [if_pos hf0, List.nil_append] at W3
  rw [if_pos hf0]
  have E3 : Ext n1 h1 h3 := E2.viaW X3 k2 W2.lo_of
  repeat' (first | refine stpS ?_ | (refine stp2 ?_ ?_ <;> intro _))
  refine RC.loop ?_
  refine RL.inv (α := Nat × Option Addr) (fun u => [(43, .int .i64 (u.1 : Nat)), (42, .int .i64 (ls.length : Nat)), (41, .slice c ls.length ls.length), (8, .pointer (some ⟨n1, 0, none⟩)), (0, .pointer (some ⟨lg, 0, none⟩)), (1, .slice c ls.length ls.length)])
    (fun u n4 h4 => u.1 ≤ ls.length ∧ n1 ≤ n4 ∧ Ext n1 h1 h4 ∧ WrR h4 n1 n4 n1 u.2 (form (ls.length : Nat) ++ (ls.take u.1).flatMap formB))
    (fun u => ls.length - u.1) (0, a3) envs ⟨Nat.zero_le _, by omega, E3, by simpa using W3⟩ ?_
  rintro ⟨i, a4⟩ n4 h4 ⟨hi, hn4, E4, W4⟩
  dsimp only at hi W4 ⊢
  by_cases hlt2 : i < ls.length
  · have S4 := S.ext E4 hn4
    have hout4 := S4.out
    have hrow := S4.row i hlt2
    have hmem : ls.getD i [] ∈ ls := by simp [List.getD, List.getElem?_eq_getElem hlt2]
    have hrb1 := hrb _ hmem
    have hfb := formB_le (ls.getD i [])
    have hfi1 := hfi (i + 1)
    have hnx : (ls.take (i + 1)).flatMap formB = (ls.take i).flatMap formB ++ formB (ls.getD i []) := by
      rw [List.take_succ_eq_append_getElem hlt2, List.flatMap_append]; simp [List.getD, hlt2]
    rw [hnx, List.length_append] at hfi1
    repeat' (first | refine stpS ?_ | (refine stp2 ?_ ?_ <;> intro _))
    simp only [Int.toNat_natCast]
    refine RS.call rfl opds (wBytes_rf n1 a4 (ad i) _ (ls.getD i []) _ n1 n4 h4 W4 hrow rfl (by omega)) (fun x hx => .inr (W4.lo_of x hx)) ?_
    rintro r n5 h5 k5 ⟨a5, rfl, W5, X5, -⟩
    have hfit : (formB (ls.getD i [])).length + (form (ls.length : Nat) ++ (ls.take i).flatMap formB).length ≤ 1048576 := by rw [List.length_append]; omega
    rw [if_pos hfit, List.append_assoc, ← hnx] at W5
    rw [if_pos hfit]
    repeat' (first | refine stpS ?_ | (refine stp2 ?_ ?_ <;> intro _))
    exact nextC.normal ⟨(i + 1, a5), by dsimp only; omega, envs, by dsimp only; omega, by omega, E4.viaW X5 hn4 W4.lo_of, W5⟩
  obtain rfl : i = ls.length := by omega
  rw [List.take_length] at W4
  obtain ⟨l, hld⟩ : ∃ l, l = dataB ls := ⟨_, rfl⟩
  have hle' : l.length ≤ 1048576 := by rw [hld]; exact W4.le
  rw [← show l = form (ls.length : Nat) ++ ls.flatMap formB from hld] at W4
  rw [← hld] at hD
  have hpos : 0 < l.length := by
    rw [hld, dataB, List.length_append]
    have : 0 < (form (ls.length : Nat)).length := by
      have q := form_lenP (v := (ls.length : Nat)) (by omega)
      split at q <;> omega
    omega
  clear hld
  repeat' (first | refine stpS ?_ | (refine stp2 ?_ ?_ <;> intro _))
  refine RS.call rfl opds (wOut_rf n1 a4 l n1 n4 h4 W4) none'W ?_
  rintro r n5 h5 k5 ⟨a5, rfl, E5, O5⟩
  have E5' : Ext n1 h1 h5 := E4.trans hn4 E5
  by_cases pc : ls.length = 0 ∨ 4096 < ls.length ∨ 262144 < l.length
  · rw [if_pos pc] at hD
    repeat' (first | refine stpS ?_ | (refine stp2 ?_ ?_ <;> intro _))
    all_goals (first | exact no hD (by omega) E5' | (exfalso; omega))
  rw [if_neg pc] at hD
  have R5 : LgR h5 n5 lg d F G a N B X := R.extW (ExtW.of E5' (Nat.le_refl _) : ExtW (fun _ => False) n1 h1 h5) (by omega) (fun _ _ q => q)
  have hlt5 := R5.hi
  have d1 := R5.c1
  have d2 := R5.c2
  have d3 := R5.c3
  have me := R.me
  have le := R.le
  have hmk := mark_rf X.gen (X.L.length : Nat) l a5 l.length n5 (h5.below n5) (O5.slb.ext (AH.below_ext _ _) (Nat.le_refl _)) rfl (by omega)
  have hy : mayMark X.gen (X.L.length : Nat) l := ⟨R.gm, ⟨by omega, by omega⟩, by omega⟩
  repeat' (first | refine stpS ?_ | (refine stp2 ?_ ?_ <;> intro _))
  repeat' (first | refine stp ?_ | (refine stp2 ?_ ?_ <;> intro _))
  refine RD.call n5 rfl opds hmk (Nat.le_refl _) cfc ?_
  rintro r n6 h6 k6 hto
  unfold MkTo at hto
  simp only [if_pos hy] at hto
  obtain ⟨a6, rfl, E6, O6⟩ := hto
  have E6 : Ext n5 h5 h6 := E6.via (Nat.le_refl _) (AH.below_ext h5 n5)
  have hml : (markD X.gen (X.L.length : Nat) l).length = 512 := markB_length R.gm.i64 ⟨by omega, by omega⟩ ⟨by omega, by omega⟩ ⟨by omega, by have := crc_lt l; omega⟩
  obtain ⟨mk, hmkd⟩ : ∃ mk, mk = markD X.gen (X.L.length : Nat) l := ⟨_, rfl⟩
  rw [← hmkd] at O6 hml hD ⊢
  clear hmkd hmk
  repeat' (first | refine stp ?_ | (refine stp2 ?_ ?_ <;> intro _))
  refine RS.call rfl opds (filled_rf l a5 l.length n6 h6 (O5.slb.ext E6 k6) rfl (by omega)) none'W ?_
  rintro r n7 h7 k7 ⟨a7, rfl, E7, O7⟩
  have hfl2 := fillB_length l
  obtain ⟨fb, hfb⟩ : ∃ fb, fb = fillB l := ⟨_, rfl⟩
  rw [← hfb] at O7 hfl2 hD ⊢
  clear hfb
  have E7' : Ext n1 h1 h7 := (E5'.trans (by omega) E6).trans (by omega) E7
  have R7 : LgR h7 n7 lg d F G a N B X := R.extW (ExtW.of E7' (Nat.le_refl _) : ExtW (fun _ => False) n1 h1 h7) (by omega) (fun _ _ q => q)
  have hlt7 := R7.hi
  have d37 := R7.c3
  have S6 : SlB h7 n7 a6 mk := O6.slb.ext E7 k7
  have S7 : SlB h7 n7 a7 fb := O7.slb
  rw [hml]
  repeat' (first | refine stpS ?_ | (refine stp2 ?_ ?_ <;> intro _))
  repeat' (first | refine stp ?_ | (refine stp2 ?_ ?_ <;> intro _))
  refine RD.put (v := .agg #[.int .i64 ((X.e : Int) + 512), .slice a7 fb.length fb.length, .int .i64 (X.e : Nat), .slice a6 512 512]) rfl rfl (op_buildA Tc.out Tc.out (by simp [Value.cells, flat]) (by rfl) (by rfl)) ?_
  repeat' (first | refine stp ?_ | (refine stp2 ?_ ?_ <;> intro _))
  obtain ⟨w1, hw1⟩ : ∃ w, w = wrS X.S (X.e + 512) fb := ⟨_, rfl⟩
  obtain ⟨w2, hw2⟩ : ∃ w, w = wrS w1.2 X.e mk := ⟨_, rfl⟩
  rw [← hw1, ← hw2] at hD
  obtain ⟨b1, b2⟩ := wrS_b X.S (X.e + 512) fb
  rw [← hw1] at b1 b2
  have hFn : ∀ x, F x → x < n1 := R.dk.ltF
  have hGn : ∀ x, G x → x < n1 := R.dk.ltG
  refine RC.loop ?_
  refine RL.inv (α := Nat × Dk.DS × (Nat → Prop) × (Nat → Prop)) (fun u => [(99, .int .i64 (u.1 : Nat)), (98, .agg #[.int .i64 ((X.e : Int) + 512), .slice a7 fb.length fb.length, .int .i64 (X.e : Nat), .slice a6 512 512]), (14, .slice a7 fb.length fb.length), (0, .pointer (some ⟨lg, 0, none⟩)), (1, .slice c ls.length ls.length)])
    (fun u n8 h8 => u.1 ≤ 2 ∧ n7 ≤ n8 ∧ LgR h8 n8 lg d u.2.2.1 u.2.2.2 a N B { X with S := u.2.1 } ∧ SlB h8 n8 a7 fb ∧ SlB h8 n8 a6 mk ∧ (∀ x, x < n7 → u.2.2.1 x → F x) ∧ (∀ x, x < n7 → u.2.2.2 x → G x) ∧ ExtW F n1 h1 h8 ∧
      (u.1 = 0 → u.2.1 = X.S) ∧ (u.1 = 1 → w1.1 = 0 ∧ u.2.1 = w1.2) ∧ (u.1 = 2 → w1.1 = 0 ∧ w2.1 = 0 ∧ u.2.1 = w2.2))
    (fun u => 2 - u.1) (0, X.S, F, G) envs ⟨by omega, Nat.le_refl _, R7, S7, S6, fun _ _ q => q, fun _ _ q => q, ExtW.of E7' (Nat.le_refl _), fun _ => rfl, (fun q => by cases q), (fun q => by cases q)⟩ ?_
  rintro ⟨i, S', F', G'⟩ n8 h8 ⟨hi, hn8, R8, S7', S6', hF, hG, e8, z0, z1, z2⟩
  dsimp only at hi hn8 R8 hF hG z0 z1 z2 ⊢
  have no2 : ∀ {S9 : Dk.DS} {F9 G9 : Nat → Prop} {n9 : Nat} {h9 : AH} {v : Int}, commitP X ls = (v, { X with S := S9 }) → n8 ≤ n9 → LgR h9 n9 lg d F9 G9 a N B { X with S := S9 } → (∀ x, x < n8 → F9 x → F' x) → (∀ x, x < n8 → G9 x → G' x) → ExtW F' n8 h8 h9 →
      Value.int .i64 v = .int .i64 (commitP X ls).1 ∧ LgTo n1 lg d (LgT lg F G a B) h1 (commitP X ls).2 n9 h9 := by
    intro S9 F9 G9 n9 h9 v q hn9 R9 hF9 hG9 e9
    rw [q]
    refine ⟨rfl, _, ⟨F9, G9, a, N, B, R9, rfl⟩, ?_, (e8.trans e9 (by omega) (fun x hx w => hF x (by omega) w)).mono (Nat.le_refl _) (fun x _ w => .inl w)⟩
    rintro x hx (w | w | w)
    · exact .inl (hF x (by omega) (hF9 x (by omega) w))
    · exact .inr (.inl (hG x (by omega) (hG9 x (by omega) w)))
    · exact .inr (.inr w)
  by_cases hlt2 : i < 2
  · have hrow : ∃ (k : Nat) (bs : List UInt8) (ab : Option Addr) (w : Int × Dk.DS), Value.agg ((#[.int .i64 ((X.e : Int) + 512), .slice a7 fb.length fb.length, .int .i64 (X.e : Nat), .slice a6 512 512] : Array Value).extract ((i : Int).toNat * 2) ((i : Int).toNat * 2 + 2)) = .agg #[.int .i64 (k : Nat), .slice ab bs.length bs.length] ∧
        SlB h8 n8 ab bs ∧ (ab ≠ none → n5 ≤ sb ab ∧ sb ab < n7) ∧ k ≤ 4194816 ∧ bs.length ≤ 262656 ∧ w = wrS S' k bs ∧ S'.ps.length ≤ 1099511300000 ∧ S'.calls < 4611686018427387902 ∧
        (w.1 ≠ 0 → commitP X ls = (w.1, { X with S := w.2 })) ∧ (w.1 = 0 → (i + 1 = 1 → w1.1 = 0 ∧ w.2 = w1.2) ∧ (i + 1 = 2 → w1.1 = 0 ∧ w2.1 = 0 ∧ w.2 = w2.2)) := by
      rcases (show i = 0 ∨ i = 1 by omega) with rfl | rfl
      · have z0 := z0 rfl
        subst z0
        refine ⟨X.e + 512, fb, a7, w1, ?_, S7', fun q => ?_, by omega, by omega, hw1, by omega, by omega, fun q => by rw [hD, if_pos q], fun q => ⟨fun _ => ⟨q, rfl⟩, fun q => by omega⟩⟩
        · rw [Int.natCast_add]; rfl
        · have := O7.at'.resolve_left q; omega
      · obtain ⟨z3, z4⟩ := z1 rfl
        subst z4
        refine ⟨X.e, mk, a6, w2, ?_, S6', fun q => ?_, by omega, by omega, hw2, by omega, by omega, fun q => by rw [hD, if_neg (fun z => z z3), if_pos q], fun q => ⟨fun q => by omega, fun _ => ⟨z3, q, rfl⟩⟩⟩
        · rw [hml]; rfl
        · have := O6.at'.resolve_left q; omega
    obtain ⟨k, bs, ab, w, hv, hSb, hab, hk, hbs, hw, hp8, hc8, hno, hyes⟩ := hrow
    repeat' (first | refine stpS ?_ | (refine stp2 ?_ ?_ <;> intro _))
    refine RS.put rfl rfl (op_indexAgg (m := 2) (e := 91) Uc.out Tc.out (Opd.ev opd) (Opd.ev opd) (by omega) (by omega) rfl) ?_
    rw [hv]
    repeat' (first | refine stpS ?_ | (refine stp2 ?_ ?_ <;> intro _))
    obtain ⟨g8, hg⟩ : ∃ g8, g8 = (h8.app (.new n8 ⟨2, 0, true, 0⟩ [.int .i64 0, .slice none 0 0])).app (.sets n8 0 [.int .i64 (k : Nat), .slice ab bs.length bs.length]) := ⟨_, rfl⟩
    refine RC.heap hg ?_
    have E8 : Ext n8 h8 g8 := by rw [hg]; exact ext
    have y0 : g8.cell n8 0 = .int .i64 (k : Nat) := by rw [hg]; exact cell
    have y1 : g8.cell n8 1 = .slice ab bs.length bs.length := by rw [hg]; exact cell
    clear hg
    have R8' := R8.extW (ExtW.of E8 (Nat.le_refl _) : ExtW (fun _ => False) n8 h8 g8) (Nat.le_succ n8) (fun _ _ q => q)
    have hlt8 := R8'.hi
    have d08 := R8'.c0
    have hFl := R8.lF.1
    have hFlt : ∀ x, F' x → x < n8 := R8.dk.ltF
    have hFn8 : ¬ F' n8 := fun q => by have := hFlt _ q; omega
    have hFlt' : ∀ x, F' x → x < n8 + 1 := fun x q => by have := hFlt _ q; omega
    have hwd := Dk.write_dk (R8'.dk.ext (AH.below_ext g8 (n8 + 1)) (Nat.le_refl _)) 1 (k : Nat) (by omega) (SlR.ext (SlR.ext hSb E8 (Nat.le_succ n8)) (AH.below_ext g8 (n8 + 1)) (Nat.le_refl _)) (fun q w => by have := hab q; have := hF _ (by omega) w; have := hFn _ this; omega) (by show S'.ps.length + _ ≤ _; omega) (by show S'.calls < _; omega)
    have hWT : ∀ x, F' x → LgT lg F G a B x ∨ n1 ≤ x := fun x q => by
      by_cases z : x < n7
      · exact .inl (.inl (hF x z q))
      · exact .inr (by omega)
    obtain ⟨t, ht⟩ : ∃ t, t = S'.write 1 (k : Nat) bs := ⟨_, rfl⟩
    have hwd : RF Tryd.prog F' 20 #[.pointer (some ⟨d, 0, none⟩), .int .i64 1, .int .i64 (k : Nat), .slice ab bs.length bs.length] (n8 + 1) (g8.below (n8 + 1)) (fun r n' h' => r = .int .i64 t.1 ∧ Dk.DkTo (n8 + 1) d F' G' (g8.below (n8 + 1)) t.2 n' h') := by rw [ht]; exact hwd
    obtain ⟨tb1, tb2⟩ := write_b S' 1 (k : Nat) bs
    have hwS : wrS S' k bs = if (S'.write 1 (k : Nat) bs).1 ≠ 0 then S'.write 1 (k : Nat) bs else (S'.write 1 (k : Nat) bs).2.sync 1 := rfl
    rw [← hw, ← ht] at hwS
    rw [← ht] at tb1 tb2
    clear ht hw
    obtain ⟨t1, t2⟩ := t
    dsimp only at hwd hwS tb1 tb2
    repeat' (first | refine stpS ?_ | (refine stp2 ?_ ?_ <;> intro _))
    repeat' (first | refine stp ?_ | (refine stp2 ?_ ?_ <;> intro _))
    refine RD.callW (n8 + 1) rfl opds hwd (fun x q => hWT x q) (Nat.le_refl _) cfw ?_
    rintro r n9 h9 k9 ⟨rfl, F9, G9, D9, hF9, hG9, e9⟩
    have e9 : ExtW F' (n8 + 1) g8 h9 := ((ExtW.of (AH.below_ext g8 (n8 + 1)) (Nat.le_refl _) : ExtW F' (n8 + 1) g8 (g8.below (n8 + 1)))).trans e9 (Nat.le_refl _) (fun _ _ q => q)
    have R9 := R8'.diskR D9 hF9 hG9 e9 k9
    have e9' : ExtW F' n8 h8 h9 := (ExtW.of E8 (Nat.le_refl _)).trans e9 (Nat.le_succ _) (fun _ _ q => q)
    have hlt9 := R9.hi
    have d09 := R9.c0
    by_cases pt : t1 = 0
    rotate_left
    · rw [if_pos pt] at hwS
      rw [hwS] at hno
      repeat' (first | refine stp ?_ | (refine stp2 ?_ ?_ <;> intro _))
      exact no2 (hno pt) (by omega) R9 (fun x hx q => hF9 x (by omega) q) (fun x hx q => hG9 x (by omega) q) e9'
    rw [if_neg (fun z => z pt)] at hwS
    subst pt
    have hFlt9 : ∀ x, F9 x → x < n9 := R9.dk.ltF
    obtain ⟨sb1, sb2⟩ := sync_b t2 1
    repeat' (first | refine stp ?_ | (refine stp2 ?_ ?_ <;> intro _))
    refine RS.call rfl opds (Dk.sync_dk D9 (by omega) (by omega) 1) (fun x q => ?_) ?_
    · by_cases z : x < n8 + 1
      · exact hWT x (hF9 x z q)
      · exact .inr (by omega)
    rintro r n10 h10 k10 ⟨rfl, F10, G10, D10, hF10, hG10, e10⟩
    have R10 := R9.diskR D10 hF10 hG10 e10 k10
    rw [← hwS] at R10 ⊢
    have e10' : ExtW F' n8 h8 h10 := e9'.trans e10 (by omega) (fun x hx q => hF9 x (by omega) q)
    have hF10' : ∀ x, x < n8 → F10 x → F' x := fun x hx q => hF9 x (by omega) (hF10 x (by omega) q)
    have hG10' : ∀ x, x < n8 → G10 x → G' x := fun x hx q => hG9 x (by omega) (hG10 x (by omega) q)
    by_cases pw : w.1 = 0
    rotate_left
    · repeat' (first | refine stpS ?_ | (refine stp2 ?_ ?_ <;> intro _))
      exact no2 (hno pw) (by omega) R10 hF10' hG10' e10'
    obtain ⟨y2, y3⟩ := hyes pw
    rw [pw]
    repeat' (first | refine stpS ?_ | (refine stp2 ?_ ?_ <;> intro _))
    refine nextC.normal ⟨(i + 1, w.2, F10, G10), by dsimp only; omega, envs, by dsimp only; omega, by omega, R10, S7'.extW e10' (by omega) (fun q z => ?_), S6'.extW e10' (by omega) (fun q z => ?_), fun x hx q => hF x hx (hF10' x (by omega) q), fun x hx q => hG x hx (hG10' x (by omega) q), e8.trans e10' (by omega) (fun x hx q => hF x (by omega) q), (fun q => by cases q), y2, y3⟩
    · have := O7.at'.resolve_left q; have := hF _ (by omega) z; have := hFn _ this; omega
    · have := O6.at'.resolve_left q; have := hF _ (by omega) z; have := hFn _ this; omega
  obtain rfl : i = 2 := by omega
  obtain ⟨z3, z4, z5⟩ := z2 rfl
  subst z5
  rw [if_neg (fun z => z z3), if_neg (fun z => z z4)] at hD
  have hbl := wrS_ok (hw1 ▸ z3) (by omega : 0 < fb.length)
  have S8 : SlQ h8 n8 c ad ls := SlQ.extW S e8 (by omega) (fun q z => hc q (.inl z)) (fun j hj q z => hr j hj q (.inl z))
  have hlt8 := R8.hi
  have d28 := R8.c2
  have hla := R8.lF.2.2
  repeat' (first | refine stpS ?_ | (refine stp2 ?_ ?_ <;> intro _))
  repeat' (first | refine stp ?_ | (refine stp2 ?_ ?_ <;> intro _))
  refine RD.call n8 rfl opds (own_rf ls ad c ls.length n8 (h8.below n8) (S8.ext (AH.below_ext h8 n8) (Nat.le_refl _)) rfl hl (fun x hx => by have := hrb x hx; omega) (by omega)) (Nat.le_refl _) cfc ?_
  rintro r n9 h9 k9 ⟨a9, M, rfl, E9, C9, hM⟩
  have E9 : Ext n8 h8 h9 := E9.via (Nat.le_refl _) (AH.below_ext h8 n8)
  have C9' := C9.cmr
  rw [hM] at C9'
  repeat' (first | refine stp ?_ | (refine stp2 ?_ ?_ <;> intro _))
  obtain ⟨g10, hg⟩ : ∃ g10, g10 = h9.app (.new n9 ⟨1, 0, true, 1⟩ [.slice a9 ls.length ls.length]) := ⟨_, rfl⟩
  refine RD.heap hg ?_
  have E10 : Ext n9 h9 g10 := by rw [hg]; exact ext
  have hnew : OwnSl g10 n9 (n9 + 1) (some ⟨n9, 0, none⟩) 1 1 [.slice a9 ls.length ls.length] := by rw [hg]; exact OwnSl.new (m := 1) (z := 1) (Nat.le_refl _) rfl rfl
  clear hg
  have E10' : Ext n8 h8 g10 := E9.trans k9 E10
  have R10 : LgR g10 (n9 + 1) lg d F' G' a N B { X with S := w2.2 } := R8.extW (ExtW.of E10' (Nat.le_refl _) : ExtW (fun _ => False) n8 h8 g10) (by omega) (fun _ _ q => q)
  have hWl : ∀ b, inA a b → b < n9 + 1 := R10.alt
  have hO10 : OwnSl g10 0 (n9 + 1) a 1 X.L.length (lgC N) := R10.own
  refine RD.appendT (n9 + 1) rfl opd opd hO10 (hnew.ext (AH.below_ext _ _) (Nat.le_refl _)).src full_slice (fun q => .inl (.inr (.inr (.inr (.inl ⟨q, rfl⟩))))) (by omega) (Nat.le_refl _) cfw ?_
  intro a' n11 h11 k11 O11 X11 wh
  have hal : a = none ∨ lg ≠ sb a := by
    by_cases z : a = none
    · exact .inl z
    · exact .inr fun w => hla ⟨z, w⟩
  have hlt10 := R10.hi
  have hlt11 : lg < n11 := by omega
  have hTl : LgT lg F G a B lg := .inr (.inr (.inl rfl))
  have i11 := i_extX X11 (by omega) hal R10.inf
  have d311 : h11.cell lg 3 = .int .i64 (X.e : Nat) := c_extX X11 (by omega) hal R10.c3
  have hC10 : CmR g10 (n9 + 1) (fun b => n8 ≤ b ∧ b < n9) a9 ls := C9'.extW (ExtW.of E10 (Nat.le_refl _) : ExtW (fun _ => False) n9 h9 g10) (by omega) (fun _ _ q => q)
  have hP := LgR.push (k := 512 + fb.length) R10 hC10 (fun b q => ⟨by omega, by omega, fun z => by have := R8.alt b z; omega, fun z => by have := R8.dk.ltF b z; omega⟩) X11 k11 O11 wh (by show X.e + (512 + fb.length) ≤ _; omega) (by omega)
  have hN : ((X.e : Int) + (512 + (fb.length : Nat))) = ((X.e + (512 + fb.length) : Nat) : Int) := by omega
  have e11 : ExtW (LgT lg F G a B) n1 h1 h11 := by
    have q1 : ExtW (LgT lg F G a B) n1 h1 h8 := e8.mono (Nat.le_refl _) (fun b _ q => .inl q)
    have q2 : ExtW (LgT lg F G a B) n1 h1 g10 := q1.then E10' (by omega)
    exact q2.trans (extX_extW X11) (by omega) (fun b _ q => .inr (.inr (.inr (.inl q))))
  repeat' (first | refine stp ?_ | (refine stp2 ?_ ?_ <;> intro _))
  rw [hN]
  rw [hD]
  refine ⟨rfl, _, ⟨F', G', a', _, _, hP, rfl⟩, ?_, ExtW.appSets (.inl (.inr (.inr (.inl rfl)))) (ExtW.appSets (.inl (.inr (.inr (.inl rfl)))) e11)⟩
  rintro x hx (w | w | w | w | w | w)
  · exact .inl (hF x (by omega) w)
  · exact .inr (.inl (hG x (by omega) w))
  · exact .inr (.inr (.inl w))
  · rcases wh with z | z
    · rw [z] at w; exact .inr (.inr (.inr (.inl w)))
    · have := w.2; omega
  · exact .inr (.inr (.inr (.inr w)))
  · omega
end
end Go.Proofs.YtfbddbpbifnhfaaDoor

/- Contracts of wal: records of two commits, compared. -/
namespace Go.Proofs.YtfbddbpbifnhfaaDoor
open Go.Abs Cd

set_option maxHeartbeats 4000000 in
theorem sameRec_ev (ls ks : List (List UInt8)) (ad ae : Nat → Option Addr) (a c : Option Addr) (n : Nat) (h : AH) (S : SlQ h n a ad ls) (S2 : SlQ h n c ae ks) (hl : ls.length ≤ 1099511627776) (hk : ks.length ≤ 1099511627776) :
    Ev Tryd.prog none' 52 #[.slice a ls.length ls.length, .slice c ks.length ks.length] n h (.bool (decide (ls = ks))) n h := by
  refine RF.pure rfl fun n' hn => ?_
  have S := S.ext (Ext.refl n h) hn
  have S2 := S2.ext (Ext.refl n h) hn
  refine RF.of Tryd.func52 rfl rfl (Nat.le_of_ble_eq_true rfl) ?_; dsimp only [argEnv]
  by_cases hlk : ls.length = ks.length
  rotate_left
  · rw [decide_eq_false (fun q => hlk (by rw [q]))]
    repeat' (first | refine stpS ?_ | (refine stp2 ?_ ?_ <;> intro _))
    rfl
  repeat' (first | refine stpS ?_ | (refine stp2 ?_ ?_ <;> intro _))
  refine RC.loop ?_
  refine RL.inv (α := Nat) (fun i => [(5, .int .i64 (i : Nat)), (0, .slice a ls.length ls.length), (0 + 1, .slice c ks.length ks.length)])
    (fun i n1 h1 => i ≤ ls.length ∧ n1 = n' ∧ h1 = h ∧ ls.take i = ks.take i)
    (fun i => ls.length - i) 0 envs ⟨by omega, rfl, rfl, rfl⟩ ?_
  rintro i n1 h1 ⟨hi, rfl, rfl, htk⟩
  have o1 := S.out
  have o2 := S2.out
  by_cases hlt : i < ls.length
  · have r1 := S.row i hlt
    have r2 := S2.row i (by omega)
    have t1 : ls.take (i + 1) = ls.take i ++ [ls.getD i []] := by rw [List.take_succ_eq_append_getElem hlt]; simp [List.getD, hlt]
    have t2 : ks.take (i + 1) = ks.take i ++ [ks.getD i []] := by rw [List.take_succ_eq_append_getElem (by omega)]; simp [List.getD, show i < ks.length by omega]
    have l1 := SlR.lt o1 (by omega)
    have l2 := SlR.lt o2 (by omega)
    have hgi : (i : Int).toNat = i := rfl
    by_cases he : ls.getD (i : Int).toNat [] = ks.getD (i : Int).toNat []
    · have hs1 : (⟨(ls.getD (i : Int).toNat []).toArray⟩ : ByteArray) = ⟨(ks.getD (i : Int).toNat []).toArray⟩ := by rw [he]
      have hnx : ls.take (i + 1) = ks.take (i + 1) := by rw [t1, t2, htk]; rw [hgi] at he; rw [he]
      repeat' (first | refine stpS ?_ | (refine stp2 ?_ ?_ <;> intro _))
      repeat' (first | refine stp ?_ | (refine stp2 ?_ ?_ <;> intro _))
      all_goals (first | exact nextC.normal ⟨i + 1, by omega, envs, by omega, rfl, rfl, hnx⟩ | (rename_i q; exact absurd hs1 q) | (rename_i q; exact absurd hs1.symm q))
    · have hs1 : (⟨(ls.getD (i : Int).toNat []).toArray⟩ : ByteArray) ≠ ⟨(ks.getD (i : Int).toNat []).toArray⟩ := fun e => he (by injection e with e; simpa using congrArg Array.toList e)
      have hs2 := Ne.symm hs1
      have hD : ls ≠ ks := fun e => he (by rw [e])
      rw [decide_eq_false hD]
      repeat' (first | refine stpS ?_ | (refine stp2 ?_ ?_ <;> intro _))
      repeat' (first | refine stp ?_ | (refine stp2 ?_ ?_ <;> intro _))
      all_goals (first | rfl | (rename_i q; exact absurd q hs1) | (rename_i q; exact absurd q hs2))
  obtain rfl : i = ls.length := by omega
  rw [List.take_length, hlk, List.take_length] at htk
  rw [decide_eq_true htk]
  repeat' (first | refine stpS ?_ | (refine stp2 ?_ ?_ <;> intro _))
  rfl
end Go.Proofs.YtfbddbpbifnhfaaDoor

/- Contracts of wal: a log that no call made. -/
namespace Go.Proofs.YtfbddbpbifnhfaaDoor
open Go.Abs Cd

section
variable {h : AH} {n : Nat} {p : Option Addr}
set_option maxHeartbeats 4000000 in
theorem noCommit_ev (hp : ∀ n', n ≤ n' → Ev Tryd.prog none' 42 #[.pointer p] n' h (.bool true) n' h) (c : Option Addr) (m : Nat) : Ev Tryd.prog none' 16 #[.pointer p, .slice c m m] n h (.int .i64 2) n h := by
  refine RF.pure rfl fun n' hn => ?_
  refine RF.of Tryd.func16 rfl rfl (Nat.le_of_ble_eq_true rfl) ?_; dsimp only [argEnv]
  repeat' (first | refine stpS ?_ | (refine stp2 ?_ ?_ <;> intro _))
  refine RS.call1 rfl opds (hp n' hn) none'W ?_
  repeat' (first | refine stpS ?_ | (refine stp2 ?_ ?_ <;> intro _))
  rfl
set_option maxHeartbeats 4000000 in
theorem noReset_ev (hp : ∀ n', n ≤ n' → Ev Tryd.prog none' 42 #[.pointer p] n' h (.bool true) n' h) (g : Int) : Ev Tryd.prog none' 24 #[.pointer p, .int .i64 g] n h (.int .i64 2) n h := by
  refine RF.pure rfl fun n' hn => ?_
  refine RF.of Tryd.func24 rfl rfl (Nat.le_of_ble_eq_true rfl) ?_; dsimp only [argEnv]
  repeat' (first | refine stpS ?_ | (refine stp2 ?_ ?_ <;> intro _))
  refine RS.call1 rfl opds (hp n' hn) none'W ?_
  repeat' (first | refine stpS ?_ | (refine stp2 ?_ ?_ <;> intro _))
  rfl
set_option maxHeartbeats 4000000 in
theorem noMany_ev (hp : ∀ n', n ≤ n' → Ev Tryd.prog none' 42 #[.pointer p] n' h (.bool true) n' h) : Ev Tryd.prog none' 21 #[.pointer p] n h (.int .i64 0) n h := by
  refine RF.pure rfl fun n' hn => ?_
  refine RF.of Tryd.func21 rfl rfl (Nat.le_of_ble_eq_true rfl) ?_; dsimp only [argEnv]
  repeat' (first | refine stpS ?_ | (refine stp2 ?_ ?_ <;> intro _))
  refine RS.call1 rfl opds (hp n' hn) none'W ?_
  repeat' (first | refine stpS ?_ | (refine stp2 ?_ ?_ <;> intro _))
  rfl
set_option maxHeartbeats 4000000 in
theorem noEnd_ev (hp : ∀ n', n ≤ n' → Ev Tryd.prog none' 42 #[.pointer p] n' h (.bool true) n' h) : Ev Tryd.prog none' 18 #[.pointer p] n h (.int .i64 0) n h := by
  refine RF.pure rfl fun n' hn => ?_
  refine RF.of Tryd.func18 rfl rfl (Nat.le_of_ble_eq_true rfl) ?_; dsimp only [argEnv]
  repeat' (first | refine stpS ?_ | (refine stp2 ?_ ?_ <;> intro _))
  refine RS.call1 rfl opds (hp n' hn) none'W ?_
  repeat' (first | refine stpS ?_ | (refine stp2 ?_ ?_ <;> intro _))
  rfl
set_option maxHeartbeats 4000000 in
theorem noGen_ev (hp : ∀ n', n ≤ n' → Ev Tryd.prog none' 42 #[.pointer p] n' h (.bool true) n' h) : Ev Tryd.prog none' 25 #[.pointer p] n h (.int .i64 0) n h := by
  refine RF.pure rfl fun n' hn => ?_
  refine RF.of Tryd.func25 rfl rfl (Nat.le_of_ble_eq_true rfl) ?_; dsimp only [argEnv]
  repeat' (first | refine stpS ?_ | (refine stp2 ?_ ?_ <;> intro _))
  refine RS.call1 rfl opds (hp n' hn) none'W ?_
  repeat' (first | refine stpS ?_ | (refine stp2 ?_ ?_ <;> intro _))
  rfl
end
end Go.Proofs.YtfbddbpbifnhfaaDoor

/- Contracts of wal: the commits told one by one. -/
namespace Go.Proofs.YtfbddbpbifnhfaaDoor
open Go.Abs Cd

/-- The list of commits lies at a, told from the block q. -/
structure CmK (q : Nat) (a : Option Addr) (N : List CmA) (n : Nat) (h : AH) : Prop where
  lt : q < n
  c0 : h.cell q 0 = .slice a N.length N.length
  sl : SlR h n a 1 N.length (fun j => (lgC N).getD j (.tuple #[]))
  cm : ∀ x ∈ N, ∃ ad, SlQ h n x.1 ad x.2
/-- Value i is a commit as that of L. -/
def cmVal (L : List (List (List UInt8))) (i : Nat) (vs : List Value) (n : Nat) (h : AH) : Prop := ∃ a ad l, vs = [.slice a l.length l.length] ∧ L[i]? = some l ∧ SlQ h n a ad l
set_option maxHeartbeats 4000000 in
theorem commits1_iter (q : Nat) (a : Option Addr) (N : List CmA) (hL : N.length ≤ 1099511627776) (hs : ∀ x ∈ N, x.2.length ≤ 1099511627776 ∧ ∀ l ∈ x.2, l.length ≤ 1099511627776) :
    IterFP Tryd.prog 54 [.pointer (some ⟨q, 0, none⟩)] N.length (cmVal (N.map (·.2))) (CmK q a N) := by
  intro W fv I D n h it hK h0 hn
  obtain ⟨k1, k2, k3, k4⟩ := hK 0 n h h0
  refine RF.of Tryd.func54 rfl rfl (Nat.le_of_ble_eq_true rfl) ?_; dsimp only [argEnv]
  repeat' (first | refine stpS ?_ | (refine stp2 ?_ ?_ <;> intro _))
  refine RC.loop ?_
  refine RL.inv (α := Nat) (fun y => [(7, .int .i64 (y : Nat)), (6, .int .i64 N.length), (5, .slice a N.length N.length), (0, fv)])
    (fun y n1 h1 => y ≤ N.length ∧ n ≤ n1 ∧ I y n1 h1) (fun y => N.length - y) 0 envs ⟨Nat.zero_le _, Nat.le_refl _, h0⟩ ?_
  rintro i n1 h1 ⟨hi, hn1, hI⟩
  obtain ⟨q1, q2, q3, q4⟩ := hK i n1 h1 hI
  by_cases hlt : i < N.length
  · obtain ⟨x, hx⟩ : ∃ x, N[i]? = some x := ⟨_, List.getElem?_eq_getElem hlt⟩
    obtain ⟨ad, hS⟩ := q4 x (List.mem_of_getElem? hx)
    obtain ⟨s1, s2⟩ := hs x (List.mem_of_getElem? hx)
    have hA : SlA a N.length := SlR.sla q3
    have hsn : sb a < n1 := SlR.lt q3 (by omega)
    have d0 : h1.cell (sb a) (so a + i) = .slice x.1 x.2.length x.2.length := (SlR.cell q3 i (by omega)).trans (by simp [lgC, List.getD, List.getElem?_map, hx])
    repeat' (first | refine stpS ?_ | (refine stp2 ?_ ?_ <;> intro _))
    refine RS.call rfl opds (own_rf x.2 ad x.1 x.2.length n1 h1 hS rfl s1 s2 (by omega)) none'W ?_
    rintro r n2 h2 hle2 ⟨a2, M, rfl, E2, C2, hM⟩
    have hI2 := it.mono i n1 h1 n2 h2 hI hle2 E2
    have hval : cmVal (N.map (·.2)) i [.slice a2 x.2.length x.2.length] n2 h2 := by
      have := C2.slq
      rw [hM] at this
      exact ⟨a2, _, x.2, rfl, by rw [List.getElem?_map, hx]; rfl, this⟩
    repeat' (first | refine stpS ?_ | (refine stp2 ?_ ?_ <;> intro _))
    refine RS.callV rfl opd opds (it.step i _ n2 h2 hlt hval hI2) (fun b hb => .inl hb) ?_
    rintro r n3 h3 hle3 (⟨rfl, hI3⟩ | ⟨rfl, hD⟩)
    · repeat' (first | refine stpS ?_ | (refine stp2 ?_ ?_ <;> intro _))
      exact nextC.normal ⟨i + 1, by omega, envs, by omega, by omega, hI3⟩
    · repeat' (first | refine stpS ?_ | (refine stp2 ?_ ?_ <;> intro _))
      exact .inr hD
  · obtain rfl : i = N.length := by omega
    repeat' (first | refine stpS ?_ | (refine stp2 ?_ ?_ <;> intro _))
    exact .inl hI
end Go.Proofs.YtfbddbpbifnhfaaDoor

/- Contracts of wal: the commits of a log. -/
namespace Go.Proofs.YtfbddbpbifnhfaaDoor
open Go.Abs Cd

theorem lgC_known (N : List CmA) : known (lgC N) = true := by
  induction N with
  | nil => rfl
  | cons x r ih => exact ih
set_option maxHeartbeats 4000000 in
theorem cloneC_rf (N : List CmA) (a : Option Addr) (n : Nat) (h : AH) (hO : OwnSl h 0 n a 1 N.length (lgC N)) (hL : N.length ≤ 1099511627776) :
    RF Tryd.prog none' 53 #[.slice a N.length N.length] n h (fun r n' h' => ∃ a', r = .slice a' N.length N.length ∧ Ext n h h' ∧ OwnSl h' n n' a' 1 N.length (lgC N)) := by
  refine RF.of Tryd.func53 rfl rfl (Nat.le_of_ble_eq_true rfl) ?_; dsimp only [argEnv]
  have S := hO.slr
  rcases S.two with ⟨ha, hl⟩ | ⟨b, o, ha⟩
  · have : N = [] := List.eq_nil_of_length_eq_zero hl
    subst this; subst ha
    repeat' (first | refine stpS ?_ | (refine stp2 ?_ ?_ <;> intro _))
    exact ⟨none, rfl, ext, OwnSl.nil (by omega)⟩
  · subst ha
    have hsrc := hO.src
    repeat' (first | refine stpS ?_ | (refine stp2 ?_ ?_ <;> intro _))
    refine RS.append rfl opd opd (OwnSl.new (z := 1) (m := 0) (cs := []) (Nat.le_refl n) rfl rfl) (hO.ext ext (Nat.le_succ n)).src full_slice (fun b hb => Or.inr (by omega)) (by omega) ?_
    intro a' n1 h1 hle hO hX hnew
    have hE := hX.ext (OwnSl.new (z := 1) (m := 0) (cs := []) (Nat.le_refl n) rfl rfl)
    simp only [Nat.zero_add, List.nil_append] at hO ⊢
    repeat' (first | refine stpS ?_ | (refine stp2 ?_ ?_ <;> intro _))
    exact ⟨a', rfl, ext, hO⟩
set_option maxHeartbeats 4000000 in
theorem commits_rf {h : AH} {n lg d : Nat} {F G B : Nat → Prop} {a : Option Addr} {N : List CmA} {X : LS} (R : LgR h n lg d F G a N B X) :
    RF Tryd.prog none' 23 #[.pointer (some ⟨lg, 0, none⟩)] n h (fun r n' h' => ∃ q a', r = .func (.func 54) #[] #[.pointer (some ⟨q, 0, none⟩)] ∧ Ext n h h' ∧ n ≤ q ∧ CmK q a' N n' h') := by
  refine RF.of Tryd.func23 rfl rfl (Nat.le_of_ble_eq_true rfl) ?_; dsimp only [argEnv]
  have hlt := R.hi
  have c0 := R.c0
  have hNl : X.L.length = N.length := by rw [← R.nl, List.length_map]
  have c2 : h.cell lg 2 = .slice a N.length N.length := by rw [← hNl]; exact R.c2
  have hO : OwnSl h 0 n a 1 N.length (lgC N) := by rw [← hNl]; exact R.own
  have hle := R.le
  have hme := R.me
  repeat' (first | refine stpS ?_ | (refine stp2 ?_ ?_ <;> intro _))
  refine RS.gen (fun g => Ext n h g ∧ g.info n = some ⟨1, 0, true, 0⟩) ⟨ext, info⟩ ?_
  rintro g ⟨E0, i0⟩
  have c0 := c_ext E0 hlt c0
  have c2 := c_ext E0 hlt c2
  refine RS.call1 rfl opds (none_ev (by omega) c0) none'W ?_
  repeat' (first | refine stpS ?_ | (refine stp2 ?_ ?_ <;> intro _))
  refine RS.call rfl opds (cloneC_rf N a (n + 1) g (hO.ext E0 (Nat.le_succ n)) (by omega)) none'W ?_
  rintro r n1 h1 k1 ⟨a', rfl, E1, O1⟩
  have i1 := (E1.info n (Nat.lt_succ_self n)).trans i0
  have E1' : Ext n h h1 := E0.trans (Nat.le_succ n) E1
  repeat' (first | refine stpS ?_ | (refine stp2 ?_ ?_ <;> intro _))
  refine ⟨n, a', rfl, E1'.appSets (Nat.le_refl _), Nat.le_refl _, ⟨by omega, cell, ?_, fun x hx => ?_⟩⟩
  · exact OwnSl.slr (O1.sets (Nat.lt_succ_self n))
  · obtain ⟨ad, S, -⟩ := R.cm x hx
    exact ⟨ad, S.ext (E1'.appSets (Nat.le_refl _)) (by omega)⟩
set_option maxHeartbeats 4000000 in
theorem noCommits_rf {h : AH} {n : Nat} {p : Option Addr} (hp : Ev Tryd.prog none' 42 #[.pointer p] (n + 1) (h.app (.new n ⟨1, 0, true, 0⟩ [.slice none 0 0])) (.bool true) (n + 1) (h.app (.new n ⟨1, 0, true, 0⟩ [.slice none 0 0]))) :
    RF Tryd.prog none' 23 #[.pointer p] n h (fun r n' h' => ∃ q a', r = .func (.func 54) #[] #[.pointer (some ⟨q, 0, none⟩)] ∧ Ext n h h' ∧ n ≤ q ∧ CmK q a' [] n' h') := by
  refine RF.of Tryd.func23 rfl rfl (Nat.le_of_ble_eq_true rfl) ?_; dsimp only [argEnv]
  repeat' (first | refine stpS ?_ | (refine stp2 ?_ ?_ <;> intro _))
  refine RS.call1 rfl opds hp none'W ?_
  repeat' (first | refine stpS ?_ | (refine stp2 ?_ ?_ <;> intro _))
  exact ⟨n, none, rfl, ext, Nat.le_refl _, ⟨by omega, cell, OwnSl.slr (OwnSl.nil (n0 := 0) (Nat.zero_le _)), fun x hx => (by cases hx)⟩⟩
end Go.Proofs.YtfbddbpbifnhfaaDoor

/- Contracts of wal: are just these commits told? -/
namespace Go.Proofs.YtfbddbpbifnhfaaDoor
open Go.Abs Cd

theorem slR_obj {h : AH} {n z m b : Nat} {c : Option Addr} {f : Nat → Value} {mm : Meta} {o : AObj} (s : SlR h n c z m f) (hi : h.info b = some mm) (h0 : mm.sz = 0) (hz : z ≠ 0) : SlR (h.app (.obj b o)) n c z m f := by
  refine ⟨?_, fun j hj => c_obj (s.cell j hj)⟩
  rcases s.shape with k | ⟨k1, k2, m2, k3, k4⟩
  · exact .inl k
  · refine .inr ⟨k1, k2, m2, i_obj_ne (fun e => ?_) k3, k4⟩
    rw [e, hi] at k3; cases k3
    exact hz (k4.symm.trans h0)
set_option maxHeartbeats 4000000 in
theorem told_rf (f : FuncId) (caps : List Value) (K : Nat → AH → Prop) (L : List (List (List UInt8))) (N : List CmA) (w : Option Addr) (n : Nat) (h : AH) (it : IterFP Tryd.prog f caps L.length (cmVal L) K) (hK : ∀ n' h', n ≤ n' → Ext n h h' → K n' h')
    (hW : SlR h n w 1 N.length (fun j => (lgC N).getD j (.tuple #[]))) (hN : ∀ x ∈ N, ∃ ad, SlQ h n x.1 ad x.2) (hL : N.map (·.2) = L) (hl : L.length ≤ 1099511627776) (hs : ∀ l ∈ L, l.length ≤ 1099511627776) (hn0 : 0 < n) :
    RF Tryd.prog none' 22 #[.func (.func f) #[] caps.toArray, .slice w N.length N.length] n h (fun r n' h' => r = .bool true ∧ Ext n h h') := by
  have hNL : N.length = L.length := by rw [← hL, List.length_map]
  rw [hNL]
  rw [hNL] at hW
  refine RF.of Tryd.func22 rfl rfl (Nat.le_of_ble_eq_true rfl) ?_; dsimp only [argEnv]
  repeat' (first | refine stpS ?_ | (refine stp2 ?_ ?_ <;> intro _))
  obtain ⟨g, hg⟩ : ∃ g, g = (((h.app (.new n ⟨1, 0, true, 0⟩ [.slice w L.length L.length])).app (.new (n + 1) ⟨1, 0, true, 0⟩ [.bool false])).app (.new (n + 1 + 1) ⟨1, 0, true, 0⟩ [.int .i64 0])).app (.sets (n + 1 + 1) 0 [.int .i64 0]) := ⟨_, rfl⟩
  refine RC.heap hg ?_
  have E0 : Ext n h g := by rw [hg]; exact ext
  have k0 : g.cell n 0 = .slice w L.length L.length := by rw [hg]; exact cell
  have k2 : g.cell (n + 1 + 1) 0 = .int .i64 0 := by rw [hg]; exact cell
  have i1 : g.info (n + 1) = some ⟨1, 0, true, 0⟩ := by rw [hg]; exact info
  have i2 : g.info (n + 1 + 1) = some ⟨1, 0, true, 0⟩ := by rw [hg]; exact info
  clear hg
  refine RC.rangeFunc opd (env0 := [(3, .pointer (some ⟨n, 0, none⟩)), (4, .pointer (some ⟨n + 1, 0, none⟩)), (5, .pointer (some ⟨n + 1 + 1, 0, none⟩))]) envs (W := fun b => n ≤ b) (by intro b hb; first | omega | (dsimp only at hb ⊢; omega) | (dsimp only at hb; omega) | (dsimp only; omega)) ?_
  intro A hA
  refine (it _ _
    (fun i n6 h6 => n + 4 ≤ n6 ∧ Ext n h h6 ∧ h6.info (n + 1 + 1 + 1) = some (AObj.loop A).m ∧ h6.info (n + 1) = some ⟨1, 0, true, 0⟩ ∧ h6.info (n + 1 + 1) = some ⟨1, 0, true, 0⟩ ∧ h6.cell n 0 = .slice w L.length L.length ∧ h6.cell (n + 1 + 1) 0 = .int .i64 (i : Nat) ∧ i ≤ L.length)
    (fun _ _ => False) _ _ ⟨?_, ?_⟩ ?_ ?_ (by omega)).mono ?_
  · rintro i n6 h6 n7 h7 ⟨q1, q2, q3, q4, q5, q6, q7, q8⟩ hn hE
    exact ⟨by omega, q2.trans (by omega) hE, (hE.info _ (by omega)).trans q3, (hE.info _ (by omega)).trans q4, (hE.info _ (by omega)).trans q5, c_ext hE (by omega) q6, c_ext hE (by omega) q7, q8⟩
  · rintro i vs n6 h6 hil ⟨b, ad, l, rfl, hx, hS⟩ ⟨q1, q2, q3, q4, q5, q6, q7, q8⟩
    obtain ⟨y, hy⟩ : ∃ y, N[i]? = some y := ⟨_, List.getElem?_eq_getElem (by omega)⟩
    have hyl : y.2 = l := by
      rw [← hL, List.getElem?_map, hy] at hx
      exact Option.some.inj hx
    obtain ⟨ae, hS2⟩ := hN y (List.mem_of_getElem? hy)
    have hll := hs l (List.mem_of_getElem? hx)
    have hA1 : SlA w L.length := SlR.sla hW
    have hwn : sb w < n := SlR.lt hW (by omega)
    have d0 : h6.cell (sb w) (so w + i) = .slice y.1 y.2.length y.2.length := c_ext q2 hwn ((SlR.cell hW i (by omega)).trans (by simp [lgC, List.getD, List.getElem?_map, hy]))
    rw [hyl] at d0
    have hS6 : SlQ (h6.app (.obj (n + 1 + 1 + 1) (.loop A.busy))) n6 b ad l := ⟨slR_obj hS.out q3 rfl (by decide), fun j hj => slR_obj (hS.row j hj) q3 rfl (by decide)⟩
    have hN6 : SlQ (h6.app (.obj (n + 1 + 1 + 1) (.loop A.busy))) n6 y.1 ae l := by
      rw [← hyl]
      have e := hS2.ext q2 (by omega : n ≤ n6)
      exact ⟨slR_obj e.out q3 rfl (by decide), fun j hj => slR_obj (e.row j hj) q3 rfl (by decide)⟩
    have hsm := sameRec_ev l l ad ae b y.1 n6 (h6.app (.obj (n + 1 + 1 + 1) (.loop A.busy))) hS6 hN6 hll hll
    rw [decide_eq_true rfl] at hsm
    refine VF.yield1 hA q3 rfl (by show n ≤ _; omega) (by omega) ?_
    have d0' : (h6.app (.obj (n + 1 + 1 + 1) (.loop A.busy))).cell (sb w) (so w + i) = .slice y.1 l.length l.length := c_obj d0
    repeat' (first | refine stpS ?_ | (refine stp2 ?_ ?_ <;> intro _))
    refine RS.call1 rfl opds hsm none'W ?_
    repeat' (first | refine stpS ?_ | (refine stp2 ?_ ?_ <;> intro _))
    exact .inl ⟨rfl, by omega, ext, info, info, info, cell, cell, hil⟩
  · rintro i n6 h6 ⟨q1, q2, q3, q4, q5, q6, q7, q8⟩
    exact hK n6 h6 (by omega) q2
  · refine ⟨by omega, ?_, info, info, info, cell, cell, Nat.zero_le _⟩
    exact E0.trans (Nat.le_refl _) (Ext.appObj (by omega) (Ext.refl _ _))
  · rintro r n6 h6 (⟨q1, q2, q3, q4, q5, q6, q7, q8⟩ | q)
    · refine rangeC.normal q3 ?_
      repeat' (first | refine stpS ?_ | (refine stp2 ?_ ?_ <;> intro _))
      exact ⟨rfl, ext⟩
    · exact q.elim
end Go.Proofs.YtfbddbpbifnhfaaDoor

/- The plain law of commits: what is written is what is read. -/
namespace Go.Proofs.YtfbddbpbifnhfaaDoor
open Go.Abs Cd

theorem drop_succ_get (ls : List (List UInt8)) (i : Nat) (hi : i < ls.length) : ls.drop i = ls[i] :: ls.drop (i + 1) := List.drop_eq_getElem_cons hi
theorem restN_form (ls : List (List UInt8)) (r : List UInt8) : ∀ i, i ≤ ls.length → restN (ls.flatMap formB ++ r) i = (ls.drop i).flatMap formB ++ r := by
  intro i
  induction i with
  | zero => intro _; rfl
  | succ i ih =>
    intro hi
    have h1 := ih (by omega)
    show (restN _ i).drop (pB (restN _ i)).2.1 = _
    rw [h1, drop_succ_get ls i (by omega), List.flatMap_cons, List.append_assoc, pB_form, List.drop_left]
theorem recN_form (ls : List (List UInt8)) (r : List UInt8) (i : Nat) (hi : i < ls.length) : recN (ls.flatMap formB ++ r) i = (ls[i], (formB ls[i]).length, 0) := by
  unfold recN
  rw [restN_form ls r i (by omega), drop_succ_get ls i hi, List.flatMap_cons, List.append_assoc, pB_form]
theorem rowsN_form (ls : List (List UInt8)) (r : List UInt8) : rowsN (ls.flatMap formB ++ r) ls.length = ls := by
  unfold rowsN
  apply List.ext_getElem
  · simp
  · intro i h1 h2
    rw [List.getElem_map, List.getElem_range, recN_form ls r i h2]
theorem recordsP_data (ls : List (List UInt8)) (h1 : 1 ≤ ls.length) (h2 : ls.length ≤ 4096) : recordsP (dataB ls) = (ls, true) := by
  have hp : pI (dataB ls) = (((ls.length : Nat) : Int), (form (ls.length : Nat)).length, 0) := pI_form (ls.length : Nat) (by omega) (by omega) _
  unfold recordsP
  rw [hp]
  dsimp only
  have hd : (dataB ls).drop (form (ls.length : Nat)).length = ls.flatMap formB ++ [] := by unfold dataB; rw [List.drop_left, List.append_nil]
  rw [hd, Int.toNat_natCast, rowsN_form, restN_form ls [] ls.length (Nat.le_refl _), if_pos ⟨rfl, by omega, by omega, fun i hi => by rw [recN_form ls [] i hi]⟩]
  simp
theorem mkd_mark (g s m c : Int) (hg : may g) (hs : may s) (hm : 0 ≤ m ∧ m ≤ 262144) (hc : 0 ≤ c ∧ c < 4294967296) : mkd g s (markB g s m c) = (m, c, true) := by
  have hg' := hg.i64
  have hs' := hs.i64
  obtain ⟨t, ht⟩ : ∃ t, markB g s m c = form g ++ (form s ++ (form m ++ (form c ++ t))) := ⟨zeros (508 - (headB g s m c).length) ++ little (crc (padB g s m c)), by
    show headB g s m c ++ _ ++ _ = _
    unfold headB
    simp only [List.append_assoc]⟩
  have e1 : pI (markB g s m c) = (g, (form g).length, 0) := by rw [ht]; exact pI_form g hg'.1 hg'.2 _
  have e2 : pI ((markB g s m c).drop (form g).length) = (s, (form s).length, 0) := by rw [ht, List.drop_left]; exact pI_form s hs'.1 hs'.2 _
  have e3 : pI (((markB g s m c).drop (form g).length).drop (form s).length) = (m, (form m).length, 0) := by rw [ht, List.drop_left, List.drop_left]; exact pI_form m (by omega) (by omega) _
  have e4 : pI ((((markB g s m c).drop (form g).length).drop (form s).length).drop (form m).length) = (c, (form c).length, 0) := by rw [ht, List.drop_left, List.drop_left, List.drop_left]; exact pI_form c (by omega) (by omega) _
  unfold mkd
  rw [e1]
  dsimp only
  rw [e2]
  dsimp only
  rw [e3]
  dsimp only
  rw [e4]
  dsimp only
  rw [if_pos ⟨rfl, rfl, rfl, rfl, hg, hs, hm.1, hm.2, hc, rfl⟩]
/-- The bytes of a commit, the k-th of its log. -/
def comB (gen : Int) (k : Nat) (ls : List (List UInt8)) : List UInt8 := markD gen (k : Nat) (dataB ls) ++ fillB (dataB ls)
theorem nextP_com (gen : Int) (k : Nat) (p q : List UInt8) (ls : List (List UInt8)) (hg : may gen) (hk : may (k : Nat)) (h1 : 1 ≤ ls.length) (h2 : ls.length ≤ 4096) (h3 : (dataB ls).length ≤ 262144) :
    nextP gen k p.length (p ++ (comB gen k ls ++ q)) = some (ls, 512 + (fillB (dataB ls)).length) := by
  have hc := crc_lt (dataB ls)
  have hml : (markD gen (k : Nat) (dataB ls)).length = 512 := markB_length hg.i64 hk.i64 ⟨by omega, by omega⟩ ⟨by omega, by omega⟩
  have hx := mkd_mark gen (k : Nat) ((dataB ls).length : Nat) (crc (dataB ls) : Nat) hg hk ⟨by omega, by omega⟩ ⟨by omega, by omega⟩
  have hf := fillB_length (dataB ls)
  unfold nextP comB
  rw [if_neg (by simp only [List.length_append]; omega), List.drop_left]
  have e1 : (markD gen (k : Nat) (dataB ls) ++ fillB (dataB ls) ++ q).take 512 = markD gen (k : Nat) (dataB ls) := by rw [List.append_assoc, ← hml, List.take_left]
  have e2 : (markD gen (k : Nat) (dataB ls) ++ fillB (dataB ls) ++ q).drop 512 = fillB (dataB ls) ++ q := by rw [List.append_assoc, ← hml, List.drop_left]
  have e3 : (fillB (dataB ls) ++ q).take (dataB ls).length = dataB ls := by unfold fillB; rw [List.append_assoc, List.take_left]
  rw [e1, e2]
  have hx : mkd gen (k : Nat) (markD gen (k : Nat) (dataB ls)) = ((((dataB ls).length : Nat) : Int), ((crc (dataB ls) : Nat) : Int), true) := hx
  dsimp only
  rw [hx]
  dsimp only
  rw [Int.toNat_natCast, e3, recordsP_data ls h1 h2, if_pos ⟨rfl, by rw [List.length_append]; omega, rfl, rfl, by rw [List.length_append]; omega, List.take_left⟩]
end Go.Proofs.YtfbddbpbifnhfaaDoor

/- The plain law of writes: a file's bytes behind a write. -/
namespace Go.Proofs.YtfbddbpbifnhfaaDoor
open Go.Abs Cd

/-- The first k bytes, filled up with zeros. -/
def pad (l : List UInt8) (k : Nat) : List UInt8 := (l ++ zeros (k - l.length)).take k
def over (l : List UInt8) (k : Nat) (b : List UInt8) : List UInt8 := pad l k ++ (b ++ l.drop (k + b.length))
theorem pad_length (l : List UInt8) (k : Nat) : (pad l k).length = k := by
  unfold pad zeros
  rw [List.length_take, List.length_append, List.length_replicate]
  omega
theorem pad_of (l : List UInt8) (k : Nat) (h : k ≤ l.length) : pad l k = l.take k := by
  unfold pad zeros
  rw [show k - l.length = 0 by omega, List.replicate_zero, List.append_nil]
theorem doP_over (l : List UInt8) (f k : Nat) (b : List UInt8) : Dk.doP l ⟨f, false, k, b⟩ = over l k b := by
  unfold Dk.doP over Abs.splice
  simp only [Bool.false_eq_true, if_false]
  rw [List.append_assoc]
  congr 1
  · unfold pad zeros
    by_cases h : k ≤ l.length
    · rw [List.take_append_of_le_length h, List.take_append_of_le_length h]
    · rw [List.take_append, List.take_append, List.take_replicate, List.take_replicate]
      congr 2; omega
  · congr 1
    by_cases h : k + b.length ≤ l.length
    · rw [show k + b.length - l.length = 0 by omega, List.replicate_zero, List.append_nil]
    · rw [List.drop_of_length_le (by rw [List.length_append, List.length_replicate]; omega), List.drop_of_length_le (by omega)]
theorem over_app (l : List UInt8) (k : Nat) (b c : List UInt8) : over (over l k b) (k + b.length) c = over l k (b ++ c) := by
  have hp := pad_length l k
  have h1 : pad (over l k b) (k + b.length) = pad l k ++ b := by
    rw [pad_of _ _ (by unfold over; simp only [List.length_append, hp]; omega)]
    unfold over
    rw [← List.append_assoc, List.take_left' (by rw [List.length_append, hp])]
  have h2 : (over l k b).drop (k + b.length + c.length) = l.drop (k + (b ++ c).length) := by
    unfold over
    rw [← List.append_assoc, ← List.drop_drop, List.drop_left' (by rw [List.length_append, hp]), List.drop_drop, List.length_append]
    congr 1; omega
  rw [over, h1, h2, over, List.append_assoc, List.append_assoc]
theorem over_nil (l : List UInt8) (k : Nat) (h : k ≤ l.length) : over l k [] = l := by
  unfold over
  rw [pad_of l k h, List.nil_append, List.length_nil, Nat.add_zero, List.take_append_drop]
theorem now_chunks (f : Nat) : ∀ (m k : Nat) (b l : List UInt8), b.length ≤ m → 0 < b.length → Dk.nowP f l (Dk.chunks f b.length k b) = over l k b := by
  intro m
  induction m with
  | zero => intro k b l h1 h2; omega
  | succ m ih =>
    intro k b l h1 h2
    rw [Dk.chunks_step f k b h2]
    have hk : k % 512 < 512 := Nat.mod_lt _ (by decide)
    generalize hj : min b.length (512 - k % 512) = j
    have hj0 : 0 < j := by omega
    have hjb : j ≤ b.length := by omega
    have hstep : ∀ ps, Dk.nowP f l (⟨f, false, k, b.take j⟩ :: ps) = Dk.nowP f (over l k (b.take j)) ps := fun ps => by
      unfold Dk.nowP
      rw [List.filter_cons_of_pos (by simp), List.foldl_cons, doP_over]
    rw [hstep]
    by_cases hr : j = b.length
    · rw [hr, List.take_length, List.drop_length]
      simp [Dk.nowP, Dk.chunks]
    · have hd : (b.drop j).length = b.length - j := List.length_drop
      have ht : (b.take j).length = j := by rw [List.length_take]; omega
      rw [ih (k + j) (b.drop j) _ (by omega) (by omega)]
      have := over_app l k (b.take j) (b.drop j)
      rw [ht, List.take_append_drop] at this
      exact this
end Go.Proofs.YtfbddbpbifnhfaaDoor

/- The plain law of a log over a disk whose power stays on. -/
namespace Go.Proofs.YtfbddbpbifnhfaaDoor
open Go.Abs Cd

theorem now_app (f : Nat) (l : List UInt8) (p q : List Dk.Pc) : Dk.nowP f l (p ++ q) = Dk.nowP f (Dk.nowP f l p) q := by
  unfold Dk.nowP
  rw [List.filter_append, List.foldl_append]
theorem wrS_on {S : Dk.DS} {k : Nat} {b : List UInt8} (hf : S.fuse = 0) (hd : S.down = false) (hb : 0 < b.length) (hk : k + b.length ≤ 4194304) :
    (wrS S k b).1 = 0 ∧ (wrS S k b).2.fuse = 0 ∧ (wrS S k b).2.down = false ∧ (wrS S k b).2.now 1 = over (S.now 1) k b ∧ (wrS S k b).2.calls = S.calls + 2 := by
  have hm : S.may 1 = 0 := by unfold Dk.DS.may; rw [hd]; simp
  have hw : Dk.writeE (k : Nat) b = 0 := by
    unfold Dk.writeE
    rw [if_neg (by omega), if_neg (by omega)]
  have he : S.write 1 (k : Nat) b = (0, { S with ps := S.ps ++ Dk.chunks 1 b.length k b, calls := S.calls + 1 }) := by
    unfold Dk.DS.write
    rw [if_neg (fun z => z hm), if_neg (fun z => z hw)]
    unfold Dk.DS.ends
    rw [if_pos (show (S.writes (1 : Int).toNat (k : Int).toNat b).fuse = 0 from hf)]; rfl
  have hs : ({ S with ps := S.ps ++ Dk.chunks 1 b.length k b, calls := S.calls + 1 } : Dk.DS).sync 1 = (0, ({ S with ps := S.ps ++ Dk.chunks 1 b.length k b, calls := S.calls + 1 + 1 } : Dk.DS).synced 1) := by
    unfold Dk.DS.sync
    have hm2 : ({ S with ps := S.ps ++ Dk.chunks 1 b.length k b, calls := S.calls + 1 } : Dk.DS).may 1 = 0 := hm
    have hen : ({ S with ps := S.ps ++ Dk.chunks 1 b.length k b, calls := S.calls + 1 } : Dk.DS).ends = (0, { S with ps := S.ps ++ Dk.chunks 1 b.length k b, calls := S.calls + 1 + 1 }) := by unfold Dk.DS.ends; rw [if_pos (show ({ S with ps := S.ps ++ Dk.chunks 1 b.length k b, calls := S.calls + 1 } : Dk.DS).fuse = 0 from hf)]
    rw [if_neg (fun z => z hm2), hen, if_neg (fun z => z rfl)]; rfl
  unfold wrS
  rw [he, if_neg (fun z => z rfl), hs]
  refine ⟨rfl, hf, hd, ?_, by show S.calls + 1 + 1 = _; omega⟩
  rw [Dk.synced_now]
  show Dk.nowP 1 (S.sure 1) (S.ps ++ Dk.chunks 1 b.length k b) = _
  rw [now_app, now_chunks 1 b.length k b _ (Nat.le_refl _) hb]; rfl
end Go.Proofs.YtfbddbpbifnhfaaDoor

/- The plain law of a log over a disk whose power stays on: what is committed is there when it is opened again. -/
namespace Go.Proofs.YtfbddbpbifnhfaaDoor
open Go.Abs Cd

/-- Records that may be a commit. -/
def okC (ls : List (List UInt8)) : Prop := 1 ≤ ls.length ∧ ls.length ≤ 4096 ∧ (dataB ls).length ≤ 262144
/-- The bytes of commits, the first the k-th. -/
def logB (gen : Int) : Nat → List (List (List UInt8)) → List UInt8
  | _, [] => []
  | k, l :: L => comB gen k l ++ logB gen (k + 1) L
theorem logB_app (gen : Int) : ∀ (L M : List (List (List UInt8))) (k : Nat), logB gen k (L ++ M) = logB gen k L ++ logB gen (k + L.length) M := by
  intro L
  induction L with
  | nil => intro M k; rfl
  | cons l L ih =>
    intro M k
    show comB gen k l ++ logB gen (k + 1) (L ++ M) = comB gen k l ++ logB gen (k + 1) L ++ logB gen (k + (L.length + 1)) M
    rw [ih M (k + 1), List.append_assoc, show k + 1 + L.length = k + (L.length + 1) by omega]
theorem logB_one (gen : Int) (k : Nat) (l : List (List UInt8)) : logB gen k [l] = comB gen k l := List.append_nil _
theorem comB_length {gen : Int} {k : Nat} {ls : List (List UInt8)} (hg : may gen) (hk : may (k : Nat)) (h3 : (dataB ls).length ≤ 262144) : (comB gen k ls).length = 512 + (fillB (dataB ls)).length := by
  have hc := crc_lt (dataB ls)
  have : (markD gen (k : Nat) (dataB ls)).length = 512 := markB_length hg.i64 hk.i64 ⟨by omega, by omega⟩ ⟨by omega, by omega⟩
  unfold comB
  rw [List.length_append, this]
def LS.all (X : LS) (b : List UInt8) : LS := X.scan (b.length - X.e) b
theorem all_logOf (S : Dk.DS) (gen : Int) (b : List UInt8) : logOf S gen b = LS.all ⟨S, gen, [], 0⟩ b := rfl
theorem all_none {X : LS} {b : List UInt8} (h : X.next b = none) : X.all b = X := scan_none h _
theorem all_some {X Y : LS} {b : List UInt8} (h : X.next b = some Y) : X.all b = Y.all b := by
  obtain ⟨q1, q2, -⟩ := next_facts h
  obtain ⟨j, hj⟩ : ∃ j, b.length - X.e = j + 1 := ⟨b.length - X.e - 1, by omega⟩
  unfold LS.all
  rw [hj, scan_some h]
  exact scan_fuel b _ _ Y (by omega) (Nat.le_refl _)
theorem next_com {X : LS} {p q : List UInt8} {l : List (List UInt8)} (hg : may X.gen) (hk : may (X.L.length : Nat)) (he : X.e = p.length) (hl : okC l) :
    X.next (p ++ (comB X.gen X.L.length l ++ q)) = some { X with L := X.L ++ [l], e := X.e + (comB X.gen X.L.length l).length } := by
  unfold LS.next
  rw [he, nextP_com X.gen X.L.length p q l hg hk hl.1 hl.2.1 hl.2.2, comB_length hg hk hl.2.2]
  rfl
theorem all_logB (q : List UInt8) : ∀ (L : List (List (List UInt8))) (X : LS) (p : List UInt8), may X.gen → X.L.length + L.length ≤ 1099511627776 → X.e = p.length → (∀ l ∈ L, okC l) →
    X.all (p ++ (logB X.gen X.L.length L ++ q)) = LS.all { X with L := X.L ++ L, e := X.e + (logB X.gen X.L.length L).length } (p ++ (logB X.gen X.L.length L ++ q)) := by
  intro L
  induction L with
  | nil => intro X p hg hL he hl; rw [List.append_nil]; rfl
  | cons l L ih =>
    intro X p hg hL he hl
    rw [List.length_cons] at hL
    have hn := next_com (q := logB X.gen (X.L.length + 1) L ++ q) hg (by unfold may; omega) he (hl l (by simp))
    have e0 : p ++ (logB X.gen X.L.length (l :: L) ++ q) = p ++ (comB X.gen X.L.length l ++ (logB X.gen (X.L.length + 1) L ++ q)) := by
      show p ++ (comB X.gen X.L.length l ++ logB X.gen (X.L.length + 1) L ++ q) = _
      rw [List.append_assoc]
    rw [e0, all_some hn]
    have := ih { X with L := X.L ++ [l], e := X.e + (comB X.gen X.L.length l).length } (p ++ comB X.gen X.L.length l) hg (by simp only [List.length_append, List.length_singleton]; omega) (by rw [List.length_append]; show X.e + _ = _; omega) (fun x hx => hl x (by simp [hx]))
    simp only [List.length_append, List.length_singleton] at this
    rw [List.append_assoc] at this
    rw [this]
    congr 1
    show LS.mk _ _ _ _ = LS.mk _ _ _ _
    congr 1
    · rw [List.append_assoc]; rfl
    · show _ = X.e + (comB X.gen X.L.length l ++ logB X.gen (X.L.length + 1) L).length
      rw [List.length_append]; omega
theorem next_short {X : LS} {b : List UInt8} (h : b.length < X.e + 512) : X.next b = none := by
  unfold LS.next nextP
  rw [if_pos h]; rfl
theorem logOf_logB (S : Dk.DS) (gen : Int) (L : List (List (List UInt8))) (hg : may gen) (hL : L.length ≤ 1099511627776) (hl : ∀ l ∈ L, okC l) : logOf S gen (logB gen 0 L) = ⟨S, gen, L, (logB gen 0 L).length⟩ := by
  have := all_logB [] L ⟨S, gen, [], 0⟩ [] hg (by show 0 + _ ≤ _; omega) rfl hl
  rw [List.nil_append, List.append_nil, List.nil_append, Nat.zero_add] at this
  rw [all_logOf]
  refine this.trans (all_none (next_short ?_))
  show (logB gen 0 L).length < (logB gen 0 L).length + 512
  omega
/-- The power stays on; the file is what was committed. -/
structure On (X : LS) : Prop where
  fuse : X.S.fuse = 0
  down : X.S.down = false
  now : X.S.now 1 = logB X.gen 0 X.L
  e : X.e = (logB X.gen 0 X.L).length
  ok : ∀ l ∈ X.L, okC l
  gm : may X.gen
  le : X.L.length ≤ 1099511627776
theorem may1 {S : Dk.DS} (h : S.down = false) : S.may 1 = 0 := by unfold Dk.DS.may; rw [h]; simp
theorem openP_on {X : LS} (h : On X) : openP X.S X.gen = (0, X) := by
  unfold openP
  rw [if_neg (fun z => z h.gm), if_neg (fun z => z (may1 h.down)), h.now]
  dsimp only
  rw [logOf_logB X.S X.gen X.L h.gm h.le h.ok, if_pos rfl, ← h.e]
theorem wrS_full {S : Dk.DS} {k : Nat} {b : List UInt8} (hd : S.down = false) (hb : 0 < b.length) (hk : 4194304 < k + b.length) : wrS S k b = (5, S) := by
  have hw : Dk.writeE (k : Nat) b = 5 := by
    unfold Dk.writeE
    rw [if_neg (by omega), if_pos ⟨hb, by omega⟩]
  have he : S.write 1 (k : Nat) b = (5, S) := by
    unfold Dk.DS.write
    rw [if_neg (fun z => z (may1 hd)), hw, if_pos (by decide)]
  unfold wrS
  rw [he, if_pos (fun z : (5 : Int) = 0 => by omega)]
theorem dataB_pos (ls : List (List UInt8)) : 0 < (dataB ls).length := by
  unfold dataB
  rw [List.length_append]
  have : 0 < (form (ls.length : Nat)).length := by
    have q := form_lenP (v := (ls.length : Nat)) (by omega)
    split at q <;> omega
  omega
/-- A commit while the power stays on. -/
theorem commitP_on {X : LS} (h : On X) (ls : List (List UInt8)) (me : X.e ≤ 4194304) :
    ((commitP X ls).1 ≠ 0 ∧ commitP X ls = ((commitP X ls).1, X) ∧ (262144 < sizeL ls ∨ ¬ okC ls ∨ 4194304 < X.e + 512 + (fillB (dataB ls)).length)) ∨
    (okC ls ∧ sizeL ls ≤ 262144 ∧ ∃ S', commitP X ls = (0, ⟨S', X.gen, X.L ++ [ls], X.e + (512 + (fillB (dataB ls)).length)⟩) ∧ On ⟨S', X.gen, X.L ++ [ls], X.e + (512 + (fillB (dataB ls)).length)⟩) := by
  have hD : commitP X ls = if 262144 < sizeL ls then (60, X) else if ls.length = 0 ∨ 4096 < ls.length ∨ 262144 < (dataB ls).length then (60, X) else
      if (wrS X.S (X.e + 512) (fillB (dataB ls))).1 ≠ 0 then ((wrS X.S (X.e + 512) (fillB (dataB ls))).1, { X with S := (wrS X.S (X.e + 512) (fillB (dataB ls))).2 }) else
      if (wrS (wrS X.S (X.e + 512) (fillB (dataB ls))).2 X.e (markD X.gen (X.L.length : Nat) (dataB ls))).1 ≠ 0 then ((wrS (wrS X.S (X.e + 512) (fillB (dataB ls))).2 X.e (markD X.gen (X.L.length : Nat) (dataB ls))).1, { X with S := (wrS (wrS X.S (X.e + 512) (fillB (dataB ls))).2 X.e (markD X.gen (X.L.length : Nat) (dataB ls))).2 }) else
      (0, ⟨(wrS (wrS X.S (X.e + 512) (fillB (dataB ls))).2 X.e (markD X.gen (X.L.length : Nat) (dataB ls))).2, X.gen, X.L ++ [ls], X.e + (512 + (fillB (dataB ls)).length)⟩) := rfl
  by_cases p1 : 262144 < sizeL ls
  · rw [if_pos p1] at hD
    rw [hD]
    exact .inl ⟨fun z : (60 : Int) = 0 => by omega, rfl, .inl p1⟩
  rw [if_neg p1] at hD
  by_cases p2 : ls.length = 0 ∨ 4096 < ls.length ∨ 262144 < (dataB ls).length
  · rw [if_pos p2] at hD
    rw [hD]
    exact .inl ⟨fun z : (60 : Int) = 0 => by omega, rfl, .inr (.inl fun z => by obtain ⟨z1, z2, z3⟩ := z; omega)⟩
  rw [if_neg p2] at hD
  have hpos := dataB_pos ls
  have hfl := fillB_length (dataB ls)
  by_cases p3 : 4194304 < X.e + 512 + (fillB (dataB ls)).length
  · rw [wrS_full h.down (by omega) p3, if_pos (fun z : (5 : Int) = 0 => by omega)] at hD
    rw [hD]
    exact .inl ⟨fun z : (5 : Int) = 0 => by omega, rfl, .inr (.inr p3)⟩
  have hnl : (logB X.gen 0 X.L).length = X.e := h.e.symm
  have hle := h.le
  have hmk : may (X.L.length : Nat) := ⟨by omega, by omega⟩
  have hml : (markD X.gen (X.L.length : Nat) (dataB ls)).length = 512 := markB_length h.gm.i64 hmk.i64 ⟨by omega, by omega⟩ ⟨by omega, by have := crc_lt (dataB ls); omega⟩
  obtain ⟨a1, a2, a3, a4, -⟩ := wrS_on (b := fillB (dataB ls)) h.fuse h.down (by omega) (by omega : X.e + 512 + (fillB (dataB ls)).length ≤ 4194304)
  rw [if_neg (fun z => z a1)] at hD
  obtain ⟨b1, b2, b3, b4, -⟩ := wrS_on (b := markD X.gen (X.L.length : Nat) (dataB ls)) a2 a3 (by omega) (by omega : X.e + _ ≤ 4194304)
  rw [if_neg (fun z => z b1)] at hD
  refine .inr ⟨⟨by omega, by omega, by omega⟩, by omega, _, hD, ?_⟩
  have hcl := comB_length (gen := X.gen) (ls := ls) h.gm hmk (by omega)
  have hlb : logB X.gen 0 (X.L ++ [ls]) = logB X.gen 0 X.L ++ comB X.gen X.L.length ls := by rw [logB_app, logB_one, Nat.zero_add]
  refine ⟨b2, b3, ?_, ?_, ?_, h.gm, ?_⟩
  · show _ = logB X.gen 0 (X.L ++ [ls])
    rw [b4, a4, h.now, hlb]
    generalize logB X.gen 0 X.L = P at hnl
    unfold comB
    generalize markD X.gen (X.L.length : Nat) (dataB ls) = mk at hml
    generalize fillB (dataB ls) = fb
    have e1 : over P (X.e + 512) fb = P ++ zeros 512 ++ fb := by
      unfold over pad
      rw [hnl, show X.e + 512 - X.e = 512 by omega, List.take_of_length_le (by rw [List.length_append, zeros, List.length_replicate]; omega), List.drop_of_length_le (by omega), List.append_nil]
    rw [e1]
    unfold over
    have hdz : (zeros 512 ++ fb).drop 512 = fb := by
      have := List.drop_left (l₁ := zeros 512) (l₂ := fb)
      rwa [zeros, List.length_replicate] at this
    rw [pad_of _ _ (by rw [List.length_append, List.length_append]; omega), List.append_assoc, ← hnl, List.take_left, hml, ← List.drop_drop, List.drop_left, hdz]
  · show X.e + (512 + _) = (logB X.gen 0 (X.L ++ [ls])).length
    rw [hlb, List.length_append, hcl, hnl]
  · intro l hl
    rcases List.mem_append.1 hl with q | q
    · exact h.ok l q
    · rw [List.mem_singleton.1 q]; exact ⟨by omega, by omega, by omega⟩
  · show (X.L ++ [ls]).length ≤ _
    rw [List.length_append, List.length_singleton]
    have : X.L.length ≤ X.e := by
      rw [← hnl]
      have key : ∀ (L : List (List (List UInt8))) (k : Nat), k + L.length ≤ 1099511627776 → (∀ l ∈ L, okC l) → L.length ≤ (logB X.gen k L).length := by
        intro L
        induction L with
        | nil => intro k _ _; exact Nat.zero_le _
        | cons l L ih =>
          intro k hk hl
          rw [List.length_cons] at hk ⊢
          have := ih (k + 1) (by omega) (fun x hx => hl x (by simp [hx]))
          show _ ≤ (comB X.gen k l ++ logB X.gen (k + 1) L).length
          rw [List.length_append, comB_length h.gm ⟨by omega, by omega⟩ (hl l (by simp)).2.2]
          omega
      exact key X.L 0 (by omega) h.ok
    omega
theorem on_init (gen : Int) (h : may gen) : On ⟨Dk.DS.init, gen, [], 0⟩ := ⟨rfl, rfl, rfl, rfl, (fun l hl => by cases hl), h, Nat.zero_le _⟩
theorem commitP_b (X : LS) (ls : List (List UInt8)) (hg : may X.gen) (hL : X.L.length ≤ 1099511627776) : (commitP X ls).2.S.ps.length ≤ X.S.ps.length + 1000000 ∧ (commitP X ls).2.S.calls ≤ X.S.calls + 4 := by
  unfold commitP
  by_cases p1 : 262144 < sizeL ls
  · rw [if_pos p1]; exact ⟨by show X.S.ps.length ≤ _; omega, by show X.S.calls ≤ _; omega⟩
  rw [if_neg p1]
  by_cases p2 : ls.length = 0 ∨ 4096 < ls.length ∨ 262144 < (dataB ls).length
  · rw [if_pos p2]; exact ⟨by show X.S.ps.length ≤ _; omega, by show X.S.calls ≤ _; omega⟩
  rw [if_neg p2]
  have hfl := fillB_length (dataB ls)
  obtain ⟨a1, a2⟩ := wrS_b X.S (X.e + 512) (fillB (dataB ls))
  dsimp only
  split
  · exact ⟨by show (wrS X.S (X.e + 512) (fillB (dataB ls))).2.ps.length ≤ _; omega, by show (wrS X.S (X.e + 512) (fillB (dataB ls))).2.calls ≤ _; omega⟩
  obtain ⟨b1, b2⟩ := wrS_b (wrS X.S (X.e + 512) (fillB (dataB ls))).2 X.e (markD X.gen (X.L.length : Nat) (dataB ls))
  have hml : (markD X.gen (X.L.length : Nat) (dataB ls)).length = 512 := markB_length hg.i64 ⟨by omega, by omega⟩ ⟨by omega, by omega⟩ ⟨by omega, by have := crc_lt (dataB ls); omega⟩
  split
  · exact ⟨by show (wrS (wrS X.S (X.e + 512) (fillB (dataB ls))).2 X.e (markD X.gen (X.L.length : Nat) (dataB ls))).2.ps.length ≤ _; omega, by show (wrS (wrS X.S (X.e + 512) (fillB (dataB ls))).2 X.e (markD X.gen (X.L.length : Nat) (dataB ls))).2.calls ≤ _; omega⟩
  · exact ⟨by show (wrS (wrS X.S (X.e + 512) (fillB (dataB ls))).2 X.e (markD X.gen (X.L.length : Nat) (dataB ls))).2.ps.length ≤ _; omega, by show (wrS (wrS X.S (X.e + 512) (fillB (dataB ls))).2 X.e (markD X.gen (X.L.length : Nat) (dataB ls))).2.calls ≤ _; omega⟩
theorem okC_lens {l : List (List UInt8)} (h : okC l) : l.length ≤ 1099511627776 ∧ ∀ x ∈ l, x.length ≤ 1099511627776 := by
  obtain ⟨h1, h2, h3⟩ := h
  refine ⟨by omega, fun x hx => ?_⟩
  have key : ∀ (l : List (List UInt8)), x ∈ l → x.length ≤ (l.flatMap formB).length := by
    intro l
    induction l with
    | nil => intro hx; cases hx
    | cons y l ih =>
      intro hx
      rw [List.flatMap_cons, List.length_append]
      rcases List.mem_cons.1 hx with q | q
      · have := formB_ge y; rw [q]; omega
      · have := ih q; omega
  have := key l hx
  unfold dataB at h3
  rw [List.length_append] at h3
  omega
end Go.Proofs.YtfbddbpbifnhfaaDoor

/- The plain law of a log behind a crash. -/
namespace Go.Proofs.YtfbddbpbifnhfaaDoor
open Go.Abs Cd

theorem zeros_length (k : Nat) : (zeros k).length = k := List.length_replicate
theorem fillB_mod (l : List UInt8) : (fillB l).length % 512 = 0 := by rw [fillB_length]; omega
theorem logB_mod (gen : Int) (hg : may gen) : ∀ (L : List (List (List UInt8))) (k : Nat), k + L.length ≤ 1099511627776 → (∀ l ∈ L, okC l) → (logB gen k L).length % 512 = 0 := by
  intro L
  induction L with
  | nil => intro k _ _; rfl
  | cons l L ih =>
    intro k hk hl
    rw [List.length_cons] at hk
    have h1 := ih (k + 1) (by omega) (fun x hx => hl x (by simp [hx]))
    have h2 := fillB_mod (dataB l)
    show (comB gen k l ++ logB gen (k + 1) L).length % 512 = 0
    rw [List.length_append, comB_length hg ⟨by omega, by omega⟩ (hl l (by simp)).2.2]
    omega
theorem chunks_mem (f : Nat) : ∀ (m k : Nat) (b : List UInt8) (p : Dk.Pc), p ∈ Dk.chunks f m k b → p.file = f ∧ p.cut = false ∧ k ≤ p.at_ := by
  intro m
  induction m with
  | zero => intro k b p hp; cases hp
  | succ m ih =>
    intro k b p hp
    cases b with
    | nil => cases hp
    | cons x r =>
      rcases List.mem_cons.1 hp with q | q
      · rw [q]; exact ⟨rfl, rfl, Nat.le_refl _⟩
      · obtain ⟨a1, a2, a3⟩ := ih _ _ p q
        exact ⟨a1, a2, by omega⟩
theorem chunks_no (k : Nat) (b : List UInt8) : (Dk.chunks 1 b.length k b).filter (fun p => !decide (p.file = 1)) = [] := by
  rw [List.filter_eq_nil_iff]
  intro p hp
  simp [(chunks_mem 1 _ _ _ p hp).1]
/-- A write and a sync, whatever the fuse is. -/
theorem wrS_fuse {S : Dk.DS} {k : Nat} {b : List UInt8} (hp : S.ps = []) (hd : S.down = false) (hf : 0 ≤ S.fuse) (hb : 0 < b.length) (hk : k + b.length ≤ 4194304) :
    ((wrS S k b).1 = 0 ∧ (wrS S k b).2.ps = [] ∧ (wrS S k b).2.down = false ∧ 0 ≤ (wrS S k b).2.fuse ∧ (wrS S k b).2.sure 1 = over (S.sure 1) k b) ∨
    ((wrS S k b).1 = 6 ∧ (wrS S k b).2.ps = [] ∧ (wrS S k b).2.down = true ∧ (wrS S k b).2.fuse = 0 ∧ (wrS S k b).2.sure = Dk.loseP S.sure (Dk.chunks 1 b.length k b) S.keep) := by
  have hw : Dk.writeE (k : Nat) b = 0 := by
    unfold Dk.writeE
    rw [if_neg (by omega), if_neg (by omega)]
  obtain ⟨sure, ps, fuse, keep, calls, down⟩ := S
  dsimp only at hp hd hf
  subst hp hd
  have hm : ∀ (x : List Dk.Pc) (y : Int) (z : List Bool) (c : Int), (Dk.DS.mk sure x y z c false).may 1 = 0 := fun _ _ _ _ => may1 rfl
  have hn : Dk.nowP 1 (sure 1) (Dk.chunks 1 b.length k b) = over (sure 1) k b := now_chunks 1 b.length k b _ (Nat.le_refl _) hb
  have hwr : Dk.DS.write ⟨sure, [], fuse, keep, calls, false⟩ 1 (k : Nat) b = Dk.DS.ends ⟨sure, Dk.chunks 1 b.length k b, fuse, keep, calls, false⟩ := by
    unfold Dk.DS.write
    rw [if_neg (fun z => z (hm ..)), if_neg (fun z => z hw)]; rfl
  have hsy : ∀ (y c : Int), Dk.DS.sync ⟨sure, Dk.chunks 1 b.length k b, y, keep, c, false⟩ 1 = if (Dk.DS.ends ⟨sure, Dk.chunks 1 b.length k b, y, keep, c, false⟩).1 ≠ 0 then Dk.DS.ends ⟨sure, Dk.chunks 1 b.length k b, y, keep, c, false⟩ else (0, (Dk.DS.ends ⟨sure, Dk.chunks 1 b.length k b, y, keep, c, false⟩).2.synced 1) := fun y c => by
    unfold Dk.DS.sync
    rw [if_neg (fun z => z (hm ..))]; rfl
  have hsd : ∀ (y c : Int), Dk.DS.synced ⟨sure, Dk.chunks 1 b.length k b, y, keep, c, false⟩ 1 = ⟨Dk.upd sure 1 (over (sure 1) k b), [], y, keep, c, false⟩ := fun y c => by
    unfold Dk.DS.synced Dk.DS.now
    dsimp only
    rw [hn, chunks_no]
  have he : ∀ (y c : Int), Dk.DS.ends ⟨sure, Dk.chunks 1 b.length k b, y, keep, c, false⟩ = if y = 0 then (0, ⟨sure, Dk.chunks 1 b.length k b, y, keep, c + 1, false⟩) else if 1 < y then (0, ⟨sure, Dk.chunks 1 b.length k b, y - 1, keep, c + 1, false⟩) else (6, ⟨Dk.loseP sure (Dk.chunks 1 b.length k b) keep, [], 0, keep, c + 1, true⟩) := fun y c => rfl
  unfold wrS
  rw [hwr, he]
  by_cases z0 : fuse = 0
  · rw [if_pos z0, if_neg (fun z => z rfl)]
    dsimp only
    rw [hsy, he, if_pos z0, if_neg (fun z => z rfl)]
    dsimp only
    rw [hsd]
    exact .inl ⟨rfl, rfl, rfl, hf, by dsimp only; exact Dk.upd_same _ _ _⟩
  rw [if_neg z0]
  by_cases z1 : 1 < fuse
  · rw [if_pos z1, if_neg (fun z => z rfl)]
    dsimp only
    have he' := he (fuse - 1) (calls + 1)
    rw [if_neg (by omega : ¬ fuse - 1 = 0)] at he'
    by_cases z2 : 1 < fuse - 1
    · rw [if_pos z2] at he'
      rw [hsy, he', if_neg (fun z => z rfl)]
      dsimp only
      rw [hsd]
      exact .inl ⟨rfl, rfl, rfl, by show 0 ≤ fuse - 1 - 1; omega, by dsimp only; exact Dk.upd_same _ _ _⟩
    · rw [if_neg z2] at he'
      rw [hsy, he', if_pos (fun z : (6 : Int) = 0 => by omega)]
      exact .inr ⟨rfl, rfl, rfl, rfl, rfl⟩
  · rw [if_neg z1, if_pos (fun z : (6 : Int) = 0 => by omega)]
    exact .inr ⟨rfl, rfl, rfl, rfl, rfl⟩
theorem loseP_keep (Q : List UInt8 → Prop) : ∀ (ps : List Dk.Pc) (sure : Nat → List UInt8) (ks : List Bool), Q (sure 1) → (∀ p ∈ ps, p.file = 1 ∧ ∀ l, Q l → Q (Dk.doP l p)) → Q (Dk.loseP sure ps ks 1) := by
  intro ps
  induction ps with
  | nil => intro sure ks h _; exact h
  | cons p ps ih =>
    intro sure ks h hp
    cases ks with
    | nil => exact h
    | cons k ks =>
      show Q (Dk.loseP (if k = true then Dk.upd sure p.file (Dk.doP (sure p.file) p) else sure) ps ks 1)
      refine ih _ ks ?_ (fun q hq => hp q (by simp [hq]))
      obtain ⟨q1, q2⟩ := hp p (by simp)
      split
      · rw [q1, Dk.upd_same]; exact q2 _ h
      · exact h
/-- The file's bytes are those commits, and no sector behind them is a mark. -/
def Left (gen : Int) (M : List (List (List UInt8))) (b : List UInt8) : Prop := ∃ r, b = logB gen 0 M ++ r ∧ r.take 512 = zeros (min 512 r.length)
theorem take_app_zeros (r : List UInt8) (j : Nat) (h : r.take 512 = zeros (min 512 r.length)) (hj : 512 ≤ r.length + j) : (r ++ zeros j).take 512 = zeros 512 := by
  rw [List.take_append, h]
  unfold zeros
  rw [List.take_replicate, List.replicate_append_replicate]
  congr 1; omega
theorem over_tail (P r : List UInt8) (k : Nat) (c : List UInt8) (hk : P.length ≤ k) : over (P ++ r) k c = P ++ over r (k - P.length) c := by
  unfold over pad
  rw [List.append_assoc P, List.take_append (l₁ := P), List.take_of_length_le hk, List.append_assoc, List.length_append, ← Nat.sub_sub]
  congr 1
  have e1 : k + c.length = P.length + ((k - P.length) + c.length) := by omega
  rw [e1, ← List.drop_drop, List.drop_left]
theorem over_zero (r : List UInt8) (j : Nat) (c : List UInt8) (h : r.take 512 = zeros (min 512 r.length)) (hj : 512 ≤ j) : (over r j c).take 512 = zeros (min 512 (over r j c).length) := by
  have hl := pad_length r j
  have h1 : 512 ≤ (over r j c).length := by unfold over; rw [List.length_append, hl]; omega
  rw [Nat.min_eq_left h1]
  unfold over
  rw [List.take_append_of_le_length (by omega)]
  unfold pad
  rw [List.take_take, Nat.min_eq_left hj]
  exact take_app_zeros r _ h (by omega)
theorem lose_left (gen : Int) (M : List (List (List UInt8))) (sure : Nat → List UInt8) (ks : List Bool) (k : Nat) (b : List UInt8) (hs : sure 1 = logB gen 0 M) (hk : (logB gen 0 M).length + 512 ≤ k) :
    Left gen M (Dk.loseP sure (Dk.chunks 1 b.length k b) ks 1) := by
  refine loseP_keep (Left gen M) _ sure ks ⟨[], by rw [hs, List.append_nil], by simp [zeros]⟩ (fun p hp => ?_)
  obtain ⟨f, cut, at_, bs⟩ := p
  obtain ⟨q1, q2, q3⟩ := chunks_mem 1 _ _ _ _ hp
  dsimp only at q1 q2 q3
  subst q1 q2
  refine ⟨rfl, ?_⟩
  rintro l ⟨r, rfl, hr⟩
  rw [doP_over, over_tail _ _ _ _ (by omega)]
  exact ⟨_, rfl, over_zero r _ bs hr (by omega)⟩
theorem form_ne (g : Int) (h : may g) : ∃ x r, form g = x :: r ∧ x ≠ 0 := by
  unfold may at h
  unfold form formUp
  rw [if_neg (by omega)]
  split
  · rename_i q
    refine ⟨_, _, rfl, fun z => ?_⟩
    have := congrArg UInt8.toNat z
    rw [UInt8.toNat_ofNat'] at this
    rw [Nat.mod_eq_of_lt (by omega)] at this
    exact absurd this (by show ¬ 128 + g.toNat = 0; omega)
  · rename_i q
    refine ⟨_, _, rfl, fun z => ?_⟩
    have := congrArg UInt8.toNat z
    rw [UInt8.toNat_ofNat'] at this
    have hn : nb (g.toNat - 120) ≤ 8 := by
      have h1 := form_le g (by omega) (by omega)
      rw [form_lenP (by omega), if_neg q] at h1
      omega
    rw [Nat.mod_eq_of_lt (by omega)] at this
    exact absurd this (by show ¬ 247 + nb (g.toNat - 120) = 0; omega)
theorem zeros_no (gen : Int) (k : Nat) : (mkd gen (k : Nat) (zeros 512)).2.2 = false := by
  cases hx : (mkd gen (k : Nat) (zeros 512)).2.2 with
  | false => rfl
  | true =>
    obtain ⟨-, -, -, -, hg, -, hb⟩ := mkd_ok hx
    obtain ⟨x, r, hf, hx⟩ := form_ne gen hg
    unfold markB padB headB at hb
    rw [hf] at hb
    have h2 := congrArg List.head? hb
    have h3 : some (0 : UInt8) = some x := h2
    cases h3
    exact absurd rfl hx
theorem next_left {X : LS} {M : List (List (List UInt8))} {r : List UInt8} (he : X.e = (logB X.gen 0 M).length) (hr : r.take 512 = zeros (min 512 r.length)) : X.next (logB X.gen 0 M ++ r) = none := by
  by_cases hs : r.length < 512
  · exact next_short (by rw [List.length_append]; omega)
  unfold LS.next nextP
  rw [if_neg (by rw [List.length_append]; omega), he, List.drop_left, hr, Nat.min_eq_left (by omega)]
  dsimp only
  rw [if_neg (fun q => by rw [zeros_no] at q; exact Bool.false_ne_true q.1)]; rfl
/-- Between two steps: nothing is unsure, and the file is what was committed. -/
structure Up (X : LS) : Prop where
  ps : X.S.ps = []
  down : X.S.down = false
  sure : X.S.sure 1 = logB X.gen 0 X.L
  e : X.e = (logB X.gen 0 X.L).length
  ok : ∀ l ∈ X.L, okC l
  gm : may X.gen
  le : X.L.length ≤ 1099511627776
theorem up_init (gen : Int) (h : may gen) : Up ⟨Dk.DS.init, gen, [], 0⟩ := ⟨rfl, rfl, rfl, rfl, (fun l hl => by cases hl), h, Nat.zero_le _⟩
theorem openP_left {S : Dk.DS} {gen : Int} {M : List (List (List UInt8))} (hp : S.ps = []) (hd : S.down = false) (hf : S.fuse = 0) (hs : Left gen M (S.sure 1)) (hok : ∀ l ∈ M, okC l) (hg : may gen) (hM : M.length ≤ 1099511627776) :
    (openP S gen).1 = 0 ∧ (openP S gen).2.gen = gen ∧ (openP S gen).2.L = M ∧ Up (openP S gen).2 ∧ (openP S gen).2.S.fuse = 0 ∧ (openP S gen).2.S.calls ≤ S.calls + 2 := by
  obtain ⟨r, hr, hz⟩ := hs
  have hnow : S.now 1 = logB gen 0 M ++ r := by unfold Dk.DS.now; rw [hp, hr]; rfl
  have hlog : logOf S gen (logB gen 0 M ++ r) = ⟨S, gen, M, (logB gen 0 M).length⟩ := by
    have := all_logB r M ⟨S, gen, [], 0⟩ [] hg (by show 0 + _ ≤ _; omega) rfl hok
    rw [List.nil_append, List.nil_append, Nat.zero_add] at this
    rw [all_logOf]
    exact this.trans (all_none (next_left rfl hz))
  have hD : openP S gen = if (logB gen 0 M ++ r).length = (logB gen 0 M).length then (0, ⟨S, gen, M, (logB gen 0 M).length⟩) else ((cutD S (logB gen 0 M).length).1, ⟨(cutD S (logB gen 0 M).length).2, gen, M, (logB gen 0 M).length⟩) := by
    unfold openP
    rw [if_neg (fun z => z hg), if_neg (fun z => z (may1 hd)), hnow]
    dsimp only
    rw [hlog]
  by_cases hl : (logB gen 0 M ++ r).length = (logB gen 0 M).length
  · rw [if_pos hl] at hD
    rw [hD]
    have h0 : r = [] := by rw [List.length_append] at hl; exact List.eq_nil_of_length_eq_zero (by omega)
    rw [h0, List.append_nil] at hr
    exact ⟨rfl, rfl, rfl, ⟨hp, hd, hr, rfl, hok, hg, hM⟩, hf, by show S.calls ≤ _; omega⟩
  rw [if_neg hl] at hD
  have ht : S.truncate 1 ((logB gen 0 M).length : Nat) = (0, { S with ps := S.ps ++ [⟨1, true, (logB gen 0 M).length, []⟩], calls := S.calls + 1 }) := by
    unfold Dk.DS.truncate
    rw [if_neg (fun z => z (may1 hd)), if_neg (by rw [show (1 : Int).toNat = 1 from rfl, hnow, List.length_append]; omega)]
    unfold Dk.DS.ends
    rw [if_pos (show (S.done _).fuse = 0 from hf)]; rfl
  have hy : ({ S with ps := S.ps ++ [⟨1, true, (logB gen 0 M).length, []⟩], calls := S.calls + 1 } : Dk.DS).sync 1 = (0, ({ S with ps := S.ps ++ [⟨1, true, (logB gen 0 M).length, []⟩], calls := S.calls + 1 + 1 } : Dk.DS).synced 1) := by
    unfold Dk.DS.sync
    have hen : ({ S with ps := S.ps ++ [⟨1, true, (logB gen 0 M).length, []⟩], calls := S.calls + 1 } : Dk.DS).ends = (0, { S with ps := S.ps ++ [⟨1, true, (logB gen 0 M).length, []⟩], calls := S.calls + 1 + 1 }) := by unfold Dk.DS.ends; rw [if_pos (show ({ S with ps := S.ps ++ [⟨1, true, (logB gen 0 M).length, []⟩], calls := S.calls + 1 } : Dk.DS).fuse = 0 from hf)]
    rw [if_neg (fun z => z (may1 hd)), hen, if_neg (fun z => z rfl)]; rfl
  have hc : cutD S (logB gen 0 M).length = (0, ({ S with ps := S.ps ++ [⟨1, true, (logB gen 0 M).length, []⟩], calls := S.calls + 1 + 1 } : Dk.DS).synced 1) := by
    unfold cutD
    rw [ht, if_neg (fun z => z rfl), hy]
  rw [hc] at hD
  rw [hD]
  refine ⟨rfl, rfl, rfl, ⟨?_, hd, ?_, rfl, hok, hg, hM⟩, hf, by show S.calls + 1 + 1 ≤ _; omega⟩
  · show (S.ps ++ [_]).filter _ = []
    rw [hp]; rfl
  · show Dk.upd S.sure 1 (Dk.nowP 1 (S.sure 1) (S.ps ++ [_])) 1 = logB gen 0 M
    rw [Dk.upd_same, hp, hr]
    show (logB gen 0 M ++ r).take (logB gen 0 M).length = _
    rw [List.take_left]
/-- A commit while a fuse burns. -/
theorem commitP_up {X : LS} (h : Up X) (hf : 0 ≤ X.S.fuse) (ls : List (List UInt8)) (hL : X.L.length < 1099511627776) :
    ((commitP X ls).1 = 60 ∨ (commitP X ls).1 = 5) ∧ (commitP X ls).2 = X ∨
    (commitP X ls).1 = 0 ∧ okC ls ∧ Up (commitP X ls).2 ∧ 0 ≤ (commitP X ls).2.S.fuse ∧ (commitP X ls).2.gen = X.gen ∧ (commitP X ls).2.L = X.L ++ [ls] ∨
    (commitP X ls).1 = 6 ∧ okC ls ∧ (commitP X ls).2.S.ps = [] ∧ (commitP X ls).2.S.fuse = 0 ∧ (commitP X ls).2.S.down = true ∧ ∃ M, (M = X.L ∨ M = X.L ++ [ls]) ∧ Left X.gen M ((commitP X ls).2.S.sure 1) := by
  have hD : commitP X ls = if 262144 < sizeL ls then (60, X) else if ls.length = 0 ∨ 4096 < ls.length ∨ 262144 < (dataB ls).length then (60, X) else
      if (wrS X.S (X.e + 512) (fillB (dataB ls))).1 ≠ 0 then ((wrS X.S (X.e + 512) (fillB (dataB ls))).1, { X with S := (wrS X.S (X.e + 512) (fillB (dataB ls))).2 }) else
      if (wrS (wrS X.S (X.e + 512) (fillB (dataB ls))).2 X.e (markD X.gen (X.L.length : Nat) (dataB ls))).1 ≠ 0 then ((wrS (wrS X.S (X.e + 512) (fillB (dataB ls))).2 X.e (markD X.gen (X.L.length : Nat) (dataB ls))).1, { X with S := (wrS (wrS X.S (X.e + 512) (fillB (dataB ls))).2 X.e (markD X.gen (X.L.length : Nat) (dataB ls))).2 }) else
      (0, ⟨(wrS (wrS X.S (X.e + 512) (fillB (dataB ls))).2 X.e (markD X.gen (X.L.length : Nat) (dataB ls))).2, X.gen, X.L ++ [ls], X.e + (512 + (fillB (dataB ls)).length)⟩) := rfl
  by_cases p1 : 262144 < sizeL ls
  · rw [if_pos p1] at hD
    rw [hD]
    exact .inl ⟨.inl rfl, rfl⟩
  rw [if_neg p1] at hD
  by_cases p2 : ls.length = 0 ∨ 4096 < ls.length ∨ 262144 < (dataB ls).length
  · rw [if_pos p2] at hD
    rw [hD]
    exact .inl ⟨.inl rfl, rfl⟩
  rw [if_neg p2] at hD
  have hpos := dataB_pos ls
  have hfl := fillB_length (dataB ls)
  by_cases p3 : 4194304 < X.e + 512 + (fillB (dataB ls)).length
  · rw [wrS_full h.down (by omega) p3, if_pos (fun z : (5 : Int) = 0 => by omega)] at hD
    rw [hD]
    exact .inl ⟨.inr rfl, rfl⟩
  have hnl : (logB X.gen 0 X.L).length = X.e := h.e.symm
  have hle := h.le
  have hmk : may (X.L.length : Nat) := ⟨by omega, by omega⟩
  have hml : (markD X.gen (X.L.length : Nat) (dataB ls)).length = 512 := markB_length h.gm.i64 hmk.i64 ⟨by omega, by omega⟩ ⟨by omega, by have := crc_lt (dataB ls); omega⟩
  have hok : okC ls := ⟨by omega, by omega, by omega⟩
  have hcl := comB_length (gen := X.gen) (ls := ls) h.gm hmk (by omega)
  have hlb : logB X.gen 0 (X.L ++ [ls]) = logB X.gen 0 X.L ++ comB X.gen X.L.length ls := by rw [logB_app, logB_one, Nat.zero_add]
  have hmod := logB_mod X.gen h.gm X.L 0 (by omega) h.ok
  have e1 : over (logB X.gen 0 X.L) (X.e + 512) (fillB (dataB ls)) = logB X.gen 0 X.L ++ zeros 512 ++ fillB (dataB ls) := by
    unfold over pad
    rw [hnl, show X.e + 512 - X.e = 512 by omega, List.take_of_length_le (by rw [List.length_append, zeros, List.length_replicate]; omega), List.drop_of_length_le (by omega), List.append_nil]
  have e2 : over (logB X.gen 0 X.L ++ zeros 512 ++ fillB (dataB ls)) X.e (markD X.gen (X.L.length : Nat) (dataB ls)) = logB X.gen 0 (X.L ++ [ls]) := by
    rw [hlb]
    unfold over comB
    rw [pad_of _ _ (by rw [List.length_append, List.length_append]; omega), List.append_assoc, ← hnl, List.take_left, hml, ← List.drop_drop, List.drop_left]
    have : (zeros 512 ++ fillB (dataB ls)).drop 512 = fillB (dataB ls) := by
      have := List.drop_left (l₁ := zeros 512) (l₂ := fillB (dataB ls))
      rwa [zeros_length] at this
    rw [this]
  rcases wrS_fuse (b := fillB (dataB ls)) h.ps h.down hf (by omega) (by omega : X.e + 512 + (fillB (dataB ls)).length ≤ 4194304) with ⟨a1, a2, a3, a4, a5⟩ | ⟨a1, a2, a3, a4, a5⟩
  rotate_left
  · rw [if_pos (by rw [a1]; exact fun z : (6 : Int) = 0 => by omega)] at hD
    rw [hD]
    refine .inr (.inr ⟨a1, hok, a2, a4, a3, X.L, .inl rfl, ?_⟩)
    show Left _ _ ((wrS X.S (X.e + 512) (fillB (dataB ls))).2.sure 1)
    rw [a5]
    exact lose_left X.gen X.L _ _ _ _ h.sure (by omega)
  rw [if_neg (fun z => z a1)] at hD
  rw [h.sure, e1] at a5
  rcases wrS_fuse (b := markD X.gen (X.L.length : Nat) (dataB ls)) a2 a3 a4 (by omega) (by omega : X.e + _ ≤ 4194304) with ⟨b1, b2, b3, b4, b5⟩ | ⟨b1, b2, b3, b4, b5⟩
  rotate_left
  · rw [if_pos (by rw [b1]; exact fun z : (6 : Int) = 0 => by omega)] at hD
    rw [hD]
    have hch : Dk.chunks 1 (markD X.gen (X.L.length : Nat) (dataB ls)).length X.e (markD X.gen (X.L.length : Nat) (dataB ls)) = [⟨1, false, X.e, markD X.gen (X.L.length : Nat) (dataB ls)⟩] := by
      rw [Dk.chunks_step 1 X.e _ (by omega), show X.e % 512 = 0 by omega, hml]
      have t1 : (markD X.gen (X.L.length : Nat) (dataB ls)).take 512 = markD X.gen (X.L.length : Nat) (dataB ls) := List.take_of_length_le (by omega)
      have t2 : (markD X.gen (X.L.length : Nat) (dataB ls)).drop 512 = [] := List.drop_of_length_le (by omega)
      simp only [Nat.sub_zero, Nat.min_self, t1, t2]
      rfl
    rw [hch] at b5
    have hL0 : Left X.gen X.L (logB X.gen 0 X.L ++ zeros 512 ++ fillB (dataB ls)) := ⟨zeros 512 ++ fillB (dataB ls), by rw [List.append_assoc], by
      rw [Nat.min_eq_left (by rw [List.length_append, zeros_length]; omega)]
      have := List.take_left (l₁ := zeros 512) (l₂ := fillB (dataB ls))
      rwa [zeros_length] at this⟩
    have hL1 : Left X.gen (X.L ++ [ls]) (logB X.gen 0 (X.L ++ [ls])) := ⟨[], by rw [List.append_nil], by simp [zeros]⟩
    refine .inr (.inr ⟨b1, hok, b2, b4, b3, ?_⟩)
    show ∃ M, _ ∧ Left _ _ ((wrS (wrS X.S (X.e + 512) (fillB (dataB ls))).2 X.e (markD X.gen (X.L.length : Nat) (dataB ls))).2.sure 1)
    rw [b5]
    generalize (wrS X.S (X.e + 512) (fillB (dataB ls))).2.keep = ks
    rcases ks with _ | ⟨_ | _, ks⟩
    · exact ⟨X.L, .inl rfl, by show Left _ _ ((wrS X.S (X.e + 512) (fillB (dataB ls))).2.sure 1); rw [a5]; exact hL0⟩
    · exact ⟨X.L, .inl rfl, by show Left _ _ ((wrS X.S (X.e + 512) (fillB (dataB ls))).2.sure 1); rw [a5]; exact hL0⟩
    · refine ⟨X.L ++ [ls], .inr rfl, ?_⟩
      rw [show ∀ (s : Nat → List UInt8) (p : Dk.Pc), Dk.loseP s [p] (true :: ks) = Dk.upd s p.file (Dk.doP (s p.file) p) from fun _ _ => rfl]
      dsimp only
      rw [Dk.upd_same, a5, doP_over, e2]
      exact hL1
  rw [if_neg (fun z => z b1)] at hD
  rw [a5, e2] at b5
  rw [hD]
  refine .inr (.inl ⟨rfl, hok, ⟨b2, b3, b5, ?_, ?_, h.gm, ?_⟩, b4, rfl, rfl⟩)
  · show X.e + (512 + _) = (logB X.gen 0 (X.L ++ [ls])).length
    rw [hlb, List.length_append, hcl, hnl]
  · intro l hl
    rcases List.mem_append.1 hl with q | q
    · exact h.ok l q
    · rw [List.mem_singleton.1 q]; exact hok
  · show (X.L ++ [ls]).length ≤ _
    rw [List.length_append, List.length_singleton]; omega
end Go.Proofs.YtfbddbpbifnhfaaDoor

/- Contracts of wal: a commit is there when the log is opened again (begun). -/
namespace Go.Proofs.YtfbddbpbifnhfaaDoor
open Go.Abs Cd

/-- One row of bytes, and one commit of it, in memory of one's own. -/
theorem slq_one (l : List UInt8) (n : Nat) (h : AH) {c : Option Addr} (S : SlB h n c l) : SlQ (h.app (.new n ⟨1, 0, true, 1⟩ [.slice c l.length l.length])) (n + 1) (some ⟨n, 0, none⟩) (fun j => (([(c, l)] : List (Option Addr × List UInt8)).getD j (none, [])).1) [l] :=
  slq_new [(c, l)] (fun x hx => by rw [List.mem_singleton.1 hx]; exact S)
theorem lgc_one (l : List (List UInt8)) (c : Option Addr) (n : Nat) (h : AH) : SlR (h.app (.new n ⟨1, 0, true, 1⟩ [.slice c l.length l.length])) (n + 1) (some ⟨n, 0, none⟩) 1 1 (fun j => (lgC [(c, l)]).getD j (.tuple #[])) :=
  (OwnSl.new (h := h) (n0 := 0) (m := 1) (z := 1) (cs := [.slice c l.length l.length]) (Nat.zero_le n) rfl rfl).slr
theorem ab_facts : okC [[97, 98]] ∧ sizeL [[97, 98]] ≤ 262144 ∧ (fillB (dataB [[97, 98]])).length = 512 := by
  have h1 := form_le ((1 : Nat) : Int) (by omega) (by omega)
  have h2 := flat_formB [[97, 98]] (by simp [sizeL])
  have h3 : sizeL [[97, 98]] = 3 := by simp [sizeL]
  have h4 := dataB_pos [[97, 98]]
  have h5 : (dataB [[97, 98]]).length ≤ 15 := by
    unfold dataB
    rw [List.length_append]
    show (form ((1 : Nat) : Int)).length + _ ≤ 15
    omega
  have h6 := fillB_length (dataB [[97, 98]])
  unfold okC
  generalize (fillB (dataB [[97, 98]])).length = z at *
  generalize (dataB [[97, 98]]).length = y at *
  refine ⟨⟨by simp, by simp, by omega⟩, by rw [h3]; decide, by omega⟩
theorem begun_plain : ∃ S', commitP ⟨Dk.DS.init, 3, [], 0⟩ [[97, 98]] = (0, ⟨S', 3, [[[97, 98]]], 1024⟩) ∧ On ⟨S', 3, [[[97, 98]]], 1024⟩ := by
  obtain ⟨f1, f2, f3⟩ := ab_facts
  rcases commitP_on (on_init 3 (by decide)) [[97, 98]] (by decide) with ⟨-, -, q⟩ | ⟨-, -, S', e, o⟩
  · rcases q with q | q | q
    · omega
    · exact absurd f1 q
    · rw [f3] at q; exact absurd q (by decide)
  · rw [f3] at e o
    exact ⟨S', e, o⟩
theorem CmK.ext {q n n1 : Nat} {a : Option Addr} {N : List CmA} {h h1 : AH} (K : CmK q a N n h) (E : Ext n h h1) (hn : n ≤ n1) : CmK q a N n1 h1 :=
  ⟨Nat.lt_of_lt_of_le K.lt hn, c_ext E K.lt K.c0, K.sl.ext E hn, fun x hx => by obtain ⟨ad, S⟩ := K.cm x hx; exact ⟨ad, S.ext E hn⟩⟩
set_option maxHeartbeats 4000000 in
theorem begun_rf (n : Nat) (h : AH) (hn0 : 0 < n) : RF Tryd.prog none' 9 #[] n h (fun r n' h' => r = .bool true ∧ Ext n h h') := by
  refine RF.of Tryd.func9 rfl rfl (Nat.le_of_ble_eq_true rfl) ?_; dsimp only [argEnv]
  repeat' (first | refine stpS ?_ | (refine stp2 ?_ ?_ <;> intro _))
  refine RS.call rfl opds (Dk.new_rf n h hn0) none'W ?_
  rintro r n1 h1 k1 ⟨d, F, G, rfl, D, hF, hG, E1⟩
  repeat' (first | refine stpS ?_ | (refine stp2 ?_ ?_ <;> intro _))
  refine RS.call rfl opds (open_rf D 3 (by decide) (by decide) (by omega)) (fun b hb => .inr (hF b hb)) ?_
  rintro r n2 h2 k2 hop
  have h0 : openP Dk.DS.init 3 = (0, ⟨Dk.DS.init, 3, [], 0⟩) := openP_on (on_init 3 (by decide))
  unfold OpTo at hop
  rw [h0] at hop
  rcases hop with ⟨-, lg, T, rfl, R2, hT, e2⟩ | ⟨q, -⟩
  rotate_left
  · exact absurd rfl q
  dsimp only at R2
  have hTn : ∀ b, T b → n ≤ b := fun b hb => by
    by_cases w : b < n1
    · rcases hT b w hb with q | q
      · exact hF b q
      · exact absurd q (hG b)
    · omega
  have E2 : Ext n h h2 := E1.viaW e2 k1 hF
  have hTlt := R2.lt
  repeat' (first | refine stpS ?_ | (refine stp2 ?_ ?_ <;> intro _))
  refine RS.put rfl rfl (op_convSame Uc.out Uc.out (Opd.ev opd) (by omega) info (by decide)) ?_
  repeat' (first | refine stpS ?_ | (refine stp2 ?_ ?_ <;> intro _))
  obtain ⟨g3, hg⟩ : ∃ g3, g3 = (h2.app (.new n2 ⟨2, 0, true, 1⟩ [.int .u8 97, .int .u8 98])).app (.new (n2 + 1) ⟨1, 0, true, 1⟩ [.slice (some ⟨n2, 0, none⟩) 2 2]) := ⟨_, rfl⟩
  refine RS.heap hg ?_
  have E3 : Ext n2 h2 g3 := by rw [hg]; exact ext
  have S3 : SlQ g3 (n2 + 1 + 1) (some ⟨n2 + 1, 0, none⟩) (fun j => (([(some ⟨n2, 0, none⟩, [97, 98])] : List (Option Addr × List UInt8)).getD j (none, [])).1) [[97, 98]] := by
    rw [hg]; exact slq_one [97, 98] (n2 + 1) _ (slb_new [97, 98] n2 h2)
  clear hg
  have R3 := R2.ext E3 (by omega : n2 ≤ n2 + 1 + 1)
  have hcom := commit_rf R3 [[97, 98]] _ _ S3 (fun _ q => by have := hTlt _ q; exact absurd this (by show ¬ n2 + 1 < n2; omega)) (fun j hj _ q => by
    have hj : j = 0 := by simp at hj; omega
    subst hj
    have := hTlt _ q
    exact absurd this (by show ¬ n2 < n2; omega)) (by decide) (by decide) (by decide) (by decide) (by omega)
  obtain ⟨S', hcp, hon⟩ := begun_plain
  rw [hcp] at hcom
  dsimp only at hcom
  refine RS.call rfl opds hcom (fun b hb => .inr (hTn b hb)) ?_
  rintro r n4 h4 k4 ⟨rfl, T4, R4, hT4, e4⟩
  have hTn4 : ∀ b, T4 b → n ≤ b := fun b hb => by
    by_cases w : b < n2 + 1 + 1
    · exact hTn b (hT4 b w hb)
    · omega
  have E4 : Ext n h h4 := (E2.trans (by omega) E3).viaW e4 (by omega) hTn
  have hps : S'.ps.length < 1099511627775 ∧ S'.calls < 4611686018427387900 := by
    have := commitP_b ⟨Dk.DS.init, 3, [], 0⟩ [[97, 98]] (by decide) (by decide)
    rw [hcp] at this
    have t1 : S'.ps.length ≤ 0 + 1000000 := this.1
    have t2 : S'.calls ≤ 0 + 4 := this.2
    omega
  repeat' (first | refine stpS ?_ | (refine stp2 ?_ ?_ <;> intro _))
  have hend : Ev Tryd.prog none' 18 #[.pointer (some ⟨lg, 0, none⟩)] n4 h4 (.int .i64 1024) n4 h4 := end_ev' R4
  refine RS.call1 rfl opds hend none'W ?_
  repeat' (first | refine stpS ?_ | (refine stp2 ?_ ?_ <;> intro _))
  obtain ⟨F4, G4, a4, N4, B4, L4, rfl⟩ := R4
  refine RS.call rfl opds (open_rf L4.dk 3 hps.1 hps.2 (by omega)) (fun b hb => .inr (hTn4 b (.inl hb))) ?_
  rintro r n5 h5 k5 hop
  have h5' : openP S' 3 = (0, ⟨S', 3, [[[97, 98]]], 1024⟩) := openP_on hon
  unfold OpTo at hop
  dsimp only at hop
  rw [h5'] at hop
  rcases hop with ⟨-, lg5, T5, rfl, R5, -, e5⟩ | ⟨q, -⟩
  rotate_left
  · exact absurd rfl q
  dsimp only at R5
  have E5 : Ext n h h5 := E4.viaW e5 (by omega) (fun b hb => hTn4 b (.inl hb))
  repeat' (first | refine stpS ?_ | (refine stp2 ?_ ?_ <;> intro _))
  have hmany : Ev Tryd.prog none' 21 #[.pointer (some ⟨lg5, 0, none⟩)] n5 h5 (.int .i64 1) n5 h5 := many_ev R5
  refine RS.call1 rfl opds hmany none'W ?_
  repeat' (first | refine stpS ?_ | (refine stp2 ?_ ?_ <;> intro _))
  obtain ⟨F5, G5, a5, N5, B5, L5, hT5⟩ := R5
  refine RS.call rfl opds (commits_rf L5) none'W ?_
  rintro r n6 h6 k6 ⟨q6, a6, rfl, E6, hq6, K6⟩
  repeat' (first | refine stpS ?_ | (refine stp2 ?_ ?_ <;> intro _))
  clear hend hmany hps hon hcp h5' h0
  obtain ⟨g6, hg6⟩ : ∃ g6, g6 = h6.app (.new n6 ⟨2, 0, true, 1⟩ [.int .u8 97, .int .u8 98]) := ⟨_, rfl⟩
  refine RS.heap hg6 ?_
  have i6 : g6.info n6 = some ⟨2, 0, true, 1⟩ := by rw [hg6]; exact info
  have E6' : Ext n6 h6 g6 := by rw [hg6]; exact ext
  have S6 : SlB g6 (n6 + 1) (some ⟨n6, 0, none⟩) [97, 98] := by rw [hg6]; exact slb_new [97, 98] n6 h6
  clear hg6
  refine RS.put rfl rfl (op_convSame Uc.out Uc.out (Opd.ev opd) (by omega) i6 (by decide)) ?_
  repeat' (first | refine stpS ?_ | (refine stp2 ?_ ?_ <;> intro _))
  obtain ⟨g7, hg⟩ : ∃ g7, g7 = (g6.app (.new (n6 + 1) ⟨1, 0, true, 1⟩ [.slice (some ⟨n6, 0, none⟩) 2 2])).app (.new (n6 + 1 + 1) ⟨1, 0, true, 1⟩ [.slice (some ⟨n6 + 1, 0, none⟩) 1 1]) := ⟨_, rfl⟩
  refine RS.heap hg ?_
  have E7 : Ext n6 h6 g7 := by rw [hg]; exact E6'.trans (Nat.le_succ _) ext
  have S7 : SlQ g7 (n6 + 1 + 1 + 1) (some ⟨n6 + 1, 0, none⟩) (fun j => (([(some ⟨n6, 0, none⟩, [97, 98])] : List (Option Addr × List UInt8)).getD j (none, [])).1) [[97, 98]] := by
    rw [hg]; exact (slq_one [97, 98] (n6 + 1) _ S6).ext ext (by omega)
  have W7 : SlR g7 (n6 + 1 + 1 + 1) (some ⟨n6 + 1 + 1, 0, none⟩) 1 1 (fun j => (lgC [(some ⟨n6 + 1, 0, none⟩, [[97, 98]])]).getD j (.tuple #[])) := by
    rw [hg]; exact lgc_one [[97, 98]] _ _ _
  clear hg
  have hnl := L5.nl
  dsimp only at hnl
  have hN5 : N5.length = 1 := by rw [← List.length_map (f := (·.2)), hnl]; rfl
  have hfin : ∀ x ∈ N5, x.2.length ≤ 1099511627776 ∧ ∀ l ∈ x.2, l.length ≤ 1099511627776 := fun x hx => by
    have : x.2 ∈ N5.map (·.2) := List.mem_map_of_mem hx
    rw [hnl] at this
    rw [List.mem_singleton.1 this]
    exact okC_lens ab_facts.1
  have it := commits1_iter q6 a6 N5 (by omega) hfin
  rw [hN5, hnl] at it
  refine RS.call rfl opds (told_rf _ _ _ [[[97, 98]]] [(some ⟨n6 + 1, 0, none⟩, [[97, 98]])] _ _ _ it (fun n' h' hn' E' => ?_) W7 (fun x hx => ?_) rfl (by decide) (by decide) (by omega)) none'W ?_
  · exact K6.ext (E7.trans (by omega) E') (by omega)
  · rw [List.mem_singleton.1 hx]; exact ⟨_, S7⟩
  rintro r n8 h8 k8 ⟨rfl, E8⟩
  repeat' (first | refine stpS ?_ | (refine stp2 ?_ ?_ <;> intro _))
  have hgen : Ev Tryd.prog none' 25 #[.pointer (some ⟨lg5, 0, none⟩)] n8 h8 (.int .i64 3) n8 h8 := gen_ev (X := ⟨S', 3, [[[97, 98]]], 1024⟩) ⟨F5, G5, a5, N5, B5, (L5.extW (ExtW.of (E6.trans k6 (E7.trans (by omega) E8)) (Nat.le_refl _) : ExtW (fun _ => False) n5 h5 h8) (by omega) (fun _ _ q => q)), rfl⟩
  refine RS.call1 rfl opds hgen none'W ?_
  repeat' (first | refine stpS ?_ | (refine stp2 ?_ ?_ <;> intro _))
  exact ⟨rfl, (E5.trans (by omega) E6).trans (by omega) (E7.trans (by omega) E8)⟩
end Go.Proofs.YtfbddbpbifnhfaaDoor

/- What the arguments of wal's laws read as. -/
namespace Go.Proofs.YtfbddbpbifnhfaaDoor
open Go.Abs Go.RowKit Cd

/-- An operation of a script, and where its rows lie. -/
structure OpE where
  do_ : Int
  ra : Option Addr
  rl : List (Option Addr × List UInt8)
  many : Nat
  gen : Int
  at_ : Nat
  num : Int
  ka : Option Addr
  keep : List Bool
def OpE.cells (x : OpE) : List Value := [.int .i64 x.do_, .slice x.ra x.rl.length x.rl.length, .int .u16 (x.many : Nat), .int .i64 x.gen, .int .u16 (x.at_ : Nat), .int .i64 x.num, .slice x.ka x.keep.length x.keep.length]
def j64 (x : Int) : Prop := -9223372036854775808 ≤ x ∧ x ≤ 9223372036854775807
/-- The row of rows at a. -/
structure RecR (h : AH) (n : Nat) (a : Option Addr) (L : List (Option Addr × List UInt8)) (m : Nat) : Prop where
  out : SlR h n a 1 L.length (fun j => (L.map rowV).getD j (.tuple #[]))
  row : ∀ x ∈ L, SlB h n x.1 x.2 ∧ x.2.length ≤ m
  le : L.length ≤ m
structure OpE.Ok (x : OpE) (h : AH) (n : Nat) (m : Nat) : Prop where
  do_ : j64 x.do_
  recs : RecR h n x.ra x.rl m
  many : x.many < 65536
  gen : j64 x.gen
  at_ : x.at_ < 65536
  num : j64 x.num
  keep : SlT h n x.ka x.keep
  kl : x.keep.length ≤ m
theorem RecR.ext {h h' : AH} {n n' m : Nat} {a : Option Addr} {L : List (Option Addr × List UInt8)} (B : RecR h n a L m) (E : Ext n h h') (hn : n ≤ n') : RecR h' n' a L m :=
  ⟨B.out.ext E hn, fun x hx => ⟨(B.row x hx).1.ext E hn, (B.row x hx).2⟩, B.le⟩
theorem RecR.mono {h : AH} {n m m' : Nat} {a : Option Addr} {L : List (Option Addr × List UInt8)} (B : RecR h n a L m) (hm : m ≤ m') : RecR h n a L m' :=
  ⟨B.out, fun x hx => ⟨(B.row x hx).1, by have := (B.row x hx).2; omega⟩, by have := B.le; omega⟩
theorem RecR.slq {h : AH} {n m : Nat} {a : Option Addr} {L : List (Option Addr × List UInt8)} (B : RecR h n a L m) : SlQ h n a (fun j => (L.getD j (none, [])).1) (L.map (·.2)) := by
  have hg : ∀ j, j < L.length → L.getD j (none, []) ∈ L ∧ (L.map (·.2)).getD j [] = (L.getD j (none, [])).2 ∧ (L.map rowV).getD j (.tuple #[]) = rowV (L.getD j (none, [])) := fun j hj => by
    refine ⟨?_, ?_, ?_⟩
    · rw [List.getD_eq_getElem?_getD, List.getElem?_eq_getElem hj]; exact List.getElem_mem hj
    · simp [List.getD, List.getElem?_eq_getElem hj]
    · simp [List.getD, List.getElem?_eq_getElem hj]
  refine ⟨?_, fun j hj => ?_⟩
  · rw [List.length_map]
    refine B.out.congr fun j hj => ?_
    obtain ⟨-, k2, k3⟩ := hg j (by simpa using hj)
    rw [k3]
    show _ = Value.slice _ ((L.map (·.2)).getD j []).length ((L.map (·.2)).getD j []).length
    rw [k2]; rfl
  · rw [List.length_map] at hj
    obtain ⟨k1, k2, -⟩ := hg j hj
    rw [k2]
    exact (B.row _ k1).1
theorem OpE.Ok.ext {h h' : AH} {n n' m : Nat} {x : OpE} (B : x.Ok h n m) (E : Ext n h h') (hn : n ≤ n') : x.Ok h' n' m :=
  ⟨B.do_, B.recs.ext E hn, B.many, B.gen, B.at_, B.num, B.keep.ext E hn, B.kl⟩
structure OpsRep (h : AH) (n : Nat) (a : Option Addr) (L : List OpE) (m : Nat) : Prop where
  shp : Shp h n a 7 L.length
  at_ : ∀ (i : Nat) (x : OpE), L[i]? = some x → (h.cell (sb a) (so a + i * 7) = .int .i64 x.do_ ∧ h.cell (sb a) (so a + i * 7 + 1) = .slice x.ra x.rl.length x.rl.length ∧ h.cell (sb a) (so a + i * 7 + 2) = .int .u16 (x.many : Nat) ∧ h.cell (sb a) (so a + i * 7 + 3) = .int .i64 x.gen ∧ h.cell (sb a) (so a + i * 7 + 4) = .int .u16 (x.at_ : Nat) ∧ h.cell (sb a) (so a + i * 7 + 5) = .int .i64 x.num ∧ h.cell (sb a) (so a + i * 7 + 6) = .slice x.ka x.keep.length x.keep.length) ∧ x.Ok h n m
theorem OpsRep.ext {h h' : AH} {n n' m : Nat} {a : Option Addr} {L : List OpE} (B : OpsRep h n a L m) (E : Ext n h h') (hn : n ≤ n') : OpsRep h' n' a L m := by
  refine ⟨B.shp.ext E hn, fun i x hx => ?_⟩
  obtain ⟨⟨h0, h1, h2, h3, h4, h5, h6⟩, ok⟩ := B.at_ i x hx
  have hi : i < L.length := (List.getElem?_eq_some_iff.1 hx).1
  have hb : sb a < n := B.shp.lt (by omega)
  exact ⟨⟨(E.cell _ _ hb).trans h0, (E.cell _ _ hb).trans h1, (E.cell _ _ hb).trans h2, (E.cell _ _ hb).trans h3, (E.cell _ _ hb).trans h4, (E.cell _ _ hb).trans h5, (E.cell _ _ hb).trans h6⟩, ok.ext E hn⟩
section
variable {H : Type}
theorem bulk_one (d : DataW H) : 1 ≤ Rows.uptoBulk d := by
  cases d with
  | lit l => cases l <;> simp [Rows.uptoBulk]
  | _ => simp [Rows.uptoBulk]
theorem bulk_mem {d : DataW H} {l : List (DataW H)} (h : d ∈ l) : Rows.uptoBulk d ≤ Rows.uptoBulkAll l := by
  induction l with
  | nil => cases h
  | cons x r ih =>
    simp only [Rows.uptoBulkAll]
    rcases List.mem_cons.1 h with e | e
    · subst e; omega
    · have := ih e; omega
theorem bulk_len (l : List (DataW H)) : l.length ≤ Rows.uptoBulkAll l := by
  induction l with
  | nil => simp
  | cons x r ih => have := bulk_one x; simp only [Rows.uptoBulkAll, List.length_cons]; omega
theorem bulk_elems {d : DataW H} {elems spare : List (DataW H)} (h : (d = .nil ∧ elems = []) ∨ d = .slice elems spare) : elems.length ≤ Rows.uptoBulk d := by
  rcases h with ⟨_, rfl⟩ | rfl
  · simp
  · have := bulk_len elems
    simp only [Rows.uptoBulk]; omega
theorem bulk_elem {d x : DataW H} {elems spare : List (DataW H)} (h : (d = .nil ∧ elems = []) ∨ d = .slice elems spare) (hx : x ∈ elems) : Rows.uptoBulk x ≤ Rows.uptoBulk d := by
  rcases h with ⟨_, rfl⟩ | rfl
  · cases hx
  · have := bulk_mem hx
    simp only [Rows.uptoBulk]; omega
theorem bulk_part {x : DataW H} {parts : List (DataW H)} (hx : x ∈ parts) : Rows.uptoBulk x ≤ Rows.uptoBulk (.agg parts) := by
  have := bulk_mem hx
  simp only [Rows.uptoBulk]; omega
variable {h : AH} {n : Nat} {d : DataW H} {a : Value}
theorem int_of {x : Int} (w : (Lit.int .i64 x).wf = true) : j64 x := by
  simp [Lit.wf, IntKind.min, IntKind.max, IntKind.signed, IntKind.bits] at w
  exact ⟨w.1, by omega⟩
theorem u16_of {x : Int} (w : (Lit.int .u16 x).wf = true) : ∃ k : Nat, x = (k : Nat) ∧ k < 65536 := by
  simp [Lit.wf, IntKind.min, IntKind.max, IntKind.signed, IntKind.bits] at w
  exact ⟨x.toNat, by omega, by omega⟩
set_option maxRecDepth 100000 in
theorem bytes_cells {cs : List Value} (lo : Low n h) (r : RepD Tryd.prog h 22 cs d) : ∃ x : Option Addr × List UInt8, cs = [rowV x] ∧ SlB h n x.1 x.2 ∧ x.2.length ≤ Rows.uptoBulk d := by
  obtain ⟨b, l, elems, spare, e2, e3, e4, S⟩ := RepD.bytes_ lo Tryd.underlying22 Tryd.underlying5 (by kernel_rfl) r
  have k1 := bulk_elems e3
  exact ⟨(b, l), e2, S, by dsimp only; omega⟩
set_option maxRecDepth 100000 in
theorem recs_cells {cs : List Value} (lo : Low n h) (r : RepD Tryd.prog h 30 cs d) : ∃ (c : Option Addr) (L : List (Option Addr × List UInt8)), cs = [.slice c L.length L.length] ∧ RecR h n c L (Rows.uptoBulk d) := by
  obtain ⟨c, L, elems, spare, e1, e2, e3, S, hx⟩ := RepD.list_ (fun cs d (x : Option Addr × List UInt8) => cs = [rowV x] ∧ SlB h n x.1 x.2 ∧ x.2.length ≤ Rows.uptoBulk d) lo Tryd.underlying30 (fun cs d r => bytes_cells lo r) r
  have hz : Tryd.prog.cellsOf 22 = 1 := by kernel_rfl
  rw [hz] at S hx
  have k1 := bulk_elems e2
  refine ⟨c, L, e1, ⟨?_, fun e he => ?_, by omega⟩⟩
  · refine S.congr fun j hj => ?_
    obtain ⟨_, _, q, _⟩ := hx j L[j] (by simp [show j < L.length by omega])
    have q' : [h.cell (sb c) (so c + j)] = [rowV L[j]] := by rw [← q, elC_one]
    simp only [List.cons.injEq, and_true] at q'
    rw [q']
    simp [List.getD, show j < L.length by omega]
  · obtain ⟨i, hi⟩ := List.getElem?_of_mem he
    obtain ⟨d', hd, _, q1, q2⟩ := hx i e hi
    have := bulk_elem e2 (List.mem_of_getElem? hd)
    exact ⟨q1, by omega⟩
set_option maxRecDepth 100000 in
theorem op_cells {cs : List Value} (lo : Low n h) (r : RepD Tryd.prog h 45 cs d) : ∃ x : OpE, cs = x.cells ∧ x.Ok h n (Rows.uptoBulk d) := by
  obtain ⟨parts, rfl, h1, h2, h3⟩ := r.struct_ Tryd.underlying45
  have h1 : cs.length = 7 := h1
  match parts, h2 with
  | [d1, d2, d3, d4, d5, d6, d7], _ =>
    match cs, h1 with
    | [c1, c2, c3, c4, c5, c6, c7], _ =>
      have r1 := h3 0 _ d1 rfl rfl
      have r2 := h3 1 _ d2 rfl rfl
      have r3 := h3 2 _ d3 rfl rfl
      have r4 := h3 3 _ d4 rfl rfl
      have r5 := h3 4 _ d5 rfl rfl
      have r6 := h3 5 _ d6 rfl rfl
      have r7 := h3 6 _ d7 rfl rfl
      obtain ⟨N1, e1, _, w1⟩ := RepD.int_ Tryd.underlying3 r1
      obtain ⟨c, L, e2, q2⟩ := recs_cells lo r2
      obtain ⟨N3, e3, _, w3⟩ := RepD.int_ Tryd.underlying23 r3
      obtain ⟨N4, e4, _, w4⟩ := RepD.int_ Tryd.underlying2 r4
      obtain ⟨N5, e5, _, w5⟩ := RepD.int_ Tryd.underlying23 r5
      obtain ⟨N6, e6, _, w6⟩ := RepD.int_ Tryd.underlying3 r6
      obtain ⟨b7, l7, elems7, spare7, e7, q7, _, S7⟩ := RepD.bools_ lo Tryd.underlying43 Tryd.underlying4 (by kernel_rfl) r7
      have e1' : [c1] = [.int .i64 N1] := e1
      have e2' : [c2] = [.slice c L.length L.length] := e2
      have e3' : [c3] = [.int .u16 N3] := e3
      have e4' : [c4] = [.int .i64 N4] := e4
      have e5' : [c5] = [.int .u16 N5] := e5
      have e6' : [c6] = [.int .i64 N6] := e6
      have e7' : [c7] = [.slice b7 l7.length l7.length] := e7
      cases e1'; cases e2'; cases e3'; cases e4'; cases e5'; cases e6'; cases e7'
      obtain ⟨m3, rfl, hm3⟩ := u16_of w3
      obtain ⟨m5, rfl, hm5⟩ := u16_of w5
      have k2 : Rows.uptoBulk d2 ≤ Rows.uptoBulk (.agg [d1, d2, d3, d4, d5, d6, d7]) := bulk_part (by simp)
      have k7 := bulk_elems q7
      have k7' : Rows.uptoBulk d7 ≤ Rows.uptoBulk (.agg [d1, d2, d3, d4, d5, d6, d7]) := bulk_part (by simp)
      exact ⟨⟨N1, c, L, m3, N4, m5, N6, b7, l7⟩, rfl, int_of w1, q2.mono k2, hm3, int_of w4, hm5, int_of w6, S7, by dsimp only; omega⟩
set_option maxRecDepth 100000 in
theorem op_arg (lo : Low n h) (r : RepA Tryd.prog h 45 a d) : ∃ x : OpE, a = .agg x.cells.toArray ∧ x.Ok h n (Rows.uptoBulk d) := by
  obtain ⟨cs, rfl, r'⟩ := RepA.agg Tryd.underlying45 r
  obtain ⟨x, rfl, ok⟩ := op_cells lo r'
  exact ⟨x, rfl, ok⟩
set_option maxRecDepth 100000 in
theorem ops_arg (lo : Low n h) (r : RepA Tryd.prog h 35 a d) : ∃ (c : Option Addr) (L : List OpE), a = .slice c L.length L.length ∧ OpsRep h n c L (Rows.uptoBulk d) ∧ L.length ≤ Rows.uptoBulk d := by
  obtain ⟨c, L, elems, spare, e1, e2, e3, S, hx⟩ := RepD.list_ (fun cs d (x : OpE) => cs = x.cells ∧ x.Ok h n (Rows.uptoBulk d)) lo Tryd.underlying35 (fun cs d r => op_cells lo r) (RepA.one Tryd.underlying35 (by intro fs h; cases h) r)
  cases e1
  have hz : Tryd.prog.cellsOf 45 = 7 := by kernel_rfl
  rw [hz] at S hx
  have k1 := bulk_elems e2
  refine ⟨c, L, rfl, ⟨Shp.of S, fun i x hi => ?_⟩, by omega⟩
  obtain ⟨d', hd, q1, q2⟩ := hx i x hi
  have kb := bulk_elem e2 (List.mem_of_getElem? hd)
  simp only [elC, List.range_succ, List.range_zero, List.nil_append, List.map_append, List.map_cons, List.map_nil, List.cons_append, OpE.cells, List.cons.injEq, and_true] at q1
  exact ⟨q1, q2.do_, q2.recs.mono kb, q2.many, q2.gen, q2.at_, q2.num, q2.keep, by have := q2.kl; omega⟩
set_option maxRecDepth 100000 in
theorem u16_arg (r : RepA Tryd.prog h 23 a d) : ∃ x : Nat, a = .int .u16 x ∧ x < 65536 := by
  obtain ⟨x, h1, _, w⟩ := RepD.int_ Tryd.underlying23 (RepA.one Tryd.underlying23 (by intro fs h; cases h) r)
  cases h1
  obtain ⟨k, rfl, hk⟩ := u16_of w
  exact ⟨k, rfl, hk⟩
set_option maxRecDepth 100000 in
theorem u8_arg (r : RepA Tryd.prog h 5 a d) : ∃ x : UInt8, a = .int .u8 (x.toNat : Nat) := by
  obtain ⟨x, h1, _, w⟩ := RepD.int_ Tryd.underlying5 (RepA.one Tryd.underlying5 (by intro fs h; cases h) r)
  cases h1
  simp [Lit.wf, IntKind.min, IntKind.max, IntKind.signed, IntKind.bits] at w
  refine ⟨UInt8.ofNat x.toNat, ?_⟩
  rw [UInt8.toNat_ofNat', Nat.mod_eq_of_lt (by omega), Int.toNat_of_nonneg w.1]
set_option maxRecDepth 100000 in
theorem u32_arg (r : RepA Tryd.prog h 31 a d) : ∃ x : Nat, a = .int .u32 x ∧ x < 4294967296 := by
  obtain ⟨x, h1, _, w⟩ := RepD.int_ Tryd.underlying31 (RepA.one Tryd.underlying31 (by intro fs h; cases h) r)
  cases h1
  simp [Lit.wf, IntKind.min, IntKind.max, IntKind.signed, IntKind.bits] at w
  exact ⟨x.toNat, by rw [Int.toNat_of_nonneg w.1], by omega⟩
set_option maxRecDepth 100000 in
theorem i64_arg (r : RepA Tryd.prog h 2 a d) : ∃ x : Int, a = .int .i64 x ∧ j64 x := by
  obtain ⟨x, h1, _, w⟩ := RepD.int_ Tryd.underlying2 (RepA.one Tryd.underlying2 (by intro fs h; cases h) r)
  cases h1
  exact ⟨x, rfl, int_of w⟩
set_option maxRecDepth 100000 in
theorem bytes_arg (lo : Low n h) (r : RepA Tryd.prog h 22 a d) : ∃ (b : Option Addr) (l : List UInt8), a = .slice b l.length l.length ∧ SlB h n b l ∧ l.length ≤ Rows.uptoBulk d := by
  obtain ⟨x, h1, h2, h3⟩ := bytes_cells lo (RepA.one Tryd.underlying22 (by intro fs h; cases h) r)
  cases h1
  exact ⟨x.1, x.2, rfl, h2, h3⟩
end
end Go.Proofs.YtfbddbpbifnhfaaDoor

/- Contracts of wal: an operation's records. -/
namespace Go.Proofs.YtfbddbpbifnhfaaDoor
open Go.Abs Cd

/-- An operation's records, the first at a0. -/
def recsE (x : OpE) (a0 : Option Addr) : List (Option Addr × List UInt8) :=
  match x.rl with
  | [] => []
  | r :: rs => (a0, r.2 ++ zeros (x.many % 3000)) :: rs
def recsOf (x : OpE) : List (List UInt8) := (recsE x none).map (·.2)
theorem recsE_len (x : OpE) (a0 : Option Addr) : (recsE x a0).length = x.rl.length := by
  unfold recsE
  cases x.rl <;> rfl
theorem recsE_snd (x : OpE) (a0 : Option Addr) : (recsE x a0).map (·.2) = recsOf x := by
  unfold recsOf recsE
  cases x.rl <;> rfl
theorem recsE_zero (x : OpE) (a0 : Option Addr) {y : Option Addr × List UInt8} (h : x.rl[0]? = some y) : (recsE x a0)[0]? = some (a0, y.2 ++ zeros (x.many % 3000)) := by
  unfold recsE
  split
  · rename_i q; rw [q] at h; cases h
  · rename_i r rs q; rw [q] at h; cases h; rfl
theorem recsE_succ (x : OpE) (a0 : Option Addr) (i : Nat) (h : i ≠ 0) : (recsE x a0)[i]? = x.rl[i]? := by
  obtain ⟨j, rfl⟩ : ∃ j, i = j + 1 := ⟨i - 1, by omega⟩
  unfold recsE
  cases hx : x.rl with
  | nil => rfl
  | cons r rs => rfl
/-- The records stand at c. -/
structure RecO (x : OpE) (n0 n : Nat) (h : AH) (c a0 : Option Addr) : Prop where
  out : OwnSl h n0 n c 1 x.rl.length ((recsE x a0).map rowV)
  row : ∀ y ∈ recsE x a0, SlB h n y.1 y.2
  new : a0 ≠ none → n0 ≤ sb a0
theorem RecO.ext {x : OpE} {n0 n n1 : Nat} {h h1 : AH} {c a0 : Option Addr} (R : RecO x n0 n h c a0) (E : Ext n h h1) (hn : n ≤ n1) : RecO x n0 n1 h1 c a0 :=
  ⟨R.out.ext E hn, fun y hy => (R.row y hy).ext E hn, R.new⟩
theorem RecO.extW {W : Nat → Prop} {x : OpE} {n0 n n1 m m0 : Nat} {h h0 h1 : AH} {c a0 : Option Addr} (ok : x.Ok h0 m0 m) (hm0 : m0 ≤ n0) (R : RecO x n0 n h c a0) (E : ExtW W n h h1) (hn : n ≤ n1) (hW : ∀ b, n0 ≤ b → b < n → ¬ W b) (hW0 : ∀ b, b < m0 → ¬ W b) : RecO x n0 n1 h1 c a0 := by
  refine ⟨(extW_own R.out E (Nat.le_refl _) hW).ext (Ext.refl _ _) hn, fun y hy => SlR.extW (R.row y hy) E hn (fun q => ?_), R.new⟩
  have hy2 := R.row y hy
  by_cases z : y.1 = a0
  · have := R.new (z ▸ q)
    by_cases w : sb y.1 < n
    · exact hW _ (z ▸ this) w
    · rcases hy2.shape with ⟨k, -⟩ | ⟨-, k, -⟩
      · exact absurd k q
      · exact absurd k w
  · have hyl : y ∈ x.rl := by
      unfold recsE at hy
      cases hx : x.rl with
      | nil => rw [hx] at hy; cases hy
      | cons r rs =>
        rw [hx] at hy
        rcases List.mem_cons.1 hy with w | w
        · rw [w] at z; exact absurd rfl z
        · exact List.mem_cons_of_mem _ w
    rcases (ok.recs.row y hyl).1.shape with ⟨k, -⟩ | ⟨-, k, -⟩
    · exact absurd k q
    · exact hW0 _ k
theorem RecO.slq {x : OpE} {n0 n : Nat} {h : AH} {c a0 : Option Addr} (R : RecO x n0 n h c a0) : SlQ h n c (fun j => ((recsE x a0).getD j (none, [])).1) (recsOf x) := by
  have r : RecR h n c (recsE x a0) (((recsE x a0).map (fun y => y.2.length)).foldr max (recsE x a0).length) := by
    have key : ∀ (l : List (Option Addr × List UInt8)) (k : Nat), k ≤ (l.map (fun y => y.2.length)).foldr max k ∧ ∀ y ∈ l, y.2.length ≤ (l.map (fun y => y.2.length)).foldr max k := by
      intro l k
      induction l with
      | nil => exact ⟨Nat.le_refl _, fun y hy => by cases hy⟩
      | cons z l ih =>
        refine ⟨?_, fun y hy => ?_⟩
        · show k ≤ max z.2.length _; have := ih.1; omega
        · show y.2.length ≤ max z.2.length _
          rcases List.mem_cons.1 hy with q | q
          · rw [q]; omega
          · have := ih.2 y q; omega
    refine ⟨?_, fun y hy => ⟨R.row y hy, (key _ _).2 y hy⟩, (key _ _).1⟩
    have := R.out.slr
    rw [recsE_len]
    exact this
  have := r.slq
  rwa [recsE_snd] at this
set_option maxHeartbeats 4000000 in
theorem opRecs_rf (x : OpE) (m n : Nat) (h : AH) (ok : x.Ok h n m) (hm : m ≤ 1048576) :
    RF Tryd.prog none' 17 #[.agg x.cells.toArray] n h (fun r n' h' => ∃ c a0, r = .slice c x.rl.length x.rl.length ∧ Ext n h h' ∧ RecO x n n' h' c a0) := by
  unfold OpE.cells
  refine RF.of Tryd.func17 rfl rfl (Nat.le_of_ble_eq_true rfl) ?_; dsimp only [argEnv]
  have hrl := ok.recs.le
  have hmy := ok.many
  repeat' (first | refine stpS ?_ | (refine stp2 ?_ ?_ <;> intro _))
  obtain ⟨g1, hg⟩ : ∃ g1, g1 = h.app (.new n ⟨7, 0, true, 0⟩ [.int .i64 x.do_, .slice x.ra x.rl.length x.rl.length, .int .u16 (x.many : Nat), .int .i64 x.gen, .int .u16 (x.at_ : Nat), .int .i64 x.num, .slice x.ka x.keep.length x.keep.length]) := ⟨_, rfl⟩
  refine RC.heap hg ?_
  have E1 : Ext n h g1 := by rw [hg]; exact ext
  have o2 : g1.cell n 2 = .int .u16 (x.many : Nat) := by rw [hg]; exact cell
  clear hg
  refine RC.loop ?_
  refine RL.inv (α := Nat × Option Addr × Option Addr) (fun u => [(9, .int .i64 (u.1 : Nat)), (8, .int .i64 x.rl.length), (7, .slice x.ra x.rl.length x.rl.length), (3, .slice u.2.1 u.1 u.1), (1, .pointer (some ⟨n, 0, none⟩))])
    (fun u n4 h4 => u.1 ≤ x.rl.length ∧ n + 1 ≤ n4 ∧ Ext n h h4 ∧ h4.cell n 2 = .int .u16 (x.many : Nat) ∧ OwnSl h4 (n + 1) n4 u.2.1 1 u.1 (((recsE x u.2.2).take u.1).map rowV) ∧ (∀ j y, j < u.1 → (recsE x u.2.2)[j]? = some y → SlB h4 n4 y.1 y.2) ∧ (u.2.2 ≠ none → n ≤ sb u.2.2) ∧ (u.2.1 = none ∨ u.2.2 = none ∨ sb u.2.2 ≠ sb u.2.1))
    (fun u => x.rl.length - u.1) (0, none, none) envs ⟨by omega, Nat.le_refl _, E1, o2, OwnSl.nil (Nat.le_refl _), fun j y hj => by omega, fun q => absurd rfl q, .inl rfl⟩ ?_
  rintro ⟨i, c, a0⟩ n4 h4 ⟨hi, hn4, E4, o4, O4, Y4, z4, v4⟩
  dsimp only at hi O4 Y4 z4 v4 ⊢
  by_cases hlt : i < x.rl.length
  · have R4 := ok.recs.ext E4 (by omega : n ≤ n4)
    have hout := R4.out
    have hA : SlA x.ra x.rl.length := SlR.sla hout
    have hsn : sb x.ra < n4 := SlR.lt hout (by omega)
    obtain ⟨y, hy⟩ : ∃ y, x.rl[i]? = some y := ⟨_, List.getElem?_eq_getElem hlt⟩
    have hym : y ∈ x.rl := List.mem_of_getElem? hy
    obtain ⟨Sy, hyl⟩ := R4.row y hym
    have d0 : h4.cell (sb x.ra) (so x.ra + i) = .slice y.1 y.2.length y.2.length := (SlR.cell hout i (by omega)).trans (by simp [List.getD, List.getElem?_map, hy, rowV])
    by_cases h0 : i = 0
    · subst h0
      repeat' (first | refine stpS ?_ | (refine stp2 ?_ ?_ <;> intro _))
      repeat' (first | refine stp ?_ | (refine stp2 ?_ ?_ <;> intro _))
      refine RD.call n4 rfl opds (clone_rf y.2 y.1 _ n4 (h4.below n4) (Sy.ext (AH.below_ext h4 n4) (Nat.le_refl _)) rfl (by omega)) (Nat.le_refl _) cfc ?_
      rintro r n5 h5 k5 ⟨a5, rfl, E5, O5⟩
      have E5 : Ext n4 h4 h5 := E5.via (Nat.le_refl _) (AH.below_ext h4 n4)
      have o5 : h5.cell n 2 = .int .u16 (x.many : Nat) := c_ext E5 (by omega) o4
      repeat' (first | refine stp ?_ | (refine stp2 ?_ ?_ <;> intro _))
      have hzr : ∀ k, zrow (Value.cells (.int .u8 0)).toList k = bytesV (zeros k) := fun k => by
        rw [show (Value.cells (.int .u8 0)).toList = [.int .u8 0] from rfl, zrow_one]
        unfold zeros bytesV; rw [List.map_replicate]; rfl
      refine RD.appendZT n5 rfl opd opd O5 (by omega) (fun q => .inr (by have := (O5.at'.resolve_left q).1; omega)) (by omega) (by rw [hzr]; exact bytesV_known _) (Nat.le_refl _) cfw ?_
      intro a6 n6 h6 k6 O6 X6 w6
      rw [hzr] at O6
      have em : ((x.many : Int) % 3000).toNat = x.many % 3000 := by omega
      rw [em, ← bytesV_app] at O6
      rw [em]
      have E6 : Ext n h h6 := (E4.trans (by omega) E5).trans (by omega) (X6.ext O5)
      have hO4 : OwnSl h6 (n + 1) n6 c 1 0 [] := by
        have := O4.le
        have h1 := (O4.ext (E5.trans (by omega) (X6.ext O5)) (by omega : n4 ≤ n6))
        simpa using h1
      have hy0 := recsE_zero x a6 hy
      repeat' (first | refine stp ?_ | (refine stp2 ?_ ?_ <;> intro _))
      obtain ⟨g8, hg⟩ : ∃ g8, g8 = h6.app (.new n6 ⟨1, 0, true, 1⟩ [.slice a6 (y.2.length + x.many % 3000) (y.2.length + x.many % 3000)]) := ⟨_, rfl⟩
      refine RS.heap hg ?_
      have E8 : Ext n6 h6 g8 := by rw [hg]; exact ext
      have hnew : OwnSl g8 n6 (n6 + 1) (some ⟨n6, 0, none⟩) 1 1 [.slice a6 (y.2.length + x.many % 3000) (y.2.length + x.many % 3000)] := by rw [hg]; exact OwnSl.new (m := 1) (z := 1) (Nat.le_refl _) rfl rfl
      clear hg
      refine RS.append rfl opd opd (hO4.ext E8 (Nat.le_succ _)) hnew.src full_slice (fun b hb => Or.inr (by omega)) (by omega) ?_
      intro c9 n9 h9 k9 O9 X9 w9
      have E9 : Ext n h h9 := (E6.trans (by omega) E8).trans (by omega) (X9.ext (hO4.ext E8 (Nat.le_succ _)))
      have o9 : h9.cell n 2 = .int .u16 (x.many : Nat) := c_extX X9 (by omega) (O4.at'.imp id fun w => by omega) (c_ext E8 (by omega) (c_extX X6 (by omega) (O5.at'.imp id fun w => by omega) o5))
      have hat : a6 ≠ none → n4 ≤ sb a6 := fun q => by
        rcases w6 with w | w
        · rw [w] at q ⊢; exact (O5.at'.resolve_left q).1
        · omega
      have hml : (y.2 ++ zeros (x.many % 3000)).length = y.2.length + x.many % 3000 := by rw [List.length_append, zeros_length]
      have hS6 : SlB h6 n6 a6 (y.2 ++ zeros (x.many % 3000)) := by
        rw [← hml] at O6
        exact O6.slb
      have hap : c = none ∨ a6 = none ∨ sb a6 ≠ sb c := by
        by_cases q : c = none
        · exact .inl q
        by_cases q2 : a6 = none
        · exact .inr (.inl q2)
        have := O4.at'.resolve_left q
        have := hat q2
        exact .inr (.inr (by omega))
      repeat' (first | refine stpS ?_ | (refine stp2 ?_ ?_ <;> intro _))
      refine nextC.normal ⟨(1, c9, a6), by dsimp only; omega, envs, by dsimp only; omega, by omega, E9, o9, ?_, fun j z hj hz => ?_, fun q => by have := hat q; show n ≤ sb a6; omega, ?_⟩
      · have e1 : (recsE x a6).take 1 = [(a6, y.2 ++ zeros (x.many % 3000))] := by
          obtain ⟨r, hr⟩ : ∃ r, recsE x a6 = (a6, y.2 ++ zeros (x.many % 3000)) :: r := by
            cases hre : recsE x a6 with
            | nil => rw [hre] at hy0; cases hy0
            | cons w r => rw [hre] at hy0; cases hy0; exact ⟨r, rfl⟩
          rw [hr]; rfl
        show OwnSl h9 (n + 1) n9 c9 1 1 (((recsE x a6).take 1).map rowV)
        rw [e1]
        have : rowV (a6, y.2 ++ zeros (x.many % 3000)) = .slice a6 (y.2.length + x.many % 3000) (y.2.length + x.many % 3000) := by unfold rowV; dsimp only; rw [hml]
        rw [List.map_singleton, this]
        exact O9
      · obtain rfl : j = 0 := by show j = 0; have : j < 1 := hj; omega
        have hz' : (recsE x a6)[0]? = some z := hz
        rw [hy0] at hz'
        cases hz'
        exact (SlR.extX (hS6.ext E8 (Nat.le_succ _)) X9 (hap.imp id fun w => w)).ext (Ext.refl _ _) k9
      · show c9 = none ∨ a6 = none ∨ sb a6 ≠ sb c9
        rcases w9 with w | w
        · rw [w]; exact hap
        · by_cases q2 : a6 = none
          · exact .inr (.inl q2)
          · have hlt6 : sb a6 < n6 := by
              rcases hS6.shape with ⟨k, -⟩ | ⟨-, k, -⟩
              · exact absurd k q2
              · exact k
            exact .inr (.inr (by omega))
    · have hr : (recsE x a0)[i]? = some y := (recsE_succ x a0 i h0).trans hy
      repeat' (first | refine stpS ?_ | (refine stp2 ?_ ?_ <;> intro _))
      obtain ⟨g8, hg⟩ : ∃ g8, g8 = h4.app (.new n4 ⟨1, 0, true, 1⟩ [.slice y.1 y.2.length y.2.length]) := ⟨_, rfl⟩
      refine RS.heap hg ?_
      have E8 : Ext n4 h4 g8 := by rw [hg]; exact ext
      have hnew : OwnSl g8 n4 (n4 + 1) (some ⟨n4, 0, none⟩) 1 1 [.slice y.1 y.2.length y.2.length] := by rw [hg]; exact OwnSl.new (m := 1) (z := 1) (Nat.le_refl _) rfl rfl
      clear hg
      refine RS.append rfl opd opd (O4.ext E8 (Nat.le_succ _)) hnew.src full_slice (fun b hb => Or.inr (by omega)) (by omega) ?_
      intro c9 n9 h9 k9 O9 X9 w9
      have E9 : Ext n h h9 := (E4.trans (by omega) E8).trans (by omega) (X9.ext (O4.ext E8 (Nat.le_succ _)))
      have o9 : h9.cell n 2 = .int .u16 (x.many : Nat) := c_extX X9 (by omega) (O4.at'.imp id fun w => by omega) (c_ext E8 (by omega) o4)
      have hapy : c = none ∨ y.1 = none ∨ sb y.1 ≠ sb c := by
        by_cases q : c = none
        · exact .inl q
        by_cases q2 : y.1 = none
        · exact .inr (.inl q2)
        have := O4.at'.resolve_left q
        have : sb y.1 < n := by
          rcases (ok.recs.row y hym).1.shape with ⟨k, -⟩ | ⟨-, k, -⟩
          · exact absurd k q2
          · exact k
        exact .inr (.inr (by omega))
      repeat' (first | refine stpS ?_ | (refine stp2 ?_ ?_ <;> intro _))
      refine nextC.normal ⟨(i + 1, c9, a0), by dsimp only; omega, envs, by dsimp only; omega, by omega, E9, o9, ?_, fun j z hj hz => ?_, z4, ?_⟩
      · show OwnSl h9 (n + 1) n9 c9 1 (i + 1) (((recsE x a0).take (i + 1)).map rowV)
        have hil : i < (recsE x a0).length := by rw [recsE_len]; exact hlt
        have e1 : (recsE x a0).take (i + 1) = (recsE x a0).take i ++ [y] := by
          rw [List.take_succ_eq_append_getElem hil]
          congr 2
          rw [List.getElem?_eq_getElem hil] at hr
          exact Option.some.inj hr
        rw [e1, List.map_append]
        exact O9
      · have hj : j < i + 1 := hj
        by_cases q : j = i
        · subst q
          have hz' : (recsE x a0)[j]? = some z := hz
          rw [hr] at hz'
          cases hz'
          exact (SlR.extX (Sy.ext E8 (Nat.le_succ _)) X9 hapy).ext (Ext.refl _ _) k9
        · have S0 := Y4 j z (by omega) hz
          refine (SlR.extX (S0.ext E8 (Nat.le_succ _)) X9 ?_).ext (Ext.refl _ _) k9
          by_cases q0 : j = 0
          · subst q0
            have hz' : (recsE x a0)[0]? = some z := hz
            obtain ⟨y0, hy0⟩ : ∃ y0, x.rl[0]? = some y0 := ⟨_, List.getElem?_eq_getElem (by omega)⟩
            rw [recsE_zero x a0 hy0] at hz'
            cases hz'
            exact v4
          · have hz' : (recsE x a0)[j]? = some z := hz
            rw [recsE_succ x a0 j q0] at hz'
            by_cases q : c = none
            · exact .inl q
            by_cases q2 : z.1 = none
            · exact .inr (.inl q2)
            have := O4.at'.resolve_left q
            have : sb z.1 < n := by
              rcases (ok.recs.row z (List.mem_of_getElem? hz')).1.shape with ⟨k, -⟩ | ⟨-, k, -⟩
              · exact absurd k q2
              · exact k
            exact .inr (.inr (by omega))
      · show c9 = none ∨ a0 = none ∨ sb a0 ≠ sb c9
        rcases w9 with w | w
        · rw [w]; exact v4
        · by_cases q2 : a0 = none
          · exact .inr (.inl q2)
          · obtain ⟨y0, hy0⟩ : ∃ y0, x.rl[0]? = some y0 := ⟨_, List.getElem?_eq_getElem (by omega)⟩
            have S0 := Y4 0 _ (by omega) (recsE_zero x a0 hy0)
            have : sb a0 < n4 := by
              rcases S0.shape with ⟨k, -⟩ | ⟨-, k, -⟩
              · exact absurd k q2
              · exact k
            exact .inr (.inr (by omega))
  · obtain rfl : i = x.rl.length := by omega
    rw [List.take_of_length_le (by rw [recsE_len]; exact Nat.le_refl _)] at O4
    repeat' (first | refine stpS ?_ | (refine stp2 ?_ ?_ <;> intro _))
    exact ⟨c, a0, rfl, E4, O4.mono (by omega), fun y hy => ((by
      obtain ⟨j, hj⟩ := List.getElem?_of_mem hy
      have : j < (recsE x a0).length := (List.getElem?_eq_some_iff.1 hj).1
      rw [recsE_len] at this
      exact Y4 j y this hj : SlB h4 n4 y.1 y.2)), z4⟩
end Go.Proofs.YtfbddbpbifnhfaaDoor

/- The plain law of a log behind a burst. -/
namespace Go.Proofs.YtfbddbpbifnhfaaDoor
open Go.Abs Cd

theorem bitsL_cons (b : UInt8) (l : List UInt8) : bitsL (b :: l) = bitsB b ++ bitsL l := rfl
theorem bitsL_get : ∀ (l : List UInt8) (k : Nat), (bitsL l).getD k 0 = (l.getD (k / 8) 0).toNat / 2 ^ (k % 8) % 2
  | [], k => by simp [bitsL]
  | b :: l, k => by
    rw [bitsL_cons]
    by_cases h : k < 8
    · rw [List.getD_eq_getElem?_getD, List.getElem?_append_left (by rw [bitsB_length]; exact h)]
      rw [show k / 8 = 0 by omega, show k % 8 = k by omega]
      unfold bitsB
      rw [List.getElem?_map, List.getElem?_range h]; rfl
    · rw [List.getD_eq_getElem?_getD, List.getElem?_append_right (by rw [bitsB_length]; omega), bitsB_length, ← List.getD_eq_getElem?_getD, bitsL_get l (k - 8)]
      rw [show k / 8 = (k - 8) / 8 + 1 by omega, show k % 8 = (k - 8) % 8 by omega]; rfl
theorem byte_zeroN : ∀ x, x < 256 → (∀ r, r < 8 → x / 2 ^ r % 2 = 0) → x = 0 := by decide +kernel
theorem byte_zero (x : UInt8) (h : ∀ r, r < 8 → x.toNat / 2 ^ r % 2 = 0) : x = 0 := UInt8.toNat_inj.1 (byte_zeroN _ x.toNat_lt h)
theorem zeros_get (k i : Nat) : (zeros k).getD i 0 = 0 := by
  unfold zeros
  rw [List.getD_eq_getElem?_getD, List.getElem?_replicate]
  split <;> rfl
theorem eq_zeros {e : List UInt8} (h : ∀ i, e.getD i 0 = 0) : e = zeros e.length := by
  apply List.ext_getElem
  · rw [zeros_length]
  · intro i h1 h2
    have := h i
    rw [List.getD_eq_getElem?_getD, List.getElem?_eq_getElem h1] at this
    have h3 := zeros_get e.length i
    rw [List.getD_eq_getElem?_getD, List.getElem?_eq_getElem h2] at h3
    exact this.trans h3.symm
theorem burst_zero {e : List UInt8} {s : Nat} (h : Burst e s) (hf : e.foldl byteStep 0 = 0) : e = zeros e.length := by
  apply eq_zeros
  intro i
  apply byte_zero
  intro r hr
  apply Classical.byContradiction
  intro q
  refine burst_nz h (k := 8 * i + r) ?_ hf
  rw [bitsL_get, show (8 * i + r) / 8 = i by omega, show (8 * i + r) % 8 = r by omega]
  exact q
theorem burst_part {e : List UInt8} {s : Nat} (h : Burst e s) (a m : Nat) : Burst ((e.drop a).take m) (s - 8 * a) := by
  intro k hk
  rw [bitsL_get] at hk
  have hg : ((e.drop a).take m).getD (k / 8) 0 = e.getD (a + k / 8) 0 := by
    by_cases q : k / 8 < m
    · simp [List.getD, List.getElem?_take, q, List.getElem?_drop]
    · exfalso; apply hk; simp [List.getD, List.getElem?_take, q]
  rw [hg] at hk
  have := h (8 * a + k) (by rw [bitsL_get, show (8 * a + k) / 8 = a + k / 8 by omega, show (8 * a + k) % 8 = k % 8 by omega]; exact hk)
  omega
theorem xorL_length (l e : List UInt8) (h : l.length = e.length) : (xorL l e).length = l.length := by
  unfold xorL; rw [List.length_zipWith]; omega
theorem xorL_app (a b c d : List UInt8) (h : a.length = c.length) : xorL (a ++ b) (c ++ d) = xorL a c ++ xorL b d := by
  unfold xorL; exact List.zipWith_append h
theorem xorL_zeros (l : List UInt8) (k : Nat) (h : l.length = k) : xorL l (zeros k) = l := by
  subst h
  apply List.ext_getElem
  · rw [xorL_length _ _ (by rw [zeros_length])]
  · intro i h1 h2
    simp [xorL, zeros]
theorem xorL_self {l e : List UInt8} (h : l.length = e.length) (he : xorL l e = l) : e = zeros e.length := by
  apply List.ext_getElem
  · rw [zeros_length]
  · intro i h1 h2
    have h3 : (xorL l e)[i]'(by rw [xorL_length _ _ h]; omega) = l[i] := by simp only [he]
    unfold xorL at h3
    rw [List.getElem_zipWith] at h3
    have h4 := congrArg (l[i] ^^^ ·) h3
    simp only [← UInt8.xor_assoc, UInt8.xor_self, UInt8.zero_xor] at h4
    simp only [zeros, List.getElem_replicate]
    exact h4
theorem crc_same {l e : List UInt8} {s : Nat} (h : l.length = e.length) (hb : Burst e s) (hc : crcR (xorL l e) = crcR l) : e = zeros e.length := by
  rw [crcR_xor l e h] at hc
  refine burst_zero hb ?_
  have h4 := congrArg (crcR l ^^^ ·) hc
  simp only [← Nat.xor_assoc, Nat.xor_self, Nat.zero_xor] at h4
  exact h4
theorem fold_lt (l : List UInt8) : ∀ c, c < 4294967296 → l.foldl byteStep c < 4294967296 := by
  induction l with
  | nil => intro c h; exact h
  | cons b l ih =>
    intro c h
    refine ih _ (stepN_lt (Nat.xor_lt_two_pow (n := 32) (by omega) ?_) 8)
    have := b.toNat_lt
    omega
theorem crcR_lt (l : List UInt8) : crcR l < 4294967296 := fold_lt l _ (by omega)
theorem low_xor (x : Nat) : x ^^^ (x % 256) = 2 * (2 * (2 * (2 * (2 * (2 * (2 * (2 * (x / 256)))))))) := by
  have e : 2 * (2 * (2 * (2 * (2 * (2 * (2 * (2 * (x / 256)))))))) = 2 ^ 8 * (x / 2 ^ 8) := by omega
  rw [e, show (256 : Nat) = 2 ^ 8 from rfl]
  apply Nat.eq_of_testBit_eq
  intro i
  rw [Nat.testBit_xor, Nat.testBit_mod_two_pow, Nat.testBit_two_pow_mul, Nat.testBit_div_two_pow]
  by_cases h : i < 8
  · have h2 : ¬ 8 ≤ i := by omega
    simp [h, h2]
  · have h2 : 8 ≤ i := by omega
    simp [h, h2, show i - 8 + 8 = i by omega, show 8 + (i - 8) = i by omega]
theorem byte_down (x : Nat) (b : UInt8) (h : b.toNat = x % 256) : byteStep x b = x / 256 := by
  unfold byteStep
  rw [h, low_xor]
  simp only [stepN, step_even]
theorem little_fold (x : Nat) (hx : x < 4294967296) : (little x).foldl byteStep x = 0 := by
  unfold little
  simp only [List.foldl_cons, List.foldl_nil]
  rw [byte_down x _ (by rw [UInt8.toNat_ofNat'])]
  rw [byte_down (x / 256) _ (by rw [UInt8.toNat_ofNat'])]
  rw [byte_down (x / 256 / 256) _ (by rw [UInt8.toNat_ofNat']; omega)]
  rw [byte_down (x / 256 / 256 / 256) _ (by rw [UInt8.toNat_ofNat']; omega)]
  omega
theorem comp_xor (c : Nat) (h : c < 4294967296) : (4294967295 - c) ^^^ c = 4294967295 := by
  have e : 4294967295 - c = 4294967295 ^^^ c := by
    have h1 : (4294967295 : Nat) = 2 ^ 32 - 1 := by decide
    apply Nat.eq_of_testBit_eq
    intro i
    rw [Nat.testBit_xor, h1, show 2 ^ 32 - 1 - c = 2 ^ 32 - (c + 1) by omega, Nat.testBit_two_pow_sub_succ (by omega : c < 2 ^ 32), Nat.testBit_two_pow_sub_one]
    by_cases q : i < 32
    · simp [q]
    · have : c.testBit i = false := Nat.testBit_lt_two_pow (Nat.lt_of_lt_of_le (by omega : c < 2 ^ 32) (Nat.pow_le_pow_right (by omega) (by omega)))
      simp [q, this]
  rw [e, Nat.xor_assoc, Nat.xor_self, Nat.xor_zero]
/-- A mark's sum is a constant. -/
theorem mark_word (g s m c : Int) : crcR (markB g s m c) = (zeros 4).foldl byteStep 4294967295 := by
  unfold markB
  have hr := crcR_lt (padB g s m c)
  have e : crcR (padB g s m c ++ little (crc (padB g s m c))) = (little (crc (padB g s m c))).foldl byteStep (crcR (padB g s m c)) := by
    unfold crcR
    rw [List.foldl_append]
  rw [e]
  unfold crc
  obtain ⟨r, hr'⟩ : ∃ r, r = crcR (padB g s m c) := ⟨_, rfl⟩
  rw [← hr'] at hr ⊢
  have h1 := fold_xor (little (4294967295 - r)) (zeros 4) (4294967295 - r) ((4294967295 - r) ^^^ r) rfl
  rw [xorL_zeros _ 4 rfl, ← Nat.xor_assoc, Nat.xor_self, Nat.zero_xor, little_fold _ (by omega), Nat.zero_xor, comp_xor r hr] at h1
  exact h1
theorem next_dmg {gen : Int} {k : Nat} {p q : List UInt8} {l : List (List UInt8)} {ec : List UInt8} {s : Nat} (hg : may gen) (hk : may (k : Nat)) (hl : okC l) (he : ec.length = (comB gen k l).length) (hb : Burst ec s)
    (hn : nextP gen k p.length (p ++ (xorL (comB gen k l) ec ++ q)) ≠ none) : ec = zeros ec.length := by
  have hc := crc_lt (dataB l)
  have hd3 := hl.2.2
  have hml : (markD gen (k : Nat) (dataB l)).length = 512 := markB_length hg.i64 hk.i64 ⟨by omega, by omega⟩ ⟨by omega, by omega⟩
  have hx := mkd_mark gen (k : Nat) ((dataB l).length : Nat) (crc (dataB l) : Nat) hg hk ⟨by omega, by omega⟩ ⟨by omega, by omega⟩
  have hf := fillB_length (dataB l)
  have hcl := comB_length (gen := gen) (k := k) (ls := l) hg hk hd3
  have h12 : ec = ec.take 512 ++ ec.drop 512 := (List.take_append_drop 512 ec).symm
  have he1 : (ec.take 512).length = 512 := by rw [List.length_take]; omega
  have he2 : (ec.drop 512).length = (fillB (dataB l)).length := by rw [List.length_drop]; omega
  have hb1 : Burst (ec.take 512) s := by
    have := burst_part hb 0 512
    rwa [List.drop_zero, Nat.mul_zero, Nat.sub_zero] at this
  have hb2 : Burst ((ec.drop 512).take (dataB l).length) (s - 8 * 512) := burst_part hb 512 _
  obtain ⟨e1, hee1⟩ : ∃ e1, e1 = ec.take 512 := ⟨_, rfl⟩
  obtain ⟨e2, hee2⟩ : ∃ e2, e2 = ec.drop 512 := ⟨_, rfl⟩
  rw [← hee1] at h12 he1 hb1
  rw [← hee2] at h12 he2 hb2
  unfold nextP comB at hn
  rw [h12, xorL_app _ _ _ _ (by omega)] at hn
  have hxl : (xorL (markD gen (k : Nat) (dataB l)) e1).length = 512 := by rw [xorL_length _ _ (by omega)]; exact hml
  have hxf : (xorL (fillB (dataB l)) e2).length = (fillB (dataB l)).length := xorL_length _ _ (by omega)
  rw [if_neg (by simp only [List.length_append]; omega), List.drop_left] at hn
  have t1 : (xorL (markD gen (k : Nat) (dataB l)) e1 ++ xorL (fillB (dataB l)) e2 ++ q).take 512 = xorL (markD gen (k : Nat) (dataB l)) e1 := by
    rw [List.append_assoc, ← hxl, List.take_left]
  have t2 : (xorL (markD gen (k : Nat) (dataB l)) e1 ++ xorL (fillB (dataB l)) e2 ++ q).drop 512 = xorL (fillB (dataB l)) e2 ++ q := by
    rw [List.append_assoc, ← hxl, List.drop_left]
  rw [t1, t2] at hn
  dsimp only at hn
  split at hn
  rotate_left
  · exact absurd rfl hn
  rename_i hall
  obtain ⟨w1, w2, w3, w4, w5, w6⟩ := hall
  obtain ⟨-, -, -, -, -, -, w7⟩ := mkd_ok w1
  have hz1 : e1 = zeros e1.length := by
    refine crc_same (l := markD gen (k : Nat) (dataB l)) (by omega) hb1 ?_
    rw [w7, mark_word]
    unfold markD
    rw [mark_word]
  have hM : xorL (markD gen (k : Nat) (dataB l)) e1 = markD gen (k : Nat) (dataB l) := by
    rw [hz1, he1]; exact xorL_zeros _ _ hml
  rw [hM] at w4 w5 w6
  have hx : mkd gen (k : Nat) (markD gen (k : Nat) (dataB l)) = ((((dataB l).length : Nat) : Int), ((crc (dataB l) : Nat) : Int), true) := hx
  rw [hx] at w4 w5 w6
  dsimp only at w4 w5 w6
  rw [Int.toNat_natCast] at w4 w5 w6
  have t3 : (xorL (fillB (dataB l)) e2 ++ q).take (dataB l).length = xorL (dataB l) (e2.take (dataB l).length) := by
    rw [List.take_append_of_le_length (by omega)]
    unfold xorL
    rw [List.take_zipWith]
    congr 1
    unfold fillB
    rw [List.take_left]
  rw [t3] at w4 w5 w6
  have hz2 : e2.take (dataB l).length = zeros (e2.take (dataB l).length).length := by
    refine crc_same (l := dataB l) (by rw [List.length_take]; omega) hb2 ?_
    have r1 := crcR_lt (xorL (dataB l) (e2.take (dataB l).length))
    have r2 := crcR_lt (dataB l)
    unfold crc at w4
    omega
  have hD : xorL (dataB l) (e2.take (dataB l).length) = dataB l := by
    rw [hz2]; exact xorL_zeros _ _ (by rw [List.length_take]; omega)
  rw [hD] at w6
  have w6 := w6
  rw [← hxf, List.take_left] at w6
  have hz3 := xorL_self (by omega) w6
  rw [h12, hz1, hz3, he1]
  unfold zeros
  rw [List.replicate_append_replicate, List.length_replicate]
theorem logB_cons (gen : Int) (k : Nat) (l : List (List UInt8)) (L : List (List (List UInt8))) : logB gen k (l :: L) = comB gen k l ++ logB gen (k + 1) L := rfl
theorem all_dmg (gen : Int) (hg : may gen) : ∀ (L : List (List (List UInt8))) (X : LS) (p e : List UInt8) (s : Nat), X.gen = gen → X.L.length + L.length ≤ 1099511627776 → X.e = p.length → (∀ l ∈ L, okC l) → e.length = (logB gen X.L.length L).length → Burst e s →
    ∃ n, n ≤ L.length ∧ X.all (p ++ xorL (logB gen X.L.length L) e) = { X with L := X.L ++ L.take n, e := X.e + (logB gen X.L.length (L.take n)).length } ∧
      (p ++ xorL (logB gen X.L.length L) e).take (p.length + (logB gen X.L.length (L.take n)).length) = p ++ logB gen X.L.length (L.take n) ∧
      (n < L.length → ∃ i, i < (logB gen X.L.length (L.take (n + 1))).length ∧ e.getD i 0 ≠ 0) := by
  intro L
  induction L with
  | nil =>
    intro X p e s hgen hL he hl hel hb
    have h0 : e = [] := List.eq_nil_of_length_eq_zero hel
    refine ⟨0, Nat.le_refl _, ?_, ?_, fun q => absurd q (Nat.lt_irrefl 0)⟩
    · refine (all_none (next_short ?_)).trans ?_
      · rw [h0, he]
        show (p ++ []).length < p.length + 512
        rw [List.append_nil]; omega
      · show X = LS.mk _ _ _ _
        simp [logB]
    · rw [h0]
      show (p ++ []).take (p.length + 0) = p ++ []
      rw [List.append_nil, Nat.add_zero, List.take_length]
  | cons l L ih =>
    intro X p e s hgen hL he hl hel hb
    rw [List.length_cons] at hL
    have hk : may (X.L.length : Nat) := by unfold may; omega
    have hokl := hl l (by simp)
    rw [logB_cons, List.length_append] at hel
    obtain ⟨ec, hec⟩ : ∃ ec, ec = e.take (comB gen X.L.length l).length := ⟨_, rfl⟩
    obtain ⟨et, het⟩ : ∃ et, et = e.drop (comB gen X.L.length l).length := ⟨_, rfl⟩
    have hecl : ec.length = (comB gen X.L.length l).length := by rw [hec, List.length_take]; omega
    have hetl : et.length = (logB gen (X.L.length + 1) L).length := by rw [het, List.length_drop]; omega
    have hee : e = ec ++ et := by rw [hec, het, List.take_append_drop]
    have hbc : Burst ec s := by
      have := burst_part hb 0 (comB gen X.L.length l).length
      rwa [List.drop_zero, Nat.mul_zero, Nat.sub_zero, ← hec] at this
    have hbt : Burst et (s - 8 * (comB gen X.L.length l).length) := by
      have := burst_part hb (comB gen X.L.length l).length et.length
      rwa [← het, List.take_length] at this
    have hfile : xorL (logB gen X.L.length (l :: L)) e = xorL (comB gen X.L.length l) ec ++ xorL (logB gen (X.L.length + 1) L) et := by
      rw [logB_cons, hee, xorL_app _ _ _ _ hecl.symm]
    rw [hfile]
    by_cases hz : ec = zeros ec.length
    · have hcc : xorL (comB gen X.L.length l) ec = comB gen X.L.length l := by rw [hz]; exact xorL_zeros _ _ hecl.symm
      rw [hcc]
      subst hgen
      have hn := next_com (q := xorL (logB X.gen (X.L.length + 1) L) et) hg hk he hokl
      obtain ⟨n, n1, n2, n3, n4⟩ := ih { X with L := X.L ++ [l], e := X.e + (comB X.gen X.L.length l).length } (p ++ comB X.gen X.L.length l) et _ rfl (by simp only [List.length_append, List.length_singleton]; omega) (by rw [List.length_append]; show X.e + _ = _; omega) (fun x hx => hl x (by simp [hx]))
        (by simp only [List.length_append, List.length_singleton]; exact hetl) hbt
      simp only [List.length_append, List.length_singleton] at n2 n3 n4
      rw [List.append_assoc] at n2 n3
      refine ⟨n + 1, by rw [List.length_cons]; omega, ?_, ?_, fun q => ?_⟩
      · rw [all_some hn, n2]
        show LS.mk _ _ _ _ = LS.mk _ _ _ _
        rw [List.take_succ_cons, logB_cons, List.length_append, List.append_assoc]
        congr 1
        omega
      · rw [List.take_succ_cons, logB_cons, List.length_append, ← Nat.add_assoc, n3, List.append_assoc]
      · rw [List.length_cons] at q
        obtain ⟨i, i1, i2⟩ := n4 (by omega)
        refine ⟨(comB X.gen X.L.length l).length + i, ?_, ?_⟩
        · rw [List.take_succ_cons, logB_cons, List.length_append]; omega
        · rw [hee, List.getD_eq_getElem?_getD, List.getElem?_append_right (by omega), hecl, Nat.add_sub_cancel_left, ← List.getD_eq_getElem?_getD]; exact i2
    · have hnone : X.next (p ++ (xorL (comB gen X.L.length l) ec ++ xorL (logB gen (X.L.length + 1) L) et)) = none := by
        cases hx : X.next (p ++ (xorL (comB gen X.L.length l) ec ++ xorL (logB gen (X.L.length + 1) L) et)) with
        | none => rfl
        | some Y =>
          exfalso
          apply hz
          refine next_dmg (p := p) (q := xorL (logB gen (X.L.length + 1) L) et) hg hk hokl hecl hbc (fun q => ?_)
          unfold LS.next at hx
          rw [hgen, he, q] at hx
          cases hx
      refine ⟨0, Nat.zero_le _, ?_, ?_, fun _ => ?_⟩
      · rw [all_none hnone]
        show X = LS.mk _ _ _ _
        simp [logB]
      · show _ = p ++ []
        rw [List.append_nil]
        show List.take (p.length + 0) _ = p
        rw [Nat.add_zero, List.take_left]
      · have : ∃ i, ec.getD i 0 ≠ 0 := Classical.byContradiction fun q => hz (eq_zeros fun i => Classical.byContradiction fun w => q ⟨i, w⟩)
        obtain ⟨i, hi⟩ := this
        have hil : i < ec.length := by
          apply Classical.byContradiction
          intro w
          apply hi
          rw [List.getD_eq_getElem?_getD, List.getElem?_eq_none (by omega)]; rfl
        refine ⟨i, ?_, ?_⟩
        · show i < (comB gen X.L.length l ++ logB gen (X.L.length + 1) []).length
          rw [List.length_append]; omega
        · rw [hee, List.getD_eq_getElem?_getD, List.getElem?_append_left hil, ← List.getD_eq_getElem?_getD]; exact hi
end Go.Proofs.YtfbddbpbifnhfaaDoor

/- The plain law of a log behind a burst: the flips, and what is opened. -/
namespace Go.Proofs.YtfbddbpbifnhfaaDoor
open Go.Abs Cd

/-- One bit is turned. -/
def flip (e : List UInt8) (k : Nat) : List UInt8 := e.set (k / 8) (e.getD (k / 8) 0 ^^^ UInt8.ofNat (2 ^ (k % 8)))
theorem flip_len (e : List UInt8) (k : Nat) : (flip e k).length = e.length := List.length_set
theorem flip_xor (b e : List UInt8) (k : Nat) (h : b.length = e.length) (hk : k / 8 < e.length) : flip (xorL b e) k = xorL b (flip e k) := by
  have hkb : k / 8 < b.length := by omega
  have hb : b.getD (k / 8) 0 = b[k / 8] := by simp [List.getD, hkb]
  have he : e.getD (k / 8) 0 = e[k / 8] := by simp [List.getD, hk]
  have hg : (xorL b e).getD (k / 8) 0 = b[k / 8] ^^^ e[k / 8] := by
    have hl : k / 8 < (xorL b e).length := by rw [xorL_length b e h]; exact hkb
    rw [List.getD_eq_getElem?_getD, List.getElem?_eq_getElem hl]
    simp only [xorL, List.getElem_zipWith, Option.getD_some]
  unfold flip
  rw [hg, he]
  apply List.ext_getElem
  · simp [xorL]
  · intro i h1 h2
    simp only [xorL, List.getElem_set, List.getElem_zipWith]
    split
    · rename_i q
      subst q
      exact UInt8.xor_assoc _ _ _
    · rfl
theorem markB_form (g s m c : Int) : ∃ t, markB g s m c = form g ++ t := ⟨form s ++ (form m ++ (form c ++ (zeros (508 - (headB g s m c).length) ++ little (crc (padB g s m c))))), by
  show headB g s m c ++ _ ++ _ = _
  unfold headB
  simp only [List.append_assoc]⟩
theorem flip_bit (e : List UInt8) (k j : Nat) (hj : j ≠ k) : (bitsL (flip e k)).getD j 0 = (bitsL e).getD j 0 := by
  rw [bitsL_get, bitsL_get]
  unfold flip
  by_cases q : k / 8 = j / 8
  · by_cases w : j / 8 < e.length
    · have hg : (e.set (k / 8) (e.getD (k / 8) 0 ^^^ UInt8.ofNat (2 ^ (k % 8)))).getD (j / 8) 0 = e.getD (j / 8) 0 ^^^ UInt8.ofNat (2 ^ (k % 8)) := by
        rw [q]
        simp [List.getD, w]
      rw [hg, UInt8.toNat_xor, UInt8.toNat_ofNat']
      have hk8 : k % 8 < 8 := Nat.mod_lt _ (by omega)
      have h256 : 2 ^ (k % 8) % 2 ^ 8 = 2 ^ (k % 8) := Nat.mod_eq_of_lt (Nat.pow_lt_pow_right (by omega) hk8)
      rw [h256]
      have e1 : ∀ a m : Nat, a / 2 ^ m % 2 = (a.testBit m).toNat := fun a m => (Nat.toNat_testBit a m).symm
      rw [e1, e1, Nat.testBit_xor, Nat.testBit_two_pow]
      have : ¬ k % 8 = j % 8 := by omega
      simp [this]
    · simp [List.getD, w]
  · have : (e.set (k / 8) (e.getD (k / 8) 0 ^^^ UInt8.ofNat (2 ^ (k % 8)))).getD (j / 8) 0 = e.getD (j / 8) 0 := by
      rw [List.getD_eq_getElem?_getD, List.getElem?_set_ne q, ← List.getD_eq_getElem?_getD]
    rw [this]
/-- The bits of a burst behind i steps, and the first byte they touch. -/
def dmgE (s len bits : Nat) : Nat → List UInt8
  | 0 => zeros len
  | i + 1 => if bits / 2 ^ i % 2 = 1 ∧ s + i < 8 * len then flip (dmgE s len bits i) (s + i) else dmgE s len bits i
def dmgF (s len bits : Nat) : Nat → Nat
  | 0 => len
  | i + 1 => if bits / 2 ^ i % 2 = 1 ∧ s + i < 8 * len then min (dmgF s len bits i) ((s + i) / 8) else dmgF s len bits i
theorem dmgE_len (s len bits : Nat) : ∀ i, (dmgE s len bits i).length = len := by
  intro i
  induction i with
  | zero => exact zeros_length _
  | succ i ih =>
    unfold dmgE
    split
    · rw [flip_len]; exact ih
    · exact ih
theorem bits_zeros (k j : Nat) : (bitsL (zeros k)).getD j 0 = 0 := by
  rw [bitsL_get, zeros_get]; simp
theorem dmgE_bits (s len bits : Nat) : ∀ i j, (bitsL (dmgE s len bits i)).getD j 0 ≠ 0 → s ≤ j ∧ j < s + i := by
  intro i
  induction i with
  | zero => intro j h; exact absurd (bits_zeros _ _) h
  | succ i ih =>
    intro j h
    unfold dmgE at h
    split at h
    · by_cases q : j = s + i
      · omega
      · rw [flip_bit _ _ _ q] at h
        have := ih j h; omega
    · have := ih j h; omega
theorem dmgE_burst (s len bits : Nat) : Burst (dmgE s len bits 32) s := fun k hk => dmgE_bits s len bits 32 k hk
theorem dmgF_le (s len bits : Nat) : ∀ i, dmgF s len bits i ≤ len := by
  intro i
  induction i with
  | zero => exact Nat.le_refl _
  | succ i ih =>
    unfold dmgF
    split
    · omega
    · exact ih
theorem dmgF_zero (s len bits : Nat) : ∀ i j, j < dmgF s len bits i → (dmgE s len bits i).getD j 0 = 0 := by
  intro i
  induction i with
  | zero => intro j _; exact zeros_get _ _
  | succ i ih =>
    intro j h
    unfold dmgF at h
    unfold dmgE
    split
    · rename_i q
      rw [if_pos q] at h
      have h1 := ih j (by omega)
      have hne : (s + i) / 8 ≠ j := by omega
      unfold flip
      rw [List.getD_eq_getElem?_getD, List.getElem?_set_ne hne, ← List.getD_eq_getElem?_getD]; exact h1
    · rename_i q
      rw [if_neg q] at h
      exact ih j h
theorem dmg_step (b : List UInt8) (s bits i : Nat) (h : bits / 2 ^ i % 2 = 1 ∧ s + i < 8 * b.length) : xorL b (dmgE s b.length bits (i + 1)) = flip (xorL b (dmgE s b.length bits i)) (s + i) := by
  have hl := dmgE_len s b.length bits i
  rw [flip_xor _ _ _ hl.symm (by omega), dmgE, if_pos h]
theorem dmg_same (b : List UInt8) (s bits i : Nat) (h : ¬ (bits / 2 ^ i % 2 = 1 ∧ s + i < 8 * b.length)) : xorL b (dmgE s b.length bits (i + 1)) = xorL b (dmgE s b.length bits i) := by
  rw [dmgE, if_neg h]
theorem scan_e (b : List UInt8) : ∀ (k : Nat) (X : LS), X.e ≤ b.length → (X.scan k b).e ≤ b.length := by
  intro k
  induction k with
  | zero => intro X h; exact h
  | succ k ih =>
    intro X h
    cases hn : X.next b with
    | none => rw [scan_none hn]; exact h
    | some Y =>
      rw [scan_some hn]
      exact ih Y (next_facts hn).2.1
/-- Open while the power stays on. -/
theorem openP_gen {S : Dk.DS} {gen : Int} (hd : S.down = false) (hf : S.fuse = 0) (hg : may gen) :
    ∃ S', openP S gen = (0, { logOf S gen (S.now 1) with S := S' }) ∧ S'.fuse = 0 ∧ S'.down = false ∧ S'.now 1 = (S.now 1).take (logOf S gen (S.now 1)).e ∧ S'.ps.length ≤ S.ps.length + 1 ∧ S'.calls ≤ S.calls + 2 := by
  have hle : (logOf S gen (S.now 1)).e ≤ (S.now 1).length := scan_e _ _ _ (Nat.zero_le _)
  have hS : (logOf S gen (S.now 1)).S = S := scan_S _ _ _
  have hD : openP S gen = if (S.now 1).length = (logOf S gen (S.now 1)).e then (0, logOf S gen (S.now 1)) else ((cutD S (logOf S gen (S.now 1)).e).1, { logOf S gen (S.now 1) with S := (cutD S (logOf S gen (S.now 1)).e).2 }) := by
    unfold openP
    rw [if_neg (fun z => z hg), if_neg (fun z => z (may1 hd))]
  obtain ⟨X, hX⟩ : ∃ X, X = logOf S gen (S.now 1) := ⟨_, rfl⟩
  rw [← hX] at hle hS hD ⊢
  by_cases hl : (S.now 1).length = X.e
  · rw [if_pos hl] at hD
    refine ⟨S, by rw [hD, ← hS], hf, hd, by rw [← hl, List.take_length], Nat.le_succ _, by omega⟩
  rw [if_neg hl] at hD
  obtain ⟨p, hp⟩ : ∃ p : Dk.Pc, p = ⟨1, true, X.e, []⟩ := ⟨_, rfl⟩
  have ht : S.truncate 1 (X.e : Nat) = (0, { S with ps := S.ps ++ [p], calls := S.calls + 1 }) := by
    unfold Dk.DS.truncate
    rw [if_neg (fun z => z (may1 hd)), if_neg (by rw [show (1 : Int).toNat = 1 from rfl]; omega), Int.toNat_natCast]
    unfold Dk.DS.ends
    rw [if_pos (show (S.done _).fuse = 0 from hf), hp]; rfl
  have hy : ({ S with ps := S.ps ++ [p], calls := S.calls + 1 } : Dk.DS).sync 1 = (0, ({ S with ps := S.ps ++ [p], calls := S.calls + 1 + 1 } : Dk.DS).synced 1) := by
    unfold Dk.DS.sync
    have hen : ({ S with ps := S.ps ++ [p], calls := S.calls + 1 } : Dk.DS).ends = (0, { S with ps := S.ps ++ [p], calls := S.calls + 1 + 1 }) := by unfold Dk.DS.ends; rw [if_pos (show ({ S with ps := S.ps ++ [p], calls := S.calls + 1 } : Dk.DS).fuse = 0 from hf)]
    rw [if_neg (fun z => z (may1 hd)), hen, if_neg (fun z => z rfl)]; rfl
  have hc : cutD S X.e = (0, ({ S with ps := S.ps ++ [p], calls := S.calls + 1 + 1 } : Dk.DS).synced 1) := by
    unfold cutD
    rw [ht, if_neg (fun z => z rfl), hy]
  rw [hc] at hD
  refine ⟨_, hD, hf, hd, ?_, ?_, by show S.calls + 1 + 1 ≤ _; omega⟩
  · rw [Dk.synced_now]
    show Dk.nowP 1 (S.sure 1) (S.ps ++ [p]) = _
    rw [Dk.nowP_snoc, hp, if_pos rfl]; rfl
  · show ((S.ps ++ [p]).filter _).length ≤ _
    refine Nat.le_trans (List.length_filter_le _ _) ?_
    rw [List.length_append]; exact Nat.le_refl _
theorem dmg_open {S : Dk.DS} {L : List (List (List UInt8))} {E : List UInt8} {s : Nat} (hd : S.down = false) (hf : S.fuse = 0) (hL : L.length ≤ 1099511627776) (hok : ∀ l ∈ L, okC l) (hE : E.length = (logB 1 0 L).length) (hb : Burst E s) (hnow : S.now 1 = xorL (logB 1 0 L) E) :
    ∃ n S', n ≤ L.length ∧ openP S 1 = (0, ⟨S', 1, L.take n, (logB 1 0 (L.take n)).length⟩) ∧ S'.fuse = 0 ∧ S'.down = false ∧ S'.now 1 = logB 1 0 (L.take n) ∧ S'.ps.length ≤ S.ps.length + 1 ∧ S'.calls ≤ S.calls + 2 ∧
      (n < L.length → ∃ i, i < (logB 1 0 (L.take (n + 1))).length ∧ E.getD i 0 ≠ 0) := by
  have hg : may 1 := by decide
  obtain ⟨n, n1, n2, n3, n4⟩ := all_dmg 1 hg L ⟨S, 1, [], 0⟩ [] E s rfl (by show 0 + _ ≤ _; omega) rfl hok hE hb
  obtain ⟨S', q1, q2, q3, q4, q5, q6⟩ := openP_gen hd hf hg
  simp only [List.nil_append, List.length_nil, Nat.zero_add] at n2 n3
  have hlog : logOf S 1 (S.now 1) = ⟨S, 1, L.take n, (logB 1 0 (L.take n)).length⟩ := by
    rw [all_logOf, hnow, n2]
  rw [hlog] at q1 q4
  refine ⟨n, S', n1, q1, q2, q3, ?_, q5, q6, n4⟩
  rw [q4, hnow]; exact n3
theorem no2 (L : List (List (List UInt8))) (hok : ∀ l ∈ L, okC l) : nextP 2 0 0 (logB 1 0 L) = none := by
  cases L with
  | nil => unfold nextP; rw [if_pos (by show 0 < _; omega)]
  | cons l L =>
    have hd3 := (hok l (by simp)).2.2
    have hg : may 1 := by decide
    have hk : may ((0 : Nat) : Int) := by decide
    have hc := crc_lt (dataB l)
    have hml : (markD 1 ((0 : Nat) : Int) (dataB l)).length = 512 := markB_length hg.i64 hk.i64 ⟨by omega, by omega⟩ ⟨by omega, by omega⟩
    unfold nextP
    split
    · rfl
    dsimp only
    rw [List.drop_zero, logB_cons]
    have t1 : (comB 1 0 l ++ logB 1 (0 + 1) L).take 512 = markD 1 ((0 : Nat) : Int) (dataB l) := by
      unfold comB
      rw [List.append_assoc, ← hml, List.take_left]
    rw [t1, if_neg]
    rintro ⟨w1, -⟩
    obtain ⟨-, -, -, -, -, -, w7⟩ := mkd_ok w1
    obtain ⟨t, ht⟩ := markB_form 1 ((0 : Nat) : Int) ((dataB l).length : Nat) (crc (dataB l) : Nat)
    have ht : markD 1 ((0 : Nat) : Int) (dataB l) = form 1 ++ t := ht
    obtain ⟨t2, ht2⟩ := markB_form 2 ((0 : Nat) : Int) (mkd 2 ((0 : Nat) : Int) (markD 1 ((0 : Nat) : Int) (dataB l))).1 (mkd 2 ((0 : Nat) : Int) (markD 1 ((0 : Nat) : Int) (dataB l))).2.1
    rw [ht2] at w7
    rw [ht] at w7
    have h1 := pI_form 1 (by omega) (by omega) t
    have h2 := pI_form 2 (by omega) (by omega) t2
    rw [w7, h2] at h1
    have := congrArg Prod.fst h1
    exact absurd this (by decide)
theorem open2 {S : Dk.DS} {L : List (List (List UInt8))} (hd : S.down = false) (hf : S.fuse = 0) (hok : ∀ l ∈ L, okC l) (hnow : S.now 1 = logB 1 0 L) : ∃ S', openP S 2 = (0, ⟨S', 2, [], 0⟩) := by
  obtain ⟨S', q1, -⟩ := openP_gen hd hf (show may 2 by decide)
  have hlog : logOf S 2 (S.now 1) = ⟨S, 2, [], 0⟩ := by
    rw [all_logOf, hnow]
    refine all_none ?_
    show Option.map _ (nextP 2 0 0 (logB 1 0 L)) = none
    rw [no2 L hok]; rfl
  rw [hlog] at q1
  exact ⟨S', q1⟩
/-- All the bytes are written anew. -/
theorem write_all {S : Dk.DS} {b : List UInt8} (hd : S.down = false) (hf : S.fuse = 0) (hb : 0 < b.length) (hb2 : b.length ≤ 4194304) (hl : (S.now 1).length ≤ b.length) :
    ∃ S', S.write 1 0 b = (0, S') ∧ S'.fuse = 0 ∧ S'.down = false ∧ S'.now 1 = b ∧ S'.ps.length ≤ S.ps.length + b.length ∧ S'.calls ≤ S.calls + 1 := by
  have hw : Dk.writeE 0 b = 0 := by
    unfold Dk.writeE
    rw [if_neg (by omega), if_neg (by omega)]
  have he : S.write 1 0 b = (0, { S with ps := S.ps ++ Dk.chunks 1 b.length 0 b, calls := S.calls + 1 }) := by
    unfold Dk.DS.write
    rw [if_neg (fun z => z (may1 hd)), if_neg (fun z => z hw)]
    unfold Dk.DS.ends
    rw [if_pos (show (S.writes _ _ b).fuse = 0 from hf)]; rfl
  refine ⟨_, he, hf, hd, ?_, ?_, Int.le_refl _⟩
  · show Dk.nowP 1 (S.sure 1) (S.ps ++ Dk.chunks 1 b.length 0 b) = b
    rw [now_app, now_chunks 1 b.length 0 b _ (Nat.le_refl _) hb]
    have hl' : (Dk.nowP 1 (S.sure 1) S.ps).length ≤ b.length := hl
    unfold over pad
    rw [List.take_zero, List.nil_append, Nat.zero_add, List.drop_of_length_le hl', List.append_nil]
  · have := write_b S 1 0 b
    rw [he] at this
    exact this.1
end Go.Proofs.YtfbddbpbifnhfaaDoor

/- What WalDamage keeps: a log, the commits made, and where each ends. -/
namespace Go.Proofs.YtfbddbpbifnhfaaDoor
open Go.Abs Cd

def intV (l : List Nat) : List Value := l.map fun e => .int .i64 (e : Nat)
structure Dm (n0 : Nat) (h0 : AH) (lg d : Nat) (T : Nat → Prop) (X : LS) (aa ae : Option Addr) (N : List CmA) (es : List Nat) (n : Nat) (h : AH) : Prop where
  hn : n0 ≤ n
  E : Ext n0 h0 h
  R : Lg h n lg d T X
  Tn : ∀ b, T b → n0 ≤ b
  allO : OwnSl h n0 n aa 1 N.length (lgC N)
  endO : OwnSl h n0 n ae 1 es.length (intV es)
  aT : aa ≠ none → ¬ T (sb aa)
  eT : ae ≠ none → ¬ T (sb ae)
  sep : aa = none ∨ ae = none ∨ sb aa ≠ sb ae
  cm : ∀ x ∈ N, CmR h n (fun b => b < n ∧ ¬ T b ∧ ¬ inA aa b ∧ ¬ inA ae b) x.1 x.2
section
variable {n0 n n1 lg d : Nat} {h0 h h1 : AH} {T : Nat → Prop} {X X' : LS} {aa ae a' : Option Addr} {N : List CmA} {es : List Nat}
theorem Dm.ext (D : Dm n0 h0 lg d T X aa ae N es n h) (E : Ext n h h1) (hn : n ≤ n1) : Dm n0 h0 lg d T X aa ae N es n1 h1 := by
  have := D.hn
  refine ⟨by omega, D.E.trans D.hn E, D.R.ext E hn, D.Tn, D.allO.ext E hn, D.endO.ext E hn, D.aT, D.eT, D.sep, fun x hx => ?_⟩
  exact ((D.cm x hx).extW (ExtW.of E (Nat.le_refl _) : ExtW (fun _ => False) n h h1) hn (fun _ _ q => q)).mono (fun b q => ⟨by omega, q.2⟩)
theorem Dm.relog {T' : Nat → Prop} {lg' : Nat} (D : Dm n0 h0 lg d T X aa ae N es n h) (R' : Lg h1 n1 lg' d T' X') (hT' : ∀ b, b < n → T' b → T b) (e : ExtW T n h h1) (hn : n ≤ n1) : Dm n0 h0 lg' d T' X' aa ae N es n1 h1 := by
  have h0n := D.hn
  have own : ∀ {a : Option Addr} {k : Nat} {cs : List Value}, OwnSl h n0 n a 1 k cs → (a ≠ none → ¬ T (sb a)) → OwnSl h1 n0 n1 a 1 k cs := fun o ht => (o.extW e (Nat.le_refl _) (Nat.le_refl _) ht).ext (Ext.refl _ _) hn
  refine ⟨by omega, D.E.viaW e D.hn D.Tn, R', fun b hb => ?_, own D.allO D.aT, own D.endO D.eT, fun q w => ?_, fun q w => ?_, D.sep, fun x hx => ?_⟩
  · by_cases w : b < n
    · exact D.Tn b (hT' b w hb)
    · omega
  · have := (D.allO.at'.resolve_left q).2
    exact D.aT q (hT' _ this w)
  · have := (D.endO.at'.resolve_left q).2
    exact D.eT q (hT' _ this w)
  · exact ((D.cm x hx).extW e hn (fun b q => q.2.1)).mono (fun b q => ⟨by omega, fun w => q.2.1 (hT' b q.1 w), q.2.2⟩)
theorem Dm.log (D : Dm n0 h0 lg d T X aa ae N es n h) (q : LgTo n lg d T h X' n1 h1) (hn : n ≤ n1) : ∃ T', Dm n0 h0 lg d T' X' aa ae N es n1 h1 := by
  obtain ⟨T', R', hT', e⟩ := q
  exact ⟨T', D.relog R' hT' e hn⟩
theorem Dm.pushA {c : Option Addr} {ls : List (List UInt8)} (D : Dm n0 h0 lg d T X aa ae N es n h) (C : CmR h n (fun b => b < n ∧ ¬ T b ∧ ¬ inA aa b ∧ ¬ inA ae b) c ls) (E : ExtX n aa h h1) (hn : n ≤ n1)
    (O : OwnSl h1 n0 n1 a' 1 (N.length + 1) (lgC N ++ [.slice c ls.length ls.length])) (w : a' = aa ∨ n ≤ sb a') : Dm n0 h0 lg d T X a' ae (N ++ [(c, ls)]) es n1 h1 := by
  have h0n := D.hn
  have hlt := D.R.lt
  have e := extX_extW E
  have hin : ∀ b, b < n → inA a' b → inA aa b := fun b hb q => by
    rcases w with w | w
    · rw [w] at q; exact q
    · have := q.2; omega
  have hcm : ∀ {x1 : Option Addr} {x2 : List (List UInt8)}, CmR h n (fun b => b < n ∧ ¬ T b ∧ ¬ inA aa b ∧ ¬ inA ae b) x1 x2 → CmR h1 n1 (fun b => b < n1 ∧ ¬ T b ∧ ¬ inA a' b ∧ ¬ inA ae b) x1 x2 := fun C =>
    (C.extW e hn (fun b q => q.2.2.1)).mono (fun b q => ⟨by omega, q.2.1, fun z => q.2.2.1 (hin b q.1 z), q.2.2.2⟩)
  refine ⟨by omega, D.E.viaW e D.hn (fun b q => by have := D.allO.at'.resolve_left q.1; have := q.2; omega), D.R.extW e hn (fun b hb q => by rw [q.2] at hb; exact D.aT q.1 hb), D.Tn, ?_, ?_, fun q z => ?_, D.eT, ?_, fun x hx => ?_⟩
  · rw [List.length_append, show lgC (N ++ [(c, ls)]) = lgC N ++ [.slice c ls.length ls.length] by simp [lgC]]; exact O
  · refine (D.endO.extW e (Nat.le_refl _) (Nat.le_refl _) (fun q z => ?_)).ext (Ext.refl _ _) hn
    rcases D.sep with s | s | s
    · exact z.1 s
    · exact q s
    · exact s z.2.symm
  · have hz := hlt _ z
    have := hin _ hz ⟨q, rfl⟩
    rw [this.2] at z
    exact D.aT this.1 z
  · by_cases q : ae = none
    · exact .inr (.inl q)
    have := (D.endO.at'.resolve_left q).2
    rcases w with w | w
    · rw [w]; exact D.sep
    · exact .inr (.inr (by omega))
  · rcases List.mem_append.1 hx with q | q
    · exact hcm (D.cm x q)
    · rw [List.mem_singleton.1 q]; exact hcm C
theorem Dm.pushE {k : Nat} (D : Dm n0 h0 lg d T X aa ae N es n h) (E : ExtX n ae h h1) (hn : n ≤ n1) (O : OwnSl h1 n0 n1 a' 1 (es.length + 1) (intV es ++ [.int .i64 (k : Nat)])) (w : a' = ae ∨ n ≤ sb a') : Dm n0 h0 lg d T X aa a' N (es ++ [k]) n1 h1 := by
  have h0n := D.hn
  have hlt := D.R.lt
  have e := extX_extW E
  have hin : ∀ b, b < n → inA a' b → inA ae b := fun b hb q => by
    rcases w with w | w
    · rw [w] at q; exact q
    · have := q.2; omega
  refine ⟨by omega, D.E.viaW e D.hn (fun b q => by have := D.endO.at'.resolve_left q.1; have := q.2; omega), D.R.extW e hn (fun b hb q => by rw [q.2] at hb; exact D.eT q.1 hb), D.Tn, ?_, ?_, D.aT, fun q z => ?_, ?_, fun x hx => ?_⟩
  · refine (D.allO.extW e (Nat.le_refl _) (Nat.le_refl _) (fun q z => ?_)).ext (Ext.refl _ _) hn
    rcases D.sep with s | s | s
    · exact q s
    · exact z.1 s
    · exact s z.2
  · rw [List.length_append, show intV (es ++ [k]) = intV es ++ [.int .i64 (k : Nat)] by simp [intV]]; exact O
  · have hz := hlt _ z
    have := hin _ hz ⟨q, rfl⟩
    rw [this.2] at z
    exact D.eT this.1 z
  · by_cases q : aa = none
    · exact .inl q
    have := (D.allO.at'.resolve_left q).2
    rcases w with w | w
    · rw [w]; exact D.sep
    · exact .inr (.inr (by omega))
  · exact ((D.cm x hx).extW e hn (fun b q => q.2.2.2)).mono (fun b q => ⟨by omega, q.2.1, q.2.2.1, fun z => q.2.2.2 (hin b q.1 z)⟩)
end
theorem RecO.cmr {x : OpE} {m m0 ns n : Nat} {h h0 : AH} {c a0 : Option Addr} (ok : x.Ok h0 m0 m) (R : RecO x ns n h c a0) : CmR h n (fun b => b < n ∧ (ns ≤ b ∨ b < m0)) c (recsOf x) := by
  refine ⟨_, R.slq, fun q => ⟨(R.out.at'.resolve_left q).2, .inl (R.out.at'.resolve_left q).1⟩, fun j hj q => ?_⟩
  have hl : (recsOf x).length = (recsE x a0).length := by rw [← recsE_snd x a0, List.length_map]
  have hj' : j < (recsE x a0).length := by omega
  have hg : (recsE x a0).getD j (none, []) = (recsE x a0)[j] := by simp [List.getD, hj']
  rw [hg] at q ⊢
  have hy := List.getElem_mem hj'
  have hS := R.row _ hy
  have hlt : sb (recsE x a0)[j].1 < n := by
    rcases hS.shape with ⟨k, -⟩ | ⟨-, k, -⟩
    · exact absurd k q
    · exact k
  refine ⟨hlt, ?_⟩
  by_cases z : (recsE x a0)[j].1 = a0
  · left; rw [z] at q ⊢; exact R.new q
  · right
    have hyl : (recsE x a0)[j] ∈ x.rl := by
      generalize (recsE x a0)[j] = y at hy z
      unfold recsE at hy
      cases hx : x.rl with
      | nil => rw [hx] at hy; cases hy
      | cons r rs =>
        rw [hx] at hy
        rcases List.mem_cons.1 hy with w | w
        · rw [w] at z; exact absurd rfl z
        · exact List.mem_cons_of_mem _ w
    rcases (ok.recs.row _ hyl).1.shape with ⟨k, -⟩ | ⟨-, k, -⟩
    · exact absurd k q
    · exact k
theorem recsOf_row {x : OpE} {h0 : AH} {m m0 : Nat} (ok : x.Ok h0 m0 m) : (recsOf x).length ≤ m ∧ ∀ l ∈ recsOf x, l.length ≤ m + 3000 := by
  have h1 := ok.recs.le
  refine ⟨by rw [← recsE_snd x none, List.length_map, recsE_len]; exact h1, fun l hl => ?_⟩
  obtain ⟨y, hy, rfl⟩ := List.mem_map.1 hl
  unfold recsE at hy
  cases hx : x.rl with
  | nil => rw [hx] at hy; cases hy
  | cons r rs =>
    rw [hx] at hy
    rcases List.mem_cons.1 hy with w | w
    · rw [w]
      have := (ok.recs.row r (by rw [hx]; simp)).2
      have := Nat.mod_lt x.many (show 0 < 3000 by omega)
      dsimp only
      rw [List.length_append, zeros_length]; omega
    · have := (ok.recs.row y (by rw [hx]; simp [w])).2
      omega
end Go.Proofs.YtfbddbpbifnhfaaDoor
