/- The document's disk: sync. -/
import Derived.Test.YtchfnjfmlhacfaaYe
import Derived.Test.YtchfnjfmlhacfaaM
namespace Go.Proofs.Ytchfnjfmlhacfaa
open Go.Abs

section
variable {h h1 h2 : AH} {n n1 n2 r : Nat} {sa : Nat → Option Addr} {ol ka : Option Addr} {pa : List (Option Addr)} {F G F1 G1 : Nat → Prop} {S S1 : DS}
def kpP (f : Nat) (x : PA) : Bool := !decide (x.1.file = f)
theorem rpsC_zip (L : List PA) : rpsC (L.map Prod.fst) (L.map Prod.snd) = (L.map fun x => rpC x.1 x.2).flatten := by
  induction L with
  | nil => rfl
  | cons x L ih => simp [rpsC, ih]
set_option maxHeartbeats 4000000 in
theorem rsync_rk (D : Rk h n r F G S) (hps : S.ps.length ≤ 1099511627776) (hcl : S.calls < 4611686018427387904) (f : Int) :
    RF Try.prog F 44 #[.pointer (some ⟨r, 0, none⟩), .int .i64 f] n h (fun v n' h' => v = .int .i64 (S.sync f).1 ∧ RkTo n r F G h (S.sync f).2 n' h') := by
  refine RF.of Try.func44 rfl rfl (Nat.le_of_ble_eq_true rfl) ?_; dsimp only [argEnv]
  have hlt := D.lt
  by_cases hm : S.may f = 0
  · obtain ⟨i, hi, rfl, hd⟩ := may_zero hm
    have hme := rmay_rk D (i : Int)
    rw [hm] at hme
    have hem := ends_meets D.ok.fuse.1
    repeat' (first | refine stpS ?_ | (refine stp2 ?_ ?_ <;> intro _) | refine RS.call1 rfl opds (hme) none'W ?_)
    refine RS.call rfl opds (rmeets_rk D hcl) (fun b hb => .inl hb) ?_
    rintro v n1 h1 hle ⟨rfl, rfl, D2, e2⟩
    have hmk : S.meets.2.keep = S.keep := by unfold DS.meets; split <;> rfl
    have hmp : S.meets.2.ps = S.ps := by unfold DS.meets; split <;> rfl
    have hok := D2.ok
    have hlt2 := D2.lt
    generalize S.meets = M at *
    obtain ⟨hit, S2⟩ := M
    dsimp only at D2 hmk hmp hok hem ⊢
    have hpl : S2.ps.length = S.ps.length := by rw [hmp]
    cases hit
    · have he : S.sync (i : Int) = (0, S2.synced i) := by
        rw [DS.sync, if_neg (by rw [hm]; simp), hem]; simp
      rw [he]
      obtain ⟨-, sa, ol, ka, pa, rfl, rfl, R⟩ := id D2
      have hinf := R.inf
      have hTr : RkF r ol r := .inl rfl
      repeat' (first | refine stpS ?_ | (refine stp2 ?_ ?_ <;> intro _))
      repeat' (first | refine stp ?_ | (refine stp2 ?_ ?_ <;> intro _))
      refine RD.call n1 rfl opds (rnow_rf (R.ext (AH.below_ext h1 n1) (Nat.le_refl _)) hok (by omega) hi) (Nat.le_refl _) cfc ?_
      rintro v n2 h2 hle2 ⟨a1, rfl, hE, hS1, hwh⟩
      have hE2 : Ext n1 h1 h2 := hE.via (Nat.le_refl _) (AH.below_ext h1 n1)
      have hX : ExtX n1 ol h1 h2 := fun x hx _ => ⟨hE2.info x hx, fun k => hE2.cell x k hx⟩
      obtain ⟨q1, q2, q3⟩ := R.rest hX hle2
      have hinf2 : h2.info r = some ⟨7, 0, true, 0⟩ := (hE2.info r hlt2).trans hinf
      have hol : ol = none ∨ sb ol < n1 := by
        by_cases q : ol = none
        · exact .inl q
        · exact .inr (R.ltF _ (.inr ⟨q, rfl⟩))
      repeat' (first | refine stp ?_ | (refine stp2 ?_ ?_ <;> intro _))
      have R3 : RfR (h2.app (.sets r i [.slice a1 (S2.now i).length (S2.now i).length])) n2 r (upd sa i a1) ol ka pa { S2 with sure := upd S2.sure i (S2.now i) } := by
        refine R.put hX hle2 ?_ (by omega) (fun j hj => ?_) (R.lo.ext hE2 hle2) q2 q3 R.len (.inl rfl) (fun x hx => ?_)
        · rcases (show i = 0 ∨ i = 1 by omega) with q | q <;> subst q <;> rfl
        · by_cases e : j = i
          · subst e; rw [upd_same]; show SlB _ _ _ (upd S2.sure j _ j); rw [upd_same]; exact hS1
          · rw [upd_ne _ _ e]; show SlB _ _ _ (upd S2.sure i _ j); rw [upd_ne _ _ e]; exact q1 j hj
        · rcases mem_upd hx with rfl | k
          · rcases hwh with k | k | k
            · exact .inl (by rw [k]; exact gmem_sa hi)
            · exact .inr (.inl k)
            · by_cases q : x = none
              · exact .inr (.inl q)
              · refine .inr (.inr ⟨hS1.ltA q, .inr (by omega), ?_⟩)
                rcases hol with q | q
                · exact .inl q
                · exact .inr (.inr (by omega))
          · exact .inl k
      have hg3 : ∀ x, x ∈ rfG (upd sa i a1) ka pa → x ∈ rfG sa ka pa ∨ x = none ∨ n1 ≤ sb x := fun x hx => by
        rcases mem_upd hx with rfl | k
        · rcases hwh with k | k | k
          · exact .inl (by rw [k]; exact gmem_sa hi)
          · exact .inr (.inl k)
          · exact .inr (.inr k)
        · exact .inl k
      have e3 : ExtW (RkF r ol) n1 h (h2.app (.sets r i [.slice a1 (S2.now i).length (S2.now i).length])) := ExtW.appSets (.inl (.inl rfl)) (e2.then hE2 (Nat.le_refl _))
      repeat' (first | refine stp ?_ | (refine stp2 ?_ ?_ <;> intro _))
      obtain ⟨z1, z2⟩ := zip_fst S2.ps pa R.len.symm
      have hLl : (S2.ps.zip pa).length = S2.ps.length := by rw [List.length_zip, R.len, Nat.min_self]
      have hrl := R.len
      generalize h2.app (.sets r i [.slice a1 (S2.now i).length (S2.now i).length]) = h3 at *
      generalize hS3 : ({ S2 with sure := upd S2.sure i (S2.now i) } : DS) = S3 at R3
      have hp3 : S3.ps = S2.ps := by rw [← hS3]
      clear q1 q2 q3 hX hE hE2 hS1 hwh hinf2
      repeat' (first | refine stpS ?_ | (refine stp2 ?_ ?_ <;> intro _))
      refine RC.loop ?_
      refine RL.inv (α := Nat × Option Addr) (fun s => [(7, .int .i64 (s.1 : Nat)), (6, .slice s.2 (((S2.ps.zip pa).take s.1).filter (kpP i)).length (((S2.ps.zip pa).take s.1).filter (kpP i)).length), (0, .pointer (some ⟨r, 0, none⟩)), (1, .int .i64 (i : Nat))])
        (fun s n4 h4 => s.1 ≤ S2.ps.length ∧ n2 ≤ n4 ∧ Ext n2 h3 h4 ∧ OwnSl h4 n2 n4 s.2 4 (((S2.ps.zip pa).take s.1).filter (kpP i)).length (rpsC ((((S2.ps.zip pa).take s.1).filter (kpP i)).map Prod.fst) ((((S2.ps.zip pa).take s.1).filter (kpP i)).map Prod.snd)))
        (fun s => S2.ps.length - s.1) (0, none) envs ⟨by omega, Nat.le_refl _, Ext.refl _ _, by simpa [rpsC] using OwnSl.nil (Nat.le_refl _)⟩ ?_
      rintro ⟨j, a⟩ n4 h4 ⟨hj, hn4, hE4, hO4⟩
      dsimp only at hj hO4 ⊢
      have R4 := R3.ext hE4 hn4
      have hlt4 := R4.lt
      have c2 : h4.cell r 2 = .slice ol S2.ps.length S2.ps.length := by rw [← hp3]; exact R4.cs 2 _ rfl
      have hfl : (((S2.ps.zip pa).take j).filter (kpP i)).length ≤ S2.ps.length := by
        have h1 := List.length_filter_le (kpP i) ((S2.ps.zip pa).take j)
        rw [List.length_take] at h1; omega
      by_cases hltj : j < S2.ps.length
      · obtain ⟨p, hp⟩ : ∃ p, S2.ps[j]? = some p := ⟨_, List.getElem?_eq_getElem hltj⟩
        obtain ⟨hA, hsn, d0, d1, d2, d3⟩ := R4.row (i := j) (p := p) (by rw [hp3]; exact hp)
        rw [hp3] at hA
        have hpa : pa[j]? = some (pa.getD j none) := by
          have : j < pa.length := by omega
          simp [List.getD, this]
        have hz : (S2.ps.zip pa)[j]? = some (p, pa.getD j none) := by
          rw [List.getElem?_zip_eq_some]; exact ⟨hp, hpa⟩
        have htk : (S2.ps.zip pa).take (j + 1) = (S2.ps.zip pa).take j ++ [(p, pa.getD j none)] := by rw [List.take_add_one, hz]; rfl
        have hff : ((S2.ps.zip pa).take (j + 1)).filter (kpP i) = if p.file = i then ((S2.ps.zip pa).take j).filter (kpP i) else ((S2.ps.zip pa).take j).filter (kpP i) ++ [(p, pa.getD j none)] := by
          rw [htk, List.filter_append]
          by_cases e : p.file = i <;> simp [kpP, e]
        by_cases e : p.file = i
        · rw [if_pos e] at hff
          repeat' (first | refine stpS ?_ | (refine stp2 ?_ ?_ <;> intro _))
          refine nextC.normal ⟨(j + 1, a), by dsimp only; omega, ?_, by dsimp only; omega, hn4, hE4, ?_⟩
          · dsimp only; rw [hff]; exact envs
          · dsimp only; rw [hff]; exact hO4
        · rw [if_neg e] at hff
          generalize (((S2.ps.zip pa).take j).filter (kpP i)) = M at *
          repeat' (first | refine stpS ?_ | (refine stp2 ?_ ?_ <;> intro _))
          have hnew : OwnSl (h4.app (.new n4 ⟨4, 0, true, 4⟩ (rpC p (pa.getD j none)))) n4 (n4 + 1) (some ⟨n4, 0, none⟩) 4 1 (rpC p (pa.getD j none)) := OwnSl.new (h := h4) (m := 1) (z := 4) (Nat.le_refl n4) rfl rfl
          refine RS.append rfl opd opd (hO4.ext (n1 := n4 + 1) (h1 := h4.app (.new n4 ⟨4, 0, true, 4⟩ (rpC p (pa.getD j none)))) ext (Nat.le_succ n4)) hnew.src full_slice (fun b hb => Or.inr (by omega)) (by omega) ?_
          intro a3 n5 h5 hle5 hO5 hX5 hwh
          have hE5 := hX5.ext (hO4.ext (n1 := n4 + 1) (h1 := h4.app (.new n4 ⟨4, 0, true, 4⟩ (rpC p (pa.getD j none)))) ext (Nat.le_succ n4))
          rw [← rpsC_snoc _ _ _ _ (by simp)] at hO5
          repeat' (first | refine stpS ?_ | (refine stp2 ?_ ?_ <;> intro _))
          refine nextC.normal ⟨(j + 1, a3), by dsimp only; omega, ?_, by dsimp only; omega, by omega, ext, ?_⟩
          · dsimp only; rw [hff, List.length_append]; exact envs
          · dsimp only; rw [hff, List.length_append, List.map_append, List.map_append]; exact hO5
      · have hje : j = S2.ps.length := by omega
        subst hje
        rw [show (S2.ps.zip pa).take S2.ps.length = S2.ps.zip pa by rw [← hLl, List.take_length]] at hO4 ⊢
        have hps' : ((S2.ps.zip pa).filter (kpP i)).map Prod.fst = S2.ps.filter fun p => !decide (p.file = i) := by
          have : (S2.ps.zip pa).filter (kpP i) = (S2.ps.zip pa).filter ((fun p : Pc => !decide (p.file = i)) ∘ Prod.fst) := rfl
          rw [this, ← List.filter_map, z1]
        have hml : (((S2.ps.zip pa).filter (kpP i)).map Prod.snd).length = (((S2.ps.zip pa).filter (kpP i)).map Prod.fst).length := by simp
        have hll : ((S2.ps.zip pa).filter (kpP i)).length = (((S2.ps.zip pa).filter (kpP i)).map Prod.fst).length := by simp
        have hsub : ∀ x ∈ ((S2.ps.zip pa).filter (kpP i)).map Prod.snd, x ∈ pa := fun x hx => by
          rw [← z2]
          obtain ⟨y, hy, rfl⟩ := List.mem_map.1 hx
          exact List.mem_map.2 ⟨y, (List.mem_filter.1 hy).1, rfl⟩
        have hX4 : ExtX n2 ol h3 h4 := fun x hx _ => ⟨hE4.info x hx, fun k => hE4.cell x k hx⟩
        obtain ⟨q1, q2, q3⟩ := R3.rest hX4 hn4
        have hat := hO4.at'
        have hinf4 := R4.inf
        have hg4 : ∀ x, x ∈ rfG (upd sa i a1) ka (((S2.ps.zip pa).filter (kpP i)).map Prod.snd) → x ∈ rfG (upd sa i a1) ka pa := fun x hx => by
          simp only [rfG, List.mem_cons] at hx ⊢
          rcases hx with k | k | k | k
          · exact .inl k
          · exact .inr (.inl k)
          · exact .inr (.inr (.inl k))
          · exact .inr (.inr (.inr (hsub x k)))
        rw [hll, hps'] at hO4 ⊢
        have R5 : RfR (h4.app (.sets r 2 [.slice a (S2.ps.filter fun p => !decide (p.file = i)).length (S2.ps.filter fun p => !decide (p.file = i)).length])) n4 r (upd sa i a1) a ka (((S2.ps.zip pa).filter (kpP i)).map Prod.snd) (S2.synced i) := by
          refine R3.put hX4 hn4 ?_ (by omega) (by rw [← hS3] at q1; exact q1) (hO4.mono (Nat.zero_le _)) (by rw [← hS3] at q2; exact q2) (fun k p hk => ?_) (by rw [hml, hps']; rfl) (.inr (hat.imp id (·.1))) (fun x hx => .inl (hg4 x hx))
          · rw [← hS3]; rfl
          · have hk : (S2.ps.filter fun p => !decide (p.file = i))[k]? = some p := hk
            rw [← hps', List.getElem?_map] at hk
            cases hq : ((S2.ps.zip pa).filter (kpP i))[k]? with
            | none => rw [hq] at hk; cases hk
            | some y =>
              rw [hq] at hk
              simp only [Option.map_some, Option.some.injEq] at hk
              have hy := (List.mem_filter.1 (List.mem_of_getElem? hq)).1
              obtain ⟨j, hj⟩ := List.mem_iff_getElem?.1 hy
              have h1 : S3.ps[j]? = some p := by rw [hp3, ← z1, List.getElem?_map, hj, ← hk]; rfl
              have h2 : (((S2.ps.zip pa).filter (kpP i)).map Prod.snd).getD k none = pa.getD j none := by
                rw [show pa.getD j none = ((S2.ps.zip pa).map Prod.snd).getD j none by rw [z2]]
                simp only [List.getD, List.getElem?_map, hj, hq, Option.map_some]
              rw [h2]; exact q3 j p h1
        repeat' (first | refine stpS ?_ | (refine stp2 ?_ ?_ <;> intro _))
        exact ⟨rfl, RkTo.mk (synced_ok hok) R5 (.inr (hat.imp id (by omega))) (fun x hx => (hg3 x (hg4 x hx))) (ExtW.appSets (.inl hTr) (e3.then hE4 (by omega)))⟩
    · have he : S.sync (i : Int) = (6, S2.lose S.keep) := by
        rw [DS.sync, if_neg (by rw [hm]; simp), hem]; simp
      rw [he, ← hmk]
      repeat' (first | refine stpS ?_ | (refine stp2 ?_ ?_ <;> intro _))
      refine RS.call rfl opds (rends_rk D2 (by omega) true) (fun b hb => .inl hb) ?_
      rintro v n2 h2 hle2 ⟨rfl, to⟩
      repeat' (first | refine stpS ?_ | (refine stp2 ?_ ?_ <;> intro _))
      exact ⟨rfl, RkTo.trans e2 (fun _ _ q => q) (fun _ _ q => q) (Nat.le_refl _) to⟩
  · have he : S.sync f = (S.may f, S) := by simp [DS.sync, hm]
    rw [he]
    repeat' (first | refine stpS ?_ | (refine stp2 ?_ ?_ <;> intro _) | refine RS.call1 rfl opds (rmay_rk D f) none'W ?_)
    exact ⟨rfl, D.to⟩
end
end Go.Proofs.Ytchfnjfmlhacfaa
