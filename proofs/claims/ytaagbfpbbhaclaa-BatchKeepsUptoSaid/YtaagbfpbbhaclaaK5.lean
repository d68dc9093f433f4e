/- Contracts of batches: batches that are the same. -/
import Derived.Test.YtaagbfpbbhaclaaK2
set_option linter.unusedSimpArgs false
set_option linter.unusedVariables false
namespace Go.Proofs.Ytaagbfpbbhaclaa
open Go.Abs

theorem bat_eq {a b : Bat} : a = b ↔ a.types = b.types ∧ a.num = b.num ∧ a.cols = b.cols ∧ a.sel = b.sel := by
  obtain ⟨t, n, c, s⟩ := a
  obtain ⟨t', n', c', s'⟩ := b
  constructor
  · intro h; cases h; exact ⟨rfl, rfl, rfl, rfl⟩
  · rintro ⟨h1, h2, h3, h4⟩
    dsimp only at h1 h2 h3 h4
    subst h1; subst h2; subst h3; subst h4; rfl
instance : DecidableEq Bat := fun a b => decidable_of_iff _ bat_eq.symm
set_option maxHeartbeats 4000000 in
theorem refSame13_ev (ta ca sa : Option Addr) (ts : List Ty) (N : Int) (cs : List RowE) (sel : List Int) (tb cb sb' : Option Addr) (us : List Ty) (M : Int) (ds : List RowE) (tel : List Int) (n : Nat) (h : AH) (BT : SlTy h n ta ts) (BC : RowsR h n ca cs) (BS : SlN h n sa sel)
    (DT : SlTy h n tb us) (DC : RowsR h n cb ds) (DS : SlN h n sb' tel) (hr : ∀ e ∈ cs, e.2.length ≤ 1099511627776) (hs : sel.length ≤ 1099511627776) (htl : ts.length ≤ 1099511627776) (hcl : cs.length ≤ 1099511627776) :
    Ev Try.prog none' 18 #[batV ta ts N ca cs sa sel, batV tb us M cb ds sb' tel] n h (.bool (decide ((⟨ts, N, cs.map Prod.snd, sel⟩ : Bat) = ⟨us, M, ds.map Prod.snd, tel⟩))) n h := by
  refine RF.pure rfl fun n' hn => ?_
  refine RF.of Try.func18 rfl rfl (Nat.le_of_ble_eq_true rfl) ?_; dsimp only [argEnv]
  have E0 : Ext n' h ((h.app (.new n' ⟨4, 0, true, 0⟩ [.slice ta ts.length ts.length, .int .i64 N, .slice ca cs.length cs.length, .slice sa sel.length sel.length])).app (.new (n' + 1) ⟨4, 0, true, 0⟩ [.slice tb us.length us.length, .int .i64 M, .slice cb ds.length ds.length, .slice sb' tel.length tel.length])) := ext
  have E0 : Ext n h _ := Ext.trans hn (Ext.refl _ _) E0
  have hle : n ≤ n' + 1 + 1 := by omega
  have BT := SlR.ext BT E0 hle
  have DT := SlR.ext DT E0 hle
  have BC := BC.ext E0 hle
  have DC := DC.ext E0 hle
  have BS := SlR.ext BS E0 hle
  have DS := SlR.ext DS E0 hle
  have k0 : ((h.app (.new n' ⟨4, 0, true, 0⟩ [.slice ta ts.length ts.length, .int .i64 N, .slice ca cs.length cs.length, .slice sa sel.length sel.length])).app (.new (n' + 1) ⟨4, 0, true, 0⟩ [.slice tb us.length us.length, .int .i64 M, .slice cb ds.length ds.length, .slice sb' tel.length tel.length])).cell n' 0 = .slice ta ts.length ts.length := cell
  have k1 : ((h.app (.new n' ⟨4, 0, true, 0⟩ [.slice ta ts.length ts.length, .int .i64 N, .slice ca cs.length cs.length, .slice sa sel.length sel.length])).app (.new (n' + 1) ⟨4, 0, true, 0⟩ [.slice tb us.length us.length, .int .i64 M, .slice cb ds.length ds.length, .slice sb' tel.length tel.length])).cell n' 1 = .int .i64 N := cell
  have k2 : ((h.app (.new n' ⟨4, 0, true, 0⟩ [.slice ta ts.length ts.length, .int .i64 N, .slice ca cs.length cs.length, .slice sa sel.length sel.length])).app (.new (n' + 1) ⟨4, 0, true, 0⟩ [.slice tb us.length us.length, .int .i64 M, .slice cb ds.length ds.length, .slice sb' tel.length tel.length])).cell n' 2 = .slice ca cs.length cs.length := cell
  have k3 : ((h.app (.new n' ⟨4, 0, true, 0⟩ [.slice ta ts.length ts.length, .int .i64 N, .slice ca cs.length cs.length, .slice sa sel.length sel.length])).app (.new (n' + 1) ⟨4, 0, true, 0⟩ [.slice tb us.length us.length, .int .i64 M, .slice cb ds.length ds.length, .slice sb' tel.length tel.length])).cell n' 3 = .slice sa sel.length sel.length := cell
  have m0 : ((h.app (.new n' ⟨4, 0, true, 0⟩ [.slice ta ts.length ts.length, .int .i64 N, .slice ca cs.length cs.length, .slice sa sel.length sel.length])).app (.new (n' + 1) ⟨4, 0, true, 0⟩ [.slice tb us.length us.length, .int .i64 M, .slice cb ds.length ds.length, .slice sb' tel.length tel.length])).cell (n' + 1) 0 = .slice tb us.length us.length := cell
  have m1 : ((h.app (.new n' ⟨4, 0, true, 0⟩ [.slice ta ts.length ts.length, .int .i64 N, .slice ca cs.length cs.length, .slice sa sel.length sel.length])).app (.new (n' + 1) ⟨4, 0, true, 0⟩ [.slice tb us.length us.length, .int .i64 M, .slice cb ds.length ds.length, .slice sb' tel.length tel.length])).cell (n' + 1) 1 = .int .i64 M := cell
  have m2 : ((h.app (.new n' ⟨4, 0, true, 0⟩ [.slice ta ts.length ts.length, .int .i64 N, .slice ca cs.length cs.length, .slice sa sel.length sel.length])).app (.new (n' + 1) ⟨4, 0, true, 0⟩ [.slice tb us.length us.length, .int .i64 M, .slice cb ds.length ds.length, .slice sb' tel.length tel.length])).cell (n' + 1) 2 = .slice cb ds.length ds.length := cell
  have m3 : ((h.app (.new n' ⟨4, 0, true, 0⟩ [.slice ta ts.length ts.length, .int .i64 N, .slice ca cs.length cs.length, .slice sa sel.length sel.length])).app (.new (n' + 1) ⟨4, 0, true, 0⟩ [.slice tb us.length us.length, .int .i64 M, .slice cb ds.length ds.length, .slice sb' tel.length tel.length])).cell (n' + 1) 3 = .slice sb' tel.length tel.length := cell
  have hsr := refSameRows_ev cs ds ca cb (n' + 1 + 1) _ BC DC hcl hr
  have neq : (¬ ts = us ∨ ¬ N = M ∨ ¬ cs.map Prod.snd = ds.map Prod.snd ∨ ¬ sel = tel) → decide ((⟨ts, N, cs.map Prod.snd, sel⟩ : Bat) = ⟨us, M, ds.map Prod.snd, tel⟩) = false := by
    intro q
    rw [decide_eq_false]
    intro e
    obtain ⟨e1, e2, e3, e4⟩ := bat_eq.1 e
    rcases q with q | q | q | q
    · exact q e1
    · exact q e2
    · exact q e3
    · exact q e4
  by_cases q1 : ts.length = us.length
  case neg =>
    repeat' (first | refine stpS ?_ | (refine stp2 ?_ ?_ <;> intro _))
    rw [neq (.inl fun e => q1 (congrArg List.length e))]
  by_cases q2 : N = M
  case neg =>
    repeat' (first | refine stpS ?_ | (refine stp2 ?_ ?_ <;> intro _))
    rw [neq (.inr (.inl q2))]
  by_cases q3 : sel.length = tel.length
  case neg =>
    repeat' (first | refine stpS ?_ | (refine stp2 ?_ ?_ <;> intro _))
    rw [neq (.inr (.inr (.inr fun e => q3 (congrArg List.length e))))]
  by_cases q4 : cs.map Prod.snd = ds.map Prod.snd
  case neg =>
    rw [decide_eq_false q4] at hsr
    repeat' (first | refine stpS ?_ | (refine stp2 ?_ ?_ <;> intro _) | refine RS.call1 rfl opds (hsr) none'W ?_)
    rw [neq (.inr (.inr (.inl q4)))]
  rw [decide_eq_true q4] at hsr
  repeat' (first | refine stpS ?_ | (refine stp2 ?_ ?_ <;> intro _) | refine RS.call1 rfl opds (hsr) none'W ?_)
  generalize (h.app (.new n' ⟨4, 0, true, 0⟩ [.slice ta ts.length ts.length, .int .i64 N, .slice ca cs.length cs.length, .slice sa sel.length sel.length])).app (.new (n' + 1) ⟨4, 0, true, 0⟩ [.slice tb us.length us.length, .int .i64 M, .slice cb ds.length ds.length, .slice sb' tel.length tel.length]) = g at *
  refine RC.loop ?_
  refine RL.inv (α := Nat) (fun y => [(5, .int .i64 (y : Nat)), (2, .pointer (some ⟨n', 0, none⟩)), (3, .pointer (some ⟨n' + 1, 0, none⟩))])
    (fun y n1 h1 => y ≤ ts.length ∧ n' + 1 + 1 ≤ n1 ∧ h1 = g ∧ ts.take y = us.take y) (fun y => ts.length - y) 0 envs ⟨by omega, Nat.le_refl _, rfl, by simp⟩ ?_
  rintro i n1 h1 ⟨hi, hn1, rfl, hno⟩
  have hnn : n' + 1 < n1 := by omega
  by_cases hlt : i < ts.length
  · obtain ⟨t, ht⟩ : ∃ t, ts[i]? = some t := ⟨_, List.getElem?_eq_getElem hlt⟩
    obtain ⟨u, hu⟩ : ∃ u, us[i]? = some u := ⟨_, List.getElem?_eq_getElem (by omega)⟩
    obtain ⟨hA, hsn, d0, d1⟩ := SlTy.at_ BT ht
    obtain ⟨hB, hsn2, f0, f1⟩ := SlTy.at_ DT hu
    have htk : ts.take (i + 1) = ts.take i ++ [t] := by rw [List.take_add_one, ht]; rfl
    have htk2 : us.take (i + 1) = us.take i ++ [u] := by rw [List.take_add_one, hu]; rfl
    have hq1 : sb ta < n1 := by omega
    have hq2 : sb tb < n1 := by omega
    obtain ⟨k, s⟩ := t
    obtain ⟨k', s'⟩ := u
    dsimp only at d0 d1 f0 f1
    by_cases e : k = k' ∧ s = s'
    · repeat' (first | refine stpS ?_ | (refine stp2 ?_ ?_ <;> intro _))
      repeat' (first | refine stp ?_ | (refine stp2 ?_ ?_ <;> intro _))
      refine RD.put rfl rfl (o_neTy (r := false) opd opd (by simp [e])) ?_
      repeat' (first | refine stp ?_ | (refine stp2 ?_ ?_ <;> intro _))
      refine nextC.normal ⟨i + 1, by omega, envs, by omega, hn1, rfl, ?_⟩
      rw [htk, htk2, hno, e.1, e.2]
    · repeat' (first | refine stpS ?_ | (refine stp2 ?_ ?_ <;> intro _))
      repeat' (first | refine stp ?_ | (refine stp2 ?_ ?_ <;> intro _))
      refine RD.put rfl rfl (o_neTy (r := true) opd opd (by simp [e])) ?_
      repeat' (first | refine stp ?_ | (refine stp2 ?_ ?_ <;> intro _))
      rw [neq (.inl fun w => e (by subst w; rw [ht] at hu; cases hu; exact ⟨rfl, rfl⟩))]
  · have hie : i = ts.length := by omega
    subst hie
    rw [List.take_length, q1, List.take_length] at hno
    repeat' (first | refine stpS ?_ | (refine stp2 ?_ ?_ <;> intro _))
    refine RC.loop ?_
    refine RL.inv (α := Nat) (fun y => [(6, .int .i64 (y : Nat)), (2, .pointer (some ⟨n', 0, none⟩)), (3, .pointer (some ⟨n' + 1, 0, none⟩))])
      (fun y n2 h2 => y ≤ sel.length ∧ n' + 1 + 1 ≤ n2 ∧ h2 = h1 ∧ sel.take y = tel.take y) (fun y => sel.length - y) 0 envs ⟨by omega, by omega, rfl, by simp⟩ ?_
    rintro i n2 h2 ⟨hi, hn2, rfl, hno2⟩
    have hnn2 : n' + 1 < n2 := by omega
    by_cases hlt : i < sel.length
    · obtain ⟨t, ht⟩ : ∃ t, sel[i]? = some t := ⟨_, List.getElem?_eq_getElem hlt⟩
      obtain ⟨u, hu⟩ : ∃ u, tel[i]? = some u := ⟨_, List.getElem?_eq_getElem (by omega)⟩
      have hA : SlA sa sel.length := SlR.sla BS
      have hB : SlA sb' tel.length := SlR.sla DS
      have hsn : sb sa < n2 := Nat.lt_of_lt_of_le (SlR.lt BS (by omega)) (by omega)
      have hsn2 : sb sb' < n2 := Nat.lt_of_lt_of_le (SlR.lt DS (by omega)) (by omega)
      have d0 : h2.cell (sb sa) (so sa + i) = .int .i64 t := (SlR.cell BS i (by omega)).trans (by simp [List.getD, ht])
      have f0 : h2.cell (sb sb') (so sb' + i) = .int .i64 u := (SlR.cell DS i (by omega)).trans (by simp [List.getD, hu])
      have htk : sel.take (i + 1) = sel.take i ++ [t] := by rw [List.take_add_one, ht]; rfl
      have htk2 : tel.take (i + 1) = tel.take i ++ [u] := by rw [List.take_add_one, hu]; rfl
      by_cases e : t = u
      · repeat' (first | refine stpS ?_ | (refine stp2 ?_ ?_ <;> intro _))
        repeat' (first | refine stp ?_ | (refine stp2 ?_ ?_ <;> intro _))
        refine nextC.normal ⟨i + 1, by omega, envs, by omega, hn2, rfl, ?_⟩
        rw [htk, htk2, hno2, e]
      · repeat' (first | refine stpS ?_ | (refine stp2 ?_ ?_ <;> intro _))
        repeat' (first | refine stp ?_ | (refine stp2 ?_ ?_ <;> intro _))
        rw [neq (.inr (.inr (.inr fun w => e (by subst w; rw [ht] at hu; cases hu; rfl))))]
    · have hie : i = sel.length := by omega
      subst hie
      rw [List.take_length, q3, List.take_length] at hno2
      repeat' (first | refine stpS ?_ | (refine stp2 ?_ ?_ <;> intro _))
      rw [decide_eq_true (bat_eq.2 ⟨hno, q2, q4, hno2⟩)]
end Go.Proofs.Ytaagbfpbbhaclaa
