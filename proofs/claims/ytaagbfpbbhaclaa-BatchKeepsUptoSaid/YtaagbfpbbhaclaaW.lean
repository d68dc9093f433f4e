/- Contracts of batches: one more column. -/
import Derived.Test.YtaagbfpbbhaclaaV
import Derived.Test.YtaagbfpbbhaclaaK6s
set_option linter.unusedSimpArgs false
set_option linter.unusedVariables false
namespace Go.Proofs.Ytaagbfpbbhaclaa
open Go.Abs

/-- A column while it is filled: i values stand in it. -/
def colW (N : Nat) (t : Ty) (sel : List Int) (l : List Val) (i : Nat) : List Val := (List.range i).foldl (fun c j => c.set (sel.getD j 0).toNat (l.getD j dV)) (List.replicate N (noV t))
theorem colW_length (N : Nat) (t : Ty) (sel : List Int) (l : List Val) (i : Nat) : (colW N t sel l i).length = N := by
  unfold colW
  suffices ∀ (js : List Nat) (c : List Val), c.length = N → (js.foldl (fun c j => c.set (sel.getD j 0).toNat (l.getD j dV)) c).length = N from this _ _ (by simp)
  intro js
  induction js with
  | nil => exact fun c h => h
  | cons j js ih => exact fun c h => ih _ (by rw [List.length_set]; exact h)
theorem colW_succ (N : Nat) (t : Ty) (sel : List Int) (l : List Val) (i : Nat) : colW N t sel l (i + 1) = (colW N t sel l i).set (sel.getD i 0).toNat (l.getD i dV) := by
  unfold colW
  rw [List.range_succ, List.foldl_append]; rfl
def withB (b : Bat) (t : Ty) (l : List Val) : Bat := ⟨b.types ++ [t], b.num, b.cols ++ [colW b.num.toNat t b.sel l b.sel.length], b.sel⟩
theorem valsC_set (l : List Val) (i : Nat) (v : Val) (hi : i < l.length) : valsC (l.set i v) = Abs.splice (valsC l) (i * 5) (valC v) := by
  have h1 : l.set i v = l.take i ++ [v] ++ l.drop (i + 1) := by
    rw [List.set_eq_take_append_cons_drop, if_pos hi]; simp
  have h2 : l = l.take i ++ l.drop i := (List.take_append_drop i l).symm
  have h3 : (valsC (l.take i)).length = i * 5 := by rw [valsC_length, List.length_take]; congr 1; omega
  have h4 : l.drop i = l.getD i dV :: l.drop (i + 1) := by rw [List.drop_eq_getElem_cons hi]; simp [List.getD, hi]
  have h5 : valsC l = valsC (l.take i) ++ (valC (l.getD i dV) ++ valsC (l.drop (i + 1))) := by
    conv => lhs; rw [h2, valsC_app, h4]
    simp [valsC]
  rw [h1, valsC_app, valsC_app, Abs.splice, h5, ← h3, List.take_left]
  have h6 : (valC v).length = 5 := rfl
  have h7 : (valC (l.getD i dV)).length = 5 := rfl
  have e1 : (valsC (l.take i)).drop ((valsC (l.take i)).length + 5) = [] := List.drop_eq_nil_of_le (by omega)
  have e2 : (valC (l.getD i dV)).drop 5 = [] := List.drop_eq_nil_of_le (by omega)
  rw [h6, List.drop_append, e1, List.nil_append, Nat.add_sub_cancel_left, List.drop_append, e2, List.nil_append, h7]
  simp [valsC]
set_option maxHeartbeats 4000000 in
theorem with_rf (ta ca sa la : Option Addr) (ts : List Ty) (N : Int) (cs : List RowE) (sel : List Int) (t : Ty) (l : List Val) (n : Nat) (h : AH) (BT : SlTy h n ta ts) (BC : RowsR h n ca cs) (BS : SlN h n sa sel) (BL : SlV h n la l) (hr : ∀ e ∈ cs, e.2.length ≤ 1099511627776) (hs : sel.length ≤ 1099511627776) (htl : ts.length ≤ 1099511627776) (hcl : cs.length ≤ 1099511627776) (hll : l.length ≤ 1099511627776) :
    RF Try.prog none' 29 #[batV ta ts N ca cs sa sel, .agg #[.int .i64 t.kind, .int .i64 t.scale], .slice la l.length l.length] n h (fun r n' h' => Ext n h h' ∧
      ((∃ v, r = .tuple #[v, .int .i64 0] ∧ Bat.may ⟨ts, N, cs.map Prod.snd, sel⟩ ∧ l.length = sel.length ∧ (withB ⟨ts, N, cs.map Prod.snd, sel⟩ t l).may ∧ IsBat (withB ⟨ts, N, cs.map Prod.snd, sel⟩ t l) n v n' h') ∨
        (r = .tuple #[zeroV, .int .i64 130] ∧ ¬ (Bat.may ⟨ts, N, cs.map Prod.snd, sel⟩ ∧ (l.length = sel.length → (withB ⟨ts, N, cs.map Prod.snd, sel⟩ t l).may))) ∨
        (r = .tuple #[zeroV, .int .i64 1] ∧ Bat.may ⟨ts, N, cs.map Prod.snd, sel⟩ ∧ l.length ≠ sel.length))) := by
  obtain ⟨tk, tsc⟩ := t
  refine RF.of Try.func29 rfl rfl (Nat.le_of_ble_eq_true rfl) ?_; dsimp only [argEnv]
  repeat' (first | refine stpS ?_ | (refine stp2 ?_ ?_ <;> intro _))
  obtain ⟨g, hg⟩ : ∃ g, g = ((h.app (.new n ⟨4, 0, true, 0⟩ [.slice ta ts.length ts.length, .int .i64 N, .slice ca cs.length cs.length, .slice sa sel.length sel.length])).app (.new (n + 1) ⟨2, 0, true, 0⟩ [.int .i64 tk, .int .i64 tsc])).app (.new (n + 1 + 1) ⟨4, 0, true, 0⟩ [.slice none 0 0, .int .i64 0, .slice none 0 0, .slice none 0 0]) := ⟨_, rfl⟩
  refine RS.heap hg ?_
  have E0 : Ext n h g := by rw [hg]; exact ext
  have k0 : g.cell n 0 = .slice ta ts.length ts.length := by rw [hg]; exact cell
  have k1 : g.cell n 1 = .int .i64 N := by rw [hg]; exact cell
  have k2 : g.cell n 2 = .slice ca cs.length cs.length := by rw [hg]; exact cell
  have k3 : g.cell n 3 = .slice sa sel.length sel.length := by rw [hg]; exact cell
  have t0 : g.cell (n + 1) 0 = .int .i64 tk := by rw [hg]; exact cell
  have t1 : g.cell (n + 1) 1 = .int .i64 tsc := by rw [hg]; exact cell
  have kj : g.info (n + 1 + 1) = some ⟨4, 0, true, 0⟩ := by rw [hg]; exact info
  clear hg
  refine RS.call rfl opds (check_rf ta ca sa ts N cs sel _ _ (SlR.ext BT E0 (by omega)) (BC.ext E0 (by omega)) (SlR.ext BS E0 (by omega)) hr hs) none'W ?_
  rintro r n1 h1 hle1 ⟨E1, ⟨rfl, hmay⟩ | ⟨rfl, hmay⟩⟩
  rotate_left
  · have kj := (E1.info _ (by omega)).trans kj
    repeat' (first | refine stpS ?_ | (refine stp2 ?_ ?_ <;> intro _))
    exact ⟨(E0.trans (by omega) E1).appSets (by omega), .inr (.inl ⟨rfl, fun q => hmay (may_iff.2 q.1)⟩)⟩
  have hmay := may_iff.1 hmay
  have E1' : Ext n h h1 := E0.trans (by omega) E1
  have k0 := c_ext E1 (by omega) k0
  have k1 := c_ext E1 (by omega) k1
  have k2 := c_ext E1 (by omega) k2
  have k3 := c_ext E1 (by omega) k3
  have t0 := c_ext E1 (by omega) t0
  have t1 := c_ext E1 (by omega) t1
  have kj := (E1.info _ (by omega)).trans kj
  by_cases hlen : l.length = sel.length
  rotate_left
  · repeat' (first | refine stpS ?_ | (refine stp2 ?_ ?_ <;> intro _))
    exact ⟨E1'.appSets (by omega), .inr (.inr ⟨rfl, hmay, hlen⟩)⟩
  have hN0 : 0 ≤ N := hmay.2.2.1
  have hN1 : N ≤ 2048 := hmay.2.2.2.1
  have hsel : selP N sel := hmay.2.2.2.2.2
  obtain ⟨M, rfl⟩ : ∃ M : Nat, N = (M : Int) := ⟨N.toNat, by omega⟩
  repeat' (first | refine stpS ?_ | (refine stp2 ?_ ?_ <;> intro _))
  repeat' (first | refine stp ?_ | (refine stp2 ?_ ?_ <;> intro _))
  have hno := none_ev ⟨tk, tsc⟩ n1 (h1.below n1)
  dsimp only at hno
  refine RD.callP n1 rfl opds hno (Nat.le_refl _) cfc ?_
  repeat' (first | refine stp ?_ | (refine stp2 ?_ ?_ <;> intro _))
  obtain ⟨g2, hg⟩ : ∃ g2, g2 = h1.app (.new n1 ⟨5, 0, true, 5⟩ [.int .i64 tk, .int .i64 tsc, .bool true, .int .i64 0, .string ByteArray.empty]) := ⟨_, rfl⟩
  refine RD.heap hg ?_
  have E2 : Ext n1 h1 g2 := by rw [hg]; exact ext
  have S2 : SlV g2 (n1 + 1) (some ⟨n1, 0, none⟩) [noV ⟨tk, tsc⟩] := by
    rw [hg]
    exact (OwnSl.new (m := 1) (z := 5) (cs := valsC [noV ⟨tk, tsc⟩]) (Nat.le_refl n1) rfl rfl).slr
  clear hg
  have E2' : Ext n h g2 := E1'.trans (by omega) E2
  have k0 := c_ext E2 (by omega) k0
  have k1 := c_ext E2 (by omega) k1
  have k2 := c_ext E2 (by omega) k2
  have k3 := c_ext E2 (by omega) k3
  have t0 := c_ext E2 (by omega) t0
  have t1 := c_ext E2 (by omega) t1
  have kj := (E2.info _ (by omega)).trans kj
  refine RD.call (n1 + 1) rfl opds (repeat_rf (noV ⟨tk, tsc⟩) (some ⟨n1, 0, none⟩) M (n1 + 1) (g2.below (n1 + 1)) (SlR.ext S2 (AH.below_ext _ _) (Nat.le_refl _)) (by omega)) (Nat.le_refl _) cfc ?_
  rintro r n3 h3 hle3 ⟨w, rfl, E3, hW⟩
  have E3 : Ext (n1 + 1) g2 h3 := E3.via (Nat.le_refl _) (AH.below_ext g2 (n1 + 1))
  have E3' : Ext n h h3 := E2'.trans (by omega) E3
  have k0 := c_ext E3 (by omega) k0
  have k1 := c_ext E3 (by omega) k1
  have k2 := c_ext E3 (by omega) k2
  have k3 := c_ext E3 (by omega) k3
  have t0 := c_ext E3 (by omega) t0
  have t1 := c_ext E3 (by omega) t1
  have kj := (E3.info _ (by omega)).trans kj
  repeat' (first | refine stp ?_ | (refine stp2 ?_ ?_ <;> intro _))
  repeat' (first | refine stpS ?_ | (refine stp2 ?_ ?_ <;> intro _))
  have hc0 : colW M ⟨tk, tsc⟩ sel l 0 = List.replicate M (noV ⟨tk, tsc⟩) := rfl
  rw [← hc0] at hW
  refine RC.loop ?_
  refine RL.inv (α := Nat) (fun y => [(36, .int .i64 (y : Nat)), (35, .int .i64 sel.length), (34, .slice sa sel.length sel.length), (9, .slice w M M), (2, .slice la l.length l.length), (3, .pointer (some ⟨n, 0, none⟩)), (4, .pointer (some ⟨n + 1, 0, none⟩)), (6, .pointer (some ⟨n + 1 + 1, 0, none⟩))])
    (fun y n4 h4 => y ≤ sel.length ∧ n3 ≤ n4 ∧ Ext (n1 + 1) h3 h4 ∧ OwnSl h4 (n1 + 1) n4 w 5 M (valsC (colW M ⟨tk, tsc⟩ sel l y))) (fun y => sel.length - y) 0 envs ⟨Nat.zero_le _, Nat.le_refl _, Ext.refl _ _, hW⟩ ?_
  clear hW
  rintro i n4 h4 ⟨hi, hn4, E4, hW⟩
  have E4' : Ext n h h4 := E3'.trans (by omega) E4
  by_cases hlt : i < sel.length
  · obtain ⟨k, hk⟩ : ∃ k, sel[i]? = some k := ⟨_, List.getElem?_eq_getElem hlt⟩
    obtain ⟨v, hv⟩ : ∃ v, l[i]? = some v := ⟨_, List.getElem?_eq_getElem (by omega)⟩
    obtain ⟨hkN, hk0, -⟩ := hsel i k hk
    have hA : SlA sa sel.length := SlR.sla BS
    have hsn : sb sa < n4 := Nat.lt_of_lt_of_le (SlR.lt BS (by omega)) (by omega)
    have d0 : h4.cell (sb sa) (so sa + i) = .int .i64 k := (SlR.cell (SlR.ext BS E4' (by omega : n ≤ n4)) i (by omega)).trans (by simp [List.getD, hk])
    obtain ⟨hB, hsl, g0, g1, g2', g3, g4⟩ := SlV.at_ (SlR.ext BL E4' (by omega : n ≤ n4)) hv
    obtain ⟨hso, hwl, hwu, hwi, hwA, -⟩ := hW.facts (by omega)
    have hkM : k.toNat < M := by omega
    have hcs : colW M ⟨tk, tsc⟩ sel l (i + 1) = (colW M ⟨tk, tsc⟩ sel l i).set k.toNat v := by rw [colW_succ]; simp [List.getD, hk, hv]
    have hsp := hW.splice (i := k.toNat * 5) (vs := valC v) (by show k.toNat * 5 + 5 ≤ M * 5; omega) rfl
    rw [← valsC_set _ _ _ (by rw [colW_length]; exact hkM), ← hcs] at hsp
    obtain ⟨⟨vk, vs⟩, vp, vm, vx⟩ := v
    dsimp only at g0 g1 g2' g3 g4
    have hwn : n ≤ sb w := by omega
    repeat' (first | refine stpS ?_ | (refine stp2 ?_ ?_ <;> intro _))
    refine nextC.normal ⟨i + 1, by omega, envs, by omega, hn4, E4.appSets hwl, hsp⟩
  · have hie : i = sel.length := by omega
    subst hie
    have k0 := c_ext E4 (by omega) k0
    have k1 := c_ext E4 (by omega) k1
    have k2 := c_ext E4 (by omega) k2
    have k3 := c_ext E4 (by omega) k3
    have t0 := c_ext E4 (by omega) t0
    have t1 := c_ext E4 (by omega) t1
    have kj := (E4.info _ (by omega)).trans kj
    have hco := cloneS_rf ta ca sa ts M cs sel n4 h4 (SlR.ext BT E4' (by omega)) (BC.ext E4' (by omega)) (SlR.ext BS E4' (by omega)) hr hs htl hcl
    repeat' (first | refine stpS ?_ | (refine stp2 ?_ ?_ <;> intro _))
    refine RS.call rfl opds hco none'W ?_
    rintro r n5 h5 hle5 ⟨E5, ta5, ca5, cs5, sa5, rfl, hc5, hB5, sep⟩
    have hl5 : cs5.length = cs.length := by have := congrArg List.length hc5; simpa using this
    dsimp only [batV]
    rw [hl5]
    have E5' : Ext n h h5 := E4'.trans (by omega) E5
    have t0 := c_ext E5 (by omega) t0
    have t1 := c_ext E5 (by omega) t1
    have kj := (E5.info _ (by omega)).trans kj
    repeat' (first | refine stpS ?_ | (refine stp2 ?_ ?_ <;> intro _))
    obtain ⟨g6, hg⟩ : ∃ g6, g6 = (h5.app (.new n5 ⟨4, 0, true, 0⟩ [.slice none 0 0, .int .i64 0, .slice none 0 0, .slice none 0 0])).app (.sets n5 0 [.slice ta5 ts.length ts.length, .int .i64 (M : Int), .slice ca5 cs.length cs.length, .slice sa5 sel.length sel.length]) := ⟨_, rfl⟩
    refine RC.heap hg ?_
    have E6 : Ext n5 h5 g6 := by rw [hg]; exact ext
    have x0 : g6.cell n5 0 = .slice ta5 ts.length ts.length := by rw [hg]; exact cell
    have x1 : g6.cell n5 1 = .int .i64 (M : Int) := by rw [hg]; exact cell
    have x2 : g6.cell n5 2 = .slice ca5 cs.length cs.length := by rw [hg]; exact cell
    have x3 : g6.cell n5 3 = .slice sa5 sel.length sel.length := by rw [hg]; exact cell
    have xi : g6.info n5 = some ⟨4, 0, true, 0⟩ := by rw [hg]; exact info
    clear hg
    have t0 := c_ext E6 (by omega) t0
    have t1 := c_ext E6 (by omega) t1
    have kj := (E6.info _ (by omega)).trans kj
    have hB6 := hB5.ext E6 (Nat.le_succ n5)
    repeat' (first | refine stp ?_ | (refine stp2 ?_ ?_ <;> intro _))
    obtain ⟨g7, hg⟩ : ∃ g7, g7 = g6.app (.new (n5 + 1) ⟨2, 0, true, 2⟩ [.int .i64 tk, .int .i64 tsc]) := ⟨_, rfl⟩
    refine RD.heap hg ?_
    have E7 : Ext (n5 + 1) g6 g7 := by rw [hg]; exact ext
    have hnew : OwnSl g7 (n5 + 1) (n5 + 1 + 1) (some ⟨n5 + 1, 0, none⟩) 2 1 [.int .i64 tk, .int .i64 tsc] := by rw [hg]; exact OwnSl.new (m := 1) (z := 2) (Nat.le_refl _) rfl rfl
    clear hg
    have x0 := c_ext E7 (by omega) x0
    have x1 := c_ext E7 (by omega) x1
    have x2 := c_ext E7 (by omega) x2
    have x3 := c_ext E7 (by omega) x3
    have t0 := c_ext E7 (by omega) t0
    have t1 := c_ext E7 (by omega) t1
    have xi := (E7.info _ (by omega)).trans xi
    have kj := (E7.info _ (by omega)).trans kj
    have hB7 := hB6.ext E7 (Nat.le_succ (n5 + 1))
    have hci : ∀ (x : Nat) {z m lo : Nat} {a : Option Addr} {vs : List Value}, OwnSl h5 lo n5 a z m vs → n5 ≤ x → ¬ inA a x := fun x z m lo a vs o hx q => by
      have := o.at'.resolve_left q.1
      have := q.2
      omega
    have hci2 : ∀ (x : Nat) {z m : Nat} {a : Option Addr} {vs : List Value}, OwnSl h5 n4 n5 a z m vs → x < n4 → ¬ inA a x := fun x z m a vs o hx q => by
      have := o.at'.resolve_left q.1
      have := q.2
      omega
    have u0 := hci n5 hB5.types (Nat.le_refl _)
    have u1 := hci2 (n + 1) hB5.types (by omega)
    have w0 := hci n5 hB5.cols.out (Nat.le_refl _)
    have w1 := hci2 (n + 1) hB5.cols.out (by omega)
    have hWt : ∀ b, inA ta5 b → b < n5 + 1 + 1 := fun b q => by
      have := hB5.types.at'.resolve_left q.1
      have := q.2
      omega
    refine RD.appendT (n5 + 1 + 1) rfl opd opd hB7.types (hnew.ext (AH.below_ext _ _) (Nat.le_refl _)).src full_slice (fun q => .inr (by have := hB5.types.at'.resolve_left q; omega)) (by omega) (Nat.le_refl _) cfw ?_
    intro ta8 n8 h8 hle8 hO8 hX8 hwh8
    have hcn : ∀ x, n5 ≤ x → ta5 = none ∨ x ≠ sb ta5 := fun x hx => hB5.types.at'.imp id fun w => by omega
    have hcl2 : ∀ x, x < n4 → ta5 = none ∨ x ≠ sb ta5 := fun x hx => hB5.types.at'.imp id fun w => by omega
    have x0 := c_extX hX8 (by omega) (hcn n5 (Nat.le_refl _)) x0
    have x1 := c_extX hX8 (by omega) (hcn n5 (Nat.le_refl _)) x1
    have x2 := c_extX hX8 (by omega) (hcn n5 (Nat.le_refl _)) x2
    have x3 := c_extX hX8 (by omega) (hcn n5 (Nat.le_refl _)) x3
    have xi := i_extX hX8 (by omega) (hcn n5 (Nat.le_refl _)) xi
    have kj := i_extX hX8 (by omega) (hcl2 (n + 1 + 1) (by omega)) kj
    have fl : ∀ {a b : Option Addr}, Apart a b → a = none ∨ b = none ∨ sb b ≠ sb a := fun q => q.elim .inl fun q => q.elim (.inr ∘ .inl) fun q => .inr (.inr (Ne.symm q))
    have oC8 : OwnRR h8 n4 n4 n8 ca5 5 (cs5.map rowO) := hB7.cols.extX hX8 hle8 sep.tc (fun i f hf => by
      rw [List.getElem?_map] at hf
      obtain ⟨e, he, rfl⟩ := Option.map_eq_some_iff.1 hf
      exact sep.ti e (List.mem_of_getElem? he))
    have oS8 : OwnSl h8 n4 n8 sa5 1 sel.length (intsV .i64 sel) := hB7.sel.extX hX8 hle8 (fl sep.ts)
    have oW8 : OwnSl h8 (n1 + 1) n8 w 5 M (valsC (colW M ⟨tk, tsc⟩ sel l sel.length)) := by
      have h1 : OwnSl g7 (n1 + 1) (n5 + 1 + 1) w 5 M (valsC (colW M ⟨tk, tsc⟩ sel l sel.length)) := hW.ext (E5.trans hle5 (E6.trans (Nat.le_succ n5) E7)) (by omega)
      refine h1.extX hX8 hle8 ?_
      rcases hB5.types.at' with q | q
      · exact .inl q
      · rcases hW.at' with w | w
        · exact .inr (.inl w)
        · exact .inr (.inr (by omega))
    have sepT : Apart ta8 ca5 ∧ Apart ta8 sa5 ∧ ∀ e ∈ cs5, Apart ta8 e.1 := by
      rcases hwh8 with q | q
      · rw [q]; exact ⟨sep.tc, sep.ts, sep.ti⟩
      · have k : ∀ {z m lo : Nat} {a : Option Addr} {vs : List Value}, OwnSl h5 lo n5 a z m vs → Apart ta8 a := fun o => (Apart.of (o.at'.imp id fun w => show _ < n5 + 1 + 1 by omega) (.inr q)).symm
        refine ⟨k hB5.cols.out, k hB5.sel, fun e he => ?_⟩
        obtain ⟨i, hi⟩ := List.getElem?_of_mem he
        exact k (hB5.cols.inn i (rowO e) (by rw [List.getElem?_map, hi]; rfl))
    have hn8 : n5 < n8 := by omega
    repeat' (first | refine stp ?_ | (refine stp2 ?_ ?_ <;> intro _))
    obtain ⟨g9, hg⟩ : ∃ g9, g9 = h8.app (.new n8 ⟨1, 0, true, 1⟩ [.slice w M M]) := ⟨_, rfl⟩
    refine RD.heap hg ?_
    have E9 : Ext n8 h8 g9 := by rw [hg]; exact ext
    have hnew9 : OwnSl g9 n8 (n8 + 1) (some ⟨n8, 0, none⟩) 1 1 [.slice w M M] := by rw [hg]; exact OwnSl.new (m := 1) (z := 1) (Nat.le_refl _) rfl rfl
    clear hg
    have x0 := c_ext E9 (by omega) x0
    have x1 := c_ext E9 (by omega) x1
    have x2 := c_ext E9 (by omega) x2
    have x3 := c_ext E9 (by omega) x3
    have xi := (E9.info _ (by omega)).trans xi
    have kj := (E9.info _ (by omega)).trans kj
    have oC9 := oC8.ext E9 (Nat.le_succ n8)
    have oC9o := oC9.out
    rw [rowO_v, List.length_map, hl5] at oC9o
    have hWc : ∀ b, inA ca5 b → b < n8 + 1 := fun b q => by
      have := hB5.cols.out.at'.resolve_left q.1
      have := q.2
      omega
    have hcd : ∀ x, x < n4 ∨ n5 ≤ x → ¬ inA ca5 x := fun x hx q => by
      have := hB5.cols.out.at'.resolve_left q.1
      have := q.2
      omega
    have v0 := hcd n5 (by omega)
    have v1 := hcd (n + 1) (by omega)
    have v2 := hcd (n5 + 1) (by omega)
    refine RD.appendT (n8 + 1) rfl opd opd oC9o (hnew9.ext (AH.below_ext _ _) (Nat.le_refl _)).src full_slice (fun q => .inr (by have := hB5.cols.out.at'.resolve_left q; omega)) (by omega) (Nat.le_refl _) cfw ?_
    intro ca10 n10 h10 hle10 hO10 hX10 hwh10
    have hcn2 : ∀ x, x < n4 ∨ n5 ≤ x → ca5 = none ∨ x ≠ sb ca5 := fun x hx => hB5.cols.out.at'.imp id fun w => by omega
    have x0 := c_extX hX10 (by omega) (hcn2 n5 (by omega)) x0
    have x1 := c_extX hX10 (by omega) (hcn2 n5 (by omega)) x1
    have x2 := c_extX hX10 (by omega) (hcn2 n5 (by omega)) x2
    have x3 := c_extX hX10 (by omega) (hcn2 n5 (by omega)) x3
    have xi := i_extX hX10 (by omega) (hcn2 n5 (by omega)) xi
    have kj := i_extX hX10 (by omega) (hcn2 (n + 1 + 1) (by omega)) kj
    have hn10 : n5 < n10 := by omega
    repeat' (first | refine stp ?_ | (refine stp2 ?_ ?_ <;> intro _))
    have hcw := colW_length M ⟨tk, tsc⟩ sel l sel.length
    -- the new batch, in the heap behind the appends
    have oT10 : OwnSl h10 (n1 + 1) n10 ta8 2 (ts.length + 1) (tysC (ts ++ [⟨tk, tsc⟩])) := by
      have h1 : OwnSl g9 n4 (n8 + 1) ta8 2 (ts.length + 1) (tysC ts ++ [.int .i64 tk, .int .i64 tsc]) := hO8.ext E9 (Nat.le_succ n8)
      have e : tysC (ts ++ [⟨tk, tsc⟩]) = tysC ts ++ [.int .i64 tk, .int .i64 tsc] := by simp [tysC, tyC]
      rw [e]
      exact (h1.extX hX10 hle10 (fl sepT.1.symm)).mono (by omega)
    have oS10 : OwnSl h10 (n1 + 1) n10 sa5 1 sel.length (intsV .i64 sel) := ((oS8.ext E9 (Nat.le_succ n8)).extX hX10 hle10 (fl sep.ca_)).mono (by omega)
    have oW9 : OwnSl g9 (n1 + 1) (n8 + 1) w 5 M (valsC (colW M ⟨tk, tsc⟩ sel l sel.length)) := oW8.ext E9 (Nat.le_succ n8)
    have oC10 : OwnRR h10 (n1 + 1) (n1 + 1) n10 ca10 5 ((cs5 ++ [(w, colW M ⟨tk, tsc⟩ sel l sel.length)]).map rowO) := by
      have h1 := (oC9.mono (n0' := n1 + 1) (m0' := n1 + 1) (by omega) (by omega)).push (e := rowO (w, colW M ⟨tk, tsc⟩ sel l sel.length)) (by
        show OwnSl g9 (n1 + 1) (n8 + 1) w 5 (colW M ⟨tk, tsc⟩ sel l sel.length).length _
        rw [hcw]; exact oW9) ((Apart.of (n := n4) (hW.at'.imp id fun q => q.2) (hB5.cols.out.at'.imp id fun q => q.1)).symm) (fun j f hf => by
          rw [List.getElem?_map] at hf
          obtain ⟨e, he, rfl⟩ := Option.map_eq_some_iff.1 hf
          exact Apart.of (n := n4) (hW.at'.imp id fun q => q.2) ((hB5.cols.inn j (rowO e) (by rw [List.getElem?_map, he]; rfl)).at'.imp id fun q => q.1)) hX10 hle10 (by
          have := hO10.mono (n0' := n1 + 1) (by omega)
          rw [rowO_v, List.length_map, hl5]
          have e : (rowO (w, colW M ⟨tk, tsc⟩ sel l sel.length)).v = .slice w M M := by
            show Value.slice w (colW M ⟨tk, tsc⟩ sel l sel.length).length (colW M ⟨tk, tsc⟩ sel l sel.length).length = _
            rw [hcw]
          rw [e]; exact this) hwh10
      rw [List.map_append]; exact h1
    have E10 : Ext (n1 + 1) h4 h10 := by
      have e1 : Ext n4 h4 g7 := E5.trans hle5 (E6.trans (Nat.le_succ n5) E7)
      have e2 : Ext n4 g7 h8 := hX8.ext hB7.types
      have e3 : Ext n4 g9 h10 := hX10.ext oC9o
      exact ((((e1.mono (by omega)).trans (Nat.le_refl _) (e2.mono (by omega))).trans (Nat.le_refl _) (E9.mono (by omega))).trans (Nat.le_refl _) (e3.mono (by omega)))
    obtain ⟨gf, hg⟩ : ∃ gf, gf = (h10.app (.sets n5 0 [.slice ta8 (ts.length + 1) (ts.length + 1)])).app (.sets n5 2 [.slice ca10 (cs.length + 1) (cs.length + 1)]) := ⟨_, rfl⟩
    have oTf : OwnSl gf (n1 + 1) n10 ta8 2 (ts.length + 1) (tysC (ts ++ [⟨tk, tsc⟩])) := by
      have hq : ta8 = none ∨ sb ta8 ≠ n5 := by
        rcases hwh8 with q | q
        · rw [q]; exact (hcn n5 (Nat.le_refl _)).imp id Ne.symm
        · exact .inr (by omega)
      rw [hg]; exact (oT10.setsN hq).setsN hq
    have oSf : OwnSl gf (n1 + 1) n10 sa5 1 sel.length (intsV .i64 sel) := by
      have hq : sa5 = none ∨ sb sa5 ≠ n5 := hB5.sel.at'.imp id fun q => by omega
      rw [hg]; exact (oS10.setsN hq).setsN hq
    have oCf : OwnRR gf (n1 + 1) (n1 + 1) n10 ca10 5 ((cs5 ++ [(w, colW M ⟨tk, tsc⟩ sel l sel.length)]).map rowO) := by
      have EX : ExtX n10 (some ⟨n5, 0, none⟩) h10 gf := fun y _ hy => by
        have hne : y ≠ n5 := hy.resolve_left (by simp)
        rw [hg]
        exact ⟨(sets_info _ _ _ _ _).trans (sets_info _ _ _ _ _), fun i => by simp [AH.app, Dl.sets, hne]⟩
      have hne : ∀ {a : Option Addr}, (a = none ∨ sb a ≠ n5) → Apart (some ⟨n5, 0, none⟩) a := fun q => q.elim (fun z => .inr (.inl z)) fun z => .inr (.inr (Ne.symm z))
      refine oC10.extX EX (Nat.le_refl _) (hne ?_) (fun j f hf => ?_)
      · rcases hwh10 with q | q
        · rw [q]; exact hB5.cols.out.at'.imp id fun z => by omega
        · exact .inr (by omega)
      · rw [List.getElem?_map] at hf
        obtain ⟨e, he, rfl⟩ := Option.map_eq_some_iff.1 hf
        rcases List.mem_append.1 (List.mem_of_getElem? he) with q | q
        · obtain ⟨i, hi⟩ := List.getElem?_of_mem q
          exact hne ((hB5.cols.inn i (rowO e) (by rw [List.getElem?_map, hi]; rfl)).at'.imp id fun z => by omega)
        · simp only [List.mem_cons, List.not_mem_nil, or_false] at q
          subst q
          exact hne (hW.at'.imp id fun z => by show sb w ≠ n5; omega)
    have Ef : Ext n h gf := by rw [hg]; exact ((E4'.trans (by omega) E10).appSets (by omega)).appSets (by omega)
    have y0 : gf.cell n5 0 = .slice ta8 (ts.length + 1) (ts.length + 1) := by rw [hg]; exact cell
    have y1 : gf.cell n5 1 = .int .i64 (M : Int) := by rw [hg]; exact cell
    have y2 : gf.cell n5 2 = .slice ca10 (cs.length + 1) (cs.length + 1) := by rw [hg]; exact cell
    have y3 : gf.cell n5 3 = .slice sa5 sel.length sel.length := by rw [hg]; exact cell
    have yj : gf.info (n + 1 + 1) = some ⟨4, 0, true, 0⟩ := by rw [hg]; exact info
    refine RS.heap hg ?_
    clear hg
    have hTl : (ts ++ [(⟨tk, tsc⟩ : Ty)]).length = ts.length + 1 := by simp
    have hCl : (cs5 ++ [(w, colW M ⟨tk, tsc⟩ sel l sel.length)]).length = cs.length + 1 := by rw [List.length_append, hl5]; rfl
    have hck := check_rf ta8 ca10 sa5 (ts ++ [⟨tk, tsc⟩]) M (cs5 ++ [(w, colW M ⟨tk, tsc⟩ sel l sel.length)]) sel n10 gf (by
      show SlR gf n10 ta8 2 _ _
      rw [hTl]; exact oTf.slr) (OwnRR.rowsR oCf) (OwnSl.slN oSf) (fun e he => by
        rcases List.mem_append.1 he with q | q
        · have : e.2 ∈ cs.map Prod.snd := by rw [← hc5]; exact List.mem_map_of_mem q
          obtain ⟨y, hy, hye⟩ := List.mem_map.1 this
          rw [← hye]; exact hr y hy
        · simp only [List.mem_cons, List.not_mem_nil, or_false] at q
          subst q
          show (colW M ⟨tk, tsc⟩ sel l sel.length).length ≤ _
          rw [hcw]; omega) hs
    rw [hTl, hCl] at hck
    refine RS.call rfl opds hck none'W ?_
    have hwb : withB ⟨ts, M, cs.map Prod.snd, sel⟩ ⟨tk, tsc⟩ l = ⟨ts ++ [⟨tk, tsc⟩], M, (cs5 ++ [(w, colW M ⟨tk, tsc⟩ sel l sel.length)]).map Prod.snd, sel⟩ := by
      rw [List.map_append, hc5]; rfl
    rintro r n11 h11 hle11 ⟨E11, ⟨rfl, hm⟩ | ⟨rfl, hm⟩⟩
    · have hm := may_iff.1 hm
      have y0 := c_ext E11 (by omega) y0
      have y1 := c_ext E11 (by omega) y1
      have y2 := c_ext E11 (by omega) y2
      have y3 := c_ext E11 (by omega) y3
      have yj := (E11.info _ (by omega)).trans yj
      repeat' (first | refine stpS ?_ | (refine stp2 ?_ ?_ <;> intro _))
      refine ⟨(Ef.trans (by omega) E11).appSets (by omega), .inl ⟨_, rfl, hmay, hlen, by rw [hwb]; exact hm, ?_⟩⟩
      rw [hwb]
      refine ⟨ta8, ca10, cs5 ++ [(w, colW M ⟨tk, tsc⟩ sel l sel.length)], sa5, ?_, rfl, ?_⟩
      · dsimp only [batV]
        rw [hTl, hCl]
      · have hlow : ∀ {z m : Nat} {a : Option Addr} {vs : List Value}, OwnSl gf (n1 + 1) n10 a z m vs → OwnSl (h11.app (.sets (n + 1 + 1) 0 [.slice ta8 (ts.length + 1) (ts.length + 1), .int .i64 (M : Int), .slice ca10 (cs.length + 1) (cs.length + 1), .slice sa5 sel.length sel.length])) n n11 a z m vs := fun o => ((o.ext E11 hle11).sets (by omega)).mono (by omega)
        refine ⟨by dsimp only; rw [hTl]; exact hlow oTf, ?_, hlow oSf⟩
        exact ((oCf.ext E11 hle11).setsN (oCf.out.at'.imp id fun q => by omega) (by omega)).mono (by omega) (by omega)
    · have hm := fun q => hm (may_iff.2 q)
      have yj := (E11.info _ (by omega)).trans yj
      repeat' (first | refine stpS ?_ | (refine stp2 ?_ ?_ <;> intro _))
      refine ⟨(Ef.trans (by omega) E11).appSets (by omega), .inr (.inl ⟨rfl, fun q => hm ?_⟩)⟩
      rw [← hwb]; exact q.2 hlen
end Go.Proofs.Ytaagbfpbbhaclaa
