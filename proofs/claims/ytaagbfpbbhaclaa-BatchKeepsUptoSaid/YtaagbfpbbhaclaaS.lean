/- Contracts of batches: the document's batches of rows' parts. -/
import Derived.Test.YtaagbfpbbhaclaaR
set_option linter.unusedSimpArgs false
set_option linter.unusedVariables false
namespace Go.Proofs.Ytaagbfpbbhaclaa
open Go.Abs

theorem ofMay_all {ts : List Ty} {rs : List (List Val)} (h : ∀ r ∈ rs, ofMay ts [r]) (h0 : 0 < rs.length) (hl : rs.length ≤ 2048) : ofMay ts rs := by
  have hr0 := h rs[0] (List.getElem_mem h0)
  obtain ⟨-, b1, -, -, -, b5, -⟩ := hr0
  dsimp only [ofB] at b1 b5
  have hcol : ∀ (ws : List (List Val)) (i : Nat), i < ts.length → (colsOf ts.length ws)[i]? = some (colOf ws i) := fun ws i hi => by simp [colsOf, List.getElem?_range hi]
  refine ⟨fun r hr => (h r hr).1 r (by simp), b1, by simp [ofB, colsOf], Int.natCast_nonneg _, by show (rs.length : Int) ≤ 2048; omega, fun i t l ht hi => ?_, selP_of List.pairwise_lt_range (fun i hi => List.mem_range.1 hi)⟩
  dsimp only [ofB] at ht hi ⊢
  have hit := (List.getElem?_eq_some_iff.1 ht).1
  rw [hcol _ _ hit] at hi
  obtain rfl := Option.some.inj hi
  refine ⟨by simp [colOf], (b5 i t _ ht (hcol _ _ hit)).2.1, fun v hv => ?_⟩
  simp only [colOf, List.mem_map] at hv
  obtain ⟨r, hr, rfl⟩ := hv
  obtain ⟨-, -, -, -, -, c5, -⟩ := h r hr
  exact (c5 i t _ ht (hcol _ _ hit)).2.2 _ (by simp [colOf])
theorem mem_part {α : Type} {size : Nat} {l : List α} {k : Nat} {x : α} (h : x ∈ part size l k) : x ∈ l := List.mem_of_mem_drop (List.mem_of_mem_take h)
theorem cutMay_iff {ts : List Ty} {s : Nat} {rs : List (List Val)} (h1 : 1 ≤ s) (h2 : s ≤ 2048) : cutMay ts s rs ↔ ∀ r ∈ rs, ofMay ts [r] := by
  have hp : ∀ k, (part s rs k).length = min s (rs.length - k * s) := part_length s rs
  constructor
  · rintro ⟨-, -, h⟩ r hr
    obtain ⟨i, hi⟩ := List.getElem?_of_mem hr
    have hil := (List.getElem?_eq_some_iff.1 hi).1
    have hk : i / s < partsN s rs.length := (partsN_lt (by omega)).2 (by have := Nat.div_mul_le_self i s; omega)
    have hmem : r ∈ part s rs (i / s) := by
      refine List.mem_of_getElem? (i := i % s) ?_
      rw [part, List.getElem?_take, if_pos (Nat.mod_lt _ (by omega)), List.getElem?_drop, Nat.mul_comm, Nat.div_add_mod]
      exact hi
    have hk' := h (i / s) hk
    refine ofMay_sub hk' (fun x hx => ?_) (List.length_pos_of_mem hmem)
    simp only [List.mem_cons, List.not_mem_nil, or_false] at hx
    subst hx; exact hmem
  · intro h
    refine ⟨by omega, by omega, fun k hk => ?_⟩
    have hks := (partsN_lt (size := s) (by omega)).1 hk
    refine ofMay_all (fun r hr => h r (mem_part hr)) ?_ ?_
    · show 0 < (part s rs k).length
      rw [hp]; omega
    · show (part s rs k).length ≤ 2048
      rw [hp]; omega
set_option maxHeartbeats 4000000 in
theorem refCut_rf (ta ra : Option Addr) (ts : List Ty) (size : Int) (rs : List RowE) (n : Nat) (h : AH) (BT : SlTy h n ta ts) (BR : RowsR h n ra rs) (hT : ts.length ≤ 1099511627776) (hR : rs.length ≤ 1099511627776) (hr : ∀ e ∈ rs, e.2.length ≤ 1099511627776) (hn0 : 0 < n) :
    RF Try.prog none' 24 #[.slice ta ts.length ts.length, .int .i64 size, .slice ra rs.length rs.length] n h (fun r n' h' => Ext n h h' ∧ ∃ a L, r = .slice a L.length L.length ∧ BatsR h' n' a L ∧ L.map BatE.plain = cutP ts size (rs.map Prod.snd)) := by
  refine RF.of Try.func24 rfl rfl (Nat.le_of_ble_eq_true rfl) ?_; dsimp only [argEnv]
  by_cases s1 : 1 ≤ size
  rotate_left
  · repeat' (first | refine stpS ?_ | (refine stp2 ?_ ?_ <;> intro _))
    refine ⟨ext, none, [], rfl, ⟨SlR.nil, fun b hb => by cases hb⟩, ?_⟩
    rw [cutP, if_neg (fun q => s1 q.1)]; rfl
  by_cases s2 : size ≤ 2048
  rotate_left
  · repeat' (first | refine stpS ?_ | (refine stp2 ?_ ?_ <;> intro _))
    refine ⟨ext, none, [], rfl, ⟨SlR.nil, fun b hb => by cases hb⟩, ?_⟩
    rw [cutP, if_neg (fun q => s2 q.2.1)]; rfl
  obtain ⟨s, rfl⟩ : ∃ s : Nat, size = (s : Int) := ⟨size.toNat, by omega⟩
  have hiff := cutMay_iff (ts := ts) (s := s) (rs := rs.map Prod.snd) (by omega) (by omega)
  repeat' (first | refine stpS ?_ | (refine stp2 ?_ ?_ <;> intro _))
  refine RC.loop ?_
  refine RL.inv (α := Nat) (fun y => [(7, .int .i64 (y : Nat)), (0, .slice ta ts.length ts.length), (1, .int .i64 (s : Nat)), (2, .slice ra rs.length rs.length)])
    (fun y n1 h1 => y ≤ rs.length ∧ n ≤ n1 ∧ Ext n h h1 ∧ ∀ r ∈ (rs.map Prod.snd).take y, ofMay ts [r]) (fun y => rs.length - y) 0 envs ⟨Nat.zero_le _, Nat.le_refl _, Ext.refl _ _, fun r hr => by simp at hr⟩ ?_
  rintro i n1 h1 ⟨hi, hn1, E1, hok⟩
  by_cases hlt : i < rs.length
  · obtain ⟨e, he⟩ : ∃ e, rs[i]? = some e := ⟨_, List.getElem?_eq_getElem hlt⟩
    have hri : (rs.map Prod.snd)[i]? = some e.2 := by rw [List.getElem?_map, he]; rfl
    have BR1 := BR.ext E1 hn1
    have hsub := BR1.sub (i := i) (u := i + 1) (by omega) hlt
    have h1e : (rs.drop i).take (i + 1 - i) = [e] := by
      rw [show i + 1 - i = 1 by omega, List.drop_eq_getElem_cons hlt]
      have := (List.getElem?_eq_some_iff.1 he).2
      simp [this]
    rw [h1e] at hsub
    have hof := refOf_rf ta (Abs.sub ra i) ts [e] n1 h1 (SlR.ext BT E1 hn1) hsub hT (by simp) (fun x hx => by simp at hx; subst hx; exact hr _ (List.mem_of_getElem? he))
    have hI1 : SlI h1 ra 1 rs.length := SlI.of BR.out E1
    have htk : (rs.map Prod.snd).take (i + 1) = (rs.map Prod.snd).take i ++ [e.2] := by rw [List.take_add_one, hri]; rfl
    repeat' (first | refine stpS ?_ | (refine stp2 ?_ ?_ <;> intro _))
    rw [Int.toNat_natCast, show ((i : Int) + 1).toNat - i = 1 by omega]
    refine RS.call rfl opds hof none'W ?_
    rintro r n2 h2 hle2 ⟨E2, ⟨v, rfl, hmay, hB⟩ | ⟨rfl, hmay⟩⟩
    · obtain ⟨ta2, ca2, cs2, sa2, rfl, -⟩ := hB
      repeat' (first | refine stpS ?_ | (refine stp2 ?_ ?_ <;> intro _))
      refine nextC.normal ⟨i + 1, by omega, envs, by omega, by omega, ext, fun r hr => ?_⟩
      rw [htk] at hr
      rcases List.mem_append.1 hr with q | q
      · exact hok r q
      · simp only [List.mem_cons, List.not_mem_nil, or_false] at q
        subst q; exact hmay
    · repeat' (first | refine stpS ?_ | (refine stp2 ?_ ?_ <;> intro _))
      refine ⟨ext, none, [], rfl, ⟨SlR.nil, fun b hb => by cases hb⟩, ?_⟩
      rw [cutP, if_neg (fun q => hmay (hiff.1 q _ (List.mem_of_getElem? hri)))]; rfl
  · have hie : i = rs.length := by omega
    subst hie
    rw [List.take_of_length_le (by simp)] at hok
    have hmay := hiff.2 hok
    repeat' (first | refine stpS ?_ | (refine stp2 ?_ ?_ <;> intro _))
    refine RC.loop ?_
    refine RL.inv (α := Nat × Option Addr × List BatE) (fun y => [(11, .int .i64 (y.1 * s : Nat)), (10, .slice y.2.1 y.1 y.1), (0, .slice ta ts.length ts.length), (1, .int .i64 (s : Nat)), (2, .slice ra rs.length rs.length)])
      (fun y n2 h2 => y.1 ≤ partsN s rs.length ∧ n1 ≤ n2 ∧ Ext n1 h1 h2 ∧ BatsO h2 n1 n2 y.2.1 y.2.2 ∧ y.2.2.map BatE.plain = cutB ts s (rs.map Prod.snd) y.1) (fun y => partsN s rs.length - y.1) (0, none, []) (by simpa using envs) ⟨Nat.zero_le _, Nat.le_refl _, Ext.refl _ _, BatsO.nil (Nat.le_refl _), rfl⟩ ?_
    rintro ⟨k, a, L⟩ n2 h2 ⟨hk, hn2, E2, hO, hL⟩
    dsimp only at hk hO hL ⊢
    have hLl : L.length = k := by have := congrArg List.length hL; simpa [cutB] using this
    have hpe : partsN s (rs.map Prod.snd).length = partsN s rs.length := by rw [List.length_map]
    have hkl := partsN_lt (size := s) (len := rs.length) (k := k) (by omega)
    by_cases hlt2 : k < partsN s rs.length
    · have hks := hkl.1 hlt2
      have hkk : k ≤ k * s := Nat.le_mul_of_pos_right k (by omega)
      have E2' : Ext n h h2 := E1.trans (by omega) E2
      have BR2 := (BR.ext E2' (by omega : n ≤ n2)).sub (i := k * s) (u := min (k * s + s) rs.length) (by omega) (Nat.min_le_right _ _)
      have hpp : (rs.drop (k * s)).take (min (k * s + s) rs.length - k * s) = part s rs k := part_eq
      rw [hpp] at BR2
      have hpl := part_length s rs k
      have hof := refOf_rf ta (Abs.sub ra (k * s)) ts (part s rs k) n2 h2 (SlR.ext BT E2' (by omega)) BR2 hT (by omega) (fun e he => hr e (mem_part he))
      rw [← part_map] at hof
      have hmk : ofMay ts (part s (rs.map Prod.snd) k) := hmay.2.2 k (by show k < partsN s _; rw [hpe]; exact hlt2)
      have hI1 : SlI h2 ra 1 rs.length := SlI.of BR.out E2'
      have hO2 := hO.out
      rw [hLl] at hO2
      have hsucc : (k + 1) * s = k * s + s := by rw [Nat.add_mul, Nat.one_mul]
      have hmeas : partsN s rs.length - (k + 1) < partsN s rs.length - k := by omega
      generalize hp : k * s = p at *
      generalize hp2 : (k + 1) * s = p2 at *
      have e1 : min (rs.length : Int) ((p : Int) + (s : Int)) = ((min (p + s) rs.length : Nat) : Int) := by omega
      repeat' (first | refine stpS ?_ | (refine stp2 ?_ ?_ <;> intro _))
      rw [Int.toNat_natCast, show (min (rs.length : Int) ((p : Int) + (s : Int))).toNat - p = (part s rs k).length by rw [hpl]; omega]
      refine RS.call rfl opds hof none'W ?_
      rintro r n3 h3 hle3 ⟨E3, ⟨v, rfl, -, hB⟩ | ⟨-, q⟩⟩
      rotate_left
      · exact absurd hmk q
      obtain ⟨x, rfl, hxp, hxr, hxa⟩ := IsBat.batE hB
      dsimp only [BatE.cells]
      repeat' (first | refine stpS ?_ | (refine stp2 ?_ ?_ <;> intro _))
      obtain ⟨g4, hg⟩ : ∃ g4, g4 = ((h3.app (.new n3 ⟨4, 0, true, 0⟩ [.slice none 0 0, .int .i64 0, .slice none 0 0, .slice none 0 0])).app (.sets n3 0 x.cells)).app (.new (n3 + 1) ⟨4, 0, true, 4⟩ x.cells) := ⟨_, rfl⟩
      refine RS.heap hg ?_
      have E4 : Ext n3 h3 g4 := by rw [hg]; exact ext
      have hnew : OwnSl g4 (n3 + 1) (n3 + 1 + 1) (some ⟨n3 + 1, 0, none⟩) 4 1 x.cells := by rw [hg]; exact OwnSl.new (m := 1) (z := 4) (Nat.le_refl _) rfl rfl
      clear hg
      have E24 : Ext n2 h2 g4 := E3.trans hle3 E4
      have kb4 : BatsO g4 n1 (n3 + 1 + 1) a L := hO.ext E24 (by omega)
      have hO4 := kb4.out
      rw [hLl] at hO4
      refine RS.append rfl opd opd hO4 hnew.src full_slice (fun b hb => .inr (by omega)) (by omega) ?_
      intro a' n5 h5 hle5 hO5 hX5 hwh
      have kb5 : BatsO h5 n1 n5 a' (L ++ [x]) := kb4.push (hxr.ext E4 (by omega)) (hxa a (hO.out.at'.imp id fun w => w.2)) hX5 hle5 (by rw [hLl]; exact hO5) hwh
      repeat' (first | refine stpS ?_ | (refine stp2 ?_ ?_ <;> intro _))
      refine nextC.normal ⟨(k + 1, a', L ++ [x]), hmeas, by dsimp only; rw [hp2, hsucc, Int.natCast_add]; exact envs, by dsimp only; omega, by omega, (E2.then (E24.mono hn2)).trans (Nat.le_refl _) (hX5.ext hO4), kb5, ?_⟩
      dsimp only
      rw [List.map_append, hL, cutB_succ, List.map_cons, List.map_nil, hxp]
    · have hks : ¬ k * s < rs.length := fun q => hlt2 (hkl.2 q)
      have hkp : k = partsN s rs.length := by omega
      repeat' (first | refine stpS ?_ | (refine stp2 ?_ ?_ <;> intro _))
      refine ⟨E1.trans (by omega) E2, a, L, by rw [hLl], hO.bats, ?_⟩
      rw [cutP, if_pos hmay, hL]
      rw [show partsN (↑s : Int).toNat (rs.map Prod.snd).length = partsN s rs.length from hpe, hkp]; rfl
end Go.Proofs.Ytaagbfpbbhaclaa
