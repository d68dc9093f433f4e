/- The laws BatchCuts and BatchAll. -/
import Derived.Test.YtaagbfpbbhaclaaU
import Derived.Test.YtaagbfpbbhaclaaK8
import Derived.Test.YtaagbfpbbhaclaaH2
import Derived.Test.YtaagbfpbbhaclaaArg
set_option linter.unusedSimpArgs false
set_option linter.unusedVariables false
namespace Go.Proofs.Ytaagbfpbbhaclaa
open Go.Abs Go.RowKit

theorem cutP_sm {ts : List Ty} {size : Int} {rs : List (List Val)} (h1 : ts.length ≤ 1099511627776) (h2 : rs.length ≤ 1099511627776) {b : Bat} (hb : b ∈ cutP ts size rs) : b.Sm := by
  unfold cutP at hb
  split at hb
  · simp only [cutB, List.mem_map] at hb
    obtain ⟨k, -, rfl⟩ := hb
    refine ofB_sm h1 ?_
    rw [part_length]; omega
  · cases hb
theorem cutP_len {ts : List Ty} {size : Int} {rs : List (List Val)} (h2 : rs.length ≤ 1099511627776) : (cutP ts size rs).length ≤ 1099511627776 := by
  unfold cutP
  split
  · rename_i q
    simp only [cutB, List.length_map, List.length_range]
    have h1 := q.1
    have : partsN size.toNat rs.length ≤ rs.length := by
      refine Nat.le_of_not_lt fun w => ?_
      have := (partsN_lt (size := size.toNat) (len := rs.length) (k := rs.length) (by omega)).1 w
      have := Nat.le_mul_of_pos_right rs.length (show 0 < size.toNat by omega)
      omega
    omega
  · exact Nat.zero_le _
set_option maxHeartbeats 4000000 in
theorem law_BatchCuts (ta ra : Option Addr) (ts : List Ty) (size : Int) (rs : List RowE) (stop : Int) (m n : Nat) (h : AH) (hT : SlTy h n ta ts) (hR : RowsR h n ra rs) (tl : ts.length ≤ m) (rl : rs.length ≤ m) (hr : ∀ e ∈ rs, e.2.length ≤ m) (hm : m ≤ 1048576) (hn : 0 < n) :
    RF Try.prog none' 7 #[.slice ta ts.length ts.length, .int .i64 size, .slice ra rs.length rs.length, .int .i64 stop] n h (fun r _ _ => r = .bool true) := by
  have hr' : ∀ e ∈ rs, e.2.length ≤ 1099511627776 := fun e he => by have := hr e he; omega
  refine RF.of Try.func7 rfl rfl (Nat.le_of_ble_eq_true rfl) ?_; dsimp only [argEnv]
  repeat' (first | refine stpS ?_ | (refine stp2 ?_ ?_ <;> intro _))
  refine RS.call rfl opds (cut_rf ta ra ts size rs n h hT hR (by omega) (by omega) hr' hn) none'W ?_
  rintro r n1 h1 hle1 ⟨E1, q, a, L, rfl, hq1, hq2, hq3, hL, hLp, -, -⟩
  repeat' (first | refine stpS ?_ | (refine stp2 ?_ ?_ <;> intro _))
  refine RS.call rfl opds (refCut_rf ta ra ts size rs n1 h1 (SlR.ext hT E1 hle1) (hR.ext E1 hle1) (by omega) (by omega) hr' (by omega)) none'W ?_
  rintro r n2 h2 hle2 ⟨E2, w, M, rfl, hM, hMp⟩
  have hsm : ∀ b ∈ L, b.plain.Sm := fun b hb => cutP_sm (ts := ts) (size := size) (rs := rs.map Prod.snd) (by omega) (by rw [List.length_map]; omega) (by rw [← hLp]; exact List.mem_map_of_mem hb)
  have hll : L.length ≤ 1099511627776 := by
    have := cutP_len (ts := ts) (size := size) (rs := rs.map Prod.snd) (by rw [List.length_map]; omega)
    rw [← hLp, List.length_map] at this; exact this
  have hit := cut1_iter q a L hll hsm
  have hK2 : CutK q a L n2 h2 := ⟨by omega, c_ext E2 hq2 hq3, hL.ext E2 hle2⟩
  have hKm : ∀ {n0 h0}, CutK q a L n0 h0 → ∀ n' h', n0 ≤ n' → Ext n0 h0 h' → CutK q a L n' h' := fun k n' h' hn E => ⟨Nat.lt_of_lt_of_le k.1 hn, c_ext E k.1 k.2.1, k.2.2.ext E hn⟩
  repeat' (first | refine stpS ?_ | (refine stp2 ?_ ?_ <;> intro _) | refine RS.call1 rfl opds (begun_ev _ _) none'W ?_)
  refine RS.call rfl opds (told_rf _ [.pointer (some ⟨q, 0, none⟩)] (CutK q a L) L M w stop n2 h2 hit hK2 (hKm hK2) hM (hLp.trans hMp.symm) hsm hll (by omega)) none'W ?_
  rintro r n3 h3 hle3 ⟨rfl, E3⟩
  have hK3 := hKm hK2 n3 h3 hle3 E3
  repeat' (first | refine stpS ?_ | (refine stp2 ?_ ?_ <;> intro _))
  refine RS.call rfl opds (told_rf _ [.pointer (some ⟨q, 0, none⟩)] (CutK q a L) L M w 0 n3 h3 hit hK3 (hKm hK3) (hM.ext E3 hle3) (hLp.trans hMp.symm) hsm hll (by omega)) none'W ?_
  rintro r n4 h4 hle4 ⟨rfl, E4⟩
  repeat' (first | refine stpS ?_ | (refine stp2 ?_ ?_ <;> intro _))
  rfl
theorem RowsR.take {h : AH} {n : Nat} {a : Option Addr} {L : List RowE} (r : RowsR h n a L) {u : Nat} (hu : u ≤ L.length) : RowsR h n a (L.take u) := by
  refine ⟨?_, fun x hx => r.in_ x (List.mem_of_mem_take hx)⟩
  have := SlR.take r.out hu
  have e : (L.take u).length = u := by rw [List.length_take]; omega
  rw [e]
  refine this.congr fun j hj => ?_
  simp only [List.getD, List.getElem?_map, List.getElem?_take]
  rw [if_pos (by omega)]
theorem RowsR.src {h : AH} {n : Nat} {a : Option Addr} {L : List RowE} (r : RowsR h n a L) : Src h 1 (.slice a L.length L.length) L.length (L.map rowV) := SlR.srcL r.out (by simp) (known_rowV L)
/-- One's own row of rows that are apart from it. -/
structure RowsO (h : AH) (lo n : Nat) (a : Option Addr) (L : List RowE) : Prop where
  out : OwnSl h lo n a 1 L.length (L.map rowV)
  in_ : ∀ e ∈ L, SlV h n e.1 e.2 ∧ Apart a e.1
theorem RowsO.nil {h : AH} {lo n : Nat} (hn : lo ≤ n) : RowsO h lo n none [] := ⟨OwnSl.nil hn, fun e he => (by cases he)⟩
theorem RowsO.ext {h h1 : AH} {lo n n1 : Nat} {a : Option Addr} {L : List RowE} (o : RowsO h lo n a L) (E : Ext n h h1) (hn : n ≤ n1) : RowsO h1 lo n1 a L := ⟨o.out.ext E hn, fun e he => ⟨SlR.ext (o.in_ e he).1 E hn, (o.in_ e he).2⟩⟩
theorem RowsO.rows {h : AH} {lo n : Nat} {a : Option Addr} {L : List RowE} (o : RowsO h lo n a L) : RowsR h n a L := ⟨o.out.slr, fun e he => (o.in_ e he).1⟩
theorem RowsO.append {h h1 : AH} {lo n n1 : Nat} {a c : Option Addr} {L M : List RowE} (o : RowsO h lo n a L) (hM : ∀ e ∈ M, SlV h n e.1 e.2 ∧ Apart a e.1) (E : ExtX n a h h1) (hn : n ≤ n1) (o1 : OwnSl h1 lo n1 c 1 (L.length + M.length) (L.map rowV ++ M.map rowV)) (hc : c = a ∨ n ≤ sb c) : RowsO h1 lo n1 c (L ++ M) := by
  refine ⟨by rw [List.length_append, List.map_append]; exact o1, fun e he => ?_⟩
  have : SlV h n e.1 e.2 ∧ Apart a e.1 := by
    rcases List.mem_append.1 he with q | q
    · exact o.in_ e q
    · exact hM e q
  refine ⟨sl_extX this.1 E hn this.2, ?_⟩
  rcases hc with q | q
  · rw [q]; exact this.2
  · exact ap_lt this.1 q
theorem take_part {α : Type} (s : Nat) (l : List α) (k : Nat) : l.take (k * s) ++ part s l k = l.take ((k + 1) * s) := by
  rw [Nat.add_mul, Nat.one_mul, List.take_add, part]
theorem Apart.ne {b : Nat} {c : Option Addr} (h : Apart (some ⟨b, 0, none⟩) c) (q : c ≠ none) : sb c ≠ b := fun e => by
  rcases h with w | w | w
  · cases w
  · exact q w
  · exact w e.symm
theorem BatR.extW {W : Nat → Prop} {h h1 : AH} {n n1 nn : Nat} {x : BatE} (r : BatR h n x) (E : ExtW W nn h h1) (hn : n ≤ nn) (hn1 : n ≤ n1) (hap : ∀ b, W b → x.Ap (some ⟨b, 0, none⟩)) : BatR h1 n1 x :=
  have key : ∀ {z m : Nat} {c : Option Addr} {f : Nat → Value}, SlR h n c z m f → (∀ b, W b → Apart (some ⟨b, 0, none⟩) c) → SlR h1 n1 c z m f := fun s ha => s.extW (ExtW.mono E hn fun _ _ w => w) hn1 fun q w => Apart.ne (ha _ w) q rfl
  ⟨key r.types fun b w => (hap b w).ta, ⟨key r.cols.out fun b w => (hap b w).ca, fun e he => key (r.cols.in_ e he) fun b w => (hap b w).rows e he⟩, key r.sel fun b w => (hap b w).sa⟩
set_option maxHeartbeats 4000000 in
theorem law_BatchAll (ta ra : Option Addr) (ts : List Ty) (size : Int) (rs0 : List RowE) (m n : Nat) (h : AH) (hT : SlTy h n ta ts) (hR0 : RowsR h n ra rs0) (tl : ts.length ≤ m) (rl : rs0.length ≤ m) (hr0 : ∀ e ∈ rs0, e.2.length ≤ m) (hm : m ≤ 1048576) (hn : 0 < n) (hsz : 0 ≤ size ∧ size < 65536) :
    RF Try.prog none' 8 #[.slice ta ts.length ts.length, .int .u16 size, .slice ra rs0.length rs0.length] n h (fun r _ _ => r = .bool true) := by
  refine RF.of Try.func8 rfl rfl (Nat.le_of_ble_eq_true rfl) ?_; dsimp only [argEnv]
  have hI0 : SlI (h.app (.new n ⟨1, 0, true, 0⟩ [.bool false])) ra 1 rs0.length := SlI.of hR0.out ext
  have hlt : (min (rs0.length : Int) 2048).toNat = min rs0.length 2048 := by omega
  repeat' (first | refine stpS ?_ | (refine stp2 ?_ ?_ <;> intro _) | refine RS.call1 rfl opds (begun_ev _ _) none'W ?_)
  rw [hlt]
  have hR : RowsR h n ra (rs0.take (min rs0.length 2048)) := RowsR.take hR0 (Nat.min_le_left _ _)
  have hrl : (rs0.take (min rs0.length 2048)).length = min rs0.length 2048 := by rw [List.length_take]; omega
  have hr' : ∀ e ∈ rs0.take (min rs0.length 2048), e.2.length ≤ 1099511627776 := fun e he => by have := hr0 e (List.mem_of_mem_take he); omega
  rw [← hrl]
  generalize rs0.take (min rs0.length 2048) = rs at *
  have hrl2 : rs.length ≤ 2048 := by omega
  clear hrl hlt hI0
  have E0 : Ext n h (h.app (.new n ⟨1, 0, true, 0⟩ [.bool false])) := ext
  have i0 : (h.app (.new n ⟨1, 0, true, 0⟩ [.bool false])).info n = some ⟨1, 0, true, 0⟩ := info
  generalize h.app (.new n ⟨1, 0, true, 0⟩ [.bool false]) = g0 at *
  refine RS.call rfl opds (of_rf ta ra ts rs (n + 1) g0 (SlR.ext hT E0 (by omega)) (hR.ext E0 (by omega)) (by omega) (by omega) hr') none'W ?_
  rintro r n1 h1 hle1 ⟨E1, ⟨v, rfl, hmay, hB⟩ | ⟨rfl, hmay⟩⟩
  rotate_left
  · have i0 := (E1.info _ (by omega)).trans i0
    repeat' (first | refine stpS ?_ | (refine stp2 ?_ ?_ <;> intro _))
    rfl
  obtain ⟨ta1, ca1, cs1, sa1, rfl, -⟩ := hB
  skip
  have E1' : Ext n h h1 := E0.trans (by omega) E1
  have i0 := (E1.info _ (by omega)).trans i0
  repeat' (first | refine stpS ?_ | (refine stp2 ?_ ?_ <;> intro _))
  obtain ⟨s, hs⟩ : ∃ s : Nat, size % 2048 + 1 = (s : Int) := ⟨(size % 2048 + 1).toNat, by omega⟩
  have hs1 : 1 ≤ s := by omega
  have hs2 : s ≤ 2048 := by omega
  rw [hs]
  obtain ⟨g2, hg⟩ : ∃ g2, g2 = ((((h1.app (.new n1 ⟨4, 0, true, 0⟩ [.slice none 0 0, .int .i64 0, .slice none 0 0, .slice none 0 0])).app (.sets n1 0 [.slice ta1 (ofB ts (rs.map Prod.snd)).types.length (ofB ts (rs.map Prod.snd)).types.length, .int .i64 (ofB ts (rs.map Prod.snd)).num, .slice ca1 cs1.length cs1.length, .slice sa1 (ofB ts (rs.map Prod.snd)).sel.length (ofB ts (rs.map Prod.snd)).sel.length])).app (.new (n1 + 1) ⟨1, 0, true, 0⟩ [.int .i64 0])).app (.sets (n1 + 1) 0 [.int .i64 (s : Int)])).app (.new (n1 + 1 + 1) ⟨1, 0, true, 0⟩ [.slice none 0 0]) := ⟨_, rfl⟩
  refine RS.heap hg ?_
  have E2 : Ext n1 h1 g2 := by rw [hg]; exact ext
  have k9 : g2.cell (n1 + 1) 0 = .int .i64 (s : Int) := by rw [hg]; exact cell
  have k10 : g2.cell (n1 + 1 + 1) 0 = .slice none 0 0 := by rw [hg]; exact cell
  have i10 : g2.info (n1 + 1 + 1) = some ⟨1, 0, true, 0⟩ := by rw [hg]; exact info
  clear hg
  have E2' : Ext n h g2 := E1'.trans (by omega) E2
  have i0 := (E2.info _ (by omega)).trans i0
  refine RS.call rfl opds (cut_rf ta ra ts s rs (n1 + 1 + 1 + 1) g2 (SlR.ext hT E2' (by omega)) (hR.ext E2' (by omega)) (by omega) (by omega) hr' (by omega)) none'W ?_
  rintro r n3 h3 hle3 ⟨E3, q, a, L, rfl, hq1, hq2, hq3, hL, hLp, haa, hLa⟩
  have hcm : cutMay ts s (rs.map Prod.snd) := (cutMay_iff hs1 hs2).2 fun r hr => ofMay_sub hmay (fun x hx => by simp only [List.mem_cons, List.not_mem_nil, or_false] at hx; subst hx; exact hr) (List.length_pos_of_mem hr)
  have hpn : partsN s (rs.map Prod.snd).length = partsN s rs.length := by rw [List.length_map]
  have hLp : L.map BatE.plain = cutB ts s (rs.map Prod.snd) (partsN s rs.length) := by
    rw [hLp, cutP, if_pos hcm, show partsN (↑s : Int).toNat (rs.map Prod.snd).length = partsN s rs.length from hpn]; rfl
  have hLl : L.length = partsN s rs.length := by have := congrArg List.length hLp; simpa [cutB] using this
  have hsm : ∀ b ∈ L, b.plain.Sm := fun b hb => by
    have : b.plain ∈ cutB ts s (rs.map Prod.snd) (partsN s rs.length) := by rw [← hLp]; exact List.mem_map_of_mem hb
    simp only [cutB, List.mem_map] at this
    obtain ⟨k, -, q⟩ := this
    rw [← q]; exact ofB_sm (by omega) (by rw [part_length, List.length_map]; omega)
  have hpl : partsN s rs.length ≤ rs.length := by
    refine Nat.le_of_not_lt fun w => ?_
    have := (partsN_lt (size := s) (len := rs.length) (k := rs.length) (by omega)).1 w
    have := Nat.le_mul_of_pos_right rs.length (show 0 < s by omega)
    omega
  have hit := cut1_iter q a L (by omega) hsm
  have hK3 : CutK q a L n3 h3 := ⟨hq2, hq3, hL⟩
  have E3' : Ext n h h3 := E2'.trans (by omega) E3
  have k9 := c_ext E3 (by omega) k9
  have k10 := c_ext E3 (by omega) k10
  have i10 := (E3.info _ (by omega)).trans i10
  have i0 := (E3.info _ (by omega)).trans i0
  repeat' (first | refine stpS ?_ | (refine stp2 ?_ ?_ <;> intro _))
  refine RC.rangeFunc opd (env0 := [(6, .pointer (some ⟨n, 0, none⟩)), (9, .pointer (some ⟨n1 + 1, 0, none⟩)), (10, .pointer (some ⟨n1 + 1 + 1, 0, none⟩)), (2, .slice ra rs.length rs.length)]) envs (W := fun b => b = n1 + 1 + 1 ∨ n3 ≤ b) (by intro b hb; first | omega | (dsimp only at hb ⊢; omega) | (dsimp only at hb; omega) | (dsimp only; omega)) ?_
  intro A hA
  refine (hit _ _
    (fun i n6 h6 => n3 + 1 ≤ n6 ∧ ExtW (fun b => b = n1 + 1 + 1 ∨ b = n3) (n3 + 1) (h3.app (.obj n3 (.loop A))) h6 ∧ h6.info n3 = some (AObj.loop A).m ∧ h6.info (n1 + 1 + 1) = some ⟨1, 0, true, 0⟩ ∧ i ≤ partsN s rs.length ∧
      ∃ c G, h6.cell (n1 + 1 + 1) 0 = .slice c G.length G.length ∧ RowsO h6 (n3 + 1) n6 c G ∧ G.map Prod.snd = (rs.map Prod.snd).take (i * s) ∧ ∀ e ∈ G, Apart (some ⟨n1 + 1 + 1, 0, none⟩) e.1)
    (fun _ _ => False) _ _ ⟨?_, ?_⟩ ?_ ?_ (by omega)).mono ?_
  · rintro i n6 h6 n7 h7 ⟨q1, q2, q3, q4, q5, c, G, q6, q7, q8, q9⟩ hn hE
    exact ⟨by omega, extW, (hE.info _ (by omega)).trans q3, (hE.info _ (by omega)).trans q4, q5, c, G, c_ext hE (by omega) q6, q7.ext hE hn, q8, q9⟩
  · rintro i vs n6 h6 hil ⟨x, rfl, hx, hxr⟩ ⟨q1, q2, q3, q4, q5, c, G, q6, q7, q8, q9⟩
    have hxp : x.plain = ofB ts (part s (rs.map Prod.snd) i) := by
      have h1 : (L.map BatE.plain)[i]? = some x.plain := by rw [List.getElem?_map]; exact hx
      rw [hLp] at h1
      have hi2 : i < partsN s rs.length := by omega
      simp only [cutB, List.getElem?_map, List.getElem?_range hi2, Option.map_some, Option.some.injEq] at h1
      exact h1.symm
    have hib : i < partsN s rs.length := by omega
    have his := (partsN_lt (size := s) (len := rs.length) (k := i) (by omega)).1 hib
    have hmk : ofMay ts (part s (rs.map Prod.snd) i) := hcm.2.2 i (by show i < partsN s _; rw [hpn]; exact hib)
    have hplen : (part s (rs.map Prod.snd) i).length = min s (rs.length - i * s) := by rw [part_length, List.length_map]
    have sm : x.Sm := Bat.Sm.of (by rw [hxp]; exact ofB_sm (by omega) (by omega))
    refine VF.yield1 hA q3 rfl (.inr (Nat.le_refl _)) (by omega) ?_
    repeat' (first | refine stpS ?_ | (refine stp2 ?_ ?_ <;> intro _))
    obtain ⟨g7, hg⟩ : ∃ g7, g7 = ((h6.app (.new n6 ⟨4, 0, true, 0⟩ [.slice none 0 0, .int .i64 0, .slice none 0 0, .slice none 0 0])).app (.sets n6 0 [.slice x.ta x.types.length x.types.length, .int .i64 x.num, .slice x.ca x.cols.length x.cols.length, .slice x.sa x.sel.length x.sel.length])).app (.obj n3 (.loop A.busy)) := ⟨_, rfl⟩
    refine RS.heap hg ?_
    have e67 : Ext n6 h6 ((h6.app (.new n6 ⟨4, 0, true, 0⟩ [.slice none 0 0, .int .i64 0, .slice none 0 0, .slice none 0 0])).app (.sets n6 0 [.slice x.ta x.types.length x.types.length, .int .i64 x.num, .slice x.ca x.cols.length x.cols.length, .slice x.sa x.sel.length x.sel.length])) := ext
    have E67 : ExtW (fun b => b = n3) n6 h6 g7 := by
      rw [hg]
      exact ExtW.appObj (.inl rfl) (ExtW.of e67 (Nat.le_refl _))
    have xr : BatR g7 (n6 + 1) x := by
      rw [hg]
      exact (hxr.ext e67 (Nat.le_succ n6)).obj ((e67.info _ (by omega)).trans q3) rfl
    have j10 : g7.info (n1 + 1 + 1) = some ⟨1, 0, true, 0⟩ := by rw [hg]; exact info
    have j3 : g7.info n3 = some (AObj.loop A.busy).m := by rw [hg]; exact info
    have c10 : g7.cell (n1 + 1 + 1) 0 = .slice c G.length G.length := by rw [hg]; exact cell
    have hG7 : RowsO g7 (n3 + 1) n6 c G := by
      refine ⟨extW_own q7.out E67 (Nat.le_refl _) (fun b z1 z2 z3 => by omega), fun e he => ?_⟩
      rw [hg]
      exact ⟨SlR.obj (SlR.ext (q7.in_ e he).1 e67 (Nat.le_refl _)) ((e67.info _ (by omega)).trans q3) rfl (by decide), (q7.in_ e he).2⟩
    have EW7 : ExtW (fun b => b = n1 + 1 + 1 ∨ b = n3) (n3 + 1) (h3.app (.obj n3 (.loop A))) g7 := q2.trans E67 (by omega) (fun x _ w => .inr w)
    have c9 : g7.cell (n1 + 1) 0 = .int .i64 (s : Int) := c_extW EW7 (by omega) (by omega) (c_obj k9)
    clear hg e67 E67
    refine RS.call rfl opds (rowsF_rf x.ta x.ca x.sa x.types x.num x.cols x.sel (n6 + 1) g7 xr.types xr.cols xr.sel sm.r sm.s) none'W ?_
    rintro r n8 h8 hle8 ⟨E8, ⟨a8, L8, rfl, -, R8, e8, f8⟩ | ⟨-, w⟩⟩
    rotate_left
    · exact absurd (may_iff.2 (by show x.plain.may; rw [hxp]; exact hmk.2)) w
    have e8 : L8.map Prod.snd = part s (rs.map Prod.snd) i := by
      rw [e8, rowsP_eq (ts := x.types) (N := x.num)]
      show x.plain.rows = _
      rw [hxp, rows_ofB hmk.1]
    have hL8 : L8.length = min s (rs.length - i * s) := by rw [← hplen, ← e8, List.length_map]
    have j10 := (E8.info _ (by omega)).trans j10
    have j3 := (E8.info _ (by omega)).trans j3
    have c9 := c_ext E8 (by omega) c9
    have c10 := c_ext E8 (by omega) c10
    have hGl : G.length ≤ rs.length := by
      have := congrArg List.length q8
      simp only [List.length_map, List.length_take] at this
      omega
    repeat' (first | refine stpS ?_ | (refine stp2 ?_ ?_ <;> intro _))
    have hG8 := hG7.ext (E8.mono (Nat.le_succ n6)) (by omega : n6 ≤ n8)
    refine RS.append rfl opd opd hG8.out R8.src full_slice (fun b hb => .inl (.inr (by omega))) (by omega) ?_
    intro c' n9 h9 hle9 hO9 hX9 hwh
    have hcn : ∀ y, y ≤ n3 → c = none ∨ y ≠ sb c := fun y hy => q7.out.at'.imp id fun w => by omega
    have j10' : h9.info (n1 + 1 + 1) = some ⟨1, 0, true, 0⟩ := i_extX hX9 (by omega) (hcn _ (by omega)) j10
    have j3' : h9.info n3 = some (AObj.loop A.busy).m := i_extX hX9 (by omega) (hcn _ (Nat.le_refl _)) j3
    have hG9 : RowsO h9 (n3 + 1) n9 c' (G ++ L8) := hG8.append (fun e he => ⟨R8.in_ e he, Apart.of (q7.out.at'.imp id fun w => w.2) ((f8 e he).imp id fun w => by omega)⟩) hX9 hle9 hO9 hwh
    have EW9 : ExtW (fun b => b = n1 + 1 + 1 ∨ b = n3) (n3 + 1) (h3.app (.obj n3 (.loop A))) h9 := (EW7.then E8 (by omega)).then (hX9.ext hG8.out) (Nat.le_refl _)
    have hap10 : ∀ e ∈ G ++ L8, Apart (some ⟨n1 + 1 + 1, 0, none⟩) e.1 := fun e he => by
      rcases List.mem_append.1 he with w | w
      · exact q9 e w
      · exact Apart.of (n := n6) (.inr (show n1 + 1 + 1 < n6 by omega)) ((f8 e w).imp id fun w => by omega)
    have hn9 : n1 + 1 + 1 < n9 := by omega
    repeat' (first | refine stpS ?_ | (refine stp2 ?_ ?_ <;> intro _))
    refine .inl ⟨rfl, by omega, extW, info, info, hib, c', G ++ L8, ?_, ?_, ?_, hap10⟩
    · rw [List.length_append]; exact cell
    · have h9s : RowsO (h9.app (.sets (n1 + 1 + 1) 0 [.slice c' (G.length + L8.length) (G.length + L8.length)])) (n3 + 1) n9 c' (G ++ L8) := by
        have E : ExtX n9 (some ⟨n1 + 1 + 1, 0, none⟩) h9 (h9.app (.sets (n1 + 1 + 1) 0 [.slice c' (G.length + L8.length) (G.length + L8.length)])) := fun y _ hy => by
          have hne : y ≠ n1 + 1 + 1 := hy.resolve_left (by simp)
          exact ⟨sets_info _ _ _ _ _, fun i => by simp [AH.app, Dl.sets, hne]⟩
        exact ⟨hG9.out.sets (by omega), fun e he => ⟨sl_extX (hG9.in_ e he).1 E (Nat.le_refl _) (hap10 e he), (hG9.in_ e he).2⟩⟩
      exact ⟨extW_own h9s.out (ExtW.appObj (W := fun b => b = n3) (.inl rfl) (ExtW.refl _ n9 _)) (Nat.le_refl _) (fun b z1 z2 z3 => by omega), fun e he => ⟨SlR.obj (h9s.in_ e he).1 (i_sets j3') rfl (by decide), (h9s.in_ e he).2⟩⟩
    · rw [List.map_append, q8, e8, take_part]
  · rintro i n6 h6 ⟨q1, q2, q3, q4, q5, c, G, q6, q7, q8, q9⟩
    have e1 : ExtW (fun b => b = n1 + 1 + 1 ∨ b = n3) n3 h3 h6 := extW
    refine ⟨by omega, c_extW q2 (by omega) (by omega) (c_obj hK3.2.1), ?_⟩
    have hapL : ∀ b ∈ L, ∀ y, (y = n1 + 1 + 1 ∨ y = n3) → b.Ap (some ⟨y, 0, none⟩) := fun b hb y hy => by
      rcases hy with rfl | rfl
      · exact hLa b hb _ (.inr (show n1 + 1 + 1 < n1 + 1 + 1 + 1 by omega))
      · exact (hL.in_ b hb).ap (Nat.le_refl _)
    refine ⟨hL.out.extW e1 (by omega) (fun w z => ?_), fun b hb => (hL.in_ b hb).extW e1 (Nat.le_refl _) (by omega) (hapL b hb)⟩
    have h1 := haa.resolve_left w
    have h2 := hL.out.ltA w
    omega
  · refine ⟨by omega, extW, info, info, Nat.zero_le _, none, [], cell, RowsO.nil (Nat.le_refl _), by simp, fun e he => by cases he⟩
  · rintro r n6 h6 (⟨q1, q2, q3, q4, q5, c, G, q6, q7, q8, q9⟩ | w)
    · refine rangeC.normal q3 ?_
      have EF : ExtW (fun b => b = n1 + 1 + 1 ∨ b = n3) n3 h3 (h6.app (.obj n3 (.loop A.over))) := extW
      have EF' : Ext n h (h6.app (.obj n3 (.loop A.over))) := E3'.trans (Nat.le_refl n) (EF.extM (m := n) (by omega) (fun b w => by omega))
      have hGf : RowsR (h6.app (.obj n3 (.loop A.over))) n6 c G := by
        refine ⟨(extW_own q7.out (ExtW.appObj (W := fun b => b = n3) (.inl rfl) (ExtW.refl _ n6 _)) (Nat.le_refl _) (fun b z1 z2 z3 => by omega)).slr, fun e he => SlR.obj (q7.in_ e he).1 q3 rfl (by decide)⟩
      have hGe : G.map Prod.snd = rs.map Prod.snd := by
        rw [q8, List.take_of_length_le]
        have := fun w => (partsN_lt (size := s) (len := rs.length) (k := L.length) (by omega)).2 w
        rw [List.length_map]
        refine Nat.le_of_not_lt fun w => ?_
        have := this w
        omega
      have hGl : G.length = rs.length := by have := congrArg List.length hGe; simpa using this
      have hsr := refSameRows_ev G rs c ra n6 _ hGf (hR.ext EF' (by omega)) (by omega) (fun e he => by
        have : e.2 ∈ rs.map Prod.snd := by rw [← hGe]; exact List.mem_map_of_mem he
        obtain ⟨y, hy, hye⟩ := List.mem_map.1 this
        rw [← hye]; exact hr' y hy)
      rw [decide_eq_true hGe] at hsr
      repeat' (first | refine stpS ?_ | (refine stp2 ?_ ?_ <;> intro _) | refine RS.call1 rfl opds (hsr) none'W ?_)
      rfl
    · exact w.elim
end Go.Proofs.Ytaagbfpbbhaclaa
