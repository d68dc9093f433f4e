/- Contracts of batches: batches of rows' parts. -/
import Derived.Test.YtaagbfpbbhaclaaQ
set_option linter.unusedSimpArgs false
set_option linter.unusedVariables false
namespace Go.Proofs.Ytaagbfpbbhaclaa
open Go.Abs

def BatE.plain (b : BatE) : Bat := ⟨b.types, b.num, b.cols.map Prod.snd, b.sel⟩
/-- The block of a is none of the batch's. -/
structure BatE.Ap (a : Option Addr) (b : BatE) : Prop where
  ta : Apart a b.ta
  ca : Apart a b.ca
  sa : Apart a b.sa
  rows : ∀ e ∈ b.cols, Apart a e.1
theorem ap_lt {h : AH} {n z m : Nat} {a c : Option Addr} {f : Nat → Value} (s : SlR h n c z m f) (ha : n ≤ sb a) : Apart a c := by
  by_cases q : c = none
  · exact .inr (.inl q)
  · have := s.ltA q
    exact .inr (.inr (by omega))
theorem BatR.ap {h : AH} {n : Nat} {a : Option Addr} {b : BatE} (r : BatR h n b) (ha : n ≤ sb a) : b.Ap a := ⟨ap_lt r.types ha, ap_lt r.cols.out ha, ap_lt r.sel ha, fun e he => ap_lt (r.cols.in_ e he) ha⟩
theorem sl_extX {h h1 : AH} {n n1 z m : Nat} {a c : Option Addr} {f : Nat → Value} (s : SlR h n c z m f) (E : ExtX n a h h1) (hn : n ≤ n1) (ap : Apart a c) : SlR h1 n1 c z m f :=
  SlR.ext (SlR.extX s E (ap.elim .inl fun q => q.elim (.inr ∘ .inl) fun q => .inr (.inr (Ne.symm q)))) (Ext.refl _ _) hn
theorem BatR.extX {h h1 : AH} {n n1 : Nat} {a : Option Addr} {b : BatE} (r : BatR h n b) (E : ExtX n a h h1) (hn : n ≤ n1) (ap : b.Ap a) : BatR h1 n1 b :=
  ⟨sl_extX r.types E hn ap.ta, ⟨sl_extX r.cols.out E hn ap.ca, fun e he => sl_extX (r.cols.in_ e he) E hn (ap.rows e he)⟩, sl_extX r.sel E hn ap.sa⟩
theorem SlR.obj {h : AH} {n z m b : Nat} {c : Option Addr} {f : Nat → Value} {mm : Meta} {o : AObj} (s : SlR h n c z m f) (hi : h.info b = some mm) (h0 : mm.sz = 0) (hz : z ≠ 0) : SlR (h.app (.obj b o)) n c z m f := by
  refine ⟨?_, fun j hj => c_obj (s.cell j hj)⟩
  rcases s.shape with k | ⟨k1, k2, m2, k3, k4⟩
  · exact .inl k
  · refine .inr ⟨k1, k2, m2, i_obj_ne (fun e => ?_) k3, k4⟩
    rw [e, hi] at k3; cases k3
    exact hz (k4.symm.trans h0)
theorem BatR.obj {h : AH} {n b : Nat} {x : BatE} {mm : Meta} {o : AObj} (r : BatR h n x) (hi : h.info b = some mm) (h0 : mm.sz = 0) : BatR (h.app (.obj b o)) n x :=
  ⟨SlR.obj r.types hi h0 (by decide), ⟨SlR.obj r.cols.out hi h0 (by decide), fun e he => SlR.obj (r.cols.in_ e he) hi h0 (by decide)⟩, SlR.obj r.sel hi h0 (by decide)⟩
theorem RowsR.sets_ {h : AH} {n b o : Nat} {a : Option Addr} {L : List RowE} {vs : List Value} (r : RowsR h n a L) (h1 : Apart (some ⟨b, 0, none⟩) a) (h2 : ∀ e ∈ L, Apart (some ⟨b, 0, none⟩) e.1) : RowsR (h.app (.sets b o vs)) n a L :=
  have E : ExtX n (some ⟨b, 0, none⟩) h (h.app (.sets b o vs)) := fun x _ hx => by
    have hne : x ≠ b := hx.resolve_left (by simp)
    exact ⟨sets_info _ _ _ _ _, fun i => by simp [AH.app, Dl.sets, hne]⟩
  ⟨sl_extX r.out E (Nat.le_refl _) h1, fun e he => sl_extX (r.in_ e he) E (Nat.le_refl _) (h2 e he)⟩
theorem BatR.sets {h : AH} {n b o : Nat} {x : BatE} {vs : List Value} (r : BatR h n x) (ap : x.Ap (some ⟨b, 0, none⟩)) : BatR (h.app (.sets b o vs)) n x :=
  have E : ExtX n (some ⟨b, 0, none⟩) h (h.app (.sets b o vs)) := fun x _ hx => by
    have hne : x ≠ b := hx.resolve_left (by simp)
    exact ⟨sets_info _ _ _ _ _, fun i => by simp [AH.app, Dl.sets, hne]⟩
  r.extX E (Nat.le_refl _) ap
/-- A row of batches. -/
structure BatsR (h : AH) (n : Nat) (a : Option Addr) (L : List BatE) : Prop where
  out : SlR h n a 4 L.length (fun j => (L.flatMap BatE.cells).getD j (.tuple #[]))
  in_ : ∀ b ∈ L, BatR h n b
theorem BatsR.ext {h h1 : AH} {n n1 : Nat} {a : Option Addr} {L : List BatE} (r : BatsR h n a L) (E : Ext n h h1) (hn : n ≤ n1) : BatsR h1 n1 a L := ⟨SlR.ext r.out E hn, fun b hb => (r.in_ b hb).ext E hn⟩
/-- One's own row of batches that are apart from it. -/
structure BatsO (h : AH) (lo n : Nat) (a : Option Addr) (L : List BatE) : Prop where
  out : OwnSl h lo n a 4 L.length (L.flatMap BatE.cells)
  in_ : ∀ b ∈ L, BatR h n b ∧ b.Ap a
theorem BatsO.bats {h : AH} {lo n : Nat} {a : Option Addr} {L : List BatE} (o : BatsO h lo n a L) : BatsR h n a L := ⟨o.out.slr, fun b hb => (o.in_ b hb).1⟩
theorem BatsO.nil {h : AH} {lo n : Nat} (hn : lo ≤ n) : BatsO h lo n none [] := ⟨OwnSl.nil hn, fun b hb => (by cases hb)⟩
theorem BatsO.ext {h h1 : AH} {lo n n1 : Nat} {a : Option Addr} {L : List BatE} (r : BatsO h lo n a L) (E : Ext n h h1) (hn : n ≤ n1) : BatsO h1 lo n1 a L := ⟨r.out.ext E hn, fun b hb => ⟨(r.in_ b hb).1.ext E hn, (r.in_ b hb).2⟩⟩
theorem BatsO.push {h h1 : AH} {lo n n1 : Nat} {a c : Option Addr} {L : List BatE} {b : BatE} (r : BatsO h lo n a L) (hb : BatR h n b) (ap : b.Ap a) (E : ExtX n a h h1) (hn : n ≤ n1) (o : OwnSl h1 lo n1 c 4 (L.length + 1) (L.flatMap BatE.cells ++ b.cells)) (hc : c = a ∨ n ≤ sb c) : BatsO h1 lo n1 c (L ++ [b]) := by
  refine ⟨?_, fun x hx => ?_⟩
  · rw [List.length_append, List.flatMap_append]
    simpa using o
  · have : BatR h n x ∧ x.Ap a := by
      rcases List.mem_append.1 hx with q | q
      · exact r.in_ x q
      · simp only [List.mem_cons, List.not_mem_nil, or_false] at q
        subst q; exact ⟨hb, ap⟩
    refine ⟨this.1.extX E hn this.2, ?_⟩
    rcases hc with q | q
    · rw [q]; exact this.2
    · exact this.1.ap q
theorem IsBat.batE {b : Bat} {n0 n : Nat} {v : Value} {h : AH} (o : IsBat b n0 v n h) : ∃ x : BatE, v = .agg x.cells.toArray ∧ x.plain = b ∧ BatR h n x ∧ ∀ a : Option Addr, (a = none ∨ sb a < n0) → x.Ap a := by
  obtain ⟨ta, ca, cs, sa, rfl, hc, hB⟩ := o
  refine ⟨⟨ta, b.types, b.num, ca, cs, sa, b.sel⟩, rfl, ?_, ⟨hB.types.slr, OwnRR.rowsR hB.cols, OwnSl.slN hB.sel⟩, fun a ha => ?_⟩
  · unfold BatE.plain; dsimp only; rw [hc]
  · have key : ∀ {z m : Nat} {c : Option Addr} {vs : List Value}, OwnSl h n0 n c z m vs → Apart a c := fun oc => Apart.of ha (oc.at'.imp id fun w => w.1)
    refine ⟨key hB.types, key hB.cols.out, key hB.sel, fun e he => ?_⟩
    obtain ⟨i, hi⟩ := List.getElem?_of_mem he
    exact key (hB.cols.inn i (rowO e) (by rw [List.getElem?_map, hi]; rfl))
/-- The batches of rows' parts. -/
def cutB (ts : List Ty) (size : Nat) (rs : List (List Val)) (k : Nat) : List Bat := (List.range k).map fun j => ofB ts (part size rs j)
def cutMay (ts : List Ty) (size : Int) (rs : List (List Val)) : Prop := 1 ≤ size ∧ size ≤ 2048 ∧ ∀ k, k < partsN size.toNat rs.length → ofMay ts (part size.toNat rs k)
open Classical in
noncomputable def cutP (ts : List Ty) (size : Int) (rs : List (List Val)) : List Bat := if cutMay ts size rs then cutB ts size.toNat rs (partsN size.toNat rs.length) else []
theorem cutB_succ (ts : List Ty) (size : Nat) (rs : List (List Val)) (k : Nat) : cutB ts size rs (k + 1) = cutB ts size rs k ++ [ofB ts (part size rs k)] := by simp [cutB, List.range_succ]
set_option maxHeartbeats 4000000 in
theorem chunk_rf (ra : Option Addr) (m : Nat) (size : Int) (n : Nat) (h : AH) (hs : 1 ≤ size) :
    RF Try.prog none' 41 #[.slice ra m m, .int .i64 size] n h (fun r n' h' => r = .func (.func 61) #[] #[.pointer (some ⟨n, 0, none⟩), .pointer (some ⟨n + 1, 0, none⟩)] ∧ n + 1 < n' ∧ Ext n h h' ∧ h'.cell n 0 = .slice ra m m ∧ h'.cell (n + 1) 0 = .int .i64 size) := by
  refine RF.of Try.func41 rfl rfl (Nat.le_of_ble_eq_true rfl) ?_; dsimp only [argEnv]
  repeat' (first | refine stpS ?_ | (refine stp2 ?_ ?_ <;> intro _))
  exact ⟨rfl, by omega, ext, cell, cell⟩
set_option maxHeartbeats 4000000 in
theorem cut_rf (ta ra : Option Addr) (ts : List Ty) (size : Int) (rs : List RowE) (n : Nat) (h : AH) (BT : SlTy h n ta ts) (BR : RowsR h n ra rs) (hT : ts.length ≤ 1099511627776) (hR : rs.length ≤ 1099511627776) (hr : ∀ e ∈ rs, e.2.length ≤ 1099511627776) (hn0 : 0 < n) :
    RF Try.prog none' 23 #[.slice ta ts.length ts.length, .int .i64 size, .slice ra rs.length rs.length] n h (fun r n' h' => Ext n h h' ∧ ∃ q a L, r = .func (.func 42) #[] #[.pointer (some ⟨q, 0, none⟩)] ∧ n ≤ q ∧ q < n' ∧ h'.cell q 0 = .slice a L.length L.length ∧ BatsR h' n' a L ∧ L.map BatE.plain = cutP ts size (rs.map Prod.snd) ∧ (a = none ∨ n ≤ sb a) ∧ ∀ b ∈ L, ∀ c : Option Addr, (c = none ∨ sb c < n) → b.Ap c) := by
  refine RF.of Try.func23 rfl rfl (Nat.le_of_ble_eq_true rfl) ?_; dsimp only [argEnv]
  by_cases s1 : 1 ≤ size
  rotate_left
  · repeat' (first | refine stpS ?_ | (refine stp2 ?_ ?_ <;> intro _))
    refine ⟨ext, n + 1, none, [], rfl, by omega, by omega, cell, ⟨SlR.nil, fun b hb => by cases hb⟩, ?_, .inl rfl, fun b hb => by cases hb⟩
    rw [cutP, if_neg (fun q => s1 q.1)]; rfl
  by_cases s2 : size ≤ 2048
  rotate_left
  · repeat' (first | refine stpS ?_ | (refine stp2 ?_ ?_ <;> intro _))
    refine ⟨ext, n + 1, none, [], rfl, by omega, by omega, cell, ⟨SlR.nil, fun b hb => by cases hb⟩, ?_, .inl rfl, fun b hb => by cases hb⟩
    rw [cutP, if_neg (fun q => s2 q.2.1)]; rfl
  obtain ⟨s, rfl⟩ : ∃ s : Nat, size = (s : Int) := ⟨size.toNat, by omega⟩
  repeat' (first | refine stpS ?_ | (refine stp2 ?_ ?_ <;> intro _))
  obtain ⟨g, hg⟩ : ∃ g, g = (h.app (.new n ⟨1, 0, true, 0⟩ [.slice ta ts.length ts.length])).app (.new (n + 1) ⟨1, 0, true, 0⟩ [.slice none 0 0]) := ⟨_, rfl⟩
  refine RS.heap hg ?_
  have E0 : Ext n h g := by rw [hg]; exact ext
  have k0 : g.cell n 0 = .slice ta ts.length ts.length := by rw [hg]; exact cell
  have k1 : g.cell (n + 1) 0 = .slice none 0 0 := by rw [hg]; exact cell
  have ki : g.info (n + 1) = some ⟨1, 0, true, 0⟩ := by rw [hg]; exact info
  clear hg
  refine RS.call rfl opds (chunk_rf ra rs.length s (n + 1 + 1) g s1) none'W ?_
  rintro r n1 h1 hle1 ⟨rfl, hn1, E1, c0, c1⟩
  have E1' : Ext n h h1 := E0.trans (by omega) E1
  have k0 := c_ext E1 (by omega) k0
  have k1 := c_ext E1 (by omega) k1
  have ki := (E1.info _ (by omega)).trans ki
  repeat' (first | refine stpS ?_ | (refine stp2 ?_ ?_ <;> intro _))
  refine RC.rangeFunc opd (env0 := [(3, .pointer (some ⟨n, 0, none⟩)), (7, .pointer (some ⟨n + 1, 0, none⟩))]) envs (W := fun b => b = n + 1 ∨ n1 ≤ b) (by intro b hb; first | omega | (dsimp only at hb ⊢; omega) | (dsimp only at hb; omega) | (dsimp only; omega)) ?_
  intro A hA
  have hpv : (partsV ra s rs).length = partsN s rs.length := by simp [partsV]
  refine (chunk1_iter (n + 1 + 1) (n + 1 + 1 + 1) ra s rs (by omega) (by omega) hR _ _
    (fun k n6 h6 => n1 + 1 ≤ n6 ∧ ExtW (fun b => b = n + 1 ∨ b = n1) (n1 + 1) (h1.app (.obj n1 (.loop A))) h6 ∧ h6.info n1 = some (AObj.loop A).m ∧ h6.info (n + 1) = some ⟨1, 0, true, 0⟩ ∧ k ≤ partsN s rs.length ∧ (∀ j, j < k → ofMay ts (part s (rs.map Prod.snd) j)) ∧
      ∃ a L, h6.cell (n + 1) 0 = .slice a k k ∧ BatsO h6 (n1 + 1) n6 a L ∧ L.map BatE.plain = cutB ts s (rs.map Prod.snd) k ∧ ∀ b ∈ L, ∀ c : Option Addr, (c = none ∨ sb c ≤ n + 1) → b.Ap c)
    (fun n6 h6 => n1 + 1 ≤ n6 ∧ ExtW (fun b => b = n + 1 ∨ b = n1) (n1 + 1) (h1.app (.obj n1 (.loop A))) h6 ∧ h6.info n1 = some (AObj.loop (A.at (some (.exit 0)))).m ∧ h6.cell (n + 1) 0 = .slice none 0 0 ∧ ∃ j, j < partsN s rs.length ∧ ¬ ofMay ts (part s (rs.map Prod.snd) j)) _ _ ⟨?_, ?_⟩ ?_ ?_ (by omega)).mono ?_
  · rintro k n6 h6 n7 h7 ⟨q1, q2, q3, q4, q5, q6, a, L, q7, q8, q9, q10⟩ hn hE
    exact ⟨by omega, extW, (hE.info _ (by omega)).trans q3, (hE.info _ (by omega)).trans q4, q5, q6, a, L, c_ext hE (by omega) q7, q8.ext hE hn, q9, q10⟩
  · rintro k vs n6 h6 hv ⟨q1, q2, q3, q4, q5, q6, a, L, q7, q8, q9, q10⟩
    have hkl : k < partsN s rs.length := by
      have := (List.getElem?_eq_some_iff.1 hv).1
      rw [hpv] at this; exact this
    have hks := (partsN_lt (size := s) (len := rs.length) (k := k) (by omega)).1 hkl
    have hvs : vs = [.slice (Abs.sub ra (k * s)) (part s rs k).length (part s rs k).length] := by
      simp only [partsV, List.getElem?_map, List.getElem?_range hkl, Option.map_some, Option.some.injEq] at hv
      exact hv.symm
    subst hvs
    have hkk : k ≤ k * s := Nat.le_mul_of_pos_right k (by omega)
    have EW : ExtW (fun b => b = n + 1 ∨ b = n1) n1 h1 (h6.app (.obj n1 (.loop A.busy))) := extW
    have E6 : Ext n h (h6.app (.obj n1 (.loop A.busy))) := E1'.trans (Nat.le_refl _) (EW.extM (by omega) (fun b q => by omega))
    have hpe : (rs.drop (k * s)).take (min (k * s + s) rs.length - k * s) = part s rs k := part_eq
    have BR6 := (BR.ext E6 (by omega : n ≤ n6)).sub (i := k * s) (u := min (k * s + s) rs.length) (by omega) (Nat.min_le_right _ _)
    rw [hpe] at BR6
    have hpl := part_length s rs k
    have hmem : ∀ e ∈ part s rs k, e ∈ rs := fun e he => List.mem_of_mem_drop (List.mem_of_mem_take he)
    have hof := of_rf ta (Abs.sub ra (k * s)) ts (part s rs k) n6 (h6.app (.obj n1 (.loop A.busy))) (SlR.ext BT E6 (by omega)) BR6 hT (by omega) (fun e he => hr e (hmem e he))
    rw [← part_map] at hof
    have k0' : (h6.app (.obj n1 (.loop A.busy))).cell n 0 = .slice ta ts.length ts.length := c_extW EW (by omega) (by omega) k0
    have kj : (h6.app (.obj n1 (.loop A.busy))).info (n + 1) = some ⟨1, 0, true, 0⟩ := i_obj_ne (by omega) q4
    have ko : (h6.app (.obj n1 (.loop A.busy))).info n1 = some (AObj.loop A.busy).m := i_obj
    have kc : (h6.app (.obj n1 (.loop A.busy))).cell (n + 1) 0 = .slice a k k := c_obj q7
    have kb : BatsO (h6.app (.obj n1 (.loop A.busy))) (n1 + 1) n6 a L := by
      have e : ExtW (fun b => b = n1) n6 h6 (h6.app (.obj n1 (.loop A.busy))) := ExtW.appObj (.inl rfl) (ExtW.refl _ _ _)
      refine ⟨extW_own q8.out e (Nat.le_refl _) (fun b z1 z2 z3 => by omega), fun b hb => ?_⟩
      obtain ⟨z1, z2⟩ := q8.in_ b hb
      exact ⟨z1.obj q3 rfl, z2⟩
    have EW2 : ExtW (fun b => b = n + 1 ∨ b = n1) (n1 + 1) (h1.app (.obj n1 (.loop A))) (h6.app (.obj n1 (.loop A.busy))) := extW
    refine VF.yield1 hA q3 rfl (.inr (Nat.le_refl _)) (by omega) ?_
    repeat' (first | refine stpS ?_ | (refine stp2 ?_ ?_ <;> intro _))
    generalize h6.app (.obj n1 (.loop A.busy)) = g6 at *
    refine RS.call rfl opds hof none'W ?_
    rintro r n7 h7 hle7 ⟨E7, ⟨v, rfl, hmay, hB⟩ | ⟨rfl, hmay⟩⟩
    · obtain ⟨x, rfl, hxp, hxr, hxa⟩ := IsBat.batE hB
      dsimp only [BatE.cells]
      have hLl : L.length = k := by have := congrArg List.length q9; simpa [cutB] using this
      have kj7 := (E7.info _ (by omega)).trans kj
      have ko7 := (E7.info _ (by omega)).trans ko
      have kc7 := c_ext E7 (by omega) kc
      repeat' (first | refine stpS ?_ | (refine stp2 ?_ ?_ <;> intro _))
      obtain ⟨g8, hg⟩ : ∃ g8, g8 = ((h7.app (.new n7 ⟨4, 0, true, 0⟩ [.slice none 0 0, .int .i64 0, .slice none 0 0, .slice none 0 0])).app (.sets n7 0 x.cells)).app (.new (n7 + 1) ⟨4, 0, true, 4⟩ x.cells) := ⟨_, rfl⟩
      refine RS.heap hg ?_
      have E8 : Ext n7 h7 g8 := by rw [hg]; exact ext
      have hnew : OwnSl g8 (n7 + 1) (n7 + 1 + 1) (some ⟨n7 + 1, 0, none⟩) 4 1 x.cells := by rw [hg]; exact OwnSl.new (m := 1) (z := 4) (Nat.le_refl _) rfl rfl
      clear hg
      have E68 : Ext n6 g6 g8 := E7.trans hle7 E8
      have kb8 : BatsO g8 (n1 + 1) (n7 + 1 + 1) a L := kb.ext E68 (by omega)
      have hO8 := kb8.out
      rw [hLl] at hO8
      have kj8 := (E8.info _ (by omega)).trans kj7
      have ko8 := (E8.info _ (by omega)).trans ko7
      refine RS.append rfl opd opd hO8 hnew.src full_slice (fun b hb => .inl (.inr (by omega))) (by omega) ?_
      intro a' n9 h9 hle9 hO9 hX9 hwh
      have han : ∀ y, y ≤ n1 → a = none ∨ y ≠ sb a := fun y hy => hO8.at'.imp id fun w => by omega
      have kj9 : h9.info (n + 1) = some ⟨1, 0, true, 0⟩ := i_extX hX9 (by omega) (han _ (by omega)) kj8
      have ko9 : h9.info n1 = some (AObj.loop A.busy).m := i_extX hX9 (by omega) (han _ (Nat.le_refl _)) ko8
      have kb9 : BatsO h9 (n1 + 1) n9 a' (L ++ [x]) := kb8.push (hxr.ext E8 (by omega)) (hxa a (q8.out.at'.imp id fun w => w.2)) hX9 hle9 (by rw [hLl]; exact hO9) hwh
      have EW9 : ExtW (fun b => b = n + 1 ∨ b = n1) (n1 + 1) (h1.app (.obj n1 (.loop A))) h9 := (EW2.then E68 (by omega)).then (hX9.ext hO8) (Nat.le_refl _)
      repeat' (first | refine stpS ?_ | (refine stp2 ?_ ?_ <;> intro _))
      have hap10 : ∀ b ∈ L ++ [x], ∀ c : Option Addr, (c = none ∨ sb c ≤ n + 1) → b.Ap c := fun b hb c hc => by
        rcases List.mem_append.1 hb with q | q
        · exact q10 b q c hc
        · simp only [List.mem_cons, List.not_mem_nil, or_false] at q
          subst q; exact hxa _ (hc.imp id fun w => by omega)
      refine .inl ⟨rfl, by omega, extW, info, info, hkl, fun j hj => ?_, a', L ++ [x], cell, ?_, ?_, ?_⟩
      · by_cases e : j = k
        · rw [e]; exact hmay
        · exact q6 j (by omega)
      · have h9i : (h9.app (.sets (n + 1) 0 [.slice a' (k + 1) (k + 1)])).info n1 = some (AObj.loop A.busy).m := i_sets ko9
        have kb10 : BatsO (h9.app (.sets (n + 1) 0 [.slice a' (k + 1) (k + 1)])) (n1 + 1) n9 a' (L ++ [x]) := by
          refine ⟨kb9.out.sets (by omega), fun b hb => ?_⟩
          obtain ⟨z1, z2⟩ := kb9.in_ b hb
          exact ⟨z1.sets (hap10 b hb _ (.inr (Nat.le_refl _))), z2⟩
        refine ⟨extW_own kb10.out (ExtW.appObj (W := fun b => b = n1) (.inl rfl) (ExtW.refl _ n9 _)) (Nat.le_refl _) (fun b z1 z2 z3 => by omega), fun b hb => ?_⟩
        obtain ⟨z1, z2⟩ := kb10.in_ b hb
        exact ⟨z1.obj h9i rfl, z2⟩
      · rw [List.map_append, q9, cutB_succ, List.map_cons, List.map_nil, hxp]
      · exact hap10
    · have kj7 := (E7.info _ (by omega)).trans kj
      have ko7 := (E7.info _ (by omega)).trans ko
      have hn7 : n + 1 < n7 := by omega
      repeat' (first | refine stpS ?_ | (refine stp2 ?_ ?_ <;> intro _))
      exact .inr ⟨rfl, by omega, extW, info, cell, k, hkl, hmay⟩
  · rintro k n6 h6 ⟨q1, q2, q3, q4, q5, q6, a, L, q7, q8, q9, q10⟩
    refine ⟨by omega, by omega, c_extW q2 (by omega) (by omega) (c_obj c0), c_extW q2 (by omega) (by omega) (c_obj c1), ?_⟩
    have e1 : ExtW (fun b => b = n + 1 ∨ b = n1) n1 h1 h6 := extW
    exact (Shp.of (SlR.ext BR.out E1' (Nat.le_refl n) |>.ext (Ext.refl _ _) (Nat.le_refl _))).ext (e1.extM (m := n) (by omega) (fun b q => by omega)) (by omega)
  · exact ⟨by omega, extW, info, info, Nat.zero_le _, fun j hj => by omega, none, [], cell, BatsO.nil (Nat.le_refl _), rfl, fun b hb => by cases hb⟩
  · have hpe : partsN s (rs.map Prod.snd).length = partsN s rs.length := by rw [List.length_map]
    rintro r n6 h6 (⟨q1, q2, q3, q4, q5, q6, a, L, q7, q8, q9, q10⟩ | ⟨q1, q2, q3, q4, j, q5, q6⟩)
    · rw [hpv] at q6 q7 q9
      have hmay : cutMay ts s (rs.map Prod.snd) := ⟨s1, s2, fun k hk => q6 k (by rw [← hpe]; exact hk)⟩
      have hLl : L.length = partsN s rs.length := by have := congrArg List.length q9; simpa [cutB] using this
      refine rangeC.normal q3 ?_
      have EF : ExtW (fun b => b = n + 1 ∨ b = n1) n1 h1 (h6.app (.obj n1 (.loop A.over))) := extW
      repeat' (first | refine stpS ?_ | (refine stp2 ?_ ?_ <;> intro _))
      refine ⟨E1'.trans (Nat.le_refl _) (EF.extM (by omega) (fun b q => by omega)), n + 1, a, L, rfl, by omega, by omega, by rw [hLl]; exact cell, ?_, ?_, q8.out.at'.imp id fun w => by omega, fun b hb c hc => q10 b hb c (hc.imp id fun w => by omega)⟩
      · have e : ExtW (fun b => b = n1) n6 h6 (h6.app (.obj n1 (.loop A.over))) := ExtW.appObj (.inl rfl) (ExtW.refl _ _ _)
        exact ⟨(extW_own q8.out e (Nat.le_refl _) (fun b z1 z2 z3 => by omega)).slr, fun b hb => (q8.in_ b hb).1.obj q3 rfl⟩
      · rw [cutP, if_pos hmay, q9]
        rw [show partsN (↑s : Int).toNat (rs.map Prod.snd).length = partsN s rs.length from hpe]; rfl
    · have hmay : ¬ cutMay ts s (rs.map Prod.snd) := fun q => q6 (q.2.2 j (by show j < partsN s _; rw [hpe]; exact q5))
      refine rangeC.exit q3 ?_
      have EF : ExtW (fun b => b = n + 1 ∨ b = n1) n1 h1 (h6.app (.obj n1 (.loop (A.at (some (.exit 0))).over))) := extW
      repeat' (first | refine stpS ?_ | (refine stp2 ?_ ?_ <;> intro _))
      refine ⟨E1'.trans (Nat.le_refl _) (EF.extM (by omega) (fun b q => by omega)), n + 1, none, [], rfl, by omega, by omega, cell, ⟨SlR.nil, fun b hb => by cases hb⟩, ?_, .inl rfl, fun b hb => by cases hb⟩
      rw [cutP, if_neg hmay]; rfl
end Go.Proofs.Ytaagbfpbbhaclaa
