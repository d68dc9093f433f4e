/- The law BitsOwn. -/
import Derived.Test.YtnaklmjndiodfaaK
namespace Go.Proofs.Ytnaklmjndiodfaa
open Go.Abs

theorem _root_.Go.Abs.OwnSl.rng {h : AH} {n0 n z m k j : Nat} {a : Option Addr} {cs : List Value} (o : OwnSl h n0 n a z m cs) (h1 : k ≤ n0) (h2 : n ≤ j) : a = none ∨ k ≤ sb a ∧ sb a < j := o.at'.imp id fun q => by omega
theorem _root_.Go.Abs.OwnSl.lt' {h : AH} {n0 n z m j : Nat} {a : Option Addr} {cs : List Value} (o : OwnSl h n0 n a z m cs) (h2 : n ≤ j) : a = none ∨ sb a < j := o.at'.imp id fun q => by omega
theorem c_newD {h : AH} {n j : Nat} {m : Meta} {cs : List Value} : (h.app (.new n m cs)).cell n j = cs.getD j (.tuple #[]) := by simp [AH.app, Dl.new]
/-- Bytes that may be turned. -/
structure Byt (h : AH) (a : Option Addr) (m : Nat) : Prop where
  out : (a = none ∧ m = 0) ∨ (a = some ⟨sb a, 0, none⟩ ∧ h.info (sb a) = some ⟨m, 0, true, 1⟩ ∧ ∀ j, j < m → ∃ c : UInt8, h.cell (sb a) j = .int .u8 c.toNat)
theorem Byt.of {h : AH} {n0 n : Nat} {a : Option Addr} {m : Nat} {l : List UInt8} (o : OwnSl h n0 n a 1 m (bytesV l)) : Byt h a m := by
  rcases o.or with k | ⟨k1, k2, k3, k4, k5⟩
  · exact ⟨.inl k⟩
  · refine ⟨.inr ⟨k1, by rw [Nat.mul_one] at k4; exact k4, fun j hj => ?_⟩⟩
    have := o.len
    rw [bytesV_length, Nat.mul_one] at this
    have hf := (o.facts (by omega)).2.2.2.2.2 j (by omega)
    have hso : so a = 0 := by rw [k1]; rfl
    rw [hso, Nat.zero_add] at hf
    exact ⟨l.getD j 0, by rw [hf]; simp [bytesV, List.getD, show j < l.length by omega]⟩
theorem Byt.ext {h h1 : AH} {n : Nat} {a : Option Addr} {m : Nat} (B : Byt h a m) (E : Ext n h h1) (hb : a = none ∨ sb a < n) : Byt h1 a m := by
  rcases B.out with k | ⟨k1, k2, k3⟩
  · exact ⟨.inl k⟩
  · rcases hb with q | q
    · rw [q] at k1; cases k1
    · exact ⟨.inr ⟨k1, by rw [E.info _ q]; exact k2, fun j hj => by obtain ⟨c, hc⟩ := k3 j hj; exact ⟨c, by rw [E.cell _ _ q]; exact hc⟩⟩⟩
theorem Byt.set {h : AH} {a : Option Addr} {m b o : Nat} {c : UInt8} (B : Byt h a m) : Byt (h.app (.sets b o [.int .u8 c.toNat])) a m := by
  rcases B.out with k | ⟨k1, k2, k3⟩
  · exact ⟨.inl k⟩
  · refine ⟨.inr ⟨k1, i_sets k2, fun j hj => ?_⟩⟩
    by_cases e : sb a = b ∧ o = j
    · obtain ⟨e1, e2⟩ := e
      subst e2
      exact ⟨c, by rw [e1]; exact c_in (Nat.le_refl _) (by simp)⟩
    · obtain ⟨c', hc'⟩ := k3 j hj
      exact ⟨c', c_out (by simp only [List.length_cons, List.length_nil]; omega) hc'⟩
set_option maxHeartbeats 4000000 in
theorem law_BitsOwn (N : Int) (l : List UInt8) (a : Option Addr) (n : Nat) (h : AH) (i : Int) (S : SlB h n a l) (hl : l.length ≤ 1048576) (hn : 0 < n) (hi : -9223372036854775808 ≤ i ∧ i ≤ 9223372036854775807) (hN : -9223372036854775808 ≤ N ∧ N ≤ 9223372036854775807) :
    RF Try.prog none' 10 #[.agg #[.int .i64 N, .slice a l.length l.length], .int .i64 i] n h (fun r _ _ => r = .bool true) := by
  have hS1 : SlB h n a (l.take 4096) := SlB.takeA S 4096
  have hq : (l.take 4096).length ≤ 4096 := by rw [List.length_take]; omega
  have hp := plc_le N (l.take 4096).length
  have htl := truths_length N (l.take 4096)
  refine RF.of Try.func10 rfl rfl (Nat.le_of_ble_eq_true rfl) ?_; dsimp only [argEnv]
  repeat' (first | refine stpS ?_ | (refine stp2 ?_ ?_ <;> intro _))
  refine RS.call rfl opds (small_rf N l a l.length _ _ (S.ext ext (by omega)) rfl) none'W ?_
  rintro r n1 h1 hle ⟨rfl, hE1, -⟩
  generalize l.take 4096 = k at *
  repeat' (first | refine stpS ?_ | (refine stp2 ?_ ?_ <;> intro _))
  refine RS.call rfl opds (clone_rf k a k.length _ _ (hS1.ext ext (by omega)) rfl (by omega)) none'W ?_
  rintro r n2 h2 hle2 ⟨a2, rfl, hE2, hO2⟩
  repeat' (first | refine stpS ?_ | (refine stp2 ?_ ?_ <;> intro _))
  refine RS.call rfl opds (set_rf N k a _ _ _ i true (hS1.ext ext (by omega)) rfl (by omega)) none'W ?_
  rintro r n3 h3 hle3 ⟨v3, rfl, a3, rfl, hE3, hO3⟩
  repeat' (first | refine stpS ?_ | (refine stp2 ?_ ?_ <;> intro _))
  refine RS.call rfl opds (and_rf [(N, a, k)] _ 1 _ _ (bs_new rfl rfl (by intro x hx; simp only [List.mem_cons, List.not_mem_nil, or_false] at hx; subst hx; exact hS1.ext ext (by omega))) rfl (by omega) (by intro x hx; simp only [List.mem_cons, List.not_mem_nil, or_false] at hx; subst hx; dsimp only; omega)) none'W ?_
  rintro r n4 h4 hle4 ⟨v4, rfl, a4, rfl, hE4, hO4⟩
  repeat' (first | refine stp ?_ | (refine stp2 ?_ ?_ <;> intro _))
  refine RD.call _ rfl opds (not_rf N k _ _ _ _ (hS1.ext ext (by omega)) rfl (by omega)) (Nat.le_refl _) cfc ?_
  rintro r n5 h5 hle5 ⟨a5, rfl, hE5, hO5⟩
  repeat' (first | refine stp ?_ | (refine stp2 ?_ ?_ <;> intro _))
  refine RD.call _ rfl opds (cut_rf N k _ _ _ _ 0 N (hS1.ext ext (by omega)) rfl (by omega) (by omega) hN) (Nat.le_refl _) cfc ?_
  rintro r n6 h6 hle6 ⟨a6, rfl, hE6, hO6⟩
  repeat' (first | refine stp ?_ | (refine stp2 ?_ ?_ <;> intro _))
  have hB1 : BsRep h6 n6 a [(N, a, k)] → True := fun _ => trivial
  have hjn : joinT [(N, a, k)] = truths N k := by simp [joinT, tru]
  have hj : ∀ n h c, BsRep h n c [(N, a, k)] → RF Try.prog none' 36 #[.slice c 1 1] n h (BitsRes n h (truths N k)) := fun n h c B => by
    have := join_rf _ c 1 n h B rfl (by omega) (by intro x hx; simp only [List.mem_cons, List.not_mem_nil, or_false] at hx; subst hx; dsimp only; omega) (by rw [hjn]; omega)
    rwa [hjn] at this
  have hBj := bs_new (h := h6) (n := n6) (L := [(N, a, k)]) rfl rfl (by intro x hx; simp only [List.mem_cons, List.not_mem_nil, or_false] at hx; subst hx; exact hS1.ext ext (by omega))
  refine RD.call _ rfl opds (hj _ _ _ (hBj.ext ext (by omega))) (Nat.le_refl _) cfc ?_
  rintro r n7 h7 hle7 ⟨a7, rfl, hE7, hO7⟩
  repeat' (first | refine stp ?_ | (refine stp2 ?_ ?_ <;> intro _))
  have g3 : (if may N k.length i then (truths N k).set i.toNat true else []).length ≤ 32768 := by
    split
    · rw [List.length_set]; omega
    · simp
  have g4 : (Option.getD (allT and (List.map tru [(N, a, k)])) []).length ≤ 32768 := by
    show (truths N k).length ≤ 32768
    omega
  have g5 : (List.map (fun x => !x) (truths N k)).length ≤ 32768 := by rw [List.length_map]; omega
  have g6 : (cutT (truths N k) 0 N).length ≤ 32768 := by unfold cutT; rw [List.length_take, List.length_drop]; omega
  have g7 : (truths N k).length ≤ 32768 := by omega
  generalize hv3 : (if may N k.length i then (truths N k).set i.toNat true else []) = t3 at *
  generalize hv4 : (Option.getD (allT and (List.map tru [(N, a, k)])) []) = t4 at *
  generalize hv5 : List.map (fun x => !x) (truths N k) = t5 at *
  generalize hv6 : cutT (truths N k) 0 N = t6 at *
  generalize hv7 : truths N k = t7 at *
  refine RC.loop ?_
  obtain ⟨M, hM⟩ : ∃ M : List BsE, M = [((t3.length : Int), a3, packB t3), ((t4.length : Int), a4, packB t4), ((t5.length : Int), a5, packB t5), ((t6.length : Int), a6, packB t6), ((t7.length : Int), a7, packB t7)] := ⟨_, rfl⟩
  have hMl : M.length = 5 := by rw [hM]; rfl
  have hMx : ∀ x ∈ M, x.2.2.length ≤ 1048576 := by
    intro x hx
    rw [hM] at hx
    simp only [List.mem_cons, List.not_mem_nil, or_false] at hx
    rcases hx with rfl | rfl | rfl | rfl | rfl <;> dsimp only <;> rw [packB_length] <;> omega
  refine RL.gen (fun g => Ext n h g ∧ OwnSl g (n1) n2 a2 1 k.length (bytesV k) ∧ g.cell n 0 = .int .i64 N ∧ g.cell n 1 = .slice a k.length k.length ∧ ∀ i x, M[i]? = some x → g.cell n7 (i * 2) = .int .i64 x.1 ∧ g.cell n7 (i * 2 + 1) = .slice x.2.1 x.2.2.length x.2.2.length ∧
    (x.2.1 = none ∨ n2 ≤ sb x.2.1 ∧ sb x.2.1 < n7) ∧ Byt g x.2.1 x.2.2.length) ?_ ?_
  · refine ⟨ext, hO2.ext ext (by omega), cell, cell, ?_⟩
    intro i x hi
    have hc := bsC_at M i x hi
    have hx := List.mem_of_getElem? hi
    rw [c_newD, c_newD]
    refine ⟨by rw [← hc.1, hM]; rfl, by rw [← hc.2, hM]; rfl, ?_⟩
    rw [hM] at hx
    simp only [List.mem_cons, List.not_mem_nil, or_false] at hx
    rcases hx with rfl | rfl | rfl | rfl | rfl
    · exact ⟨hO3.rng (by omega) (by omega), (Byt.of hO3).ext (n := n3) ext (hO3.lt' (Nat.le_refl _))⟩
    · exact ⟨hO4.rng (by omega) (by omega), (Byt.of hO4).ext (n := n4) ext (hO4.lt' (Nat.le_refl _))⟩
    · exact ⟨hO5.rng (by omega) (by omega), (Byt.of hO5).ext (n := n5) ext (hO5.lt' (Nat.le_refl _))⟩
    · exact ⟨hO6.rng (by omega) (by omega), (Byt.of hO6).ext (n := n6) ext (hO6.lt' (Nat.le_refl _))⟩
    · exact ⟨hO7.rng (by omega) (by omega), (Byt.of hO7).ext (n := n7) ext (hO7.lt' (Nat.le_refl _))⟩
  · rintro g ⟨E0, O0, C0, C1, F0⟩
    refine RL.inv (α := Nat) (fun i => [(43, .int .i64 (i : Nat)), (42, .int .i64 5), (41, .slice (some ⟨n7, 0, none⟩) 5 5), (5, .slice a2 k.length k.length), (2, .pointer (some ⟨n, 0, none⟩))])
      (fun i n8 h8 => i ≤ 5 ∧ n7 + 1 ≤ n8 ∧ Ext n h h8 ∧ OwnSl h8 n1 n2 a2 1 k.length (bytesV k) ∧ h8.cell n 0 = .int .i64 N ∧ h8.cell n 1 = .slice a k.length k.length ∧
        ∀ i x, M[i]? = some x → h8.cell n7 (i * 2) = .int .i64 x.1 ∧ h8.cell n7 (i * 2 + 1) = .slice x.2.1 x.2.2.length x.2.2.length ∧ (x.2.1 = none ∨ n2 ≤ sb x.2.1 ∧ sb x.2.1 < n7) ∧ Byt h8 x.2.1 x.2.2.length)
      (fun i => 5 - i) 0 envs ⟨by omega, by omega, E0, O0, C0, C1, F0⟩ ?_
    rintro i8 n8 h8 ⟨hi8, hn8, E8, O8, C80, C81, F8⟩
    by_cases hlt : i8 < 5
    · obtain ⟨x, hx⟩ : ∃ x, M[i8]? = some x := ⟨M[i8], by simp [show i8 < M.length by omega]⟩
      obtain ⟨d0, d1, hr, -⟩ := F8 i8 x hx
      have d0' : h8.cell n7 (0 + (i8 : Int).toNat * 2) = .int .i64 x.1 := by rw [Nat.zero_add]; exact d0
      have d1' : h8.cell n7 (0 + (i8 : Int).toNat * 2 + 1) = .slice x.2.1 x.2.2.length x.2.2.length := by rw [Nat.zero_add]; exact d1
      have hxl : x.2.2.length ≤ 1048576 := hMx x (List.mem_of_getElem? hx)
      repeat' (first | refine stpS ?_ | (refine stp2 ?_ ?_ <;> intro _))
      refine RC.loop ?_
      refine RL.gen (fun g => Ext n h g ∧ OwnSl g n1 n2 a2 1 k.length (bytesV k) ∧ g.cell n 0 = .int .i64 N ∧ g.cell n 1 = .slice a k.length k.length ∧ g.cell n8 1 = .slice x.2.1 x.2.2.length x.2.2.length ∧
        ∀ i x, M[i]? = some x → g.cell n7 (i * 2) = .int .i64 x.1 ∧ g.cell n7 (i * 2 + 1) = .slice x.2.1 x.2.2.length x.2.2.length ∧ (x.2.1 = none ∨ n2 ≤ sb x.2.1 ∧ sb x.2.1 < n7) ∧ Byt g x.2.1 x.2.2.length)
        ⟨ext, O8.ext ext (by omega), cell, cell, cell, ?_⟩ ?_
      · intro i' x' hx'
        obtain ⟨p0, p1, p2, p3⟩ := F8 i' x' hx'
        refine ⟨cell, cell, p2, p3.ext (n := n7) ext (p2.imp id And.right)⟩
      rintro g' ⟨E9, O9, K0, K1, K2, F9⟩
      refine RL.inv (α := Nat) (fun j => [(50, .int .i64 (j : Nat)), (49, .int .i64 x.2.2.length), (11, .pointer (some ⟨n8, 0, none⟩)), (43, .int .i64 (i8 : Nat)), (42, .int .i64 5), (41, .slice (some ⟨n7, 0, none⟩) 5 5), (5, .slice a2 k.length k.length), (2, .pointer (some ⟨n, 0, none⟩))])
        (fun j n9 h9 => j ≤ x.2.2.length ∧ n9 = n8 + 1 ∧ Ext n h h9 ∧ OwnSl h9 n1 n2 a2 1 k.length (bytesV k) ∧ h9.cell n 0 = .int .i64 N ∧ h9.cell n 1 = .slice a k.length k.length ∧ h9.cell n8 1 = .slice x.2.1 x.2.2.length x.2.2.length ∧
          ∀ i x, M[i]? = some x → h9.cell n7 (i * 2) = .int .i64 x.1 ∧ h9.cell n7 (i * 2 + 1) = .slice x.2.1 x.2.2.length x.2.2.length ∧ (x.2.1 = none ∨ n2 ≤ sb x.2.1 ∧ sb x.2.1 < n7) ∧ Byt h9 x.2.1 x.2.2.length)
        (fun j => x.2.2.length - j) 0 envs ⟨by omega, rfl, E9, O9, K0, K1, K2, F9⟩ ?_
      rintro j n9 h9 ⟨hj, rfl, E10, O10, J0, J1, J2, F10⟩
      by_cases hlt2 : j < x.2.2.length
      · obtain ⟨-, -, -, B⟩ := F10 i8 x hx
        rcases B.out with ⟨_, k⟩ | ⟨k1, hinfo, k3⟩
        · omega
        have hso : so x.2.1 = 0 := by rw [k1]; rfl
        have hA : SlA x.2.1 x.2.2.length := .inr (by rw [hso]; exact k1)
        rcases hr with q | ⟨hr1, hr2⟩
        · rw [q] at k1; cases k1
        obtain ⟨c, hc⟩ := k3 j hlt2
        have hc' : h9.cell (sb x.2.1) (so x.2.1 + (j : Int).toNat) = .int .u8 c.toNat := by rw [hso, Nat.zero_add]; exact hc
        repeat' (first | refine stpS ?_ | (refine stp2 ?_ ?_ <;> intro _))
        have hat := O10.at'
        have e : ((((c.toNat : Nat) : Int).toNat ^^^ (255 : Int).toNat : Nat)) = (c ^^^ 255).toNat := by rw [UInt8.toNat_xor]; rfl
        rw [e]
        refine nextC.normal ⟨j + 1, by omega, envs, by omega, rfl, ext, OwnSl.setsN O10 (hat.imp id (fun q => by omega)), cell, cell, cell, fun i' x' hx' => ?_⟩
        obtain ⟨p0, p1, p2, p3⟩ := F10 i' x' hx'
        exact ⟨cell, cell, p2, p3.set⟩
      · repeat' (first | refine stpS ?_ | (refine stp2 ?_ ?_ <;> intro _))
        exact nextC.normal ⟨i8 + 1, by omega, envs, by omega, by omega, E10, O10, J0, J1, F10⟩
    · have hSa := O8.slbE
      repeat' (first | refine stpS ?_ | (refine stp2 ?_ ?_ <;> intro _) | refine RS.call1 rfl opds (begun_ev _ _) none'W ?_ | refine RS.call1 rfl opds (eqBytesT_ev k k _ _ _ _ _ _ (hS1.ext ext (by omega)) (hSa.ext ext (by omega)) rfl rfl (by omega) (by omega) rfl) none'W ?_)
      rfl
end Go.Proofs.Ytnaklmjndiodfaa
