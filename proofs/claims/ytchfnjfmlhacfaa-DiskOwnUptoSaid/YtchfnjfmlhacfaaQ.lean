/- The law DiskOwn. -/
import Derived.Test.YtchfnjfmlhacfaaPw
namespace Go.Proofs.Ytchfnjfmlhacfaa
open Go.Abs

set_option maxHeartbeats 4000000 in
theorem law_DiskOwn (l0 : List UInt8) (a : Option Addr) (v : Value) (n : Nat) (h : AH) (S0 : SlB h n a l0) (hm : l0.length ≤ 1048576) (hn : 0 < n) :
    RF Try.prog none' 3 #[.slice a l0.length l0.length, v] n h (fun r _ _ => r = .bool true) := by
  refine RF.of Try.func3 rfl rfl (Nat.le_of_ble_eq_true rfl) ?_; dsimp only [argEnv]
  repeat' (first | refine stpS ?_ | (refine stp2 ?_ ?_ <;> intro _))
  refine RS.call rfl opds (new_rf n h hn) none'W ?_
  rintro r n1 h1 hle ⟨d, F, G, rfl, D, hF, hG, e1⟩
  have L := new_dl (n0 := n) (h0 := h) (Nat.le_refl n) (Ext.refl n h) D hF hle e1
  clear D hF hG e1
  repeat' (first | refine stpS ?_ | (refine stp2 ?_ ?_ <;> intro _))
  refine RS.call rfl opds (begun_rf n1 h1 (by omega)) none'W ?_
  rintro r n2 h2 hle2 ⟨rfl, e2⟩
  have L := L.step hle2 e2
  have hlt := L.dk.lt
  have S2 := S0.ext L.ext L.le
  repeat' (first | refine stpS ?_ | (refine stp2 ?_ ?_ <;> intro _))
  have e : (min (l0.length : Int) 2000).toNat = min 2000 l0.length := by omega
  rw [e]
  have S1 : SlB h n a (l0.take 2000) := by
    have := S0.take (u := min 2000 l0.length) (by omega)
    rwa [take_min] at this
  have e4 : min 2000 l0.length = (l0.take 2000).length := by rw [List.length_take]
  rw [e4]
  have hl : (l0.take 2000).length ≤ 2000 := by rw [List.length_take]; omega
  generalize l0.take 2000 = l at *
  clear e e4 S0 S2 hm
  repeat' (first | refine stpS ?_ | (refine stp2 ?_ ?_ <;> intro _))
  refine RS.call rfl opds (clone_rf l a _ n2 h2 (S1.ext L.ext L.le) rfl (by omega)) none'W ?_
  rintro r n3 h3 hle3 ⟨a', rfl, e3, hO⟩
  have L3 := L.step hle3 e3
  have hlt := L3.dk.lt
  have hna : a' ≠ none → ¬ F (sb a') := fun q k => by
    have := (hO.at'.resolve_left q).1
    have := L.dk.ltF _ k
    omega
  repeat' (first | refine stpS ?_ | (refine stp2 ?_ ?_ <;> intro _))
  refine RS.call rfl opds (write_dk L3.dk 0 0 (by omega) (show SlB h3 n3 a' l from hO.slbE) hna (by simp [DS.init]; omega) (by simp [DS.init])) (fun b => L3.W b) ?_
  rintro r n4 h4 hle4 ⟨rfl, to⟩
  have hw : DS.init.write 0 0 l = (0, { DS.init.writes 0 0 l with calls := DS.init.calls + 1 }) := write_zero (S := DS.init) (i := 0) (at_ := 0) rfl (by omega) (fun _ => by omega) rfl
  rw [hw] at to ⊢
  dsimp only at to ⊢
  generalize hS4 : ({ DS.init.writes 0 0 l with calls := DS.init.calls + 1 } : DS) = S4 at to
  have hrd : S4.read 0 0 2000 = (0, l) := by
    have : S4.now 0 = l := by
      rw [← hS4]
      show (DS.init.writes 0 0 l).now 0 = l
      rw [writes_now, if_pos rfl]
      have e0 : DS.init.now 0 = [] := rfl
      rw [e0]
      apply ext_getD
      · rw [wr_length]; split
        · rename_i q; subst q; rfl
        · simp
      · intro i hi
        rw [wr_getD, Nat.sub_zero]
        split
        · rfl
        · rename_i q
          have : l.length ≤ i := by omega
          simp [List.getD, List.getElem?_eq_none this]
    have h2 := read_zero (S := S4) (i := 0) (at_ := 0) (k := 2000) (by rw [← hS4]; rfl) (by omega)
    rw [this, List.drop_zero, List.take_of_length_le hl] at h2
    exact h2
  obtain ⟨F4, G4, L4, hF4, hG4, e4⟩ := L3.to hle4 to
  have hO4 := hO.extW e4 (n2 := n3) hle4 (Nat.le_refl _) hna
  have hn4 : a' ≠ none → ¬ F4 (sb a') ∧ ¬ G4 (sb a') := fun q => by
    have hb := hO.at'.resolve_left q
    refine ⟨fun k => hna q (hF4 _ hb.2 k), fun k => ?_⟩
    have := L.dk.ltG _ (hG4 _ hb.2 k)
    omega
  repeat' (first | refine stpS ?_ | (refine stp2 ?_ ?_ <;> intro _))
  refine RC.loop ?_
  refine RL.inv (α := Nat × List UInt8) (fun s => [(33, .int .i64 (s.1 : Nat)), (32, .int .i64 l.length), (6, .slice a' l.length l.length), (0, .slice a l.length l.length), (5, .pointer (some ⟨d, 0, none⟩))])
    (fun s n1 h1 => s.1 ≤ l.length ∧ n4 ≤ n1 ∧ s.2.length = l.length ∧ OwnSl h1 n2 n4 a' 1 l.length (bytesV s.2) ∧ DL n h n1 h1 d F4 G4 S4) (fun s => l.length - s.1) (0, l) envs ⟨by omega, by omega, rfl, hO4, L4⟩ ?_
  rintro ⟨i, l1⟩ n5 h5 ⟨hi, hn5, hl1, hO5, L5⟩
  dsimp only at hi hn5 hl1 hO5 L5 ⊢
  by_cases hlt5 : i < l.length
  · obtain ⟨ho, hlo, hhi, hI, hA, hC⟩ := hO5.facts (by omega)
    have hSb := hO5.slbE
    have hsb : a' ≠ none := OwnSl.ne hO (by omega)
    have hb4 := hn4 hsb
    repeat' (first | refine stpS ?_ | (refine stp2 ?_ ?_ <;> intro _))
    have hO6 := OwnSl.setI hO5 (i := i) (x := ((l1.getD i 0).toNat + 1 : Int) % 256) (by omega) (by omega) (by omega)
    refine nextC.normal ⟨(i + 1, l1.set i (UInt8.ofNat (((l1.getD i 0).toNat + 1 : Int) % 256).toNat)), by dsimp only; omega, envs, by dsimp only; omega, hn5, by dsimp only; rw [List.length_set]; exact hl1, hO6, L5.sets (by have := L.le; omega) hb4.1 hb4.2⟩
  · have hlt := L5.dk.lt
    have hr := read_dk L5.dk 0 0 2000
    rw [hrd] at hr
    dsimp only at hr
    repeat' (first | refine stpS ?_ | (refine stp2 ?_ ?_ <;> intro _))
    refine RS.call rfl opds hr none'W ?_
    rintro r n6 h6 hle6 ⟨b, rfl, e6, hO6⟩
    have L6 := L5.step hle6 e6
    have hb6 : b ≠ none → ¬ F4 (sb b) ∧ ¬ G4 (sb b) ∧ n ≤ sb b := fun q => by
      have hb := hO6.at'.resolve_left q
      refine ⟨fun k => ?_, fun k => ?_, by have := L5.le; omega⟩
      · have := L5.dk.ltF _ k; omega
      · have := L5.dk.ltG _ k; omega
    repeat' (first | refine stpS ?_ | (refine stp2 ?_ ?_ <;> intro _))
    refine RC.loop ?_
    refine RL.inv (α := Nat × List UInt8) (fun s => [(50, .int .i64 (s.1 : Nat)), (49, .int .i64 l.length), (8, .slice b l.length l.length), (0, .slice a l.length l.length), (5, .pointer (some ⟨d, 0, none⟩))])
      (fun s n1 h1 => s.1 ≤ l.length ∧ n6 ≤ n1 ∧ s.2.length = l.length ∧ OwnSl h1 n5 n6 b 1 l.length (bytesV s.2) ∧ DL n h n1 h1 d F4 G4 S4) (fun s => l.length - s.1) (0, l) envs ⟨by omega, by omega, rfl, hO6, L6⟩ ?_
    rintro ⟨j, l2⟩ n7 h7 ⟨hj, hn7, hl2, hO7, L7⟩
    dsimp only at hj hn7 hl2 hO7 L7 ⊢
    by_cases hlt7 : j < l.length
    · obtain ⟨ho, hlo, hhi, hI, hA, hC⟩ := hO7.facts (by omega)
      have hSb := hO7.slbE
      have hsb : b ≠ none := OwnSl.ne hO6 (by omega)
      have hb7 := hb6 hsb
      repeat' (first | refine stpS ?_ | (refine stp2 ?_ ?_ <;> intro _))
      have hO8 := OwnSl.setI hO7 (i := j) (x := ((l2.getD j 0).toNat + 1 : Int) % 256) (by omega) (by omega) (by omega)
      refine nextC.normal ⟨(j + 1, l2.set j (UInt8.ofNat (((l2.getD j 0).toNat + 1 : Int) % 256).toNat)), by dsimp only; omega, envs, by dsimp only; omega, hn7, by dsimp only; rw [List.length_set]; exact hl2, hO8, L7.sets (by omega) hb7.1 hb7.2.1⟩
    · have hlt := L7.dk.lt
      have hr := read_dk L7.dk 0 0 2000
      rw [hrd] at hr
      dsimp only at hr
      repeat' (first | refine stpS ?_ | (refine stp2 ?_ ?_ <;> intro _))
      refine RS.call rfl opds hr none'W ?_
      rintro r n8 h8 hle8 ⟨c, rfl, e8, hO8⟩
      have L8 := L7.step hle8 e8
      have q0 := equal_ev l l c a l.length l.length n8 h8 hO8.slbE (S1.ext L8.ext L8.le) rfl rfl
      rw [decide_eq_true rfl] at q0
      repeat' (first | refine stpS ?_ | (refine stp2 ?_ ?_ <;> intro _) | refine RS.call1 rfl opds (q0) none'W ?_)
      rfl
end Go.Proofs.Ytchfnjfmlhacfaa
