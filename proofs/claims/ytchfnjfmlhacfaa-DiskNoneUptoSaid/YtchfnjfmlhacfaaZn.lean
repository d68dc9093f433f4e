/- A disk that no call made: the answers of its methods. -/
import Derived.Test.YtchfnjfmlhacfaaZd
namespace Go.Proofs.Ytchfnjfmlhacfaa
open Go.Abs
section
variable {h h1 : AH} {n n1 : Nat} {v : Value}
set_option maxHeartbeats 4000000 in
theorem may_un (u : Unm h n v) (f : Int) : Ev Try.prog none' 33 #[v, .int .i64 f] n h (.int .i64 2) n h := by
  refine RF.pure rfl fun n' hn => ?_
  have u := u.ext (Ext.refl n h) hn
  refine RF.of Try.func33 rfl rfl (Nat.le_of_ble_eq_true rfl) ?_; dsimp only [argEnv]
  repeat' (first | refine stpS ?_ | (refine stp2 ?_ ?_ <;> intro _) | refine RS.call1 rfl opds (none_un u) none'W ?_)
  rfl
set_option maxHeartbeats 4000000 in
theorem read_un (u : Unm h n v) (f a k : Int) : RF Try.prog none' 14 #[v, .int .i64 f, .int .i64 a, .int .i64 k] n h (fun r n' h' => r = .tuple #[.slice none 0 0, .int .i64 2] ∧ Ext n h h') := by
  refine RF.of Try.func14 rfl rfl (Nat.le_of_ble_eq_true rfl) ?_; dsimp only [argEnv]
  repeat' (first | refine stpS ?_ | (refine stp2 ?_ ?_ <;> intro _) | refine RS.call1 rfl opds (may_un u f) none'W ?_)
  exact ⟨rfl, ext⟩
set_option maxHeartbeats 4000000 in
theorem size_un (u : Unm h n v) (f : Int) : RF Try.prog none' 29 #[v, .int .i64 f] n h (fun r n' h' => r = .tuple #[.int .i64 0, .int .i64 2] ∧ Ext n h h') := by
  refine RF.of Try.func29 rfl rfl (Nat.le_of_ble_eq_true rfl) ?_; dsimp only [argEnv]
  repeat' (first | refine stpS ?_ | (refine stp2 ?_ ?_ <;> intro _) | refine RS.call1 rfl opds (may_un u f) none'W ?_)
  exact ⟨rfl, ext⟩
set_option maxHeartbeats 4000000 in
theorem write_un (u : Unm h n v) (f a : Int) (c : Option Addr) (l : List UInt8) : RF Try.prog none' 13 #[v, .int .i64 f, .int .i64 a, .slice c l.length l.length] n h (fun r n' h' => r = .int .i64 2 ∧ Ext n h h') := by
  refine RF.of Try.func13 rfl rfl (Nat.le_of_ble_eq_true rfl) ?_; dsimp only [argEnv]
  repeat' (first | refine stpS ?_ | (refine stp2 ?_ ?_ <;> intro _) | refine RS.call1 rfl opds (may_un u f) none'W ?_)
  exact ⟨rfl, ext⟩
set_option maxHeartbeats 4000000 in
theorem truncate_un (u : Unm h n v) (f a : Int) : RF Try.prog none' 17 #[v, .int .i64 f, .int .i64 a] n h (fun r n' h' => r = .int .i64 2 ∧ Ext n h h') := by
  refine RF.of Try.func17 rfl rfl (Nat.le_of_ble_eq_true rfl) ?_; dsimp only [argEnv]
  repeat' (first | refine stpS ?_ | (refine stp2 ?_ ?_ <;> intro _) | refine RS.call1 rfl opds (may_un u f) none'W ?_)
  exact ⟨rfl, ext⟩
set_option maxHeartbeats 4000000 in
theorem sync_un (u : Unm h n v) (f : Int) : RF Try.prog none' 16 #[v, .int .i64 f] n h (fun r n' h' => r = .int .i64 2 ∧ Ext n h h') := by
  refine RF.of Try.func16 rfl rfl (Nat.le_of_ble_eq_true rfl) ?_; dsimp only [argEnv]
  have u0 : Unm (h.app (.new n ⟨1, 0, true, 0⟩ [.int .i64 f])) (n + 1) v := u.ext ext (Nat.le_succ n)
  repeat' (first | refine stpS ?_ | (refine stp2 ?_ ?_ <;> intro _) | refine RS.call1 rfl opds (may_un u0 f) none'W ?_)
  exact ⟨rfl, ext⟩
set_option maxHeartbeats 4000000 in
theorem crash_un (u : Unm h n v) (c : Option Addr) (l : List Bool) : RF Try.prog none' 18 #[v, .slice c l.length l.length] n h (fun r n' h' => r = .int .i64 2 ∧ Ext n h h') := by
  refine RF.of Try.func18 rfl rfl (Nat.le_of_ble_eq_true rfl) ?_; dsimp only [argEnv]
  repeat' (first | refine stpS ?_ | (refine stp2 ?_ ?_ <;> intro _) | refine RS.call1 rfl opds (none_un u) none'W ?_)
  exact ⟨rfl, ext⟩
set_option maxHeartbeats 4000000 in
theorem setFuse_un (u : Unm h n v) (k : Int) (c : Option Addr) (l : List Bool) : RF Try.prog none' 20 #[v, .int .i64 k, .slice c l.length l.length] n h (fun r n' h' => r = .int .i64 2 ∧ Ext n h h') := by
  refine RF.of Try.func20 rfl rfl (Nat.le_of_ble_eq_true rfl) ?_; dsimp only [argEnv]
  repeat' (first | refine stpS ?_ | (refine stp2 ?_ ?_ <;> intro _) | refine RS.call1 rfl opds (none_un u) none'W ?_)
  exact ⟨rfl, ext⟩
set_option maxHeartbeats 4000000 in
theorem restart_un (u : Unm h n v) : RF Try.prog none' 19 #[v] n h (fun r n' h' => r = .int .i64 2 ∧ Ext n h h') := by
  refine RF.of Try.func19 rfl rfl (Nat.le_of_ble_eq_true rfl) ?_; dsimp only [argEnv]
  repeat' (first | refine stpS ?_ | (refine stp2 ?_ ?_ <;> intro _) | refine RS.call1 rfl opds (none_un u) none'W ?_)
  exact ⟨rfl, ext⟩
set_option maxHeartbeats 4000000 in
theorem down_un (u : Unm h n v) : RF Try.prog none' 23 #[v] n h (fun r n' h' => r = .bool false ∧ Ext n h h') := by
  refine RF.of Try.func23 rfl rfl (Nat.le_of_ble_eq_true rfl) ?_; dsimp only [argEnv]
  repeat' (first | refine stpS ?_ | (refine stp2 ?_ ?_ <;> intro _) | refine RS.call1 rfl opds (none_un u) none'W ?_)
  exact ⟨rfl, ext⟩
set_option maxHeartbeats 4000000 in
theorem calls_un (u : Unm h n v) : RF Try.prog none' 21 #[v] n h (fun r n' h' => r = .int .i64 0 ∧ Ext n h h') := by
  refine RF.of Try.func21 rfl rfl (Nat.le_of_ble_eq_true rfl) ?_; dsimp only [argEnv]
  repeat' (first | refine stpS ?_ | (refine stp2 ?_ ?_ <;> intro _) | refine RS.call1 rfl opds (none_un u) none'W ?_)
  exact ⟨rfl, ext⟩
set_option maxHeartbeats 4000000 in
theorem pending_un (u : Unm h n v) : RF Try.prog none' 30 #[v] n h (fun r n' h' => r = .int .i64 0 ∧ Ext n h h') := by
  refine RF.of Try.func30 rfl rfl (Nat.le_of_ble_eq_true rfl) ?_; dsimp only [argEnv]
  repeat' (first | refine stpS ?_ | (refine stp2 ?_ ?_ <;> intro _) | refine RS.call1 rfl opds (none_un u) none'W ?_)
  exact ⟨rfl, ext⟩
set_option maxHeartbeats 4000000 in
theorem clone_un (u : Unm h n v) : RF Try.prog none' 31 #[v] n h (fun r n' h' => r = .pointer none ∧ Ext n h h') := by
  refine RF.of Try.func31 rfl rfl (Nat.le_of_ble_eq_true rfl) ?_; dsimp only [argEnv]
  repeat' (first | refine stpS ?_ | (refine stp2 ?_ ?_ <;> intro _) | refine RS.call1 rfl opds (none_un u) none'W ?_)
  exact ⟨rfl, ext⟩
theorem same_un (u : Unm h n v) : RF Try.prog none' 22 #[v, v] n h (fun r n' h' => r = .bool false ∧ Ext n h h') :=
  (same_un1 u (.inr trivial)).mono fun r n' h' ⟨k1, k2, k3⟩ => ⟨k1, by subst k3; exact Ext.refl _ _⟩
end
set_option maxHeartbeats 4000000 in
theorem law_DiskNone (x : OpE) (n : Nat) (h : AH) (m : Nat) (ok : x.Ok h n m) (hn : 0 < n) :
    RF Try.prog none' 8 #[.agg x.cells.toArray] n h (fun r _ _ => r = .bool true) := by
  refine RF.of Try.func8 rfl rfl (Nat.le_of_ble_eq_true rfl) ?_; dsimp only [argEnv]
  repeat' (first | refine stpS ?_ | (refine stp2 ?_ ?_ <;> intro _))
  refine RS.call rfl opds (begun_rf (n + 1) _ (by omega)) none'W ?_
  rintro r n1 h1 hle ⟨rfl, e1⟩
  have b0 : h1.cell n 0 = .int .i64 x.do_ := c_ext e1 (by omega) cell
  have b1 : h1.cell n 1 = .int .i64 x.file := c_ext e1 (by omega) cell
  have b2 : h1.cell n 2 = .int .i64 x.at_ := c_ext e1 (by omega) cell
  have b3 : h1.cell n 3 = .int .i64 x.n := c_ext e1 (by omega) cell
  have b4 : h1.cell n 4 = .slice x.da x.data.length x.data.length := c_ext e1 (by omega) cell
  have b5 : h1.cell n 5 = .slice x.ka x.keep.length x.keep.length := c_ext e1 (by omega) cell
  have hlo : n < n1 := by omega
  repeat' (first | refine stpS ?_ | (refine stp2 ?_ ?_ <;> intro _))
  generalize hH : (h1.app (.new n1 ⟨10, 0, true, 0⟩ [.bool false, .slice none 0 0, .slice none 0 0, .slice none 0 0, .slice none 0 0, .slice none 0 0, .int .i64 0, .slice none 0 0, .int .i64 0, .bool false])).app (.new (n1 + 1) ⟨2, 0, true, 1⟩ [.pointer none, .pointer (some ⟨n1, 0, none⟩)]) = g
  have g0 : g.cell (n1 + 1) 0 = .pointer none := by rw [← hH]; exact cell
  have g1 : g.cell (n1 + 1) 1 = .pointer (some ⟨n1, 0, none⟩) := by rw [← hH]; exact cell
  have gm : g.cell n1 0 = .bool false := by rw [← hH]; exact cell
  have k1 : g.cell n 1 = .int .i64 x.file := by rw [← hH]; exact cell
  have k2 : g.cell n 2 = .int .i64 x.at_ := by rw [← hH]; exact cell
  have k3 : g.cell n 3 = .int .i64 x.n := by rw [← hH]; exact cell
  have k4 : g.cell n 4 = .slice x.da x.data.length x.data.length := by rw [← hH]; exact cell
  have k5 : g.cell n 5 = .slice x.ka x.keep.length x.keep.length := by rw [← hH]; exact cell
  have hA : SlA (some ⟨n1 + 1, 0, none⟩) 2 := .inr rfl
  clear hH b0 b1 b2 b3 b4 b5
  refine RC.loop ?_
  refine RL.inv (α := Nat) (fun s => [(15, .int .i64 (s : Nat)), (14, .int .i64 2), (13, .slice (some ⟨n1 + 1, 0, none⟩) 2 2), (1, .pointer (some ⟨n, 0, none⟩))])
    (fun s n2 h2 => s ≤ 2 ∧ n1 + 2 ≤ n2 ∧ Ext (n1 + 2) g h2) (fun s => 2 - s) 0 envs ⟨by omega, Nat.le_refl _, Ext.refl _ _⟩ ?_
  rintro i n2 h2 ⟨hi, hn2, E2⟩
  by_cases hlti : i < 2
  · rcases (show i = 0 ∨ i = 1 by omega) with rfl | rfl
    · have u2 : Unm h2 n2 (.pointer none) := .inl rfl
      have w0 := c_ext E2 (by omega) g0
      have b1_2 := c_ext E2 (by omega) k1
      have b2_2 := c_ext E2 (by omega) k2
      have b3_2 := c_ext E2 (by omega) k3
      repeat' (first | refine stpS ?_ | (refine stp2 ?_ ?_ <;> intro _))
      refine RS.call rfl opds (read_un u2 x.file x.at_ x.n) none'W ?_
      rintro r n3 h3 hle3 ⟨rfl, e3⟩
      have E3 : Ext (n1 + 2) g h3 := E2.trans (by omega) e3
      have u3 := u2.ext e3 hle3
      clear E2 e3 u2 b1_2 b2_2 b3_2
      have b1_3 := c_ext E3 (by omega) k1
      repeat' (first | refine stpS ?_ | (refine stp2 ?_ ?_ <;> intro _))
      refine RS.call rfl opds (size_un u3 x.file) none'W ?_
      rintro r n4 h4 hle4 ⟨rfl, e4⟩
      have E4 : Ext (n1 + 2) g h4 := E3.trans (by omega) e4
      have u4 := u3.ext e4 hle4
      clear E3 e4 u3 b1_3
      have b1_4 := c_ext E4 (by omega) k1
      have b2_4 := c_ext E4 (by omega) k2
      have b4_4 := c_ext E4 (by omega) k4
      repeat' (first | refine stpS ?_ | (refine stp2 ?_ ?_ <;> intro _))
      refine RS.call rfl opds (write_un u4 x.file x.at_ x.da x.data) none'W ?_
      rintro r n5 h5 hle5 ⟨rfl, e5⟩
      have E5 : Ext (n1 + 2) g h5 := E4.trans (by omega) e5
      have u5 := u4.ext e5 hle5
      clear E4 e5 u4 b1_4 b2_4 b4_4
      have b1_5 := c_ext E5 (by omega) k1
      have b2_5 := c_ext E5 (by omega) k2
      repeat' (first | refine stpS ?_ | (refine stp2 ?_ ?_ <;> intro _))
      refine RS.call rfl opds (truncate_un u5 x.file x.at_) none'W ?_
      rintro r n6 h6 hle6 ⟨rfl, e6⟩
      have E6 : Ext (n1 + 2) g h6 := E5.trans (by omega) e6
      have u6 := u5.ext e6 hle6
      clear E5 e6 u5 b1_5 b2_5
      have b1_6 := c_ext E6 (by omega) k1
      repeat' (first | refine stpS ?_ | (refine stp2 ?_ ?_ <;> intro _))
      refine RS.call rfl opds (sync_un u6 x.file) none'W ?_
      rintro r n7 h7 hle7 ⟨rfl, e7⟩
      have E7 : Ext (n1 + 2) g h7 := E6.trans (by omega) e7
      have u7 := u6.ext e7 hle7
      clear E6 e7 u6 b1_6
      have b5_7 := c_ext E7 (by omega) k5
      repeat' (first | refine stpS ?_ | (refine stp2 ?_ ?_ <;> intro _))
      refine RS.call rfl opds (crash_un u7 x.ka x.keep) none'W ?_
      rintro r n8 h8 hle8 ⟨rfl, e8⟩
      have E8 : Ext (n1 + 2) g h8 := E7.trans (by omega) e8
      have u8 := u7.ext e8 hle8
      clear E7 e8 u7 b5_7
      have b3_8 := c_ext E8 (by omega) k3
      have b5_8 := c_ext E8 (by omega) k5
      repeat' (first | refine stpS ?_ | (refine stp2 ?_ ?_ <;> intro _))
      refine RS.call rfl opds (setFuse_un u8 x.n x.ka x.keep) none'W ?_
      rintro r n9 h9 hle9 ⟨rfl, e9⟩
      have E9 : Ext (n1 + 2) g h9 := E8.trans (by omega) e9
      have u9 := u8.ext e9 hle9
      clear E8 e9 u8 b3_8 b5_8
      repeat' (first | refine stpS ?_ | (refine stp2 ?_ ?_ <;> intro _))
      refine RS.call rfl opds (restart_un u9) none'W ?_
      rintro r n10 h10 hle10 ⟨rfl, e10⟩
      have E10 : Ext (n1 + 2) g h10 := E9.trans (by omega) e10
      have u10 := u9.ext e10 hle10
      clear E9 e10 u9
      repeat' (first | refine stpS ?_ | (refine stp2 ?_ ?_ <;> intro _))
      refine RS.call rfl opds (down_un u10) none'W ?_
      rintro r n11 h11 hle11 ⟨rfl, e11⟩
      have E11 : Ext (n1 + 2) g h11 := E10.trans (by omega) e11
      have u11 := u10.ext e11 hle11
      clear E10 e11 u10
      repeat' (first | refine stpS ?_ | (refine stp2 ?_ ?_ <;> intro _))
      refine RS.call rfl opds (calls_un u11) none'W ?_
      rintro r n12 h12 hle12 ⟨rfl, e12⟩
      have E12 : Ext (n1 + 2) g h12 := E11.trans (by omega) e12
      have u12 := u11.ext e12 hle12
      clear E11 e12 u11
      repeat' (first | refine stpS ?_ | (refine stp2 ?_ ?_ <;> intro _))
      refine RS.call rfl opds (pending_un u12) none'W ?_
      rintro r n13 h13 hle13 ⟨rfl, e13⟩
      have E13 : Ext (n1 + 2) g h13 := E12.trans (by omega) e13
      have u13 := u12.ext e13 hle13
      clear E12 e13 u12
      repeat' (first | refine stpS ?_ | (refine stp2 ?_ ?_ <;> intro _))
      refine RS.call rfl opds (clone_un u13) none'W ?_
      rintro r n14 h14 hle14 ⟨rfl, e14⟩
      have E14 : Ext (n1 + 2) g h14 := E13.trans (by omega) e14
      have u14 := u13.ext e14 hle14
      clear E13 e14 u13
      repeat' (first | refine stpS ?_ | (refine stp2 ?_ ?_ <;> intro _))
      refine RS.call rfl opds (same_un u14) none'W ?_
      rintro r n15 h15 hle15 ⟨rfl, e15⟩
      have E15 : Ext (n1 + 2) g h15 := E14.trans (by omega) e15
      have u15 := u14.ext e15 hle15
      clear E14 e15 u14
      repeat' (first | refine stpS ?_ | (refine stp2 ?_ ?_ <;> intro _))
      refine nextC.normal ⟨1, by omega, envs, by omega, by omega, E15⟩
    · have u2 : Unm h2 n2 (.pointer (some ⟨n1, 0, none⟩)) := .inr ⟨n1, rfl, by omega, c_ext E2 (by omega) gm⟩
      have w1 := c_ext E2 (by omega) g1
      have b1_2 := c_ext E2 (by omega) k1
      have b2_2 := c_ext E2 (by omega) k2
      have b3_2 := c_ext E2 (by omega) k3
      repeat' (first | refine stpS ?_ | (refine stp2 ?_ ?_ <;> intro _))
      refine RS.call rfl opds (read_un u2 x.file x.at_ x.n) none'W ?_
      rintro r n3 h3 hle3 ⟨rfl, e3⟩
      have E3 : Ext (n1 + 2) g h3 := E2.trans (by omega) e3
      have u3 := u2.ext e3 hle3
      clear E2 e3 u2 b1_2 b2_2 b3_2
      have b1_3 := c_ext E3 (by omega) k1
      repeat' (first | refine stpS ?_ | (refine stp2 ?_ ?_ <;> intro _))
      refine RS.call rfl opds (size_un u3 x.file) none'W ?_
      rintro r n4 h4 hle4 ⟨rfl, e4⟩
      have E4 : Ext (n1 + 2) g h4 := E3.trans (by omega) e4
      have u4 := u3.ext e4 hle4
      clear E3 e4 u3 b1_3
      have b1_4 := c_ext E4 (by omega) k1
      have b2_4 := c_ext E4 (by omega) k2
      have b4_4 := c_ext E4 (by omega) k4
      repeat' (first | refine stpS ?_ | (refine stp2 ?_ ?_ <;> intro _))
      refine RS.call rfl opds (write_un u4 x.file x.at_ x.da x.data) none'W ?_
      rintro r n5 h5 hle5 ⟨rfl, e5⟩
      have E5 : Ext (n1 + 2) g h5 := E4.trans (by omega) e5
      have u5 := u4.ext e5 hle5
      clear E4 e5 u4 b1_4 b2_4 b4_4
      have b1_5 := c_ext E5 (by omega) k1
      have b2_5 := c_ext E5 (by omega) k2
      repeat' (first | refine stpS ?_ | (refine stp2 ?_ ?_ <;> intro _))
      refine RS.call rfl opds (truncate_un u5 x.file x.at_) none'W ?_
      rintro r n6 h6 hle6 ⟨rfl, e6⟩
      have E6 : Ext (n1 + 2) g h6 := E5.trans (by omega) e6
      have u6 := u5.ext e6 hle6
      clear E5 e6 u5 b1_5 b2_5
      have b1_6 := c_ext E6 (by omega) k1
      repeat' (first | refine stpS ?_ | (refine stp2 ?_ ?_ <;> intro _))
      refine RS.call rfl opds (sync_un u6 x.file) none'W ?_
      rintro r n7 h7 hle7 ⟨rfl, e7⟩
      have E7 : Ext (n1 + 2) g h7 := E6.trans (by omega) e7
      have u7 := u6.ext e7 hle7
      clear E6 e7 u6 b1_6
      have b5_7 := c_ext E7 (by omega) k5
      repeat' (first | refine stpS ?_ | (refine stp2 ?_ ?_ <;> intro _))
      refine RS.call rfl opds (crash_un u7 x.ka x.keep) none'W ?_
      rintro r n8 h8 hle8 ⟨rfl, e8⟩
      have E8 : Ext (n1 + 2) g h8 := E7.trans (by omega) e8
      have u8 := u7.ext e8 hle8
      clear E7 e8 u7 b5_7
      have b3_8 := c_ext E8 (by omega) k3
      have b5_8 := c_ext E8 (by omega) k5
      repeat' (first | refine stpS ?_ | (refine stp2 ?_ ?_ <;> intro _))
      refine RS.call rfl opds (setFuse_un u8 x.n x.ka x.keep) none'W ?_
      rintro r n9 h9 hle9 ⟨rfl, e9⟩
      have E9 : Ext (n1 + 2) g h9 := E8.trans (by omega) e9
      have u9 := u8.ext e9 hle9
      clear E8 e9 u8 b3_8 b5_8
      repeat' (first | refine stpS ?_ | (refine stp2 ?_ ?_ <;> intro _))
      refine RS.call rfl opds (restart_un u9) none'W ?_
      rintro r n10 h10 hle10 ⟨rfl, e10⟩
      have E10 : Ext (n1 + 2) g h10 := E9.trans (by omega) e10
      have u10 := u9.ext e10 hle10
      clear E9 e10 u9
      repeat' (first | refine stpS ?_ | (refine stp2 ?_ ?_ <;> intro _))
      refine RS.call rfl opds (down_un u10) none'W ?_
      rintro r n11 h11 hle11 ⟨rfl, e11⟩
      have E11 : Ext (n1 + 2) g h11 := E10.trans (by omega) e11
      have u11 := u10.ext e11 hle11
      clear E10 e11 u10
      repeat' (first | refine stpS ?_ | (refine stp2 ?_ ?_ <;> intro _))
      refine RS.call rfl opds (calls_un u11) none'W ?_
      rintro r n12 h12 hle12 ⟨rfl, e12⟩
      have E12 : Ext (n1 + 2) g h12 := E11.trans (by omega) e12
      have u12 := u11.ext e12 hle12
      clear E11 e12 u11
      repeat' (first | refine stpS ?_ | (refine stp2 ?_ ?_ <;> intro _))
      refine RS.call rfl opds (pending_un u12) none'W ?_
      rintro r n13 h13 hle13 ⟨rfl, e13⟩
      have E13 : Ext (n1 + 2) g h13 := E12.trans (by omega) e13
      have u13 := u12.ext e13 hle13
      clear E12 e13 u12
      repeat' (first | refine stpS ?_ | (refine stp2 ?_ ?_ <;> intro _))
      refine RS.call rfl opds (clone_un u13) none'W ?_
      rintro r n14 h14 hle14 ⟨rfl, e14⟩
      have E14 : Ext (n1 + 2) g h14 := E13.trans (by omega) e14
      have u14 := u13.ext e14 hle14
      clear E13 e14 u13
      repeat' (first | refine stpS ?_ | (refine stp2 ?_ ?_ <;> intro _))
      refine RS.call rfl opds (same_un u14) none'W ?_
      rintro r n15 h15 hle15 ⟨rfl, e15⟩
      have E15 : Ext (n1 + 2) g h15 := E14.trans (by omega) e15
      have u15 := u14.ext e15 hle15
      clear E14 e15 u14
      repeat' (first | refine stpS ?_ | (refine stp2 ?_ ?_ <;> intro _))
      refine nextC.normal ⟨2, by omega, envs, by omega, by omega, E15⟩
  · repeat' (first | refine stpS ?_ | (refine stp2 ?_ ?_ <;> intro _))
    rfl
end Go.Proofs.Ytchfnjfmlhacfaa
