/- The document's disk: ends, crash, the fuse, the answers, cuts. -/
import Derived.Test.YtchfnjfmlhacfaaYc
namespace Go.Proofs.Ytchfnjfmlhacfaa
open Go.Abs

section
variable {h h1 h2 : AH} {n n1 n2 r : Nat} {sa : Nat → Option Addr} {ol ka : Option Addr} {pa : List (Option Addr)} {F G F1 G1 : Nat → Prop} {S S1 : DS}
theorem RfR.push {a' c : Option Addr} {p : Pc} (R : RfR h n r sa ol ka pa S) (hX : ExtX n ol h h2) (hn : n ≤ n2) (hO : OwnSl h2 0 n2 a' 4 (S.ps.length + 1) (rpsC S.ps pa ++ rpC p c)) (hnew : a' = ol ∨ a' = none ∨ n ≤ sb a') (hS : SlB h2 n2 c p.b) (hrc : apd r c) (hac : apt a' c) :
    RfR (h2.app (.sets r 2 [.slice a' (S.ps.length + 1) (S.ps.length + 1)])) n2 r sa a' ka (pa ++ [c]) (S.done p) := by
  obtain ⟨q1, q2, q3⟩ := R.rest hX hn
  refine R.put hX hn ?_ (by omega) q1 ?_ q2 (fun i p' hp => ?_) (by simp [DS.done, R.len]) hnew (fun x hx => ?_)
  · simp [rfC, DS.done]
  · show OwnSl _ _ _ _ _ (S.ps ++ [p]).length (rpsC (S.ps ++ [p]) (pa ++ [c]))
    rw [List.length_append, rpsC_snoc _ _ _ _ R.len]; exact hO
  · have hp : (S.ps ++ [p])[i]? = some p' := hp
    by_cases hi : i < S.ps.length
    · rw [List.getElem?_append_left hi] at hp
      have e : (pa ++ [c]).getD i none = pa.getD i none := by
        simp only [List.getD]
        rw [List.getElem?_append_left (by rw [R.len]; exact hi)]
      rw [e]; exact q3 i p' hp
    · have hi2 : i = S.ps.length := by
        have := (List.getElem?_eq_some_iff.1 hp).1
        simp at this; omega
      subst hi2
      rw [List.getElem?_append_right (Nat.le_refl _)] at hp
      simp at hp; subst hp
      have e : (pa ++ [c]).getD S.ps.length none = c := by
        simp only [List.getD]
        rw [List.getElem?_append_right (by rw [R.len]; exact Nat.le_refl _), R.len]; simp
      rw [e]; exact hS
  · have hx : x = c ∨ x ∈ rfG sa ka pa := by
      simp only [rfG, List.mem_cons, List.mem_append, List.not_mem_nil, or_false] at hx ⊢
      rcases hx with k | k | k | k | k <;> simp [k]
    rcases hx with rfl | k
    · by_cases q : x = none
      · exact .inr (.inl q)
      · exact .inr (.inr ⟨hS.ltA q, hrc, hac⟩)
    · exact .inl k
set_option maxHeartbeats 4000000 in
theorem rends_rk (D : Rk h n r F G S) (hps : S.ps.length ≤ 1099511627776) (b : Bool) :
    RF Try.prog F 57 #[.pointer (some ⟨r, 0, none⟩), .bool b] n h (fun v n' h' => v = .int .i64 (if b = true then 6 else 0) ∧ RkTo n r F G h (if b = true then S.lose S.keep else S) n' h') := by
  refine RF.of Try.func57 rfl rfl (Nat.le_of_ble_eq_true rfl) ?_; dsimp only [argEnv]
  have hlt := D.lt
  cases b
  · repeat' (first | refine stpS ?_ | (refine stp2 ?_ ?_ <;> intro _))
    exact ⟨rfl, D.to⟩
  · obtain ⟨ok, sa, ol, ka, pa, hF, hG, R⟩ := id D
    have c4 : h.cell r 4 = .slice ka S.keep.length S.keep.length := R.cs 4 _ rfl
    have hkF : ka ≠ none → ¬ F (sb ka) := fun q k => by
      subst hF
      rcases k with k | k
      · exact ((R.sep ka gmem_ka).1.resolve_left q) k.symm
      · exact (((R.sep ka gmem_ka).2.resolve_left k.1).resolve_left q) k.2.symm
    repeat' (first | refine stpS ?_ | (refine stp2 ?_ ?_ <;> intro _))
    refine RS.call rfl opds (rlose_rk D hps ok.keep R.ks hkF) (fun b hb => .inl hb) ?_
    rintro v n1 h1 hle to
    repeat' (first | refine stpS ?_ | (refine stp2 ?_ ?_ <;> intro _))
    exact ⟨rfl, to⟩
set_option maxHeartbeats 4000000 in
theorem rcrash_rk {c : Option Addr} {ks : List Bool} (D : Rk h n r F G S) (hps : S.ps.length ≤ 1099511627776) (hks : ks.length ≤ 1099511627776) (hS : SlT h n c ks) (hc : c ≠ none → ¬ F (sb c)) :
    RF Try.prog F 45 #[.pointer (some ⟨r, 0, none⟩), .slice c ks.length ks.length] n h (fun v n' h' => v = .int .i64 (S.crash ks).1 ∧ RkTo n r F G h (S.crash ks).2 n' h') := by
  refine RF.of Try.func45 rfl rfl (Nat.le_of_ble_eq_true rfl) ?_; dsimp only [argEnv]
  have hlt := D.lt
  obtain ⟨sa, ol, ka, C⟩ := D.cell
  have c6 : h.cell r 6 = .bool S.down := C 6 _ rfl
  cases hd : S.down
  · rw [hd] at c6
    have he : S.crash ks = (0, S.lose ks) := by simp [DS.crash, hd]
    rw [he]
    repeat' (first | refine stpS ?_ | (refine stp2 ?_ ?_ <;> intro _))
    refine RS.call rfl opds (rlose_rk D hps hks hS hc) (fun b hb => .inl hb) ?_
    rintro v n1 h1 hle hto
    repeat' (first | refine stpS ?_ | (refine stp2 ?_ ?_ <;> intro _))
    exact ⟨rfl, hto⟩
  · rw [hd] at c6
    have he : S.crash ks = (6, S) := by simp [DS.crash, hd]
    rw [he]
    repeat' (first | refine stpS ?_ | (refine stp2 ?_ ?_ <;> intro _))
    exact ⟨rfl, D.to⟩
set_option maxHeartbeats 4000000 in
theorem rrestart_rk (D : Rk h n r F G S) : RF Try.prog F 28 #[.pointer (some ⟨r, 0, none⟩)] n h (fun v n' h' => v = .int .i64 0 ∧ RkTo n r F G h S.restart n' h') := by
  refine RF.of Try.func28 rfl rfl (Nat.le_of_ble_eq_true rfl) ?_; dsimp only [argEnv]
  have hlt := D.lt
  have hTr := D.inF
  obtain ⟨ok, sa, ol, ka, pa, rfl, rfl, R⟩ := id D
  have hinf := R.inf
  have R1 : RfR (h.app (.sets r 6 [.bool false])) n r sa ol ka pa S.restart := R.scalar (.inr (.inr rfl)) rfl rfl rfl rfl
  repeat' (first | refine stpS ?_ | (refine stp2 ?_ ?_ <;> intro _))
  exact ⟨rfl, RkTo.mk ⟨ok.ps, ok.sure, ok.fuse, ok.calls, ok.keep⟩ R1 (.inl rfl) (fun x hx => .inl hx) (ExtW.appSets (.inl hTr) (ExtW.refl _ _ _))⟩
set_option maxHeartbeats 4000000 in
theorem rdown_rk (D : Rk h n r F G S) : Ev Try.prog none' 50 #[.pointer (some ⟨r, 0, none⟩)] n h (.bool S.down) n h := by
  refine RF.pure rfl fun n' hn => ?_
  have D := D.ext (Ext.refl n h) hn
  refine RF.of Try.func50 rfl rfl (Nat.le_of_ble_eq_true rfl) ?_; dsimp only [argEnv]
  have hlt := D.lt
  obtain ⟨sa, ol, ka, C⟩ := D.cell
  have c6 : h.cell r 6 = .bool S.down := C 6 _ rfl
  repeat' (first | refine stpS ?_ | (refine stp2 ?_ ?_ <;> intro _))
  rfl
set_option maxHeartbeats 4000000 in
theorem rcalls_rk (D : Rk h n r F G S) : Ev Try.prog none' 51 #[.pointer (some ⟨r, 0, none⟩)] n h (.int .i64 S.calls) n h := by
  refine RF.pure rfl fun n' hn => ?_
  have D := D.ext (Ext.refl n h) hn
  refine RF.of Try.func51 rfl rfl (Nat.le_of_ble_eq_true rfl) ?_; dsimp only [argEnv]
  have hlt := D.lt
  obtain ⟨sa, ol, ka, C⟩ := D.cell
  have c5 : h.cell r 5 = .int .i64 S.calls := C 5 _ rfl
  repeat' (first | refine stpS ?_ | (refine stp2 ?_ ?_ <;> intro _))
  rfl
theorem rnow_rk (D : Rk h n r F G S) (hps : S.ps.length ≤ 1099511627776) {f : Nat} (hf : f < 2) :
    RF Try.prog none' 49 #[.pointer (some ⟨r, 0, none⟩), .int .i64 (f : Nat)] n h (fun v n' h' => ∃ a', v = .slice a' (S.now f).length (S.now f).length ∧ Ext n h h' ∧ SlB h' n' a' (S.now f)) := by
  obtain ⟨ok, sa, ol, ka, pa, hF, hG, R⟩ := id D
  exact (rnow_rf R ok hps hf).mono fun v n' h' ⟨a', k1, k2, k3, _⟩ => ⟨a', k1, k2, k3⟩
set_option maxHeartbeats 4000000 in
theorem rsize_rk (D : Rk h n r F G S) (hps : S.ps.length ≤ 1099511627776) (f : Int) :
    RF Try.prog none' 48 #[.pointer (some ⟨r, 0, none⟩), .int .i64 f] n h (fun v n' h' => v = .tuple #[.int .i64 (if S.may f = 0 then ((S.now f.toNat).length : Int) else 0), .int .i64 (S.may f)] ∧ Ext n h h') := by
  refine RF.of Try.func48 rfl rfl (Nat.le_of_ble_eq_true rfl) ?_; dsimp only [argEnv]
  have hlt := D.lt
  by_cases hm : S.may f = 0
  · obtain ⟨i, hi, rfl, hd⟩ := may_zero hm
    have hme := rmay_rk D (i : Int)
    rw [hm] at hme ⊢
    have hno := D.ok.now i
    repeat' (first | refine stpS ?_ | (refine stp2 ?_ ?_ <;> intro _) | refine RS.call1 rfl opds (hme) none'W ?_)
    refine RS.call rfl opds (rnow_rk D hps hi) none'W ?_
    rintro v n1 h1 hle ⟨a', rfl, hE, hS⟩
    repeat' (first | refine stpS ?_ | (refine stp2 ?_ ?_ <;> intro _))
    exact ⟨by simp, hE⟩
  · repeat' (first | refine stpS ?_ | (refine stp2 ?_ ?_ <;> intro _) | refine RS.call1 rfl opds (rmay_rk D f) none'W ?_)
    exact ⟨by simp [hm], Ext.refl _ _⟩
set_option maxHeartbeats 4000000 in
theorem rread_rk (D : Rk h n r F G S) (hps : S.ps.length ≤ 1099511627776) (f at_ k : Int) :
    RF Try.prog none' 47 #[.pointer (some ⟨r, 0, none⟩), .int .i64 f, .int .i64 at_, .int .i64 k] n h (fun v n' h' => ∃ a', v = .tuple #[.slice a' (S.read f at_ k).2.length (S.read f at_ k).2.length, .int .i64 (S.read f at_ k).1] ∧ Ext n h h' ∧ SlB h' n' a' (S.read f at_ k).2) := by
  refine RF.of Try.func47 rfl rfl (Nat.le_of_ble_eq_true rfl) ?_; dsimp only [argEnv]
  have hlt := D.lt
  by_cases hm : S.may f = 0
  · obtain ⟨i, hi, rfl, hd⟩ := may_zero hm
    have hme := rmay_rk D (i : Int)
    rw [hm] at hme
    have hno := D.ok.now i
    by_cases hsz : at_ < 0 ∨ k < 0
    · have he : S.read (i : Int) at_ k = (1, []) := by simp [DS.read, hm, hsz]
      rw [he]
      repeat' (first | refine stpS ?_ | (refine stp2 ?_ ?_ <;> intro _) | refine RS.call1 rfl opds (hme) none'W ?_)
      all_goals first | exact ⟨none, rfl, Ext.refl _ _, .nil⟩ | (exfalso; omega)
    · obtain ⟨p, rfl⟩ : ∃ p : Nat, at_ = p := ⟨at_.toNat, by omega⟩
      obtain ⟨q, rfl⟩ : ∃ q : Nat, k = q := ⟨k.toNat, by omega⟩
      have he : S.read (i : Int) (p : Nat) (q : Nat) = (0, ((S.now i).drop p).take q) := by rw [DS.read, if_neg (by rw [hm]; simp), if_neg hsz]; simp
      rw [he]
      repeat' (first | refine stpS ?_ | (refine stp2 ?_ ?_ <;> intro _) | refine RS.call1 rfl opds (hme) none'W ?_)
      refine RS.call rfl opds (rnow_rk D hps hi) none'W ?_
      rintro v n1 h1 hle ⟨a', rfl, hE, hS⟩
      generalize S.now i = l at *
      by_cases hp : l.length < p
      · rw [List.drop_of_length_le (by omega), List.take_nil]
        repeat' (first | refine stpS ?_ | (refine stp2 ?_ ?_ <;> intro _))
        exact ⟨none, rfl, hE, .nil⟩
      · have hS1 : SlB h1 n1 (sub a' p) (l.drop p) := by
          have := hS.cut (i := p) (u := l.length) (by omega) (Nat.le_refl _)
          rwa [List.take_length] at this
        have e2 : l.length - p = (l.drop p).length := by rw [List.length_drop]
        have hdl : (l.drop p).length ≤ 4194304 := by rw [List.length_drop]; omega
        repeat' (first | refine stpS ?_ | (refine stp2 ?_ ?_ <;> intro _))
        rw [Int.toNat_natCast, e2]
        generalize l.drop p = l1 at *
        generalize sub a' p = a1 at *
        repeat' (first | refine stpS ?_ | (refine stp2 ?_ ?_ <;> intro _))
        have e3 : (min (q : Int) (l1.length : Int)).toNat = min q l1.length := by omega
        have hS2 := hS1.take (u := min q l1.length) (by omega)
        rw [take_min] at hS2
        exact ⟨a1, by rw [e3, List.length_take], hE, hS2⟩
  · have he : S.read f at_ k = (S.may f, []) := by simp [DS.read, hm]
    rw [he]
    repeat' (first | refine stpS ?_ | (refine stp2 ?_ ?_ <;> intro _) | refine RS.call1 rfl opds (rmay_rk D f) none'W ?_)
    exact ⟨none, rfl, Ext.refl _ _, .nil⟩
set_option maxHeartbeats 4000000 in
theorem rsetFuse_rk {c : Option Addr} {ks : List Bool} (D : Rk h n r F G S) (k : Int) (hk : k ≤ 9223372036854775807) (hks : ks.length ≤ 1099511627776) (hS : SlT h n c ks) (hc : c ≠ none → ¬ F (sb c)) :
    RF Try.prog F 46 #[.pointer (some ⟨r, 0, none⟩), .int .i64 k, .slice c ks.length ks.length] n h (fun v n' h' => v = .int .i64 (S.setFuse k ks).1 ∧ RkTo n r F G h (S.setFuse k ks).2 n' h') := by
  refine RF.of Try.func46 rfl rfl (Nat.le_of_ble_eq_true rfl) ?_; dsimp only [argEnv]
  have hlt := D.lt
  have hTr := D.inF
  by_cases hk0 : k < 0
  · have he : S.setFuse k ks = (1, S) := by simp [DS.setFuse, hk0]
    rw [he]
    repeat' (first | refine stpS ?_ | (refine stp2 ?_ ?_ <;> intro _))
    exact ⟨rfl, D.to⟩
  · have he : S.setFuse k ks = (0, { S with fuse := k, keep := ks }) := by simp [DS.setFuse, hk0]
    rw [he]
    obtain ⟨ok, sa, ol, ka, pa, rfl, rfl, R⟩ := id D
    have hinf := R.inf
    have R1 : RfR (h.app (.sets r 3 [.int .i64 k])) n r sa ol ka pa { S with fuse := k } := R.scalar (.inl rfl) rfl rfl rfl rfl
    have hr : (List.range (ks.length * 1)).map (boolsF ks) = boolsV ks := by
      apply List.ext_getElem
      · simp [boolsV]
      · intro i h1 h2
        have hi : i < ks.length := by simpa [boolsV] using h2
        simp [boolsV, boolsF, List.getD, hi]
    have hkn : ∀ l : List Bool, known (boolsV l) = true := fun l => by
      induction l with
      | nil => rfl
      | cons x l ih => simpa [boolsV, known] using ih
    have hSr : SlT (h.app (.sets r 3 [.int .i64 k])) n c ks := hS.extW (W := fun b => b = r) (ExtW.appSets (.inl rfl) (ExtW.refl _ _ _)) (Nat.le_refl _) (fun q e => hc q (e ▸ hTr))
    repeat' (first | refine stpS ?_ | (refine stp2 ?_ ?_ <;> intro _))
    refine RS.append rfl opd opd (OwnSl.nil (h := h.app (.sets r 3 [.int .i64 k])) (n0 := n) (n := n) (z := 1) (Nat.le_refl n)) (SlR.src hSr (by rw [hr]; exact hkn ks)) full_slice (fun b hb => Or.inr (by omega)) (by omega) ?_
    intro a' n1 h1 hle hO hX hnew
    have hE := hX.ext (OwnSl.nil (h := h.app (.sets r 3 [.int .i64 k])) (n0 := n) (n := n) (z := 1) (Nat.le_refl n))
    simp only [Nat.zero_add, List.nil_append, hr] at hO ⊢
    have hlt1 := R1.lt
    have hinf1 : h1.info r = some ⟨7, 0, true, 0⟩ := (hE.info r hlt1).trans R1.inf
    have hX1 : ExtX n ol (h.app (.sets r 3 [.int .i64 k])) h1 := fun x hx _ => ⟨hE.info x hx, fun i => hE.cell x i hx⟩
    obtain ⟨q1, q2, q3⟩ := R1.rest hX1 hle
    have hat := hO.at'
    have hol : ol = none ∨ sb ol < n := by
      by_cases q : ol = none
      · exact .inl q
      · exact .inr (R1.ltF _ (.inr ⟨q, rfl⟩))
    have hg : ∀ x, x ∈ rfG sa a' pa → x = a' ∨ x ∈ rfG sa ka pa := fun x hx => by
      simp only [rfG, List.mem_cons] at hx ⊢
      rcases hx with k | k | k | k <;> simp [k]
    have R2 : RfR (h1.app (.sets r 4 [.slice a' ks.length ks.length])) n1 r sa ol a' pa { S with fuse := k, keep := ks } :=
      R1.put hX1 hle rfl (by omega) q1 (R1.lo.ext hE hle) hO.slt q3 R1.len (.inl rfl) (fun x hx => by
        rcases hg x hx with rfl | k
        · rcases hat with k | k
          · exact .inr (.inl k)
          · refine .inr (.inr ⟨k.2, .inr (by omega), ?_⟩)
            rcases hol with q | q
            · exact .inl q
            · exact .inr (.inr (by omega))
        · exact .inl k)
    repeat' (first | refine stpS ?_ | (refine stp2 ?_ ?_ <;> intro _))
    exact ⟨rfl, RkTo.mk ⟨ok.ps, ok.sure, by show 0 ≤ k ∧ k ≤ 9223372036854775807; omega, ok.calls, hks⟩ R2 (.inl rfl) (fun x hx => (hg x hx).elim (fun q => .inr (q ▸ hat.imp id (·.1))) .inl) (ExtW.appSets (.inl hTr) ((ExtW.appSets (.inl hTr) (ExtW.refl _ _ _)).then hE (Nat.le_refl _)))⟩
end
end Go.Proofs.Ytchfnjfmlhacfaa
