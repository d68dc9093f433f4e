/- Contracts of the disk's methods: a write. -/
import Derived.Test.YtchfnjfmlhacfaaH
namespace Go.Proofs.Ytchfnjfmlhacfaa
open Go.Abs

theorem chunks_fuel (f : Nat) : ∀ (k k' at_ : Nat) (l : List UInt8), l.length ≤ k → l.length ≤ k' → chunks f k at_ l = chunks f k' at_ l := by
  intro k
  induction k with
  | zero =>
    intro k' at_ l h _
    have : l = [] := List.eq_nil_of_length_eq_zero (by omega)
    subst this
    cases k' <;> rfl
  | succ k ih =>
    intro k' at_ l h h2
    cases l with
    | nil => cases k' <;> rfl
    | cons x r =>
      cases k' with
      | zero => simp at h2
      | succ k' =>
        simp only [chunks]
        rw [ih]
        · rw [List.length_drop]; omega
        · rw [List.length_drop]; omega
theorem chunks_step (f at_ : Nat) (l : List UInt8) (h : 0 < l.length) : chunks f l.length at_ l = ⟨f, false, at_, l.take (min l.length (512 - at_ % 512))⟩ :: chunks f (l.drop (min l.length (512 - at_ % 512))).length (at_ + min l.length (512 - at_ % 512)) (l.drop (min l.length (512 - at_ % 512))) := by
  have ht : l.take (min l.length (512 - at_ % 512)) = l.take (512 - at_ % 512) := by rw [Nat.min_comm]; exact take_min _ _
  have hd : l.drop (min l.length (512 - at_ % 512)) = l.drop (512 - at_ % 512) := by
    rcases Nat.le_total (512 - at_ % 512) l.length with q | q
    · rw [Nat.min_eq_right q]
    · rw [Nat.min_eq_left q, List.drop_length, List.drop_of_length_le q]
  rw [ht, hd]
  cases l with
  | nil => simp at h
  | cons x r =>
    simp only [List.length_cons, chunks]
    congr 1
    exact chunks_fuel f _ _ _ _ (by rw [List.length_drop, List.length_cons]; omega) (Nat.le_refl _)
theorem chunks_length (f : Nat) : ∀ (k at_ : Nat) (l : List UInt8), (chunks f k at_ l).length ≤ l.length := by
  intro k
  induction k with
  | zero => intro at_ l; simp [chunks]
  | succ k ih =>
    intro at_ l
    cases l with
    | nil => simp [chunks]
    | cons x r =>
      simp only [chunks, List.length_cons]
      have := ih (at_ + min (r.length + 1) (512 - at_ % 512)) ((x :: r).drop (512 - at_ % 512))
      rw [List.length_drop, List.length_cons] at this
      omega
theorem chunks_ok (f : Nat) (hf : f = 0 ∨ f = 1) : ∀ (k at_ : Nat) (l : List UInt8), (0 < l.length → at_ + l.length ≤ 4194304) → ∀ p ∈ chunks f k at_ l, PcOk p := by
  intro k
  induction k with
  | zero => intro at_ l _ p hp; simp [chunks] at hp
  | succ k ih =>
    intro at_ l hl p hp
    cases l with
    | nil => simp [chunks] at hp
    | cons x r =>
      have hl := hl (by simp)
      rw [List.length_cons] at hl
      simp only [chunks, List.mem_cons] at hp
      rcases hp with rfl | hp
      · exact ⟨hf, fun _ => ⟨by simp only [List.length_take, List.length_cons]; omega, by simp only [List.length_take, List.length_cons]; omega⟩, fun q => by cases q⟩
      · refine ih _ _ (fun _ => ?_) p hp
        rw [List.length_drop, List.length_cons]; omega

section
variable {h h1 h2 : AH} {n n1 n2 d : Nat} {F G : Nat → Prop} {S S1 S2 : DS}
set_option maxHeartbeats 4000000 in
theorem write_dk {c : Option Addr} {b : List UInt8} (D : Dk h n d F G S) (f at_ : Int) (hat : at_ ≤ 9223372036854775807) (hB : SlB h n c b) (hc : c ≠ none → ¬ F (sb c)) (hps : S.ps.length + b.length ≤ 1099511627775) (hcl : S.calls < 4611686018427387904) :
    RF Try.prog F 13 #[.pointer (some ⟨d, 0, none⟩), .int .i64 f, .int .i64 at_, .slice c b.length b.length] n h (fun r n' h' => r = .int .i64 (S.write f at_ b).1 ∧ DkTo n d F G h (S.write f at_ b).2 n' h') := by
  refine RF.of Try.func13 rfl rfl (Nat.le_of_ble_eq_true rfl) ?_; dsimp only [argEnv]
  have hlt := D.lt
  by_cases hm : S.may f = 0
  · obtain ⟨i, hi, rfl, hd⟩ := may_zero hm
    have hme := may_dk D (i : Int)
    rw [hm] at hme
    by_cases hw : writeE at_ b = 0
    · have hw1 : ¬ at_ < 0 := fun q => by rw [writeE, if_pos q] at hw; cases hw
      obtain ⟨p, rfl⟩ : ∃ p : Nat, at_ = p := ⟨at_.toNat, by omega⟩
      have hw2 : 0 < b.length → p + b.length ≤ 4194304 := fun q => by
        rw [writeE, if_neg hw1] at hw
        split at hw
        · cases hw
        · omega
      have he : S.write (i : Int) (p : Nat) b = (S.writes i p b).ends := by rw [DS.write, if_neg (by rw [hm]; simp), if_neg (by rw [hw]; simp)]; simp
      rw [he]
      repeat' (first | refine stpS ?_ | (refine stp2 ?_ ?_ <;> intro _) | refine RS.call1 rfl opds (hme) none'W ?_)
      all_goals try (exfalso; omega)
      all_goals
        refine RC.loop ?_
        refine RL.inv (α := Nat × Option Addr × List UInt8 × List Pc × (Nat → Prop) × (Nat → Prop)) (fun s => [(0, .pointer (some ⟨d, 0, none⟩)), (1, .int .i64 (i : Nat)), (2, .int .i64 (s.1 : Nat)), (3, .slice s.2.1 s.2.2.1.length s.2.2.1.length)])
          (fun s n1 h1 => n ≤ n1 ∧ SlB h1 n1 s.2.1 s.2.2.1 ∧ (s.2.1 ≠ none → sb s.2.1 < n ∧ ¬ F (sb s.2.1)) ∧ (0 < s.2.2.1.length → s.1 + s.2.2.1.length ≤ 4194304) ∧ s.2.2.2.1.length + s.2.2.1.length ≤ S.ps.length + b.length ∧
            s.2.2.2.1 ++ chunks i s.2.2.1.length s.1 s.2.2.1 = S.ps ++ chunks i b.length p b ∧ Dk h1 n1 d s.2.2.2.2.1 s.2.2.2.2.2 { S with ps := s.2.2.2.1 } ∧ (∀ b, b < n → s.2.2.2.2.1 b → F b) ∧ (∀ b, b < n → s.2.2.2.2.2 b → G b) ∧ ExtW F n h h1)
          (fun s => s.2.2.1.length) (p, c, b, S.ps, F, G) envs ⟨Nat.le_refl _, hB, fun q => ⟨hB.ltA q, hc q⟩, hw2, Nat.le_refl _, rfl, D, fun _ _ q => q, fun _ _ q => q, ExtW.refl _ _ _⟩ ?_
        rintro ⟨a1, c1, l1, ps1, F1, G1⟩ n1 h1 ⟨hn1, hS1, hc1, hl1, hl2, hch, D1, hF1, hG1, e1⟩
        dsimp only at hS1 hc1 hl1 hl2 hch D1 hF1 hG1 ⊢
        have hlt1 := D1.lt
        repeat' (first | refine stpS ?_ | (refine stp2 ?_ ?_ <;> intro _))
        · have hstep := chunks_step i a1 l1 (by omega)
          have hk0 : 0 < min l1.length (512 - a1 % 512) := by omega
          have hk1 : min l1.length (512 - a1 % 512) ≤ l1.length := by omega
          have ek : min (l1.length : Int) (512 - (a1 : Int) % 512) = ((min l1.length (512 - a1 % 512) : Nat) : Int) := by omega
          rw [ek, Int.toNat_natCast]
          generalize min l1.length (512 - a1 % 512) = k at *
          have htl : (l1.take k).length = k := by rw [List.length_take]; omega
          have hlb := hl1 (by omega)
          refine RS.call rfl opds (clone_rf (l1.take k) c1 k n1 h1 (hS1.takeA k) htl.symm (by omega)) none'W ?_
          rintro r n2 h2 hle2 ⟨c2, rfl, hE2, hO2⟩
          have hc2 : c2 ≠ none := by
            intro q; subst q
            rcases hO2.or with z | z
            · omega
            · cases z.1
          have hc2' := hO2.at'.resolve_left hc2
          repeat' (first | refine stpS ?_ | (refine stp2 ?_ ?_ <;> intro _))
          have hpo : PcOk ⟨i, false, a1, l1.take k⟩ := ⟨by show i = 0 ∨ i = 1; omega, fun _ => ⟨by show 0 < (l1.take k).length; omega, by show a1 + (l1.take k).length ≤ 4194304; omega⟩, fun q => by cases q⟩
          have hdn := done_dk (D1.ext hE2 hle2) (p := ⟨i, false, a1, l1.take k⟩) (c := c2) hpo (by show ps1.length < _; omega) (fun _ => by have := hO2.slbE; exact this) (fun _ => ⟨hc2'.2, fun q => by have := D1.ltF _ q; omega⟩)
          have hpv : pcV ⟨i, false, a1, l1.take k⟩ c2 = .iface 68 (.agg #[.int .i64 (a1 : Nat), .slice c2 k k]) := by
            show Value.iface _ (.agg #[.int .i64 (a1 : Nat), .slice c2 (l1.take k).length (l1.take k).length]) = _
            rw [htl]
          rw [hpv] at hdn
          dsimp only at hdn
          refine RS.call rfl opds hdn (fun b hb => ?_) ?_
          · by_cases q : b < n
            · exact .inl (hF1 b q hb)
            · exact .inr (by omega)
          rintro r n3 h3 hle3 ⟨F3, G3, D3, hF3, hG3, e3⟩
          have hS3 : SlB h3 n3 c1 l1 := (hS1.ext hE2 hle2).extW e3 hle3 (fun q r => (hc1 q).2 (hF1 _ (hc1 q).1 r))
          repeat' (first | refine stpS ?_ | (refine stp2 ?_ ?_ <;> intro _))
          refine nextC.normal ⟨(a1 + k, sub c1 k, l1.drop k, ps1 ++ [(⟨i, false, a1, l1.take k⟩ : Pc)], F3, G3), ?_, ?_, by omega, ?_, ?_, ?_, ?_, ?_, D3, fun b hb q => hF1 b hb (hF3 b (by omega) q), fun b hb q => ?_, ?_⟩
          · dsimp only; rw [List.length_drop]; omega
          · dsimp only; rw [List.length_drop]; exact envs
          · have := hS3.cut (i := k) (u := l1.length) hk1 (Nat.le_refl _)
            rwa [List.take_length] at this
          · intro q
            have : c1 ≠ none := fun z => q (by dsimp only; rw [z]; rfl)
            dsimp only; rw [sb_sub]; exact hc1 this
          · dsimp only; rw [List.length_drop]; intro _; omega
          · dsimp only; rw [List.length_drop, List.length_append]; simp only [List.length_cons, List.length_nil]; omega
          · dsimp only; rw [List.append_assoc, List.singleton_append, ← hstep]; exact hch
          · rcases hG3 b (by omega) q with z | z
            · exact hG1 b hb z
            · have := z.2; omega
          · exact (e1.then hE2 hn1).trans e3 (by omega) (fun x hx q => hF1 x hx q)
        · have hl0 : l1 = [] := List.eq_nil_of_length_eq_zero (by omega)
          subst hl0
          have hch' : ps1 = S.ps ++ chunks i b.length p b := by simpa [chunks] using hch
          have hSe : ({ S with ps := ps1 } : DS) = S.writes i p b := by rw [hch']; rfl
          have hlen : (S.writes i p b).ps.length ≤ 1099511627776 := by
            have := chunks_length i b.length p b
            simp only [DS.writes, List.length_append]; omega
          rw [hSe] at D1
          refine RS.call rfl opds (ends_dk D1 hlen hcl) (fun b hb => ?_) ?_
          · by_cases q : b < n
            · exact .inl (hF1 b q hb)
            · exact .inr (by omega)
          rintro r n2 h2 hle2 ⟨rfl, hto⟩
          repeat' (first | refine stpS ?_ | (refine stp2 ?_ ?_ <;> intro _))
          exact ⟨rfl, DkTo.trans e1 hF1 hG1 hn1 hto⟩
    · by_cases hw1 : at_ < 0
      · have he : S.write (i : Int) at_ b = (1, S) := by simp [DS.write, hm, writeE, hw1]
        rw [he]
        repeat' (first | refine stpS ?_ | (refine stp2 ?_ ?_ <;> intro _) | refine RS.call1 rfl opds (hme) none'W ?_)
        exact ⟨rfl, D.to⟩
      · have hw2 : 0 < b.length ∧ (4194304 < at_ ∨ 4194304 - at_ < b.length) := Classical.byContradiction fun q => hw (by rw [writeE, if_neg hw1, if_neg q])
        have he : S.write (i : Int) at_ b = (5, S) := by simp [DS.write, hm, writeE, hw1, hw2]
        rw [he]
        repeat' (first | refine stpS ?_ | (refine stp2 ?_ ?_ <;> intro _) | refine RS.call1 rfl opds (hme) none'W ?_)
        all_goals first | exact ⟨rfl, D.to⟩ | (exfalso; omega)
  · have he : S.write f at_ b = (S.may f, S) := by simp [DS.write, hm]
    rw [he]
    repeat' (first | refine stpS ?_ | (refine stp2 ?_ ?_ <;> intro _) | refine RS.call1 rfl opds (may_dk D f) none'W ?_)
    exact ⟨rfl, D.to⟩
end
end Go.Proofs.Ytchfnjfmlhacfaa
