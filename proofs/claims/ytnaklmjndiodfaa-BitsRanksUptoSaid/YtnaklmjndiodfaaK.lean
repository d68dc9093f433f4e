/- The law BitsJoins. -/
import Derived.Test.YtnaklmjndiodfaaJ
namespace Go.Proofs.Ytnaklmjndiodfaa
open Go.Abs

set_option maxHeartbeats 4000000 in
theorem cloneBs_rf (L : List BsE) (a : Option Addr) (m n : Nat) (h : AH) (B : BsRep h n a L) (e : m = L.length) (hm : m ≤ 1048576) :
    RF Try.prog none' 40 #[.slice a m m] n h (fun r n' h' => ∃ a', r = .slice a' m m ∧ Ext n h h' ∧ OwnSl h' n n' a' 2 m (bsC L)) := by
  subst e
  refine RF.of Try.func40 rfl rfl (Nat.le_of_ble_eq_true rfl) ?_; dsimp only [argEnv]
  rcases B.shp.out with ⟨ha, hl⟩ | ⟨ha, hb, mm, hi, hz⟩
  · have : L = [] := List.eq_nil_of_length_eq_zero hl
    subst this; subst ha
    repeat' (first | refine stpS ?_ | (refine stp2 ?_ ?_ <;> intro _))
    exact ⟨none, rfl, ext, OwnSl.nil (by omega)⟩
  · have S : SlR h n a 2 L.length (fun j => (bsC L).getD j (.tuple #[])) := by
      refine ⟨.inr ⟨ha, hb, mm, hi, hz⟩, fun j hj => ?_⟩
      obtain ⟨i, hij⟩ : ∃ i, j = i * 2 ∨ j = i * 2 + 1 := ⟨j / 2, by omega⟩
      have hil : i < L.length := by omega
      obtain ⟨h1, h2, _⟩ := B.at_ i L[i] (by simp [hil])
      obtain ⟨k1, k2⟩ := bsC_at L i L[i] (by simp [hil])
      rcases hij with rfl | rfl
      · rw [k1]; exact h1
      · rw [k2]; exact h2
    have hr : (List.range (L.length * 2)).map (fun j => (bsC L).getD j (.tuple #[])) = bsC L := by
      apply List.ext_getElem
      · simp [bsC_length]
      · intro i h1 h2
        simp [List.getD, h2]
    rw [ha]
    rw [ha] at S
    repeat' (first | refine stpS ?_ | (refine stp2 ?_ ?_ <;> intro _))
    refine RS.append rfl opd opd (OwnSl.new (z := 2) (m := 0) (cs := []) (Nat.le_refl n) rfl rfl) (SlR.src (S.ext ext (Nat.le_refl _)) (by rw [hr]; exact bsC_known L)) full_slice (fun b hb => Or.inr (by omega)) (by omega) ?_
    intro a' n1 h1 hle hO hX hnew
    have hE := hX.ext (OwnSl.new (z := 2) (m := 0) (cs := []) (Nat.le_refl n) rfl rfl)
    simp only [Nat.zero_add, List.nil_append, hr] at hO ⊢
    repeat' (first | refine stpS ?_ | (refine stp2 ?_ ?_ <;> intro _))
    exact ⟨a', rfl, ext, hO⟩
/-- What or has made of its rows: nots, in blocks of their own. -/
def notE (x : BsE) (y : BsE) : Prop := y.1 = ((tru x).map (!·)).length ∧ y.2.2 = packB ((tru x).map (!·))
theorem notE_tru {x y : BsE} (h : notE x y) : tru y = (tru x).map (!·) := by
  unfold tru; rw [h.1, h.2]; exact truths_pack _
theorem mergeT_len {g : Bool → Bool → Bool} {t w : List Bool} {r : List (List Bool)} (h : mergeT g t r = some w) : w.length = t.length := by
  induction r generalizing t with
  | nil => simp only [mergeT, Option.some.injEq] at h; rw [h]
  | cons u r ih =>
    simp only [mergeT] at h
    by_cases e : u.length = t.length
    · rw [if_pos e] at h
      rw [ih h, bothT, List.length_zipWith]; omega
    · rw [if_neg e] at h; cases h
theorem allT_le {g : Bool → Bool → Bool} {L : List BsE} {w : List Bool} (hL : ∀ x ∈ L, x.2.2.length ≤ 1048576) (h : allT g (L.map tru) = some w) : w.length ≤ 8388608 := by
  cases L with
  | nil => cases h
  | cons x L => rw [mergeT_len h]; exact tru_len x (hL x (by simp))
set_option maxHeartbeats 4000000 in
theorem refOr_rf (L : List BsE) (a : Option Addr) (m n : Nat) (h : AH) (B : BsRep h n a L) (e : m = L.length) (hm : m ≤ 1048576) (hL : ∀ x ∈ L, x.2.2.length ≤ 1048576) :
    RF Try.prog none' 45 #[.slice a m m] n h (BitsE n h (allT or (L.map tru))) := by
  subst e
  have hA := B.shp.sla
  refine RF.of Try.func45 rfl rfl (Nat.le_of_ble_eq_true rfl) ?_; dsimp only [argEnv]
  repeat' (first | refine stpS ?_ | (refine stp2 ?_ ?_ <;> intro _))
  refine RC.loop ?_
  refine RL.inv (α := Nat × Option Addr × List BsE) (fun s => [(5, .int .i64 (s.1 : Nat)), (4, .slice s.2.1 s.1 s.1), (2, .pointer (some ⟨n, 0, none⟩)), (0, .slice a L.length L.length)])
    (fun s n1 h1 => s.1 ≤ L.length ∧ n + 1 ≤ n1 ∧ Ext n h h1 ∧ h1.info n = some ⟨2, 0, true, 0⟩ ∧ s.2.2.map tru = (L.take s.1).map (fun x => (tru x).map (!·)) ∧ (∀ y ∈ s.2.2, y.2.2.length ≤ 1048576) ∧
      OwnSl h1 (n + 1) n1 s.2.1 2 s.1 (bsC s.2.2) ∧ ∀ y ∈ s.2.2, SlB h1 n1 y.2.1 y.2.2 ∧ (s.2.1 = none ∨ y.2.1 = none ∨ sb y.2.1 ≠ sb s.2.1))
    (fun s => L.length - s.1) (0, none, []) envs ⟨by omega, by omega, ext, info, rfl, (by intro y hy; cases hy), OwnSl.nil (Nat.le_refl _), by intro y hy; cases hy⟩ ?_
  rintro ⟨i, c, M⟩ n1 h1 ⟨hi, hn, hE, hI, hmt, hMl, hO, hMS⟩
  dsimp only at hi hn hE hI hmt hMl hO hMS ⊢
  have hMi : M.length = i := by have := hO.len; rw [bsC_length] at this; omega
  by_cases hlt : i < L.length
  · obtain ⟨y, hyi⟩ : ∃ y, L[i]? = some y := ⟨L[i], by simp [hlt]⟩
    obtain ⟨d0, d1, S1⟩ := B.at_ i y hyi
    have hsa := B.shp.lt (by omega)
    have hy := hL y (List.mem_of_getElem? hyi)
    have hty := tru_len y hy
    repeat' (first | refine stpS ?_ | (refine stp2 ?_ ?_ <;> intro _))
    refine RS.call rfl opds (refNot_rf y.1 y.2.2 _ _ _ _ (S1.ext ext (by omega)) rfl (by omega)) none'W ?_
    rintro r n2 h2 hle2 ⟨c2, rfl, hE2, hO2⟩
    have hS2 := hO2.slbE
    have hpl := packB_length ((truths y.1 y.2.2).map (!·))
    have hml : ((truths y.1 y.2.2).map (!·)).length = (tru y).length := by rw [List.length_map]; rfl
    repeat' (first | refine stpS ?_ | (refine stp2 ?_ ?_ <;> intro _))
    have hnew : OwnSl _ n2 (n2 + 1) (some ⟨n2, 0, none⟩) 2 1 (bsC [((((truths y.1 y.2.2).map (!·)).length : Int), c2, packB ((truths y.1 y.2.2).map (!·)))]) := OwnSl.new (h := h2) (m := 1) (z := 2) (Nat.le_refl n2) rfl rfl
    refine RS.append rfl opd opd (hO.ext (n1 := n2 + 1) ext (by omega)) (OwnSl.src hnew) full_slice (fun b hb => Or.inr (by omega)) (by omega) ?_
    intro c3 n3 h3 hle3 hO3 hX hwh
    have hE3 := hX.ext (hO.ext (n1 := n2 + 1) ext (by omega))
    rw [← bsC_append] at hO3
    repeat' (first | refine stpS ?_ | (refine stp2 ?_ ?_ <;> intro _))
    refine nextC.normal ⟨(i + 1, c3, M ++ [((((truths y.1 y.2.2).map (!·)).length : Int), c2, packB ((truths y.1 y.2.2).map (!·)))]), by dsimp only; omega, envs, by dsimp only; omega, by omega, ext, info, ?_, ?_, hO3, ?_⟩
    · dsimp only
      rw [List.map_append, hmt, List.map_cons, List.map_nil, pack_bs, List.take_succ_eq_append_getElem hlt, List.map_append]
      obtain ⟨_, e⟩ := List.getElem?_eq_some_iff.1 hyi
      rw [e]; rfl
    · intro z hz
      rcases List.mem_append.1 hz with hz | hz
      · exact hMl z hz
      · simp only [List.mem_cons, List.not_mem_nil, or_false] at hz; subst hz; dsimp only; omega
    · dsimp only
      have hat := hO.at'
      have hat2 := hO2.at'
      intro z hz
      rcases List.mem_append.1 hz with hz | hz
      · obtain ⟨q1, q2⟩ := hMS z hz
        have hzl : z.2.1 = none ∨ sb z.2.1 < n1 := by
          rcases q1.shape with ⟨k, _⟩ | ⟨_, k, _⟩
          · exact .inl k
          · exact .inr k
        refine ⟨(SlR.extX (q1.ext (n' := n2 + 1) ext (by omega)) hX q2).ext (Ext.refl _ _) hle3, ?_⟩
        rcases hwh with rfl | hw
        · exact q2
        · rcases hzl with k | k
          · exact .inr (.inl k)
          · exact .inr (.inr (by omega))
      · simp only [List.mem_cons, List.not_mem_nil, or_false] at hz
        subst hz
        dsimp only
        have q2 : c = none ∨ c2 = none ∨ sb c2 ≠ sb c := by
          rcases hat with k | k
          · exact .inl k
          · rcases hat2 with k2 | k2
            · exact .inr (.inl k2)
            · exact .inr (.inr (by omega))
        refine ⟨(SlR.extX (hS2.ext (n' := n2 + 1) ext (by omega)) hX q2).ext (Ext.refl _ _) hle3, ?_⟩
        rcases hwh with rfl | hw
        · exact q2
        · rcases hat2 with k | k
          · exact .inr (.inl k)
          · exact .inr (.inr (by omega))
  · have : i = L.length := by omega
    subst this
    rw [List.take_length] at hmt
    have hB : BsRep h1 n1 c M := OwnSl.bs hO fun x hx => (hMS x hx).1
    repeat' (first | refine stpS ?_ | (refine stp2 ?_ ?_ <;> intro _))
    refine RS.call rfl opds (refAnd_rf M c L.length _ _ (hB.ext ext (by omega)) hMi.symm (by omega) hMl) none'W ?_
    have hall := all_not (L.map tru)
    rw [List.map_map] at hall
    rw [hmt, show (L.map fun x => (tru x).map (!·)) = L.map ((fun x : List Bool => x.map (!·)) ∘ tru) from rfl, hall]
    rintro r n2 h2 hle2 ⟨v, rfl, c2, rfl, hE2, hO2⟩
    have hS2 := hO2.slbE
    cases hT : allT or (L.map tru) with
    | none =>
      rw [hT] at hO2 hS2
      simp only [Option.map_none, Option.getD_none] at hO2 hS2 ⊢
      repeat' (first | refine stpS ?_ | (refine stp2 ?_ ?_ <;> intro _))
      exact ⟨_, rfl, BitsRes.none (by omega) ext⟩
    | some w =>
      rw [hT] at hO2 hS2
      simp only [Option.map_some, Option.getD_some] at hO2 hS2 ⊢
      have hpw := packB_length (w.map (!·))
      have hN1 : ∀ n h, SlB h n c2 (packB (w.map (!·))) → RF Try.prog none' 41 #[.agg #[.int .i64 (w.map (!·)).length, .slice c2 (packB (w.map (!·))).length (packB (w.map (!·))).length]] n h (BitsRes n h w) := fun n h S => by
        have := refNot_rf (w.map (!·)).length (packB (w.map (!·))) c2 _ n h S rfl (by rw [packB_length, List.length_map]; have := allT_le hL hT; omega)
        rwa [truths_pack, not_not] at this
      repeat' (first | refine stpS ?_ | (refine stp2 ?_ ?_ <;> intro _))
      refine RS.call rfl opds (hN1 _ _ (hS2.ext ext (by omega))) none'W ?_
      rintro r n3 h3 hle3 ⟨c3, rfl, hE3, hO3⟩
      repeat' (first | refine stpS ?_ | (refine stp2 ?_ ?_ <;> intro _))
      refine ⟨_, rfl, c3, rfl, ext, ?_⟩
      exact (hO3.sets (by omega)).mono (by omega)
/-- Cells from i on. -/
def setV (cs : List Value) (i : Nat) (vs : List Value) : List Value := cs.take i ++ vs ++ cs.drop (i + vs.length)
theorem known_append {l m : List Value} (hl : Go.Abs.known l = true) (hm : Go.Abs.known m = true) : Go.Abs.known (l ++ m) = true := by
  induction l with
  | nil => exact hm
  | cons v l ih => cases v <;> simp_all [Go.Abs.known]
theorem known_sub {l : List Value} (h : Go.Abs.known l = true) : ∀ i, Go.Abs.known (l.take i) = true ∧ Go.Abs.known (l.drop i) = true := by
  induction l with
  | nil => intro i; simp [Go.Abs.known]
  | cons v l ih =>
    intro i
    cases i with
    | zero => exact ⟨rfl, h⟩
    | succ i => cases v <;> simp_all [Go.Abs.known]
theorem OwnSl.setV {h : AH} {n0 n z m i : Nat} {a : Option Addr} {cs vs : List Value} (o : OwnSl h n0 n a z m cs) (hi : i + vs.length ≤ m * z) (hv : Go.Abs.known vs = true) : OwnSl (h.app (.sets (sb a) (so a + i) vs)) n0 n a z m (Ytnaklmjndiodfaa.setV cs i vs) := by
  have hl := o.len
  refine ⟨o.le, by simp only [Ytnaklmjndiodfaa.setV, List.length_append, List.length_take, List.length_drop]; omega, known_append (known_append (known_sub o.kn i).1 hv) (known_sub o.kn _).2, ?_⟩
  rcases o.or with ⟨k1, k2⟩ | ⟨k1, k2, k3, k4, k5⟩
  · exact .inl ⟨k1, k2⟩
  · refine .inr ⟨k1, k2, k3, i_sets k4, ?_⟩
    have hso : so a = 0 := by rw [k1]; rfl
    apply List.ext_getElem
    · rw [rd_length]; simp only [Ytnaklmjndiodfaa.setV, List.length_append, List.length_take, List.length_drop]; omega
    · intro j h1 h2
      rw [rd_length] at h1
      have e1 := rd_getD (h.app (.sets (sb a) (so a + i) vs)) (sb a) (m * z) 0 j h1
      have e2 := rd_getD h (sb a) (m * z) 0 j h1
      rw [k5] at e2
      have e3 : (rd (h.app (.sets (sb a) (so a + i) vs)) (sb a) 0 (m * z)).getD j (.tuple #[]) = (rd (h.app (.sets (sb a) (so a + i) vs)) (sb a) 0 (m * z))[j]'(by rw [rd_length]; exact h1) := by simp [List.getD, rd_length, h1]
      rw [← e3, e1]
      simp only [AH.app, Dl.sets, Nat.zero_add, hso] at e2 ⊢
      by_cases hj : i ≤ j ∧ j < i + vs.length
      · rw [if_pos ⟨trivial, hj⟩, Option.getD_some]
        simp only [Ytnaklmjndiodfaa.setV]
        rw [List.getElem_append_left (by simp only [List.length_append, List.length_take]; omega), List.getElem_append_right (by rw [List.length_take]; omega)]
        have : min i cs.length = i := by omega
        simp [List.getD, this, show j - i < vs.length by omega]
      · rw [if_neg (fun q => hj q.2), Option.getD_none, ← e2]
        simp only [Ytnaklmjndiodfaa.setV, List.getD]
        by_cases hlt : j < i
        · rw [List.getElem_append_left (by simp only [List.length_append, List.length_take]; omega), List.getElem_append_left (by rw [List.length_take]; omega)]
          rw [List.getElem?_eq_getElem (by omega)]; simp
        · rw [List.getElem_append_right (by simp only [List.length_append, List.length_take]; omega)]
          rw [List.getElem?_eq_getElem (by omega)]
          simp only [List.getElem_drop, List.length_append, List.length_take, Option.getD_some]
          congr 1; omega
theorem bsC_set (L : List BsE) (i : Nat) (x : BsE) (hi : i < L.length) : Ytnaklmjndiodfaa.setV (bsC L) (i * 2) [.int .i64 x.1, .slice x.2.1 x.2.2.length x.2.2.length] = bsC (L.set i x) := by
  induction L generalizing i with
  | nil => simp at hi
  | cons y L ih =>
    cases i with
    | zero => rfl
    | succ i =>
      have := ih i (by simpa using hi)
      rw [List.set_cons_succ, show (i + 1) * 2 = i * 2 + 1 + 1 by omega]
      have e1 : bsC (y :: L) = .int .i64 y.1 :: .slice y.2.1 y.2.2.length y.2.2.length :: bsC L := rfl
      have e2 : bsC (y :: L.set i x) = .int .i64 y.1 :: .slice y.2.1 y.2.2.length y.2.2.length :: bsC (L.set i x) := rfl
      rw [e1, e2, ← this]
      simp only [Ytnaklmjndiodfaa.setV, List.take_succ_cons, List.cons_append, List.length_cons, List.length_nil]
      rw [show i * 2 + 1 + 1 + (0 + 1 + 1) = i * 2 + (0 + 1 + 1) + 1 + 1 by omega, List.drop_succ_cons, List.drop_succ_cons]
def smallE (x : BsE) : BsE := (x.1, x.2.1, x.2.2.take 4096)
theorem joinT_bound (L : List BsE) (hL : ∀ x ∈ L, x.2.2.length ≤ 4096) : (joinT L).length ≤ L.length * 32768 := by
  induction L with
  | nil => simp [joinT]
  | cons x L ih =>
    have h1 := hL x (by simp)
    have h2 := plc_le x.1 x.2.2.length
    have h3 := ih fun y hy => hL y (List.mem_cons_of_mem _ hy)
    have h4 : (tru x).length ≤ 32768 := by rw [tru, truths_length]; omega
    simp only [joinT, List.map_cons, List.flatten_cons, List.length_append, List.length_cons] at h3 ⊢
    omega
set_option maxHeartbeats 4000000 in
theorem law_BitsJoins (L : List BsE) (a : Option Addr) (n : Nat) (h : AH) (f k : Int) (B : BsRep h n a L) (hm : L.length ≤ 1048576) (hL : ∀ x ∈ L, x.2.2.length ≤ 1048576) (hn : 0 < n)
    (hf : -9223372036854775808 ≤ f ∧ f ≤ 9223372036854775807) (hk : -9223372036854775808 ≤ k ∧ k ≤ 9223372036854775807) :
    RF Try.prog none' 9 #[.slice a L.length L.length, .int .i64 f, .int .i64 k] n h (fun r _ _ => r = .bool true) := by
  refine RF.of Try.func9 rfl rfl (Nat.le_of_ble_eq_true rfl) ?_; dsimp only [argEnv]
  repeat' (first | refine stpS ?_ | (refine stp2 ?_ ?_ <;> intro _))
  refine RS.call rfl opds (cloneBs_rf L a L.length _ _ (B.ext ext (by omega)) rfl hm) none'W ?_
  rintro r n1 h1 hle ⟨a1, rfl, hE1, hO1⟩
  repeat' (first | refine stpS ?_ | (refine stp2 ?_ ?_ <;> intro _))
  refine RC.loop ?_
  refine RL.inv (α := Nat) (fun i => [(20, .int .i64 (i : Nat)), (19, .int .i64 L.length), (0, .slice a1 L.length L.length), (1, .int .i64 f), (2, .int .i64 k)])
    (fun i n2 h2 => i ≤ L.length ∧ n1 ≤ n2 ∧ Ext n h h2 ∧ OwnSl h2 n n1 a1 2 L.length (bsC (updI (fun _ x => smallE x) L i)))
    (fun i => L.length - i) 0 envs ⟨by omega, by omega, ext, by rw [updI_zero]; exact hO1⟩ ?_
  rintro i n2 h2 ⟨hi, hn2, hE2, hO⟩
  by_cases hlt : i < L.length
  · obtain ⟨y, hyi⟩ : ∃ y, L[i]? = some y := ⟨L[i], by simp [hlt]⟩
    obtain ⟨y0, hy0⟩ : ∃ y, L[0]? = some y := ⟨L[0], by simp [show 0 < L.length by omega]⟩
    obtain ⟨-, -, S1⟩ := B.at_ i y hyi
    obtain ⟨-, -, S0⟩ := B.at_ 0 y0 hy0
    have hy := hL y (List.mem_of_getElem? hyi)
    have hBs : ∀ h3 n3 j, Ext n h h3 → n ≤ n3 → ∀ x ∈ updI (fun _ x => smallE x) L j, SlB h3 n3 x.2.1 x.2.2 := by
      intro h3 n3 j E hn3 x hx
      obtain ⟨q, hq⟩ := List.getElem?_of_mem hx
      rw [updI_getElem?] at hq
      cases hz : L[q]? with
      | none => rw [hz] at hq; cases hq
      | some z =>
        rw [hz] at hq
        obtain ⟨-, -, Sz⟩ := B.at_ q z hz
        simp only [Option.map_some, Option.some.injEq] at hq
        by_cases hqj : q < j
        · rw [if_pos hqj] at hq; subst hq; exact (SlB.takeA Sz 4096).ext E hn3
        · rw [if_neg hqj] at hq; subst hq; exact Sz.ext E hn3
    obtain ⟨ho, hlo, hhi, hI, hA, hC⟩ := hO.facts (by omega)
    have hBi : BsRep h2 n1 a1 (updI (fun _ x => smallE x) L i) := OwnSl.bs hO (hBs h2 n1 i hE2 (by omega))
    obtain ⟨d0, d1, -⟩ := hBi.at_ i y (by rw [updI_at]; exact hyi)
    repeat' (first | refine stpS ?_ | (refine stp2 ?_ ?_ <;> intro _))
    refine RS.call rfl opds (small_rf y.1 y.2.2 y.2.1 _ _ _ (S1.ext ext (by omega)) rfl) none'W ?_
    rintro r n3 h3 hle3 ⟨rfl, hE3, -⟩
    repeat' (first | refine stpS ?_ | (refine stp2 ?_ ?_ <;> intro _))
    have hO3 := hO.ext (n1 := n1) (h1 := h3) ext (by omega)
    have hO4 := OwnSl.setV hO3 (i := i * 2) (vs := [.int .i64 (smallE y).1, .slice (smallE y).2.1 (smallE y).2.2.length (smallE y).2.2.length]) (by simp only [List.length_cons, List.length_nil]; omega) rfl
    have hstep : (updI (fun _ x => smallE x) L i).set i (smallE y) = updI (fun _ x => smallE x) L (i + 1) := by
      rw [updI_succ _ _ _ y0 hlt]; congr 1; simp [List.getD, hyi]
    rw [bsC_set _ _ _ (by rw [updI_length]; exact hlt), hstep] at hO4
    refine RC.gen (fun g => Ext n h g ∧ OwnSl g n n1 a1 2 L.length (bsC (updI (fun _ x => smallE x) L (i + 1)))) ⟨ext, hO4⟩ ?_
    rintro g ⟨hEg, hOg⟩
    have hBg : BsRep g n1 a1 (updI (fun _ x => smallE x) L (i + 1)) := OwnSl.bs hOg (hBs g n1 (i + 1) hEg (by omega))
    obtain ⟨p0, p1, -⟩ := hBg.at_ i (smallE y) (by rw [updI_getElem?, hyi]; simp)
    obtain ⟨q0, q1, -⟩ := hBg.at_ 0 (smallE y0) (by rw [updI_getElem?, hy0]; simp)
    have Sy : SlB h n (smallE y).2.1 (smallE y).2.2 := SlB.takeA S1 4096
    have Sy0 : SlB h n (smallE y0).2.1 (smallE y0).2.2 := SlB.takeA S0 4096
    have hly : (smallE y).2.2.length ≤ 4096 := by show (y.2.2.take 4096).length ≤ 4096; rw [List.length_take]; omega
    have hly0 : (smallE y0).2.2.length ≤ 4096 := by show (y0.2.2.take 4096).length ≤ 4096; rw [List.length_take]; omega
    generalize smallE y = z at *
    generalize smallE y0 = z0 at *
    have hpz := plc_le z.1 z.2.2.length
    have htz := truths_length z.1 z.2.2
    repeat' (first | refine stp ?_ | (refine stp2 ?_ ?_ <;> intro _))
    refine RD.call _ rfl opds (not_rf z.1 z.2.2 _ _ _ _ (Sy.ext ext (by omega)) rfl (by omega)) (Nat.le_refl _) cfc ?_
    rintro r n4 h4 hle4 ⟨b4, rfl, hE4, hO4⟩
    repeat' (first | refine stp ?_ | (refine stp2 ?_ ?_ <;> intro _))
    refine RD.call _ rfl opds (refNot_rf z.1 z.2.2 _ _ _ _ (Sy.ext ext (by omega)) rfl (by omega)) (Nat.le_refl _) cfc ?_
    rintro r n5 h5 hle5 ⟨b5, rfl, hE5, hO5⟩
    have hS4 := hO4.slbE
    have hS5 := hO5.slbE
    repeat' (first | refine stp ?_ | (refine stp2 ?_ ?_ <;> intro _) | refine RS.call1 rfl opds (exactT_ev _ _ _ _ _ _ _ (hS4.ext ext (by omega)) (hS5.ext ext (by omega)) rfl) none'W ?_ | refine RD.call1 _ rfl opds (exactT_ev _ _ _ _ _ _ _ (hS4.ext ext (by omega)) (hS5.ext ext (by omega)) rfl) (Nat.le_refl _) cfc (fun _ => ?_))
    refine RD.call _ rfl opds (cut_rf z.1 z.2.2 _ _ _ _ f k (Sy.ext ext (by omega)) rfl (by omega) hf hk) (Nat.le_refl _) cfc ?_
    rintro r n6 h6 hle6 ⟨b6, rfl, hE6, hO6⟩
    repeat' (first | refine stp ?_ | (refine stp2 ?_ ?_ <;> intro _))
    refine RD.call _ rfl opds (refCut_rf z.1 z.2.2 _ _ _ _ f k (Sy.ext ext (by omega)) rfl (by omega) hf hk) (Nat.le_refl _) cfc ?_
    rintro r n7 h7 hle7 ⟨b7, rfl, hE7, hO7⟩
    have hS6 := hO6.slbE
    have hS7 := hO7.slbE
    repeat' (first | refine stp ?_ | (refine stp2 ?_ ?_ <;> intro _) | refine RS.call1 rfl opds (exactT_ev _ _ _ _ _ _ _ (hS6.ext ext (by omega)) (hS7.ext ext (by omega)) rfl) none'W ?_ | refine RS.call1 rfl opds (same_ev _ _ _ _ _ _ _ _ _ _ (Sy0.ext ext (by omega)) (Sy.ext ext (by omega)) rfl rfl (by omega) (by omega)) none'W ?_ | refine RS.call1 rfl opds (refSame_ev _ _ _ _ _ _ _ _ _ _ (Sy0.ext ext (by omega)) (Sy.ext ext (by omega)) rfl rfl (by omega) (by omega)) none'W ?_ | refine RD.call1 _ rfl opds (exactT_ev _ _ _ _ _ _ _ (hS6.ext ext (by omega)) (hS7.ext ext (by omega)) rfl) (Nat.le_refl _) cfc (fun _ => ?_) | refine RD.call1 _ rfl opds (same_ev _ _ _ _ _ _ _ _ _ _ (Sy0.ext ext (by omega)) (Sy.ext ext (by omega)) rfl rfl (by omega) (by omega)) (Nat.le_refl _) cfc (fun _ => ?_) | refine RD.call1 _ rfl opds (refSame_ev _ _ _ _ _ _ _ _ _ _ (Sy0.ext ext (by omega)) (Sy.ext ext (by omega)) rfl rfl (by omega) (by omega)) (Nat.le_refl _) cfc (fun _ => ?_))
    refine nextC.normal ⟨i + 1, by omega, envs, by omega, by omega, ext, hOg.ext ext (by omega)⟩
  · have : i = L.length := by omega
    subst this
    rw [updI_all _ _ (by omega)] at hO
    generalize hM : (L.mapIdx fun _ x => smallE x) = M at *
    have hMl : M.length = L.length := by rw [← hM]; simp
    have hMs : ∀ x ∈ M, x.2.2.length ≤ 4096 := by
      intro x hx
      rw [← hM, List.mem_mapIdx] at hx
      obtain ⟨j, hj, rfl⟩ := hx
      show (_ : List UInt8).length ≤ 4096
      simp only [smallE, List.length_take]; omega
    have hMS : ∀ x ∈ M, SlB h2 n2 x.2.1 x.2.2 := by
      intro x hx
      rw [← hM, List.mem_mapIdx] at hx
      obtain ⟨j, hj, rfl⟩ := hx
      obtain ⟨-, -, Sj⟩ := B.at_ j L[j] (by simp [hj])
      exact (SlB.takeA Sj 4096).ext hE2 (by omega)
    have hBM : BsRep h2 n2 a1 M := OwnSl.bs (hO.ext (Ext.refl _ _) hn2) hMS
    have hM1 : ∀ x ∈ M, x.2.2.length ≤ 1048576 := fun x hx => by have := hMs x hx; omega
    have hjb := joinT_bound M hMs
    rw [← hMl] at hm ⊢
    repeat' (first | refine stpS ?_ | (refine stp2 ?_ ?_ <;> intro _))
    refine RS.call rfl opds (and_rf M a1 _ _ _ (hBM.ext ext (by omega)) rfl hm hM1) none'W ?_
    rintro r n3 h3 hle3 ⟨v3, rfl, b3, rfl, hE3, hO3⟩
    repeat' (first | refine stpS ?_ | (refine stp2 ?_ ?_ <;> intro _))
    refine RS.call rfl opds (refAnd_rf M a1 _ _ _ (hBM.ext ext (by omega)) rfl hm hM1) none'W ?_
    rintro r n4 h4 hle4 ⟨v4, rfl, b4, rfl, hE4, hO4⟩
    repeat' (first | refine stpS ?_ | (refine stp2 ?_ ?_ <;> intro _))
    refine RS.call rfl opds (or_rf M a1 _ _ _ (hBM.ext ext (by omega)) rfl hm hM1) none'W ?_
    rintro r n5 h5 hle5 ⟨v5, rfl, b5, rfl, hE5, hO5⟩
    repeat' (first | refine stpS ?_ | (refine stp2 ?_ ?_ <;> intro _))
    refine RS.call rfl opds (refOr_rf M a1 _ _ _ (hBM.ext ext (by omega)) rfl hm hM1) none'W ?_
    rintro r n6 h6 hle6 ⟨v6, rfl, b6, rfl, hE6, hO6⟩
    have hS3 := hO3.slbE
    have hS4 := hO4.slbE
    have hS5 := hO5.slbE
    have hS6 := hO6.slbE
    repeat' (first | refine stpS ?_ | (refine stp2 ?_ ?_ <;> intro _) | refine RS.call1 rfl opds (begun_ev _ _) none'W ?_ | refine RS.call1 rfl opds (exactT_ev _ _ _ _ _ _ _ (hS3.ext ext (by omega)) (hS4.ext ext (by omega)) rfl) none'W ?_ | refine RS.call1 rfl opds (exactT_ev _ _ _ _ _ _ _ (hS5.ext ext (by omega)) (hS6.ext ext (by omega)) rfl) none'W ?_)
    refine RS.call rfl opds (join_rf M a1 _ _ _ (hBM.ext ext (by omega)) rfl hm hM1 (by omega)) none'W ?_
    rintro r n7 h7 hle7 ⟨b7, rfl, hE7, hO7⟩
    repeat' (first | refine stpS ?_ | (refine stp2 ?_ ?_ <;> intro _))
    refine RS.call rfl opds (refJoin_rf M a1 _ _ _ (hBM.ext ext (by omega)) rfl hm hM1 (by omega)) none'W ?_
    rintro r n8 h8 hle8 ⟨b8, rfl, hE8, hO8⟩
    have hS7 := hO7.slbE
    have hS8 := hO8.slbE
    repeat' (first | refine stpS ?_ | (refine stp2 ?_ ?_ <;> intro _) | refine RS.call1 rfl opds (exactT_ev _ _ _ _ _ _ _ (hS7.ext ext (by omega)) (hS8.ext ext (by omega)) rfl) none'W ?_)
    rfl
end Go.Proofs.Ytnaklmjndiodfaa
