/- Contracts of bits' functions over rows of bits: and, or, join. -/
import Derived.Test.YtnaklmjndiodfaaF
namespace Go.Proofs.Ytnaklmjndiodfaa
open Go.Abs

/-- Bits as they lie in a row: the number, where the bytes lie, the bytes. -/
abbrev BsE := Int × Option Addr × List UInt8
def tru (x : BsE) : List Bool := truths x.1 x.2.2
structure BsRep (h : AH) (n : Nat) (a : Option Addr) (L : List BsE) : Prop where
  shp : Shp h n a 2 L.length
  at_ : ∀ (i : Nat) (x : BsE), L[i]? = some x → h.cell (sb a) (so a + i * 2) = .int .i64 x.1 ∧ h.cell (sb a) (so a + i * 2 + 1) = .slice x.2.1 x.2.2.length x.2.2.length ∧ SlB h n x.2.1 x.2.2
theorem BsRep.ext {h h' : AH} {n n' : Nat} {a : Option Addr} {L : List BsE} (B : BsRep h n a L) (E : Ext n h h') (hn : n ≤ n') : BsRep h' n' a L := by
  refine ⟨B.shp.ext E hn, fun i x hx => ?_⟩
  obtain ⟨h1, h2, h3⟩ := B.at_ i x hx
  have hi : i < L.length := (List.getElem?_eq_some_iff.1 hx).1
  have hb : sb a < n := B.shp.lt (by omega)
  exact ⟨(E.cell _ _ hb).trans h1, (E.cell _ _ hb).trans h2, h3.ext E hn⟩
theorem BsRep.drop {h : AH} {n : Nat} {a : Option Addr} {L : List BsE} (B : BsRep h n a L) (k : Nat) (hk : k ≤ L.length) : BsRep h n (sub a (k * 2)) (L.drop k) := by
  refine ⟨?_, fun i x hx => ?_⟩
  · rw [List.length_drop]; exact B.shp.sub hk (Nat.le_refl _)
  · rw [List.getElem?_drop] at hx
    obtain ⟨h1, h2, h3⟩ := B.at_ (k + i) x hx
    have hi : k + i < L.length := (List.getElem?_eq_some_iff.1 hx).1
    have e : sb (sub a (k * 2)) = sb a ∧ so (sub a (k * 2)) = so a + k * 2 := by
      rcases B.shp.out with ⟨_, q⟩ | ⟨q, _⟩
      · omega
      · rw [q]; exact ⟨rfl, rfl⟩
    rw [e.1, e.2, show so a + k * 2 + i * 2 = so a + (k + i) * 2 by omega]
    exact ⟨h1, h2, h3⟩
/-- The cells of bits that lie in a row. -/
def bsC (L : List BsE) : List Value := L.flatMap fun x => [.int .i64 x.1, .slice x.2.1 x.2.2.length x.2.2.length]
theorem bsC_length (L : List BsE) : (bsC L).length = L.length * 2 := by
  induction L with
  | nil => rfl
  | cons x L ih => simp only [bsC, List.flatMap_cons, List.length_append, List.length_cons, List.length_nil] at ih ⊢; omega
theorem bsC_at (L : List BsE) : ∀ (i : Nat) (x : BsE), L[i]? = some x → (bsC L).getD (i * 2) (.tuple #[]) = .int .i64 x.1 ∧ (bsC L).getD (i * 2 + 1) (.tuple #[]) = .slice x.2.1 x.2.2.length x.2.2.length := by
  induction L with
  | nil => intro i x h; simp at h
  | cons y L ih =>
    intro i x h
    cases i with
    | zero => simp at h; subst h; exact ⟨rfl, rfl⟩
    | succ i =>
      have := ih i x (by simpa using h)
      rw [show (i + 1) * 2 = i * 2 + 1 + 1 by omega]
      exact this
theorem bsC_known (L : List BsE) : known (bsC L) = true := by
  induction L with
  | nil => rfl
  | cons x L ih => simpa [bsC, known] using ih
theorem bsC_append (L M : List BsE) : bsC (L ++ M) = bsC L ++ bsC M := by simp [bsC]
theorem OwnSl.bs {h : AH} {n0 n m : Nat} {a : Option Addr} {L : List BsE} (o : OwnSl h n0 n a 2 m (bsC L)) (hS : ∀ x, x ∈ L → SlB h n x.2.1 x.2.2) : BsRep h n a L := by
  have hm : m = L.length := by have := o.len; rw [bsC_length] at this; omega
  subst hm
  refine ⟨Shp.of o.slr, fun i x hx => ?_⟩
  have hi : i < L.length := (List.getElem?_eq_some_iff.1 hx).1
  obtain ⟨h1, h2⟩ := bsC_at L i x hx
  have c1 := o.slr.cell (i * 2) (by omega)
  have c2 := o.slr.cell (i * 2 + 1) (by omega)
  rw [h1] at c1; rw [h2] at c2
  exact ⟨c1, c2, hS x (List.mem_of_getElem? hx)⟩
/-- Both, bit by bit. -/
def bothT (g : Bool → Bool → Bool) (t u : List Bool) : List Bool := List.zipWith g t u
def bothB (g : UInt8 → UInt8 → UInt8) (l k : List UInt8) : List UInt8 := l.mapIdx fun j x => g x (k.getD j 0)
theorem both_pack {g : UInt8 → UInt8 → UInt8} {g2 : Bool → Bool → Bool} (hg : ∀ x y k, (g x y).toNat.testBit k = g2 (x.toNat.testBit k) (y.toNat.testBit k)) (h0 : g2 false false = false) {t u : List Bool} (hl : u.length = t.length) :
    bothB g (packB t) (packB u) = packB (bothT g2 t u) := by
  have hz : (bothT g2 t u).length = t.length := by simp [bothT]; omega
  apply pack_eq
  · simp only [bothB, List.length_mapIdx, packB_length, hz]
  · intro i hi
    simp only [bothB, List.length_mapIdx, packB_length] at hi
    have h8 : i / 8 < (packB t).length := by rw [packB_length]; omega
    have e : bitAt (bothB g (packB t) (packB u)) i = g2 (bitAt (packB t) i) (bitAt (packB u) i) := by
      unfold bitAt bothB
      have : (List.mapIdx (fun j x => g x ((packB u).getD j 0)) (packB t)).getD (i / 8) 0 = g ((packB t).getD (i / 8) 0) ((packB u).getD (i / 8) 0) := by simp [List.getD, h8]
      rw [this, hg]
    rw [e, bitAt_packB, bitAt_packB]
    by_cases hi2 : i < t.length
    · have h3 : i < u.length := by omega
      simp [bothT, List.getD, hi2, h3, List.getElem?_zipWith]
    · have h3 : ¬ i < u.length := by omega
      simp [bothT, List.getD, hi2, h3, h0, List.getElem?_zipWith]
/-- All of some; none if they are not as many. -/
def mergeT (g : Bool → Bool → Bool) : List Bool → List (List Bool) → Option (List Bool)
  | t, [] => some t
  | t, u :: r => if u.length = t.length then mergeT g (bothT g t u) r else none
def allT (g : Bool → Bool → Bool) : List (List Bool) → Option (List Bool)
  | [] => none
  | t :: r => mergeT g t r
/-- What a function answers that may refuse. -/
def BitsE (n : Nat) (h : AH) (o : Option (List Bool)) (r : Value) (n' : Nat) (h' : AH) : Prop :=
  ∃ v, r = .tuple #[v, .int .i64 (match o with | some _ => 0 | none => 1)] ∧ BitsRes n h (o.getD []) v n' h'
theorem BitsRes.none {n n' : Nat} {h h' : AH} (hn : n ≤ n') (E : Ext n h h') : BitsRes n h [] (.agg #[.int .i64 0, .slice none 0 0]) n' h' := ⟨Option.none, rfl, E, OwnSl.nil hn⟩
theorem bytesV_setU (l : List UInt8) (i : Nat) (c : UInt8) : (bytesV l).set i (.int .u8 c.toNat) = bytesV (l.set i c) := by simp [bytesV, List.map_set]
theorem drop_cons {α : Type} {l : List α} {i : Nat} {y : α} (h : l[i]? = some y) : l.drop i = y :: l.drop (i + 1) := by
  obtain ⟨hi, rfl⟩ := List.getElem?_eq_some_iff.1 h
  exact List.drop_eq_getElem_cons hi
set_option maxHeartbeats 4000000 in
theorem andF_ev (x y : UInt8) (n : Nat) (h : AH) : Ev Try.prog none' 56 #[.int .u8 x.toNat, .int .u8 y.toNat] n h (.int .u8 (x &&& y).toNat) n h := by
  refine RF.pure rfl fun n' hn => ?_
  refine RF.of Try.func56 rfl rfl (Nat.le_of_ble_eq_true rfl) ?_; dsimp only [argEnv]
  repeat' (first | refine stpS ?_ | (refine stp2 ?_ ?_ <;> intro _))
  rw [UInt8.toNat_and]; rfl
set_option maxHeartbeats 4000000 in
theorem orF_ev (x y : UInt8) (n : Nat) (h : AH) : Ev Try.prog none' 57 #[.int .u8 x.toNat, .int .u8 y.toNat] n h (.int .u8 (x ||| y).toNat) n h := by
  refine RF.pure rfl fun n' hn => ?_
  refine RF.of Try.func57 rfl rfl (Nat.le_of_ble_eq_true rfl) ?_; dsimp only [argEnv]
  repeat' (first | refine stpS ?_ | (refine stp2 ?_ ?_ <;> intro _))
  rw [UInt8.toNat_or]; rfl
theorem tru_len (x : BsE) (hx : x.2.2.length ≤ 1048576) : (tru x).length ≤ 8388608 := by
  have := plc_le x.1 x.2.2.length
  rw [tru, truths_length]; omega
set_option maxHeartbeats 4000000 in
theorem merge_rf (f : FuncId) (g : UInt8 → UInt8 → UInt8) (g2 : Bool → Bool → Bool) (hf : ∀ (x y : UInt8) n h, Ev Try.prog none' f #[.int .u8 x.toNat, .int .u8 y.toNat] n h (.int .u8 (g x y).toNat) n h)
    (hg : ∀ x y k, (g x y).toNat.testBit k = g2 (x.toNat.testBit k) (y.toNat.testBit k)) (h0 : g2 false false = false)
    (L : List BsE) (a : Option Addr) (m n : Nat) (h : AH) (B : BsRep h n a L) (e : m = L.length) (hm : m ≤ 1048576) (hL : ∀ x ∈ L, x.2.2.length ≤ 1048576) :
    RF Try.prog none' 55 #[.slice a m m, .func (.func f) #[] #[]] n h (BitsE n h (allT g2 (L.map tru))) := by
  subst e
  have hA := B.shp.sla
  have hsh := B.shp
  refine RF.of Try.func55 rfl rfl (Nat.le_of_ble_eq_true rfl) ?_; dsimp only [argEnv]
  cases L with
  | nil =>
    repeat' (first | refine stpS ?_ | (refine stp2 ?_ ?_ <;> intro _))
    exact ⟨_, rfl, BitsRes.none (by omega) ext⟩
  | cons x R =>
    have hlt : 0 < (x :: R).length := by simp
    have hsa := hsh.lt hlt
    obtain ⟨c0, c1, S0⟩ := B.at_ 0 x rfl
    have hx := hL x (by simp)
    have hp := plc_le x.1 x.2.2.length
    have htl := truths_length x.1 x.2.2
    repeat' (first | refine stpS ?_ | (refine stp2 ?_ ?_ <;> intro _))
    refine RS.call rfl opds (whole_rf x.1 x.2.2 _ _ _ _ (S0.ext ext (by omega)) rfl (by omega)) none'W ?_
    rintro r n1 h1 hle ⟨a1, rfl, hE1, hO1⟩
    repeat' (first | refine stpS ?_ | (refine stp2 ?_ ?_ <;> intro _))
    refine RC.loop ?_
    have hB1 : BsRep h n (sub a ((1 : Int).toNat * 2)) R := B.drop 1 hlt
    rw [show (x :: R).length - (1 : Int).toNat = R.length from rfl]
    generalize sub a ((1 : Int).toNat * 2) = a' at *
    have hA1 := hB1.shp.sla
    generalize hM : (packB (truths x.1 x.2.2)).length = M at *
    have hpl := packB_length (truths x.1 x.2.2)
    have hR : R.length + 1 ≤ 1048576 := hm
    refine RL.inv (α := Nat × List Bool) (fun s => [(22, .int .i64 (s.1 : Nat)), (21, .int .i64 R.length), (20, .slice a' R.length R.length), (6, .pointer (some ⟨n1, 0, none⟩)), (4, .pointer (some ⟨n, 0, none⟩)), (1, .func (.func f) #[] #[])])
      (fun s n2 h2 => s.1 ≤ R.length ∧ s.2.length = (truths x.1 x.2.2).length ∧ mergeT g2 s.2 ((R.drop s.1).map tru) = mergeT g2 (tru x) (R.map tru) ∧ n1 + 1 ≤ n2 ∧ Ext n h h2 ∧ h2.info n = some ⟨2, 0, true, 0⟩ ∧
        h2.cell n1 0 = .int .i64 (truths x.1 x.2.2).length ∧ h2.cell n1 1 = .slice a1 M M ∧ OwnSl h2 (n + 1) (n1 + 1) a1 1 M (bytesV (packB s.2)))
      (fun s => R.length - s.1) (0, truths x.1 x.2.2) envs ⟨by omega, rfl, rfl, by omega, ext, info, cell, cell, hO1.ext ext (by omega)⟩ ?_
    rintro ⟨i, w⟩ n2 h2 ⟨hi, hw, hmt, hn2, hE2, G0, G1, G2, hO⟩
    dsimp only at hi hw hmt hn2 hE2 G0 G1 G2 hO ⊢
    have hplw := packB_length w
    by_cases hlt2 : i < R.length
    · obtain ⟨y, hyi⟩ : ∃ y, R[i]? = some y := ⟨R[i], by simp [hlt2]⟩
      obtain ⟨d0, d1, S1⟩ := hB1.at_ i y hyi
      have hsa1 := hB1.shp.lt (by omega)
      have hy := hL y (List.mem_cons_of_mem _ (List.mem_of_getElem? hyi))
      have hp2 := plc_le y.1 y.2.2.length
      obtain ⟨u, hu⟩ : ∃ u, truths y.1 y.2.2 = u := ⟨_, rfl⟩
      have htl2 : u.length = (plc y.1 y.2.2.length).toNat := by rw [← hu, truths_length]
      have hpl2 := packB_length u
      have hwc : ∀ n h, SlB h n y.2.1 y.2.2 → RF Try.prog none' 50 #[.agg #[.int .i64 y.1, .slice y.2.1 y.2.2.length y.2.2.length]] n h (BitsRes n h u) := fun n h S => hu ▸ whole_rf y.1 y.2.2 _ _ n h S rfl (by omega)
      rw [drop_cons hyi, List.map_cons] at hmt
      simp only [mergeT, tru, hu] at hmt
      repeat' (first | refine stpS ?_ | (refine stp2 ?_ ?_ <;> intro _))
      refine RS.call rfl opds (hwc _ _ (S1.ext ext (by omega))) none'W ?_
      rintro r n3 h3 hle3 ⟨a2, rfl, hE3, hO3⟩
      repeat' (first | refine stpS ?_ | (refine stp2 ?_ ?_ <;> intro _))
      · rename_i hne
        rw [if_neg (fun q => hne (by omega))] at hmt
        have hat : allT g2 ((x :: R).map tru) = none := hmt.symm
        rw [hat]
        exact ⟨_, rfl, BitsRes.none (by omega) ext⟩
      · rename_i hne
        have hlen : u.length = w.length := by omega
        rw [if_pos hlen] at hmt
        have hMu : (packB u).length = M := by omega
        rw [hMu] at hO3 ⊢
        refine RC.loop ?_
        refine RL.gen (fun g' => Ext n h g' ∧ g'.info n = some ⟨2, 0, true, 0⟩ ∧ g'.cell n1 0 = .int .i64 (truths x.1 x.2.2).length ∧ g'.cell n1 1 = .slice a1 M M ∧ g'.cell n3 1 = .slice a2 M M ∧ OwnSl g' (n1 + 1) (n3 + 1) a2 1 M (bytesV (packB u)) ∧
          OwnSl g' (n + 1) (n1 + 1) a1 1 M (bytesV (updI (fun j x => g x ((packB u).getD j 0)) (packB w) 0)))
          ⟨ext, info, cell, cell, cell, (hO3.ext ext (by omega)).mono (by omega), by rw [updI_zero]; exact hO.ext ext (by omega)⟩ ?_
        rintro g' ⟨E0, I0, C0, C1, C2, O2, O0⟩
        refine RL.inv (α := Nat) (fun j => [(37, .int .i64 (j : Nat)), (36, .int .i64 M), (9, .pointer (some ⟨n3, 0, none⟩)), (22, .int .i64 (i : Nat)), (21, .int .i64 R.length), (20, .slice a' R.length R.length), (6, .pointer (some ⟨n1, 0, none⟩)), (4, .pointer (some ⟨n, 0, none⟩)), (1, .func (.func f) #[] #[])])
          (fun j n4 h4 => j ≤ M ∧ n4 = n3 + 1 ∧ Ext n h h4 ∧ h4.info n = some ⟨2, 0, true, 0⟩ ∧ h4.cell n1 0 = .int .i64 (truths x.1 x.2.2).length ∧ h4.cell n1 1 = .slice a1 M M ∧ h4.cell n3 1 = .slice a2 M M ∧
            OwnSl h4 (n1 + 1) (n3 + 1) a2 1 M (bytesV (packB u)) ∧ OwnSl h4 (n + 1) (n1 + 1) a1 1 M (bytesV (updI (fun j x => g x ((packB u).getD j 0)) (packB w) j)))
          (fun j => M - j) 0 envs ⟨by omega, rfl, E0, I0, C0, C1, C2, O2, O0⟩ ?_
        rintro j n4 h4 ⟨hj, rfl, hE4, I4, K0, K1, K2, P2, P0⟩
        have hSu := P2.slbE
        have hSw := P0.slbE
        have hul := updI_length (fun j x => g x ((packB u).getD j 0)) (packB w) j
        by_cases hlt3 : j < M
        · obtain ⟨-, -, hhi1, -⟩ := hO1.facts (by omega)
          obtain ⟨ho, hlo, hhi, hI, hA2, hC⟩ := P0.facts (by omega)
          obtain ⟨ho2, hlo2, hhi2, hI2, hA3, hC2⟩ := P2.facts (by omega)
          rw [Nat.mul_one] at hI hI2
          repeat' (first | refine stp ?_ | (refine stp2 ?_ ?_ <;> intro _))
          refine RD.callv0 rfl opd opds (hf ((updI (fun j x => g x ((packB u).getD j 0)) (packB w) j).getD (j : Int).toNat 0) ((packB u).getD (j : Int).toNat 0) _ _) ?_
          repeat' (first | refine stp ?_ | (refine stp2 ?_ ?_ <;> intro _))
          have e1 : (updI (fun j x => g x ((packB u).getD j 0)) (packB w) j).getD j 0 = (packB w).getD j 0 := updI_getD _ _ _ _
          have h5 := P0.set1 (i := j) (v := .int .u8 (g ((updI (fun j x => g x ((packB u).getD j 0)) (packB w) j).getD j 0) ((packB u).getD j 0)).toNat) (by omega) rfl
          have h6 := P2.sets (b := sb a1) (o' := so a1 + j) (vs := [.int .u8 (g ((updI (fun j x => g x ((packB u).getD j 0)) (packB w) j).getD j 0) ((packB u).getD j 0)).toNat]) (by omega)
          refine nextC.normal ⟨j + 1, by omega, envs, by omega, rfl, ext, info, cell, cell, cell, h6, ?_⟩
          rw [updI_succ _ _ _ 0 (by omega), ← e1]
          rw [bytesV_setU] at h5
          exact h5
        · repeat' (first | refine stp ?_ | (refine stp2 ?_ ?_ <;> intro _))
          rw [updI_all _ _ (by omega)] at P0
          have hbp := both_pack hg h0 hlen
          unfold bothB at hbp
          rw [hbp] at P0
          have hbl : (bothT g2 w u).length = (truths x.1 x.2.2).length := by rw [bothT, List.length_zipWith]; omega
          exact nextC.normal ⟨(i + 1, bothT g2 w u), by dsimp only; omega, envs, by dsimp only; omega, hbl, hmt, by omega, hE4, I4, K0, K1, P0⟩
    · repeat' (first | refine stpS ?_ | (refine stp2 ?_ ?_ <;> intro _))
      have : i = R.length := by omega
      subst this
      rw [List.drop_length, List.map_nil] at hmt
      have hat : allT g2 ((x :: R).map tru) = some w := hmt.symm
      rw [hat]
      refine ⟨_, rfl, a1, ?_, ext, ?_⟩
      · show _ = Value.agg #[.int .i64 w.length, .slice a1 (packB w).length (packB w).length]
        rw [hw, hplw, hw, ← hpl, hM]
      · show OwnSl _ _ _ a1 1 (packB w).length (bytesV (packB w))
        rw [show (packB w).length = M by omega]
        exact ((hO.sets (by omega)).mono (by omega)).ext (Ext.refl _ _) (by omega)
set_option maxHeartbeats 4000000 in
theorem and_rf (L : List BsE) (a : Option Addr) (m n : Nat) (h : AH) (B : BsRep h n a L) (e : m = L.length) (hm : m ≤ 1048576) (hL : ∀ x ∈ L, x.2.2.length ≤ 1048576) :
    RF Try.prog none' 37 #[.slice a m m] n h (BitsE n h (allT and (L.map tru))) := by
  refine RF.of Try.func37 rfl rfl (Nat.le_of_ble_eq_true rfl) ?_; dsimp only [argEnv]
  repeat' (first | refine stpS ?_ | (refine stp2 ?_ ?_ <;> intro _))
  refine RS.call rfl opds (merge_rf 56 (· &&& ·) and andF_ev (fun x y k => by rw [UInt8.toNat_and, Nat.testBit_and]) rfl L a m _ _ (B.ext ext (by omega)) e hm hL) none'W ?_
  rintro r n1 h1 hle ⟨v, rfl, a1, rfl, hE1, hO1⟩
  repeat' (first | refine stpS ?_ | (refine stp2 ?_ ?_ <;> intro _))
  refine ⟨_, rfl, a1, rfl, ext, ?_⟩
  exact (hO1.sets (by omega)).mono (by omega)
set_option maxHeartbeats 4000000 in
theorem or_rf (L : List BsE) (a : Option Addr) (m n : Nat) (h : AH) (B : BsRep h n a L) (e : m = L.length) (hm : m ≤ 1048576) (hL : ∀ x ∈ L, x.2.2.length ≤ 1048576) :
    RF Try.prog none' 38 #[.slice a m m] n h (BitsE n h (allT or (L.map tru))) := by
  refine RF.of Try.func38 rfl rfl (Nat.le_of_ble_eq_true rfl) ?_; dsimp only [argEnv]
  repeat' (first | refine stpS ?_ | (refine stp2 ?_ ?_ <;> intro _))
  refine RS.call rfl opds (merge_rf 57 (· ||| ·) or orF_ev (fun x y k => by rw [UInt8.toNat_or, Nat.testBit_or]) rfl L a m _ _ (B.ext ext (by omega)) e hm hL) none'W ?_
  rintro r n1 h1 hle ⟨v, rfl, a1, rfl, hE1, hO1⟩
  repeat' (first | refine stpS ?_ | (refine stp2 ?_ ?_ <;> intro _))
  refine ⟨_, rfl, a1, rfl, ext, ?_⟩
  exact (hO1.sets (by omega)).mono (by omega)
/-- All truths, one behind the other. -/
def joinT (L : List BsE) : List Bool := (L.map tru).flatten
theorem joinT_succ {L : List BsE} {i : Nat} {y : BsE} (h : L[i]? = some y) : joinT (L.take (i + 1)) = joinT (L.take i) ++ tru y := by
  obtain ⟨hi, rfl⟩ := List.getElem?_eq_some_iff.1 h
  unfold joinT
  rw [List.take_succ_eq_append_getElem hi, List.map_append, List.flatten_append]; simp
theorem joinT_le (L : List BsE) (i : Nat) : (joinT (L.take i)).length ≤ (joinT L).length := by
  have h : joinT L = joinT (L.take i) ++ joinT (L.drop i) := by
    unfold joinT
    rw [← List.flatten_append, ← List.map_append, List.take_append_drop]
  rw [h, List.length_append]; omega
theorem known_bools (t : List Bool) : known (boolsV t) = true := by
  induction t with
  | nil => rfl
  | cons b t ih => exact ih
theorem boolsV_append (t u : List Bool) : boolsV (t ++ u) = boolsV t ++ boolsV u := by simp [boolsV]
set_option maxHeartbeats 4000000 in
theorem join_rf (L : List BsE) (a : Option Addr) (m n : Nat) (h : AH) (B : BsRep h n a L) (e : m = L.length) (hm : m ≤ 1048576) (hL : ∀ x ∈ L, x.2.2.length ≤ 1048576) (hT : (joinT L).length ≤ 1099511627776) :
    RF Try.prog none' 36 #[.slice a m m] n h (BitsRes n h (joinT L)) := by
  subst e
  have hA := B.shp.sla
  refine RF.of Try.func36 rfl rfl (Nat.le_of_ble_eq_true rfl) ?_; dsimp only [argEnv]
  repeat' (first | refine stpS ?_ | (refine stp2 ?_ ?_ <;> intro _))
  refine RC.loop ?_
  refine RL.inv (α := Nat × Option Addr) (fun s => [(8, .int .i64 (s.1 : Nat)), (7, .int .i64 L.length), (6, .slice a L.length L.length), (3, .slice s.2 (joinT (L.take s.1)).length (joinT (L.take s.1)).length), (2, .pointer (some ⟨n, 0, none⟩))])
    (fun s n1 h1 => s.1 ≤ L.length ∧ n + 1 ≤ n1 ∧ Ext n h h1 ∧ h1.info n = some ⟨2, 0, true, 0⟩ ∧ OwnSl h1 (n + 1) n1 s.2 1 (joinT (L.take s.1)).length (boolsV (joinT (L.take s.1))))
    (fun s => L.length - s.1) (0, none) envs ⟨by omega, by omega, ext, info, OwnSl.nil (Nat.le_refl _)⟩ ?_
  rintro ⟨i, c⟩ n1 h1 ⟨hi, hn, hE, hI, hO⟩
  dsimp only at hi hn hE hI hO ⊢
  by_cases hlt : i < L.length
  · obtain ⟨y, hyi⟩ : ∃ y, L[i]? = some y := ⟨L[i], by simp [hlt]⟩
    obtain ⟨d0, d1, S1⟩ := B.at_ i y hyi
    have hsa := B.shp.lt (by omega)
    have hy := hL y (List.mem_of_getElem? hyi)
    have hjl := joinT_le L (i + 1)
    rw [joinT_succ hyi, List.length_append] at hjl
    repeat' (first | refine stpS ?_ | (refine stp2 ?_ ?_ <;> intro _))
    refine RS.call rfl opds (list_rf y.1 y.2.2 _ _ _ _ (S1.ext ext (by omega)) rfl (by omega)) none'W ?_
    rintro r n2 h2 hle2 ⟨c2, rfl, hE2, hO2⟩
    repeat' (first | refine stpS ?_ | (refine stp2 ?_ ?_ <;> intro _))
    refine RS.append rfl opd opd (hO.ext (n1 := n2) ext (by omega)) (OwnSl.src hO2) full_slice (fun b hb => Or.inr (by omega)) (by rw [show truths y.1 y.2.2 = tru y from rfl]; omega) ?_
    intro c3 n3 h3 hle3 hO3 hX hnew
    have hE3 := hX.ext (hO.ext ext (by omega))
    repeat' (first | refine stpS ?_ | (refine stp2 ?_ ?_ <;> intro _))
    refine nextC.normal ⟨(i + 1, c3), by dsimp only; omega, ?_, by dsimp only; omega, by omega, ext, info, ?_⟩
    · dsimp only
      rw [joinT_succ hyi, List.length_append]; exact envs
    · dsimp only
      rw [joinT_succ hyi, List.length_append, boolsV_append]; exact hO3
  · have : i = L.length := by omega
    subst this
    rw [List.take_length] at hO ⊢
    repeat' (first | refine stpS ?_ | (refine stp2 ?_ ?_ <;> intro _))
    refine RS.call rfl opds (of_rf (joinT L) c _ _ _ hO.slt rfl (by omega)) none'W ?_
    rintro r n2 h2 hle2 ⟨c2, rfl, hE2, hO2⟩
    repeat' (first | refine stpS ?_ | (refine stp2 ?_ ?_ <;> intro _))
    refine ⟨c2, rfl, ext, ?_⟩
    exact (hO2.sets (by omega)).mono (by omega)
set_option maxHeartbeats 4000000 in
theorem refJoin_rf (L : List BsE) (a : Option Addr) (m n : Nat) (h : AH) (B : BsRep h n a L) (e : m = L.length) (hm : m ≤ 1048576) (hL : ∀ x ∈ L, x.2.2.length ≤ 1048576) (hT : (joinT L).length ≤ 1099511627776) :
    RF Try.prog none' 46 #[.slice a m m] n h (BitsRes n h (joinT L)) := by
  subst e
  have hA := B.shp.sla
  refine RF.of Try.func46 rfl rfl (Nat.le_of_ble_eq_true rfl) ?_; dsimp only [argEnv]
  repeat' (first | refine stpS ?_ | (refine stp2 ?_ ?_ <;> intro _))
  refine RC.loop ?_
  refine RL.inv (α := Nat × Option Addr) (fun s => [(4, .int .i64 (s.1 : Nat)), (0, .slice a L.length L.length), (3, .slice s.2 (joinT (L.take s.1)).length (joinT (L.take s.1)).length), (2, .pointer (some ⟨n, 0, none⟩))])
    (fun s n1 h1 => s.1 ≤ L.length ∧ n + 1 ≤ n1 ∧ Ext n h h1 ∧ h1.info n = some ⟨2, 0, true, 0⟩ ∧ OwnSl h1 (n + 1) n1 s.2 1 (joinT (L.take s.1)).length (boolsV (joinT (L.take s.1))))
    (fun s => L.length - s.1) (0, none) envs ⟨by omega, by omega, ext, info, OwnSl.nil (Nat.le_refl _)⟩ ?_
  rintro ⟨i, c⟩ n1 h1 ⟨hi, hn, hE, hI, hO⟩
  dsimp only at hi hn hE hI hO ⊢
  by_cases hlt : i < L.length
  · obtain ⟨y, hyi⟩ : ∃ y, L[i]? = some y := ⟨L[i], by simp [hlt]⟩
    obtain ⟨d0, d1, S1⟩ := B.at_ i y hyi
    have hsa := B.shp.lt (by omega)
    have hy := hL y (List.mem_of_getElem? hyi)
    have hjl := joinT_le L (i + 1)
    rw [joinT_succ hyi, List.length_append] at hjl
    repeat' (first | refine stpS ?_ | (refine stp2 ?_ ?_ <;> intro _))
    refine RS.call rfl opds (refList_rf y.1 y.2.2 _ _ _ _ (S1.ext ext (by omega)) rfl (by omega)) none'W ?_
    rintro r n2 h2 hle2 ⟨c2, rfl, hE2, hO2⟩
    repeat' (first | refine stpS ?_ | (refine stp2 ?_ ?_ <;> intro _))
    refine RS.append rfl opd opd (hO.ext (n1 := n2) ext (by omega)) (OwnSl.src hO2) full_slice (fun b hb => Or.inr (by omega)) (by rw [show truths y.1 y.2.2 = tru y from rfl]; omega) ?_
    intro c3 n3 h3 hle3 hO3 hX hnew
    have hE3 := hX.ext (hO.ext ext (by omega))
    repeat' (first | refine stpS ?_ | (refine stp2 ?_ ?_ <;> intro _))
    refine nextC.normal ⟨(i + 1, c3), by dsimp only; omega, ?_, by dsimp only; omega, by omega, ext, info, ?_⟩
    · dsimp only
      rw [joinT_succ hyi, List.length_append]; exact envs
    · dsimp only
      rw [joinT_succ hyi, List.length_append, boolsV_append]; exact hO3
  · have : i = L.length := by omega
    subst this
    rw [List.take_length] at hO ⊢
    repeat' (first | refine stpS ?_ | (refine stp2 ?_ ?_ <;> intro _))
    refine RS.call rfl opds (refOf_rf (joinT L) c _ _ _ hO.slt rfl (by omega)) none'W ?_
    rintro r n2 h2 hle2 ⟨c2, rfl, hE2, hO2⟩
    repeat' (first | refine stpS ?_ | (refine stp2 ?_ ?_ <;> intro _))
    refine ⟨c2, rfl, ext, ?_⟩
    exact (hO2.sets (by omega)).mono (by omega)
end Go.Proofs.Ytnaklmjndiodfaa
