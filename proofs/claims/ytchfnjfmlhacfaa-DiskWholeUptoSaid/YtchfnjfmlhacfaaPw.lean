/- The plain law of the disk: what writes, cuts and crashes leave. -/
import Derived.Test.YtchfnjfmlhacfaaO
namespace Go.Proofs.Ytchfnjfmlhacfaa
open Go.Abs

/-- What a file has behind a write. -/
def wr (l : List UInt8) (at_ : Nat) (b : List UInt8) : List UInt8 := if b = [] then l else splice (l ++ List.replicate (at_ + b.length - l.length) 0) at_ b
theorem wr_nil (l : List UInt8) (at_ : Nat) : wr l at_ [] = l := by simp [wr]
theorem wr_length (l : List UInt8) (at_ : Nat) (b : List UInt8) : (wr l at_ b).length = if b = [] then l.length else max l.length (at_ + b.length) := by
  unfold wr
  split
  · rfl
  · rw [splice_length _ _ _ (by simp; omega)]; simp; omega
theorem getD_zeros (l : List UInt8) (k i : Nat) : (l ++ List.replicate k 0).getD i 0 = l.getD i 0 := by
  simp only [List.getD]
  by_cases h : i < l.length
  · rw [List.getElem?_append_left h]
  · rw [List.getElem?_append_right (by omega), List.getElem?_replicate, List.getElem?_eq_none (l := l) (by omega)]
    split <;> rfl
theorem getD_splice (cs : List UInt8) (at_ : Nat) (b : List UInt8) (h : at_ + b.length ≤ cs.length) (i : Nat) : (splice cs at_ b).getD i 0 = if at_ ≤ i ∧ i < at_ + b.length then b.getD (i - at_) 0 else cs.getD i 0 := by
  simp only [splice, List.getD]
  have hl : (cs.take at_).length = at_ := by rw [List.length_take]; omega
  by_cases h1 : i < at_
  · rw [List.append_assoc, List.getElem?_append_left (by omega), List.getElem?_take, if_pos h1, if_neg (by omega)]
  · by_cases h2 : i < at_ + b.length
    · rw [if_pos (by omega), List.getElem?_append_left (by rw [List.length_append]; omega), List.getElem?_append_right (by omega), hl]
    · rw [if_neg (by omega), List.getElem?_append_right (by rw [List.length_append]; omega), List.length_append, hl, List.getElem?_drop]
      congr 2; omega
theorem wr_getD (l : List UInt8) (at_ : Nat) (b : List UInt8) (i : Nat) : (wr l at_ b).getD i 0 = if at_ ≤ i ∧ i < at_ + b.length then b.getD (i - at_) 0 else l.getD i 0 := by
  unfold wr
  split
  · rename_i h; subst h; rw [if_neg (by simp)]
  · rw [getD_splice _ _ _ (by simp; omega), getD_zeros]
theorem ext_getD {l m : List UInt8} (hl : l.length = m.length) (h : ∀ i, i < l.length → l.getD i 0 = m.getD i 0) : l = m := by
  apply List.ext_getElem hl
  intro i h1 h2
  have := h i h1
  simpa [List.getD, h1, h2] using this
theorem doP_wr (l : List UInt8) (f at_ : Nat) (b : List UInt8) (hb : b ≠ []) : doP l ⟨f, false, at_, b⟩ = wr l at_ b := by
  unfold doP wr; rw [if_neg hb]; rfl
theorem wr_wr (l : List UInt8) (at_ : Nat) (b c : List UInt8) : wr (wr l at_ b) (at_ + b.length) c = wr l at_ (b ++ c) := by
  by_cases hb : b = []
  · subst hb; rw [wr_nil]; simp
  by_cases hc : c = []
  · subst hc; rw [wr_nil]; simp
  have hb' : 0 < b.length := List.length_pos_iff.2 hb
  have hc' : 0 < c.length := List.length_pos_iff.2 hc
  apply ext_getD
  · rw [wr_length, wr_length, wr_length, if_neg hc, if_neg hb, if_neg (by simp [hb]), List.length_append]; omega
  · intro i _
    rw [wr_getD, wr_getD, wr_getD, List.length_append]
    by_cases h1 : at_ ≤ i ∧ i < at_ + b.length
    · rw [if_neg (by omega), if_pos h1, if_pos (by omega)]
      simp only [List.getD]; rw [List.getElem?_append_left (by omega)]
    · by_cases h2 : at_ + b.length ≤ i ∧ i < at_ + b.length + c.length
      · rw [if_pos h2, if_pos (by omega)]
        simp only [List.getD]; rw [List.getElem?_append_right (by omega)]
        congr 2; omega
      · rw [if_neg h2, if_neg h1, if_neg (by omega)]
theorem chunks_file (f : Nat) : ∀ (k at_ : Nat) (l : List UInt8), ∀ p ∈ chunks f k at_ l, p.file = f ∧ p.cut = false ∧ p.b ≠ [] := by
  intro k
  induction k with
  | zero => intro at_ l p hp; simp [chunks] at hp
  | succ k ih =>
    intro at_ l p hp
    cases l with
    | nil => simp [chunks] at hp
    | cons x r =>
      simp only [chunks, List.mem_cons] at hp
      rcases hp with rfl | hp
      · refine ⟨rfl, rfl, fun q => ?_⟩
        have := congrArg List.length q
        simp only [List.length_take, List.length_cons, List.length_nil] at this
        omega
      · exact ih _ _ p hp
theorem chunks_fold (f : Nat) : ∀ (k at_ : Nat) (l x : List UInt8), l.length ≤ k → (chunks f k at_ l).foldl doP x = wr x at_ l := by
  intro k
  induction k with
  | zero =>
    intro at_ l x h
    have : l = [] := List.eq_nil_of_length_eq_zero (by omega)
    subst this; rw [wr_nil]; rfl
  | succ k ih =>
    intro at_ l x h
    cases l with
    | nil => rw [wr_nil]; rfl
    | cons y r =>
      have hl : ((y :: r).take (512 - at_ % 512)).length = min (r.length + 1) (512 - at_ % 512) := by rw [List.length_take, List.length_cons, Nat.min_comm]
      simp only [chunks, List.foldl_cons]
      rw [doP_wr _ _ _ _ (fun q => by rw [q] at hl; simp at hl; omega), ih _ _ _ (by rw [List.length_drop]; simp only [List.length_cons] at h ⊢; omega), ← hl, wr_wr, List.take_append_drop]
theorem nowP_app (f : Nat) (l : List UInt8) (ps qs : List Pc) : nowP f l (ps ++ qs) = nowP f (nowP f l ps) qs := by
  unfold nowP; rw [List.filter_append, List.foldl_append]
theorem nowP_chunks (f g : Nat) (x : List UInt8) (at_ : Nat) (l : List UInt8) : nowP g x (chunks f l.length at_ l) = if g = f then wr x at_ l else x := by
  unfold nowP
  split
  · rename_i h; subst h
    rw [List.filter_eq_self.2 fun p hp => by simpa using (chunks_file g _ _ _ p hp).1]
    exact chunks_fold g _ _ _ _ (Nat.le_refl _)
  · rename_i h
    rw [List.filter_eq_nil_iff.2 fun p hp => by simpa [(chunks_file f _ _ _ p hp).1] using Ne.symm h]
    rfl
theorem writes_now (S : DS) (f g at_ : Nat) (b : List UInt8) : (S.writes f at_ b).now g = if g = f then wr (S.now g) at_ b else S.now g := by
  show nowP g (S.sure g) (S.ps ++ chunks f b.length at_ b) = _
  rw [nowP_app, nowP_chunks]; rfl
/-- A call's end that the fuse does not meet. -/
theorem ends_zero {S : DS} (h : S.fuse = 0) : S.ends = (0, { S with calls := S.calls + 1 }) := by rw [DS.ends, if_pos h]
theorem write_zero {S : DS} {i at_ : Nat} {b : List UInt8} (hd : S.down = false) (hi : i < 2) (hat : b ≠ [] → at_ + b.length ≤ 4194304) (hf : S.fuse = 0) :
    S.write (i : Int) (at_ : Int) b = (0, { S.writes i at_ b with calls := S.calls + 1 }) := by
  have hm : S.may (i : Int) = 0 := by rw [DS.may, if_neg (by rw [hd]; simp), if_neg (by omega)]
  have hw : writeE (at_ : Int) b = 0 := by
    rw [writeE, if_neg (by omega), if_neg]
    rintro ⟨q1, q2⟩
    have := hat (List.length_pos_iff.1 q1)
    omega
  rw [DS.write, if_neg (by rw [hm]; simp), if_neg (by rw [hw]; simp), Int.toNat_natCast, Int.toNat_natCast]
  exact ends_zero hf
theorem read_zero {S : DS} {i at_ k : Nat} (hd : S.down = false) (hi : i < 2) : S.read (i : Int) (at_ : Int) (k : Int) = (0, ((S.now i).drop at_).take k) := by
  have hm : S.may (i : Int) = 0 := by rw [DS.may, if_neg (by rw [hd]; simp), if_neg (by omega)]
  rw [DS.read, if_neg (by rw [hm]; simp), if_neg (by omega)]; simp
section
variable {h h0 : AH} {n n0 n1 d : Nat} {F G : Nat → Prop} {S : DS}
theorem Dk.sets {b j : Nat} {vs : List Value} (D : Dk h n d F G S) (hF : ¬ F b) (hG : ¬ G b) : Dk (h.app (.sets b j vs)) n d F G S :=
  D.extW (W := fun x => x = b) (ExtW.appSets (.inl rfl) (ExtW.refl _ _ _)) (Nat.le_refl _) (fun _ q e => hF (e ▸ q)) (fun _ q e => hG (e ▸ q))
theorem DL.sets {b j : Nat} {vs : List Value} (D : DL n0 h0 n h d F G S) (hb : n0 ≤ b) (hF : ¬ F b) (hG : ¬ G b) : DL n0 h0 n (h.app (.sets b j vs)) d F G S :=
  ⟨D.dk.sets hF hG, D.own, D.le, D.ext.trans (Nat.le_refl _) ⟨fun x hx => sets_info _ _ _ _ _, fun x i hx => c_out (.inl (by omega)) rfl⟩⟩
theorem OwnSl.ne {z m : Nat} {a : Option Addr} {cs : List Value} (o : OwnSl h n0 n a z m cs) (hm : 0 < m) : a ≠ none := fun q => by
  subst q
  rcases o.or with k | k
  · omega
  · cases k.1
theorem OwnSl.setI {m i : Nat} {x : Int} {a : Option Addr} {l : List UInt8} (o : OwnSl h n0 n a 1 m (bytesV l)) (hi : i < m) (h0 : 0 ≤ x) (h1 : x < 256) :
    OwnSl (h.app (.sets (sb a) (so a + i) [.int .u8 x])) n0 n a 1 m (bytesV (l.set i (UInt8.ofNat x.toNat))) := by
  have := Go.Abs.OwnSl.set1 o (i := i) (v := .int .u8 x) (by omega) rfl
  obtain ⟨k, rfl⟩ : ∃ k : Nat, x = k := ⟨x.toNat, by omega⟩
  rw [bytesV_set _ _ _ (by omega)] at this
  rwa [Int.toNat_natCast]
end
end Go.Proofs.Ytchfnjfmlhacfaa
