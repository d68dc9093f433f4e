/- Contracts of the disk: copies, equal rows, one piece done. -/
import Derived.Test.YtchfnjfmlhacfaaPl
namespace Go.Proofs.Ytchfnjfmlhacfaa
open Go.Abs

set_option maxHeartbeats 4000000 in
theorem clone_rf (l : List UInt8) (a : Option Addr) (m n : Nat) (h : AH) (S : SlB h n a l) (e : m = l.length) (hm : m ≤ 1099511627776) :
    RF Try.prog none' 12 #[.slice a m m] n h (fun r n' h' => ∃ a', r = .slice a' m m ∧ Ext n h h' ∧ OwnSl h' n n' a' 1 m (bytesV l)) := by
  subst e
  refine RF.of Try.func12 rfl rfl (Nat.le_of_ble_eq_true rfl) ?_; dsimp only [argEnv]
  rcases S.two with ⟨ha, hl⟩ | ⟨b, o, ha⟩
  · have : l = [] := List.eq_nil_of_length_eq_zero hl
    subst this; subst ha
    repeat' (first | refine stpS ?_ | (refine stp2 ?_ ?_ <;> intro _))
    exact ⟨none, rfl, ext, OwnSl.nil (by omega)⟩
  · subst ha
    repeat' (first | refine stpS ?_ | (refine stp2 ?_ ?_ <;> intro _))
    refine RS.append rfl opd opd (OwnSl.new (z := 1) (m := 0) (cs := []) (Nat.le_refl n) rfl rfl) (SlB.src (S.ext ext (Nat.le_refl _))) full_slice (fun b hb => Or.inr (by omega)) (by omega) ?_
    intro a' n1 h1 hle hO hX hnew
    have hE := hX.ext (OwnSl.new (z := 1) (m := 0) (cs := []) (Nat.le_refl n) rfl rfl)
    simp only [Nat.zero_add, List.nil_append] at hO ⊢
    repeat' (first | refine stpS ?_ | (refine stp2 ?_ ?_ <;> intro _))
    exact ⟨a', rfl, ext, hO⟩
set_option maxHeartbeats 4000000 in
theorem equal_ev (t u : List UInt8) (a b : Option Addr) (m k n : Nat) (h : AH) (S : SlB h n a t) (S2 : SlB h n b u) (e : m = t.length) (e2 : k = u.length) :
    Ev Try.prog none' 15 #[.slice a m m, .slice b k k] n h (.bool (decide (t = u))) n h := by
  subst e; subst e2
  refine RF.pure rfl fun n' hn => ?_
  have S := S.ext (Ext.refl n h) hn
  have S2 := S2.ext (Ext.refl n h) hn
  refine RF.of Try.func15 rfl rfl (Nat.le_of_ble_eq_true rfl) ?_; dsimp only [argEnv]
  have hba : ∀ x y : List UInt8, ((⟨x.toArray⟩ : ByteArray) = ⟨y.toArray⟩) ↔ x = y := by
    intro x y; constructor
    · intro q; injection q with q; simpa using congrArg Array.toList q
    · intro q; rw [q]
  repeat' (first | refine stpS ?_ | (refine stp2 ?_ ?_ <;> intro _))
  · rename_i q
    have := (hba _ _).1 q
    simp [this]
  · rename_i q
    have : ¬ t = u := fun h => q ((hba _ _).2 h)
    simp [this]
theorem known_replicate (v : Value) (k : Nat) (h : known [v] = true) : known (List.replicate k v) = true := by
  induction k with
  | zero => rfl
  | succ k ih => rw [List.replicate_succ]; cases v <;> simp_all [known]
instance : Mc Try.prog 68 "colonnade/disk.do" 77 := Mc.of (by kernel_rfl) Uc.out rfl
instance : Mc Try.prog 76 "colonnade/disk.do" 78 := Mc.of (by kernel_rfl) Uc.out rfl

/-- What is answered by a piece's work on a row of one's own. -/
def DoRes (n : Nat) (h : AH) (a : Option Addr) (l' : List UInt8) (r : Value) (n' : Nat) (h' : AH) : Prop :=
  ∃ a', r = .slice a' l'.length l'.length ∧ OwnSl h' 0 n' a' 1 l'.length (bytesV l') ∧ ExtX n a h h' ∧ (a' = a ∨ n ≤ sb a')
/-- The blocks of an address. -/
def inA (a : Option Addr) (b : Nat) : Prop := a ≠ none ∧ b = sb a
set_option maxHeartbeats 4000000 in
theorem cutDo_rf (l : List UInt8) (a : Option Addr) (m n k : Nat) (h : AH) (hO : OwnSl h 0 n a 1 m (bytesV l)) (e : m = l.length) :
    RF Try.prog (inA a) 78 #[.int .i64 (k : Nat), .slice a m m] n h (DoRes n h a (l.take k)) := by
  subst e
  refine RF.of Try.func78 rfl rfl (Nat.le_of_ble_eq_true rfl) ?_; dsimp only [argEnv]
  repeat' (first | refine stpS ?_ | (refine stp2 ?_ ?_ <;> intro _))
  refine RS.sliceCut (u := min k l.length) rfl opd (by rw [show ((min k l.length : Nat) : Int) = min (k : Int) l.length by omega]; exact opd) hO (Nat.min_le_right _ _) (fun q => .inl ⟨q, rfl⟩) ?_
  intro h1 hO1 hX1
  repeat' (first | refine stpS ?_ | (refine stp2 ?_ ?_ <;> intro _))
  have e1 : (l.take k).length = min k l.length := List.length_take
  refine ⟨a, by rw [e1], ?_, hX1, .inl rfl⟩
  have e2 : bytesV (l.take k) = (bytesV l).take (min k l.length * 1) := by
    have := take_min (bytesV l) k
    rw [bytesV_length] at this
    rw [Nat.mul_one, this, bytesV, bytesV, List.map_take]
  rw [e1, e2]; exact hO1
theorem DoRes.bit {n n2 : Nat} {h h2 : AH} {a a2 : Option Addr} {l b : List UInt8} {at_ M o' : Nat} {vs : List Value} (hX : ExtX n a h h2) (hnew : a2 = a ∨ n ≤ sb a2) (ha2 : a2 ≠ none)
    (hO : OwnSl (h2.app (.sets (sb a2) o' vs)) 0 n2 a2 1 M (bytesV (splice (l ++ List.replicate (at_ + b.length - l.length) 0) at_ b))) (hM : M = max l.length (at_ + b.length)) :
    DoRes n h a (doP l ⟨0, false, at_, b⟩) (.slice a2 M M) n2 (h2.app (.sets (sb a2) o' vs)) := by
  have hl := doP_length l ⟨0, false, at_, b⟩
  simp only [Bool.false_eq_true, if_false] at hl
  have he : doP l ⟨0, false, at_, b⟩ = splice (l ++ List.replicate (at_ + b.length - l.length) 0) at_ b := by simp [doP]
  rw [← he] at hO
  refine ⟨a2, by rw [hl, hM], by rw [hl, ← hM]; exact hO, fun x hx hne => ?_, hnew⟩
  have h1 := hX x hx hne
  have hxa : x ≠ sb a2 := by
    rcases hnew with q | q
    · subst q; exact hne.resolve_left ha2
    · omega
  exact ⟨(sets_info _ _ _ _ _).trans h1.1, fun i => (c_out (.inl hxa) rfl).trans (h1.2 i)⟩
set_option maxHeartbeats 4000000 in
theorem bitDo_rf (l b : List UInt8) (a c : Option Addr) (m k n at_ : Nat) (h : AH) (hO : OwnSl h 0 n a 1 m (bytesV l)) (S : SlB h n c b) (e : m = l.length) (e2 : k = b.length) (hb : 0 < k) (hl : m ≤ 4194304) (hk : at_ + k ≤ 4194304) (hac : a = none ∨ c = none ∨ sb a ≠ sb c) :
    RF Try.prog (inA a) 77 #[.agg #[.int .i64 (at_ : Nat), .slice c k k], .slice a m m] n h (DoRes n h a (doP l ⟨0, false, at_, b⟩)) := by
  subst e; subst e2
  have hcn : c ≠ none := by
    intro q; subst q
    rcases S.shape with k | k
    · omega
    · cases k.1
  have hclt := S.ltA hcn
  refine RF.of Try.func77 rfl rfl (Nat.le_of_ble_eq_true rfl) ?_; dsimp only [argEnv]
  repeat' (first | refine stpS ?_ | (refine stp2 ?_ ?_ <;> intro _))
  · rename_i hgt
    have hO1 := hO.ext (n1 := n + 1) (h1 := h.app (.new n ⟨2, 0, true, 0⟩ [.int .i64 (at_ : Nat), .slice c b.length b.length])) ext (by omega)
    refine RS.appendZT rfl opd opd hO1 (by omega) (fun q => .inl ⟨q, rfl⟩) (by omega) (by show known (zrow [.int .u8 0] _) = true; rw [zrow_one]; exact known_replicate _ _ rfl) ?_
    intro a2 n2 h2 hle2 hO2 hX2 hnew
    have e1 : l.length + ((at_ : Int) + b.length - l.length).toNat = at_ + b.length := by omega
    rw [e1] at hO2 ⊢
    have hO3 : OwnSl h2 0 n2 a2 1 (at_ + b.length) (bytesV (l ++ List.replicate (at_ + b.length - l.length) 0)) := by
      have e3 : ((at_ : Int) + b.length - l.length).toNat = at_ + b.length - l.length := by omega
      have e4 : zrow (Value.int IntKind.u8 0).cells.toList ((at_ : Int) + b.length - l.length).toNat = List.replicate (at_ + b.length - l.length) (.int .u8 0) := by rw [e3]; exact zrow_one _ _
      rw [e4] at hO2
      have e2 : bytesV (l ++ List.replicate (at_ + b.length - l.length) 0) = bytesV l ++ List.replicate (at_ + b.length - l.length) (.int .u8 0) := by
        simp [bytesV]
      rw [e2]; exact hO2
    have hS2 : SlB h2 n2 c b := (S.ext ext (Nat.le_succ n)).extX hX2 (by
      rcases hac with q | q | q
      · exact .inl q
      · exact .inr (.inl q)
      · exact .inr (.inr (Ne.symm q))) |>.ext (Ext.refl _ _) hle2
    have ha2 : a2 ≠ none := by
      intro q; subst q
      rcases hO3.or with k | k
      · omega
      · cases k.1
    have hsb := (hO3.at'.resolve_left ha2).2
    have hne : sb a2 ≠ n := by
      rcases hnew with q | q
      · subst q
        have := (hO.at'.resolve_left ha2).2
        omega
      · omega
    have hSR := hO3.slr
    have han : a = none ∨ n ≠ sb a := by
      by_cases q : a = none
      · exact .inl q
      · right; have := (hO.at'.resolve_left q).2; omega
    have hc0 : h2.cell n 0 = .int .i64 (at_ : Nat) := c_extX hX2 (by omega) han cell
    have hc1 : h2.cell n 1 = .slice c b.length b.length := c_extX hX2 (by omega) han cell
    repeat' (first | refine stp ?_ | (refine stp2 ?_ ?_ <;> intro _))
    have e5 : at_ + b.length - (at_ : Int).toNat = b.length := by omega
    rw [e5, Int.toNat_natCast]
    refine RD.copyB (nb := n2) rfl opd opd hO3 hS2 rfl (by omega) (by omega) (fun _ => ?_) (Nat.le_refl _) cfw ?_
    · rcases hnew with q | q
      · subst q; exact .inl ⟨ha2, rfl⟩
      · exact .inr (by omega)
    intro hO4
    repeat' (first | refine stp ?_ | (refine stp2 ?_ ?_ <;> intro _))
    exact DoRes.bit (fun x hx hne => by
      have := hX2 x (by omega) hne
      exact ⟨this.1.trans (i_new_ne (by omega) rfl), fun i => (this.2 i).trans (c_new_ne (by omega) rfl)⟩) (hnew.imp id (by omega)) ha2 hO4 (by omega)
  · rename_i hgt
    have hO3 := hO.ext (n1 := n + 1) (h1 := h.app (.new n ⟨2, 0, true, 0⟩ [.int .i64 (at_ : Nat), .slice c b.length b.length])) ext (by omega)
    have hS2 : SlB (h.app (.new n ⟨2, 0, true, 0⟩ [.int .i64 (at_ : Nat), .slice c b.length b.length])) (n + 1) c b := S.ext ext (by omega)
    have ha2 : a ≠ none := by
      intro q; subst q
      rcases hO3.or with k | k
      · omega
      · cases k.1
    have hsb := (hO.at'.resolve_left ha2).2
    have hSR := hO3.slr
    repeat' (first | refine stp ?_ | (refine stp2 ?_ ?_ <;> intro _))
    rw [Int.toNat_natCast]
    refine RD.copyB (nb := n + 1) rfl opd opd hO3 hS2 (by omega) (by omega) (by omega) (fun _ => .inl ⟨ha2, rfl⟩) (Nat.le_refl _) cfw ?_
    intro hO4
    repeat' (first | refine stp ?_ | (refine stp2 ?_ ?_ <;> intro _))
    have e0 : l ++ List.replicate (at_ + b.length - l.length) 0 = l := by rw [show at_ + b.length - l.length = 0 by omega]; simp
    exact DoRes.bit (fun x hx hne => ⟨i_new_ne (by omega) rfl, fun i => c_new_ne (by omega) rfl⟩) (.inl rfl) ha2 (by rw [e0]; exact hO4) (by omega)
end Go.Proofs.Ytchfnjfmlhacfaa
