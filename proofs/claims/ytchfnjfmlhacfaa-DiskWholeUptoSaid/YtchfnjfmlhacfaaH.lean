/- Contracts of the disk's methods: fuse, read, write. -/
import Derived.Test.YtchfnjfmlhacfaaG
namespace Go.Proofs.Ytchfnjfmlhacfaa
open Go.Abs

section
variable {h h1 h2 : AH} {n n1 n2 d : Nat} {o : Nat → Option Addr} {ka : Option Addr} {pa : List (Option Addr)} {fl : Nat → List UInt8} {ps : List Pc} {fuse : Int} {keep : List Bool} {calls : Int} {down : Bool}
/-- The fuse's choice is another one. -/
theorem DkR.keeps {a' : Option Addr} {ks : List Bool} (R : DkR h n d o ka pa fl ps fuse keep calls down) (hE : Ext n h h2) (hn : n ≤ n2) (hO : SlT h2 n2 a' ks) (hnew : a' = none ∨ n ≤ sb a') :
    DkR (h2.app (.sets d 7 [.slice a' ks.length ks.length])) n2 d o a' pa fl ps fuse ks calls down := by
  have hX : ExtX n none h h2 := fun x hx _ => ⟨hE.info x hx, fun i => hE.cell x i hx⟩
  have hlt := R.lt
  have hdn : apd d none := .inl rfl
  have han : apd d a' := hnew.imp id (by omega)
  have hxn : ∀ x : Option Addr, apt none x := fun x => .inl rfl
  refine ⟨by omega, i_sets (i_extX hX hlt hdn R.inf), cellT hX hdn hlt (by omega) R.c0, fun j hj => cellT hX hdn hlt (by omega) (R.cf j hj), cellT hX hdn hlt (by omega) R.c5, cellT hX hdn hlt (by omega) R.c6, c_in (Nat.le_refl _) (by simp), cellT hX hdn hlt (by omega) R.c8, cellT hX hdn hlt (by omega) R.c9,
    fun j hj => rowT hX hn (R.fo j hj) (hxn _) (R.od j (by omega)), rowT hX hn R.lo (hxn _) (R.od 4 (by omega)), ?_, fun j p hp hc => slT hX hn (R.dat j p hp hc) (hxn _) (R.dg _ (R.gmem hp)), R.len, R.od, R.oo, fun j x hj hx => ?_, fun x hx => ?_, fun x hx q => ?_⟩
  · exact SlR.extW (W := fun b => b = d) hO (ExtW.appSets (.inl rfl) (ExtW.refl _ _ _)) (Nat.le_refl _) (fun q e => (han.resolve_left q) e.symm)
  · simp only [List.mem_cons] at hx
    rcases hx with rfl | hx
    · rcases hnew with k | k
      · exact .inr (.inl k)
      · by_cases q : o j = none
        · exact .inl q
        · have := R.rlt hj q
          exact .inr (.inr (by omega))
    · exact R.og j x hj (by simp [hx])
  · simp only [List.mem_cons] at hx
    rcases hx with rfl | hx
    · exact han
    · exact R.dg x (by simp [hx])
  · simp only [List.mem_cons] at hx
    rcases hx with rfl | hx
    · exact hO.ltA q
    · exact Nat.lt_of_lt_of_le (R.gl x (by simp [hx]) q) hn
end
theorem _root_.Go.Abs.Ext.app {n : Nat} {h h1 : AH} (e : Ext n h h1) (d : Dl) : Ext n (h.app d) (h1.app d) :=
  ⟨fun b hb => by simp only [AH.app]; rw [e.info b hb], fun b i hb => by simp only [AH.app]; rw [e.cell b i hb]⟩
section
variable {h h1 h2 : AH} {n n1 n2 d : Nat} {F G : Nat → Prop} {S S1 S2 : DS}
theorem DkTo.mk2 {o o' : Nat → Option Addr} {ka ka' : Option Addr} {pa pa' : List (Option Addr)} (ok : DSOk S) (R : DkR h1 n1 d o' ka' pa' (flOf S) S.ps S.fuse S.keep S.calls S.down) (ho : oNew n o o') (hp : ∀ x, x ∈ ka' :: pa' → x ∈ ka :: pa ∨ x = none ∨ n ≤ sb x) (e : ExtW (DkF d o) n h h1) :
    DkTo n d (DkF d o) (DkG ka pa) h S n1 h1 := by
  refine ⟨_, _, ⟨ok, o', ka', pa', rfl, rfl, R⟩, fun b hb q => ho.F b hb q, ?_, e⟩
  rintro b hb ⟨x, hx, hne, rfl⟩
  rcases hp x hx with k | k | k
  · exact ⟨x, k, hne, rfl⟩
  · exact absurd k hne
  · omega
set_option maxHeartbeats 4000000 in
theorem setFuse_dk {c : Option Addr} {ks : List Bool} (D : Dk h n d F G S) (k : Int) (hk : k ≤ 9223372036854775807) (hks : ks.length ≤ 1099511627776) (hS : SlT h n c ks) :
    RF Try.prog F 20 #[.pointer (some ⟨d, 0, none⟩), .int .i64 k, .slice c ks.length ks.length] n h (fun r n' h' => r = .int .i64 (S.setFuse k ks).1 ∧ DkTo n d F G h (S.setFuse k ks).2 n' h') := by
  refine RF.of Try.func20 rfl rfl (Nat.le_of_ble_eq_true rfl) ?_; dsimp only [argEnv]
  have hlt := D.lt
  have hTd := D.inF
  by_cases hk0 : k < 0
  · have he : S.setFuse k ks = (1, S) := by simp [DS.setFuse, hk0]
    rw [he]
    repeat' (first | refine stpS ?_ | (refine stp2 ?_ ?_ <;> intro _) | refine RS.call1 rfl opds (none_dk D) none'W ?_)
    exact ⟨rfl, D.to⟩
  · have he : S.setFuse k ks = (0, { S with fuse := k, keep := ks }) := by simp [DS.setFuse, hk0]
    rw [he]
    obtain ⟨ok, o, ka, pa, rfl, rfl, R⟩ := id D
    have hinf := R.inf
    repeat' (first | refine stpS ?_ | (refine stp2 ?_ ?_ <;> intro _) | refine RS.call1 rfl opds (none_dk D) none'W ?_)
    refine RS.call rfl opds (cloneT_rf ks c n h hS hks) none'W ?_
    rintro r n1 h1 hle ⟨a', rfl, hE, hO⟩
    repeat' (first | refine stpS ?_ | (refine stp2 ?_ ?_ <;> intro _))
    have R1 := R.scalar (j := 6) (fuse' := k) (calls' := S.calls) (down' := S.down) (.inl ⟨rfl, rfl, rfl, rfl⟩)
    have hnew : a' = none ∨ n ≤ sb a' := hO.at'.imp id (·.1)
    have han : apd d a' := hnew.imp id (by omega)
    have hO2 : SlT (h1.app (.sets d 6 [.int .i64 k])) n1 a' ks := (hO.setsN (b := d) (o' := 6) (vs := [.int .i64 k]) (han.imp id Ne.symm)).slt
    refine ⟨rfl, DkTo.mk2 ⟨ok.ps, ok.sure, by show 0 ≤ k ∧ k ≤ 9223372036854775807; omega, ok.calls, hks⟩ (R1.keeps (hE.app _) hle hO2 hnew) (oNew.refl _ _) (fun x hx => ?_) (ExtW.appSets (.inl hTd) (ExtW.appSets (.inl hTd) (ExtW.of hE (Nat.le_refl _))))⟩
    simp only [List.mem_cons] at hx
    rcases hx with rfl | hx
    · exact .inr hnew
    · exact .inl (by simp [hx])
set_option maxHeartbeats 4000000 in
theorem read_dk (D : Dk h n d F G S) (f at_ k : Int) :
    RF Try.prog none' 14 #[.pointer (some ⟨d, 0, none⟩), .int .i64 f, .int .i64 at_, .int .i64 k] n h (fun r n' h' => ∃ a', r = .tuple #[.slice a' (S.read f at_ k).2.length (S.read f at_ k).2.length, .int .i64 (S.read f at_ k).1] ∧ Ext n h h' ∧ OwnSl h' n n' a' 1 (S.read f at_ k).2.length (bytesV (S.read f at_ k).2)) := by
  refine RF.of Try.func14 rfl rfl (Nat.le_of_ble_eq_true rfl) ?_; dsimp only [argEnv]
  have hlt := D.lt
  by_cases hm : S.may f = 0
  · obtain ⟨i, hi, rfl, hd⟩ := may_zero hm
    have hme := may_dk D (i : Int)
    rw [hm] at hme
    have hno := D.ok.now i
    by_cases hsz : at_ < 0 ∨ k < 0
    · have he : S.read (i : Int) at_ k = (1, []) := by simp [DS.read, hm, hsz]
      rw [he]
      repeat' (first | refine stpS ?_ | (refine stp2 ?_ ?_ <;> intro _) | refine RS.call1 rfl opds (hme) none'W ?_)
      all_goals first | exact ⟨none, rfl, ext, OwnSl.nil (by omega)⟩ | (exfalso; omega)
    · obtain ⟨p, rfl⟩ : ∃ p : Nat, at_ = p := ⟨at_.toNat, by omega⟩
      obtain ⟨q, rfl⟩ : ∃ q : Nat, k = q := ⟨k.toNat, by omega⟩
      have he : S.read (i : Int) (p : Nat) (q : Nat) = (0, ((S.now i).drop p).take q) := by rw [DS.read, if_neg (by rw [hm]; simp), if_neg hsz]; simp
      rw [he]
      obtain ⟨ok, o, ka, pa, hF, hG, R⟩ := id D
      have c1 := now_cell R hi
      have S0 : SlB h n (o i) (S.now i) := by
        have := (R.fo i (by omega)).slb
        rwa [flOf_lt _ hi] at this
      repeat' (first | refine stpS ?_ | (refine stp2 ?_ ?_ <;> intro _) | refine RS.call1 rfl opds (hme) none'W ?_)
      repeat' (first | refine stp ?_ | (refine stp2 ?_ ?_ <;> intro _))
      have e1 : (min (p : Int) ((S.now i).length : Int)).toNat = min p (S.now i).length := by omega
      rw [e1]
      have hd : (S.now i).drop (min p (S.now i).length) = (S.now i).drop p := by
        rcases Nat.le_total p (S.now i).length with q | q
        · rw [Nat.min_eq_left q]
        · rw [Nat.min_eq_right q, List.drop_length, List.drop_of_length_le q]
      have S1 : SlB h n (sub (o i) (min p (S.now i).length)) ((S.now i).drop p) := by
        have := S0.cut (i := min p (S.now i).length) (u := (S.now i).length) (by omega) (Nat.le_refl _)
        rwa [List.take_length, hd] at this
      have e2 : (S.now i).length - min p (S.now i).length = ((S.now i).drop p).length := by rw [List.length_drop]; omega
      rw [e2]
      clear S0 hd
      generalize hl1 : (S.now i).drop p = l1 at *
      generalize sub (o i) (min p (S.now i).length) = a1 at *
      repeat' (first | refine stpS ?_ | (refine stp2 ?_ ?_ <;> intro _))
      have e3 : (min (q : Int) (l1.length : Int)).toNat = min q l1.length := by omega
      rw [e3]
      have hl1' : l1.length ≤ 4194304 := by rw [← hl1, List.length_drop]; omega
      have S2 : SlB h n a1 (l1.take q) := by
        have := S1.take (u := min q l1.length) (by omega)
        rwa [take_min] at this
      have e4 : min q l1.length = (l1.take q).length := by rw [List.length_take]
      rw [e4]
      refine RS.call rfl opds (clone_rf (l1.take q) a1 _ n h S2 rfl (by rw [← e4]; omega)) none'W ?_
      rintro r n1 h1 hle ⟨a', rfl, hE, hO⟩
      repeat' (first | refine stpS ?_ | (refine stp2 ?_ ?_ <;> intro _))
      exact ⟨a', rfl, hE, hO⟩
  · have he : S.read f at_ k = (S.may f, []) := by simp [DS.read, hm]
    rw [he]
    repeat' (first | refine stpS ?_ | (refine stp2 ?_ ?_ <;> intro _) | refine RS.call1 rfl opds (may_dk D f) none'W ?_)
    exact ⟨none, rfl, ext, OwnSl.nil (by omega)⟩
end
end Go.Proofs.Ytchfnjfmlhacfaa
