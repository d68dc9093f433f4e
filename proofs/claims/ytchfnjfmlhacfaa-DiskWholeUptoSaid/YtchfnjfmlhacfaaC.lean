/- Changes of a disk in memory. -/
import Derived.Test.YtchfnjfmlhacfaaB
namespace Go.Proofs.Ytchfnjfmlhacfaa
open Go.Abs

section
variable {h h1 h2 : AH} {n n1 n2 d : Nat} {o : Nat → Option Addr} {ka : Option Addr} {pa : List (Option Addr)} {fl : Nat → List UInt8} {ps : List Pc} {fuse : Int} {keep : List Bool} {calls : Int} {down : Bool}
theorem rowT {j z m : Nat} {a x : Option Addr} {vs cs : List Value} (hX : ExtX n a h h2) (hn : n ≤ n2) (q : OwnSl h 0 n x z m cs) (ha : apt a x) (hd : apd d x) : OwnSl (h2.app (.sets d j vs)) 0 n2 x z m cs := by
  refine OwnSl.setsN (q.extX hX hn ?_) (hd.imp id Ne.symm)
  rcases ha with k | k | k
  · exact .inl k
  · exact .inr (.inl k)
  · exact .inr (.inr (Ne.symm k))
theorem slT {j z m : Nat} {a x : Option Addr} {vs : List Value} {f : Nat → Value} (hX : ExtX n a h h2) (hn : n ≤ n2) (q : SlR h n x z m f) (ha : apt a x) (hd : apd d x) : SlR (h2.app (.sets d j vs)) n2 x z m f := by
  have q2 := (q.extX hX (by
    rcases ha with k | k | k
    · exact .inl k
    · exact .inr (.inl k)
    · exact .inr (.inr (Ne.symm k)))).ext (Ext.refl _ _) hn
  exact q2.extW (W := fun b => b = d) (ExtW.appSets (.inl rfl) (ExtW.refl _ _ _)) (Nat.le_refl _) (fun e q => (hd.resolve_left e) q.symm)
theorem cellT {j i : Nat} {a : Option Addr} {v w : Value} (hX : ExtX n a h h2) (ha : apd d a) (hd : d < n) (hij : i ≠ j) (hw : h.cell d i = w) : (h2.app (.sets d j [v])).cell d i = w :=
  c_out (.inr (by simp only [List.length_cons, List.length_nil]; omega)) (c_extX hX hd ha hw)
theorem DkR.rlt (R : DkR h n d o ka pa fl ps fuse keep calls down) {i : Nat} (hi : i < 5) (hne : o i ≠ none) : sb (o i) < n := R.ltF _ (.inr ⟨i, hi, hne, rfl⟩)
theorem DkR.file {i : Nat} {a' : Option Addr} {l' : List UInt8} (R : DkR h n d o ka pa fl ps fuse keep calls down) (hi : i < 4) (hX : ExtX n (o i) h h2) (hn : n ≤ n2) (hO : OwnSl h2 0 n2 a' 1 l'.length (bytesV l')) (hnew : a' = o i ∨ a' = none ∨ n ≤ sb a') :
    DkR (h2.app (.sets d (1 + i) [.slice a' l'.length l'.length])) n2 d (upd o i a') ka pa (upd fl i l') ps fuse keep calls down := by
  have hdi := R.od i (by omega)
  have hlt := R.lt
  have hdn : apd d a' := apd_new hdi hlt hnew
  refine ⟨by omega, i_sets (i_extX hX hlt hdi R.inf), cellT hX hdi hlt (by omega) R.c0, fun j hj => ?_, ?_, cellT hX hdi hlt (by omega) R.c6, cellT hX hdi hlt (by omega) R.c7, cellT hX hdi hlt (by omega) R.c8, cellT hX hdi hlt (by omega) R.c9,
    fun j hj => ?_, ?_, slT hX hn R.ks (R.og i ka (by omega) (by simp)) (R.dg ka (by simp)), fun j p hp hc => slT hX hn (R.dat j p hp hc) (R.og i _ (by omega) (R.gmem hp)) (R.dg _ (R.gmem hp)), R.len, fun j hj => ?_, fun j q hj hq hne => ?_, fun j x hj hx => ?_, R.dg, fun x hx q => Nat.lt_of_lt_of_le (R.gl x hx q) hn⟩
  · by_cases e : j = i
    · subst e
      rw [upd_same, upd_same]
      exact c_in (Nat.le_refl _) (by simp)
    · rw [upd_ne _ _ e, upd_ne _ _ e]
      exact cellT hX hdi hlt (by omega) (R.cf j hj)
  · rw [upd_ne _ _ (by omega)]
    exact cellT hX hdi hlt (by omega) R.c5
  · by_cases e : j = i
    · subst e
      rw [upd_same, upd_same]
      exact hO.setsN (hdn.imp id Ne.symm)
    · rw [upd_ne _ _ e, upd_ne _ _ e]
      exact rowT hX hn (R.fo j hj) (R.oo i j (by omega) (by omega) (Ne.symm e)) (R.od j (by omega))
  · rw [upd_ne _ _ (by omega)]
    exact rowT hX hn R.lo (R.oo i 4 (by omega) (by omega) (by omega)) (R.od 4 (by omega))
  · by_cases e : j = i
    · subst e; rw [upd_same]; exact hdn
    · rw [upd_ne _ _ e]; exact R.od j hj
  · by_cases e : j = i
    · subst e
      rw [upd_same, upd_ne _ _ (Ne.symm hne)]
      exact apt_new (R.oo j q hj hq hne) (R.rlt hq) hnew
    · rw [upd_ne _ _ e]
      by_cases e2 : q = i
      · subst e2
        rw [upd_same]
        exact (apt_new (R.oo q j hq hj (Ne.symm hne)) (R.rlt hj) hnew).symm
      · rw [upd_ne _ _ e2]; exact R.oo j q hj hq hne
  · by_cases e : j = i
    · subst e
      rw [upd_same]
      exact apt_new (R.og j x hj hx) (R.gl x hx) hnew
    · rw [upd_ne _ _ e]; exact R.og j x hj hx
theorem DkR.push {a' c : Option Addr} {p : Pc} (R : DkR h n d o ka pa fl ps fuse keep calls down) (hX : ExtX n (o 4) h h2) (hn : n ≤ n2) (hO : OwnSl h2 0 n2 a' 2 (ps.length + 1) (pcsC ps pa ++ pcC p c)) (hnew : a' = o 4 ∨ a' = none ∨ n ≤ sb a')
    (hS : p.cut = false → SlB h n c p.b) (hc : c ≠ none → sb c < n) (hco : ∀ i, i < 5 → apt (o i) c) (hcd : apd d c) :
    DkR (h2.app (.sets d 5 [.slice a' (ps.length + 1) (ps.length + 1)])) n2 d (upd o 4 a') ka (pa ++ [c]) fl (ps ++ [p]) fuse keep calls down := by
  have hdi := R.od 4 (by omega)
  have hlt := R.lt
  have hdn : apd d a' := apd_new hdi hlt hnew
  have hmem : ∀ x, x ∈ ka :: (pa ++ [c]) → x ∈ ka :: pa ∨ x = c := fun x hx => by
    simp only [List.mem_cons, List.mem_append, List.not_mem_nil, or_false] at hx ⊢
    rcases hx with q | q | q
    · exact .inl (.inl q)
    · exact .inl (.inr q)
    · exact .inr q
  refine ⟨by omega, i_sets (i_extX hX hlt hdi R.inf), cellT hX hdi hlt (by omega) R.c0, fun j hj => ?_, ?_, cellT hX hdi hlt (by omega) R.c6, cellT hX hdi hlt (by omega) R.c7, cellT hX hdi hlt (by omega) R.c8, cellT hX hdi hlt (by omega) R.c9,
    fun j hj => ?_, ?_, slT hX hn R.ks (R.og 4 ka (by omega) (by simp)) (R.dg ka (by simp)), fun j p' hp hc' => ?_, by simp [R.len], fun j hj => ?_, fun j q hj hq hne => ?_, fun j x hj hx => ?_, fun x hx => ?_, fun x hx q => ?_⟩
  · rw [upd_ne _ _ (by omega)]
    exact cellT hX hdi hlt (by omega) (R.cf j hj)
  · rw [upd_same, List.length_append]
    exact c_in (Nat.le_refl _) (by simp)
  · rw [upd_ne _ _ (by omega)]
    exact rowT hX hn (R.fo j hj) (R.oo 4 j (by omega) (by omega) (by omega)) (R.od j (by omega))
  · rw [upd_same, List.length_append, pcsC_snoc _ _ _ _ R.len]
    exact hO.setsN (hdn.imp id Ne.symm)
  · by_cases hj : j < ps.length
    · rw [List.getElem?_append_left hj] at hp
      have e : (pa ++ [c]).getD j none = pa.getD j none := by
        simp only [List.getD]
        rw [List.getElem?_append_left (by rw [R.len]; exact hj)]
      rw [e]
      exact slT hX hn (R.dat j p' hp hc') (R.og 4 _ (by omega) (R.gmem hp)) (R.dg _ (R.gmem hp))
    · have hj2 : j = ps.length := by
        have := (List.getElem?_eq_some_iff.1 hp).1
        simp at this; omega
      subst hj2
      rw [List.getElem?_append_right (Nat.le_refl _)] at hp
      simp at hp; subst hp
      have e : (pa ++ [c]).getD ps.length none = c := by
        simp only [List.getD]
        rw [List.getElem?_append_right (by rw [R.len]; exact Nat.le_refl _), R.len]; simp
      rw [e]
      exact slT hX hn (hS hc') (hco 4 (by omega)) hcd
  · by_cases e : j = 4
    · subst e; rw [upd_same]; exact hdn
    · rw [upd_ne _ _ e]; exact R.od j hj
  · by_cases e : j = 4
    · subst e
      rw [upd_same, upd_ne _ _ (Ne.symm hne)]
      exact apt_new (R.oo 4 q hj hq hne) (R.rlt hq) hnew
    · rw [upd_ne _ _ e]
      by_cases e2 : q = 4
      · subst e2
        rw [upd_same]
        exact (apt_new (R.oo 4 j hq hj (Ne.symm hne)) (R.rlt hj) hnew).symm
      · rw [upd_ne _ _ e2]; exact R.oo j q hj hq hne
  · by_cases e : j = 4
    · subst e
      rw [upd_same]
      rcases hmem x hx with hx | rfl
      · exact apt_new (R.og 4 x hj hx) (R.gl x hx) hnew
      · exact apt_new (hco 4 hj) hc hnew
    · rw [upd_ne _ _ e]
      rcases hmem x hx with hx | rfl
      · exact R.og j x hj hx
      · exact hco j hj
  · rcases hmem x hx with hx | rfl
    · exact R.dg x hx
    · exact hcd
  · rcases hmem x hx with hx | rfl
    · exact Nat.lt_of_lt_of_le (R.gl x hx q) hn
    · exact Nat.lt_of_lt_of_le (hc q) hn
/-- The row of pieces is another one; its bytes are of those that were there. -/
theorem DkR.list {a' : Option Addr} {ps' : List Pc} {pa' : List (Option Addr)} (R : DkR h n d o ka pa fl ps fuse keep calls down) (hX : ExtX n (o 4) h h2) (hn : n ≤ n2) (hO : OwnSl h2 0 n2 a' 2 ps'.length (pcsC ps' pa')) (hnew : a' = o 4 ∨ a' = none ∨ n ≤ sb a')
    (hlen : pa'.length = ps'.length) (hmem : ∀ x, x ∈ pa' → x ∈ pa) (hdat : ∀ i p, ps'[i]? = some p → p.cut = false → ∃ j, ps[j]? = some p ∧ pa'.getD i none = pa.getD j none) :
    DkR (h2.app (.sets d 5 [.slice a' ps'.length ps'.length])) n2 d (upd o 4 a') ka pa' fl ps' fuse keep calls down := by
  have hdi := R.od 4 (by omega)
  have hlt := R.lt
  have hdn : apd d a' := apd_new hdi hlt hnew
  have hm : ∀ x, x ∈ ka :: pa' → x ∈ ka :: pa := fun x hx => by
    simp only [List.mem_cons] at hx ⊢
    exact hx.imp id (hmem x)
  refine ⟨by omega, i_sets (i_extX hX hlt hdi R.inf), cellT hX hdi hlt (by omega) R.c0, fun j hj => ?_, ?_, cellT hX hdi hlt (by omega) R.c6, cellT hX hdi hlt (by omega) R.c7, cellT hX hdi hlt (by omega) R.c8, cellT hX hdi hlt (by omega) R.c9,
    fun j hj => ?_, ?_, slT hX hn R.ks (R.og 4 ka (by omega) (by simp)) (R.dg ka (by simp)), fun j p' hp hc' => ?_, hlen, fun j hj => ?_, fun j q hj hq hne => ?_, fun j x hj hx => ?_, fun x hx => R.dg x (hm x hx), fun x hx q => Nat.lt_of_lt_of_le (R.gl x (hm x hx) q) hn⟩
  · rw [upd_ne _ _ (by omega)]
    exact cellT hX hdi hlt (by omega) (R.cf j hj)
  · rw [upd_same]
    exact c_in (Nat.le_refl _) (by simp)
  · rw [upd_ne _ _ (by omega)]
    exact rowT hX hn (R.fo j hj) (R.oo 4 j (by omega) (by omega) (by omega)) (R.od j (by omega))
  · rw [upd_same]
    exact hO.setsN (hdn.imp id Ne.symm)
  · obtain ⟨k, hk, e⟩ := hdat j p' hp hc'
    rw [e]
    exact slT hX hn (R.dat k p' hk hc') (R.og 4 _ (by omega) (R.gmem hk)) (R.dg _ (R.gmem hk))
  · by_cases e : j = 4
    · subst e; rw [upd_same]; exact hdn
    · rw [upd_ne _ _ e]; exact R.od j hj
  · by_cases e : j = 4
    · subst e
      rw [upd_same, upd_ne _ _ (Ne.symm hne)]
      exact apt_new (R.oo 4 q hj hq hne) (R.rlt hq) hnew
    · rw [upd_ne _ _ e]
      by_cases e2 : q = 4
      · subst e2
        rw [upd_same]
        exact (apt_new (R.oo 4 j hq hj (Ne.symm hne)) (R.rlt hj) hnew).symm
      · rw [upd_ne _ _ e2]; exact R.oo j q hj hq hne
  · by_cases e : j = 4
    · subst e
      rw [upd_same]
      exact apt_new (R.og 4 x hj (hm x hx)) (R.gl x (hm x hx)) hnew
    · rw [upd_ne _ _ e]
      exact R.og j x hj (hm x hx)
theorem DkR.fileJ {i j : Nat} {a' : Option Addr} {l' : List UInt8} (R : DkR h n d o ka pa fl ps fuse keep calls down) (hi : i < 4) (hj : j = 1 + i) (hX : ExtX n (o i) h h2) (hn : n ≤ n2) (hO : OwnSl h2 0 n2 a' 1 l'.length (bytesV l')) (hnew : a' = o i ∨ a' = none ∨ n ≤ sb a') :
    DkR (h2.app (.sets d j [.slice a' l'.length l'.length])) n2 d (upd o i a') ka pa (upd fl i l') ps fuse keep calls down := by
  subst hj; exact R.file hi hX hn hO hnew
theorem DkR.congr {fl' : Nat → List UInt8} (R : DkR h n d o ka pa fl ps fuse keep calls down) (e : ∀ i, i < 4 → fl i = fl' i) : DkR h n d o ka pa fl' ps fuse keep calls down :=
  ⟨R.lt, R.inf, R.c0, fun i hi => by rw [← e i hi]; exact R.cf i hi, R.c5, R.c6, R.c7, R.c8, R.c9, fun i hi => by rw [← e i hi]; exact R.fo i hi, R.lo, R.ks, R.dat, R.len, R.od, R.oo, R.og, R.dg, R.gl⟩
/-- Rows that are as they were, none, or new. -/
def oNew (n : Nat) (o o' : Nat → Option Addr) : Prop := ∀ i, i < 5 → o' i = o i ∨ o' i = none ∨ n ≤ sb (o' i)
theorem oNew.refl (n : Nat) (o : Nat → Option Addr) : oNew n o o := fun _ _ => .inl rfl
theorem oNew.upd {o' : Nat → Option Addr} {i : Nat} {a' : Option Addr} (q : oNew n o o') (hn : n ≤ n1) (k : a' = o' i ∨ a' = none ∨ n1 ≤ sb a') : oNew n o (upd o' i a') := fun j hj => by
  by_cases e : j = i
  · subst e
    rw [upd_same]
    rcases k with k | k | k
    · rw [k]; exact q j hj
    · exact .inr (.inl k)
    · exact .inr (.inr (by omega))
  · rw [upd_ne _ _ e]; exact q j hj
theorem oNew.trans {o1 o2 : Nat → Option Addr} (p : oNew n o o1) (q : oNew n1 o1 o2) (hn : n ≤ n1) : oNew n o o2 := fun j hj => by
  rcases q j hj with k | k | k
  · rw [k]; exact p j hj
  · exact .inr (.inl k)
  · exact .inr (.inr (by omega))
theorem oNew.F {o' : Nat → Option Addr} (q : oNew n o o') : ∀ b, b < n → DkF d o' b → DkF d o b := by
  rintro b hb (rfl | ⟨i, hi, hne, rfl⟩)
  · exact .inl rfl
  · rcases q i hi with k | k | k
    · exact .inr ⟨i, hi, by rw [← k]; exact hne, by rw [k]⟩
    · exact absurd k hne
    · omega
theorem oNew.apt {o' : Nat → Option Addr} {c : Option Addr} (q : oNew n o o') (hc : c ≠ none → sb c < n) (hco : ∀ i, i < 5 → apt (o i) c) : ∀ i, i < 5 → apt (o' i) c := fun i hi => apt_new (hco i hi) hc (q i hi)
end
end Go.Proofs.Ytchfnjfmlhacfaa
