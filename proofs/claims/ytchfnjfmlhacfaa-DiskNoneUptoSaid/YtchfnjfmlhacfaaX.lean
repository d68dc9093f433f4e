/- How the document's disk lies in memory. -/
import Derived.Test.YtchfnjfmlhacfaaPs
namespace Go.Proofs.Ytchfnjfmlhacfaa
open Go.Abs

def rpC (p : Pc) (a : Option Addr) : List Value := [.int .i64 (p.file : Nat), .bool p.cut, .int .i64 (p.at_ : Nat), .slice a p.b.length p.b.length]
def rpsC : List Pc → List (Option Addr) → List Value
  | p :: ps, a :: q => rpC p a ++ rpsC ps q
  | _, _ => []
theorem rpsC_snoc : ∀ (ps : List Pc) (pa : List (Option Addr)) (p : Pc) (a : Option Addr), pa.length = ps.length → rpsC (ps ++ [p]) (pa ++ [a]) = rpsC ps pa ++ rpC p a
  | [], [], p, a, _ => by simp [rpsC]
  | q :: ps, b :: pa, p, a, h => by simp [rpsC, rpsC_snoc ps pa p a (by simpa using h)]
  | [], _ :: _, _, _, h => by simp at h
  | _ :: _, [], _, _, h => by simp at h
theorem rpsC_at : ∀ (ps : List Pc) (pa : List (Option Addr)) (i : Nat) (p : Pc), pa.length = ps.length → ps[i]? = some p → ∀ j v, (rpC p (pa.getD i none))[j]? = some v → (rpsC ps pa)[i * 4 + j]? = some v
  | [], _, i, p, _, h => by simp at h
  | q :: ps, [], i, p, hl, h => by simp at hl
  | q :: ps, b :: pa, 0, p, hl, h => by
    simp only [List.getElem?_cons_zero, Option.some.injEq] at h
    subst h
    intro j v hv
    have hj : j < 4 := (List.getElem?_eq_some_iff.1 hv).1
    rw [rpsC, List.getElem?_append_left (by show 0 * 4 + j < 4; omega)]
    simpa using hv
  | q :: ps, b :: pa, i + 1, p, hl, h => by
    intro j v hv
    have := rpsC_at ps pa i p (by simpa using hl) (by simpa using h) j v (by simpa using hv)
    rw [rpsC, List.getElem?_append_right (by show 4 ≤ _; omega)]
    rw [show (i + 1) * 4 + j - (rpC q b).length = i * 4 + j by show (i + 1) * 4 + j - 4 = _; omega]
    exact this
theorem rpC_known (p : Pc) (a : Option Addr) : known (rpC p a) = true := rfl
/-- The document's disk: what lies in its cells. -/
def rfC (sa : Nat → Option Addr) (ol ka : Option Addr) (S : DS) : List Value := [.slice (sa 0) (S.sure 0).length (S.sure 0).length, .slice (sa 1) (S.sure 1).length (S.sure 1).length, .slice ol S.ps.length S.ps.length, .int .i64 S.fuse, .slice ka S.keep.length S.keep.length, .int .i64 S.calls, .bool S.down]
def rfG (sa : Nat → Option Addr) (ka : Option Addr) (pa : List (Option Addr)) : List (Option Addr) := sa 0 :: sa 1 :: ka :: pa
structure RfR (h : AH) (n r : Nat) (sa : Nat → Option Addr) (ol ka : Option Addr) (pa : List (Option Addr)) (S : DS) : Prop where
  lt : r < n
  inf : h.info r = some ⟨7, 0, true, 0⟩
  cs : ∀ i v, (rfC sa ol ka S)[i]? = some v → h.cell r i = v
  su : ∀ i, i < 2 → SlB h n (sa i) (S.sure i)
  lo : OwnSl h 0 n ol 4 S.ps.length (rpsC S.ps pa)
  ks : SlT h n ka S.keep
  dat : ∀ i p, S.ps[i]? = some p → SlB h n (pa.getD i none) p.b
  len : pa.length = S.ps.length
  rl : apd r ol
  sep : ∀ x, x ∈ rfG sa ka pa → apd r x ∧ apt ol x
  gl : ∀ x, x ∈ rfG sa ka pa → x ≠ none → sb x < n
def RkF (r : Nat) (ol : Option Addr) (b : Nat) : Prop := b = r ∨ inA ol b
def RkG (sa : Nat → Option Addr) (ka : Option Addr) (pa : List (Option Addr)) (b : Nat) : Prop := ∃ x, x ∈ rfG sa ka pa ∧ inA x b
def Rk (h : AH) (n r : Nat) (F G : Nat → Prop) (S : DS) : Prop := DSOk S ∧ ∃ sa ol ka pa, F = RkF r ol ∧ G = RkG sa ka pa ∧ RfR h n r sa ol ka pa S
def RkTo (n r : Nat) (F G : Nat → Prop) (h : AH) (S : DS) (n' : Nat) (h' : AH) : Prop :=
  ∃ F' G', Rk h' n' r F' G' S ∧ (∀ b, b < n → F' b → F b) ∧ (∀ b, b < n → G' b → G b) ∧ ExtW F n h h'
section
variable {h h1 h2 : AH} {n n1 n2 r : Nat} {sa sa' : Nat → Option Addr} {ol ol' ka ka' : Option Addr} {pa pa' : List (Option Addr)} {S S' : DS}
theorem gmem_sa {i : Nat} (hi : i < 2) : sa i ∈ rfG sa ka pa := by
  rcases (show i = 0 ∨ i = 1 by omega) with rfl | rfl <;> simp [rfG]
theorem gmem_ka : ka ∈ rfG sa ka pa := by simp [rfG]
theorem RfR.gmem (R : RfR h n r sa ol ka pa S) {i : Nat} {p : Pc} (hp : S.ps[i]? = some p) : pa.getD i none ∈ rfG sa ka pa := by
  have hi : i < pa.length := by rw [R.len]; exact (List.getElem?_eq_some_iff.1 hp).1
  have e2 : pa.getD i none = pa[i] := by simp [List.getD, hi]
  rw [e2]; simp [rfG]
theorem RfR.extW {W : Nat → Prop} (R : RfR h n r sa ol ka pa S) (e : ExtW W n h h1) (hn : n ≤ n1) (hF : ∀ b, RkF r ol b → ¬ W b) (hG : ∀ b, RkG sa ka pa b → ¬ W b) : RfR h1 n1 r sa ol ka pa S := by
  have hr := hF r (.inl rfl)
  have hg : ∀ x, x ∈ rfG sa ka pa → x ≠ none → ¬ W (sb x) := fun x hx hne => hG _ ⟨x, hx, hne, rfl⟩
  refine ⟨by have := R.lt; omega, by rw [e.info r R.lt hr]; exact R.inf, fun i v hv => by rw [e.cell r i R.lt hr]; exact R.cs i v hv, fun i hi => (R.su i hi).extW e hn (hg _ (gmem_sa hi)), R.lo.extW e hn (Nat.le_refl _) (fun q => hF _ (.inr ⟨q, rfl⟩)), R.ks.extW e hn (hg _ gmem_ka),
    fun i p hp => (R.dat i p hp).extW e hn (hg _ (R.gmem hp)), R.len, R.rl, R.sep, fun x hx q => Nat.lt_of_lt_of_le (R.gl x hx q) hn⟩
theorem RfR.ext (R : RfR h n r sa ol ka pa S) (e : Ext n h h1) (hn : n ≤ n1) : RfR h1 n1 r sa ol ka pa S := R.extW (W := fun _ => False) (ExtW.of e (Nat.le_refl _)) hn (fun _ _ q => q) (fun _ _ q => q)
theorem RfR.ltF (R : RfR h n r sa ol ka pa S) : ∀ b, RkF r ol b → b < n := by
  rintro b (rfl | ⟨hne, rfl⟩)
  · exact R.lt
  · exact (R.lo.at'.resolve_left hne).2
/-- What is only read is as it was where the pieces' row alone has changed. -/
theorem RfR.rest (R : RfR h n r sa ol ka pa S) (hX : ExtX n ol h h2) (hn : n ≤ n2) : (∀ i, i < 2 → SlB h2 n2 (sa i) (S.sure i)) ∧ SlT h2 n2 ka S.keep ∧ ∀ i p, S.ps[i]? = some p → SlB h2 n2 (pa.getD i none) p.b := by
  have go : ∀ {z m : Nat} {x : Option Addr} {f : Nat → Value}, x ∈ rfG sa ka pa → SlR h n x z m f → SlR h2 n2 x z m f := fun {z m x f} hx s => by
    refine (SlR.extX s hX ?_).ext (Ext.refl _ _) hn
    rcases (R.sep x hx).2 with k | k | k
    · exact .inl k
    · exact .inr (.inl k)
    · exact .inr (.inr (Ne.symm k))
  exact ⟨fun i hi => go (gmem_sa hi) (R.su i hi), go gmem_ka R.ks, fun i p hp => go (R.gmem hp) (R.dat i p hp)⟩
/-- One cell of the disk is set; its rows may be others. -/
theorem RfR.put {j : Nat} {v : Value} (R : RfR h n r sa ol ka pa S) (hX : ExtX n ol h h2) (hn : n ≤ n2) (hc : rfC sa' ol' ka' S' = (rfC sa ol ka S).set j v) (hj : j < 7)
    (hsu : ∀ i, i < 2 → SlB h2 n2 (sa' i) (S'.sure i)) (hlo : OwnSl h2 0 n2 ol' 4 S'.ps.length (rpsC S'.ps pa')) (hks : SlT h2 n2 ka' S'.keep) (hdat : ∀ i p, S'.ps[i]? = some p → SlB h2 n2 (pa'.getD i none) p.b) (hlen : pa'.length = S'.ps.length)
    (hol : ol' = ol ∨ ol' = none ∨ n ≤ sb ol') (hg : ∀ x, x ∈ rfG sa' ka' pa' → x ∈ rfG sa ka pa ∨ x = none ∨ (sb x < n2 ∧ apd r x ∧ apt ol' x)) :
    RfR (h2.app (.sets r j [v])) n2 r sa' ol' ka' pa' S' := by
  have hlt := R.lt
  have hrl : apd r ol' := apd_new R.rl hlt hol
  have hsep : ∀ x, x ∈ rfG sa' ka' pa' → apd r x ∧ apt ol' x := fun x hx => by
    rcases hg x hx with k | k | k
    · exact ⟨(R.sep x k).1, apt_new (R.sep x k).2 (R.gl x k) hol⟩
    · exact ⟨.inl k, .inr (.inl k)⟩
    · exact k.2
  have sl : ∀ {z m : Nat} {x : Option Addr} {f : Nat → Value}, x ∈ rfG sa' ka' pa' → SlR h2 n2 x z m f → SlR (h2.app (.sets r j [v])) n2 x z m f := fun {z m x f} hx s =>
    s.extW (W := fun b => b = r) (ExtW.appSets (.inl rfl) (ExtW.refl _ _ _)) (Nat.le_refl _) (fun e q => ((hsep x hx).1.resolve_left e) q.symm)
  have gm : ∀ {i : Nat} {p : Pc}, S'.ps[i]? = some p → pa'.getD i none ∈ rfG sa' ka' pa' := fun {i p} hp => by
    have hi : i < pa'.length := by rw [hlen]; exact (List.getElem?_eq_some_iff.1 hp).1
    have e2 : pa'.getD i none = pa'[i] := by simp [List.getD, hi]
    rw [e2]; simp [rfG]
  refine ⟨by omega, i_sets (i_extX hX hlt R.rl R.inf), fun i w hw => ?_, fun i hi => sl (gmem_sa hi) (hsu i hi), hlo.setsN (hrl.imp id Ne.symm), sl gmem_ka hks, fun i p hp => sl (gm hp) (hdat i p hp), hlen, hrl, hsep, fun x hx q => ?_⟩
  · rw [hc] at hw
    by_cases e : i = j
    · subst e
      rw [List.getElem?_set_self (by show i < 7; exact hj)] at hw
      cases hw
      exact c_in (Nat.le_refl _) (by simp)
    · rw [List.getElem?_set_ne (Ne.symm e)] at hw
      exact cellT hX R.rl hlt e (R.cs i w hw)
  · rcases hg x hx with k | k | k
    · exact Nat.lt_of_lt_of_le (R.gl x k q) hn
    · exact absurd k q
    · exact k.1
end
section
variable {h h1 h2 : AH} {n n1 n2 r : Nat} {F G F1 G1 : Nat → Prop} {S S1 S2 : DS}
theorem Rk.lt (D : Rk h n r F G S) : r < n := by
  obtain ⟨_, sa, ol, ka, pa, _, _, R⟩ := D
  exact R.lt
theorem Rk.ltF (D : Rk h n r F G S) : ∀ b, F b → b < n := by
  obtain ⟨_, sa, ol, ka, pa, rfl, _, R⟩ := D
  exact R.ltF
theorem Rk.ltG (D : Rk h n r F G S) : ∀ b, G b → b < n := by
  obtain ⟨_, sa, ol, ka, pa, _, rfl, R⟩ := D
  rintro b ⟨x, hx, hne, rfl⟩
  exact R.gl x hx hne
theorem Rk.inF (D : Rk h n r F G S) : F r := by
  obtain ⟨_, sa, ol, ka, pa, rfl, _, R⟩ := D
  exact .inl rfl
theorem Rk.ok (D : Rk h n r F G S) : DSOk S := D.1
theorem Rk.extW {W : Nat → Prop} (D : Rk h n r F G S) (e : ExtW W n h h1) (hn : n ≤ n1) (hF : ∀ b, F b → ¬ W b) (hG : ∀ b, G b → ¬ W b) : Rk h1 n1 r F G S := by
  obtain ⟨ok, sa, ol, ka, pa, rfl, rfl, R⟩ := D
  exact ⟨ok, sa, ol, ka, pa, rfl, rfl, R.extW e hn hF hG⟩
theorem Rk.ext (D : Rk h n r F G S) (e : Ext n h h1) (hn : n ≤ n1) : Rk h1 n1 r F G S := by
  obtain ⟨ok, sa, ol, ka, pa, rfl, rfl, R⟩ := D
  exact ⟨ok, sa, ol, ka, pa, rfl, rfl, R.ext e hn⟩
theorem Rk.to (D : Rk h n r F G S) : RkTo n r F G h S n h := ⟨F, G, D, fun _ _ q => q, fun _ _ q => q, ExtW.refl _ _ _⟩
theorem Rk.cell (D : Rk h n r F G S) : ∃ sa ol ka, ∀ i v, (rfC sa ol ka S)[i]? = some v → h.cell r i = v := by
  obtain ⟨_, sa, ol, ka, pa, _, _, R⟩ := D
  exact ⟨sa, ol, ka, R.cs⟩
theorem RkTo.mk {sa sa' : Nat → Option Addr} {ol ol' ka ka' : Option Addr} {pa pa' : List (Option Addr)} (ok : DSOk S) (R : RfR h1 n1 r sa' ol' ka' pa' S) (ho : ol' = ol ∨ ol' = none ∨ n ≤ sb ol') (hg : ∀ x, x ∈ rfG sa' ka' pa' → x ∈ rfG sa ka pa ∨ x = none ∨ n ≤ sb x) (e : ExtW (RkF r ol) n h h1) :
    RkTo n r (RkF r ol) (RkG sa ka pa) h S n1 h1 := by
  refine ⟨_, _, ⟨ok, sa', ol', ka', pa', rfl, rfl, R⟩, ?_, ?_, e⟩
  · rintro b hb (rfl | ⟨hne, rfl⟩)
    · exact .inl rfl
    · rcases ho with k | k | k
      · exact .inr ⟨by rw [← k]; exact hne, by rw [k]⟩
      · exact absurd k hne
      · omega
  · rintro b hb ⟨x, hx, hne, rfl⟩
    rcases hg x hx with k | k | k
    · exact ⟨x, k, hne, rfl⟩
    · exact absurd k hne
    · omega
theorem RkTo.trans (a : ExtW F n h h1) (hF : ∀ b, b < n → F1 b → F b) (hG : ∀ b, b < n → G1 b → G b) (hn : n ≤ n1) (b : RkTo n1 r F1 G1 h1 S n2 h2) : RkTo n r F G h S n2 h2 := by
  obtain ⟨F2, G2, D, f, g, e⟩ := b
  exact ⟨F2, G2, D, fun b hb q => hF b hb (f b (by omega) q), fun b hb q => hG b hb (g b (by omega) q), a.trans e hn hF⟩
end
end Go.Proofs.Ytchfnjfmlhacfaa
