/- How a disk lies in memory. -/
import Derived.Test.YtchfnjfmlhacfaaA
namespace Go.Proofs.Ytchfnjfmlhacfaa
open Go.Abs

/-- Two rows lie apart; block d and a row do. -/
def apt (x y : Option Addr) : Prop := x = none ∨ y = none ∨ sb x ≠ sb y
def apd (d : Nat) (y : Option Addr) : Prop := y = none ∨ d ≠ sb y
theorem apt.symm {x y : Option Addr} (h : apt x y) : apt y x := by
  rcases h with h | h | h
  · exact .inr (.inl h)
  · exact .inl h
  · exact .inr (.inr (Ne.symm h))
def pcV (p : Pc) (a : Option Addr) : Value := if p.cut = true then .iface 76 (.int .i64 (p.at_ : Nat)) else .iface 68 (.agg #[.int .i64 (p.at_ : Nat), .slice a p.b.length p.b.length])
def pcC (p : Pc) (a : Option Addr) : List Value := [.int .i64 (p.file : Nat), pcV p a]
def pcsC : List Pc → List (Option Addr) → List Value
  | p :: ps, a :: q => pcC p a ++ pcsC ps q
  | _, _ => []
theorem pcV_known (p : Pc) (a : Option Addr) : known (pcC p a) = true := by
  unfold pcC pcV; split <;> rfl
theorem pcsC_snoc : ∀ (ps : List Pc) (pa : List (Option Addr)) (p : Pc) (a : Option Addr), pa.length = ps.length → pcsC (ps ++ [p]) (pa ++ [a]) = pcsC ps pa ++ pcC p a
  | [], [], p, a, _ => by simp [pcsC]
  | q :: ps, b :: pa, p, a, h => by simp [pcsC, pcsC_snoc ps pa p a (by simpa using h)]
  | [], _ :: _, _, _, h => by simp at h
  | _ :: _, [], _, _, h => by simp at h
theorem pcsC_at : ∀ (ps : List Pc) (pa : List (Option Addr)) (i : Nat) (p : Pc), pa.length = ps.length → ps[i]? = some p → (pcsC ps pa)[2 * i]? = some (.int .i64 (p.file : Nat)) ∧ (pcsC ps pa)[2 * i + 1]? = some (pcV p (pa.getD i none))
  | [], _, i, p, _, h => by simp at h
  | q :: ps, [], i, p, hl, h => by simp at hl
  | q :: ps, b :: pa, 0, p, hl, h => by
    simp only [List.getElem?_cons_zero, Option.some.injEq] at h
    subst h; simp [pcsC, pcC]
  | q :: ps, b :: pa, i + 1, p, hl, h => by
    have := pcsC_at ps pa i p (by simpa using hl) (by simpa using h)
    have e1 : 2 * (i + 1) = 2 * i + 2 := by omega
    have e2 : 2 * (i + 1) + 1 = 2 * i + 1 + 2 := by omega
    rw [e2, e1]
    simpa [pcsC, pcC] using this
/-- How a disk lies: d its block; o its rows: what both files have now, what of them is sure, the pieces; k the fuse's choice; pa the pieces' bytes. -/
structure DkR (h : AH) (n d : Nat) (o : Nat → Option Addr) (ka : Option Addr) (pa : List (Option Addr)) (fl : Nat → List UInt8) (ps : List Pc) (fuse : Int) (keep : List Bool) (calls : Int) (down : Bool) : Prop where
  lt : d < n
  inf : h.info d = some ⟨10, 0, true, 0⟩
  c0 : h.cell d 0 = .bool true
  cf : ∀ i, i < 4 → h.cell d (1 + i) = .slice (o i) (fl i).length (fl i).length
  c5 : h.cell d 5 = .slice (o 4) ps.length ps.length
  c6 : h.cell d 6 = .int .i64 fuse
  c7 : h.cell d 7 = .slice ka keep.length keep.length
  c8 : h.cell d 8 = .int .i64 calls
  c9 : h.cell d 9 = .bool down
  fo : ∀ i, i < 4 → OwnSl h 0 n (o i) 1 (fl i).length (bytesV (fl i))
  lo : OwnSl h 0 n (o 4) 2 ps.length (pcsC ps pa)
  ks : SlT h n ka keep
  dat : ∀ i p, ps[i]? = some p → p.cut = false → SlB h n (pa.getD i none) p.b
  len : pa.length = ps.length
  od : ∀ i, i < 5 → apd d (o i)
  oo : ∀ i j, i < 5 → j < 5 → i ≠ j → apt (o i) (o j)
  og : ∀ i x, i < 5 → x ∈ ka :: pa → apt (o i) x
  dg : ∀ x, x ∈ ka :: pa → apd d x
  gl : ∀ x, x ∈ ka :: pa → x ≠ none → sb x < n

section
variable {h h1 h2 : AH} {n n1 n2 d : Nat} {o : Nat → Option Addr} {ka : Option Addr} {pa : List (Option Addr)} {fl : Nat → List UInt8} {ps : List Pc} {fuse : Int} {keep : List Bool} {calls : Int} {down : Bool}
/-- The blocks that are turned; those that are only read. -/
def DkF (d : Nat) (o : Nat → Option Addr) (b : Nat) : Prop := b = d ∨ ∃ i, i < 5 ∧ inA (o i) b
def DkG (ka : Option Addr) (pa : List (Option Addr)) (b : Nat) : Prop := ∃ x, x ∈ ka :: pa ∧ inA x b
theorem DkR.extW {W : Nat → Prop} (R : DkR h n d o ka pa fl ps fuse keep calls down) (e : ExtW W n h h1) (hn : n ≤ n1) (hF : ∀ b, DkF d o b → ¬ W b) (hG : ∀ b, DkG ka pa b → ¬ W b) : DkR h1 n1 d o ka pa fl ps fuse keep calls down := by
  have hd := hF d (.inl rfl)
  have ho : ∀ i, i < 5 → o i ≠ none → ¬ W (sb (o i)) := fun i hi hne => hF _ (.inr ⟨i, hi, hne, rfl⟩)
  have hg : ∀ x, x ∈ ka :: pa → x ≠ none → ¬ W (sb x) := fun x hx hne => hG _ ⟨x, hx, hne, rfl⟩
  have hc : ∀ j, h1.cell d j = h.cell d j := fun j => e.cell d j R.lt hd
  refine ⟨by have := R.lt; omega, by rw [e.info d R.lt hd]; exact R.inf, by rw [hc]; exact R.c0, fun i hi => by rw [hc]; exact R.cf i hi, by rw [hc]; exact R.c5, by rw [hc]; exact R.c6, by rw [hc]; exact R.c7, by rw [hc]; exact R.c8, by rw [hc]; exact R.c9,
    fun i hi => (R.fo i hi).extW e hn (Nat.le_refl _) (ho i (by omega)), R.lo.extW e hn (Nat.le_refl _) (ho 4 (by omega)), R.ks.extW e hn (hg ka (by simp)), fun i p hp hc => (R.dat i p hp hc).extW e hn (hg _ ?_), R.len, R.od, R.oo, R.og, R.dg, fun x hx q => Nat.lt_of_lt_of_le (R.gl x hx q) hn⟩
  have hi : i < pa.length := by rw [R.len]; exact (List.getElem?_eq_some_iff.1 hp).1
  have e2 : pa.getD i none = pa[i] := by simp [List.getD, hi]
  rw [e2]; simp
theorem DkR.ext (R : DkR h n d o ka pa fl ps fuse keep calls down) (e : Ext n h h1) (hn : n ≤ n1) : DkR h1 n1 d o ka pa fl ps fuse keep calls down :=
  R.extW (W := fun _ => False) (ExtW.of e (Nat.le_refl _)) hn (fun _ _ q => q) (fun _ _ q => q)
theorem DkR.ltF (R : DkR h n d o ka pa fl ps fuse keep calls down) : ∀ b, DkF d o b → b < n := by
  rintro b (rfl | ⟨i, hi, hne, rfl⟩)
  · exact R.lt
  · by_cases h4 : i < 4
    · exact ((R.fo i h4).at'.resolve_left hne).2
    · obtain rfl : i = 4 := by omega
      exact (R.lo.at'.resolve_left hne).2
theorem DkR.gmem (R : DkR h n d o ka pa fl ps fuse keep calls down) {i : Nat} {p : Pc} (hp : ps[i]? = some p) : pa.getD i none ∈ ka :: pa := by
  have hi : i < pa.length := by rw [R.len]; exact (List.getElem?_eq_some_iff.1 hp).1
  have e2 : pa.getD i none = pa[i] := by simp [List.getD, hi]
  rw [e2]; simp
/-- The same number of cells of the block is changed where no row is told. -/
theorem DkR.scalar (R : DkR h n d o ka pa fl ps fuse keep calls down) {j : Nat} {v : Value} {fuse' calls' : Int} {down' : Bool} (hj : j = 6 ∧ v = .int .i64 fuse' ∧ calls' = calls ∧ down' = down ∨ j = 8 ∧ v = .int .i64 calls' ∧ fuse' = fuse ∧ down' = down ∨ j = 9 ∧ v = .bool down' ∧ fuse' = fuse ∧ calls' = calls) :
    DkR (h.app (.sets d j [v])) n d o ka pa fl ps fuse' keep calls' down' := by
  have hne : ∀ i, i ≠ j → ∀ {w}, h.cell d i = w → (h.app (.sets d j [v])).cell d i = w := fun i hi w hw => c_out (.inr (by simp only [List.length_cons, List.length_nil]; omega)) hw
  have heq : (h.app (.sets d j [v])).cell d j = v := c_in (Nat.le_refl _) (by simp)
  have ho : ∀ i, i < 5 → o i = none ∨ sb (o i) ≠ d := fun i hi => (R.od i hi).imp id Ne.symm
  have hsl : ∀ {α : Type} {z m : Nat} {a : Option Addr} {f : Nat → Value}, apd d a → SlR h n a z m f → SlR (h.app (.sets d j [v])) n a z m f := fun {α z m a f} ha s =>
    s.extW (W := fun b => b = d) (ExtW.appSets (.inl rfl) (ExtW.refl _ _ _)) (Nat.le_refl _) (fun q e => (ha.resolve_left q) e.symm)
  refine ⟨R.lt, i_sets R.inf, hne 0 (by omega) R.c0, fun i hi => hne _ (by omega) (R.cf i hi), hne 5 (by omega) R.c5, ?_, hne 7 (by omega) R.c7, ?_, ?_, fun i hi => (R.fo i hi).setsN (ho i (by omega)), R.lo.setsN (ho 4 (by omega)), hsl (α := Nat) (R.dg ka (by simp)) R.ks,
    fun i p hp hc => hsl (α := Nat) (R.dg _ (R.gmem hp)) (R.dat i p hp hc), R.len, R.od, R.oo, R.og, R.dg, R.gl⟩
  · rcases hj with ⟨rfl, rfl, _, _⟩ | ⟨rfl, _, rfl, _⟩ | ⟨rfl, _, rfl, _⟩
    · exact heq
    · exact hne 6 (by omega) R.c6
    · exact hne 6 (by omega) R.c6
  · rcases hj with ⟨rfl, _, rfl, _⟩ | ⟨rfl, rfl, _, _⟩ | ⟨rfl, _, _, rfl⟩
    · exact hne 8 (by omega) R.c8
    · exact heq
    · exact hne 8 (by omega) R.c8
  · rcases hj with ⟨rfl, _, _, rfl⟩ | ⟨rfl, _, _, rfl⟩ | ⟨rfl, rfl, _, _⟩
    · exact hne 9 (by omega) R.c9
    · exact hne 9 (by omega) R.c9
    · exact heq
theorem apt_new {n : Nat} {a a' x : Option Addr} (h : apt a x) (hx : x ≠ none → sb x < n) (hn : a' = a ∨ a' = none ∨ n ≤ sb a') : apt a' x := by
  rcases hn with q | q | q
  · rw [q]; exact h
  · exact .inl q
  · by_cases e : x = none
    · exact .inr (.inl e)
    · have := hx e
      exact .inr (.inr (by omega))
theorem apd_new {n d : Nat} {a a' : Option Addr} (h : apd d a) (hd : d < n) (hn : a' = a ∨ a' = none ∨ n ≤ sb a') : apd d a' := by
  rcases hn with q | q | q
  · rw [q]; exact h
  · exact .inl q
  · exact .inr (by omega)
theorem DkR.ltG (R : DkR h n d o ka pa fl ps fuse keep calls down) {i : Nat} {p : Pc} (hp : ps[i]? = some p) (hc : p.cut = false) (hne : pa.getD i none ≠ none) : sb (pa.getD i none) < n := (R.dat i p hp hc).ltA hne
end
end Go.Proofs.Ytchfnjfmlhacfaa
