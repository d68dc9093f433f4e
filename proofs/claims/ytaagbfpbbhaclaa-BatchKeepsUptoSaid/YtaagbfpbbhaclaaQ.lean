/- Contracts of batches: rows in parts. -/
import Derived.Test.YtaagbfpbbhaclaaN
set_option linter.unusedSimpArgs false
set_option linter.unusedVariables false
namespace Go.Proofs.Ytaagbfpbbhaclaa
open Go.Abs

theorem RowsR.sub {h : AH} {n : Nat} {a : Option Addr} {L : List RowE} (r : RowsR h n a L) {i u : Nat} (hi : i ≤ u) (hu : u ≤ L.length) : RowsR h n (Abs.sub a i) ((L.drop i).take (u - i)) := by
  have e : ((L.drop i).take (u - i)).length = u - i := by rw [List.length_take, List.length_drop]; omega
  refine ⟨?_, fun x hx => r.in_ x (List.mem_of_mem_drop (List.mem_of_mem_take hx))⟩
  have := SlR.sub r.out hi hu
  rw [Nat.mul_one] at this
  rw [e]
  refine this.congr fun j hj => ?_
  simp only [List.getD, List.getElem?_map, List.getElem?_take, List.getElem?_drop]
  rw [if_pos (by omega)]
/-- How many parts. -/
def partsN (size len : Nat) : Nat := (len + size - 1) / size
theorem partsN_lt {size len k : Nat} (hs : 0 < size) : k < partsN size len ↔ k * size < len := by
  unfold partsN
  rw [Nat.lt_div_iff_mul_lt hs]
  omega
/-- Part k of rows. -/
def part {α : Type} (size : Nat) (l : List α) (k : Nat) : List α := (l.drop (k * size)).take size
theorem part_map {α β : Type} (f : α → β) (size : Nat) (l : List α) (k : Nat) : part size (l.map f) k = (part size l k).map f := by simp [part]
theorem part_length {α : Type} (size : Nat) (l : List α) (k : Nat) : (part size l k).length = min size (l.length - k * size) := by simp [part]
theorem part_eq {α : Type} {size : Nat} {l : List α} {k : Nat} : (l.drop (k * size)).take (min (k * size + size) l.length - k * size) = part size l k := by
  unfold part
  by_cases h : k * size + size ≤ l.length
  · rw [Nat.min_eq_left h, show k * size + size - k * size = size by omega]
  · rw [List.take_of_length_le (by rw [List.length_drop]; omega), List.take_of_length_le (by rw [List.length_drop]; omega)]
/-- The parts, as they lie. -/
def partsV (ra : Option Addr) (size : Nat) (rs : List RowE) : List (List Value) := (List.range (partsN size rs.length)).map fun k => [.slice (Abs.sub ra (k * size)) (part size rs k).length (part size rs k).length]
def ChK (b1 b2 : Nat) (ra : Option Addr) (size len : Nat) (n : Nat) (h : AH) : Prop := b1 < n ∧ b2 < n ∧ h.cell b1 0 = .slice ra len len ∧ h.cell b2 0 = .int .i64 (size : Nat) ∧ Shp h n ra 1 len
set_option maxHeartbeats 4000000 in
theorem chunk1_iter (b1 b2 : Nat) (ra : Option Addr) (size : Nat) (rs : List RowE) (hs : 0 < size) (hs2 : size ≤ 2048) (hl : rs.length ≤ 1099511627776) :
    IterF Try.prog 61 [.pointer (some ⟨b1, 0, none⟩), .pointer (some ⟨b2, 0, none⟩)] (partsV ra size rs) (ChK b1 b2 ra size rs.length) := by
  intro W fv I D n h it hK h0 hn
  refine RF.of Try.func61 rfl rfl (Nat.le_of_ble_eq_true rfl) ?_; dsimp only [argEnv]
  repeat' (first | refine stpS ?_ | (refine stp2 ?_ ?_ <;> intro _))
  refine RC.loop ?_
  refine RL.inv (α := Nat) (fun s => [(4, .int .i64 (s * size : Nat)), (1, .pointer (some ⟨b1, 0, none⟩)), (2, .pointer (some ⟨b2, 0, none⟩)), (0, fv)])
    (fun s n1 h1 => s ≤ partsN size rs.length ∧ n ≤ n1 ∧ I s n1 h1) (fun s => partsN size rs.length - s) 0 (by simpa using envs) ⟨Nat.zero_le _, Nat.le_refl _, h0⟩ ?_
  rintro k n1 h1 ⟨hk, hn1, hI⟩
  obtain ⟨q1, q2, q3, q4, S⟩ := hK k n1 h1 hI
  have hlt := partsN_lt (size := size) (len := rs.length) (k := k) hs
  by_cases hkl : k < partsN size rs.length
  · have hks := hlt.1 hkl
    have hpos : 0 < rs.length := by omega
    have hsb : sb ra < n1 := S.lt hpos
    have hI1 : SlI h1 ra 1 rs.length := SlI.ofS S (Ext.refl _ _)
    obtain ⟨hra, -, mm, hmm, hsz⟩ := S.out.resolve_left (fun q => by omega)
    have hv : (partsV ra size rs)[k]? = some [.slice (Abs.sub ra (k * size)) (part size rs k).length (part size rs k).length] := by
      simp [partsV, List.getElem?_range hkl]
    have hpl := part_length size rs k
    have hval := it.step k _ n1 h1 hv hI
    have hsucc : (k + 1) * size = k * size + size := by rw [Nat.add_mul, Nat.one_mul]
    have hmeas : partsN size rs.length - (k + 1) < partsN size rs.length - k := by omega
    have hkb : k * size ≤ 1099511627776 := by omega
    generalize hp : k * size = p at *
    generalize hp2 : (k + 1) * size = p2 at *
    repeat' (first | refine stpS ?_ | (refine stp2 ?_ ?_ <;> intro _))
    repeat' (first | refine stp ?_ | (refine stp2 ?_ ?_ <;> intro _))
    have e1 : (p : Int) + min (size : Int) ((rs.length - ((p : Nat) : Int).toNat : Nat) : Int) = ((min (p + size) rs.length : Nat) : Int) := by omega
    rw [e1]
    refine RS.slice3 (l := p) (u := min (p + size) rs.length) rfl opd opd opd opd S (by omega) (Nat.min_le_right _ _) ?_
    rw [Nat.mul_one, show min (p + size) rs.length - p = (part size rs k).length by rw [hpl]; omega]
    refine RS.callV rfl opd opds hval (fun b hb => .inl hb) ?_
    rintro r n2 h2 hle (⟨rfl, hI2⟩ | ⟨rfl, hD⟩)
    · obtain ⟨q1, q2, q3, q4, -⟩ := hK (k + 1) n2 h2 hI2
      repeat' (first | refine stpS ?_ | (refine stp2 ?_ ?_ <;> intro _))
      refine nextC.normal ⟨k + 1, hmeas, by rw [hp2, hsucc, Int.natCast_add]; exact envs, by omega, by omega, hI2⟩
    · repeat' (first | refine stpS ?_ | (refine stp2 ?_ ?_ <;> intro _))
      exact .inr hD
  · have hks : ¬ k * size < rs.length := fun q => hkl (hlt.2 q)
    have hkb : (partsN size rs.length : Nat) = k := by omega
    repeat' (first | refine stpS ?_ | (refine stp2 ?_ ?_ <;> intro _))
    rw [show (partsV ra size rs).length = k by simp [partsV, hkb]]
    exact .inl hI
end Go.Proofs.Ytaagbfpbbhaclaa
