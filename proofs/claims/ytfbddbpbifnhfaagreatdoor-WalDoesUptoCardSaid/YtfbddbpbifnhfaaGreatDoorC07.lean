/- Contracts and laws that a statement of this seat is proved by (part 7). -/
import Derived.Test.YtfbddbpbifnhfaaGreatDoorC06
import Derived.Test.YtfbddbpbifnhfaaGreatDoorRows
set_option linter.unusedSimpArgs false
set_option linter.unusedVariables false
/- Contracts of wal: the log of another generation is begun. -/
namespace Go.Proofs.YtfbddbpbifnhfaaGreatDoor
open Go.Abs Cd

def resetP (X : LS) (g : Int) : Int × LS :=
  if ¬ may g then (1, X) else
  if (cutD X.S 0).1 ≠ 0 then ((cutD X.S 0).1, { X with S := (cutD X.S 0).2 }) else (0, ⟨(cutD X.S 0).2, g, [], 0⟩)
section
variable {h h1 : AH} {n n1 lg d : Nat} {F G B T : Nat → Prop} {a : Option Addr} {N : List CmA} {X : LS}
theorem LgR.clear (R : LgR h n lg d F G a N B X) (g : Int) (hg : may g) (e : ExtW (fun b => b = lg) n h h1) (c1 : h1.cell lg 1 = .int .i64 g) (c2 : h1.cell lg 2 = .slice none 0 0) (c3 : h1.cell lg 3 = .int .i64 0) (c0 : h1.cell lg 0 = .pointer (some ⟨d, 0, none⟩)) (i1 : h1.info lg = some ⟨4, 0, true, 0⟩) :
    LgR h1 n lg d F G none [] (fun _ => False) ⟨X.S, g, [], 0⟩ := by
  obtain ⟨l1, l2, l3⟩ := R.lF
  exact ⟨R.dk.extW e (Nat.le_refl _) (fun b q z => l1 (z ▸ q)) (fun b q z => l2 (z ▸ q)), R.hi, i1, c0, c1, c2, c3, OwnSl.nil (Nat.zero_le _), rfl, fun x hx => (by cases hx), fun b q => False.elim q, ⟨l1, l2, fun q => q.1 rfl⟩, fun b q => absurd rfl q.1, hg, Nat.le_refl _, Nat.zero_le _⟩
set_option maxHeartbeats 4000000 in
theorem reset_rf (R : Lg h n lg d T X) (g : Int) (hps : X.S.ps.length ≤ 1099511000000) (hcl : X.S.calls < 4611686018427387900) (hn0 : 0 < n) :
    RF Tryz.prog T 23 #[.pointer (some ⟨lg, 0, none⟩), .int .i64 g] n h (fun r n' h' => r = .int .i64 (resetP X g).1 ∧ LgTo n lg d T h (resetP X g).2 n' h') := by
  refine RF.of Tryz.func23 rfl rfl (Nat.le_of_ble_eq_true rfl) ?_; dsimp only [argEnv]
  obtain ⟨F, G, a, N, B, R, rfl⟩ := R
  have hlt := R.hi
  have c0 := R.c0
  have hmg := may_ev g n h
  have hD : resetP X g = if ¬ may g then (1, X) else if (cutD X.S 0).1 ≠ 0 then ((cutD X.S 0).1, { X with S := (cutD X.S 0).2 }) else (0, ⟨(cutD X.S 0).2, g, [], 0⟩) := rfl
  have hTl : LgT lg F G a B lg := .inr (.inr (.inl rfl))
  repeat' (first | refine stpS ?_ | (refine stp2 ?_ ?_ <;> intro _))
  refine RS.call1 rfl opds (none_ev hlt c0) none'W ?_
  by_cases pg : may g
  rotate_left
  · rw [if_pos pg] at hD
    rw [decide_eq_false pg] at hmg
    repeat' (first | refine stpS ?_ | (refine stp2 ?_ ?_ <;> intro _))
    refine RS.call1 rfl opds hmg none'W ?_
    repeat' (first | refine stpS ?_ | (refine stp2 ?_ ?_ <;> intro _))
    rw [hD]
    exact ⟨rfl, (Lg.to ⟨F, G, a, N, B, R, rfl⟩)⟩
  rw [if_neg (fun z => z pg)] at hD
  rw [decide_eq_true pg] at hmg
  have hcut : cutD X.S 0 = if (X.S.truncate 1 0).1 ≠ 0 then X.S.truncate 1 0 else (X.S.truncate 1 0).2.sync 1 := rfl
  obtain ⟨tb1, tb2⟩ := trunc_b X.S 1 0
  have htr := Dk.truncate_dk R.dk (by omega) (by omega) 1 0
  obtain ⟨t, ht⟩ : ∃ t, t = X.S.truncate 1 0 := ⟨_, rfl⟩
  rw [← ht] at hcut tb1 tb2 htr
  clear ht
  obtain ⟨t1, t2⟩ := t
  dsimp only at hcut tb1 tb2 htr
  repeat' (first | refine stpS ?_ | (refine stp2 ?_ ?_ <;> intro _))
  refine RS.call1 rfl opds hmg none'W ?_
  repeat' (first | refine stpS ?_ | (refine stp2 ?_ ?_ <;> intro _))
  refine RS.call rfl opds htr (fun x hx => .inl (.inl hx)) ?_
  rintro r n4 h4 k4 ⟨rfl, F4, G4, D4, hF4, hG4, e4⟩
  have R4 := R.diskR D4 hF4 hG4 e4 k4
  have hto : ∀ {S' : Dk.DS} {F' G' : Nat → Prop} {n' : Nat} {h' : AH}, LgR h' n' lg d F' G' a N B { X with S := S' } → (∀ x, x < n → F' x → F x) → (∀ x, x < n → G' x → G x) → ExtW F n h h' → LgTo n lg d (LgT lg F G a B) h { X with S := S' } n' h' := fun R' hF' hG' e' => by
    refine ⟨_, ⟨_, _, a, N, B, R', rfl⟩, ?_, e'.mono (Nat.le_refl _) (fun b _ q => .inl q)⟩
    rintro b hb (q | q | q)
    · exact .inl (hF' b hb q)
    · exact .inr (.inl (hG' b hb q))
    · exact .inr (.inr q)
  by_cases pt : t1 = 0
  rotate_left
  · rw [if_pos pt] at hcut
    rw [hcut] at hD
    dsimp only at hD
    rw [if_pos pt] at hD
    repeat' (first | refine stpS ?_ | (refine stp2 ?_ ?_ <;> intro _))
    rw [hD]
    exact ⟨rfl, hto R4 hF4 hG4 e4⟩
  rw [if_neg (fun z => z pt)] at hcut
  subst pt
  have hsy := Dk.sync_dk D4 (by omega) (by omega) 1
  obtain ⟨y, hy⟩ : ∃ y, y = t2.sync 1 := ⟨_, rfl⟩
  rw [← hy] at hcut hsy
  clear hy
  obtain ⟨y1, y2⟩ := y
  dsimp only at hcut hsy
  rw [hcut] at hD
  dsimp only at hD
  have hlt4 := R4.hi
  have c04 := R4.c0
  repeat' (first | refine stpS ?_ | (refine stp2 ?_ ?_ <;> intro _))
  refine RS.call rfl opds hsy (fun x hx => ?_) ?_
  · by_cases w : x < n
    · exact .inl (.inl (hF4 x w hx))
    · exact .inr (by omega)
  rintro r n5 h5 k5 ⟨rfl, F5, G5, D5, hF5, hG5, e5⟩
  have R5 := R4.diskR D5 hF5 hG5 e5 k5
  have e5' : ExtW F n h h5 := e4.trans e5 (by omega) (fun x hx q => hF4 x (by omega) q)
  have hF5' : ∀ x, x < n → F5 x → F x := fun x hx q => hF4 x hx (hF5 x (by omega) q)
  have hG5' : ∀ x, x < n → G5 x → G x := fun x hx q => hG4 x hx (hG5 x (by omega) q)
  by_cases py : y1 = 0
  rotate_left
  · rw [if_pos py] at hD
    repeat' (first | refine stpS ?_ | (refine stp2 ?_ ?_ <;> intro _))
    rw [hD]
    exact ⟨rfl, hto R5 hF5' hG5' e5'⟩
  rw [if_neg (fun z => z py)] at hD
  subst py
  have hlt5 := R5.hi
  have i5 := R5.inf
  have c05 := R5.c0
  repeat' (first | refine stpS ?_ | (refine stp2 ?_ ?_ <;> intro _))
  rw [hD]
  refine ⟨rfl, _, ⟨F5, G5, none, [], fun _ => False, R5.clear g pg ?_ cell cell cell cell info, rfl⟩, ?_, ?_⟩
  · exact ExtW.appSets (.inl rfl) (ExtW.appSets (.inl rfl) (ExtW.appSets (.inl rfl) (ExtW.refl _ _ _)))
  · rintro b hb (q | q | q | q | q)
    · exact .inl (hF5' b hb q)
    · exact .inr (.inl (hG5' b hb q))
    · exact .inr (.inr (.inl q))
    · exact absurd rfl q.1
    · exact False.elim q
  · exact ExtW.appSets (.inl hTl) (ExtW.appSets (.inl hTl) (ExtW.appSets (.inl hTl) (e5'.mono (Nat.le_refl _) (fun b _ q => .inl q))))
end
end Go.Proofs.YtfbddbpbifnhfaaGreatDoor

/- Contracts of wal: the document's log of another generation is begun. -/
namespace Go.Proofs.YtfbddbpbifnhfaaGreatDoor
open Go.Abs Cd

section
variable {h h1 : AH} {n n1 lg d : Nat} {F G B T : Nat → Prop} {a : Option Addr} {N : List CmA} {X : LS}
theorem RgR.clear (R : RgR h n lg d F G a N B X) (g : Int) (hg : may g) (e : ExtW (fun b => b = lg) n h h1) (c1 : h1.cell lg 1 = .int .i64 g) (c2 : h1.cell lg 2 = .slice none 0 0) (c3 : h1.cell lg 3 = .int .i64 0) (c0 : h1.cell lg 0 = .pointer (some ⟨d, 0, none⟩)) (i1 : h1.info lg = some ⟨4, 0, true, 0⟩) :
    RgR h1 n lg d F G none [] (fun _ => False) ⟨X.S, g, [], 0⟩ := by
  obtain ⟨l1, l2, l3⟩ := R.lF
  exact ⟨R.dk.extW e (Nat.le_refl _) (fun b q z => l1 (z ▸ q)) (fun b q z => l2 (z ▸ q)), R.hi, i1, c0, c1, c2, c3, OwnSl.nil (Nat.zero_le _), rfl, fun x hx => (by cases hx), fun b q => False.elim q, ⟨l1, l2, fun q => q.1 rfl⟩, fun b q => absurd rfl q.1, hg, Nat.le_refl _, Nat.zero_le _⟩
set_option maxHeartbeats 4000000 in
theorem refReset_rf (R : Rg h n lg d T X) (g : Int) (hps : X.S.ps.length ≤ 1099511000000) (hcl : X.S.calls < 4611686018427387900) (hn0 : 0 < n) :
    RF Tryz.prog T 24 #[.pointer (some ⟨lg, 0, none⟩), .int .i64 g] n h (fun r n' h' => r = .int .i64 (resetP X g).1 ∧ RgTo n lg d T h (resetP X g).2 n' h') := by
  refine RF.of Tryz.func24 rfl rfl (Nat.le_of_ble_eq_true rfl) ?_; dsimp only [argEnv]
  obtain ⟨F, G, a, N, B, R, rfl⟩ := R
  have hlt := R.hi
  have c0 := R.c0
  have hmg := refMay_ev g n h
  have hD : resetP X g = if ¬ may g then (1, X) else if (cutD X.S 0).1 ≠ 0 then ((cutD X.S 0).1, { X with S := (cutD X.S 0).2 }) else (0, ⟨(cutD X.S 0).2, g, [], 0⟩) := rfl
  have hTl : RgT lg F G a B lg := .inr (.inr (.inl rfl))
  by_cases pg : may g
  rotate_left
  · rw [if_pos pg] at hD
    rw [decide_eq_false pg] at hmg
    repeat' (first | refine stpS ?_ | (refine stp2 ?_ ?_ <;> intro _))
    refine RS.call1 rfl opds hmg none'W ?_
    repeat' (first | refine stpS ?_ | (refine stp2 ?_ ?_ <;> intro _))
    rw [hD]
    exact ⟨rfl, (Rg.to ⟨F, G, a, N, B, R, rfl⟩)⟩
  rw [if_neg (fun z => z pg)] at hD
  rw [decide_eq_true pg] at hmg
  have hcut : cutD X.S 0 = if (X.S.truncate 1 0).1 ≠ 0 then X.S.truncate 1 0 else (X.S.truncate 1 0).2.sync 1 := rfl
  obtain ⟨tb1, tb2⟩ := trunc_b X.S 1 0
  have htr := Dk.rtruncate_rk R.dk (by omega) (by omega) 1 0 (by omega)
  obtain ⟨t, ht⟩ : ∃ t, t = X.S.truncate 1 0 := ⟨_, rfl⟩
  rw [← ht] at hcut tb1 tb2 htr
  clear ht
  obtain ⟨t1, t2⟩ := t
  dsimp only at hcut tb1 tb2 htr
  repeat' (first | refine stpS ?_ | (refine stp2 ?_ ?_ <;> intro _))
  refine RS.call1 rfl opds hmg none'W ?_
  repeat' (first | refine stpS ?_ | (refine stp2 ?_ ?_ <;> intro _))
  refine RS.call rfl opds htr (fun x hx => .inl (.inl hx)) ?_
  rintro r n4 h4 k4 ⟨rfl, F4, G4, D4, hF4, hG4, e4⟩
  have R4 := R.diskR D4 hF4 hG4 e4 k4
  have hto : ∀ {S' : Dk.DS} {F' G' : Nat → Prop} {n' : Nat} {h' : AH}, RgR h' n' lg d F' G' a N B { X with S := S' } → (∀ x, x < n → F' x → F x) → (∀ x, x < n → G' x → G x) → ExtW F n h h' → RgTo n lg d (RgT lg F G a B) h { X with S := S' } n' h' := fun R' hF' hG' e' => by
    refine ⟨_, ⟨_, _, a, N, B, R', rfl⟩, ?_, e'.mono (Nat.le_refl _) (fun b _ q => .inl q)⟩
    rintro b hb (q | q | q)
    · exact .inl (hF' b hb q)
    · exact .inr (.inl (hG' b hb q))
    · exact .inr (.inr q)
  by_cases pt : t1 = 0
  rotate_left
  · rw [if_pos pt] at hcut
    rw [hcut] at hD
    dsimp only at hD
    rw [if_pos pt] at hD
    repeat' (first | refine stpS ?_ | (refine stp2 ?_ ?_ <;> intro _))
    rw [hD]
    exact ⟨rfl, hto R4 hF4 hG4 e4⟩
  rw [if_neg (fun z => z pt)] at hcut
  subst pt
  have hsy := Dk.rsync_rk D4 (by omega) (by omega) 1
  obtain ⟨y, hy⟩ : ∃ y, y = t2.sync 1 := ⟨_, rfl⟩
  rw [← hy] at hcut hsy
  clear hy
  obtain ⟨y1, y2⟩ := y
  dsimp only at hcut hsy
  rw [hcut] at hD
  dsimp only at hD
  have hlt4 := R4.hi
  have c04 := R4.c0
  repeat' (first | refine stpS ?_ | (refine stp2 ?_ ?_ <;> intro _))
  refine RS.call rfl opds hsy (fun x hx => ?_) ?_
  · by_cases w : x < n
    · exact .inl (.inl (hF4 x w hx))
    · exact .inr (by omega)
  rintro r n5 h5 k5 ⟨rfl, F5, G5, D5, hF5, hG5, e5⟩
  have R5 := R4.diskR D5 hF5 hG5 e5 k5
  have e5' : ExtW F n h h5 := e4.trans e5 (by omega) (fun x hx q => hF4 x (by omega) q)
  have hF5' : ∀ x, x < n → F5 x → F x := fun x hx q => hF4 x hx (hF5 x (by omega) q)
  have hG5' : ∀ x, x < n → G5 x → G x := fun x hx q => hG4 x hx (hG5 x (by omega) q)
  by_cases py : y1 = 0
  rotate_left
  · rw [if_pos py] at hD
    repeat' (first | refine stpS ?_ | (refine stp2 ?_ ?_ <;> intro _))
    rw [hD]
    exact ⟨rfl, hto R5 hF5' hG5' e5'⟩
  rw [if_neg (fun z => z py)] at hD
  subst py
  have hlt5 := R5.hi
  have i5 := R5.inf
  have c05 := R5.c0
  repeat' (first | refine stpS ?_ | (refine stp2 ?_ ?_ <;> intro _))
  rw [hD]
  refine ⟨rfl, _, ⟨F5, G5, none, [], fun _ => False, R5.clear g pg ?_ cell cell cell cell info, rfl⟩, ?_, ?_⟩
  · exact ExtW.appSets (.inl rfl) (ExtW.appSets (.inl rfl) (ExtW.appSets (.inl rfl) (ExtW.refl _ _ _)))
  · rintro b hb (q | q | q | q | q)
    · exact .inl (hF5' b hb q)
    · exact .inr (.inl (hG5' b hb q))
    · exact .inr (.inr (.inl q))
    · exact absurd rfl q.1
    · exact False.elim q
  · exact ExtW.appSets (.inl hTl) (ExtW.appSets (.inl hTl) (ExtW.appSets (.inl hTl) (e5'.mono (Nat.le_refl _) (fun b _ q => .inl q))))
end
end Go.Proofs.YtfbddbpbifnhfaaGreatDoor

/- What the arguments of wal's laws read as. -/
namespace Go.Proofs.YtfbddbpbifnhfaaGreatDoor
open Go.Abs Go.RowKit Cd

structure OpE where
  do_ : Int
  ra : Option Addr
  rl : List (Option Addr × List UInt8)
  many : Nat
  gen : Int
  at_ : Nat
  num : Int
  ka : Option Addr
  keep : List Bool
def OpE.cells (x : OpE) : List Value := [.int .i64 x.do_, .slice x.ra x.rl.length x.rl.length, .int .u16 (x.many : Nat), .int .i64 x.gen, .int .u16 (x.at_ : Nat), .int .i64 x.num, .slice x.ka x.keep.length x.keep.length]
def j64 (x : Int) : Prop := -9223372036854775808 ≤ x ∧ x ≤ 9223372036854775807
structure RecR (h : AH) (n : Nat) (a : Option Addr) (L : List (Option Addr × List UInt8)) (m : Nat) : Prop where
  out : SlR h n a 1 L.length (fun j => (L.map rowV).getD j (.tuple #[]))
  row : ∀ x ∈ L, SlB h n x.1 x.2 ∧ x.2.length ≤ m
  le : L.length ≤ m
structure OpE.Ok (x : OpE) (h : AH) (n : Nat) (m : Nat) : Prop where
  do_ : j64 x.do_
  recs : RecR h n x.ra x.rl m
  many : x.many < 65536
  gen : j64 x.gen
  at_ : x.at_ < 65536
  num : j64 x.num
  keep : SlT h n x.ka x.keep
  kl : x.keep.length ≤ m
theorem RecR.ext {h h' : AH} {n n' m : Nat} {a : Option Addr} {L : List (Option Addr × List UInt8)} (B : RecR h n a L m) (E : Ext n h h') (hn : n ≤ n') : RecR h' n' a L m :=
  ⟨B.out.ext E hn, fun x hx => ⟨(B.row x hx).1.ext E hn, (B.row x hx).2⟩, B.le⟩
theorem RecR.mono {h : AH} {n m m' : Nat} {a : Option Addr} {L : List (Option Addr × List UInt8)} (B : RecR h n a L m) (hm : m ≤ m') : RecR h n a L m' :=
  ⟨B.out, fun x hx => ⟨(B.row x hx).1, by have := (B.row x hx).2; omega⟩, by have := B.le; omega⟩
theorem RecR.slq {h : AH} {n m : Nat} {a : Option Addr} {L : List (Option Addr × List UInt8)} (B : RecR h n a L m) : SlQ h n a (fun j => (L.getD j (none, [])).1) (L.map (·.2)) := by
  have hg : ∀ j, j < L.length → L.getD j (none, []) ∈ L ∧ (L.map (·.2)).getD j [] = (L.getD j (none, [])).2 ∧ (L.map rowV).getD j (.tuple #[]) = rowV (L.getD j (none, [])) := fun j hj => by
    refine ⟨?_, ?_, ?_⟩
    · rw [List.getD_eq_getElem?_getD, List.getElem?_eq_getElem hj]; exact List.getElem_mem hj
    · simp [List.getD, List.getElem?_eq_getElem hj]
    · simp [List.getD, List.getElem?_eq_getElem hj]
  refine ⟨?_, fun j hj => ?_⟩
  · rw [List.length_map]
    refine B.out.congr fun j hj => ?_
    obtain ⟨-, k2, k3⟩ := hg j (by simpa using hj)
    rw [k3]
    show _ = Value.slice _ ((L.map (·.2)).getD j []).length ((L.map (·.2)).getD j []).length
    rw [k2]; rfl
  · rw [List.length_map] at hj
    obtain ⟨k1, k2, -⟩ := hg j hj
    rw [k2]
    exact (B.row _ k1).1
theorem OpE.Ok.ext {h h' : AH} {n n' m : Nat} {x : OpE} (B : x.Ok h n m) (E : Ext n h h') (hn : n ≤ n') : x.Ok h' n' m :=
  ⟨B.do_, B.recs.ext E hn, B.many, B.gen, B.at_, B.num, B.keep.ext E hn, B.kl⟩
structure OpsRep (h : AH) (n : Nat) (a : Option Addr) (L : List OpE) (m : Nat) : Prop where
  shp : Shp h n a 7 L.length
  at_ : ∀ (i : Nat) (x : OpE), L[i]? = some x → (h.cell (sb a) (so a + i * 7) = .int .i64 x.do_ ∧ h.cell (sb a) (so a + i * 7 + 1) = .slice x.ra x.rl.length x.rl.length ∧ h.cell (sb a) (so a + i * 7 + 2) = .int .u16 (x.many : Nat) ∧ h.cell (sb a) (so a + i * 7 + 3) = .int .i64 x.gen ∧ h.cell (sb a) (so a + i * 7 + 4) = .int .u16 (x.at_ : Nat) ∧ h.cell (sb a) (so a + i * 7 + 5) = .int .i64 x.num ∧ h.cell (sb a) (so a + i * 7 + 6) = .slice x.ka x.keep.length x.keep.length) ∧ x.Ok h n m
theorem OpsRep.ext {h h' : AH} {n n' m : Nat} {a : Option Addr} {L : List OpE} (B : OpsRep h n a L m) (E : Ext n h h') (hn : n ≤ n') : OpsRep h' n' a L m := by
  refine ⟨B.shp.ext E hn, fun i x hx => ?_⟩
  obtain ⟨⟨h0, h1, h2, h3, h4, h5, h6⟩, ok⟩ := B.at_ i x hx
  have hi : i < L.length := (List.getElem?_eq_some_iff.1 hx).1
  have hb : sb a < n := B.shp.lt (by omega)
  exact ⟨⟨(E.cell _ _ hb).trans h0, (E.cell _ _ hb).trans h1, (E.cell _ _ hb).trans h2, (E.cell _ _ hb).trans h3, (E.cell _ _ hb).trans h4, (E.cell _ _ hb).trans h5, (E.cell _ _ hb).trans h6⟩, ok.ext E hn⟩
section
variable {H : Type}
theorem bulk_one (d : DataW H) : 1 ≤ Rows.uptoBulk d := by
  cases d with
  | lit l => cases l <;> simp [Rows.uptoBulk]
  | _ => simp [Rows.uptoBulk]
theorem bulk_mem {d : DataW H} {l : List (DataW H)} (h : d ∈ l) : Rows.uptoBulk d ≤ Rows.uptoBulkAll l := by
  induction l with
  | nil => cases h
  | cons x r ih =>
    simp only [Rows.uptoBulkAll]
    rcases List.mem_cons.1 h with e | e
    · subst e; omega
    · have := ih e; omega
theorem bulk_len (l : List (DataW H)) : l.length ≤ Rows.uptoBulkAll l := by
  induction l with
  | nil => simp
  | cons x r ih => have := bulk_one x; simp only [Rows.uptoBulkAll, List.length_cons]; omega
theorem bulk_elems {d : DataW H} {elems spare : List (DataW H)} (h : (d = .nil ∧ elems = []) ∨ d = .slice elems spare) : elems.length ≤ Rows.uptoBulk d := by
  rcases h with ⟨_, rfl⟩ | rfl
  · simp
  · have := bulk_len elems
    simp only [Rows.uptoBulk]; omega
theorem bulk_elem {d x : DataW H} {elems spare : List (DataW H)} (h : (d = .nil ∧ elems = []) ∨ d = .slice elems spare) (hx : x ∈ elems) : Rows.uptoBulk x ≤ Rows.uptoBulk d := by
  rcases h with ⟨_, rfl⟩ | rfl
  · cases hx
  · have := bulk_mem hx
    simp only [Rows.uptoBulk]; omega
theorem bulk_part {x : DataW H} {parts : List (DataW H)} (hx : x ∈ parts) : Rows.uptoBulk x ≤ Rows.uptoBulk (.agg parts) := by
  have := bulk_mem hx
  simp only [Rows.uptoBulk]; omega
variable {h : AH} {n : Nat} {d : DataW H} {a : Value}
theorem int_of {x : Int} (w : (Lit.int .i64 x).wf = true) : j64 x := by
  simp [Lit.wf, IntKind.min, IntKind.max, IntKind.signed, IntKind.bits] at w
  exact ⟨w.1, by omega⟩
theorem u16_of {x : Int} (w : (Lit.int .u16 x).wf = true) : ∃ k : Nat, x = (k : Nat) ∧ k < 65536 := by
  simp [Lit.wf, IntKind.min, IntKind.max, IntKind.signed, IntKind.bits] at w
  exact ⟨x.toNat, by omega, by omega⟩
set_option maxRecDepth 100000 in
theorem bytes_cells {cs : List Value} (lo : Low n h) (r : RepD Tryz.prog h 41 cs d) : ∃ x : Option Addr × List UInt8, cs = [rowV x] ∧ SlB h n x.1 x.2 ∧ x.2.length ≤ Rows.uptoBulk d := by
  obtain ⟨b, l, elems, spare, e2, e3, e4, S⟩ := RepD.bytes_ lo Tryz.underlying41 Tryz.underlying5 (by kernel_rfl) r
  have k1 := bulk_elems e3
  exact ⟨(b, l), e2, S, by dsimp only; omega⟩
set_option maxRecDepth 100000 in
theorem recs_cells {cs : List Value} (lo : Low n h) (r : RepD Tryz.prog h 33 cs d) : ∃ (c : Option Addr) (L : List (Option Addr × List UInt8)), cs = [.slice c L.length L.length] ∧ RecR h n c L (Rows.uptoBulk d) := by
  obtain ⟨c, L, elems, spare, e1, e2, e3, S, hx⟩ := RepD.list_ (fun cs d (x : Option Addr × List UInt8) => cs = [rowV x] ∧ SlB h n x.1 x.2 ∧ x.2.length ≤ Rows.uptoBulk d) lo Tryz.underlying33 (fun cs d r => bytes_cells lo r) r
  have hz : Tryz.prog.cellsOf 41 = 1 := by kernel_rfl
  rw [hz] at S hx
  have k1 := bulk_elems e2
  refine ⟨c, L, e1, ⟨?_, fun e he => ?_, by omega⟩⟩
  · refine S.congr fun j hj => ?_
    obtain ⟨_, _, q, _⟩ := hx j L[j] (by simp [show j < L.length by omega])
    have q' : [h.cell (sb c) (so c + j)] = [rowV L[j]] := by rw [← q, elC_one]
    simp only [List.cons.injEq, and_true] at q'
    rw [q']
    simp [List.getD, show j < L.length by omega]
  · obtain ⟨i, hi⟩ := List.getElem?_of_mem he
    obtain ⟨d', hd, _, q1, q2⟩ := hx i e hi
    have := bulk_elem e2 (List.mem_of_getElem? hd)
    exact ⟨q1, by omega⟩
set_option maxRecDepth 100000 in
theorem op_cells {cs : List Value} (lo : Low n h) (r : RepD Tryz.prog h 37 cs d) : ∃ x : OpE, cs = x.cells ∧ x.Ok h n (Rows.uptoBulk d) := by
  obtain ⟨parts, rfl, h1, h2, h3⟩ := r.struct_ Tryz.underlying37
  have h1 : cs.length = 7 := h1
  match parts, h2 with
  | [d1, d2, d3, d4, d5, d6, d7], _ =>
    match cs, h1 with
    | [c1, c2, c3, c4, c5, c6, c7], _ =>
      have r1 := h3 0 _ d1 rfl rfl
      have r2 := h3 1 _ d2 rfl rfl
      have r3 := h3 2 _ d3 rfl rfl
      have r4 := h3 3 _ d4 rfl rfl
      have r5 := h3 4 _ d5 rfl rfl
      have r6 := h3 5 _ d6 rfl rfl
      have r7 := h3 6 _ d7 rfl rfl
      obtain ⟨N1, e1, _, w1⟩ := RepD.int_ Tryz.underlying3 r1
      obtain ⟨c, L, e2, q2⟩ := recs_cells lo r2
      obtain ⟨N3, e3, _, w3⟩ := RepD.int_ Tryz.underlying34 r3
      obtain ⟨N4, e4, _, w4⟩ := RepD.int_ Tryz.underlying2 r4
      obtain ⟨N5, e5, _, w5⟩ := RepD.int_ Tryz.underlying34 r5
      obtain ⟨N6, e6, _, w6⟩ := RepD.int_ Tryz.underlying3 r6
      obtain ⟨b7, l7, elems7, spare7, e7, q7, _, S7⟩ := RepD.bools_ lo Tryz.underlying35 Tryz.underlying4 (by kernel_rfl) r7
      have e1' : [c1] = [.int .i64 N1] := e1
      have e2' : [c2] = [.slice c L.length L.length] := e2
      have e3' : [c3] = [.int .u16 N3] := e3
      have e4' : [c4] = [.int .i64 N4] := e4
      have e5' : [c5] = [.int .u16 N5] := e5
      have e6' : [c6] = [.int .i64 N6] := e6
      have e7' : [c7] = [.slice b7 l7.length l7.length] := e7
      cases e1'; cases e2'; cases e3'; cases e4'; cases e5'; cases e6'; cases e7'
      obtain ⟨m3, rfl, hm3⟩ := u16_of w3
      obtain ⟨m5, rfl, hm5⟩ := u16_of w5
      have k2 : Rows.uptoBulk d2 ≤ Rows.uptoBulk (.agg [d1, d2, d3, d4, d5, d6, d7]) := bulk_part (by simp)
      have k7 := bulk_elems q7
      have k7' : Rows.uptoBulk d7 ≤ Rows.uptoBulk (.agg [d1, d2, d3, d4, d5, d6, d7]) := bulk_part (by simp)
      exact ⟨⟨N1, c, L, m3, N4, m5, N6, b7, l7⟩, rfl, int_of w1, q2.mono k2, hm3, int_of w4, hm5, int_of w6, S7, by dsimp only; omega⟩
set_option maxRecDepth 100000 in
theorem ops_arg (lo : Low n h) (r : RepA Tryz.prog h 22 a d) : ∃ (c : Option Addr) (L : List OpE), a = .slice c L.length L.length ∧ OpsRep h n c L (Rows.uptoBulk d) ∧ L.length ≤ Rows.uptoBulk d := by
  obtain ⟨c, L, elems, spare, e1, e2, e3, S, hx⟩ := RepD.list_ (fun cs d (x : OpE) => cs = x.cells ∧ x.Ok h n (Rows.uptoBulk d)) lo Tryz.underlying22 (fun cs d r => op_cells lo r) (RepA.one Tryz.underlying22 (by intro fs h; cases h) r)
  cases e1
  have hz : Tryz.prog.cellsOf 37 = 7 := by kernel_rfl
  rw [hz] at S hx
  have k1 := bulk_elems e2
  refine ⟨c, L, rfl, ⟨Shp.of S, fun i x hi => ?_⟩, by omega⟩
  obtain ⟨d', hd, q1, q2⟩ := hx i x hi
  have kb := bulk_elem e2 (List.mem_of_getElem? hd)
  simp only [elC, List.range_succ, List.range_zero, List.nil_append, List.map_append, List.map_cons, List.map_nil, List.cons_append, OpE.cells, List.cons.injEq, and_true] at q1
  exact ⟨q1, q2.do_, q2.recs.mono kb, q2.many, q2.gen, q2.at_, q2.num, q2.keep, by have := q2.kl; omega⟩
end
end Go.Proofs.YtfbddbpbifnhfaaGreatDoor

/- The plain law of a log behind a crash. -/
namespace Go.Proofs.YtfbddbpbifnhfaaGreatDoor
open Go.Abs Cd

theorem zeros_length (k : Nat) : (zeros k).length = k := List.length_replicate
def Left (gen : Int) (M : List (List (List UInt8))) (b : List UInt8) : Prop := ∃ r, b = logB gen 0 M ++ r ∧ r.take 512 = zeros (min 512 r.length)
structure Up (X : LS) : Prop where
  ps : X.S.ps = []
  down : X.S.down = false
  sure : X.S.sure 1 = logB X.gen 0 X.L
  e : X.e = (logB X.gen 0 X.L).length
  ok : ∀ l ∈ X.L, okC l
  gm : may X.gen
  le : X.L.length ≤ 1099511627776
end Go.Proofs.YtfbddbpbifnhfaaGreatDoor

/- Contracts of wal: an operation's records. -/
namespace Go.Proofs.YtfbddbpbifnhfaaGreatDoor
open Go.Abs Cd

def recsE (x : OpE) (a0 : Option Addr) : List (Option Addr × List UInt8) :=
  match x.rl with
  | [] => []
  | r :: rs => (a0, r.2 ++ zeros (x.many % 3000)) :: rs
def recsOf (x : OpE) : List (List UInt8) := (recsE x none).map (·.2)
theorem recsE_len (x : OpE) (a0 : Option Addr) : (recsE x a0).length = x.rl.length := by
  unfold recsE
  cases x.rl <;> rfl
theorem recsE_snd (x : OpE) (a0 : Option Addr) : (recsE x a0).map (·.2) = recsOf x := by
  unfold recsOf recsE
  cases x.rl <;> rfl
theorem recsE_zero (x : OpE) (a0 : Option Addr) {y : Option Addr × List UInt8} (h : x.rl[0]? = some y) : (recsE x a0)[0]? = some (a0, y.2 ++ zeros (x.many % 3000)) := by
  unfold recsE
  split
  · rename_i q; rw [q] at h; cases h
  · rename_i r rs q; rw [q] at h; cases h; rfl
theorem recsE_succ (x : OpE) (a0 : Option Addr) (i : Nat) (h : i ≠ 0) : (recsE x a0)[i]? = x.rl[i]? := by
  obtain ⟨j, rfl⟩ : ∃ j, i = j + 1 := ⟨i - 1, by omega⟩
  unfold recsE
  cases hx : x.rl with
  | nil => rfl
  | cons r rs => rfl
structure RecO (x : OpE) (n0 n : Nat) (h : AH) (c a0 : Option Addr) : Prop where
  out : OwnSl h n0 n c 1 x.rl.length ((recsE x a0).map rowV)
  row : ∀ y ∈ recsE x a0, SlB h n y.1 y.2
  new : a0 ≠ none → n0 ≤ sb a0
theorem RecO.ext {x : OpE} {n0 n n1 : Nat} {h h1 : AH} {c a0 : Option Addr} (R : RecO x n0 n h c a0) (E : Ext n h h1) (hn : n ≤ n1) : RecO x n0 n1 h1 c a0 :=
  ⟨R.out.ext E hn, fun y hy => (R.row y hy).ext E hn, R.new⟩
theorem RecO.extW {W : Nat → Prop} {x : OpE} {n0 n n1 m m0 : Nat} {h h0 h1 : AH} {c a0 : Option Addr} (ok : x.Ok h0 m0 m) (hm0 : m0 ≤ n0) (R : RecO x n0 n h c a0) (E : ExtW W n h h1) (hn : n ≤ n1) (hW : ∀ b, n0 ≤ b → b < n → ¬ W b) (hW0 : ∀ b, b < m0 → ¬ W b) : RecO x n0 n1 h1 c a0 := by
  refine ⟨(extW_own R.out E (Nat.le_refl _) hW).ext (Ext.refl _ _) hn, fun y hy => SlR.extW (R.row y hy) E hn (fun q => ?_), R.new⟩
  have hy2 := R.row y hy
  by_cases z : y.1 = a0
  · have := R.new (z ▸ q)
    by_cases w : sb y.1 < n
    · exact hW _ (z ▸ this) w
    · rcases hy2.shape with ⟨k, -⟩ | ⟨-, k, -⟩
      · exact absurd k q
      · exact absurd k w
  · have hyl : y ∈ x.rl := by
      unfold recsE at hy
      cases hx : x.rl with
      | nil => rw [hx] at hy; cases hy
      | cons r rs =>
        rw [hx] at hy
        rcases List.mem_cons.1 hy with w | w
        · rw [w] at z; exact absurd rfl z
        · exact List.mem_cons_of_mem _ w
    rcases (ok.recs.row y hyl).1.shape with ⟨k, -⟩ | ⟨-, k, -⟩
    · exact absurd k q
    · exact hW0 _ k
theorem RecO.slq {x : OpE} {n0 n : Nat} {h : AH} {c a0 : Option Addr} (R : RecO x n0 n h c a0) : SlQ h n c (fun j => ((recsE x a0).getD j (none, [])).1) (recsOf x) := by
  have r : RecR h n c (recsE x a0) (((recsE x a0).map (fun y => y.2.length)).foldr max (recsE x a0).length) := by
    have key : ∀ (l : List (Option Addr × List UInt8)) (k : Nat), k ≤ (l.map (fun y => y.2.length)).foldr max k ∧ ∀ y ∈ l, y.2.length ≤ (l.map (fun y => y.2.length)).foldr max k := by
      intro l k
      induction l with
      | nil => exact ⟨Nat.le_refl _, fun y hy => by cases hy⟩
      | cons z l ih =>
        refine ⟨?_, fun y hy => ?_⟩
        · show k ≤ max z.2.length _; have := ih.1; omega
        · show y.2.length ≤ max z.2.length _
          rcases List.mem_cons.1 hy with q | q
          · rw [q]; omega
          · have := ih.2 y q; omega
    refine ⟨?_, fun y hy => ⟨R.row y hy, (key _ _).2 y hy⟩, (key _ _).1⟩
    have := R.out.slr
    rw [recsE_len]
    exact this
  have := r.slq
  rwa [recsE_snd] at this
set_option maxHeartbeats 4000000 in
theorem opRecs_rf (x : OpE) (m n : Nat) (h : AH) (ok : x.Ok h n m) (hm : m ≤ 1048576) :
    RF Tryz.prog none' 21 #[.agg x.cells.toArray] n h (fun r n' h' => ∃ c a0, r = .slice c x.rl.length x.rl.length ∧ Ext n h h' ∧ RecO x n n' h' c a0) := by
  unfold OpE.cells
  refine RF.of Tryz.func21 rfl rfl (Nat.le_of_ble_eq_true rfl) ?_; dsimp only [argEnv]
  have hrl := ok.recs.le
  have hmy := ok.many
  repeat' (first | refine stpS ?_ | (refine stp2 ?_ ?_ <;> intro _))
  obtain ⟨g1, hg⟩ : ∃ g1, g1 = h.app (.new n ⟨7, 0, true, 0⟩ [.int .i64 x.do_, .slice x.ra x.rl.length x.rl.length, .int .u16 (x.many : Nat), .int .i64 x.gen, .int .u16 (x.at_ : Nat), .int .i64 x.num, .slice x.ka x.keep.length x.keep.length]) := ⟨_, rfl⟩
  refine RC.heap hg ?_
  have E1 : Ext n h g1 := by rw [hg]; exact ext
  have o2 : g1.cell n 2 = .int .u16 (x.many : Nat) := by rw [hg]; exact cell
  clear hg
  refine RC.loop ?_
  refine RL.inv (α := Nat × Option Addr × Option Addr) (fun u => [(9, .int .i64 (u.1 : Nat)), (8, .int .i64 x.rl.length), (7, .slice x.ra x.rl.length x.rl.length), (3, .slice u.2.1 u.1 u.1), (1, .pointer (some ⟨n, 0, none⟩))])
    (fun u n4 h4 => u.1 ≤ x.rl.length ∧ n + 1 ≤ n4 ∧ Ext n h h4 ∧ h4.cell n 2 = .int .u16 (x.many : Nat) ∧ OwnSl h4 (n + 1) n4 u.2.1 1 u.1 (((recsE x u.2.2).take u.1).map rowV) ∧ (∀ j y, j < u.1 → (recsE x u.2.2)[j]? = some y → SlB h4 n4 y.1 y.2) ∧ (u.2.2 ≠ none → n ≤ sb u.2.2) ∧ (u.2.1 = none ∨ u.2.2 = none ∨ sb u.2.2 ≠ sb u.2.1))
    (fun u => x.rl.length - u.1) (0, none, none) envs ⟨by omega, Nat.le_refl _, E1, o2, OwnSl.nil (Nat.le_refl _), fun j y hj => by omega, fun q => absurd rfl q, .inl rfl⟩ ?_
  rintro ⟨i, c, a0⟩ n4 h4 ⟨hi, hn4, E4, o4, O4, Y4, z4, v4⟩
  dsimp only at hi O4 Y4 z4 v4 ⊢
  by_cases hlt : i < x.rl.length
  · have R4 := ok.recs.ext E4 (by omega : n ≤ n4)
    have hout := R4.out
    have hA : SlA x.ra x.rl.length := SlR.sla hout
    have hsn : sb x.ra < n4 := SlR.lt hout (by omega)
    obtain ⟨y, hy⟩ : ∃ y, x.rl[i]? = some y := ⟨_, List.getElem?_eq_getElem hlt⟩
    have hym : y ∈ x.rl := List.mem_of_getElem? hy
    obtain ⟨Sy, hyl⟩ := R4.row y hym
    have d0 : h4.cell (sb x.ra) (so x.ra + i) = .slice y.1 y.2.length y.2.length := (SlR.cell hout i (by omega)).trans (by simp [List.getD, List.getElem?_map, hy, rowV])
    by_cases h0 : i = 0
    · subst h0
      repeat' (first | refine stpS ?_ | (refine stp2 ?_ ?_ <;> intro _))
      repeat' (first | refine stp ?_ | (refine stp2 ?_ ?_ <;> intro _))
      refine RD.call n4 rfl opds (clone_rf y.2 y.1 _ n4 (h4.below n4) (Sy.ext (AH.below_ext h4 n4) (Nat.le_refl _)) rfl (by omega)) (Nat.le_refl _) cfc ?_
      rintro r n5 h5 k5 ⟨a5, rfl, E5, O5⟩
      have E5 : Ext n4 h4 h5 := E5.via (Nat.le_refl _) (AH.below_ext h4 n4)
      have o5 : h5.cell n 2 = .int .u16 (x.many : Nat) := c_ext E5 (by omega) o4
      repeat' (first | refine stp ?_ | (refine stp2 ?_ ?_ <;> intro _))
      have hzr : ∀ k, zrow (Value.cells (.int .u8 0)).toList k = bytesV (zeros k) := fun k => by
        rw [show (Value.cells (.int .u8 0)).toList = [.int .u8 0] from rfl, zrow_one]
        unfold zeros bytesV; rw [List.map_replicate]; rfl
      refine RD.appendZT n5 rfl opd opd O5 (by omega) (fun q => .inr (by have := (O5.at'.resolve_left q).1; omega)) (by omega) (by rw [hzr]; exact bytesV_known _) (Nat.le_refl _) cfw ?_
      intro a6 n6 h6 k6 O6 X6 w6
      rw [hzr] at O6
      have em : ((x.many : Int) % 3000).toNat = x.many % 3000 := by omega
      rw [em, ← bytesV_app] at O6
      rw [em]
      have E6 : Ext n h h6 := (E4.trans (by omega) E5).trans (by omega) (X6.ext O5)
      have hO4 : OwnSl h6 (n + 1) n6 c 1 0 [] := by
        have := O4.le
        have h1 := (O4.ext (E5.trans (by omega) (X6.ext O5)) (by omega : n4 ≤ n6))
        simpa using h1
      have hy0 := recsE_zero x a6 hy
      repeat' (first | refine stp ?_ | (refine stp2 ?_ ?_ <;> intro _))
      obtain ⟨g8, hg⟩ : ∃ g8, g8 = h6.app (.new n6 ⟨1, 0, true, 1⟩ [.slice a6 (y.2.length + x.many % 3000) (y.2.length + x.many % 3000)]) := ⟨_, rfl⟩
      refine RS.heap hg ?_
      have E8 : Ext n6 h6 g8 := by rw [hg]; exact ext
      have hnew : OwnSl g8 n6 (n6 + 1) (some ⟨n6, 0, none⟩) 1 1 [.slice a6 (y.2.length + x.many % 3000) (y.2.length + x.many % 3000)] := by rw [hg]; exact OwnSl.new (m := 1) (z := 1) (Nat.le_refl _) rfl rfl
      clear hg
      refine RS.append rfl opd opd (hO4.ext E8 (Nat.le_succ _)) hnew.src full_slice (fun b hb => Or.inr (by omega)) (by omega) ?_
      intro c9 n9 h9 k9 O9 X9 w9
      have E9 : Ext n h h9 := (E6.trans (by omega) E8).trans (by omega) (X9.ext (hO4.ext E8 (Nat.le_succ _)))
      have o9 : h9.cell n 2 = .int .u16 (x.many : Nat) := c_extX X9 (by omega) (O4.at'.imp id fun w => by omega) (c_ext E8 (by omega) (c_extX X6 (by omega) (O5.at'.imp id fun w => by omega) o5))
      have hat : a6 ≠ none → n4 ≤ sb a6 := fun q => by
        rcases w6 with w | w
        · rw [w] at q ⊢; exact (O5.at'.resolve_left q).1
        · omega
      have hml : (y.2 ++ zeros (x.many % 3000)).length = y.2.length + x.many % 3000 := by rw [List.length_append, zeros_length]
      have hS6 : SlB h6 n6 a6 (y.2 ++ zeros (x.many % 3000)) := by
        rw [← hml] at O6
        exact O6.slb
      have hap : c = none ∨ a6 = none ∨ sb a6 ≠ sb c := by
        by_cases q : c = none
        · exact .inl q
        by_cases q2 : a6 = none
        · exact .inr (.inl q2)
        have := O4.at'.resolve_left q
        have := hat q2
        exact .inr (.inr (by omega))
      repeat' (first | refine stpS ?_ | (refine stp2 ?_ ?_ <;> intro _))
      refine nextC.normal ⟨(1, c9, a6), by dsimp only; omega, envs, by dsimp only; omega, by omega, E9, o9, ?_, fun j z hj hz => ?_, fun q => by have := hat q; show n ≤ sb a6; omega, ?_⟩
      · have e1 : (recsE x a6).take 1 = [(a6, y.2 ++ zeros (x.many % 3000))] := by
          obtain ⟨r, hr⟩ : ∃ r, recsE x a6 = (a6, y.2 ++ zeros (x.many % 3000)) :: r := by
            cases hre : recsE x a6 with
            | nil => rw [hre] at hy0; cases hy0
            | cons w r => rw [hre] at hy0; cases hy0; exact ⟨r, rfl⟩
          rw [hr]; rfl
        show OwnSl h9 (n + 1) n9 c9 1 1 (((recsE x a6).take 1).map rowV)
        rw [e1]
        have : rowV (a6, y.2 ++ zeros (x.many % 3000)) = .slice a6 (y.2.length + x.many % 3000) (y.2.length + x.many % 3000) := by unfold rowV; dsimp only; rw [hml]
        rw [List.map_singleton, this]
        exact O9
      · obtain rfl : j = 0 := by show j = 0; have : j < 1 := hj; omega
        have hz' : (recsE x a6)[0]? = some z := hz
        rw [hy0] at hz'
        cases hz'
        exact (SlR.extX (hS6.ext E8 (Nat.le_succ _)) X9 (hap.imp id fun w => w)).ext (Ext.refl _ _) k9
      · show c9 = none ∨ a6 = none ∨ sb a6 ≠ sb c9
        rcases w9 with w | w
        · rw [w]; exact hap
        · by_cases q2 : a6 = none
          · exact .inr (.inl q2)
          · have hlt6 : sb a6 < n6 := by
              rcases hS6.shape with ⟨k, -⟩ | ⟨-, k, -⟩
              · exact absurd k q2
              · exact k
            exact .inr (.inr (by omega))
    · have hr : (recsE x a0)[i]? = some y := (recsE_succ x a0 i h0).trans hy
      repeat' (first | refine stpS ?_ | (refine stp2 ?_ ?_ <;> intro _))
      obtain ⟨g8, hg⟩ : ∃ g8, g8 = h4.app (.new n4 ⟨1, 0, true, 1⟩ [.slice y.1 y.2.length y.2.length]) := ⟨_, rfl⟩
      refine RS.heap hg ?_
      have E8 : Ext n4 h4 g8 := by rw [hg]; exact ext
      have hnew : OwnSl g8 n4 (n4 + 1) (some ⟨n4, 0, none⟩) 1 1 [.slice y.1 y.2.length y.2.length] := by rw [hg]; exact OwnSl.new (m := 1) (z := 1) (Nat.le_refl _) rfl rfl
      clear hg
      refine RS.append rfl opd opd (O4.ext E8 (Nat.le_succ _)) hnew.src full_slice (fun b hb => Or.inr (by omega)) (by omega) ?_
      intro c9 n9 h9 k9 O9 X9 w9
      have E9 : Ext n h h9 := (E4.trans (by omega) E8).trans (by omega) (X9.ext (O4.ext E8 (Nat.le_succ _)))
      have o9 : h9.cell n 2 = .int .u16 (x.many : Nat) := c_extX X9 (by omega) (O4.at'.imp id fun w => by omega) (c_ext E8 (by omega) o4)
      have hapy : c = none ∨ y.1 = none ∨ sb y.1 ≠ sb c := by
        by_cases q : c = none
        · exact .inl q
        by_cases q2 : y.1 = none
        · exact .inr (.inl q2)
        have := O4.at'.resolve_left q
        have : sb y.1 < n := by
          rcases (ok.recs.row y hym).1.shape with ⟨k, -⟩ | ⟨-, k, -⟩
          · exact absurd k q2
          · exact k
        exact .inr (.inr (by omega))
      repeat' (first | refine stpS ?_ | (refine stp2 ?_ ?_ <;> intro _))
      refine nextC.normal ⟨(i + 1, c9, a0), by dsimp only; omega, envs, by dsimp only; omega, by omega, E9, o9, ?_, fun j z hj hz => ?_, z4, ?_⟩
      · show OwnSl h9 (n + 1) n9 c9 1 (i + 1) (((recsE x a0).take (i + 1)).map rowV)
        have hil : i < (recsE x a0).length := by rw [recsE_len]; exact hlt
        have e1 : (recsE x a0).take (i + 1) = (recsE x a0).take i ++ [y] := by
          rw [List.take_succ_eq_append_getElem hil]
          congr 2
          rw [List.getElem?_eq_getElem hil] at hr
          exact Option.some.inj hr
        rw [e1, List.map_append]
        exact O9
      · have hj : j < i + 1 := hj
        by_cases q : j = i
        · subst q
          have hz' : (recsE x a0)[j]? = some z := hz
          rw [hr] at hz'
          cases hz'
          exact (SlR.extX (Sy.ext E8 (Nat.le_succ _)) X9 hapy).ext (Ext.refl _ _) k9
        · have S0 := Y4 j z (by omega) hz
          refine (SlR.extX (S0.ext E8 (Nat.le_succ _)) X9 ?_).ext (Ext.refl _ _) k9
          by_cases q0 : j = 0
          · subst q0
            have hz' : (recsE x a0)[0]? = some z := hz
            obtain ⟨y0, hy0⟩ : ∃ y0, x.rl[0]? = some y0 := ⟨_, List.getElem?_eq_getElem (by omega)⟩
            rw [recsE_zero x a0 hy0] at hz'
            cases hz'
            exact v4
          · have hz' : (recsE x a0)[j]? = some z := hz
            rw [recsE_succ x a0 j q0] at hz'
            by_cases q : c = none
            · exact .inl q
            by_cases q2 : z.1 = none
            · exact .inr (.inl q2)
            have := O4.at'.resolve_left q
            have : sb z.1 < n := by
              rcases (ok.recs.row z (List.mem_of_getElem? hz')).1.shape with ⟨k, -⟩ | ⟨-, k, -⟩
              · exact absurd k q2
              · exact k
            exact .inr (.inr (by omega))
      · show c9 = none ∨ a0 = none ∨ sb a0 ≠ sb c9
        rcases w9 with w | w
        · rw [w]; exact v4
        · by_cases q2 : a0 = none
          · exact .inr (.inl q2)
          · obtain ⟨y0, hy0⟩ : ∃ y0, x.rl[0]? = some y0 := ⟨_, List.getElem?_eq_getElem (by omega)⟩
            have S0 := Y4 0 _ (by omega) (recsE_zero x a0 hy0)
            have : sb a0 < n4 := by
              rcases S0.shape with ⟨k, -⟩ | ⟨-, k, -⟩
              · exact absurd k q2
              · exact k
            exact .inr (.inr (by omega))
  · obtain rfl : i = x.rl.length := by omega
    rw [List.take_of_length_le (by rw [recsE_len]; exact Nat.le_refl _)] at O4
    repeat' (first | refine stpS ?_ | (refine stp2 ?_ ?_ <;> intro _))
    exact ⟨c, a0, rfl, E4, O4.mono (by omega), fun y hy => ((by
      obtain ⟨j, hj⟩ := List.getElem?_of_mem hy
      have : j < (recsE x a0).length := (List.getElem?_eq_some_iff.1 hj).1
      rw [recsE_len] at this
      exact Y4 j y this hj : SlB h4 n4 y.1 y.2)), z4⟩
end Go.Proofs.YtfbddbpbifnhfaaGreatDoor

/- A disk and its log, side by side with the document's. -/
namespace Go.Proofs.YtfbddbpbifnhfaaGreatDoor
open Go.Abs Cd

def reS (o : Option LS) (S : Dk.DS) : Option LS := o.map fun X => { X with S := S }
def SdL (h : AH) (n d : Nat) (T : Nat → Prop) (v : Option Addr) (o : Option LS) (S : Dk.DS) : Prop :=
  match o with
  | none => v = none ∧ ∃ F G, Dk.Dk h n d F G S ∧ T = fun b => F b ∨ G b
  | some X => X.S = S ∧ ∃ lg, v = some ⟨lg, 0, none⟩ ∧ Lg h n lg d T X
def SdR (h : AH) (n d : Nat) (T : Nat → Prop) (v : Option Addr) (o : Option LS) (S : Dk.DS) : Prop :=
  match o with
  | none => v = none ∧ ∃ F G, Dk.Rk h n d F G S ∧ T = fun b => F b ∨ G b
  | some X => X.S = S ∧ ∃ lg, v = some ⟨lg, 0, none⟩ ∧ Rg h n lg d T X
section
variable {h h1 : AH} {n n1 d : Nat} {T : Nat → Prop} {v : Option Addr} {o : Option LS} {S : Dk.DS}
theorem SdL.lt (A : SdL h n d T v o S) : ∀ b, T b → b < n := by
  cases o with
  | none =>
    obtain ⟨-, F, G, D, rfl⟩ := A
    exact fun b q => q.elim (D.ltF b) (D.ltG b)
  | some X => obtain ⟨-, lg, -, R⟩ := A; exact R.lt
theorem SdR.lt (A : SdR h n d T v o S) : ∀ b, T b → b < n := by
  cases o with
  | none =>
    obtain ⟨-, F, G, D, rfl⟩ := A
    exact fun b q => q.elim (D.ltF b) (D.ltG b)
  | some X => obtain ⟨-, lg, -, R⟩ := A; exact R.lt
theorem SdL.extW {W : Nat → Prop} (A : SdL h n d T v o S) (e : ExtW W n h h1) (hn : n ≤ n1) (hW : ∀ b, T b → ¬ W b) : SdL h1 n1 d T v o S := by
  cases o with
  | none =>
    obtain ⟨q, F, G, D, rfl⟩ := A
    exact ⟨q, F, G, D.extW e hn (fun b w => hW b (.inl w)) (fun b w => hW b (.inr w)), rfl⟩
  | some X => obtain ⟨q, lg, q2, R⟩ := A; exact ⟨q, lg, q2, R.extW e hn hW⟩
theorem SdR.extW {W : Nat → Prop} (A : SdR h n d T v o S) (e : ExtW W n h h1) (hn : n ≤ n1) (hW : ∀ b, T b → ¬ W b) : SdR h1 n1 d T v o S := by
  cases o with
  | none =>
    obtain ⟨q, F, G, D, rfl⟩ := A
    exact ⟨q, F, G, D.extW e hn (fun b w => hW b (.inl w)) (fun b w => hW b (.inr w)), rfl⟩
  | some X => obtain ⟨q, lg, q2, R⟩ := A; exact ⟨q, lg, q2, R.extW e hn hW⟩
def ToL (n d : Nat) (T : Nat → Prop) (h : AH) (v : Option Addr) (o : Option LS) (S : Dk.DS) (n' : Nat) (h' : AH) : Prop := ∃ T', SdL h' n' d T' v o S ∧ (∀ b, b < n → T' b → T b) ∧ ExtW T n h h'
def ToR (n d : Nat) (T : Nat → Prop) (h : AH) (v : Option Addr) (o : Option LS) (S : Dk.DS) (n' : Nat) (h' : AH) : Prop := ∃ T', SdR h' n' d T' v o S ∧ (∀ b, b < n → T' b → T b) ∧ ExtW T n h h'
theorem SdL.disk (A : SdL h n d T v o S) : ∃ F G, Dk.Dk h n d F G S ∧ (∀ b, F b → T b) ∧ (∀ b, G b → T b) ∧ ∀ n1 h1 S', n ≤ n1 → Dk.DkTo n d F G h S' n1 h1 → ToL n d T h v (reS o S') S' n1 h1 := by
  cases o with
  | none =>
    obtain ⟨q, F, G, D, rfl⟩ := A
    refine ⟨F, G, D, fun b q => .inl q, fun b q => .inr q, fun n1 h1 S' hn ⟨F', G', D', hF, hG, e⟩ => ⟨_, ⟨q, F', G', D', rfl⟩, fun b hb w => w.imp (hF b hb) (hG b hb), e.mono (Nat.le_refl _) (fun b _ q => .inl q)⟩⟩
  | some X =>
    obtain ⟨rfl, lg, q2, F, G, a, N, B, R, rfl⟩ := A
    refine ⟨F, G, R.dk, fun b q => .inl q, fun b q => .inr (.inl q), fun n1 h1 S' hn D' => ?_⟩
    obtain ⟨T', R', hT, e⟩ := R.disk D' hn
    exact ⟨T', ⟨rfl, lg, q2, R'⟩, hT, e⟩
theorem SdR.disk (A : SdR h n d T v o S) : ∃ F G, Dk.Rk h n d F G S ∧ (∀ b, F b → T b) ∧ (∀ b, G b → T b) ∧ ∀ n1 h1 S', n ≤ n1 → Dk.RkTo n d F G h S' n1 h1 → ToR n d T h v (reS o S') S' n1 h1 := by
  cases o with
  | none =>
    obtain ⟨q, F, G, D, rfl⟩ := A
    refine ⟨F, G, D, fun b q => .inl q, fun b q => .inr q, fun n1 h1 S' hn ⟨F', G', D', hF, hG, e⟩ => ⟨_, ⟨q, F', G', D', rfl⟩, fun b hb w => w.imp (hF b hb) (hG b hb), e.mono (Nat.le_refl _) (fun b _ q => .inl q)⟩⟩
  | some X =>
    obtain ⟨rfl, lg, q2, F, G, a, N, B, R, rfl⟩ := A
    refine ⟨F, G, R.dk, fun b q => .inl q, fun b q => .inr (.inl q), fun n1 h1 S' hn D' => ?_⟩
    obtain ⟨T', R', hT, e⟩ := R.disk D' hn
    exact ⟨T', ⟨rfl, lg, q2, R'⟩, hT, e⟩
end
structure PS (h : AH) (n0 n p d r : Nat) (T1 T2 : Nat → Prop) (v w : Option Addr) (o : Option LS) (S : Dk.DS) : Prop where
  lo : n0 ≤ p
  hi : p < n
  inf : h.info p = some ⟨4, 0, true, 0⟩
  c0 : h.cell p 0 = .pointer (some ⟨d, 0, none⟩)
  c1 : h.cell p 1 = .pointer v
  c2 : h.cell p 2 = .pointer (some ⟨r, 0, none⟩)
  c3 : h.cell p 3 = .pointer w
  a : SdL h n d T1 v o S
  b : SdR h n r T2 w o S
  t1 : ∀ b, T1 b → n0 ≤ b ∧ b ≠ p ∧ ¬ T2 b
  t2 : ∀ b, T2 b → n0 ≤ b ∧ b ≠ p
section
variable {h h1 : AH} {n0 n n1 p d r : Nat} {T1 T2 : Nat → Prop} {v w : Option Addr} {o o' : Option LS} {S S' : Dk.DS}
theorem PS.ext (P : PS h n0 n p d r T1 T2 v w o S) (e : Ext n h h1) (hn : n ≤ n1) : PS h1 n0 n1 p d r T1 T2 v w o S :=
  ⟨P.lo, Nat.lt_of_lt_of_le P.hi hn, i_ext e P.hi P.inf, c_ext e P.hi P.c0, c_ext e P.hi P.c1, c_ext e P.hi P.c2, c_ext e P.hi P.c3,
   P.a.extW (ExtW.of e (Nat.le_refl _) : ExtW (fun _ => False) n h h1) hn (fun _ _ q => q), P.b.extW (ExtW.of e (Nat.le_refl _) : ExtW (fun _ => False) n h h1) hn (fun _ _ q => q), P.t1, P.t2⟩
theorem PS.both {h2 : AH} {n2 : Nat} (P : PS h n0 n p d r T1 T2 v w o S) (A : ToL n d T1 h v o' S' n1 h1) (hn : n ≤ n1) (B : ToR n1 r T2 h1 w o' S' n2 h2) (hn2 : n1 ≤ n2) :
    ∃ T1' T2', PS h2 n0 n2 p d r T1' T2' v w o' S' ∧ ExtW (fun b => T1 b ∨ T2 b) n h h2 ∧ (∀ b, b < n → T1' b → T1 b) ∧ (∀ b, b < n → T2' b → T2 b) := by
  obtain ⟨T1', A', hA, eA⟩ := A
  obtain ⟨T2', B', hB, eB⟩ := B
  have hp := P.hi
  have n1p : ¬ T1 p := fun q => (P.t1 p q).2.1 rfl
  have n2p : ¬ T2 p := fun q => (P.t2 p q).2 rfl
  have lt2 := P.b.lt
  have ltA := A'.lt
  have ci : ∀ {i : Nat} {x : Value}, h.cell p i = x → h2.cell p i = x := fun q => c_extW eB (by omega) n2p (c_extW eA hp n1p q)
  have hA2 : ∀ b, T1' b → ¬ T2 b := fun b q w => by
    have := lt2 b w
    exact (P.t1 b (hA b this q)).2.2 w
  refine ⟨T1', T2', ⟨P.lo, by omega, i_extW eB (by omega) n2p (i_extW eA hp n1p P.inf), ci P.c0, ci P.c1, ci P.c2, ci P.c3, A'.extW eB hn2 hA2, B', fun b q => ?_, fun b q => ?_⟩, ?_⟩
  · have := ltA b q
    refine ⟨?_, ?_, fun w => ?_⟩
    · by_cases z : b < n
      · exact (P.t1 b (hA b z q)).1
      · have := P.lo; omega
    · by_cases z : b < n
      · exact (P.t1 b (hA b z q)).2.1
      · omega
    · exact hA2 b q (hB b this w)
  · by_cases z : b < n1
    · exact P.t2 b (hB b z q)
    · have := P.lo
      exact ⟨by omega, by omega⟩
  · exact ⟨(eA.mono (Nat.le_refl _) (fun b _ q => .inl q)).trans eB hn (fun b _ q => .inr q), hA, fun b hb q => hB b (by omega) q⟩
end
end Go.Proofs.YtfbddbpbifnhfaaGreatDoor

/- What a step of a script brings. -/
namespace Go.Proofs.YtfbddbpbifnhfaaGreatDoor
open Go.Abs Cd

def small (l : List (List UInt8)) : Prop := l.length ≤ 1099511627776 ∧ ∀ x ∈ l, x.length ≤ 1099511627776
def OkO (o : Option LS) : Prop := ∀ X, o = some X → ∀ l ∈ X.L, small l
def StTo (n0 n p d r : Nat) (T1 T2 : Nat → Prop) (o : Option LS) (S : Dk.DS) (h : AH) (x : Value) (n' : Nat) (h' : AH) : Prop :=
  x = .bool true ∧ ∃ T1' T2' v' w' o' S', PS h' n0 n' p d r T1' T2' v' w' o' S' ∧ ExtW (fun b => T1 b ∨ T2 b ∨ b = p) n h h' ∧ S'.ps.length ≤ S.ps.length + 1000000 ∧ S'.calls ≤ S.calls + 4 ∧ (OkO o → OkO o')
theorem reS_ok {o : Option LS} {S' : Dk.DS} (h : OkO o) : OkO (reS o S') := fun X hX => by
  unfold reS at hX
  cases o with
  | none => cases hX
  | some Y => cases hX; exact h Y rfl
theorem resetP_ok {X : LS} {g : Int} (h : OkO (some X)) : OkO (some (resetP X g).2) := fun Y hY => by
  cases hY
  unfold resetP
  split
  · exact h X rfl
  split
  · exact h X rfl
  · intro l hl; cases hl
theorem commitP_ok {X : LS} {ls : List (List UInt8)} (hs : small ls) (h : OkO (some X)) : OkO (some (commitP X ls).2) := fun Y hY => by
  cases hY
  unfold commitP
  split
  · exact h X rfl
  split
  · exact h X rfl
  dsimp only
  split
  · exact h X rfl
  split
  · exact h X rfl
  · intro l hl
    rcases List.mem_append.1 hl with q | q
    · exact h X rfl l q
    · rw [List.mem_singleton.1 q]; exact hs
theorem recordsP_small (l : List UInt8) (h : l.length ≤ 4194304) : small (recordsP l).1 := by
  unfold recordsP
  split
  · rename_i q
    obtain ⟨-, q1, q2, -⟩ := q
    refine ⟨?_, fun x hx => ?_⟩
    · unfold rowsN
      rw [List.length_map, List.length_range]; omega
    · unfold rowsN at hx
      obtain ⟨i, -, rfl⟩ := List.mem_map.1 hx
      have := recN_len (l.drop (pI l).2.1) i
      rw [List.length_drop] at this
      omega
  · exact ⟨Nat.zero_le _, fun x hx => by cases hx⟩
theorem scan_small (b : List UInt8) (hb : b.length ≤ 4194304) : ∀ (k : Nat) (X : LS), (∀ l ∈ X.L, small l) → ∀ l ∈ (X.scan k b).L, small l := by
  intro k
  induction k with
  | zero => intro X h; exact h
  | succ k ih =>
    intro X h
    cases hn : X.next b with
    | none => rw [scan_none hn]; exact h
    | some Y =>
      rw [scan_some hn]
      refine ih Y ?_
      unfold LS.next at hn
      obtain ⟨x, h1, h2⟩ := Option.map_eq_some_iff.1 hn
      unfold nextP at h1
      split at h1
      · cases h1
      simp only at h1
      split at h1
      · cases h1
        subst h2
        intro l hl
        rcases List.mem_append.1 hl with q | q
        · exact h l q
        · rw [List.mem_singleton.1 q]
          refine recordsP_small _ ?_
          rw [List.length_take, List.length_drop, List.length_drop]; omega
      · cases h1
theorem openP_ok {S : Dk.DS} {g : Int} (h : (S.now 1).length ≤ 4194304) {Z : Int × LS} (hZ : Z = openP S g) {o' : Option LS} (ho : o' = none ∨ o' = some Z.2) : OkO o' := by
  rcases ho with rfl | rfl
  · intro X hX; cases hX
  · intro X hX
    cases hX
    rw [hZ]
    have key : ∀ l ∈ (logOf S g (S.now 1)).L, small l := scan_small _ h _ _ (fun l hl => by cases hl)
    unfold openP
    split
    · intro l hl; cases hl
    split
    · intro l hl; cases hl
    dsimp only
    split
    · exact key
    · exact key
theorem crash_b1 (S : Dk.DS) (ks : List Bool) : (S.crash ks).2.ps.length ≤ S.ps.length + 1000000 := by
  unfold Dk.DS.crash
  split
  · show S.ps.length ≤ _; omega
  · exact Nat.zero_le _
theorem crash_b2 (S : Dk.DS) (ks : List Bool) : (S.crash ks).2.calls ≤ S.calls + 4 := by
  unfold Dk.DS.crash
  split
  · show S.calls ≤ _; omega
  · show S.calls ≤ _; omega
theorem fuse_b1 (S : Dk.DS) (k : Int) (ks : List Bool) : (S.setFuse k ks).2.ps.length ≤ S.ps.length + 1000000 := by
  unfold Dk.DS.setFuse
  split
  · show S.ps.length ≤ _; omega
  · show S.ps.length ≤ _; omega
theorem fuse_b2 (S : Dk.DS) (k : Int) (ks : List Bool) : (S.setFuse k ks).2.calls ≤ S.calls + 4 := by
  unfold Dk.DS.setFuse
  split
  · show S.calls ≤ _; omega
  · show S.calls ≤ _; omega
end Go.Proofs.YtfbddbpbifnhfaaGreatDoor

/- A step of a script: the power goes. -/
namespace Go.Proofs.YtfbddbpbifnhfaaGreatDoor
open Go.Abs Cd

set_option maxHeartbeats 4000000 in
theorem step_crash {h0 h : AH} {n0 n p d r m : Nat} {T1 T2 : Nat → Prop} {v w : Option Addr} {o : Option LS} {S : Dk.DS} (P : PS h n0 n p d r T1 T2 v w o S) (x : OpE) (ok0 : x.Ok h0 n0 m) (E0 : Ext n0 h0 h) (hn0 : n0 ≤ n) (hm : m ≤ 1048576) (hdo : x.do_ = 3) (hps : S.ps.length ≤ 1099511000000) (hcl : S.calls < 4611686018427387900) (hpos : 0 < n) :
    RF Tryz.prog (fun b => T1 b ∨ T2 b ∨ b = p) 7 #[.pointer (some ⟨p, 0, none⟩), .agg x.cells.toArray] n h (StTo n0 n p d r T1 T2 o S h) := by
  unfold OpE.cells
  refine RF.of Tryz.func7 rfl rfl (Nat.le_of_ble_eq_true rfl) ?_; dsimp only [argEnv]
  have ok := ok0.ext E0 hn0
  have hp := P.hi
  have d0 := P.c0
  have d2 := P.c2
  have hnp1 : ¬ T1 p := fun q => (P.t1 p q).2.1 rfl
  have hnp2 : ¬ T2 p := fun q => (P.t2 p q).2 rfl
  have hT1 := P.a.lt
  have hT2 := P.b.lt
  have hmy := ok.many
  have hat := ok.at_
  have hkl := ok.kl
  obtain ⟨hnm1, hnm2⟩ := ok.num
  obtain ⟨hgn1, hgn2⟩ := ok.gen
  repeat' (first | refine stpS ?_ | (refine stp2 ?_ ?_ <;> intro _))
  obtain ⟨g1, hg⟩ : ∃ g1, g1 = h.app (.new n ⟨7, 0, true, 0⟩ [.int .i64 x.do_, .slice x.ra x.rl.length x.rl.length, .int .u16 (x.many : Nat), .int .i64 x.gen, .int .u16 (x.at_ : Nat), .int .i64 x.num, .slice x.ka x.keep.length x.keep.length]) := ⟨_, rfl⟩
  refine RC.heap hg ?_
  have E1 : Ext n h g1 := by rw [hg]; exact ext
  have y0 : g1.cell n 0 = .int .i64 x.do_ := by rw [hg]; exact cell
  have y1 : g1.cell n 1 = .slice x.ra x.rl.length x.rl.length := by rw [hg]; exact cell
  have y2 : g1.cell n 2 = .int .u16 (x.many : Nat) := by rw [hg]; exact cell
  have y3 : g1.cell n 3 = .int .i64 x.gen := by rw [hg]; exact cell
  have y4 : g1.cell n 4 = .int .u16 (x.at_ : Nat) := by rw [hg]; exact cell
  have y5 : g1.cell n 5 = .int .i64 x.num := by rw [hg]; exact cell
  have y6 : g1.cell n 6 = .slice x.ka x.keep.length x.keep.length := by rw [hg]; exact cell
  have yi : g1.info n = some ⟨7, 0, true, 0⟩ := by rw [hg]; exact info
  clear hg
  have P1 := P.ext E1 (Nat.le_succ n)
  have d0 := P1.c0
  have d2 := P1.c2
  have hk1 : SlT g1 (n + 1) x.ka x.keep := ok.keep.ext E1 (Nat.le_succ _)
  have hka : x.ka ≠ none → sb x.ka < n0 := fun q => by
    rcases ok0.keep.shape with ⟨k, -⟩ | ⟨-, k, -⟩
    · exact absurd k q
    · exact k
  obtain ⟨F1, G1, D1, hF1, hG1, kA⟩ := P1.a.disk
  have hF1n : ∀ b, F1 b → b < n := fun b q => hT1 b (hF1 b q)
  have hnF1 : ¬ F1 p := fun q => hnp1 (hF1 p q)
  have hev1 := Dk.crash_dk (D1.ext (AH.below_ext g1 (n + 1)) (Nat.le_refl _)) (by omega) (by omega) (hk1.ext (AH.below_ext g1 (n + 1)) (Nat.le_refl _)) (fun q z => by have := hka q; have := (P.t1 _ (hF1 _ z)).1; omega)
  obtain ⟨Y, hY⟩ : ∃ Y, Y = S.crash x.keep := ⟨_, rfl⟩
  rw [← hY] at hev1
  repeat' (first | refine stp ?_ | (refine stp2 ?_ ?_ <;> intro _))
  refine RD.callW (n + 1) rfl opds hev1 (fun b q => .inl (.inl (hF1 b q))) (Nat.le_refl _) cfw ?_
  rintro r1 n2 h2 k2 ⟨rfl, F3, G3, D3, hF3, hG3, e3⟩
  have e3 : ExtW F1 (n + 1) g1 h2 := (ExtW.of (AH.below_ext g1 (n + 1)) (Nat.le_refl _)).trans e3 (Nat.le_refl _) (fun _ _ q => q)
  have hnF1n : ¬ F1 n := fun q => by have := hF1n n q; omega
  have d2 : h2.cell p 2 = .pointer (some ⟨r, 0, none⟩) := c_extW e3 (by omega) hnF1 d2
  have y3 : h2.cell n 3 = .int .i64 x.gen := c_extW e3 (by omega) hnF1n y3
  have y4 : h2.cell n 4 = .int .u16 (x.at_ : Nat) := c_extW e3 (by omega) hnF1n y4
  have y5 : h2.cell n 5 = .int .i64 x.num := c_extW e3 (by omega) hnF1n y5
  have y6 : h2.cell n 6 = .slice x.ka x.keep.length x.keep.length := c_extW e3 (by omega) hnF1n y6
  have A2 := kA n2 h2 _ k2 ⟨F3, G3, D3, hF3, hG3, e3⟩
  have B2 := P1.b.extW e3 k2 (fun b q z => (P.t1 b (hF1 b z)).2.2 q)
  obtain ⟨F2, G2, D2, hF2, hG2, kB⟩ := B2.disk
  have hF2n : ∀ b, F2 b → b < n := fun b q => hT2 b (hF2 b q)
  have hF2n2 : ∀ b, F2 b → b < n2 := fun b q => by have := hT2 b (hF2 b q); omega
  have hnF2 : ¬ F2 p := fun q => hnp2 (hF2 p q)
  have hnF2n : ¬ F2 n := fun q => by have := hF2n n q; omega
  have hev2 := Dk.rcrash_rk (D2.ext (AH.below_ext h2 n2) (Nat.le_refl _)) (by omega) (by omega) ((hk1.extW e3 k2 (fun q z => by have := hka q; have := (P.t1 _ (hF1 _ z)).1; omega)).ext (AH.below_ext h2 n2) (Nat.le_refl _)) (fun q z => by have := hka q; have := (P.t2 _ (hF2 _ z)).1; omega)
  rw [← hY] at hev2
  repeat' (first | refine stp ?_ | (refine stp2 ?_ ?_ <;> intro _))
  refine RD.callW n2 rfl opds hev2 (fun b q => .inl (.inr (.inl (hF2 b q)))) (Nat.le_refl _) cfw ?_
  rintro r2 n3 h3 k3 ⟨rfl, F4, G4, D4, hF4, hG4, e4⟩
  have e4 : ExtW F2 n2 h2 h3 := (ExtW.of (AH.below_ext h2 n2) (Nat.le_refl _)).trans e4 (Nat.le_refl _) (fun _ _ q => q)
  have B3 := kB n3 h3 _ k3 ⟨F4, G4, D4, hF4, hG4, e4⟩
  repeat' (first | refine stp ?_ | (refine stp2 ?_ ?_ <;> intro _))
  obtain ⟨T1', T2', P3, e5, -, -⟩ := P1.both A2 k2 B3 k3
  refine ⟨rfl, T1', T2', v, w, reS o Y.2, Y.2, P3, ?_, ?_, ?_, reS_ok⟩
  · exact (ExtW.of E1 (Nat.le_refl _)).trans e5 (by omega) (fun b _ q => q.imp id .inl)
  · rw [hY]; exact crash_b1 S x.keep
  · rw [hY]; exact crash_b2 S x.keep
end Go.Proofs.YtfbddbpbifnhfaaGreatDoor

/- A step of a script: a fuse is laid. -/
namespace Go.Proofs.YtfbddbpbifnhfaaGreatDoor
open Go.Abs Cd

set_option maxHeartbeats 4000000 in
theorem step_fuse {h0 h : AH} {n0 n p d r m : Nat} {T1 T2 : Nat → Prop} {v w : Option Addr} {o : Option LS} {S : Dk.DS} (P : PS h n0 n p d r T1 T2 v w o S) (x : OpE) (ok0 : x.Ok h0 n0 m) (E0 : Ext n0 h0 h) (hn0 : n0 ≤ n) (hm : m ≤ 1048576) (hdo : x.do_ = 4) (hps : S.ps.length ≤ 1099511000000) (hcl : S.calls < 4611686018427387900) (hpos : 0 < n) :
    RF Tryz.prog (fun b => T1 b ∨ T2 b ∨ b = p) 7 #[.pointer (some ⟨p, 0, none⟩), .agg x.cells.toArray] n h (StTo n0 n p d r T1 T2 o S h) := by
  unfold OpE.cells
  refine RF.of Tryz.func7 rfl rfl (Nat.le_of_ble_eq_true rfl) ?_; dsimp only [argEnv]
  have ok := ok0.ext E0 hn0
  have hp := P.hi
  have d0 := P.c0
  have d2 := P.c2
  have hnp1 : ¬ T1 p := fun q => (P.t1 p q).2.1 rfl
  have hnp2 : ¬ T2 p := fun q => (P.t2 p q).2 rfl
  have hT1 := P.a.lt
  have hT2 := P.b.lt
  have hmy := ok.many
  have hat := ok.at_
  have hkl := ok.kl
  obtain ⟨hnm1, hnm2⟩ := ok.num
  obtain ⟨hgn1, hgn2⟩ := ok.gen
  repeat' (first | refine stpS ?_ | (refine stp2 ?_ ?_ <;> intro _))
  obtain ⟨g1, hg⟩ : ∃ g1, g1 = h.app (.new n ⟨7, 0, true, 0⟩ [.int .i64 x.do_, .slice x.ra x.rl.length x.rl.length, .int .u16 (x.many : Nat), .int .i64 x.gen, .int .u16 (x.at_ : Nat), .int .i64 x.num, .slice x.ka x.keep.length x.keep.length]) := ⟨_, rfl⟩
  refine RC.heap hg ?_
  have E1 : Ext n h g1 := by rw [hg]; exact ext
  have y0 : g1.cell n 0 = .int .i64 x.do_ := by rw [hg]; exact cell
  have y1 : g1.cell n 1 = .slice x.ra x.rl.length x.rl.length := by rw [hg]; exact cell
  have y2 : g1.cell n 2 = .int .u16 (x.many : Nat) := by rw [hg]; exact cell
  have y3 : g1.cell n 3 = .int .i64 x.gen := by rw [hg]; exact cell
  have y4 : g1.cell n 4 = .int .u16 (x.at_ : Nat) := by rw [hg]; exact cell
  have y5 : g1.cell n 5 = .int .i64 x.num := by rw [hg]; exact cell
  have y6 : g1.cell n 6 = .slice x.ka x.keep.length x.keep.length := by rw [hg]; exact cell
  have yi : g1.info n = some ⟨7, 0, true, 0⟩ := by rw [hg]; exact info
  clear hg
  have P1 := P.ext E1 (Nat.le_succ n)
  have d0 := P1.c0
  have d2 := P1.c2
  have hk1 : SlT g1 (n + 1) x.ka x.keep := ok.keep.ext E1 (Nat.le_succ _)
  have hka : x.ka ≠ none → sb x.ka < n0 := fun q => by
    rcases ok0.keep.shape with ⟨k, -⟩ | ⟨-, k, -⟩
    · exact absurd k q
    · exact k
  obtain ⟨F1, G1, D1, hF1, hG1, kA⟩ := P1.a.disk
  have hF1n : ∀ b, F1 b → b < n := fun b q => hT1 b (hF1 b q)
  have hnF1 : ¬ F1 p := fun q => hnp1 (hF1 p q)
  have hev1 := Dk.setFuse_dk (D1.ext (AH.below_ext g1 (n + 1)) (Nat.le_refl _)) x.num hnm2 (by omega) (hk1.ext (AH.below_ext g1 (n + 1)) (Nat.le_refl _))
  obtain ⟨Y, hY⟩ : ∃ Y, Y = S.setFuse x.num x.keep := ⟨_, rfl⟩
  rw [← hY] at hev1
  repeat' (first | refine stp ?_ | (refine stp2 ?_ ?_ <;> intro _))
  refine RD.callW (n + 1) rfl opds hev1 (fun b q => .inl (.inl (hF1 b q))) (Nat.le_refl _) cfw ?_
  rintro r1 n2 h2 k2 ⟨rfl, F3, G3, D3, hF3, hG3, e3⟩
  have e3 : ExtW F1 (n + 1) g1 h2 := (ExtW.of (AH.below_ext g1 (n + 1)) (Nat.le_refl _)).trans e3 (Nat.le_refl _) (fun _ _ q => q)
  have hnF1n : ¬ F1 n := fun q => by have := hF1n n q; omega
  have d2 : h2.cell p 2 = .pointer (some ⟨r, 0, none⟩) := c_extW e3 (by omega) hnF1 d2
  have y3 : h2.cell n 3 = .int .i64 x.gen := c_extW e3 (by omega) hnF1n y3
  have y4 : h2.cell n 4 = .int .u16 (x.at_ : Nat) := c_extW e3 (by omega) hnF1n y4
  have y5 : h2.cell n 5 = .int .i64 x.num := c_extW e3 (by omega) hnF1n y5
  have y6 : h2.cell n 6 = .slice x.ka x.keep.length x.keep.length := c_extW e3 (by omega) hnF1n y6
  have A2 := kA n2 h2 _ k2 ⟨F3, G3, D3, hF3, hG3, e3⟩
  have B2 := P1.b.extW e3 k2 (fun b q z => (P.t1 b (hF1 b z)).2.2 q)
  obtain ⟨F2, G2, D2, hF2, hG2, kB⟩ := B2.disk
  have hF2n : ∀ b, F2 b → b < n := fun b q => hT2 b (hF2 b q)
  have hF2n2 : ∀ b, F2 b → b < n2 := fun b q => by have := hT2 b (hF2 b q); omega
  have hnF2 : ¬ F2 p := fun q => hnp2 (hF2 p q)
  have hnF2n : ¬ F2 n := fun q => by have := hF2n n q; omega
  have hev2 := Dk.rsetFuse_rk (D2.ext (AH.below_ext h2 n2) (Nat.le_refl _)) x.num hnm2 (by omega) ((hk1.extW e3 k2 (fun q z => by have := hka q; have := (P.t1 _ (hF1 _ z)).1; omega)).ext (AH.below_ext h2 n2) (Nat.le_refl _)) (fun q z => by have := hka q; have := (P.t2 _ (hF2 _ z)).1; omega)
  rw [← hY] at hev2
  repeat' (first | refine stp ?_ | (refine stp2 ?_ ?_ <;> intro _))
  refine RD.callW n2 rfl opds hev2 (fun b q => .inl (.inr (.inl (hF2 b q)))) (Nat.le_refl _) cfw ?_
  rintro r2 n3 h3 k3 ⟨rfl, F4, G4, D4, hF4, hG4, e4⟩
  have e4 : ExtW F2 n2 h2 h3 := (ExtW.of (AH.below_ext h2 n2) (Nat.le_refl _)).trans e4 (Nat.le_refl _) (fun _ _ q => q)
  have B3 := kB n3 h3 _ k3 ⟨F4, G4, D4, hF4, hG4, e4⟩
  repeat' (first | refine stp ?_ | (refine stp2 ?_ ?_ <;> intro _))
  obtain ⟨T1', T2', P3, e5, -, -⟩ := P1.both A2 k2 B3 k3
  refine ⟨rfl, T1', T2', v, w, reS o Y.2, Y.2, P3, ?_, ?_, ?_, reS_ok⟩
  · exact (ExtW.of E1 (Nat.le_refl _)).trans e5 (by omega) (fun b _ q => q.imp id .inl)
  · rw [hY]; exact fuse_b1 S x.num x.keep
  · rw [hY]; exact fuse_b2 S x.num x.keep
end Go.Proofs.YtfbddbpbifnhfaaGreatDoor

/- A step of a script: any bytes are written. -/
namespace Go.Proofs.YtfbddbpbifnhfaaGreatDoor
open Go.Abs Cd

set_option maxHeartbeats 4000000 in
theorem step_raw {h0 h : AH} {n0 n p d r m : Nat} {T1 T2 : Nat → Prop} {v w : Option Addr} {o : Option LS} {S : Dk.DS} (P : PS h n0 n p d r T1 T2 v w o S) (x : OpE) (ok0 : x.Ok h0 n0 m) (E0 : Ext n0 h0 h) (hn0 : n0 ≤ n) (hm : m ≤ 1048576) (hdo : x.do_ = 5) (hps : S.ps.length ≤ 1099511000000) (hcl : S.calls < 4611686018427387900) (hpos : 0 < n) :
    RF Tryz.prog (fun b => T1 b ∨ T2 b ∨ b = p) 7 #[.pointer (some ⟨p, 0, none⟩), .agg x.cells.toArray] n h (StTo n0 n p d r T1 T2 o S h) := by
  unfold OpE.cells
  refine RF.of Tryz.func7 rfl rfl (Nat.le_of_ble_eq_true rfl) ?_; dsimp only [argEnv]
  have ok := ok0.ext E0 hn0
  have hp := P.hi
  have d0 := P.c0
  have d2 := P.c2
  have hnp1 : ¬ T1 p := fun q => (P.t1 p q).2.1 rfl
  have hnp2 : ¬ T2 p := fun q => (P.t2 p q).2 rfl
  have hT1 := P.a.lt
  have hT2 := P.b.lt
  have hmy := ok.many
  have hat := ok.at_
  have hkl := ok.kl
  obtain ⟨hnm1, hnm2⟩ := ok.num
  obtain ⟨hgn1, hgn2⟩ := ok.gen
  repeat (first | (refine RS.put rfl rfl (o_convM_u8 (Opd.tmp Look.here)) ?_) | refine stpS ?_)
  obtain ⟨g1, hg⟩ : ∃ g1, g1 = (h.app (.new n ⟨7, 0, true, 0⟩ [.int .i64 x.do_, .slice x.ra x.rl.length x.rl.length, .int .u16 (x.many : Nat), .int .i64 x.gen, .int .u16 (x.at_ : Nat), .int .i64 x.num, .slice x.ka x.keep.length x.keep.length])).app (.new (n + 1) ⟨2, 0, true, 1⟩ [.int .u8 (x.gen % 256), .int .u8 ((x.many : Int) % 256)]) := ⟨_, rfl⟩
  refine RC.heap hg ?_
  have E1 : Ext n h g1 := by rw [hg]; exact ext
  have y0 : g1.cell n 0 = .int .i64 x.do_ := by rw [hg]; exact cell
  have y1 : g1.cell n 1 = .slice x.ra x.rl.length x.rl.length := by rw [hg]; exact cell
  have y2 : g1.cell n 2 = .int .u16 (x.many : Nat) := by rw [hg]; exact cell
  have y3 : g1.cell n 3 = .int .i64 x.gen := by rw [hg]; exact cell
  have y4 : g1.cell n 4 = .int .u16 (x.at_ : Nat) := by rw [hg]; exact cell
  have y5 : g1.cell n 5 = .int .i64 x.num := by rw [hg]; exact cell
  have y6 : g1.cell n 6 = .slice x.ka x.keep.length x.keep.length := by rw [hg]; exact cell
  have yi : g1.info n = some ⟨7, 0, true, 0⟩ := by rw [hg]; exact info
  obtain ⟨b, hb⟩ : ∃ b : List UInt8, b = [UInt8.ofNat (x.gen % 256).toNat, UInt8.ofNat (x.many % 256)] := ⟨_, rfl⟩
  have hbV : [Value.int .u8 (x.gen % 256), .int .u8 ((x.many : Int) % 256)] = bytesV b := by
    have e1 : (((UInt8.ofNat (x.gen % 256).toNat).toNat : Nat) : Int) = x.gen % 256 := by rw [UInt8.toNat_ofNat']; omega
    have e2 : (((UInt8.ofNat (x.many % 256)).toNat : Nat) : Int) = (x.many : Int) % 256 := by rw [UInt8.toNat_ofNat']; omega
    rw [hb]
    show _ = [Value.int .u8 (((UInt8.ofNat (x.gen % 256).toNat).toNat : Nat) : Int), .int .u8 (((UInt8.ofNat (x.many % 256)).toNat : Nat) : Int)]
    rw [e1, e2]
  have hbl : b.length = 2 := by rw [hb]; rfl
  have hSb : SlB g1 (n + 1 + 1) (some ⟨n + 1, 0, none⟩) b := by
    rw [hg, hbV, ← hbl]
    exact slb_new b (n + 1) _
  clear hg hb hbV
  have P1 : PS g1 n0 (n + 1 + 1) p d r T1 T2 v w o S := P.ext E1 (by omega)
  have d0 := P1.c0
  have d2 := P1.c2
  obtain ⟨F1, G1, D1, hF1, hG1, kA⟩ := P1.a.disk
  have hF1n : ∀ b, F1 b → b < n := fun b q => hT1 b (hF1 b q)
  have hnF1 : ¬ F1 p := fun q => hnp1 (hF1 p q)
  have hev1 := Dk.write_dk (D1.ext (AH.below_ext g1 (n + 1 + 1)) (Nat.le_refl _)) 1 (x.at_ : Nat) (by omega) (SlR.ext hSb (AH.below_ext g1 (n + 1 + 1)) (Nat.le_refl _)) (fun _ z => by have : n + 1 < n := hF1n _ z; omega) (by omega) (by omega)
  rw [hbl] at hev1
  obtain ⟨Y, hY⟩ : ∃ Y, Y = S.write 1 (x.at_ : Nat) b := ⟨_, rfl⟩
  rw [← hY] at hev1
  repeat' (first | refine stp ?_ | (refine stp2 ?_ ?_ <;> intro _))
  refine RD.callW (n + 1 + 1) rfl opds hev1 (fun b q => .inl (.inl (hF1 b q))) (Nat.le_refl _) cfw ?_
  rintro r1 n2 h2 k2 ⟨rfl, F3, G3, D3, hF3, hG3, e3⟩
  have e3 : ExtW F1 (n + 1 + 1) g1 h2 := (ExtW.of (AH.below_ext g1 (n + 1 + 1)) (Nat.le_refl _)).trans e3 (Nat.le_refl _) (fun _ _ q => q)
  have hnF1n : ¬ F1 n := fun q => by have := hF1n n q; omega
  have d2 : h2.cell p 2 = .pointer (some ⟨r, 0, none⟩) := c_extW e3 (by omega) hnF1 d2
  have y3 : h2.cell n 3 = .int .i64 x.gen := c_extW e3 (by omega) hnF1n y3
  have y4 : h2.cell n 4 = .int .u16 (x.at_ : Nat) := c_extW e3 (by omega) hnF1n y4
  have y5 : h2.cell n 5 = .int .i64 x.num := c_extW e3 (by omega) hnF1n y5
  have y6 : h2.cell n 6 = .slice x.ka x.keep.length x.keep.length := c_extW e3 (by omega) hnF1n y6
  have A2 := kA n2 h2 _ k2 ⟨F3, G3, D3, hF3, hG3, e3⟩
  have B2 := P1.b.extW e3 k2 (fun b q z => (P.t1 b (hF1 b z)).2.2 q)
  obtain ⟨F2, G2, D2, hF2, hG2, kB⟩ := B2.disk
  have hF2n : ∀ b, F2 b → b < n := fun b q => hT2 b (hF2 b q)
  have hF2n2 : ∀ b, F2 b → b < n2 := fun b q => by have := hT2 b (hF2 b q); omega
  have hnF2 : ¬ F2 p := fun q => hnp2 (hF2 p q)
  have hnF2n : ¬ F2 n := fun q => by have := hF2n n q; omega
  have hev2 := Dk.rwrite_rk (D2.ext (AH.below_ext h2 n2) (Nat.le_refl _)) 1 (x.at_ : Nat) (by omega) (SlR.ext (SlR.extW hSb e3 k2 (fun _ z => by have : n + 1 < n := hF1n _ z; omega)) (AH.below_ext h2 n2) (Nat.le_refl _)) (fun _ z => by have : n + 1 < n := hF2n _ z; omega) (by omega) (by omega)
  rw [hbl] at hev2
  rw [← hY] at hev2
  repeat' (first | refine stp ?_ | (refine stp2 ?_ ?_ <;> intro _))
  refine RD.callW n2 rfl opds hev2 (fun b q => .inl (.inr (.inl (hF2 b q)))) (Nat.le_refl _) cfw ?_
  rintro r2 n3 h3 k3 ⟨rfl, F4, G4, D4, hF4, hG4, e4⟩
  have e4 : ExtW F2 n2 h2 h3 := (ExtW.of (AH.below_ext h2 n2) (Nat.le_refl _)).trans e4 (Nat.le_refl _) (fun _ _ q => q)
  have B3 := kB n3 h3 _ k3 ⟨F4, G4, D4, hF4, hG4, e4⟩
  repeat' (first | refine stp ?_ | (refine stp2 ?_ ?_ <;> intro _))
  obtain ⟨T1', T2', P3, e5, -, -⟩ := P1.both A2 k2 B3 k3
  refine ⟨rfl, T1', T2', v, w, reS o Y.2, Y.2, P3, ?_, ?_, ?_, reS_ok⟩
  · exact (ExtW.of E1 (Nat.le_refl _)).trans e5 (by omega) (fun b _ q => q.imp id .inl)
  · rw [hY]; have := (write_b S 1 (x.at_ : Nat) b).1; omega
  · rw [hY]; have := (write_b S 1 (x.at_ : Nat) b).2; omega
end Go.Proofs.YtfbddbpbifnhfaaGreatDoor

/- A step of a script: the power comes back, and a log is opened. -/
namespace Go.Proofs.YtfbddbpbifnhfaaGreatDoor
open Go.Abs Cd

theorem trunc_sync_b (S : Dk.DS) (k : Nat) : (cutD S k).2.ps.length ≤ S.ps.length + 1 ∧ (cutD S k).2.calls ≤ S.calls + 2 := by
  obtain ⟨a1, a2⟩ := trunc_b S 1 (k : Nat)
  obtain ⟨b1, b2⟩ := sync_b (S.truncate 1 (k : Nat)).2 1
  unfold cutD
  split
  · exact ⟨a1, by omega⟩
  · exact ⟨by omega, by omega⟩
theorem openP_b (S : Dk.DS) (g : Int) : (openP S g).2.S.ps.length ≤ S.ps.length + 1 ∧ (openP S g).2.S.calls ≤ S.calls + 2 := by
  unfold openP
  split
  · exact ⟨Nat.le_succ _, by show S.calls ≤ _; omega⟩
  split
  · exact ⟨Nat.le_succ _, by show S.calls ≤ _; omega⟩
  dsimp only
  split
  · rw [show (logOf S g (S.now 1)).S = S from scan_S _ _ _]
    exact ⟨Nat.le_succ _, by omega⟩
  · exact trunc_sync_b S _
theorem opTo_of {d : Nat} {F G : Nat → Prop} {S : Dk.DS} {gen : Int} {n n' : Nat} {h g h' : AH} {r : Value} (E : Ext n h g) (q : OpTo d F G S gen n g r n' h') : OpTo d F G S gen n h r n' h' := by
  rcases q with ⟨q1, lg, T, q2, q3, q4, q5⟩ | ⟨q1, q2, F', G', q3, q4, q5, q6⟩
  · exact .inl ⟨q1, lg, T, q2, q3, q4, (ExtW.of E (Nat.le_refl _)).trans q5 (Nat.le_refl _) (fun _ _ q => q)⟩
  · exact .inr ⟨q1, q2, F', G', q3, q4, q5, (ExtW.of E (Nat.le_refl _)).trans q6 (Nat.le_refl _) (fun _ _ q => q)⟩
theorem ropTo_of {d : Nat} {F G : Nat → Prop} {S : Dk.DS} {gen : Int} {n n' : Nat} {h g h' : AH} {r : Value} (E : Ext n h g) (q : RopTo d F G S gen n g r n' h') : RopTo d F G S gen n h r n' h' := by
  rcases q with ⟨q1, lg, T, q2, q3, q4, q5⟩ | ⟨q1, q2, F', G', q3, q4, q5, q6⟩
  · exact .inl ⟨q1, lg, T, q2, q3, q4, (ExtW.of E (Nat.le_refl _)).trans q5 (Nat.le_refl _) (fun _ _ q => q)⟩
  · exact .inr ⟨q1, q2, F', G', q3, q4, q5, (ExtW.of E (Nat.le_refl _)).trans q6 (Nat.le_refl _) (fun _ _ q => q)⟩
def opO (Z : Int × LS) : Option LS := if Z.1 = 0 then some Z.2 else none
theorem OpTo.side {d : Nat} {T F G : Nat → Prop} {S : Dk.DS} {gen : Int} {n n' : Nat} {h h' : AH} {r : Value} (q : OpTo d F G S gen n h r n' h') (hF : ∀ b, F b → T b) (hG : ∀ b, G b → T b) :
    ∃ v, r = .tuple #[.pointer v, .int .i64 (openP S gen).1] ∧ (v = none ↔ (openP S gen).1 ≠ 0) ∧ (∀ a, v = some a → ∃ b, a = ⟨b, 0, none⟩) ∧ ToL n d T h v (opO (openP S gen)) (openP S gen).2.S n' h' := by
  unfold opO
  rcases q with ⟨q1, lg, T', q2, q3, q4, q5⟩ | ⟨q1, q2, F', G', q3, q4, q5, q6⟩
  · refine ⟨some ⟨lg, 0, none⟩, by rw [q1]; exact q2, ⟨fun w => (by cases w), fun w => absurd q1 w⟩, fun a w => ⟨lg, by cases w; rfl⟩, ?_⟩
    rw [if_pos q1]
    exact ⟨T', ⟨rfl, lg, rfl, q3⟩, fun b hb w => (q4 b hb w).elim (hF b) (hG b), q5.mono (Nat.le_refl _) (fun b _ w => hF b w)⟩
  · refine ⟨none, q2, ⟨fun _ => q1, fun _ => rfl⟩, fun a w => (by cases w), ?_⟩
    rw [if_neg q1]
    exact ⟨_, ⟨rfl, F', G', q3, rfl⟩, fun b hb w => w.elim (fun w => hF b (q4 b hb w)) (fun w => hG b (q5 b hb w)), q6.mono (Nat.le_refl _) (fun b _ w => hF b w)⟩
theorem RopTo.side {d : Nat} {T F G : Nat → Prop} {S : Dk.DS} {gen : Int} {n n' : Nat} {h h' : AH} {r : Value} (q : RopTo d F G S gen n h r n' h') (hF : ∀ b, F b → T b) (hG : ∀ b, G b → T b) :
    ∃ v, r = .tuple #[.pointer v, .int .i64 (openP S gen).1] ∧ (v = none ↔ (openP S gen).1 ≠ 0) ∧ (∀ a, v = some a → ∃ b, a = ⟨b, 0, none⟩) ∧ ToR n d T h v (opO (openP S gen)) (openP S gen).2.S n' h' := by
  unfold opO
  rcases q with ⟨q1, lg, T', q2, q3, q4, q5⟩ | ⟨q1, q2, F', G', q3, q4, q5, q6⟩
  · refine ⟨some ⟨lg, 0, none⟩, by rw [q1]; exact q2, ⟨fun w => (by cases w), fun w => absurd q1 w⟩, fun a w => ⟨lg, by cases w; rfl⟩, ?_⟩
    rw [if_pos q1]
    exact ⟨T', ⟨rfl, lg, rfl, q3⟩, fun b hb w => (q4 b hb w).elim (hF b) (hG b), q5.mono (Nat.le_refl _) (fun b _ w => hF b w)⟩
  · refine ⟨none, q2, ⟨fun _ => q1, fun _ => rfl⟩, fun a w => (by cases w), ?_⟩
    rw [if_neg q1]
    exact ⟨_, ⟨rfl, F', G', q3, rfl⟩, fun b hb w => w.elim (fun w => hF b (q4 b hb w)) (fun w => hG b (q5 b hb w)), q6.mono (Nat.le_refl _) (fun b _ w => hF b w)⟩
theorem PS.anew {h h1 h2 : AH} {n0 n n1 n2 p d r : Nat} {T1 T2 : Nat → Prop} {v w v' w' : Option Addr} {o o' : Option LS} {S S' : Dk.DS} (P : PS h n0 n p d r T1 T2 v w o S) (A : ToL n d T1 h v' o' S' n1 h1) (hn : n ≤ n1) (B : ToR n1 r T2 h1 w' o' S' n2 h2) (hn2 : n1 ≤ n2) :
    ∃ T1' T2', PS ((h2.app (.sets p 1 [.pointer v'])).app (.sets p 3 [.pointer w'])) n0 n2 p d r T1' T2' v' w' o' S' ∧ ExtW (fun b => T1 b ∨ T2 b ∨ b = p) n h ((h2.app (.sets p 1 [.pointer v'])).app (.sets p 3 [.pointer w'])) := by
  obtain ⟨T1', A', hA, eA⟩ := A
  obtain ⟨T2', B', hB, eB⟩ := B
  have hp := P.hi
  have n1p : ¬ T1 p := fun q => (P.t1 p q).2.1 rfl
  have n2p : ¬ T2 p := fun q => (P.t2 p q).2 rfl
  have lt2 := P.b.lt
  have ltA := A'.lt
  have ci : ∀ {i : Nat} {x : Value}, h.cell p i = x → h2.cell p i = x := fun q => c_extW eB (by omega) n2p (c_extW eA hp n1p q)
  have k0 := ci P.c0
  have k2 := ci P.c2
  have ki := i_extW eB (by omega) n2p (i_extW eA hp n1p P.inf)
  have hA2 : ∀ b, T1' b → ¬ T2 b := fun b q w => by
    have := lt2 b w
    exact (P.t1 b (hA b this q)).2.2 w
  have hAp : ∀ b, T1' b → b ≠ p := fun b q z => by subst z; exact n1p (hA _ hp q)
  have hBp : ∀ b, T2' b → b ≠ p := fun b q z => by subst z; exact n2p (hB _ (by omega) q)
  have eS : ExtW (fun b => b = p) n2 h2 ((h2.app (.sets p 1 [.pointer v'])).app (.sets p 3 [.pointer w'])) := ExtW.appSets (.inl rfl) (ExtW.appSets (.inl rfl) (ExtW.refl _ _ _))
  refine ⟨T1', T2', ⟨P.lo, by omega, info, cell, cell, cell, cell, (A'.extW eB hn2 hA2).extW eS (Nat.le_refl _) hAp, B'.extW eS (Nat.le_refl _) hBp, fun b q => ?_, fun b q => ?_⟩, ?_⟩
  · have := ltA b q
    refine ⟨?_, hAp b q, fun w => ?_⟩
    · by_cases z : b < n
      · exact (P.t1 b (hA b z q)).1
      · have := P.lo; omega
    · exact hA2 b q (hB b this w)
  · refine ⟨?_, hBp b q⟩
    by_cases z : b < n1
    · exact (P.t2 b (hB b z q)).1
    · have := P.lo; omega
  · exact ((eA.mono (Nat.le_refl _) (fun b _ q => .inl q)).trans eB hn (fun b _ q => .inr (.inl q))).trans eS (by omega) (fun b _ q => .inr (.inr q))
end Go.Proofs.YtfbddbpbifnhfaaGreatDoor

/- A step of a script: the power comes back, and a log is opened. -/
namespace Go.Proofs.YtfbddbpbifnhfaaGreatDoor
open Go.Abs Cd

set_option maxHeartbeats 4000000 in
theorem step_open {h0 h : AH} {n0 n p d r m : Nat} {T1 T2 : Nat → Prop} {v w : Option Addr} {o : Option LS} {S : Dk.DS} (P : PS h n0 n p d r T1 T2 v w o S) (x : OpE) (ok0 : x.Ok h0 n0 m) (E0 : Ext n0 h0 h) (hn0 : n0 ≤ n) (hm : m ≤ 1048576) (hdo : x.do_ ≠ 0 ∧ x.do_ ≠ 1 ∧ x.do_ ≠ 3 ∧ x.do_ ≠ 4 ∧ x.do_ ≠ 5) (hps : S.ps.length ≤ 1099511000000) (hcl : S.calls < 4611686018427387900) (hpos : 0 < n) :
    RF Tryz.prog (fun b => T1 b ∨ T2 b ∨ b = p) 7 #[.pointer (some ⟨p, 0, none⟩), .agg x.cells.toArray] n h (StTo n0 n p d r T1 T2 o S h) := by
  unfold OpE.cells
  refine RF.of Tryz.func7 rfl rfl (Nat.le_of_ble_eq_true rfl) ?_; dsimp only [argEnv]
  have ok := ok0.ext E0 hn0
  have hp := P.hi
  have d0 := P.c0
  have d2 := P.c2
  have hnp1 : ¬ T1 p := fun q => (P.t1 p q).2.1 rfl
  have hnp2 : ¬ T2 p := fun q => (P.t2 p q).2 rfl
  have hT1 := P.a.lt
  have hT2 := P.b.lt
  have hmy := ok.many
  have hat := ok.at_
  have hkl := ok.kl
  obtain ⟨hnm1, hnm2⟩ := ok.num
  obtain ⟨hgn1, hgn2⟩ := ok.gen
  obtain ⟨z0, z1, z3, z4, z5⟩ := hdo
  repeat' (first | refine stpS ?_ | (refine stp2 ?_ ?_ <;> intro _))
  obtain ⟨g1, hg⟩ : ∃ g1, g1 = h.app (.new n ⟨7, 0, true, 0⟩ [.int .i64 x.do_, .slice x.ra x.rl.length x.rl.length, .int .u16 (x.many : Nat), .int .i64 x.gen, .int .u16 (x.at_ : Nat), .int .i64 x.num, .slice x.ka x.keep.length x.keep.length]) := ⟨_, rfl⟩
  refine RC.heap hg ?_
  have E1 : Ext n h g1 := by rw [hg]; exact ext
  have y0 : g1.cell n 0 = .int .i64 x.do_ := by rw [hg]; exact cell
  have y1 : g1.cell n 1 = .slice x.ra x.rl.length x.rl.length := by rw [hg]; exact cell
  have y2 : g1.cell n 2 = .int .u16 (x.many : Nat) := by rw [hg]; exact cell
  have y3 : g1.cell n 3 = .int .i64 x.gen := by rw [hg]; exact cell
  have y4 : g1.cell n 4 = .int .u16 (x.at_ : Nat) := by rw [hg]; exact cell
  have y5 : g1.cell n 5 = .int .i64 x.num := by rw [hg]; exact cell
  have y6 : g1.cell n 6 = .slice x.ka x.keep.length x.keep.length := by rw [hg]; exact cell
  have yi : g1.info n = some ⟨7, 0, true, 0⟩ := by rw [hg]; exact info
  clear hg
  have P1 := P.ext E1 (Nat.le_succ n)
  have d0 := P1.c0
  have d2 := P1.c2
  obtain ⟨F1, G1, D1, hF1, hG1, kA⟩ := P1.a.disk
  have hF1n : ∀ b, F1 b → b < n := fun b q => hT1 b (hF1 b q)
  have hnF1 : ¬ F1 p := fun q => hnp1 (hF1 p q)
  have hev1 := Dk.restart_dk (D1.ext (AH.below_ext g1 (n + 1)) (Nat.le_refl _))
  repeat' (first | refine stp ?_ | (refine stp2 ?_ ?_ <;> intro _))
  refine RD.callW (n + 1) rfl opds hev1 (fun b q => .inl (.inl (hF1 b q))) (Nat.le_refl _) cfw ?_
  rintro r1 n2 h2 k2 ⟨rfl, F3, G3, D3, hF3, hG3, e3⟩
  have e3 : ExtW F1 (n + 1) g1 h2 := (ExtW.of (AH.below_ext g1 (n + 1)) (Nat.le_refl _)).trans e3 (Nat.le_refl _) (fun _ _ q => q)
  have hnF1n : ¬ F1 n := fun q => by have := hF1n n q; omega
  have d2 : h2.cell p 2 = .pointer (some ⟨r, 0, none⟩) := c_extW e3 (by omega) hnF1 d2
  have y3 : h2.cell n 3 = .int .i64 x.gen := c_extW e3 (by omega) hnF1n y3
  have y4 : h2.cell n 4 = .int .u16 (x.at_ : Nat) := c_extW e3 (by omega) hnF1n y4
  have y5 : h2.cell n 5 = .int .i64 x.num := c_extW e3 (by omega) hnF1n y5
  have y6 : h2.cell n 6 = .slice x.ka x.keep.length x.keep.length := c_extW e3 (by omega) hnF1n y6
  have A2 := kA n2 h2 _ k2 ⟨F3, G3, D3, hF3, hG3, e3⟩
  have B2 := P1.b.extW e3 k2 (fun b q z => (P.t1 b (hF1 b z)).2.2 q)
  obtain ⟨F2, G2, D2, hF2, hG2, kB⟩ := B2.disk
  have hF2n : ∀ b, F2 b → b < n := fun b q => hT2 b (hF2 b q)
  have hF2n2 : ∀ b, F2 b → b < n2 := fun b q => by have := hT2 b (hF2 b q); omega
  have hnF2 : ¬ F2 p := fun q => hnp2 (hF2 p q)
  have hnF2n : ¬ F2 n := fun q => by have := hF2n n q; omega
  have hev2 := Dk.rrestart_rk (D2.ext (AH.below_ext h2 n2) (Nat.le_refl _))
  repeat' (first | refine stp ?_ | (refine stp2 ?_ ?_ <;> intro _))
  refine RD.callW n2 rfl opds hev2 (fun b q => .inl (.inr (.inl (hF2 b q)))) (Nat.le_refl _) cfw ?_
  rintro r2 n3 h3 k3 ⟨rfl, F4, G4, D4, hF4, hG4, e4⟩
  have e4 : ExtW F2 n2 h2 h3 := (ExtW.of (AH.below_ext h2 n2) (Nat.le_refl _)).trans e4 (Nat.le_refl _) (fun _ _ q => q)
  have B3 := kB n3 h3 _ k3 ⟨F4, G4, D4, hF4, hG4, e4⟩
  repeat' (first | refine stp ?_ | (refine stp2 ?_ ?_ <;> intro _))
  obtain ⟨T1', T2', P3, e5, hs1, hs2⟩ := P1.both A2 k2 B3 k3
  have hlt5 := P3.hi
  have d0 := P3.c0
  have d2 := P3.c2
  have hnn : ¬ (T1 n ∨ T2 n) := fun q => q.elim (fun q => by have := hT1 n q; omega) (fun q => by have := hT2 n q; omega)
  have y3 : h3.cell n 3 = .int .i64 x.gen := c_extW e4 (by omega) hnF2n y3
  obtain ⟨F5, G5, D5, hF5, hG5, -⟩ := P3.a.disk
  have hT1' := P3.a.lt
  have hT2' := P3.b.lt
  have hnp1' : ¬ T1' p := fun q => (P3.t1 p q).2.1 rfl
  have hnp2' : ¬ T2' p := fun q => (P3.t2 p q).2 rfl
  have hnn1 : ¬ T1' n := fun q => hnn (.inl (hs1 n (Nat.lt_succ_self n) q))
  have hnn2 : ¬ T2' n := fun q => hnn (.inr (hs2 n (Nat.lt_succ_self n) q))
  have hF5n : ∀ b, F5 b → b < n3 := fun b q => hT1' b (hF5 b q)
  have hnF5 : ¬ F5 p := fun q => hnp1' (hF5 p q)
  have hnF5n : ¬ F5 n := fun q => hnn1 (hF5 n q)
  have hob := open_rf (D5.ext (AH.below_ext h3 n3) (Nat.le_refl _)) x.gen (by show S.ps.length < _; omega) (by show S.calls < _; omega) (by omega)
  have hW1 : ∀ b, T1' b → (T1 b ∨ T2 b ∨ b = p) ∨ n ≤ b := fun b q => by
    by_cases z : b < n
    · exact .inl (.inl (hs1 b (by omega) q))
    · exact .inr (by omega)
  have hW2 : ∀ b, T2' b → (T1 b ∨ T2 b ∨ b = p) ∨ n ≤ b := fun b q => by
    by_cases z : b < n
    · exact .inl (.inr (.inl (hs2 b (by omega) q)))
    · exact .inr (by omega)
  have hTp : T1 p ∨ T2 p ∨ p = p := .inr (.inr rfl)
  repeat' (first | refine stpS ?_ | (refine stp2 ?_ ?_ <;> intro _))
  repeat' (first | refine stp ?_ | (refine stp2 ?_ ?_ <;> intro _))
  refine RD.callW n3 rfl opds hob (fun b q => hW1 b (hF5 b q)) (Nat.le_refl _) cfw ?_
  rintro r5 n6 h6 k6 hq6
  obtain ⟨vA, rfl, hvA, hvA2, A6⟩ := (opTo_of (AH.below_ext h3 n3) hq6).side hF5 hG5
  obtain ⟨TA, -, hTA, e6⟩ := id A6
  have B6 := P3.b.extW e6 k6 (fun b q z => (P3.t1 b z).2.2 q)
  obtain ⟨F6, G6, D6, hF6, hG6, -⟩ := B6.disk
  have y3 : h6.cell n 3 = .int .i64 x.gen := c_extW e6 (by omega) hnn1 y3
  have d2 : h6.cell p 2 = .pointer (some ⟨r, 0, none⟩) := c_extW e6 hlt5 hnp1' d2
  have hF6n : ∀ b, F6 b → b < n6 := fun b q => by have := hT2' b (hF6 b q); omega
  have hnF6 : ¬ F6 p := fun q => hnp2' (hF6 p q)
  have hnF6n : ¬ F6 n := fun q => hnn2 (hF6 n q)
  have hob2 := refOpen_rf (D6.ext (AH.below_ext h6 n6) (Nat.le_refl _)) x.gen (by show S.ps.length < _; omega) (by show S.calls < _; omega) (by omega)
  repeat' (first | refine stp ?_ | (refine stp2 ?_ ?_ <;> intro _))
  repeat' (first | refine stpS ?_ | (refine stp2 ?_ ?_ <;> intro _))
  repeat' (first | refine stp ?_ | (refine stp2 ?_ ?_ <;> intro _))
  refine RD.callW n6 rfl opds hob2 (fun b q => hW2 b (hF6 b q)) (Nat.le_refl _) cfw ?_
  rintro r7 n8 h8 k8 hq8
  obtain ⟨wB, rfl, hwB, hwB2, B8⟩ := (ropTo_of (AH.below_ext h6 n6) hq8).side hF6 hG6
  obtain ⟨TB, -, hTB, e8⟩ := id B8
  obtain ⟨b1, b2⟩ := openP_b S.restart x.gen
  obtain ⟨Z, hZ⟩ : ∃ Z, Z = openP S.restart x.gen := ⟨_, rfl⟩
  rw [← hZ] at A6 B8 b1 b2 hvA hwB ⊢
  have hokO : OkO (opO Z) := openP_ok (D5.ok.now 1) hZ (by unfold opO; split; exact .inr rfl; exact .inl rfl)
  clear hZ
  obtain ⟨T1'', T2'', P9, e9⟩ := P3.anew A6 k6 B8 k8
  have ip : h8.info p = some ⟨4, 0, true, 0⟩ := i_extW e8 (by omega) hnp2' (i_extW e6 hlt5 hnp1' P3.inf)
  have c8 : ∀ {i : Nat} {y : Value}, h3.cell p i = y → h8.cell p i = y := fun q => c_extW e8 (by omega) hnp2' (c_extW e6 hlt5 hnp1' q)
  have c80 := c8 P3.c0
  have c81 := c8 P3.c1
  have c82 := c8 P3.c2
  have c83 := c8 P3.c3
  have hlt8 : p < n8 := by omega
  have fin : StTo n0 n p d r T1 T2 o S h (.bool true) n8 ((h8.app (.sets p 1 [.pointer vA])).app (.sets p 3 [.pointer wB])) := by
    refine ⟨rfl, T1'', T2'', vA, wB, opO Z, Z.2.S, P9, ?_, by have : S.restart.ps.length = S.ps.length := rfl; omega, by have : S.restart.calls = S.calls := rfl; omega, fun _ => hokO⟩
    refine ((ExtW.of E1 (Nat.le_refl _)).trans (e5.mono (Nat.le_refl _) (fun b _ q => q.imp id .inl)) (by omega) (fun b _ q => q)).trans e9 (by omega) (fun b hb q => ?_)
    rcases q with q | q | q
    · exact .inl (hs1 b (by omega) q)
    · exact .inr (.inl (hs2 b (by omega) q))
    · exact .inr (.inr q)
  clear P9 e9 A6 B8
  obtain ⟨z, Z2⟩ := Z
  dsimp only at hvA hwB b1 b2 ⊢
  by_cases hz : z = 0
  · obtain ⟨aA, haA⟩ : ∃ a, vA = some a := Option.ne_none_iff_exists'.1 (fun q => hvA.1 q hz)
    obtain ⟨aB, haB⟩ : ∃ a, wB = some a := Option.ne_none_iff_exists'.1 (fun q => hwB.1 q hz)
    obtain ⟨bA, rfl⟩ := hvA2 _ haA
    obtain ⟨bB, rfl⟩ := hwB2 _ haB
    subst haA haB
    repeat' (first | refine stp ?_ | (refine stp2 ?_ ?_ <;> intro _))
    repeat' (first | refine stpS ?_ | (refine stp2 ?_ ?_ <;> intro _))
    exact fin
  · have haA := hvA.2 hz
    have haB := hwB.2 hz
    subst haA haB
    repeat' (first | refine stp ?_ | (refine stp2 ?_ ?_ <;> intro _))
    repeat' (first | refine stpS ?_ | (refine stp2 ?_ ?_ <;> intro _))
    exact fin
end Go.Proofs.YtfbddbpbifnhfaaGreatDoor

/- A step of a script: the log of another generation is begun. -/
namespace Go.Proofs.YtfbddbpbifnhfaaGreatDoor
open Go.Abs Cd

theorem cut0_b (S : Dk.DS) (k : Nat) : (cutD S k).2.ps.length ≤ S.ps.length + 1 ∧ (cutD S k).2.calls ≤ S.calls + 2 := by
  obtain ⟨a1, a2⟩ := trunc_b S 1 (k : Nat)
  obtain ⟨b1, b2⟩ := sync_b (S.truncate 1 (k : Nat)).2 1
  unfold cutD
  split
  · exact ⟨a1, by omega⟩
  · exact ⟨by omega, by omega⟩
theorem resetP_b (X : LS) (g : Int) : (resetP X g).2.S.ps.length ≤ X.S.ps.length + 1 ∧ (resetP X g).2.S.calls ≤ X.S.calls + 2 := by
  unfold resetP
  split
  · exact ⟨Nat.le_succ _, by show X.S.calls ≤ _; omega⟩
  split
  · exact cut0_b X.S 0
  · exact cut0_b X.S 0
set_option maxHeartbeats 4000000 in
theorem step_reset {h0 h : AH} {n0 n p d r m : Nat} {T1 T2 : Nat → Prop} {v w : Option Addr} {o : Option LS} {S : Dk.DS} (P : PS h n0 n p d r T1 T2 v w o S) (x : OpE) (ok0 : x.Ok h0 n0 m) (E0 : Ext n0 h0 h) (hn0 : n0 ≤ n) (hm : m ≤ 1048576) (hdo : x.do_ = 1) (hps : S.ps.length ≤ 1099511000000) (hcl : S.calls < 4611686018427387900) (hpos : 0 < n) :
    RF Tryz.prog (fun b => T1 b ∨ T2 b ∨ b = p) 7 #[.pointer (some ⟨p, 0, none⟩), .agg x.cells.toArray] n h (StTo n0 n p d r T1 T2 o S h) := by
  unfold OpE.cells
  refine RF.of Tryz.func7 rfl rfl (Nat.le_of_ble_eq_true rfl) ?_; dsimp only [argEnv]
  have ok := ok0.ext E0 hn0
  have hp := P.hi
  have d0 := P.c0
  have d2 := P.c2
  have hnp1 : ¬ T1 p := fun q => (P.t1 p q).2.1 rfl
  have hnp2 : ¬ T2 p := fun q => (P.t2 p q).2 rfl
  have hT1 := P.a.lt
  have hT2 := P.b.lt
  have hmy := ok.many
  have hat := ok.at_
  have hkl := ok.kl
  obtain ⟨hnm1, hnm2⟩ := ok.num
  obtain ⟨hgn1, hgn2⟩ := ok.gen
  have d1 := P.c1
  have d3 := P.c3
  have hnn1 : ¬ T1 n := fun q => by have := hT1 n q; omega
  have hnn2 : ¬ T2 n := fun q => by have := hT2 n q; omega
  have PA := P.a
  have PB := P.b
  cases o with
  | none =>
    obtain ⟨rfl, -⟩ := PA
    obtain ⟨rfl, -⟩ := PB
    repeat' (first | refine stpS ?_ | (refine stp2 ?_ ?_ <;> intro _))
    repeat' (first | refine stp ?_ | (refine stp2 ?_ ?_ <;> intro _))
    repeat' (first | refine stpS ?_ | (refine stp2 ?_ ?_ <;> intro _))
    exact ⟨rfl, T1, T2, none, none, none, S, P.ext ext (Nat.le_succ n), ExtW.of ext (Nat.le_refl _), by omega, by omega, fun q => q⟩
  | some X =>
  obtain ⟨rfl, lg, rfl, RA⟩ := PA
  obtain ⟨-, rg, rfl, RB⟩ := PB
  repeat' (first | refine stpS ?_ | (refine stp2 ?_ ?_ <;> intro _))
  obtain ⟨g1, hg⟩ : ∃ g1, g1 = h.app (.new n ⟨7, 0, true, 0⟩ [.int .i64 x.do_, .slice x.ra x.rl.length x.rl.length, .int .u16 (x.many : Nat), .int .i64 x.gen, .int .u16 (x.at_ : Nat), .int .i64 x.num, .slice x.ka x.keep.length x.keep.length]) := ⟨_, rfl⟩
  refine RC.heap hg ?_
  have E1 : Ext n h g1 := by rw [hg]; exact ext
  have y0 : g1.cell n 0 = .int .i64 x.do_ := by rw [hg]; exact cell
  have y1 : g1.cell n 1 = .slice x.ra x.rl.length x.rl.length := by rw [hg]; exact cell
  have y2 : g1.cell n 2 = .int .u16 (x.many : Nat) := by rw [hg]; exact cell
  have y3 : g1.cell n 3 = .int .i64 x.gen := by rw [hg]; exact cell
  have y4 : g1.cell n 4 = .int .u16 (x.at_ : Nat) := by rw [hg]; exact cell
  have y5 : g1.cell n 5 = .int .i64 x.num := by rw [hg]; exact cell
  have y6 : g1.cell n 6 = .slice x.ka x.keep.length x.keep.length := by rw [hg]; exact cell
  have yi : g1.info n = some ⟨7, 0, true, 0⟩ := by rw [hg]; exact info
  clear hg
  have P1 := P.ext E1 (Nat.le_succ n)
  have d0 := P1.c0
  have d2 := P1.c2
  have d1 := P1.c1
  have d3 := P1.c3
  obtain ⟨Z, hZ⟩ : ∃ Z, Z = resetP X x.gen := ⟨_, rfl⟩
  have RA1 := RA.ext E1 (Nat.le_succ n)
  have hev1 := reset_rf (RA1.ext (AH.below_ext g1 (n + 1)) (Nat.le_refl _)) x.gen hps hcl (by omega)
  rw [← hZ] at hev1
  repeat' (first | refine stp ?_ | (refine stp2 ?_ ?_ <;> intro _))
  refine RD.callW (n + 1) rfl opds hev1 (fun b q => .inl (.inl q)) (Nat.le_refl _) cfw ?_
  rintro r1 n2 h2 k2 ⟨rfl, T3, R3, hT3, e3⟩
  have e3 : ExtW T1 (n + 1) g1 h2 := (ExtW.of (AH.below_ext g1 (n + 1)) (Nat.le_refl _)).trans e3 (Nat.le_refl _) (fun _ _ q => q)
  have d3 : h2.cell p 3 = .pointer (some ⟨rg, 0, none⟩) := c_extW e3 (by omega) hnp1 d3
  have y3 : h2.cell n 3 = .int .i64 x.gen := c_extW e3 (by omega) hnn1 y3
  have RB2 := (RB.ext E1 (Nat.le_succ n)).extW e3 k2 (fun b q z => (P.t1 b z).2.2 q)
  have hT2n2 : ∀ b, T2 b → b < n2 := fun b q => by have := hT2 b q; omega
  have hev2 := refReset_rf (RB2.ext (AH.below_ext h2 n2) (Nat.le_refl _)) x.gen hps hcl (by omega)
  rw [← hZ] at hev2
  repeat' (first | refine stp ?_ | (refine stp2 ?_ ?_ <;> intro _))
  refine RD.callW n2 rfl opds hev2 (fun b q => .inl (.inr (.inl q))) (Nat.le_refl _) cfw ?_
  rintro r2 n3 h3 k3 ⟨rfl, T4, R4, hT4, e4⟩
  have e4 : ExtW T2 n2 h2 h3 := (ExtW.of (AH.below_ext h2 n2) (Nat.le_refl _)).trans e4 (Nat.le_refl _) (fun _ _ q => q)
  repeat' (first | refine stp ?_ | (refine stp2 ?_ ?_ <;> intro _))
  repeat' (first | refine stpS ?_ | (refine stp2 ?_ ?_ <;> intro _))
  obtain ⟨T1', T2', P3, e5, -, -⟩ := P1.both (o' := some Z.2) (S' := Z.2.S) ⟨T3, ⟨rfl, lg, rfl, R3⟩, hT3, e3⟩ k2 ⟨T4, ⟨rfl, rg, rfl, R4⟩, hT4, e4⟩ k3
  obtain ⟨b1, b2⟩ := resetP_b X x.gen
  rw [← hZ] at b1 b2
  exact ⟨rfl, T1', T2', _, _, some Z.2, Z.2.S, P3, (ExtW.of E1 (Nat.le_refl _)).trans e5 (by omega) (fun b _ q => q.imp id .inl), by omega, by omega, by rw [hZ]; exact resetP_ok⟩
end Go.Proofs.YtfbddbpbifnhfaaGreatDoor

/- Contracts of wal: a commit is there when the log is opened again (begun). -/
namespace Go.Proofs.YtfbddbpbifnhfaaGreatDoor
open Go.Abs Cd

theorem slq_one (l : List UInt8) (n : Nat) (h : AH) {c : Option Addr} (S : SlB h n c l) : SlQ (h.app (.new n ⟨1, 0, true, 1⟩ [.slice c l.length l.length])) (n + 1) (some ⟨n, 0, none⟩) (fun j => (([(c, l)] : List (Option Addr × List UInt8)).getD j (none, [])).1) [l] :=
  slq_new [(c, l)] (fun x hx => by rw [List.mem_singleton.1 hx]; exact S)
theorem lgc_one (l : List (List UInt8)) (c : Option Addr) (n : Nat) (h : AH) : SlR (h.app (.new n ⟨1, 0, true, 1⟩ [.slice c l.length l.length])) (n + 1) (some ⟨n, 0, none⟩) 1 1 (fun j => (lgC [(c, l)]).getD j (.tuple #[])) :=
  (OwnSl.new (h := h) (n0 := 0) (m := 1) (z := 1) (cs := [.slice c l.length l.length]) (Nat.zero_le n) rfl rfl).slr
theorem ab_facts : okC [[97, 98]] ∧ sizeL [[97, 98]] ≤ 262144 ∧ (fillB (dataB [[97, 98]])).length = 512 := by
  have h1 := form_le ((1 : Nat) : Int) (by omega) (by omega)
  have h2 := flat_formB [[97, 98]] (by simp [sizeL])
  have h3 : sizeL [[97, 98]] = 3 := by simp [sizeL]
  have h4 := dataB_pos [[97, 98]]
  have h5 : (dataB [[97, 98]]).length ≤ 15 := by
    unfold dataB
    rw [List.length_append]
    show (form ((1 : Nat) : Int)).length + _ ≤ 15
    omega
  have h6 := fillB_length (dataB [[97, 98]])
  unfold okC
  generalize (fillB (dataB [[97, 98]])).length = z at *
  generalize (dataB [[97, 98]]).length = y at *
  refine ⟨⟨by simp, by simp, by omega⟩, by rw [h3]; decide, by omega⟩
theorem begun_plain : ∃ S', commitP ⟨Dk.DS.init, 3, [], 0⟩ [[97, 98]] = (0, ⟨S', 3, [[[97, 98]]], 1024⟩) ∧ On ⟨S', 3, [[[97, 98]]], 1024⟩ := by
  obtain ⟨f1, f2, f3⟩ := ab_facts
  rcases commitP_on (on_init 3 (by decide)) [[97, 98]] (by decide) with ⟨-, -, q⟩ | ⟨-, -, S', e, o⟩
  · rcases q with q | q | q
    · omega
    · exact absurd f1 q
    · rw [f3] at q; exact absurd q (by decide)
  · rw [f3] at e o
    exact ⟨S', e, o⟩
theorem CmK.ext {q n n1 : Nat} {a : Option Addr} {N : List CmA} {h h1 : AH} (K : CmK q a N n h) (E : Ext n h h1) (hn : n ≤ n1) : CmK q a N n1 h1 :=
  ⟨Nat.lt_of_lt_of_le K.lt hn, c_ext E K.lt K.c0, K.sl.ext E hn, fun x hx => by obtain ⟨ad, S⟩ := K.cm x hx; exact ⟨ad, S.ext E hn⟩⟩
set_option maxHeartbeats 4000000 in
theorem begun_rf (n : Nat) (h : AH) (hn0 : 0 < n) : RF Tryz.prog none' 6 #[] n h (fun r n' h' => r = .bool true ∧ Ext n h h') := by
  refine RF.of Tryz.func6 rfl rfl (Nat.le_of_ble_eq_true rfl) ?_; dsimp only [argEnv]
  repeat' (first | refine stpS ?_ | (refine stp2 ?_ ?_ <;> intro _))
  refine RS.call rfl opds (Dk.new_rf n h hn0) none'W ?_
  rintro r n1 h1 k1 ⟨d, F, G, rfl, D, hF, hG, E1⟩
  repeat' (first | refine stpS ?_ | (refine stp2 ?_ ?_ <;> intro _))
  refine RS.call rfl opds (open_rf D 3 (by decide) (by decide) (by omega)) (fun b hb => .inr (hF b hb)) ?_
  rintro r n2 h2 k2 hop
  have h0 : openP Dk.DS.init 3 = (0, ⟨Dk.DS.init, 3, [], 0⟩) := openP_on (on_init 3 (by decide))
  unfold OpTo at hop
  rw [h0] at hop
  rcases hop with ⟨-, lg, T, rfl, R2, hT, e2⟩ | ⟨q, -⟩
  rotate_left
  · exact absurd rfl q
  dsimp only at R2
  have hTn : ∀ b, T b → n ≤ b := fun b hb => by
    by_cases w : b < n1
    · rcases hT b w hb with q | q
      · exact hF b q
      · exact absurd q (hG b)
    · omega
  have E2 : Ext n h h2 := E1.viaW e2 k1 hF
  have hTlt := R2.lt
  repeat' (first | refine stpS ?_ | (refine stp2 ?_ ?_ <;> intro _))
  refine RS.put rfl rfl (op_convSame Uc.out Uc.out (Opd.ev opd) (by omega) info (by decide)) ?_
  repeat' (first | refine stpS ?_ | (refine stp2 ?_ ?_ <;> intro _))
  obtain ⟨g3, hg⟩ : ∃ g3, g3 = (h2.app (.new n2 ⟨2, 0, true, 1⟩ [.int .u8 97, .int .u8 98])).app (.new (n2 + 1) ⟨1, 0, true, 1⟩ [.slice (some ⟨n2, 0, none⟩) 2 2]) := ⟨_, rfl⟩
  refine RS.heap hg ?_
  have E3 : Ext n2 h2 g3 := by rw [hg]; exact ext
  have S3 : SlQ g3 (n2 + 1 + 1) (some ⟨n2 + 1, 0, none⟩) (fun j => (([(some ⟨n2, 0, none⟩, [97, 98])] : List (Option Addr × List UInt8)).getD j (none, [])).1) [[97, 98]] := by
    rw [hg]; exact slq_one [97, 98] (n2 + 1) _ (slb_new [97, 98] n2 h2)
  clear hg
  have R3 := R2.ext E3 (by omega : n2 ≤ n2 + 1 + 1)
  have hcom := commit_rf R3 [[97, 98]] _ _ S3 (fun _ q => by have := hTlt _ q; exact absurd this (by show ¬ n2 + 1 < n2; omega)) (fun j hj _ q => by
    have hj : j = 0 := by simp at hj; omega
    subst hj
    have := hTlt _ q
    exact absurd this (by show ¬ n2 < n2; omega)) (by decide) (by decide) (by decide) (by decide) (by omega)
  obtain ⟨S', hcp, hon⟩ := begun_plain
  rw [hcp] at hcom
  dsimp only at hcom
  refine RS.call rfl opds hcom (fun b hb => .inr (hTn b hb)) ?_
  rintro r n4 h4 k4 ⟨rfl, T4, R4, hT4, e4⟩
  have hTn4 : ∀ b, T4 b → n ≤ b := fun b hb => by
    by_cases w : b < n2 + 1 + 1
    · exact hTn b (hT4 b w hb)
    · omega
  have E4 : Ext n h h4 := (E2.trans (by omega) E3).viaW e4 (by omega) hTn
  have hps : S'.ps.length < 1099511627775 ∧ S'.calls < 4611686018427387900 := by
    have := commitP_b ⟨Dk.DS.init, 3, [], 0⟩ [[97, 98]] (by decide) (by decide)
    rw [hcp] at this
    have t1 : S'.ps.length ≤ 0 + 1000000 := this.1
    have t2 : S'.calls ≤ 0 + 4 := this.2
    omega
  repeat' (first | refine stpS ?_ | (refine stp2 ?_ ?_ <;> intro _))
  have hend : Ev Tryz.prog none' 16 #[.pointer (some ⟨lg, 0, none⟩)] n4 h4 (.int .i64 1024) n4 h4 := end_ev' R4
  refine RS.call1 rfl opds hend none'W ?_
  repeat' (first | refine stpS ?_ | (refine stp2 ?_ ?_ <;> intro _))
  obtain ⟨F4, G4, a4, N4, B4, L4, rfl⟩ := R4
  refine RS.call rfl opds (open_rf L4.dk 3 hps.1 hps.2 (by omega)) (fun b hb => .inr (hTn4 b (.inl hb))) ?_
  rintro r n5 h5 k5 hop
  have h5' : openP S' 3 = (0, ⟨S', 3, [[[97, 98]]], 1024⟩) := openP_on hon
  unfold OpTo at hop
  dsimp only at hop
  rw [h5'] at hop
  rcases hop with ⟨-, lg5, T5, rfl, R5, -, e5⟩ | ⟨q, -⟩
  rotate_left
  · exact absurd rfl q
  dsimp only at R5
  have E5 : Ext n h h5 := E4.viaW e5 (by omega) (fun b hb => hTn4 b (.inl hb))
  repeat' (first | refine stpS ?_ | (refine stp2 ?_ ?_ <;> intro _))
  have hmany : Ev Tryz.prog none' 17 #[.pointer (some ⟨lg5, 0, none⟩)] n5 h5 (.int .i64 1) n5 h5 := many_ev R5
  refine RS.call1 rfl opds hmany none'W ?_
  repeat' (first | refine stpS ?_ | (refine stp2 ?_ ?_ <;> intro _))
  obtain ⟨F5, G5, a5, N5, B5, L5, hT5⟩ := R5
  refine RS.call rfl opds (commits_rf L5) none'W ?_
  rintro r n6 h6 k6 ⟨q6, a6, rfl, E6, hq6, K6⟩
  repeat' (first | refine stpS ?_ | (refine stp2 ?_ ?_ <;> intro _))
  clear hend hmany hps hon hcp h5' h0
  obtain ⟨g6, hg6⟩ : ∃ g6, g6 = h6.app (.new n6 ⟨2, 0, true, 1⟩ [.int .u8 97, .int .u8 98]) := ⟨_, rfl⟩
  refine RS.heap hg6 ?_
  have i6 : g6.info n6 = some ⟨2, 0, true, 1⟩ := by rw [hg6]; exact info
  have E6' : Ext n6 h6 g6 := by rw [hg6]; exact ext
  have S6 : SlB g6 (n6 + 1) (some ⟨n6, 0, none⟩) [97, 98] := by rw [hg6]; exact slb_new [97, 98] n6 h6
  clear hg6
  refine RS.put rfl rfl (op_convSame Uc.out Uc.out (Opd.ev opd) (by omega) i6 (by decide)) ?_
  repeat' (first | refine stpS ?_ | (refine stp2 ?_ ?_ <;> intro _))
  obtain ⟨g7, hg⟩ : ∃ g7, g7 = (g6.app (.new (n6 + 1) ⟨1, 0, true, 1⟩ [.slice (some ⟨n6, 0, none⟩) 2 2])).app (.new (n6 + 1 + 1) ⟨1, 0, true, 1⟩ [.slice (some ⟨n6 + 1, 0, none⟩) 1 1]) := ⟨_, rfl⟩
  refine RS.heap hg ?_
  have E7 : Ext n6 h6 g7 := by rw [hg]; exact E6'.trans (Nat.le_succ _) ext
  have S7 : SlQ g7 (n6 + 1 + 1 + 1) (some ⟨n6 + 1, 0, none⟩) (fun j => (([(some ⟨n6, 0, none⟩, [97, 98])] : List (Option Addr × List UInt8)).getD j (none, [])).1) [[97, 98]] := by
    rw [hg]; exact (slq_one [97, 98] (n6 + 1) _ S6).ext ext (by omega)
  have W7 : SlR g7 (n6 + 1 + 1 + 1) (some ⟨n6 + 1 + 1, 0, none⟩) 1 1 (fun j => (lgC [(some ⟨n6 + 1, 0, none⟩, [[97, 98]])]).getD j (.tuple #[])) := by
    rw [hg]; exact lgc_one [[97, 98]] _ _ _
  clear hg
  have hnl := L5.nl
  dsimp only at hnl
  have hN5 : N5.length = 1 := by rw [← List.length_map (f := (·.2)), hnl]; rfl
  have hfin : ∀ x ∈ N5, x.2.length ≤ 1099511627776 ∧ ∀ l ∈ x.2, l.length ≤ 1099511627776 := fun x hx => by
    have : x.2 ∈ N5.map (·.2) := List.mem_map_of_mem hx
    rw [hnl] at this
    rw [List.mem_singleton.1 this]
    exact okC_lens ab_facts.1
  have it := commits1_iter q6 a6 N5 (by omega) hfin
  rw [hN5, hnl] at it
  refine RS.call rfl opds (told_rf _ _ _ [[[97, 98]]] [(some ⟨n6 + 1, 0, none⟩, [[97, 98]])] _ _ _ it (fun n' h' hn' E' => ?_) W7 (fun x hx => ?_) rfl (by decide) (by decide) (by omega)) none'W ?_
  · exact K6.ext (E7.trans (by omega) E') (by omega)
  · rw [List.mem_singleton.1 hx]; exact ⟨_, S7⟩
  rintro r n8 h8 k8 ⟨rfl, E8⟩
  repeat' (first | refine stpS ?_ | (refine stp2 ?_ ?_ <;> intro _))
  have hgen : Ev Tryz.prog none' 20 #[.pointer (some ⟨lg5, 0, none⟩)] n8 h8 (.int .i64 3) n8 h8 := gen_ev (X := ⟨S', 3, [[[97, 98]]], 1024⟩) ⟨F5, G5, a5, N5, B5, (L5.extW (ExtW.of (E6.trans k6 (E7.trans (by omega) E8)) (Nat.le_refl _) : ExtW (fun _ => False) n5 h5 h8) (by omega) (fun _ _ q => q)), rfl⟩
  refine RS.call1 rfl opds hgen none'W ?_
  repeat' (first | refine stpS ?_ | (refine stp2 ?_ ?_ <;> intro _))
  exact ⟨rfl, (E5.trans (by omega) E6).trans (by omega) (E7.trans (by omega) E8)⟩
end Go.Proofs.YtfbddbpbifnhfaaGreatDoor

/- The plain law of a log behind a burst. -/
namespace Go.Proofs.YtfbddbpbifnhfaaGreatDoor
open Go.Abs Cd

theorem fold_lt (l : List UInt8) : ∀ c, c < 4294967296 → l.foldl byteStep c < 4294967296 := by
  induction l with
  | nil => intro c h; exact h
  | cons b l ih =>
    intro c h
    refine ih _ (stepN_lt (Nat.xor_lt_two_pow (n := 32) (by omega) ?_) 8)
    have := b.toNat_lt
    omega
theorem crcR_lt (l : List UInt8) : crcR l < 4294967296 := fold_lt l _ (by omega)
theorem logB_cons (gen : Int) (k : Nat) (l : List (List UInt8)) (L : List (List (List UInt8))) : logB gen k (l :: L) = comB gen k l ++ logB gen (k + 1) L := rfl
end Go.Proofs.YtfbddbpbifnhfaaGreatDoor

/- The plain law of a log behind a burst: the flips, and what is opened. -/
namespace Go.Proofs.YtfbddbpbifnhfaaGreatDoor
open Go.Abs Cd

def flip (e : List UInt8) (k : Nat) : List UInt8 := e.set (k / 8) (e.getD (k / 8) 0 ^^^ UInt8.ofNat (2 ^ (k % 8)))
theorem markB_form (g s m c : Int) : ∃ t, markB g s m c = form g ++ t := ⟨form s ++ (form m ++ (form c ++ (zeros (508 - (headB g s m c).length) ++ little (crc (padB g s m c))))), by
  show headB g s m c ++ _ ++ _ = _
  unfold headB
  simp only [List.append_assoc]⟩
def dmgE (s len bits : Nat) : Nat → List UInt8
  | 0 => zeros len
  | i + 1 => if bits / 2 ^ i % 2 = 1 ∧ s + i < 8 * len then flip (dmgE s len bits i) (s + i) else dmgE s len bits i
def dmgF (s len bits : Nat) : Nat → Nat
  | 0 => len
  | i + 1 => if bits / 2 ^ i % 2 = 1 ∧ s + i < 8 * len then min (dmgF s len bits i) ((s + i) / 8) else dmgF s len bits i
theorem no2 (L : List (List (List UInt8))) (hok : ∀ l ∈ L, okC l) : nextP 2 0 0 (logB 1 0 L) = none := by
  cases L with
  | nil => unfold nextP; rw [if_pos (by show 0 < _; omega)]
  | cons l L =>
    have hd3 := (hok l (by simp)).2.2
    have hg : may 1 := by decide
    have hk : may ((0 : Nat) : Int) := by decide
    have hc := crc_lt (dataB l)
    have hml : (markD 1 ((0 : Nat) : Int) (dataB l)).length = 512 := markB_length hg.i64 hk.i64 ⟨by omega, by omega⟩ ⟨by omega, by omega⟩
    unfold nextP
    split
    · rfl
    dsimp only
    rw [List.drop_zero, logB_cons]
    have t1 : (comB 1 0 l ++ logB 1 (0 + 1) L).take 512 = markD 1 ((0 : Nat) : Int) (dataB l) := by
      unfold comB
      rw [List.append_assoc, ← hml, List.take_left]
    rw [t1, if_neg]
    rintro ⟨w1, -⟩
    obtain ⟨-, -, -, -, -, -, w7⟩ := mkd_ok w1
    obtain ⟨t, ht⟩ := markB_form 1 ((0 : Nat) : Int) ((dataB l).length : Nat) (crc (dataB l) : Nat)
    have ht : markD 1 ((0 : Nat) : Int) (dataB l) = form 1 ++ t := ht
    obtain ⟨t2, ht2⟩ := markB_form 2 ((0 : Nat) : Int) (mkd 2 ((0 : Nat) : Int) (markD 1 ((0 : Nat) : Int) (dataB l))).1 (mkd 2 ((0 : Nat) : Int) (markD 1 ((0 : Nat) : Int) (dataB l))).2.1
    rw [ht2] at w7
    rw [ht] at w7
    have h1 := pI_form 1 (by omega) (by omega) t
    have h2 := pI_form 2 (by omega) (by omega) t2
    rw [w7, h2] at h1
    have := congrArg Prod.fst h1
    exact absurd this (by decide)
end Go.Proofs.YtfbddbpbifnhfaaGreatDoor

/- What WalDamage keeps: a log, the commits made, and where each ends. -/
namespace Go.Proofs.YtfbddbpbifnhfaaGreatDoor
open Go.Abs Cd

def intV (l : List Nat) : List Value := l.map fun e => .int .i64 (e : Nat)
structure Dm (n0 : Nat) (h0 : AH) (lg d : Nat) (T : Nat → Prop) (X : LS) (aa ae : Option Addr) (N : List CmA) (es : List Nat) (n : Nat) (h : AH) : Prop where
  hn : n0 ≤ n
  E : Ext n0 h0 h
  R : Lg h n lg d T X
  Tn : ∀ b, T b → n0 ≤ b
  allO : OwnSl h n0 n aa 1 N.length (lgC N)
  endO : OwnSl h n0 n ae 1 es.length (intV es)
  aT : aa ≠ none → ¬ T (sb aa)
  eT : ae ≠ none → ¬ T (sb ae)
  sep : aa = none ∨ ae = none ∨ sb aa ≠ sb ae
  cm : ∀ x ∈ N, CmR h n (fun b => b < n ∧ ¬ T b ∧ ¬ inA aa b ∧ ¬ inA ae b) x.1 x.2
section
variable {n0 n n1 lg d : Nat} {h0 h h1 : AH} {T : Nat → Prop} {X X' : LS} {aa ae a' : Option Addr} {N : List CmA} {es : List Nat}
theorem Dm.ext (D : Dm n0 h0 lg d T X aa ae N es n h) (E : Ext n h h1) (hn : n ≤ n1) : Dm n0 h0 lg d T X aa ae N es n1 h1 := by
  have := D.hn
  refine ⟨by omega, D.E.trans D.hn E, D.R.ext E hn, D.Tn, D.allO.ext E hn, D.endO.ext E hn, D.aT, D.eT, D.sep, fun x hx => ?_⟩
  exact ((D.cm x hx).extW (ExtW.of E (Nat.le_refl _) : ExtW (fun _ => False) n h h1) hn (fun _ _ q => q)).mono (fun b q => ⟨by omega, q.2⟩)
theorem Dm.relog {T' : Nat → Prop} {lg' : Nat} (D : Dm n0 h0 lg d T X aa ae N es n h) (R' : Lg h1 n1 lg' d T' X') (hT' : ∀ b, b < n → T' b → T b) (e : ExtW T n h h1) (hn : n ≤ n1) : Dm n0 h0 lg' d T' X' aa ae N es n1 h1 := by
  have h0n := D.hn
  have own : ∀ {a : Option Addr} {k : Nat} {cs : List Value}, OwnSl h n0 n a 1 k cs → (a ≠ none → ¬ T (sb a)) → OwnSl h1 n0 n1 a 1 k cs := fun o ht => (o.extW e (Nat.le_refl _) (Nat.le_refl _) ht).ext (Ext.refl _ _) hn
  refine ⟨by omega, D.E.viaW e D.hn D.Tn, R', fun b hb => ?_, own D.allO D.aT, own D.endO D.eT, fun q w => ?_, fun q w => ?_, D.sep, fun x hx => ?_⟩
  · by_cases w : b < n
    · exact D.Tn b (hT' b w hb)
    · omega
  · have := (D.allO.at'.resolve_left q).2
    exact D.aT q (hT' _ this w)
  · have := (D.endO.at'.resolve_left q).2
    exact D.eT q (hT' _ this w)
  · exact ((D.cm x hx).extW e hn (fun b q => q.2.1)).mono (fun b q => ⟨by omega, fun w => q.2.1 (hT' b q.1 w), q.2.2⟩)
theorem Dm.log (D : Dm n0 h0 lg d T X aa ae N es n h) (q : LgTo n lg d T h X' n1 h1) (hn : n ≤ n1) : ∃ T', Dm n0 h0 lg d T' X' aa ae N es n1 h1 := by
  obtain ⟨T', R', hT', e⟩ := q
  exact ⟨T', D.relog R' hT' e hn⟩
end
theorem RecO.cmr {x : OpE} {m m0 ns n : Nat} {h h0 : AH} {c a0 : Option Addr} (ok : x.Ok h0 m0 m) (R : RecO x ns n h c a0) : CmR h n (fun b => b < n ∧ (ns ≤ b ∨ b < m0)) c (recsOf x) := by
  refine ⟨_, R.slq, fun q => ⟨(R.out.at'.resolve_left q).2, .inl (R.out.at'.resolve_left q).1⟩, fun j hj q => ?_⟩
  have hl : (recsOf x).length = (recsE x a0).length := by rw [← recsE_snd x a0, List.length_map]
  have hj' : j < (recsE x a0).length := by omega
  have hg : (recsE x a0).getD j (none, []) = (recsE x a0)[j] := by simp [List.getD, hj']
  rw [hg] at q ⊢
  have hy := List.getElem_mem hj'
  have hS := R.row _ hy
  have hlt : sb (recsE x a0)[j].1 < n := by
    rcases hS.shape with ⟨k, -⟩ | ⟨-, k, -⟩
    · exact absurd k q
    · exact k
  refine ⟨hlt, ?_⟩
  by_cases z : (recsE x a0)[j].1 = a0
  · left; rw [z] at q ⊢; exact R.new q
  · right
    have hyl : (recsE x a0)[j] ∈ x.rl := by
      generalize (recsE x a0)[j] = y at hy z
      unfold recsE at hy
      cases hx : x.rl with
      | nil => rw [hx] at hy; cases hy
      | cons r rs =>
        rw [hx] at hy
        rcases List.mem_cons.1 hy with w | w
        · rw [w] at z; exact absurd rfl z
        · exact List.mem_cons_of_mem _ w
    rcases (ok.recs.row _ hyl).1.shape with ⟨k, -⟩ | ⟨-, k, -⟩
    · exact absurd k q
    · exact k
theorem recsOf_row {x : OpE} {h0 : AH} {m m0 : Nat} (ok : x.Ok h0 m0 m) : (recsOf x).length ≤ m ∧ ∀ l ∈ recsOf x, l.length ≤ m + 3000 := by
  have h1 := ok.recs.le
  refine ⟨by rw [← recsE_snd x none, List.length_map, recsE_len]; exact h1, fun l hl => ?_⟩
  obtain ⟨y, hy, rfl⟩ := List.mem_map.1 hl
  unfold recsE at hy
  cases hx : x.rl with
  | nil => rw [hx] at hy; cases hy
  | cons r rs =>
    rw [hx] at hy
    rcases List.mem_cons.1 hy with w | w
    · rw [w]
      have := (ok.recs.row r (by rw [hx]; simp)).2
      have := Nat.mod_lt x.many (show 0 < 3000 by omega)
      dsimp only
      rw [List.length_append, zeros_length]; omega
    · have := (ok.recs.row y (by rw [hx]; simp [w])).2
      omega
end Go.Proofs.YtfbddbpbifnhfaaGreatDoor

/- A step of a script: a commit. -/
namespace Go.Proofs.YtfbddbpbifnhfaaGreatDoor
open Go.Abs Cd

theorem commitP_b' (X : LS) (ls : List (List UInt8)) (h : may X.gen ∧ X.L.length ≤ 1099511627776) : (commitP X ls).2.S.ps.length ≤ X.S.ps.length + 1000000 ∧ (commitP X ls).2.S.calls ≤ X.S.calls + 4 := commitP_b X ls h.1 h.2
set_option maxHeartbeats 4000000 in
theorem step_commit {h0 h : AH} {n0 n p d r m : Nat} {T1 T2 : Nat → Prop} {v w : Option Addr} {o : Option LS} {S : Dk.DS} (P : PS h n0 n p d r T1 T2 v w o S) (x : OpE) (ok0 : x.Ok h0 n0 m) (E0 : Ext n0 h0 h) (hn0 : n0 ≤ n) (hm : m ≤ 1048576) (hdo : x.do_ = 0) (hps : S.ps.length ≤ 1099511000000) (hcl : S.calls < 4611686018427387900) (hpos : 0 < n) :
    RF Tryz.prog (fun b => T1 b ∨ T2 b ∨ b = p) 7 #[.pointer (some ⟨p, 0, none⟩), .agg x.cells.toArray] n h (StTo n0 n p d r T1 T2 o S h) := by
  unfold OpE.cells
  refine RF.of Tryz.func7 rfl rfl (Nat.le_of_ble_eq_true rfl) ?_; dsimp only [argEnv]
  have ok := ok0.ext E0 hn0
  have hp := P.hi
  have d0 := P.c0
  have d2 := P.c2
  have hnp1 : ¬ T1 p := fun q => (P.t1 p q).2.1 rfl
  have hnp2 : ¬ T2 p := fun q => (P.t2 p q).2 rfl
  have hT1 := P.a.lt
  have hT2 := P.b.lt
  have hmy := ok.many
  have hat := ok.at_
  have hkl := ok.kl
  obtain ⟨hnm1, hnm2⟩ := ok.num
  obtain ⟨hgn1, hgn2⟩ := ok.gen
  have d1 := P.c1
  have d3 := P.c3
  have hnn1 : ¬ T1 n := fun q => by have := hT1 n q; omega
  have hnn2 : ¬ T2 n := fun q => by have := hT2 n q; omega
  obtain ⟨hrows, hrow⟩ := recsOf_row ok0
  have hrl : (recsOf x).length = x.rl.length := by rw [← recsE_snd x none, List.length_map, recsE_len]
  have PA := P.a
  have PB := P.b
  cases o with
  | none =>
    obtain ⟨rfl, -⟩ := PA
    obtain ⟨rfl, -⟩ := PB
    repeat' (first | refine stpS ?_ | (refine stp2 ?_ ?_ <;> intro _))
    repeat' (first | refine stp ?_ | (refine stp2 ?_ ?_ <;> intro _))
    repeat' (first | refine stpS ?_ | (refine stp2 ?_ ?_ <;> intro _))
    exact ⟨rfl, T1, T2, none, none, none, S, P.ext ext (Nat.le_succ n), ExtW.of ext (Nat.le_refl _), by omega, by omega, fun q => q⟩
  | some X =>
  obtain ⟨rfl, lg, rfl, RA⟩ := PA
  obtain ⟨-, rg, rfl, RB⟩ := PB
  repeat' (first | refine stpS ?_ | (refine stp2 ?_ ?_ <;> intro _))
  obtain ⟨g1, hg⟩ : ∃ g1, g1 = h.app (.new n ⟨7, 0, true, 0⟩ [.int .i64 x.do_, .slice x.ra x.rl.length x.rl.length, .int .u16 (x.many : Nat), .int .i64 x.gen, .int .u16 (x.at_ : Nat), .int .i64 x.num, .slice x.ka x.keep.length x.keep.length]) := ⟨_, rfl⟩
  refine RC.heap hg ?_
  have E1 : Ext n h g1 := by rw [hg]; exact ext
  have y0 : g1.cell n 0 = .int .i64 x.do_ := by rw [hg]; exact cell
  have y1 : g1.cell n 1 = .slice x.ra x.rl.length x.rl.length := by rw [hg]; exact cell
  have y2 : g1.cell n 2 = .int .u16 (x.many : Nat) := by rw [hg]; exact cell
  have y3 : g1.cell n 3 = .int .i64 x.gen := by rw [hg]; exact cell
  have y4 : g1.cell n 4 = .int .u16 (x.at_ : Nat) := by rw [hg]; exact cell
  have y5 : g1.cell n 5 = .int .i64 x.num := by rw [hg]; exact cell
  have y6 : g1.cell n 6 = .slice x.ka x.keep.length x.keep.length := by rw [hg]; exact cell
  have yi : g1.info n = some ⟨7, 0, true, 0⟩ := by rw [hg]; exact info
  clear hg
  have P1 := P.ext E1 (Nat.le_succ n)
  have d0 := P1.c0
  have d2 := P1.c2
  have d1 := P1.c1
  have d3 := P1.c3
  obtain ⟨Z, hZ⟩ : ∃ Z, Z = commitP X (recsOf x) := ⟨_, rfl⟩
  have RA1 := RA.ext E1 (Nat.le_succ n)
  have hev0 := opRecs_rf x m (n + 1) (g1.below (n + 1)) ((ok.ext E1 (Nat.le_succ _)).ext (AH.below_ext g1 (n + 1)) (Nat.le_refl _)) hm
  repeat' (first | refine stp ?_ | (refine stp2 ?_ ?_ <;> intro _))
  refine RD.call (n + 1) rfl opds hev0 (Nat.le_refl _) cfc ?_
  rintro r0 n6 h6 k6 ⟨c6, a6, rfl, E6, RO6⟩
  have E6 : Ext (n + 1) g1 h6 := E6.via (Nat.le_refl _) (AH.below_ext g1 (n + 1))
  obtain ⟨ad6, S6, hc6, hr6⟩ := RO6.cmr ok0
  have hnT : ∀ b, b < n6 ∧ (n + 1 ≤ b ∨ b < n0) → ¬ T1 b := fun b q w => by
    have := hT1 b w
    have := (P.t1 b w).1
    omega
  have RA6 := RA1.ext E6 k6
  have hT1n6 : ∀ b, T1 b → b < n6 := fun b q => by have := hT1 b q; omega
  have hev1 := commit_rf (RA6.ext (AH.below_ext h6 n6) (Nat.le_refl _)) (recsOf x) ad6 c6 (S6.ext (AH.below_ext h6 n6) (Nat.le_refl _)) (fun q => hnT _ (hc6 q)) (fun j hj q => hnT _ (hr6 j hj q)) (by omega) (fun l hl => by have := hrow l hl; omega) hps hcl (by omega)
  rw [hrl, ← hZ] at hev1
  repeat' (first | refine stp ?_ | (refine stp2 ?_ ?_ <;> intro _))
  refine RD.callW n6 rfl opds hev1 (fun b q => .inl (.inl q)) (Nat.le_refl _) cfw ?_
  rintro r1 n2 h2 k2 ⟨rfl, T3, R3, hT3, e3⟩
  have e3 : ExtW T1 n6 h6 h2 := (ExtW.of (AH.below_ext h6 n6) (Nat.le_refl _)).trans e3 (Nat.le_refl _) (fun _ _ q => q)
  have e3' : ExtW T1 (n + 1) g1 h2 := (ExtW.of E6 (Nat.le_refl _)).trans e3 k6 (fun _ _ q => q)
  have d3 : h2.cell p 3 = .pointer (some ⟨rg, 0, none⟩) := c_extW e3' (by omega) hnp1 d3
  have cc : ∀ {j : Nat} {y : Value}, g1.cell n j = y → h2.cell n j = y := fun q => c_extW e3' (by omega) hnn1 q
  have y0 := cc y0
  have y1 := cc y1
  have y2 := cc y2
  have y3 := cc y3
  have y4 := cc y4
  have y5 := cc y5
  have y6 := cc y6
  have E02 : Ext n0 h0 h2 := ((E0.trans hn0 E1).viaW e3' (by omega) (fun b q => (P.t1 b q).1))
  have hev3 := opRecs_rf x m n2 (h2.below n2) ((ok0.ext E02 (by omega)).ext (AH.below_ext h2 n2) (Nat.le_refl _)) hm
  repeat' (first | refine stp ?_ | (refine stp2 ?_ ?_ <;> intro _))
  refine RD.call n2 rfl opds hev3 (Nat.le_refl _) cfc ?_
  rintro r4 n8 h8 k8 ⟨c8, a8, rfl, E8, RO8⟩
  have E8 : Ext n2 h2 h8 := E8.via (Nat.le_refl _) (AH.below_ext h2 n2)
  obtain ⟨ad8, S8, hc8, hr8⟩ := RO8.cmr ok0
  have hnT2 : ∀ b, b < n8 ∧ (n2 ≤ b ∨ b < n0) → ¬ T2 b := fun b q w => by
    have := hT2 b w
    have := (P.t2 b w).1
    omega
  have RB8 := (((RB.ext E1 (Nat.le_succ n)).extW e3' (by omega) (fun b q z => (P.t1 b z).2.2 q)).ext E8 k8)
  have hT2n8 : ∀ b, T2 b → b < n8 := fun b q => by have := hT2 b q; omega
  have hev4 := refCommit_rf (RB8.ext (AH.below_ext h8 n8) (Nat.le_refl _)) (recsOf x) ad8 c8 (S8.ext (AH.below_ext h8 n8) (Nat.le_refl _)) (fun q => hnT2 _ (hc8 q)) (fun j hj q => hnT2 _ (hr8 j hj q)) (by omega) (fun l hl => by have := hrow l hl; omega) hps hcl (by omega)
  rw [hrl, ← hZ] at hev4
  repeat' (first | refine stp ?_ | (refine stp2 ?_ ?_ <;> intro _))
  refine RD.callW n8 rfl opds hev4 (fun b q => .inl (.inr (.inl q))) (Nat.le_refl _) cfw ?_
  rintro r2 n3 h3 k3 ⟨rfl, T4, R4, hT4, e4⟩
  have e4 : ExtW T2 n8 h8 h3 := (ExtW.of (AH.below_ext h8 n8) (Nat.le_refl _)).trans e4 (Nat.le_refl _) (fun _ _ q => q)
  repeat' (first | refine stp ?_ | (refine stp2 ?_ ?_ <;> intro _))
  repeat' (first | refine stpS ?_ | (refine stp2 ?_ ?_ <;> intro _))
  have A8 : ToL (n + 1) d T1 g1 (some ⟨lg, 0, none⟩) (some Z.2) Z.2.S n8 h8 := ⟨T3, ⟨rfl, lg, rfl, R3.ext E8 k8⟩, fun b hb q => hT3 b (by omega) q, e3'.then E8 (by omega)⟩
  obtain ⟨T1', T2', P3, e5, -, -⟩ := P1.both A8 (by omega) ⟨T4, ⟨rfl, rg, rfl, R4⟩, hT4, e4⟩ k3
  have hbb := commitP_b' X (recsOf x) (by obtain ⟨_, _, _, _, _, R, -⟩ := RA; exact ⟨R.gm, by have := R.le; have := R.me; omega⟩)
  rw [← hZ] at hbb
  exact ⟨rfl, T1', T2', _, _, some Z.2, Z.2.S, P3, (ExtW.of E1 (Nat.le_refl _)).trans e5 (by omega) (fun b _ q => q.imp id .inl), hbb.1, hbb.2, by rw [hZ]; exact commitP_ok ⟨by omega, fun l hl => by have := hrow l hl; omega⟩⟩
end Go.Proofs.YtfbddbpbifnhfaaGreatDoor

/- The pair has what the document's has. -/
namespace Go.Proofs.YtfbddbpbifnhfaaGreatDoor
open Go.Abs Cd

set_option maxHeartbeats 4000000 in
theorem equal_rf {h : AH} {n0 n p d r : Nat} {T1 T2 : Nat → Prop} {v w : Option Addr} {o : Option LS} {S : Dk.DS} (P : PS h n0 n p d r T1 T2 v w o S) (hok : OkO o) (hpos : 0 < n) :
    RF Tryz.prog none' 8 #[.pointer (some ⟨p, 0, none⟩)] n h (fun y n' h' => y = .bool true ∧ Ext n h h') := by
  refine RF.of Tryz.func8 rfl rfl (Nat.le_of_ble_eq_true rfl) ?_; dsimp only [argEnv]
  have hp := P.hi
  have d0 := P.c0
  have d1 := P.c1
  have d2 := P.c2
  have d3 := P.c3
  obtain ⟨F1, G1, D1, -, -, -⟩ := P.a.disk
  obtain ⟨F2, G2, D2, -, -, -⟩ := P.b.disk
  have e1 := Dk.down_dk (D1.ext (AH.below_ext h n) (Nat.le_refl _))
  have e2 := Dk.rdown_rk (D2.ext (AH.below_ext h n) (Nat.le_refl _))
  have e3 := Dk.calls_dk (D1.ext (AH.below_ext h n) (Nat.le_refl _))
  have e4 := Dk.rcalls_rk (D2.ext (AH.below_ext h n) (Nat.le_refl _))
  repeat' (first | refine stpS ?_ | (refine stp2 ?_ ?_ <;> intro _))
  repeat' (first | refine stp ?_ | (refine stp2 ?_ ?_ <;> intro _))
  refine RD.callP n rfl opds e1 (Nat.le_refl _) cfc ?_
  repeat' (first | refine stp ?_ | (refine stp2 ?_ ?_ <;> intro _))
  refine RD.callP n rfl opds e2 (Nat.le_refl _) cfc ?_
  repeat' (first | refine stp ?_ | (refine stp2 ?_ ?_ <;> intro _))
  refine RD.callP n rfl opds e3 (Nat.le_refl _) cfc ?_
  repeat' (first | refine stp ?_ | (refine stp2 ?_ ?_ <;> intro _))
  refine RD.callP n rfl opds e4 (Nat.le_refl _) cfc ?_
  have PA := P.a
  have PB := P.b
  cases o with
  | none =>
    obtain ⟨rfl, -⟩ := PA
    obtain ⟨rfl, -⟩ := PB
    repeat' (first | refine stp ?_ | (refine stp2 ?_ ?_ <;> intro _))
    repeat' (first | refine stpS ?_ | (refine stp2 ?_ ?_ <;> intro _))
    repeat' (first | refine stp ?_ | (refine stp2 ?_ ?_ <;> intro _))
    repeat' (first | refine stpS ?_ | (refine stp2 ?_ ?_ <;> intro _))
    exact ⟨rfl, Ext.refl _ _⟩
  | some X =>
  obtain ⟨rfl, lg, rfl, RA⟩ := PA
  obtain ⟨-, rg, rfl, F, G, a, N, B, RB, -⟩ := PB
  have hsm : ∀ l ∈ X.L, small l := hok X rfl
  have RA' := RA.ext (AH.below_ext h n) (Nat.le_refl _)
  have m1 := many_ev RA'
  have m2 := end_ev' RA'
  have m3 := gen_ev RA'
  obtain ⟨FA, GA, aA, NA, BA, RAA, -⟩ := RA'
  have hrl := RB.hi
  have b1 := RB.c1
  have b2 := RB.c2
  have b3 := RB.c3
  have hLe : X.L.length ≤ 4194304 := by have := RB.le; have := RB.me; omega
  repeat' (first | refine stp ?_ | (refine stp2 ?_ ?_ <;> intro _))
  repeat' (first | refine stpS ?_ | (refine stp2 ?_ ?_ <;> intro _))
  repeat' (first | refine stp ?_ | (refine stp2 ?_ ?_ <;> intro _))
  refine RD.callP n rfl opds m1 (Nat.le_refl _) cfc ?_
  repeat' (first | refine stp ?_ | (refine stp2 ?_ ?_ <;> intro _))
  refine RD.callP n rfl opds m2 (Nat.le_refl _) cfc ?_
  repeat' (first | refine stp ?_ | (refine stp2 ?_ ?_ <;> intro _))
  refine RD.callP n rfl opds m3 (Nat.le_refl _) cfc ?_
  repeat' (first | refine stp ?_ | (refine stp2 ?_ ?_ <;> intro _))
  refine RD.call n rfl opds (commits_rf RAA) (Nat.le_refl _) cfc ?_
  rintro r1 n1 h1 k1 ⟨q, a', rfl, E1, hq, K1⟩
  have E1 : Ext n h h1 := E1.via (Nat.le_refl _) (AH.below_ext h n)
  have d3' : h1.cell p 3 = .pointer (some ⟨rg, 0, none⟩) := c_ext E1 hp d3
  have b2' : h1.cell rg 2 = .slice a X.L.length X.L.length := c_ext E1 hrl b2
  have hNl : N.length = X.L.length := by rw [← RB.nl, List.length_map]
  have hNAl : NA.length = X.L.length := by rw [← RAA.nl, List.length_map]
  have it := commits1_iter q a' NA (by omega) (fun x hx => by
    have : x.2 ∈ NA.map (·.2) := List.mem_map_of_mem hx
    rw [RAA.nl] at this
    exact hsm _ this)
  rw [hNAl, RAA.nl] at it
  have RB1 := RB.extW (ExtW.of (E1.trans k1 (AH.below_ext h1 n1)) (Nat.le_refl _) : ExtW (fun _ => False) n h (h1.below n1)) k1 (fun _ _ q => q)
  have hto := told_rf _ _ _ X.L N a n1 (h1.below n1) it (fun n' h' hn' E' => (K1.ext (AH.below_ext h1 n1) (Nat.le_refl _)).ext E' hn') (by rw [hNl]; exact RB1.own.slr) (fun x hx => by obtain ⟨ad, S, -⟩ := RB1.cm x hx; exact ⟨ad, S⟩) RB.nl (by omega) (fun l hl => (hsm l hl).1) (by omega)
  rw [hNl] at hto
  repeat' (first | refine stp ?_ | (refine stp2 ?_ ?_ <;> intro _))
  refine RD.call n1 rfl opds hto (Nat.le_refl _) cfc ?_
  rintro r2 n2 h2 k2 ⟨rfl, E2⟩
  have E2 : Ext n1 h1 h2 := E2.via (Nat.le_refl _) (AH.below_ext h1 n1)
  repeat' (first | refine stp ?_ | (refine stp2 ?_ ?_ <;> intro _))
  repeat' (first | refine stpS ?_ | (refine stp2 ?_ ?_ <;> intro _))
  exact ⟨rfl, E1.trans k1 E2⟩
end Go.Proofs.YtfbddbpbifnhfaaGreatDoor

/- WalDoes, over plain arguments. -/
namespace Go.Proofs.YtfbddbpbifnhfaaGreatDoor
open Go.Abs Cd

theorem step_rf {h0 h : AH} {n0 n p d r m : Nat} {T1 T2 : Nat → Prop} {v w : Option Addr} {o : Option LS} {S : Dk.DS} (P : PS h n0 n p d r T1 T2 v w o S) (x : OpE) (ok0 : x.Ok h0 n0 m) (E0 : Ext n0 h0 h) (hn0 : n0 ≤ n) (hm : m ≤ 1048576) (hps : S.ps.length ≤ 1099511000000) (hcl : S.calls < 4611686018427387900) (hpos : 0 < n) :
    RF Tryz.prog (fun b => T1 b ∨ T2 b ∨ b = p) 7 #[.pointer (some ⟨p, 0, none⟩), .agg x.cells.toArray] n h (StTo n0 n p d r T1 T2 o S h) := by
  by_cases z0 : x.do_ = 0
  · exact step_commit P x ok0 E0 hn0 hm z0 hps hcl hpos
  by_cases z1 : x.do_ = 1
  · exact step_reset P x ok0 E0 hn0 hm z1 hps hcl hpos
  by_cases z3 : x.do_ = 3
  · exact step_crash P x ok0 E0 hn0 hm z3 hps hcl hpos
  by_cases z4 : x.do_ = 4
  · exact step_fuse P x ok0 E0 hn0 hm z4 hps hcl hpos
  by_cases z5 : x.do_ = 5
  · exact step_raw P x ok0 E0 hn0 hm z5 hps hcl hpos
  · exact step_open P x ok0 E0 hn0 hm ⟨z0, z1, z3, z4, z5⟩ hps hcl hpos
def psB (i : Nat) : Nat := i * 1000000
theorem psB_succ (i : Nat) : psB (i + 1) = psB i + 1000000 := by unfold psB; rw [Nat.add_mul, Nat.one_mul]
theorem psB_le {i : Nat} (h : i ≤ 1048576) : psB i ≤ 1048576000000 := by
  unfold psB
  exact Nat.mul_le_mul_right 1000000 h
set_option maxHeartbeats 4000000 in
theorem law_WalDoes (c : Option Addr) (L : List OpE) (m n : Nat) (h : AH) (B : OpsRep h n c L m) (hL : L.length ≤ 1048576) (hm : m ≤ 1048576) (hn0 : 0 < n) :
    RF Tryz.prog none' 3 #[.slice c L.length L.length] n h (fun r _ _ => r = .bool true) := by
  refine RF.of Tryz.func3 rfl rfl (Nat.le_of_ble_eq_true rfl) ?_; dsimp only [argEnv]
  repeat' (first | refine stpS ?_ | (refine stp2 ?_ ?_ <;> intro _))
  refine RS.call rfl opds (Dk.new_rf n h hn0) none'W ?_
  rintro r0 n1 h1 k1 ⟨d, F, G, rfl, D, hF, hG, E1⟩
  repeat' (first | refine stpS ?_ | (refine stp2 ?_ ?_ <;> intro _))
  refine RS.call rfl opds (Dk.rnew_rf n1 h1 (by omega)) none'W ?_
  rintro r1 n2 h2 k2 ⟨r, F', G', rfl, D', hF', hG', E2⟩
  repeat' (first | refine stpS ?_ | (refine stp2 ?_ ?_ <;> intro _))
  obtain ⟨g3, hg⟩ : ∃ g3, g3 = h2.app (.new n2 ⟨4, 0, true, 0⟩ [.pointer (some ⟨d, 0, none⟩), .pointer none, .pointer (some ⟨r, 0, none⟩), .pointer none]) := ⟨_, rfl⟩
  refine RS.heap hg ?_
  have hFl := D.ltF
  have hFl' := D'.ltF
  have E3 : Ext n2 h2 g3 := by rw [hg]; exact ext
  have P3 : PS g3 n (n2 + 1) n2 d r (fun b => F b ∨ G b) (fun b => F' b ∨ G' b) none none none Dk.DS.init := by
    refine ⟨by omega, by omega, by rw [hg]; exact info, by rw [hg]; exact cell, by rw [hg]; exact cell, by rw [hg]; exact cell, by rw [hg]; exact cell, ⟨rfl, F, G, D.ext (E2.trans k2 E3) (by omega), rfl⟩, ⟨rfl, F', G', D'.ext E3 (by omega), rfl⟩, fun b q => ?_, fun b q => ?_⟩
    · rcases q with q | q
      · have h1 := hF b q
        have h2 := hFl b q
        refine ⟨h1, by omega, fun z => ?_⟩
        rcases z with z | z
        · have := hF' b z; omega
        · exact hG' b z
      · exact absurd q (hG b)
    · rcases q with q | q
      · have h1 := hF' b q
        have h2 := hFl' b q
        exact ⟨by omega, by omega⟩
      · exact absurd q (hG' b)
  have E03 : Ext n h g3 := (E1.trans k1 E2).trans (by omega) E3
  clear hg E1 E2 E3 D D' hF hG hF' hG' hFl hFl'
  have hpn : n ≤ n2 := by omega
  refine RS.call rfl opds (begun_rf (n2 + 1) g3 (by omega)) none'W ?_
  rintro r2 n4 h4 k4 ⟨rfl, E4⟩
  have P4 := P3.ext E4 k4
  have E04 : Ext n h h4 := E03.trans (by omega) E4
  clear P3 E03 E4
  have hp4 := P4.hi
  have q0 := P4.c0
  repeat' (first | refine stpS ?_ | (refine stp2 ?_ ?_ <;> intro _))
  refine RC.loop ?_
  refine RL.inv (α := Nat × (Nat → Prop) × (Nat → Prop) × Option Addr × Option Addr × Option LS × Dk.DS) (fun u => [(23, .int .i64 (u.1 : Nat)), (22, .int .i64 (L.length : Nat)), (21, .slice c L.length L.length), (3, .pointer (some ⟨n2, 0, none⟩))])
    (fun u n5 h5 => u.1 ≤ L.length ∧ n4 ≤ n5 ∧ Ext n h h5 ∧ PS h5 n n5 n2 d r u.2.1 u.2.2.1 u.2.2.2.1 u.2.2.2.2.1 u.2.2.2.2.2.1 u.2.2.2.2.2.2 ∧ OkO u.2.2.2.2.2.1 ∧ u.2.2.2.2.2.2.ps.length ≤ psB u.1 ∧ u.2.2.2.2.2.2.calls ≤ (u.1 * 4 : Nat))
    (fun u => L.length - u.1) (0, _, _, none, none, none, Dk.DS.init) envs ⟨Nat.zero_le _, Nat.le_refl _, E04, P4, fun X hX => (by cases hX), Nat.zero_le _, Int.le_refl _⟩ ?_
  clear P4 E04 q0
  rintro ⟨i, T1, T2, v, w, o, S⟩ n5 h5 ⟨hi, hn5, E5, P5, hok, hps, hcl⟩
  dsimp only at hi E5 P5 hok hps hcl ⊢
  have hps' : S.ps.length ≤ 1048576000000 := Nat.le_trans hps (psB_le (by omega))
  by_cases hlt : i < L.length
  · obtain ⟨x, hx⟩ : ∃ x, L[i]? = some x := ⟨_, List.getElem?_eq_getElem hlt⟩
    have B5 := B.ext E5 (by omega : n ≤ n5)
    obtain ⟨⟨c0, c1, c2, c3, c4, c5, c6⟩, ok⟩ := B5.at_ i x hx
    have ok0 := (B.at_ i x hx).2
    have hsn : sb c < n5 := B5.shp.lt (by omega)
    have hA : SlA c L.length := B5.shp.out.imp id (fun q => q.1)
    repeat' (first | refine stpS ?_ | (refine stp2 ?_ ?_ <;> intro _))
    obtain ⟨g6, hg⟩ : ∃ g6, g6 = (h5.app (.new n5 ⟨7, 0, true, 0⟩ [.int .i64 0, .slice none 0 0, .int .u16 0, .int .i64 0, .int .u16 0, .int .i64 0, .slice none 0 0])).app (.sets n5 0 [.int .i64 x.do_, .slice x.ra x.rl.length x.rl.length, .int .u16 (x.many : Nat), .int .i64 x.gen, .int .u16 (x.at_ : Nat), .int .i64 x.num, .slice x.ka x.keep.length x.keep.length]) := ⟨_, rfl⟩
    refine RS.heap hg ?_
    have E6 : Ext n5 h5 g6 := by rw [hg]; exact ext
    clear hg
    have P6 := P5.ext E6 (Nat.le_succ n5)
    refine RS.call rfl opds (step_rf P6 x ok0 (E5.trans (by omega) E6) (by omega) hm (by omega) (by omega) (by omega)) (fun b q => .inr (by
      rcases q with q | q | q
      · exact (P5.t1 b q).1
      · exact (P5.t2 b q).1
      · omega)) ?_
    rintro r3 n7 h7 k7 ⟨rfl, T1', T2', v', w', o', S', P7, e7, b1, b2, hk⟩
    have E7 : Ext n h h7 := (E5.trans (by omega) E6).viaW e7 (by omega) (fun b q => by
      rcases q with q | q | q
      · exact (P5.t1 b q).1
      · exact (P5.t2 b q).1
      · omega)
    repeat' (first | refine stpS ?_ | (refine stp2 ?_ ?_ <;> intro _))
    refine RS.call rfl opds (equal_rf P7 (hk hok) (by omega)) none'W ?_
    rintro r4 n8 h8 k8 ⟨rfl, E8⟩
    repeat' (first | refine stpS ?_ | (refine stp2 ?_ ?_ <;> intro _))
    exact nextC.normal ⟨(i + 1, T1', T2', v', w', o', S'), by dsimp only; omega, envs, by dsimp only; omega, by omega, E7.trans (by omega) E8, P7.ext E8 k8, hk hok, by show S'.ps.length ≤ psB (i + 1); rw [psB_succ]; omega, by show S'.calls ≤ (((i + 1) * 4 : Nat) : Int); omega⟩
  · obtain rfl : i = L.length := by omega
    have hp := P5.hi
    have d0 := P5.c0
    have d2 := P5.c2
    have hnp1 : ¬ T1 n2 := fun q => (P5.t1 n2 q).2.1 rfl
    have hnp2 : ¬ T2 n2 := fun q => (P5.t2 n2 q).2 rfl
    obtain ⟨F1, G1, D1, hF1, hG1, kA⟩ := P5.a.disk
    repeat' (first | refine stpS ?_ | (refine stp2 ?_ ?_ <;> intro _))
    refine RS.call rfl opds (Dk.restart_dk D1) (fun b q => .inr (P5.t1 b (hF1 b q)).1) ?_
    rintro r3 n6 h6 k6 ⟨rfl, F3, G3, D3, hF3, hG3, e3⟩
    have A2 := kA n6 h6 _ k6 ⟨F3, G3, D3, hF3, hG3, e3⟩
    have d2 : h6.cell n2 2 = .pointer (some ⟨r, 0, none⟩) := c_extW e3 hp (fun q => hnp1 (hF1 _ q)) d2
    have B2 := P5.b.extW e3 k6 (fun b q z => (P5.t1 b (hF1 b z)).2.2 q)
    obtain ⟨F2, G2, D2, hF2, hG2, kB⟩ := B2.disk
    repeat' (first | refine stpS ?_ | (refine stp2 ?_ ?_ <;> intro _))
    refine RS.call rfl opds (Dk.rrestart_rk D2) (fun b q => .inr (P5.t2 b (hF2 b q)).1) ?_
    rintro r4 n7 h7 k7 ⟨rfl, F4, G4, D4, hF4, hG4, e4⟩
    have B3 := kB n7 h7 _ k7 ⟨F4, G4, D4, hF4, hG4, e4⟩
    obtain ⟨T1', T2', P7, -, -, -⟩ := P5.both A2 k6 B3 k7
    obtain ⟨F5, G5, D5, -, -, -⟩ := P7.a.disk
    obtain ⟨F6, G6, D6, -, -, -⟩ := P7.b.disk
    have hp7 := P7.hi
    have d07 := P7.c0
    have d27 := P7.c2
    have hnl := D5.ok.now 1
    have hrd : S.restart.read 1 0 4194304 = (0, S.restart.now 1) := by
      unfold Dk.DS.read
      rw [if_neg (fun z => z (may1 rfl)), if_neg (by omega)]
      show (0, ((S.restart.now 1).drop 0).take 4194304) = _
      rw [List.drop_zero, List.take_of_length_le (by omega)]
    have hread := Dk.read_dk D5 1 0 4194304
    rw [hrd] at hread
    dsimp only at hread
    repeat' (first | refine stpS ?_ | (refine stp2 ?_ ?_ <;> intro _))
    refine RS.call rfl opds hread none'W ?_
    rintro r5 n8 h8 k8 ⟨a8, rfl, E8, O8⟩
    have d28 : h8.cell n2 2 = .pointer (some ⟨r, 0, none⟩) := c_ext E8 hp7 d27
    have hnw := Dk.rnow_rk (D6.ext E8 k8) (by show S.ps.length ≤ _; omega) (f := 1) (by omega)
    repeat' (first | refine stpS ?_ | (refine stp2 ?_ ?_ <;> intro _))
    refine RS.call rfl opds hnw none'W ?_
    rintro r6 n9 h9 k9 ⟨a9, rfl, E9, S9⟩
    have heq := equal_ev _ _ a8 a9 _ _ n9 h9 (O8.slb.ext E9 k9) S9 rfl rfl
    rw [decide_eq_true rfl] at heq
    repeat' (first | refine stpS ?_ | (refine stp2 ?_ ?_ <;> intro _))
    refine RS.call1 rfl opds heq none'W ?_
    repeat' (first | refine stpS ?_ | (refine stp2 ?_ ?_ <;> intro _))
    rfl
end Go.Proofs.YtfbddbpbifnhfaaGreatDoor

/- WalDoes, over its arguments. -/
namespace Go.Proofs.YtfbddbpbifnhfaaGreatDoor
open Go.Abs Go.RowKit Cd
set_option maxRecDepth 100000 in
theorem bodyWalDoes {H : Type} {h : AH} {n : Nat} {vs : List Value} {ds : List (DataW H)} (lo : Low n h) (hn : 0 < n) (hr : RepArgs Tryz.prog h [22] vs ds) (hb : Rows.uptoBulkAll ds ≤ 1048576) :
    ∃ n' h', Ev Tryz.prog none' 3 vs.toArray n h (.bool true) n' h' := by
  obtain ⟨a0, d0, vs, ds, rfl, rfl, r0, hr⟩ := hr.cons_
  obtain ⟨rfl, rfl⟩ := hr.nil_
  obtain ⟨c, L, rfl, B, hl⟩ := ops_arg lo r0
  simp only [Rows.uptoBulkAll] at hb
  obtain ⟨r, n', h', e, rfl⟩ := law_WalDoes c L _ n h B (by omega) (by omega) hn
  exact ⟨n', h', e⟩
end Go.Proofs.YtfbddbpbifnhfaaGreatDoor
