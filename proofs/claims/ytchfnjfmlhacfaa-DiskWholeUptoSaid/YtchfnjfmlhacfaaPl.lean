/- The plain law of the disk: pieces, files, crashes. -/
import Derived.Test.YtchfnjfmlhacfaaTy
import Derived.Test.YtchfnjfmlhacfaaAbsCut
namespace Go.Proofs.Ytchfnjfmlhacfaa
open Go.Abs

theorem take_min {α : Type} (l : List α) (k : Nat) : l.take (min k l.length) = l.take k := by
  rcases Nat.le_total k l.length with h | h
  · rw [Nat.min_eq_left h]
  · rw [Nat.min_eq_right h, List.take_length, List.take_of_length_le h]
/-- A piece: bytes at a place of a file, or a cut to a size. -/
structure Pc where
  file : Nat
  cut : Bool
  at_ : Nat
  b : List UInt8
/-- Bytes behind a piece. -/
def doP (l : List UInt8) (p : Pc) : List UInt8 := if p.cut = true then l.take p.at_ else splice (l ++ List.replicate (p.at_ + p.b.length - l.length) 0) p.at_ p.b
theorem doP_length (l : List UInt8) (p : Pc) : (doP l p).length = if p.cut = true then min p.at_ l.length else max l.length (p.at_ + p.b.length) := by
  unfold doP
  cases p.cut
  · simp only [Bool.false_eq_true, if_false]
    rw [splice_length _ _ _ (by simp; omega)]
    simp; omega
  · simp
/-- A piece that may be. -/
structure PcOk (p : Pc) : Prop where
  file : p.file = 0 ∨ p.file = 1
  some : p.cut = false → 0 < p.b.length ∧ p.at_ + p.b.length ≤ 4194304
  size : p.cut = true → p.at_ ≤ 4194304
def upd {α : Type} (f : Nat → α) (i : Nat) (x : α) : Nat → α := fun j => if j = i then x else f j
theorem upd_same {α : Type} (f : Nat → α) (i : Nat) (x : α) : upd f i x i = x := by simp [upd]
theorem upd_ne {α : Type} (f : Nat → α) {i j : Nat} (x : α) (h : j ≠ i) : upd f i x j = f j := by simp [upd, h]
/-- What is sure of both files, the pieces, the fuse, the power. -/
structure DS where
  sure : Nat → List UInt8
  ps : List Pc
  fuse : Int
  keep : List Bool
  calls : Int
  down : Bool
def nowP (f : Nat) (l : List UInt8) (ps : List Pc) : List UInt8 := (ps.filter fun p => decide (p.file = f)).foldl doP l
/-- What a file has. -/
def DS.now (S : DS) (f : Nat) : List UInt8 := nowP f (S.sure f) S.ps
theorem nowP_snoc (f : Nat) (l : List UInt8) (ps : List Pc) (p : Pc) : nowP f l (ps ++ [p]) = if p.file = f then doP (nowP f l ps) p else nowP f l ps := by
  unfold nowP
  rw [List.filter_append, List.foldl_append]
  by_cases h : p.file = f <;> simp [h]
theorem doP_le {l : List UInt8} {p : Pc} (h : PcOk p) (hl : l.length ≤ 4194304) : (doP l p).length ≤ 4194304 := by
  rw [doP_length]
  cases hc : p.cut
  · have := (h.some hc).2
    simp only [Bool.false_eq_true, if_false]; omega
  · simp only [if_true]; omega
theorem nowP_le (f : Nat) {l : List UInt8} (hl : l.length ≤ 4194304) : ∀ {ps : List Pc}, (∀ p ∈ ps, PcOk p) → (nowP f l ps).length ≤ 4194304 := by
  intro ps
  induction ps generalizing l with
  | nil => intro _; exact hl
  | cons p ps ih =>
    intro h
    unfold nowP
    by_cases hp : p.file = f
    · simp only [List.filter_cons, hp, decide_true, if_true, List.foldl_cons]
      exact ih (doP_le (h p (by simp)) hl) (fun q hq => h q (by simp [hq]))
    · simp only [List.filter_cons, hp, decide_false, Bool.false_eq_true, if_false]
      exact ih hl (fun q hq => h q (by simp [hq]))
/-- The state may be. -/
structure DSOk (S : DS) : Prop where
  ps : ∀ p ∈ S.ps, PcOk p
  sure : ∀ f, (S.sure f).length ≤ 4194304
  fuse : 0 ≤ S.fuse ∧ S.fuse ≤ 9223372036854775807
  calls : 0 ≤ S.calls
  keep : S.keep.length ≤ 1099511627776
theorem DSOk.now {S : DS} (h : DSOk S) (f : Nat) : (S.now f).length ≤ 4194304 := nowP_le f (h.sure f) h.ps

/-- A piece is done. -/
def DS.done (S : DS) (p : Pc) : DS := { S with ps := S.ps ++ [p] }
theorem DS.done_now (S : DS) (p : Pc) (f : Nat) : (S.done p).now f = if p.file = f then doP (S.now f) p else S.now f := nowP_snoc _ _ _ _
/-- What is sure behind a crash. -/
def loseP (sure : Nat → List UInt8) : List Pc → List Bool → Nat → List UInt8
  | [], _ => sure
  | _ :: _, [] => sure
  | p :: ps, k :: ks => loseP (if k = true then upd sure p.file (doP (sure p.file) p) else sure) ps ks
def DS.lose (S : DS) (keep : List Bool) : DS := { S with sure := loseP S.sure S.ps keep, ps := [], fuse := 0, down := true }
theorem loseP_le {sure : Nat → List UInt8} : ∀ {ps : List Pc} {ks : List Bool}, (∀ f, (sure f).length ≤ 4194304) → (∀ p ∈ ps, PcOk p) → ∀ f, (loseP sure ps ks f).length ≤ 4194304 := by
  intro ps
  induction ps generalizing sure with
  | nil => intro ks h _ f; exact h f
  | cons p ps ih =>
    intro ks h hp f
    cases ks with
    | nil => exact h f
    | cons k ks =>
      refine ih (fun g => ?_) (fun q hq => hp q (by simp [hq])) f
      cases k
      · exact h g
      · simp only [if_true]
        by_cases e : g = p.file
        · subst e; rw [upd_same]; exact doP_le (hp p (by simp)) (h _)
        · rw [upd_ne _ _ e]; exact h g
theorem loseP_nil (sure : Nat → List UInt8) (ks : List Bool) : loseP sure [] ks = sure := rfl
theorem loseP_none (sure : Nat → List UInt8) (ps : List Pc) : loseP sure ps [] = sure := by cases ps <;> rfl
theorem loseP_snoc {p : Pc} : ∀ {sure : Nat → List UInt8} {ps : List Pc} {ks : List Bool}, loseP sure (ps ++ [p]) ks = if ks.getD ps.length false = true then upd (loseP sure ps ks) p.file (doP (loseP sure ps ks p.file) p) else loseP sure ps ks := by
  intro sure ps
  induction ps generalizing sure with
  | nil =>
    intro ks
    cases ks with
    | nil => rfl
    | cons k ks => cases k <;> rfl
  | cons q ps ih =>
    intro ks
    cases ks with
    | nil => rfl
    | cons k ks =>
      simp only [List.cons_append, loseP, List.length_cons, List.getD_cons_succ]
      exact ih
/-- A call ends: it is counted; the power may go. -/
def DS.ends (S : DS) : Int × DS :=
  if S.fuse = 0 then (0, { S with calls := S.calls + 1 })
  else if 1 < S.fuse then (0, { S with calls := S.calls + 1, fuse := S.fuse - 1 })
  else (6, { S with calls := S.calls + 1, fuse := S.fuse - 1 }.lose S.keep)
def DS.may (S : DS) (f : Int) : Int := if S.down = true then 6 else if f ≠ 0 ∧ f ≠ 1 then 1 else 0
/-- The pieces of a write. -/
def chunks (f : Nat) : Nat → Nat → List UInt8 → List Pc
  | 0, _, _ => []
  | _ + 1, _, [] => []
  | k + 1, at_, x :: r => ⟨f, false, at_, (x :: r).take (512 - at_ % 512)⟩ :: chunks f k (at_ + min (r.length + 1) (512 - at_ % 512)) ((x :: r).drop (512 - at_ % 512))
def DS.writes (S : DS) (f at_ : Nat) (b : List UInt8) : DS := { S with ps := S.ps ++ chunks f b.length at_ b }
/-- What a write answers, if the file may be. -/
def writeE (at_ : Int) (b : List UInt8) : Int := if at_ < 0 then 1 else if 0 < b.length ∧ (4194304 < at_ ∨ 4194304 - at_ < b.length) then 5 else 0
def DS.write (S : DS) (f at_ : Int) (b : List UInt8) : Int × DS :=
  if S.may f ≠ 0 then (S.may f, S) else if writeE at_ b ≠ 0 then (writeE at_ b, S) else (S.writes f.toNat at_.toNat b).ends
def DS.truncate (S : DS) (f size : Int) : Int × DS :=
  if S.may f ≠ 0 then (S.may f, S) else if size < 0 ∨ ((S.now f.toNat).length : Int) < size then (1, S) else (S.done ⟨f.toNat, true, size.toNat, []⟩).ends
def DS.synced (S : DS) (f : Nat) : DS := { S with sure := upd S.sure f (S.now f), ps := S.ps.filter fun p => !decide (p.file = f) }
def DS.sync (S : DS) (f : Int) : Int × DS :=
  if S.may f ≠ 0 then (S.may f, S) else if S.ends.1 ≠ 0 then S.ends else (0, S.ends.2.synced f.toNat)
def DS.crash (S : DS) (keep : List Bool) : Int × DS := if S.down = true then (6, S) else (0, S.lose keep)
def DS.setFuse (S : DS) (k : Int) (keep : List Bool) : Int × DS := if k < 0 then (1, S) else (0, { S with fuse := k, keep := keep })
def DS.restart (S : DS) : DS := { S with down := false }
/-- What a read answers. -/
def DS.read (S : DS) (f at_ k : Int) : Int × List UInt8 :=
  if S.may f ≠ 0 then (S.may f, []) else if at_ < 0 ∨ k < 0 then (1, []) else (0, ((S.now f.toNat).drop at_.toNat).take k.toNat)
def DS.init : DS := ⟨fun _ => [], [], 0, [], 0, false⟩
end Go.Proofs.Ytchfnjfmlhacfaa
