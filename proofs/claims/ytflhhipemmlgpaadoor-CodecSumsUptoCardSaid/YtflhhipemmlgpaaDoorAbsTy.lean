/- What a program tells of its types, as the stepping finds it. -/
import Derived.Test.YtflhhipemmlgpaaDoorAbsGo
import Derived.Laws.Sem
set_option linter.unusedSimpArgs false
set_option linter.unusedVariables false
namespace Go.Abs
open Go.RowKit
theorem places_of {P : Program} : ∀ (fs : List Field) (ps : List (Nat × Nat)), fs.length = ps.length → (∀ (i : Nat) (f : Field) (p : Nat × Nat), fs[i]? = some f → ps[i]? = some p → f.offset = p.1 ∧ ∃ d by_ zv, TI P f.type d p.2 by_ zv) → ∀ w : World,
    (fs.toArray.mapM fun f => (do pure (f.offset, ← sizeOf f.type) : Sem (Nat × Nat))).run P w = .ok ps.toArray w := by
  intro fs ps hl h w
  rw [List.mapM_toArray, Sem.run_map]
  suffices key : (fs.mapM fun f => (do pure (f.offset, ← sizeOf f.type) : Sem (Nat × Nat))).run P w = .ok ps w by rw [key]; rfl
  induction fs generalizing ps with
  | nil => cases ps with
    | nil => rfl
    | cons => simp at hl
  | cons f fs ih =>
    cases ps with
    | nil => simp at hl
    | cons p ps =>
      obtain ⟨h1, d, by_, zv, h2⟩ := h 0 f p rfl rfl
      rw [List.mapM_cons]
      simp only [Sem.run_bind, h2.run_sizeOf, Result.andThen_ok, Sem.run_pure, ih ps (by simpa using hl) (fun i f p hf hp => h (i + 1) f p (by simpa using hf) (by simpa using hp))]
      rw [h1]
theorem Fc.mk' {P : Program} {s : TypeId} {i off z : Nat} {agg : Bool} {fs : Array Field} {f : Field} {d : TypeDesc} {by_ : Nat} {zv : Value} (hu : P.underlying s = some (.struct fs)) (hf : fs[i]? = some f) (ho : f.offset = off) (hz : TI P f.type d z by_ zv) (ha : isAggD d = agg) (h0 : z ≠ 0) : Fc P s i off z agg :=
  ⟨fs, f, d, by_, zv, hu, hf, ho, hz, ha, h0⟩
/-- A field's type, its place and size. -/
inductive Pls (P : Program) : List Field → List (Nat × Nat) → Prop
  | nil : Pls P [] []
  | cons {f fs off z ps d by_ zv} (ho : f.offset = off) (hz : TI P f.type d z by_ zv) (t : Pls P fs ps) : Pls P (f :: fs) ((off, z) :: ps)
theorem Pls.ok {P : Program} {fs ps} (h : Pls P fs ps) : fs.length = ps.length ∧ ∀ (i : Nat) (f : Field) (p : Nat × Nat), fs[i]? = some f → ps[i]? = some p → f.offset = p.1 ∧ ∃ d by_ zv, TI P f.type d p.2 by_ zv := by
  induction h with
  | nil => exact ⟨rfl, fun i f p h => by simp at h⟩
  | cons ho hz t ih =>
    refine ⟨by simp [ih.1], fun i f p hf hp => ?_⟩
    cases i with
    | zero => simp at hf hp; subst hf; subst hp; exact ⟨ho, _, _, _, hz⟩
    | succ i => exact ih.2 i f p (by simpa using hf) (by simpa using hp)
theorem Sc.mk' {P : Program} {s : TypeId} {places : List (Nat × Nat)} {zero : List Value} {fs : List Field} {z by_ : Nat} (hz : TI P s (.struct fs.toArray) z by_ (.agg zero.toArray)) (hf : zero.all (flat 8) = true) (h : Pls P fs places) : Sc P s places zero :=
  ⟨fs.toArray, z, by_, _, hz, by simpa [Value.cells] using hf, rfl, places_of fs places h.ok.1 h.ok.2⟩
end Go.Abs
