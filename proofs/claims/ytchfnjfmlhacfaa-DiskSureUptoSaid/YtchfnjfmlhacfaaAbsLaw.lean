/- A law out of its contract: all arguments opened, the call told, the frame given back. -/
import Derived.Test.YtchfnjfmlhacfaaAbsEntry
import Derived.WideShapes
import Derived.ChangeShapes
import Derived.OpenShut
import Derived.Carry
namespace Go.Abs
open Go.RowKit Go.ChangeShapes Go.WideShapes

variable {H : Type} {enc : TypeId × Value → H} {P : Program} {w : World} {base : Nat}

/-- An argument that reads as the datum d. -/
def RepA (P : Program) (h : AH) (t : TypeId) (a : Value) (d : DataW H) : Prop :=
  match P.underlying t with
  | some (.struct _) => ∃ cs : List Value, a = .agg cs.toArray ∧ RepD P h t cs d
  | _ => RepD P h t [a] d

inductive RepArgs (P : Program) (h : AH) : List TypeId → List Value → List (DataW H) → Prop
  | nil : RepArgs P h [] [] []
  | cons {t a d ts as ds} (x : RepA P h t a d) (r : RepArgs P h ts as ds) : RepArgs P h (t :: ts) (a :: as) (d :: ds)

theorem RepA.ext {n : Nat} {h h' : AH} (e : Ext n h h') (lo : Low n h) {t : TypeId} {a : Value} {d : DataW H} (r : RepA P h t a d) : RepA P h' t a d := by
  unfold RepA at *
  split
  · rename_i hu; rw [hu] at r; simp only at r
    obtain ⟨cs, h1, h2⟩ := r
    exact ⟨cs, h1, h2.ext e lo⟩
  · rename_i hu
    cases hp : P.underlying t with
    | none => rw [hp] at r; exact RepD.ext e lo r
    | some d =>
      cases d with
      | struct fs => exact absurd hp (hu fs)
      | _ => rw [hp] at r; exact RepD.ext e lo r

theorem openV {t : TypeId} {v : Value} {d : DataW H} {ps : List MemPlace} (hp : plainT P 8 t = true) (hok : Value.okWide P w .any base t v) (htr : DataW.Trod enc P w 0 (fun _ => true) true t v d ps)
    {n : Nat} {ρ : Ren} {h : AH} (o : OpenInv w n ρ h) : ∃ n' ρ' h' a, n ≤ n' ∧ ρ.le ρ' ∧ OpenInv w n' ρ' h' ∧ Ext n h h' ∧ VRel ρ' a v ∧ RepA P h' t a d := by
  obtain ⟨fuel, htr⟩ := htr
  obtain ⟨n', ρ', h', as, a1, a2, a3, a4, a5, a6, a7, a8⟩ := openD 8 fuel t _ d ps n ρ h hp htr o
  unfold plainT at hp
  split at hp
  · rename_i hu
    obtain ⟨b, rfl⟩ := okWide_bool hu hok
    simp [Value.cells] at a5
    obtain ⟨x, rfl⟩ : ∃ x, as = [x] := List.length_eq_one_iff.1 a5
    refine ⟨n', ρ', h', x, a1, a2, a3, a4, by simpa [Value.cells] using a6 0, ?_⟩
    unfold RepA; rw [hu]; exact a7
  · rename_i q hu
    obtain ⟨b, rfl⟩ := okWide_int hu hok
    simp [Value.cells] at a5
    obtain ⟨x, rfl⟩ : ∃ x, as = [x] := List.length_eq_one_iff.1 a5
    refine ⟨n', ρ', h', x, a1, a2, a3, a4, by simpa [Value.cells] using a6 0, ?_⟩
    unfold RepA; rw [hu]; exact a7
  · rename_i hu
    obtain ⟨b, rfl⟩ := okWide_string hu hok
    simp [Value.cells] at a5
    obtain ⟨x, rfl⟩ : ∃ x, as = [x] := List.length_eq_one_iff.1 a5
    refine ⟨n', ρ', h', x, a1, a2, a3, a4, by simpa [Value.cells] using a6 0, ?_⟩
    unfold RepA; rw [hu]; exact a7
  · rename_i e hu
    obtain ⟨b, l, c, rfl⟩ := okWide_slice hu hok
    simp [Value.cells] at a5
    obtain ⟨x, rfl⟩ : ∃ x, as = [x] := List.length_eq_one_iff.1 a5
    refine ⟨n', ρ', h', x, a1, a2, a3, a4, by simpa [Value.cells] using a6 0, ?_⟩
    unfold RepA; rw [hu]; exact a7
  · rename_i fs hu
    obtain ⟨cs, rfl, hcs⟩ := okWide_struct hu hok
    simp only [Value.cells] at a5 a6
    refine ⟨n', ρ', h', .agg as.toArray, a1, a2, a3, a4, .agg (by simpa using a5) fun i => ?_, ?_⟩
    · have := a6 i
      simpa [Array.getD_eq_getD_getElem?, List.getD] using this
    · unfold RepA; rw [hu]; exact ⟨as, rfl, a7⟩
  · cases hp

theorem openAll : ∀ (ts : List TypeId) (vs : List Value) (ds : List (DataW H)) (ps : List MemPlace), ts.all (plainT P 8) = true → DataW.TrodAll enc P w 0 (fun _ => true) true ts vs ds ps →
    (∀ (j : Nat) t v, ts[j]? = some t → vs[j]? = some v → Value.okWide P w .any base t v) → ∀ {n : Nat} {ρ : Ren} {h : AH}, OpenInv w n ρ h →
    ∃ n' ρ' h' as, n ≤ n' ∧ ρ.le ρ' ∧ OpenInv w n' ρ' h' ∧ Ext n h h' ∧ as.length = vs.length ∧ (∀ i, VRel ρ' (as.getD i (.tuple #[])) (vs.getD i (.tuple #[]))) ∧ RepArgs P h' ts as ds
  | [], vs, ds, ps, _, htr, _, n, ρ, h, o => by
    obtain ⟨rfl, rfl, rfl⟩ := trodAll_nil htr
    exact ⟨n, ρ, h, [], Nat.le_refl _, .refl _, o, .refl _ _, rfl, fun i => by simp; exact .unk _, .nil⟩
  | t :: ts, vs, ds, ps, hp, htr, hok, n, ρ, h, o => by
    simp only [List.all_cons, Bool.and_eq_true] at hp
    obtain ⟨v, vs', d, ds', p, q, rfl, rfl, rfl, h1, h2⟩ := trodAll_cons htr
    obtain ⟨n1, ρ1, h1', a, b1, b2, b3, b4, b5, b6⟩ := openV hp.1 (hok 0 t v rfl rfl) h1 o
    obtain ⟨n2, ρ2, h2', as, c1, c2, c3, c4, c5, c6, c7⟩ := openAll ts vs' ds' q hp.2 h2 (fun j t v ht hv => hok (j + 1) t v (by simpa using ht) (by simpa using hv)) b3
    refine ⟨n2, ρ2, h2', a :: as, by omega, b2.trans c2, c3, Ext.trans b1 b4 c4, by simp [c5], fun i => ?_, .cons (b6.ext c4 b3.low) c7⟩
    cases i with
    | zero => exact b5.mono c2
    | succ i => simpa using c6 i

/-- The law's call. -/
theorem law_calls {f : FuncId} {ts : List TypeId} {args : Array Value} {ds : List (DataW H)} {ps : List MemPlace} (hp : ts.all (plainT P 8) = true) (htr : DataW.TrodAll enc P w 0 (fun _ => true) true ts args.toList ds ps)
    (hok : ∀ (j : Nat) t v, ts[j]? = some t → args[j]? = some v → Value.okWide P w .any base t v)
    (body : ∀ (n : Nat) (h : AH) (as : List Value), Low n h → 0 < n → RepArgs P h ts as ds → ∃ n' h', Ev P none' f as.toArray n h (.bool true) n' h') :
    Calls P f args w fun e w' => e = .returned (.bool true) ∧ Below w.heap.size w w' := by
  obtain ⟨n, ρ, h, as, _, _, o, _, hl, hv, hr⟩ := openAll ts args.toList ds ps hp htr (fun j t v h1 h2 => hok j t v h1 (by simpa using h2)) (OpenInv.start w)
  obtain ⟨n', h', _, d, hle, hn, hwi, run⟩ := body (n + 1) h as (fun b hb => o.low b (by omega)) (by omega) hr
  refine (callsIn_wide (n := 0)).1 ?_
  refine CallsIn.mono (run (.start w) ρ w h args (.refl _) (fun b h1 _ => o.fresh b (by omega)) o.sim ⟨by simpa using hl, fun i => ?_⟩) ?_
  · have := hv i
    simpa [Array.getD_eq_getD_getElem?, List.getD] using this
  · rintro e w' ⟨ρ', c, rfl, hg, hvr, hs⟩
    exact ⟨by rw [hvr.bool_inv], hs.base⟩

end Go.Abs
