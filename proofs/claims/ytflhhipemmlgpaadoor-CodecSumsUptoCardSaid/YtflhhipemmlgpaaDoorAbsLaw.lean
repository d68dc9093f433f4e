/- A law's arguments: what reads as data is told as blocks that are only read. -/
import Derived.Test.YtflhhipemmlgpaaDoorAbsExact
import Derived.ChangeArms
import Derived.WideShapes
import Derived.ChangeShapes
import Derived.OpenShut
import Derived.Carry
set_option linter.unusedSimpArgs false
set_option linter.unusedVariables false
namespace Go.Abs
open Go.RowKit

/-- Fields that lie one behind the other, from cell `off` on. -/
def inRow (P : Program) : List Field → Nat → Nat → Bool
  | [], off, z => off == z
  | f :: fs, off, z => f.offset == off && inRow P fs (off + P.cellsOf f.type) z
/-- Types that are read so: bools, whole numbers, strings, slices and structs of them. -/
def plainT (P : Program) : Nat → TypeId → Bool
  | 0, _ => false
  | d + 1, t =>
    match P.underlying t with
    | some .bool | some (.int _) | some .string => true
    | some (.slice e) => decide (0 < P.cellsOf e) && plainT P d e
    | some (.struct fs) => fs.toList.all (fun f => plainT P d f.type) && inRow P fs.toList 0 (P.cellsOf t)
    | _ => false

/-- Cells that read, over the abstract heap, as the datum d. -/
inductive RepD {H : Type} (P : Program) (h : AH) : TypeId → List Value → DataW H → Prop
  | bool {t : TypeId} {b : Bool} (hu : P.underlying t = some .bool) : RepD P h t [.bool b] (.lit (.bool b))
  | int {t : TypeId} {k : IntKind} {x : Int} (hu : P.underlying t = some (.int k)) (hw : (Lit.int k x).wf = true) : RepD P h t [.int k x] (.lit (.int k x))
  | str {t : TypeId} {s : ByteArray} (hu : P.underlying t = some .string) (hs : s.size ≤ maxLen) : RepD P h t [.string s] (.lit (.string s.data.toList))
  | nil {t e : TypeId} (hu : P.underlying t = some (.slice e)) : RepD P h t [.slice none 0 0] .nil
  | slice {t e : TypeId} {b : Nat} {elems spare : List (DataW H)} (hu : P.underlying t = some (.slice e)) (hi : h.info b = some ⟨elems.length * P.cellsOf e, elems.length * P.cellsOf e, false, P.cellsOf e⟩)
      (hl : elems.length ≤ maxLen) (he : ∀ (i : Nat) (d : DataW H), elems[i]? = some d → RepD P h e (rd h b (i * P.cellsOf e) (P.cellsOf e)) d) : RepD P h t [.slice (some ⟨b, 0, none⟩) elems.length elems.length] (.slice elems spare)
  | struct {t : TypeId} {fs : Array Field} {cs : List Value} {parts : List (DataW H)} (hu : P.underlying t = some (.struct fs)) (hc : cs.length = P.cellsOf t) (hp : parts.length = fs.size)
      (he : ∀ (i : Nat) (f : Field) (d : DataW H), fs[i]? = some f → parts[i]? = some d → RepD P h f.type ((cs.drop f.offset).take (P.cellsOf f.type)) d) : RepD P h t cs (.agg parts)

/-- What is told stays told, of ids below n, in a heap that agrees there. -/
structure Ext (n : Nat) (h h' : AH) : Prop where
  info : ∀ b, b < n → h'.info b = h.info b
  cell : ∀ b i, b < n → h'.cell b i = h.cell b i
theorem Ext.refl (n : Nat) (h : AH) : Ext n h h := ⟨fun _ _ => rfl, fun _ _ _ => rfl⟩
theorem Ext.trans {n n1 : Nat} {h h1 h2 : AH} (hn : n ≤ n1) (a : Ext n h h1) (b : Ext n1 h1 h2) : Ext n h h2 :=
  ⟨fun x hx => (b.info x (by omega)).trans (a.info x hx), fun x i hx => (b.cell x i (by omega)).trans (a.cell x i hx)⟩

/-- Nothing is told of ids from n on. -/
def Low (n : Nat) (h : AH) : Prop := ∀ b, n ≤ b → h.info b = none ∧ ∀ i, h.cell b i = .tuple #[]

theorem rd_ext {n : Nat} {h h' : AH} (e : Ext n h h') {b : Nat} (hb : b < n) : ∀ (k o : Nat), rd h' b o k = rd h b o k
  | 0, _ => rfl
  | k + 1, o => by simp only [rd, e.cell b o hb, rd_ext e hb k (o + 1)]

theorem RepD.ext {H : Type} {P : Program} {n : Nat} {h h' : AH} (e : Ext n h h') (lo : Low n h) {t : TypeId} {cs : List Value} {d : DataW H} (r : RepD P h t cs d) : RepD P h' t cs d := by
  induction r with
  | bool hu => exact .bool hu
  | int hu hw => exact .int hu hw
  | str hu hs => exact .str hu hs
  | nil hu => exact .nil hu
  | @slice t e' b elems spare hu hi hl he ih =>
    have hb : b < n := by
      rcases Nat.lt_or_ge b n with h1 | h1
      · exact h1
      · rw [(lo b h1).1] at hi; cases hi
    refine .slice hu (by rw [e.info b hb]; exact hi) hl fun i d hd => ?_
    rw [rd_ext e hb]
    exact ih i d hd
  | struct hu hc hp he ih => exact .struct hu hc hp fun i f d hf hd => ih i f d hf hd

/-- Nothing is any block's own. -/
def NoOwn (h : AH) : Prop := ∀ b m, h.info b = some m → m.lock = m.size ∧ m.tail = false
theorem NoOwn.not {h : AH} (hn : NoOwn h) {b : Nat} {m : Meta} {L : Loc} {i : Nat} (hm : h.info b = some m) : ¬ Own m L i := by
  obtain ⟨h1, h2⟩ := hn b m hm
  rintro ⟨h3, h4⟩
  rw [h2] at h4; simp [Tail.isExt_of] at h4; omega

/-- One more block that is only read. -/
theorem Sim.ro {w0 : Base} {w : World} {ρ : Ren} {h : AH} (s : Sim w0 ρ h w) (hno : NoOwn h) {n : Nat} (hn : ρ n = none) (cs : List Value) (a : Addr) (ext sz : Nat) (he : cs.length ≤ ext)
    (hv : ∀ i, i < cs.length → ∃ v, w.cell? ⟨a.block, a.off + i, none⟩ = some v ∧ VRel ρ (cs.getD i (.tuple #[])) v) :
    Sim w0 (ρ.set n ⟨a.block, a.off, ext, sz⟩) (h.app (.new n ⟨cs.length, cs.length, false, sz⟩ cs)) w := by
  have hle := Ren.le_set hn ⟨a.block, a.off, ext, sz⟩
  have s1 := s.grow' hle (Ren.set_fin s.fin _ _)
  have hcell : ∀ b i, (h.app (.new n ⟨cs.length, cs.length, false, sz⟩ cs)).cell b i = if b = n then cs.getD i (.tuple #[]) else h.cell b i := by
    intro b i; by_cases e : b = n <;> simp [AH.app, Dl.new, e]
  have hinfo : ∀ b, (h.app (.new n ⟨cs.length, cs.length, false, sz⟩ cs)).info b = if b = n then some ⟨cs.length, cs.length, false, sz⟩ else h.info b := by
    intro b; by_cases e : b = n <;> simp [AH.app, Dl.new, e]
  have hno' : ∀ b m L i, (h.app (.new n ⟨cs.length, cs.length, false, sz⟩ cs)).info b = some m → ¬ Own m L i := by
    intro b m L i hm
    rw [hinfo] at hm
    by_cases e : b = n
    · rw [if_pos e] at hm; cases hm
      rintro ⟨h1, h2⟩; simp at h1 h2; omega
    · rw [if_neg e] at hm; exact hno.not hm
  have hobj : ∀ b m o, (h.app (.new n ⟨cs.length, cs.length, false, sz⟩ cs)).info b = some m → m.tail = .obj o → h.info b = some m := by
    intro b m o hm ho
    rw [hinfo] at hm
    by_cases e : b = n
    · rw [if_pos e] at hm; cases hm; cases ho
    · rw [if_neg e] at hm; exact hm
  refine ⟨s1.base, s1.keep, s1.fin, ?_, ?_, ?_, fun b m o hm ho => s1.obj b m o (hobj b m o hm ho) ho, fun b m o b' m' o' L L' hm ho hm' ho' => s1.osep b m o b' m' o' L L' (hobj b m o hm ho) ho (hobj b' m' o' hm' ho') ho'⟩
  · intro b m hm
    have hm' := hm
    rw [hinfo] at hm
    by_cases e : b = n
    · subst e
      rw [if_pos rfl] at hm; cases hm
      exact ⟨_, Ren.set_self _ _ _, rfl, he, Nat.le_refl _, fun i hi => absurd hi (hno' _ _ _ _ hm')⟩
    · rw [if_neg e] at hm; exact s1.info b m hm
  · intro b i hb
    rw [hcell] at hb ⊢
    by_cases e : b = n
    · subst e
      rw [if_pos rfl] at hb ⊢
      have hi := getD_none_lt hb
      obtain ⟨v, h1, h2⟩ := hv i hi
      exact ⟨_, v, Ren.set_self _ _ _, h1, h2.mono hle⟩
    · rw [if_neg e] at hb ⊢; exact s1.cell b i hb
  · intro b m L i hm hL hi
    exact absurd hi (hno' _ _ _ _ hm)

structure OpenInv (w : World) (n : Nat) (ρ : Ren) (h : AH) : Prop where
  sim : Sim (.start w) ρ h w
  fresh : ∀ b, n ≤ b → ρ b = none
  no : NoOwn h
  low : Low n h

theorem OpenInv.start (w : World) : OpenInv w 0 (fun _ => none) .empty :=
  ⟨Sim.start w, fun _ _ => rfl, (fun _ _ h => by cases h), fun _ _ => ⟨rfl, fun _ => rfl⟩⟩

theorem OpenInv.ro {w : World} {n : Nat} {ρ : Ren} {h : AH} (o : OpenInv w n ρ h) (cs : List Value) (a : Addr) (ext sz : Nat) (he : cs.length ≤ ext)
    (hv : ∀ i, i < cs.length → ∃ v, w.cell? ⟨a.block, a.off + i, none⟩ = some v ∧ VRel ρ (cs.getD i (.tuple #[])) v) :
    OpenInv w (n + 1) (ρ.set n ⟨a.block, a.off, ext, sz⟩) (h.app (.new n ⟨cs.length, cs.length, false, sz⟩ cs)) ∧ Ext n h (h.app (.new n ⟨cs.length, cs.length, false, sz⟩ cs)) := by
  refine ⟨⟨o.sim.ro o.no (o.fresh n (Nat.le_refl _)) cs a ext sz he hv, (fun b hb => ?_), (fun b m hm => ?_), (fun b hb => ?_)⟩, (fun b hb => ?_), (fun b i hb => ?_)⟩
  · rw [Ren.set_ne _ _ (by omega)]; exact o.fresh b (by omega)
  · by_cases e : b = n
    · subst e; simp [AH.app, Dl.new] at hm; subst hm; exact ⟨rfl, rfl⟩
    · simp [AH.app, Dl.new, e] at hm; exact o.no b m hm
  · have e : b ≠ n := by omega
    have := o.low b (by omega)
    simp [AH.app, Dl.new, e, this.1, this.2]
  · have e : b ≠ n := by omega
    simp [AH.app, Dl.new, e]
  · have e : b ≠ n := by omega
    simp [AH.app, Dl.new, e]

theorem rd_new (h : AH) (n : Nat) (m : Meta) (cs : List Value) : ∀ (k o : Nat), o + k ≤ cs.length → rd (h.app (.new n m cs)) n o k = (cs.drop o).take k
  | 0, o, _ => by simp [rd]
  | k + 1, o, hk => by
    have ho : o < cs.length := by omega
    rw [rd, rd_new h n m cs k (o + 1) (by omega)]
    rw [List.drop_eq_getElem_cons ho, List.take_succ_cons]
    congr 1
    simp [AH.app, Dl.new, List.getD, ho]

theorem cell_spot {w : World} {a : Addr} {v : Value} (h : w.cell? a = some v) : a.spot = none := by
  unfold World.cell? at h
  split at h
  · cases hs : a.spot with
    | none => rfl
    | some x => simp [hs] at h
  · cases h
theorem add_two (a : Addr) (i k : Nat) (hs : a.spot = none ∨ i + k ≠ 0) : (a.add i).add k = ⟨a.block, a.off + (i + k), none⟩ := by
  obtain ⟨b, o, s⟩ := a
  unfold Addr.add
  by_cases hi : i = 0
  · subst hi
    by_cases hk : k = 0
    · subst hk
      rcases hs with h | h
      · simp at h; subst h; simp
      · simp at h
    · simp [hk]
  · by_cases hk : k = 0
    · subst hk; simp [hi]
    · simp [hi, hk]; omega

variable {H : Type} {enc : TypeId × Value → H} {P : Program} {w : World}

/-- What the reading of a value of type t gives. -/
def Opens (P : Program) (w : World) (t : TypeId) (cs : List Value) (d : DataW H) (n : Nat) (ρ : Ren) (h : AH) (n' : Nat) (ρ' : Ren) (h' : AH) (as : List Value) : Prop :=
  n ≤ n' ∧ ρ.le ρ' ∧ OpenInv w n' ρ' h' ∧ Ext n h h' ∧ as.length = cs.length ∧ (∀ i, VRel ρ' (as.getD i (.tuple #[])) (cs.getD i (.tuple #[]))) ∧ RepD P h' t as d ∧ known as = true

theorem known_append : ∀ (l m : List Value), known l = true → known m = true → known (l ++ m) = true
  | [], _, _, h => h
  | v :: r, m, h1, h2 => by
    have : known r = true := by cases v <;> simp_all [known]
    have := known_append r m this h2
    cases v <;> simp_all [known]

theorem getD_append_lt {l m : List Value} {i : Nat} (h : i < l.length) : (l ++ m).getD i (.tuple #[]) = l.getD i (.tuple #[]) := by
  simp [List.getD, List.getElem?_append_left h]
theorem getD_append_ge {l m : List Value} {i : Nat} (h : l.length ≤ i) : (l ++ m).getD i (.tuple #[]) = m.getD (i - l.length) (.tuple #[]) := by
  simp [List.getD, List.getElem?_append_right h]

theorem openD : ∀ (k fuel : Nat) (t : TypeId) (cs : List Value) (d : DataW H) (ps : List MemPlace) (n : Nat) (ρ : Ren) (h : AH), plainT P k t = true →
    DataW.trod enc P w 0 (fun _ => true) true fuel t cs = some (d, ps) → OpenInv w n ρ h → ∃ n' ρ' h' as, Opens P w t cs d n ρ h n' ρ' h' as := by
  intro k
  induction k with
  | zero => intro fuel t cs d ps n ρ h hp; simp [plainT] at hp
  | succ k ih =>
    intro fuel t cs d ps n ρ h hp htr o
    unfold plainT at hp
    split at hp
    · rename_i hu
      obtain ⟨b, rfl, hx⟩ := DataW.trod_bool hu htr
      cases hx
      exact ⟨n, ρ, h, [.bool b], Nat.le_refl _, .refl _, o, .refl _ _, rfl, fun i => by cases i with | zero => exact .bool b | succ i => simp; exact .unk _, .bool hu, rfl⟩
    · rename_i q hu
      obtain ⟨x, rfl, hx, hwf⟩ := DataW.trod_int hu htr
      cases hx
      exact ⟨n, ρ, h, [.int q x], Nat.le_refl _, .refl _, o, .refl _ _, rfl, fun i => by cases i with | zero => exact .int q x | succ i => simp; exact .unk _, .int hu hwf, rfl⟩
    · rename_i hu
      obtain ⟨s, rfl, hx, hs⟩ := DataW.trod_string hu htr
      cases hx
      exact ⟨n, ρ, h, [.string s], Nat.le_refl _, .refl _, o, .refl _ _, rfl, fun i => by cases i with | zero => exact .string s | succ i => simp; exact .unk _, .str hu hs, rfl⟩
    · rename_i e hu
      simp only [Bool.and_eq_true, decide_eq_true_eq] at hp
      obtain ⟨hz, hpe⟩ := hp
      rcases DataW.trod_slice hu htr with ⟨rfl, hx⟩ | ⟨a, len, cap, elems, rest, fn, rfl, rfl, hx, _, hlc, hcm, hel, hea, hsp, _⟩
      · cases hx
        exact ⟨n, ρ, h, [.slice none 0 0], Nat.le_refl _, .refl _, o, .refl _ _, rfl, fun i => by cases i with | zero => exact .nilSlice | succ i => simp; exact .unk _, .nil hu, rfl⟩
      · cases hx
        have hrest := (hsp rfl).2
        -- the address is plain where anything is read
        have hspot : cap ≠ 0 → a.spot = none := by
          intro hc
          by_cases hl : len = 0
          · subst hl
            have := hrest 0 (by omega)
            cases hr : rest[0]? with
            | none => have h5 := (hsp rfl).1; rw [List.getElem?_eq_none_iff] at hr; omega
            | some y =>
              rw [hr] at this
              obtain ⟨c0, h1, h2⟩ := Option.bind_eq_some_iff.1 this
              obtain ⟨_, h3, h4⟩ := World.cells?_some h1
              have h5 := h4 0 hz
              simp [Addr.add] at h5
              cases hc0 : c0[0]? with
              | none => rw [List.getElem?_eq_none_iff] at hc0; omega
              | some v => rw [hc0] at h5; exact cell_spot h5
          · have := hea 0 (by omega)
            cases hr : elems[0]? with
            | none => rw [List.getElem?_eq_none_iff] at hr; omega
            | some y =>
              rw [hr] at this
              obtain ⟨c0, h1, h2⟩ := Option.bind_eq_some_iff.1 this
              obtain ⟨_, h3, h4⟩ := World.cells?_some h1
              have h5 := h4 0 hz
              simp [Addr.add] at h5
              cases hc0 : c0[0]? with
              | none => rw [List.getElem?_eq_none_iff] at hc0; omega
              | some v => rw [hc0] at h5; exact cell_spot h5
        -- the elements, one by one
        have each : ∀ j, j ≤ len → ∃ n' ρ' h' acc, n ≤ n' ∧ ρ.le ρ' ∧ OpenInv w n' ρ' h' ∧ Ext n h h' ∧ acc.length = j * P.cellsOf e ∧
            (∀ i, i < j * P.cellsOf e → ∃ v, w.cell? ⟨a.block, a.off + i, none⟩ = some v ∧ VRel ρ' (acc.getD i (.tuple #[])) v) ∧
            (∀ (i : Nat) (y : DataW H × List MemPlace), i < j → elems[i]? = some y → RepD P h' e ((acc.drop (i * P.cellsOf e)).take (P.cellsOf e)) y.1) ∧ known acc = true := by
          intro j
          induction j with
          | zero => intro _; exact ⟨n, ρ, h, [], Nat.le_refl _, .refl _, o, .refl _ _, by simp, fun i hi => by omega, fun i y hi => by omega, rfl⟩
          | succ j ihj =>
            intro hj
            obtain ⟨n1, ρ1, h1, acc, a1, a2, a3, a4, a5, a6, a7, a8⟩ := ihj (by omega)
            have hej := hea j (by omega)
            cases hr : elems[j]? with
            | none => rw [List.getElem?_eq_none_iff] at hr; omega
            | some y =>
              rw [hr] at hej
              obtain ⟨c0, e1, e2⟩ := Option.bind_eq_some_iff.1 hej
              obtain ⟨_, e3, e4⟩ := World.cells?_some e1
              obtain ⟨n2, ρ2, h2, as, b1, b2, b3, b4, b5, b6, b7, b8⟩ := ih fn e c0 y.1 y.2 n1 ρ1 h1 hpe e2 a3
              have hcap : cap ≠ 0 := by omega
              refine ⟨n2, ρ2, h2, acc ++ as, by omega, a2.trans b2, b3, Ext.trans a1 a4 b4, by rw [List.length_append, a5, b5, e3, Nat.add_mul]; simp, ?_, ?_, known_append _ _ a8 b8⟩
              · intro i hi
                by_cases hlt : i < j * P.cellsOf e
                · obtain ⟨v, q1, q2⟩ := a6 i hlt
                  exact ⟨v, q1, by rw [getD_append_lt (by omega)]; exact q2.mono b2⟩
                · have hk : i - j * P.cellsOf e < P.cellsOf e := by rw [Nat.add_mul] at hi; omega
                  have q1 := e4 (i - j * P.cellsOf e) hk
                  rw [add_two _ _ _ (.inl (hspot hcap))] at q1
                  rw [show j * P.cellsOf e + (i - j * P.cellsOf e) = i by omega] at q1
                  have q2 := b6 (i - j * P.cellsOf e)
                  refine ⟨c0.getD (i - j * P.cellsOf e) (.tuple #[]), ?_, by rw [getD_append_ge (by omega), a5]; exact q2⟩
                  rw [q1]
                  have : i - j * P.cellsOf e < c0.length := by omega
                  simp [List.getD, this]
              · intro i z hi hz'
                by_cases hlt : i < j
                · have q := a7 i z hlt hz'
                  have e5 : ((acc ++ as).drop (i * P.cellsOf e)).take (P.cellsOf e) = (acc.drop (i * P.cellsOf e)).take (P.cellsOf e) := by
                    have : i * P.cellsOf e + P.cellsOf e ≤ j * P.cellsOf e := by
                      rw [← Nat.succ_mul]; exact Nat.mul_le_mul_right _ hlt
                    rw [List.drop_append_of_le_length (by omega), List.take_append_of_le_length (by rw [List.length_drop]; omega)]
                  rw [e5]
                  exact q.ext b4 a3.low
                · have : i = j := by omega
                  subst this
                  rw [hr] at hz'; cases hz'
                  have e5 : ((acc ++ as).drop (i * P.cellsOf e)).take (P.cellsOf e) = as := by
                    rw [← a5, List.drop_left, List.take_of_length_le (by omega)]
                  rw [e5]; exact b7
        obtain ⟨n1, ρ1, h1, acc, a1, a2, a3, a4, a5, a6, a7, a8⟩ := each len (Nat.le_refl _)
        obtain ⟨o2, x2⟩ := a3.ro acc a (cap * P.cellsOf e) (P.cellsOf e) (by rw [a5]; exact Nat.mul_le_mul_right _ hlc) (fun i hi => a6 i (by omega))
        have helm : (elems.map (·.1)).length = len := by simp [hel]
        refine ⟨n1 + 1, _, _, [.slice (some ⟨n1, 0, none⟩) len len], by omega, a2.trans (Ren.le_set (a3.fresh n1 (Nat.le_refl _)) _), o2, Ext.trans a1 a4 x2, rfl, ?_, ?_, rfl⟩
        · intro i
          cases i with
          | succ i => simp; exact .unk _
          | zero =>
            simp only [List.getD_cons_zero]
            by_cases hc : cap = 0
            · have : len = 0 := by omega
              subst this; subst hc
              exact .slice0 (L := ⟨a.block, a.off, 0 * P.cellsOf e, P.cellsOf e⟩) a (Ren.set_self _ _ _)
            · have hs := hspot hc
              have ea : a = ⟨a.block, a.off + 0, none⟩ := by cases a; simp at hs; simp [hs]
              rw [ea]
              exact .slice (L := ⟨a.block, a.off, cap * P.cellsOf e, P.cellsOf e⟩) cap (Ren.set_self _ _ _) hlc (fun _ => by simp)
        · rw [← helm]
          refine .slice hu ?_ (by rw [helm]; exact Nat.le_trans hlc hcm) fun i dd hd => ?_
          · simp [AH.app, Dl.new, helm, a5]
          · obtain ⟨y, hy, rfl⟩ : ∃ y, elems[i]? = some y ∧ y.1 = dd := by simpa using hd
            have hi : i < len := by rw [← hel]; exact (List.getElem?_eq_some_iff.1 hy).1
            have : i * P.cellsOf e + P.cellsOf e ≤ len * P.cellsOf e := by
              rw [← Nat.succ_mul]; exact Nat.mul_le_mul_right _ hi
            rw [rd_new _ _ _ _ _ _ (by omega)]
            exact (a7 i y hi hy).ext x2 a3.low
    · rename_i fs hu
      simp only [Bool.and_eq_true] at hp
      obtain ⟨hpf, hrow⟩ := hp
      obtain ⟨xs, fn, rfl, hx, hcl, hxl, hxe⟩ := DataW.trod_struct hu htr
      cases hx
      -- the fields, one by one
      have each : ∀ (l : List Field) (off j : Nat) (n : Nat) (ρ : Ren) (h : AH), inRow P l off (P.cellsOf t) = true → l.all (fun f => plainT P k f.type) = true → (∀ i, l[i]? = fs[j + i]?) → OpenInv w n ρ h →
          ∃ n' ρ' h' acc, n ≤ n' ∧ ρ.le ρ' ∧ OpenInv w n' ρ' h' ∧ Ext n h h' ∧ acc.length + off = P.cellsOf t ∧ (∀ i, VRel ρ' (acc.getD i (.tuple #[])) (cs.getD (off + i) (.tuple #[]))) ∧
            (∀ (i : Nat) (f : Field) (y : DataW H × List MemPlace), l[i]? = some f → xs[j + i]? = some y → off ≤ f.offset ∧ RepD P h' f.type ((acc.drop (f.offset - off)).take (P.cellsOf f.type)) y.1) ∧ known acc = true := by
        intro l
        induction l with
        | nil =>
          intro off j n ρ h hr _ _ o
          simp only [inRow, beq_iff_eq] at hr
          refine ⟨n, ρ, h, [], Nat.le_refl _, .refl _, o, .refl _ _, by simpa using hr, fun i => by simp; exact .unk _, fun i f y hf => by simp at hf, rfl⟩
        | cons f l ihl =>
          intro off j n ρ h hr hpl hfs o
          simp only [inRow, Bool.and_eq_true, beq_iff_eq] at hr
          simp only [List.all_cons, Bool.and_eq_true] at hpl
          obtain ⟨hfo, hr⟩ := hr
          have hf0 : fs[j]? = some f := by have := hfs 0; simpa using this.symm
          have hxj := hxe j f hf0
          have hjlt : j < fs.size := (Array.getElem?_eq_some_iff.1 hf0).1
          cases hxy : xs[j]? with
          | none => rw [List.getElem?_eq_none_iff] at hxy; omega
          | some y =>
            rw [hxy] at hxj
            obtain ⟨n1, ρ1, h1, as, b1, b2, b3, b4, b5, b6, b7, b8⟩ := ih fn f.type _ y.1 y.2 n ρ h hpl.1 hxj o
            obtain ⟨n2, ρ2, h2, acc, c1, c2, c3, c4, c5, c6, c7, c8⟩ := ihl (off + P.cellsOf f.type) (j + 1) n1 ρ1 h1 hr hpl.2 (fun i => by
              have := hfs (i + 1); simp only [List.getElem?_cons_succ] at this; rw [this]; congr 1; omega) b3
            have hlen : as.length = P.cellsOf f.type := by
              rw [b5, List.length_take, List.length_drop]; omega
            refine ⟨n2, ρ2, h2, as ++ acc, by omega, b2.trans c2, c3, Ext.trans b1 b4 c4, by rw [List.length_append, hlen]; omega, ?_, ?_, known_append _ _ b8 c8⟩
            · intro i
              by_cases hi : i < as.length
              · rw [getD_append_lt hi]
                have := (b6 i).mono c2
                have e5 : ((cs.drop f.offset).take (P.cellsOf f.type)).getD i (.tuple #[]) = cs.getD (off + i) (.tuple #[]) := by
                  rw [hfo]
                  simp only [List.getD]
                  rw [List.getElem?_take_of_lt (by omega), List.getElem?_drop]
                rw [e5] at this; exact this
              · rw [getD_append_ge (by omega)]
                have := c6 (i - as.length)
                rw [show off + P.cellsOf f.type + (i - as.length) = off + i by omega] at this
                exact this
            · intro i g z hg hz'
              cases i with
              | zero =>
                simp only [List.getElem?_cons_zero, Option.some.injEq] at hg
                subst hg
                rw [Nat.add_zero, hxy] at hz'; cases hz'
                refine ⟨by omega, ?_⟩
                rw [hfo, Nat.sub_self, List.drop_zero, List.take_append_of_le_length (by omega), List.take_of_length_le (by omega)]
                exact b7.ext c4 b3.low
              | succ i =>
                simp only [List.getElem?_cons_succ] at hg
                obtain ⟨q1, q2⟩ := c7 i g z hg (by rw [show j + 1 + i = j + (i + 1) by omega]; exact hz')
                refine ⟨by omega, ?_⟩
                have e5 : (as ++ acc).drop (g.offset - off) = acc.drop (g.offset - (off + P.cellsOf f.type)) := by
                  rw [List.drop_append, List.drop_eq_nil_of_le (by omega), List.nil_append, hlen]; congr 1; omega
                rw [e5]; exact q2
      obtain ⟨n1, ρ1, h1, acc, a1, a2, a3, a4, a5, a6, a7, a8⟩ := each fs.toList 0 0 n ρ h hrow hpf (fun i => by simp) o
      refine ⟨n1, ρ1, h1, acc, a1, a2, a3, a4, by omega, fun i => by simpa using a6 i, .struct hu (by omega) (by simp [hxl]) fun i f dd hf hd => ?_, a8⟩
      obtain ⟨y, hy, rfl⟩ : ∃ y, xs[i]? = some y ∧ y.1 = dd := by simpa using hd
      have := (a7 i f y (by simpa using hf) (by simpa using hy)).2
      simpa using this
    · cases hp

end Go.Abs

/- A law out of its contract: all arguments opened, the call told, the frame given back. -/
namespace Go.Abs
open Go.RowKit Go.ChangeShapes Go.WideShapes

variable {H : Type} {enc : TypeId × Value → H} {P : Program} {w : World} {base : Nat}

/-- An argument that reads as the datum d. -/
def RepA (P : Program) (h : AH) (t : TypeId) (a : Value) (d : DataW H) : Prop :=
  match P.underlying t with
  | some (.struct _) => ∃ cs : List Value, a = .agg cs.toArray ∧ RepD P h t cs d
  | _ => RepD P h t [a] d

inductive RepArgs (P : Program) (h : AH) : List TypeId → List Value → List (DataW H) → Prop
  | nil : RepArgs P h [] [] []
  | cons {t a d ts as ds} (x : RepA P h t a d) (r : RepArgs P h ts as ds) : RepArgs P h (t :: ts) (a :: as) (d :: ds)

theorem RepA.ext {n : Nat} {h h' : AH} (e : Ext n h h') (lo : Low n h) {t : TypeId} {a : Value} {d : DataW H} (r : RepA P h t a d) : RepA P h' t a d := by
  unfold RepA at *
  split
  · rename_i hu; rw [hu] at r; simp only at r
    obtain ⟨cs, h1, h2⟩ := r
    exact ⟨cs, h1, h2.ext e lo⟩
  · rename_i hu
    cases hp : P.underlying t with
    | none => rw [hp] at r; exact RepD.ext e lo r
    | some d =>
      cases d with
      | struct fs => exact absurd hp (hu fs)
      | _ => rw [hp] at r; exact RepD.ext e lo r

theorem openV {t : TypeId} {v : Value} {d : DataW H} {ps : List MemPlace} (hp : plainT P 8 t = true) (hok : Value.okWide P w .any base t v) (htr : DataW.Trod enc P w 0 (fun _ => true) true t v d ps)
    {n : Nat} {ρ : Ren} {h : AH} (o : OpenInv w n ρ h) : ∃ n' ρ' h' a, n ≤ n' ∧ ρ.le ρ' ∧ OpenInv w n' ρ' h' ∧ Ext n h h' ∧ VRel ρ' a v ∧ RepA P h' t a d := by
  obtain ⟨fuel, htr⟩ := htr
  obtain ⟨n', ρ', h', as, a1, a2, a3, a4, a5, a6, a7, a8⟩ := openD 8 fuel t _ d ps n ρ h hp htr o
  unfold plainT at hp
  split at hp
  · rename_i hu
    obtain ⟨b, rfl⟩ := okWide_bool hu hok
    simp [Value.cells] at a5
    obtain ⟨x, rfl⟩ : ∃ x, as = [x] := List.length_eq_one_iff.1 a5
    refine ⟨n', ρ', h', x, a1, a2, a3, a4, by simpa [Value.cells] using a6 0, ?_⟩
    unfold RepA; rw [hu]; exact a7
  · rename_i q hu
    obtain ⟨b, rfl⟩ := okWide_int hu hok
    simp [Value.cells] at a5
    obtain ⟨x, rfl⟩ : ∃ x, as = [x] := List.length_eq_one_iff.1 a5
    refine ⟨n', ρ', h', x, a1, a2, a3, a4, by simpa [Value.cells] using a6 0, ?_⟩
    unfold RepA; rw [hu]; exact a7
  · rename_i hu
    obtain ⟨b, rfl⟩ := okWide_string hu hok
    simp [Value.cells] at a5
    obtain ⟨x, rfl⟩ : ∃ x, as = [x] := List.length_eq_one_iff.1 a5
    refine ⟨n', ρ', h', x, a1, a2, a3, a4, by simpa [Value.cells] using a6 0, ?_⟩
    unfold RepA; rw [hu]; exact a7
  · rename_i e hu
    obtain ⟨b, l, c, rfl⟩ := okWide_slice hu hok
    simp [Value.cells] at a5
    obtain ⟨x, rfl⟩ : ∃ x, as = [x] := List.length_eq_one_iff.1 a5
    refine ⟨n', ρ', h', x, a1, a2, a3, a4, by simpa [Value.cells] using a6 0, ?_⟩
    unfold RepA; rw [hu]; exact a7
  · rename_i fs hu
    obtain ⟨cs, rfl, hcs⟩ := okWide_struct hu hok
    simp only [Value.cells] at a5 a6
    refine ⟨n', ρ', h', .agg as.toArray, a1, a2, a3, a4, .agg (by simpa using a5) fun i => ?_, ?_⟩
    · have := a6 i
      simpa [Array.getD_eq_getD_getElem?, List.getD] using this
    · unfold RepA; rw [hu]; exact ⟨as, rfl, a7⟩
  · cases hp

theorem openAll : ∀ (ts : List TypeId) (vs : List Value) (ds : List (DataW H)) (ps : List MemPlace), ts.all (plainT P 8) = true → DataW.TrodAll enc P w 0 (fun _ => true) true ts vs ds ps →
    (∀ (j : Nat) t v, ts[j]? = some t → vs[j]? = some v → Value.okWide P w .any base t v) → ∀ {n : Nat} {ρ : Ren} {h : AH}, OpenInv w n ρ h →
    ∃ n' ρ' h' as, n ≤ n' ∧ ρ.le ρ' ∧ OpenInv w n' ρ' h' ∧ Ext n h h' ∧ as.length = vs.length ∧ (∀ i, VRel ρ' (as.getD i (.tuple #[])) (vs.getD i (.tuple #[]))) ∧ RepArgs P h' ts as ds
  | [], vs, ds, ps, _, htr, _, n, ρ, h, o => by
    obtain ⟨rfl, rfl, rfl⟩ := trodAll_nil htr
    exact ⟨n, ρ, h, [], Nat.le_refl _, .refl _, o, .refl _ _, rfl, fun i => by simp; exact .unk _, .nil⟩
  | t :: ts, vs, ds, ps, hp, htr, hok, n, ρ, h, o => by
    simp only [List.all_cons, Bool.and_eq_true] at hp
    obtain ⟨v, vs', d, ds', p, q, rfl, rfl, rfl, h1, h2⟩ := trodAll_cons htr
    obtain ⟨n1, ρ1, h1', a, b1, b2, b3, b4, b5, b6⟩ := openV hp.1 (hok 0 t v rfl rfl) h1 o
    obtain ⟨n2, ρ2, h2', as, c1, c2, c3, c4, c5, c6, c7⟩ := openAll ts vs' ds' q hp.2 h2 (fun j t v ht hv => hok (j + 1) t v (by simpa using ht) (by simpa using hv)) b3
    refine ⟨n2, ρ2, h2', a :: as, by omega, b2.trans c2, c3, Ext.trans b1 b4 c4, by simp [c5], fun i => ?_, .cons (b6.ext c4 b3.low) c7⟩
    cases i with
    | zero => exact b5.mono c2
    | succ i => simpa using c6 i

/-- The law's call. -/
theorem law_calls {f : FuncId} {ts : List TypeId} {args : Array Value} {ds : List (DataW H)} {ps : List MemPlace} (hp : ts.all (plainT P 8) = true) (htr : DataW.TrodAll enc P w 0 (fun _ => true) true ts args.toList ds ps)
    (hok : ∀ (j : Nat) t v, ts[j]? = some t → args[j]? = some v → Value.okWide P w .any base t v)
    (body : ∀ (n : Nat) (h : AH) (as : List Value), Low n h → 0 < n → RepArgs P h ts as ds → ∃ n' h', Ev P none' f as.toArray n h (.bool true) n' h') :
    Calls P f args w fun e w' => e = .returned (.bool true) ∧ Below w.heap.size w w' := by
  obtain ⟨n, ρ, h, as, _, _, o, _, hl, hv, hr⟩ := openAll ts args.toList ds ps hp htr (fun j t v h1 h2 => hok j t v h1 (by simpa using h2)) (OpenInv.start w)
  obtain ⟨n', h', _, d, hle, hn, hwi, run⟩ := body (n + 1) h as (fun b hb => o.low b (by omega)) (by omega) hr
  refine (callsIn_wide (n := 0)).1 ?_
  refine CallsIn.mono (run (.start w) ρ w h args (.refl _) (fun b h1 _ => o.fresh b (by omega)) o.sim ⟨by simpa using hl, fun i => ?_⟩) ?_
  · have := hv i
    simpa [Array.getD_eq_getD_getElem?, List.getD] using this
  · rintro e w' ⟨ρ', c, rfl, hg, hvr, hs⟩
    exact ⟨by rw [hvr.bool_inv], hs.base⟩

end Go.Abs
