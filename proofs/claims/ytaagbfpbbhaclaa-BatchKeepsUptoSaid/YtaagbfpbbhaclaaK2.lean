/- Contracts of batches: the batch of rows. -/
import Derived.Test.YtaagbfpbbhaclaaK
set_option linter.unusedSimpArgs false
set_option linter.unusedVariables false
namespace Go.Proofs.Ytaagbfpbbhaclaa
open Go.Abs

theorem known_replicate (v : Value) (k : Nat) (h : known [v] = true) : known (List.replicate k v) = true := by
  induction k with
  | zero => rfl
  | succ k ih => rw [List.replicate_succ]; cases v <;> simp_all [known]
/-- A batch, plainly. -/
structure Bat where
  types : List Ty
  num : Int
  cols : List (List Val)
  sel : List Int
def Bat.may (b : Bat) : Prop := b.types.length ≤ 32 ∧ b.cols.length = b.types.length ∧ 0 ≤ b.num ∧ b.num ≤ 2048 ∧ (∀ (i : Nat) (t : Ty) (l : List Val), b.types[i]? = some t → b.cols[i]? = some l → (l.length : Int) = b.num ∧ colMay t l) ∧ selP b.num b.sel
theorem may_iff {ta ca sa : Option Addr} {ts : List Ty} {N : Int} {cs : List RowE} {sel : List Int} : BatE.may ⟨ta, ts, N, ca, cs, sa, sel⟩ ↔ Bat.may ⟨ts, N, cs.map Prod.snd, sel⟩ := by
  unfold BatE.may Bat.may
  dsimp only
  rw [List.length_map]
  refine and_congr_right fun _ => and_congr_right fun _ => and_congr_right fun _ => and_congr_right fun _ => and_congr_left fun _ => ?_
  constructor
  · intro k i t l h1 h2
    rw [List.getElem?_map] at h2
    obtain ⟨e, he, rfl⟩ := Option.map_eq_some_iff.1 h2
    exact k i t e h1 he
  · intro k i t e h1 h2
    exact k i t e.2 h1 (by rw [List.getElem?_map, h2]; rfl)
def colOf (rs : List (List Val)) (c : Nat) : List Val := rs.map fun r => r.getD c dV
def colsOf (m : Nat) (rs : List (List Val)) : List (List Val) := (List.range m).map (colOf rs)
def selAll (k : Nat) : List Int := (List.range k).map Int.ofNat
theorem selAll_length (k : Nat) : (selAll k).length = k := by simp [selAll]
theorem selAll_succ (k : Nat) : selAll (k + 1) = selAll k ++ [(k : Int)] := by simp [selAll, List.range_succ]
def ofB (ts : List Ty) (rs : List (List Val)) : Bat := ⟨ts, rs.length, colsOf ts.length rs, selAll rs.length⟩
def ofMay (ts : List Ty) (rs : List (List Val)) : Prop := (∀ r ∈ rs, r.length = ts.length) ∧ (ofB ts rs).may
def rowO (e : RowE) : RowO := (e.1, e.2.length, valsC e.2)
theorem rowO_v (L : List RowE) : (L.map rowO).map RowO.v = L.map rowV := by rw [List.map_map]; rfl
theorem OwnRR.rowsR {h : AH} {n0 m0 n : Nat} {a : Option Addr} {L : List RowE} (o : OwnRR h n0 m0 n a 5 (L.map rowO)) : RowsR h n a L where
  out := by
    have := o.out.slr
    rw [rowO_v, List.length_map] at this; exact this
  in_ := fun e he => by
    obtain ⟨i, hi⟩ := List.getElem?_of_mem he
    exact (o.inn i (rowO e) (by rw [List.getElem?_map, hi]; rfl)).slr
/-- A batch in memory of its own. -/
structure BatO (n0 : Nat) (h : AH) (n : Nat) (ta : Option Addr) (ts : List Ty) (ca : Option Addr) (cs : List RowE) (sa : Option Addr) (sel : List Int) : Prop where
  types : OwnSl h n0 n ta 2 ts.length (tysC ts)
  cols : OwnRR h n0 n0 n ca 5 (cs.map rowO)
  sel : OwnSl h n0 n sa 1 sel.length (intsV .i64 sel)
theorem OwnSl.slN {h : AH} {n0 n m : Nat} {a : Option Addr} {l : List Int} (o : OwnSl h n0 n a 1 m (intsV .i64 l)) : SlN h n a l := by
  have := o.slr
  have e := o.len
  rw [intsV, List.length_map, Nat.mul_one] at e
  subst e
  refine this.congr fun j hj => ?_
  simp only [intsV, List.getD]
  by_cases q : j < l.length
  · simp [q]
  · omega
theorem BatO.ext {h h1 : AH} {n0 n n1 : Nat} {ta ca sa : Option Addr} {ts : List Ty} {cs : List RowE} {sel : List Int} (o : BatO n0 h n ta ts ca cs sa sel) (E : Ext n h h1) (hn : n ≤ n1) : BatO n0 h1 n1 ta ts ca cs sa sel := ⟨o.types.ext E hn, o.cols.ext E hn, o.sel.ext E hn⟩
abbrev batV (ta : Option Addr) (ts : List Ty) (N : Int) (ca : Option Addr) (cs : List RowE) (sa : Option Addr) (sel : List Int) : Value := .agg #[.slice ta ts.length ts.length, .int .i64 N, .slice ca cs.length cs.length, .slice sa sel.length sel.length]
abbrev zeroV : Value := .agg #[.slice none 0 0, .int .i64 0, .slice none 0 0, .slice none 0 0]
/-- The answer is the batch b, in memory of its own. -/
def IsBat (b : Bat) (n0 : Nat) (v : Value) (n : Nat) (h : AH) : Prop := ∃ ta ca cs sa, v = batV ta b.types b.num ca cs sa b.sel ∧ cs.map Prod.snd = b.cols ∧ BatO n0 h n ta b.types ca cs sa b.sel
/-- The state while rows are put into columns: the batch lies in block q, its columns' row in block p. -/
structure OfI (h0 : AH) (n p q : Nat) (a1 : Option Addr) (ts : List Ty) (N : Int) (h : AH) (nn : Nat) (cs : List RowE) (sa : Option Addr) (k : Nat) : Prop where
  ext : Ext n h0 h
  types : OwnSl h (n + 1) nn a1 2 ts.length (tysC ts)
  tl : a1 = none ∨ sb a1 < p
  cols : OwnRR h (n + 1) (q + 1) nn (some ⟨p, 0, none⟩) 5 (cs.map rowO)
  len : cs.length = ts.length
  sel : OwnSl h (q + 1) nn sa 1 k (intsV .i64 (selAll k))
  ap : ∀ e ∈ cs, Apart sa e.1
  inf : h.info q = some ⟨4, 0, true, 0⟩
  inr : h.info n = some ⟨4, 0, true, 0⟩
  c0 : h.cell q 0 = .slice a1 ts.length ts.length
  c1 : h.cell q 1 = .int .i64 N
  c2 : h.cell q 2 = .slice (some ⟨p, 0, none⟩) ts.length ts.length
  c3 : h.cell q 3 = .slice sa k k
  lt : n < p ∧ p < q ∧ q < nn
section
variable {h0 h h1 : AH} {n p q nn n1 k j : Nat} {a1 sa : Option Addr} {ts : List Ty} {N : Int} {cs : List RowE}
theorem OfI.grow (o : OfI h0 n p q a1 ts N h nn cs sa k) (E : Ext nn h h1) (hn : nn ≤ n1) : OfI h0 n p q a1 ts N h1 n1 cs sa k where
  ext := o.ext.trans (by have := o.lt; omega) E
  types := o.types.ext E hn
  tl := o.tl
  cols := o.cols.ext E hn
  len := o.len
  sel := o.sel.ext E hn
  ap := o.ap
  inf := (E.info _ o.lt.2.2).trans o.inf
  inr := (E.info _ (by have := o.lt; omega)).trans o.inr
  c0 := c_ext E o.lt.2.2 o.c0
  c1 := c_ext E o.lt.2.2 o.c1
  c2 := c_ext E o.lt.2.2 o.c2
  c3 := c_ext E o.lt.2.2 o.c3
  lt := ⟨o.lt.1, o.lt.2.1, Nat.lt_of_lt_of_le o.lt.2.2 hn⟩
theorem OfI.col (o : OfI h0 n p q a1 ts N h nn cs sa k) {e : RowE} (he : cs[j]? = some e) : OwnSl h (q + 1) nn e.1 5 e.2.length (valsC e.2) ∧ h.cell p (0 + j) = .slice e.1 e.2.length e.2.length ∧ (e.1 = none ∨ q < sb e.1) := by
  have hj : (cs.map rowO)[j]? = some (rowO e) := by rw [List.getElem?_map, he]; rfl
  have h1 := o.cols.inn j _ hj
  exact ⟨h1, (o.cols.at_ hj).2.2.2, h1.at'.imp id fun w => Nat.lt_of_succ_le w.1⟩
theorem OfI.inp (o : OfI h0 n p q a1 ts N h nn cs sa k) (ht : 0 < ts.length) : h.info p = some ⟨ts.length, 0, true, 1⟩ := by
  obtain ⟨-, -, -, k, -⟩ := o.cols.out.facts (by rw [List.length_map, o.len]; exact ht)
  rw [List.length_map, o.len, Nat.mul_one] at k
  exact k
theorem OfI.put (o : OfI h0 n p q a1 ts N h nn cs sa k) {e : RowE} {c : Option Addr} {v : Val} {m : Nat} (he : cs[j]? = some e) (hX : ExtX nn e.1 h h1) (hn : nn ≤ n1) (hm : m = e.2.length + 1) (hO : OwnSl h1 (q + 1) n1 c 5 m (valsC e.2 ++ valC v)) (hc : c = e.1 ∨ nn ≤ sb c) :
    OfI h0 n p q a1 ts N (h1.app (.sets p (0 + j) [.slice c m m])) n1 (cs.set j (c, e.2 ++ [v])) sa k := by
  subst hm
  obtain ⟨l1, l2, l3⟩ := o.lt
  have hj : (cs.map rowO)[j]? = some (rowO e) := by rw [List.getElem?_map, he]; rfl
  obtain ⟨hoe, -, hqe⟩ := o.col he
  have hv : valsC e.2 ++ valC v = valsC (e.2 ++ [v]) := by rw [valsC_app]; simp [valsC]
  rw [hv] at hO
  have hae : ∀ x : Nat, x ≤ q → e.1 = none ∨ x ≠ sb e.1 := fun x hx => hqe.imp id fun w => by omega
  have hap := o.ap e (List.mem_of_getElem? he)
  have hup := o.cols.upd hj hX hn hO hc
  have hsel : sa = none ∨ q < sb sa := o.sel.at'.imp id fun w => by omega
  refine ⟨(o.ext.trans (by omega) (hX.ext hoe)).appSets (by omega), (o.types.extX hX hn ?_).setsN (o.tl.imp id fun w => by omega), o.tl, ?_, by rw [List.length_set]; exact o.len, (o.sel.extX hX hn ?_).sets (by omega), fun f hf => ?_, i_sets (i_extX hX l3 (hae _ (Nat.le_refl _)) o.inf), i_sets (i_extX hX (by omega) (hae _ (by omega)) o.inr), ?_, ?_, ?_, ?_, l1, l2, by omega⟩
  · rcases o.tl with w | w
    · exact .inr (.inl w)
    · exact (hqe.imp id fun z => .inr (by omega))
  · rw [List.map_set]
    have : rowO (c, e.2 ++ [v]) = (c, e.2.length + 1, valsC (e.2 ++ [v])) := by simp [rowO]
    rw [this]; exact hup
  · rcases hap with w | w | w
    · exact .inr (.inl w)
    · exact .inl w
    · exact .inr (.inr w)
  · rcases List.mem_or_eq_of_mem_set hf with w | w
    · exact o.ap f w
    · subst w
      rcases hc with z | z
      · rw [z]; exact hap
      · exact Apart.of (o.sel.at'.imp id fun w => w.2) (.inr z)
  · exact c_out (by omega) (c_extX hX l3 (hae _ (Nat.le_refl _)) o.c0)
  · exact c_out (by omega) (c_extX hX l3 (hae _ (Nat.le_refl _)) o.c1)
  · exact c_out (by omega) (c_extX hX l3 (hae _ (Nat.le_refl _)) o.c2)
  · exact c_out (by omega) (c_extX hX l3 (hae _ (Nat.le_refl _)) o.c3)
theorem OfI.more (o : OfI h0 n p q a1 ts N h nn cs sa k) {c : Option Addr} (hX : ExtX nn sa h h1) (hn : nn ≤ n1) (hO : OwnSl h1 (q + 1) n1 c 1 (k + 1) (intsV .i64 (selAll k) ++ [.int .i64 k])) (hc : c = sa ∨ nn ≤ sb c) :
    OfI h0 n p q a1 ts N (h1.app (.sets q 3 [.slice c (k + 1) (k + 1)])) n1 cs c (k + 1) := by
  obtain ⟨l1, l2, l3⟩ := o.lt
  have hv : intsV .i64 (selAll k) ++ [.int .i64 k] = intsV .i64 (selAll (k + 1)) := by rw [selAll_succ]; simp [intsV]
  rw [hv] at hO
  have hsel : sa = none ∨ q < sb sa := o.sel.at'.imp id fun w => by omega
  have hae : ∀ x : Nat, x ≤ q → sa = none ∨ x ≠ sb sa := fun x hx => hsel.imp id fun w => by omega
  refine ⟨(o.ext.trans (by omega) (hX.ext o.sel)).appSets (by omega), (o.types.extX hX hn ?_).setsN (o.tl.imp id fun w => by omega), o.tl, (o.cols.extX hX hn ?_ fun i f hf => ?_).setsN (.inr (by show p ≠ q; omega)) (by omega), o.len, hO.sets (by omega), fun f hf => ?_, i_sets (i_extX hX l3 (hae _ (Nat.le_refl _)) o.inf), i_sets (i_extX hX (by omega) (hae _ (by omega)) o.inr), ?_, ?_, ?_, c_in (Nat.le_refl _) rfl, l1, l2, by omega⟩
  · rcases o.tl with w | w
    · exact .inr (.inl w)
    · exact (hsel.imp id fun z => .inr (by omega))
  · exact hsel.imp id fun w => .inr (by show sb sa ≠ p; omega)
  · rw [List.getElem?_map] at hf
    obtain ⟨e, he, rfl⟩ := Option.map_eq_some_iff.1 hf
    exact o.ap e (List.mem_of_getElem? he)
  · rcases hc with z | z
    · rw [z]; exact o.ap f hf
    · obtain ⟨i, hi⟩ := List.getElem?_of_mem hf
      exact (Apart.of ((o.col hi).1.at'.imp id fun w => w.2) (.inr z)).symm
  · exact c_out (by simp) (c_extX hX l3 (hae _ (Nat.le_refl _)) o.c0)
  · exact c_out (by simp) (c_extX hX l3 (hae _ (Nat.le_refl _)) o.c1)
  · exact c_out (by simp) (c_extX hX l3 (hae _ (Nat.le_refl _)) o.c2)
theorem OfI.bat (o : OfI h0 n p q a1 ts N h nn cs sa k) : BatO n h nn a1 ts (some ⟨p, 0, none⟩) cs sa (selAll k) := ⟨o.types.mono (Nat.le_succ _), o.cols.mono (Nat.le_succ _) (by have := o.lt; omega), by rw [selAll_length]; exact o.sel.mono (by have := o.lt; omega)⟩
theorem OfI.batS {vs : List Value} (o : OfI h0 n p q a1 ts N h nn cs sa k) : BatO n (h.app (.sets n 0 vs)) nn a1 ts (some ⟨p, 0, none⟩) cs sa (selAll k) := ⟨(o.types.sets (Nat.lt_succ_self n)).mono (Nat.le_succ _), (o.cols.setsN (.inr (by show p ≠ n; have := o.lt; omega)) (by have := o.lt; omega)).mono (Nat.le_succ _) (by have := o.lt; omega), by rw [selAll_length]; exact (o.sel.sets (by have := o.lt; omega)).mono (by have := o.lt; omega)⟩
end
/-- Columns while row i is put in: j columns have it. -/
def colsI (m : Nat) (rs : List (List Val)) (i j : Nat) : List (List Val) := (List.range m).map fun c => colOf (rs.take (if c < j then i + 1 else i)) c
theorem colsI_zero (m : Nat) (rs : List (List Val)) (i : Nat) : colsI m rs i 0 = colsOf m (rs.take i) := by simp [colsI, colsOf]
theorem colsI_all (m : Nat) (rs : List (List Val)) (i : Nat) : colsI m rs i m = colsOf m (rs.take (i + 1)) := by
  unfold colsI colsOf
  apply List.map_congr_left
  intro c hc
  rw [if_pos (List.mem_range.1 hc)]
theorem colsI_step {m : Nat} {rs : List (List Val)} {i j : Nat} {r : List Val} {v : Val} {cs : List RowE} {e : RowE} {c' : Option Addr} (hj : j < m) (hi : rs[i]? = some r) (hv : r[j]? = some v) (hc : cs.map Prod.snd = colsI m rs i j) (he : cs[j]? = some e) :
    (cs.set j (c', e.2 ++ [v])).map Prod.snd = colsI m rs i (j + 1) := by
  have hjc : j < cs.length := (List.getElem?_eq_some_iff.1 he).1
  have hlen : cs.length = m := by have := congrArg List.length hc; simpa [colsI] using this
  have hej : e.2 = colOf (rs.take i) j := by
    have := congrArg (fun l => l[j]?) hc
    simp only [List.getElem?_map, he, colsI, List.getElem?_range hj, Option.map_some] at this
    simpa using this
  rw [List.map_set, hc]
  apply List.ext_getElem?
  intro c
  by_cases hcj : c = j
  · subst hcj
    rw [List.getElem?_set_self (by simp [colsI]; omega)]
    simp only [colsI, List.getElem?_map, List.getElem?_range hj, Option.map_some]
    rw [if_pos (by omega), hej, List.take_add_one, hi]
    simp [colOf, List.getD, hv]
  · rw [List.getElem?_set_ne (Ne.symm hcj)]
    simp only [colsI, List.getElem?_map]
    by_cases hcm : c < m
    · rw [List.getElem?_range hcm]
      simp only [Option.map_some]
      by_cases h1 : c < j
      · rw [if_pos h1, if_pos (by omega)]
      · rw [if_neg h1, if_neg (by omega)]
    · rw [List.getElem?_eq_none (by simp; omega)]
      rfl
set_option maxHeartbeats 4000000 in
theorem of_rf (ta ra : Option Addr) (ts : List Ty) (rs : List RowE) (n : Nat) (h : AH) (BT : SlTy h n ta ts) (BR : RowsR h n ra rs) (hT : ts.length ≤ 1099511627776) (hR : rs.length ≤ 1099511627776) (hr : ∀ e ∈ rs, e.2.length ≤ 1099511627776) :
    RF Try.prog none' 16 #[.slice ta ts.length ts.length, .slice ra rs.length rs.length] n h (fun r n' h' => Ext n h h' ∧
      ((∃ v, r = .tuple #[v, .int .i64 0] ∧ ofMay ts (rs.map Prod.snd) ∧ IsBat (ofB ts (rs.map Prod.snd)) n v n' h') ∨ (r = .tuple #[zeroV, .int .i64 130] ∧ ¬ ofMay ts (rs.map Prod.snd)))) := by
  refine RF.of Try.func16 rfl rfl (Nat.le_of_ble_eq_true rfl) ?_; dsimp only [argEnv]
  repeat' (first | refine stpS ?_ | (refine stp2 ?_ ?_ <;> intro _))
  repeat' (first | refine stp ?_ | (refine stp2 ?_ ?_ <;> intro _))
  refine RD.call (n + 1) rfl opds (cloneT_rf ts ta (n + 1) _ (SlR.ext (SlR.ext BT ext (Nat.le_succ n)) (AH.below_ext _ _) (Nat.le_refl _)) hT) (Nat.le_refl _) cfc ?_
  rintro r n1 h1 hle1 ⟨a1, rfl, e1, hO1⟩
  have E1 : Ext (n + 1) _ h1 := e1.via (Nat.le_refl _) (AH.below_ext (h.app (.new n ⟨4, 0, true, 0⟩ [.slice none 0 0, .int .i64 0, .slice none 0 0, .slice none 0 0])) (n + 1))
  repeat' (first | refine stp ?_ | (refine stp2 ?_ ?_ <;> intro _))
  simp only [Int.toNat_natCast]
  have hO2 := OwnSl.new (h := h1) (n0 := n + 1) (m := ts.length) (z := 1) (n := n1) (cs := List.replicate ts.length (.slice none 0 0)) (by omega) (by simp) (known_replicate _ _ rfl)
  simp only [Nat.mul_one] at hO2
  have hI : OfI h n n1 (n1 + 1) a1 ts rs.length (((h1.app (.new n1 ⟨ts.length, 0, true, 1⟩ (List.replicate ts.length (.slice none 0 0)))).app (.new (n1 + 1) ⟨4, 0, true, 0⟩ [.slice none 0 0, .int .i64 0, .slice none 0 0, .slice none 0 0])).app (.sets (n1 + 1) 0 [.slice a1 ts.length ts.length, .int .i64 rs.length, .slice (some ⟨n1, 0, none⟩) ts.length ts.length, .slice none 0 0])) (n1 + 1 + 1) (List.replicate ts.length (none, [])) none 0 := by
    refine ⟨ext, hO1.ext ext (by omega), hO1.at'.imp id fun w => w.2, ?_, by simp, OwnSl.nil (Nat.le_refl _), fun e he => .inl rfl, info, info, cell, cell, cell, cell, by omega⟩
    refine ⟨?_, fun i e hi => ?_, fun i e hi => ?_, fun i j e f hi hj hne => ?_⟩
    · have := hO2.ext (n1 := n1 + 1 + 1) (h1 := ((h1.app (.new n1 ⟨ts.length, 0, true, 1⟩ (List.replicate ts.length (.slice none 0 0)))).app (.new (n1 + 1) ⟨4, 0, true, 0⟩ [.slice none 0 0, .int .i64 0, .slice none 0 0, .slice none 0 0])).app (.sets (n1 + 1) 0 [.slice a1 ts.length ts.length, .int .i64 rs.length, .slice (some ⟨n1, 0, none⟩) ts.length ts.length, .slice none 0 0])) ext (by omega)
      rw [rowO_v]
      simp only [List.map_replicate, List.length_map, List.length_replicate]; exact this
    all_goals rw [List.map_replicate] at hi; obtain rfl := List.eq_of_mem_replicate (List.mem_of_getElem? hi)
    · exact OwnSl.nil (Nat.le_refl _)
    · exact Apart.nil
    · exact .inl rfl
  generalize ((h1.app (.new n1 ⟨ts.length, 0, true, 1⟩ (List.replicate ts.length (.slice none 0 0)))).app (.new (n1 + 1) ⟨4, 0, true, 0⟩ [.slice none 0 0, .int .i64 0, .slice none 0 0, .slice none 0 0])).app (.sets (n1 + 1) 0 [.slice a1 ts.length ts.length, .int .i64 rs.length, .slice (some ⟨n1, 0, none⟩) ts.length ts.length, .slice none 0 0]) = g at *
  clear E1 e1 hO1 hO2
  refine RC.loop ?_
  refine RL.inv (α := Nat × List RowE × Option Addr) (fun y => [(22, .int .i64 (y.1 : Nat)), (21, .int .i64 rs.length), (20, .slice ra rs.length rs.length), (6, .pointer (some ⟨n1 + 1, 0, none⟩)), (4, .pointer (some ⟨n, 0, none⟩)), (0, .slice ta ts.length ts.length)])
    (fun y n2 h2 => y.1 ≤ rs.length ∧ OfI h n n1 (n1 + 1) a1 ts rs.length h2 n2 y.2.1 y.2.2 y.1 ∧ y.2.1.map Prod.snd = colsOf ts.length ((rs.map Prod.snd).take y.1) ∧ ∀ r ∈ (rs.map Prod.snd).take y.1, r.length = ts.length) (fun y => rs.length - y.1) (0, List.replicate ts.length (none, []), none) envs
    ⟨Nat.zero_le _, hI, ?_, fun r hr => by simp at hr⟩ ?_
  · dsimp only; simp only [List.map_replicate, List.take_zero, colsOf]
    apply List.ext_getElem?
    intro i
    by_cases hi : i < ts.length <;> simp [hi, colOf]
  clear hI
  rintro ⟨i, cs, sa⟩ n2 h2 ⟨hi, hI, hcs, hrl⟩
  dsimp only at hi hI hcs hrl ⊢
  obtain ⟨l1, l2, l3⟩ := hI.lt
  by_cases hlt : i < rs.length
  · obtain ⟨e, he⟩ : ∃ e, rs[i]? = some e := ⟨_, List.getElem?_eq_getElem hlt⟩
    obtain ⟨hB, hsn2, f0, V⟩ := (BR.ext hI.ext (by omega : n ≤ n2)).at_ he
    have her := hr e (List.mem_of_getElem? he)
    have i0 := hI.inr
    have hri : (rs.map Prod.snd)[i]? = some e.2 := by rw [List.getElem?_map, he]; rfl
    have htk : (rs.map Prod.snd).take (i + 1) = (rs.map Prod.snd).take i ++ [e.2] := by rw [List.take_add_one, hri]; rfl
    obtain ⟨ea, el⟩ := e
    dsimp only at f0 V her hri htk
    by_cases hl : el.length = ts.length
    · repeat' (first | refine stpS ?_ | (refine stp2 ?_ ?_ <;> intro _))
      refine RC.loop ?_
      refine RL.inv (α := Nat × List RowE) (fun y => [(35, .int .i64 (y.1 : Nat)), (34, .int .i64 el.length), (33, .slice ea el.length el.length), (7, .int .i64 (i : Nat)), (22, .int .i64 (i : Nat)), (21, .int .i64 rs.length), (20, .slice ra rs.length rs.length), (6, .pointer (some ⟨n1 + 1, 0, none⟩)), (4, .pointer (some ⟨n, 0, none⟩)), (0, .slice ta ts.length ts.length)])
        (fun y n3 h3 => y.1 ≤ el.length ∧ n2 ≤ n3 ∧ OfI h n n1 (n1 + 1) a1 ts rs.length h3 n3 y.2 sa i ∧ y.2.map Prod.snd = colsI ts.length (rs.map Prod.snd) i y.1) (fun y => el.length - y.1) (0, cs) envs
        ⟨Nat.zero_le _, Nat.le_refl _, hI, by rw [colsI_zero]; exact hcs⟩ ?_
      clear hI hcs
      rintro ⟨j, cs⟩ n3 h3 ⟨hj, hn3, hI, hcs⟩
      dsimp only at hj hI hcs ⊢
      have V3 : SlV h3 n3 ea el := ((BR.ext hI.ext (by have := hI.lt; omega : n ≤ n3)).at_ he).2.2.2
      by_cases hltj : j < el.length
      · obtain ⟨v, hv⟩ : ∃ v, el[j]? = some v := ⟨_, List.getElem?_eq_getElem hltj⟩
        obtain ⟨c, hc⟩ : ∃ c, cs[j]? = some c := ⟨_, List.getElem?_eq_getElem (by have := hI.len; omega)⟩
        obtain ⟨hC, hsn3, g0, g1, g2, g3, g4⟩ := V3.at_ hv
        have c2 := hI.c2
        have oc0 := (hI.col hc).1
        repeat' (first | refine stpS ?_ | (refine stp2 ?_ ?_ <;> intro _))
        have I3 := hI.grow (n1 := n3 + 1) (h1 := (h3.app (.new n3 ⟨5, 0, true, 0⟩ [.int .i64 0, .int .i64 0, .bool false, .int .i64 0, .string ByteArray.empty])).app (.sets n3 0 (valC v))) ext (Nat.le_succ n3)
        have m0 : ((h3.app (.new n3 ⟨5, 0, true, 0⟩ [.int .i64 0, .int .i64 0, .bool false, .int .i64 0, .string ByteArray.empty])).app (.sets n3 0 (valC v))).cell n3 0 = .int .i64 v.ty.kind := cell
        have m1 : ((h3.app (.new n3 ⟨5, 0, true, 0⟩ [.int .i64 0, .int .i64 0, .bool false, .int .i64 0, .string ByteArray.empty])).app (.sets n3 0 (valC v))).cell n3 1 = .int .i64 v.ty.scale := cell
        have m2 : ((h3.app (.new n3 ⟨5, 0, true, 0⟩ [.int .i64 0, .int .i64 0, .bool false, .int .i64 0, .string ByteArray.empty])).app (.sets n3 0 (valC v))).cell n3 2 = .bool v.null := cell
        have m3 : ((h3.app (.new n3 ⟨5, 0, true, 0⟩ [.int .i64 0, .int .i64 0, .bool false, .int .i64 0, .string ByteArray.empty])).app (.sets n3 0 (valC v))).cell n3 3 = .int .i64 v.num := cell
        have m4 : ((h3.app (.new n3 ⟨5, 0, true, 0⟩ [.int .i64 0, .int .i64 0, .bool false, .int .i64 0, .string ByteArray.empty])).app (.sets n3 0 (valC v))).cell n3 4 = .string v.txt := cell
        change RC _ _ _ _ _ _ ((h3.app (.new n3 ⟨5, 0, true, 0⟩ [.int .i64 0, .int .i64 0, .bool false, .int .i64 0, .string ByteArray.empty])).app (.sets n3 0 (valC v))) _
        generalize (h3.app (.new n3 ⟨5, 0, true, 0⟩ [.int .i64 0, .int .i64 0, .bool false, .int .i64 0, .string ByteArray.empty])).app (.sets n3 0 (valC v)) = g3 at *
        have c2 := I3.c2
        obtain ⟨l4, l5, l6⟩ := I3.lt
        obtain ⟨oc, d0, d1⟩ := I3.col hc
        have hcl : c.2.length ≤ 1099511627776 := by
          have hjm : j < ts.length := by omega
          have : c.2 = colOf ((rs.map Prod.snd).take i) j := by
            have := congrArg (fun l => l[j]?) hcs
            simp only [List.getElem?_map, hc, colsI, List.getElem?_range hjm, Option.map_some] at this
            simpa using this
          rw [this, colOf, List.length_map, List.length_take]
          omega
        repeat' (first | refine stp ?_ | (refine stp2 ?_ ?_ <;> intro _))
        have hE4 : Ext (n3 + 1) g3 (g3.app (.new (n3 + 1) ⟨5, 0, true, 5⟩ (valC v))) := ext
        have hnew : OwnSl (g3.app (.new (n3 + 1) ⟨5, 0, true, 5⟩ (valC v))) (n3 + 1) (n3 + 1 + 1) (some ⟨n3 + 1, 0, none⟩) 5 1 (valC v) := OwnSl.new (h := g3) (m := 1) (z := 5) (Nat.le_refl (n3 + 1)) rfl rfl
        have I4 := I3.grow hE4 (Nat.le_succ (n3 + 1))
        obtain ⟨oc4, d04, d14⟩ := I4.col hc
        have hTo : c.1 ≠ none → n ≤ sb c.1 := fun q => by
          have := d1.resolve_left q
          omega
        have hnd : ¬ inA c.1 (n1 + 1) := fun q => by
          have := d1.resolve_left q.1
          have := q.2
          omega
        have hnd1 : ¬ inA c.1 n1 := fun q => by
          have := d1.resolve_left q.1
          have := q.2
          omega
        have hnd3 : ¬ inA c.1 n3 := fun q => by
          have := oc0.at'.resolve_left q.1
          have := q.2
          omega
        have hWl : ∀ b, inA c.1 b → b < n3 + 1 + 1 := fun b q => by
          have := oc0.at'.resolve_left q.1
          have := q.2
          omega
        refine RD.appendT (n3 + 1 + 1) rfl opd opd oc4 (hnew.ext (AH.below_ext _ _) (Nat.le_refl _)).src full_slice (fun q => .inr (hTo q)) (by omega) (Nat.le_refl _) cfw ?_
        intro a4 n4 h4 hle4 hO4 hX4 hwh
        have hi4 : h4.info n1 = some ⟨ts.length, 0, true, 1⟩ := i_extX hX4 (by omega) (d1.imp id fun q => by omega) (I4.inp (by omega))
        have hn4 : n1 < n4 := by omega
        repeat' (first | refine stp ?_ | (refine stp2 ?_ ?_ <;> intro _))
        simp only [Int.toNat_natCast]
        have I5 := I4.put (n1 := n4) hc hX4 hle4 rfl hO4 hwh
        refine nextC.normal ⟨(j + 1, cs.set j (a4, c.2 ++ [v])), by dsimp only; omega, envs, by dsimp only; omega, by omega, I5, colsI_step (by omega) hri hv hcs hc⟩
      · have hje : j = ts.length := by omega
        subst hje
        rw [colsI_all] at hcs
        have c3 := hI.c3
        have cq := hI.inf
        obtain ⟨l4, l5, l6⟩ := hI.lt
        repeat' (first | refine stpS ?_ | (refine stp2 ?_ ?_ <;> intro _))
        have hE4 : Ext n3 h3 (h3.app (.new n3 ⟨1, 0, true, 1⟩ [.int .i64 (i : Nat)])) := ext
        have hnew : OwnSl (h3.app (.new n3 ⟨1, 0, true, 1⟩ [.int .i64 (i : Nat)])) n3 (n3 + 1) (some ⟨n3, 0, none⟩) 1 1 [.int .i64 (i : Nat)] := OwnSl.new (h := h3) (m := 1) (z := 1) (Nat.le_refl n3) rfl rfl
        have I4 := hI.grow hE4 (Nat.le_succ n3)
        refine RS.append rfl opd opd I4.sel hnew.src full_slice (fun b hb => .inr (by omega)) (by omega) ?_
        intro a4 n4 h4 hle4 hO4 hX4 hwh
        have hsa : sa = none ∨ n1 + 1 ≠ sb sa := I4.sel.at'.imp id fun w => by omega
        have cq4 : h4.info (n1 + 1) = some ⟨4, 0, true, 0⟩ := i_extX hX4 (by omega) hsa I4.inf
        repeat' (first | refine stpS ?_ | (refine stp2 ?_ ?_ <;> intro _))
        have I5 := I4.more (n1 := n4) hX4 hle4 hO4 hwh
        refine nextC.normal ⟨(i + 1, cs, a4), by dsimp only; omega, envs, by dsimp only; omega, I5, hcs, ?_⟩
        intro r hr
        dsimp only at hr
        rw [htk] at hr
        rcases List.mem_append.1 hr with w | w
        · exact hrl r w
        · simp only [List.mem_cons, List.not_mem_nil, or_false] at w
          subst w; exact hl
    · repeat' (first | refine stpS ?_ | (refine stp2 ?_ ?_ <;> intro _))
      refine ⟨hI.ext.appSets (Nat.le_refl _), .inr ⟨rfl, fun q => hl (q.1 el (List.mem_of_getElem? hri))⟩⟩
  · have hie : i = rs.length := by omega
    subst hie
    have htk : (rs.map Prod.snd).take rs.length = rs.map Prod.snd := List.take_of_length_le (by simp)
    rw [htk] at hcs hrl
    have c0 := hI.c0
    have c1 := hI.c1
    have c2 := hI.c2
    have c3 := hI.c3
    have i0 := hI.inr
    have hcl := hI.len
    have hB := hI.bat
    have hsl := selAll_length rs.length
    have hsn := OwnSl.slN hB.sel
    have hrl2 : ∀ e ∈ cs, e.2.length ≤ 1099511627776 := by
      intro e he
      have : e.2 ∈ colsOf ts.length (rs.map Prod.snd) := by rw [← hcs]; exact List.mem_map_of_mem he
      simp only [colsOf, List.mem_map] at this
      obtain ⟨k, -, h3⟩ := this
      rw [← h3, colOf, List.length_map, List.length_map]; exact hR
    have hck := check_rf a1 (some ⟨n1, 0, none⟩) sa ts rs.length cs (selAll rs.length) n2 h2 hB.types.slr (OwnRR.rowsR hB.cols) hsn hrl2 (by rw [hsl]; exact hR)
    rw [hsl, hcl] at hck
    repeat' (first | refine stpS ?_ | (refine stp2 ?_ ?_ <;> intro _))
    refine RS.call rfl opds hck none'W ?_
    have hb : ofB ts (rs.map Prod.snd) = ⟨ts, rs.length, colsOf ts.length (rs.map Prod.snd), selAll rs.length⟩ := by simp [ofB]
    have hmi : BatE.may ⟨a1, ts, rs.length, some ⟨n1, 0, none⟩, cs, sa, selAll rs.length⟩ ↔ ofMay ts (rs.map Prod.snd) := by
      rw [may_iff, hcs]
      unfold ofMay
      rw [hb]
      exact ⟨fun q => ⟨hrl, q⟩, fun q => q.2⟩
    rintro r n3 h3 hle3 ⟨E3, ⟨rfl, hmay⟩ | ⟨rfl, hmay⟩⟩
    · have I3 := hI.grow E3 hle3
      have c0 := I3.c0
      have c1 := I3.c1
      have c2 := I3.c2
      have c3 := I3.c3
      have i0 := I3.inr
      repeat' (first | refine stpS ?_ | (refine stp2 ?_ ?_ <;> intro _))
      refine ⟨I3.ext.appSets (Nat.le_refl _), .inl ⟨_, rfl, hmi.1 hmay, a1, some ⟨n1, 0, none⟩, cs, sa, ?_, by rw [hcs]; rfl, ?_⟩⟩
      · rw [hb]; dsimp only [batV]; rw [hcl, hsl]
      · rw [hb]; dsimp only
        exact I3.batS
    · have I3 := hI.grow E3 hle3
      have i0 := I3.inr
      repeat' (first | refine stpS ?_ | (refine stp2 ?_ ?_ <;> intro _))
      exact ⟨I3.ext.appSets (Nat.le_refl _), .inr ⟨rfl, fun q => hmay (hmi.2 q)⟩⟩
end Go.Proofs.Ytaagbfpbbhaclaa
