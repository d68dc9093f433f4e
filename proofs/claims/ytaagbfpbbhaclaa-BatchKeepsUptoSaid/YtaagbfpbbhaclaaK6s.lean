/- Contracts of batches: copies whose parts are apart. -/
import Derived.Test.YtaagbfpbbhaclaaK6
set_option linter.unusedSimpArgs false
set_option linter.unusedVariables false
namespace Go.Proofs.Ytaagbfpbbhaclaa
open Go.Abs

/-- The parts of a batch lie in blocks of their own. -/
structure Sep (ta ca : Option Addr) (cs : List RowE) (sa : Option Addr) : Prop where
  tc : Apart ta ca
  ts : Apart ta sa
  ti : ∀ e ∈ cs, Apart ta e.1
  ca_ : Apart ca sa
  si : ∀ e ∈ cs, Apart sa e.1
theorem ClI.sep {h0 h : AH} {n nL nn : Nat} {a1 a2 c : Option Addr} {ts : List Ty} {sel : List Int} {N : Int} {ds : List RowE} (o : ClI h0 n nL a1 a2 ts sel N h nn c ds) (h12 : Apart a1 a2) : Sep a1 c ds a2 := by
  have h1 : a1 = none ∨ sb a1 < nL := o.types.at'.imp id fun w => w.2
  have h2 : a2 = none ∨ sb a2 < nL := o.snum.at'.imp id fun w => w.2
  have h3 : c = none ∨ nL ≤ sb c := o.cols.out.at'.imp id fun w => w.1
  have h4 : ∀ e ∈ ds, e.1 = none ∨ nL ≤ sb e.1 := fun e he => by
    obtain ⟨i, hi⟩ := List.getElem?_of_mem he
    exact (o.cols.inn i (rowO e) (by rw [List.getElem?_map, hi]; rfl)).at'.imp id fun w => w.1
  exact ⟨Apart.of h1 h3, h12, fun e he => Apart.of h1 (h4 e he), (Apart.of h2 h3).symm, fun e he => Apart.of h2 (h4 e he)⟩
set_option maxHeartbeats 4000000 in
theorem cloneS_rf (ta ca sa : Option Addr) (ts : List Ty) (N : Int) (cs : List RowE) (sel : List Int) (n : Nat) (h : AH) (BT : SlTy h n ta ts) (BC : RowsR h n ca cs) (BS : SlN h n sa sel) (hr : ∀ e ∈ cs, e.2.length ≤ 1099511627776) (hs : sel.length ≤ 1099511627776) (htl : ts.length ≤ 1099511627776) (hcl : cs.length ≤ 1099511627776) :
    RF Try.prog none' 37 #[batV ta ts N ca cs sa sel] n h (fun r n' h' => Ext n h h' ∧ ∃ ta' ca' cs' sa', r = batV ta' ts N ca' cs' sa' sel ∧ cs'.map Prod.snd = cs.map Prod.snd ∧ BatO n h' n' ta' ts ca' cs' sa' sel ∧ Sep ta' ca' cs' sa') := by
  refine RF.of Try.func37 rfl rfl (Nat.le_of_ble_eq_true rfl) ?_; dsimp only [argEnv]
  have E0 : Ext n h ((h.app (.new n ⟨4, 0, true, 0⟩ [.slice ta ts.length ts.length, .int .i64 N, .slice ca cs.length cs.length, .slice sa sel.length sel.length])).app (.new (n + 1) ⟨4, 0, true, 0⟩ [.slice none 0 0, .int .i64 0, .slice none 0 0, .slice none 0 0])) := ext
  have k0 : ((h.app (.new n ⟨4, 0, true, 0⟩ [.slice ta ts.length ts.length, .int .i64 N, .slice ca cs.length cs.length, .slice sa sel.length sel.length])).app (.new (n + 1) ⟨4, 0, true, 0⟩ [.slice none 0 0, .int .i64 0, .slice none 0 0, .slice none 0 0])).cell n 0 = .slice ta ts.length ts.length := cell
  have k1 : ((h.app (.new n ⟨4, 0, true, 0⟩ [.slice ta ts.length ts.length, .int .i64 N, .slice ca cs.length cs.length, .slice sa sel.length sel.length])).app (.new (n + 1) ⟨4, 0, true, 0⟩ [.slice none 0 0, .int .i64 0, .slice none 0 0, .slice none 0 0])).cell n 1 = .int .i64 N := cell
  have k2 : ((h.app (.new n ⟨4, 0, true, 0⟩ [.slice ta ts.length ts.length, .int .i64 N, .slice ca cs.length cs.length, .slice sa sel.length sel.length])).app (.new (n + 1) ⟨4, 0, true, 0⟩ [.slice none 0 0, .int .i64 0, .slice none 0 0, .slice none 0 0])).cell n 2 = .slice ca cs.length cs.length := cell
  have k3 : ((h.app (.new n ⟨4, 0, true, 0⟩ [.slice ta ts.length ts.length, .int .i64 N, .slice ca cs.length cs.length, .slice sa sel.length sel.length])).app (.new (n + 1) ⟨4, 0, true, 0⟩ [.slice none 0 0, .int .i64 0, .slice none 0 0, .slice none 0 0])).cell n 3 = .slice sa sel.length sel.length := cell
  have ki : ((h.app (.new n ⟨4, 0, true, 0⟩ [.slice ta ts.length ts.length, .int .i64 N, .slice ca cs.length cs.length, .slice sa sel.length sel.length])).app (.new (n + 1) ⟨4, 0, true, 0⟩ [.slice none 0 0, .int .i64 0, .slice none 0 0, .slice none 0 0])).info n = some ⟨4, 0, true, 0⟩ := info
  have kj : ((h.app (.new n ⟨4, 0, true, 0⟩ [.slice ta ts.length ts.length, .int .i64 N, .slice ca cs.length cs.length, .slice sa sel.length sel.length])).app (.new (n + 1) ⟨4, 0, true, 0⟩ [.slice none 0 0, .int .i64 0, .slice none 0 0, .slice none 0 0])).info (n + 1) = some ⟨4, 0, true, 0⟩ := info
  repeat' (first | refine stpS ?_ | (refine stp2 ?_ ?_ <;> intro _))
  generalize (h.app (.new n ⟨4, 0, true, 0⟩ [.slice ta ts.length ts.length, .int .i64 N, .slice ca cs.length cs.length, .slice sa sel.length sel.length])).app (.new (n + 1) ⟨4, 0, true, 0⟩ [.slice none 0 0, .int .i64 0, .slice none 0 0, .slice none 0 0]) = g at *
  repeat' (first | refine stp ?_ | (refine stp2 ?_ ?_ <;> intro _))
  refine RD.call (n + 1 + 1) rfl opds (cloneT_rf ts ta (n + 1 + 1) _ (SlR.ext (SlR.ext BT E0 (by omega)) (AH.below_ext _ _) (Nat.le_refl _)) htl) (Nat.le_refl _) cfc ?_
  rintro r n1 h1 hle1 ⟨a1, rfl, e1, hO1⟩
  have E1 : Ext (n + 1 + 1) g h1 := e1.via (Nat.le_refl _) (AH.below_ext g (n + 1 + 1))
  have k0 := c_ext E1 (by omega) k0
  have k1 := c_ext E1 (by omega) k1
  have k2 := c_ext E1 (by omega) k2
  have k3 := c_ext E1 (by omega) k3
  have ki := (E1.info _ (by omega)).trans ki
  have kj := (E1.info _ (by omega)).trans kj
  repeat' (first | refine stp ?_ | (refine stp2 ?_ ?_ <;> intro _))
  refine RD.call n1 rfl opds (cloneN_rf sel sa n1 _ (SlR.ext (SlR.ext BS (E0.trans (by omega) E1) (by omega)) (AH.below_ext _ _) (Nat.le_refl _)) hs) (Nat.le_refl _) cfc ?_
  rintro r n2 h2 hle2 ⟨a2, rfl, e2, hO2⟩
  have E2 : Ext n1 h1 h2 := e2.via (Nat.le_refl _) (AH.below_ext h1 n1)
  have k0 := c_ext E2 (by omega) k0
  have k1 := c_ext E2 (by omega) k1
  have k2 := c_ext E2 (by omega) k2
  have k3 := c_ext E2 (by omega) k3
  have ki := (E2.info _ (by omega)).trans ki
  have kj := (E2.info _ (by omega)).trans kj
  repeat' (first | refine stp ?_ | (refine stp2 ?_ ?_ <;> intro _))
  obtain ⟨g3, hg3⟩ : ∃ g3, g3 = ((h2.app (.sets n 0 [.slice a1 ts.length ts.length])).app (.sets n 3 [.slice a2 sel.length sel.length])).app (.sets n 2 [.slice none 0 0]) := ⟨_, rfl⟩
  have hI : ClI h n n2 a1 a2 ts sel N g3 n2 none [] := by
    have hO1' : OwnSl h2 (n + 2) n2 a1 2 ts.length (tysC ts) := hO1.ext E2 hle2
    have hO2' : OwnSl h2 (n + 2) n2 a2 1 sel.length (intsV .i64 sel) := hO2.mono hle1
    refine ⟨by rw [hg3]; exact ext, ?_, ?_, OwnRR.nil (Nat.le_refl _), by rw [hg3]; exact info, by rw [hg3]; exact info, by rw [hg3]; exact cell, by rw [hg3]; exact cell, by rw [hg3]; exact cell, by rw [hg3]; exact cell, by omega⟩
    · rw [hg3]; exact ((hO1'.sets (by omega)).sets (by omega)).sets (by omega)
    · rw [hg3]; exact ((hO2'.sets (by omega)).sets (by omega)).sets (by omega)
  have hE3 : Ext n h g3 := hI.ext
  have hap12 : Apart a1 a2 := Apart.of (n := n1) (hO1.at'.imp id fun w => w.2) (hO2.at'.imp id fun w => w.1)
  rw [← hg3]
  clear hg3 k0 k1 k2 k3 ki kj hO1 hO2 e1 e2
  refine RC.loop ?_
  refine RL.inv (α := Nat × Option Addr × List RowE) (fun y => [(20, .int .i64 (y.1 : Nat)), (19, .int .i64 cs.length), (18, .slice ca cs.length cs.length), (1, .pointer (some ⟨n, 0, none⟩)), (2, .pointer (some ⟨n + 1, 0, none⟩))])
    (fun y n3 h3 => y.1 ≤ cs.length ∧ n2 ≤ n3 ∧ ClI h n n2 a1 a2 ts sel N h3 n3 y.2.1 y.2.2 ∧ y.2.2.map Prod.snd = (cs.map Prod.snd).take y.1) (fun y => cs.length - y.1) (0, none, []) envs ⟨Nat.zero_le _, Nat.le_refl _, hI, rfl⟩ ?_
  clear hI
  rintro ⟨i, c, ds⟩ n3 h3 ⟨hi, hn3, hI, hds⟩
  dsimp only at hi hI hds ⊢
  obtain ⟨l1, l2⟩ := hI.lt
  have hdl : ds.length = i := by
    have := congrArg List.length hds
    simp only [List.length_map, List.length_take] at this
    omega
  by_cases hlt : i < cs.length
  · obtain ⟨e, he⟩ : ∃ e, cs[i]? = some e := ⟨_, List.getElem?_eq_getElem hlt⟩
    obtain ⟨hB, hsn2, f0, V⟩ := (BC.ext hI.ext (by omega : n ≤ n3)).at_ he
    have her := hr e (List.mem_of_getElem? he)
    have htk : (cs.map Prod.snd).take (i + 1) = (cs.map Prod.snd).take i ++ [e.2] := by rw [List.take_add_one, List.getElem?_map, he]; rfl
    obtain ⟨ea, el⟩ := e
    dsimp only at f0 V her htk
    repeat' (first | refine stpS ?_ | (refine stp2 ?_ ?_ <;> intro _))
    simp only [Int.toNat_natCast]
    have hz0 : OwnSl (h3.app (.new n3 ⟨el.length * 5, 0, true, 5⟩ (zrow [.int .i64 0, .int .i64 0, .bool false, .int .i64 0, .string ByteArray.empty] el.length))) n3 (n3 + 1) (some ⟨n3, 0, none⟩) 5 el.length (zrow [.int .i64 0, .int .i64 0, .bool false, .int .i64 0, .string ByteArray.empty] el.length) :=
      OwnSl.new (h := h3) (m := el.length) (z := 5) (Nat.le_refl n3) (zrow_length _ _) (known_zrow rfl)
    have hE4 : Ext n3 h3 (h3.app (.new n3 ⟨el.length * 5, 0, true, 5⟩ (zrow [.int .i64 0, .int .i64 0, .bool false, .int .i64 0, .string ByteArray.empty] el.length))) := ext
    have I4 := hI.grow hE4 (Nat.le_succ n3)
    have hi4 : (h3.app (.new n3 ⟨el.length * 5, 0, true, 5⟩ (zrow [.int .i64 0, .int .i64 0, .bool false, .int .i64 0, .string ByteArray.empty] el.length))).info n3 = some ⟨el.length * 5, 0, true, 5⟩ := info
    have V4 : SlV _ (n3 + 1) ea el := SlR.ext V hE4 (Nat.le_succ n3)
    generalize h3.app (.new n3 ⟨el.length * 5, 0, true, 5⟩ (zrow [.int .i64 0, .int .i64 0, .bool false, .int .i64 0, .string ByteArray.empty] el.length)) = h4 at *
    refine RS.mem rfl rfl (op_copy (k := el.length) (kk := el.length) Uc.out Tc.out (by decide) (Opd.ev opd) (Opd.ev opd) (SlV.src V4) full_slice (fun c w q => lenOf_slice q) (Nat.min_self _).symm hi4 (Nat.zero_le _) (by show 0 + el.length * 5 ≤ el.length * 5; omega) (.inl (.inr (show n ≤ n3 by omega))) (Nat.lt_succ_self n3)) ?_
    have hz1 := hz0.splice (i := 0) (vs := valsC el) (by rw [valsC_length]; omega) (known_valsC el)
    rw [splice_all _ _ (by rw [valsC_length, hz0.len])] at hz1
    have hz1 : OwnSl (h4.app (.sets n3 0 (valsC el))) n3 (n3 + 1) (some ⟨n3, 0, none⟩) 5 el.length (valsC el) := hz1
    have hE5 : Ext n3 h3 (h4.app (.sets n3 0 (valsC el))) := hE4.appSets (Nat.le_refl _)
    have I5 := hI.grow hE5 (Nat.le_succ n3)
    generalize h4.app (.sets n3 0 (valsC el)) = h5 at *
    have c2 := I5.c2
    rw [hdl] at c2
    have ci := I5.inf
    repeat' (first | refine stpS ?_ | (refine stp2 ?_ ?_ <;> intro _))
    have hE6 : Ext (n3 + 1) h5 (h5.app (.new (n3 + 1) ⟨1, 0, true, 1⟩ [.slice (some ⟨n3, 0, none⟩) el.length el.length])) := ext
    have hnew : OwnSl (h5.app (.new (n3 + 1) ⟨1, 0, true, 1⟩ [.slice (some ⟨n3, 0, none⟩) el.length el.length])) (n3 + 1) (n3 + 1 + 1) (some ⟨n3 + 1, 0, none⟩) 1 1 [.slice (some ⟨n3, 0, none⟩) el.length el.length] := OwnSl.new (h := h5) (m := 1) (z := 1) (Nat.le_refl (n3 + 1)) rfl rfl
    have I6 := I5.grow hE6 (Nat.le_succ (n3 + 1))
    have hO6 := I6.cols.out
    rw [rowO_v, List.length_map, hdl] at hO6
    refine RS.append rfl opd opd hO6 hnew.src full_slice (fun b hb => .inr (by omega)) (by omega) ?_
    intro c' n7 h7 hle7 hO7 hX7 hwh
    have hcl : c = none ∨ n2 ≤ sb c := I6.cols.out.at'.imp id fun w => w.1
    have hcn : c = none ∨ n ≠ sb c := hcl.imp id fun w => by omega
    have ci := i_extX hX7 (by omega) hcn I6.inf
    repeat' (first | refine stpS ?_ | (refine stp2 ?_ ?_ <;> intro _))
    have hdsl : ∀ f ∈ ds, f.1 = none ∨ sb f.1 < n3 := fun f hf => by
      obtain ⟨j, hj⟩ := List.getElem?_of_mem hf
      exact (hI.cols.inn j (rowO f) (by rw [List.getElem?_map, hj]; rfl)).at'.imp id fun w => w.2
    have hcl3 : c = none ∨ sb c < n3 := hI.cols.out.at'.imp id fun w => w.2
    have I7 := I6.push (e := (some ⟨n3, 0, none⟩, el)) (m := i + 1) (n1 := n7) (by omega) ((hz1.ext hE6 (Nat.le_succ (n3 + 1))).mono (by omega)) (Apart.of hcl3 (.inr (Nat.le_refl _))) (fun f hf => (Apart.of (hdsl f hf) (.inr (Nat.le_refl _))).symm) hX7 hle7 hO7 hwh
    refine nextC.normal ⟨(i + 1, c', ds ++ [(some ⟨n3, 0, none⟩, el)]), by dsimp only; omega, envs, by dsimp only; omega, by omega, I7, ?_⟩
    dsimp only
    rw [List.map_append, hds, htk]; rfl
  · have hie : i = cs.length := by omega
    subst hie
    rw [List.take_of_length_le (by simp)] at hds
    have c0 := hI.c0
    have c1 := hI.c1
    have c2 := hI.c2
    have c3 := hI.c3
    have cj := hI.inr
    repeat' (first | refine stpS ?_ | (refine stp2 ?_ ?_ <;> intro _))
    exact ⟨hI.ext.appSets (by omega), a1, c, ds, a2, rfl, hds, hI.batS, hI.sep hap12⟩
end Go.Proofs.Ytaagbfpbbhaclaa
