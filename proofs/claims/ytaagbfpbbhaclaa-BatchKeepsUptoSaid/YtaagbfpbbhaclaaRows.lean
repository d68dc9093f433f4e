/-
  No cell of these rows narrows 'for every input' (looked for: loops, veiled, ifaces, maps, wideKeys, modest, calm, conditions, laid).
  DERIVED. THE GIVEN ROWS OF THIS SEAT. 7 by the template 'for every input the law returns true; each argument reads behind the call as it read before'; 0 by the template 'total and deterministic' (their statements: YtaagbfpbbhaclaaTotals.lean).
  GIVEN WITH THE SEED: the statements are not yours to turn. If you find one false, say at which input.
  Laid BY PROGRAM, IN A SANDBOX (cutbox-rows.mjs): the forced cells as the released guide's own fill.sh prints them over the translation 64bbf1d37643d2f5… (all of the seat's roots in one cut). By AI agents, Wed Nov 11 2026. No macro, syntax, notation, axiom, sorry.
-/
import Derived.Test.YtaagbfpbbhaclaaChecked
import GoSem.Claim
import GoSem.ClaimJoined
import GoSem.ClaimMapViews
import Derived.JoinedTies
import Derived.KernelRfl
namespace Go.Proofs.Ytaagbfpbbhaclaa
/- THE CELL 'sum', in the pinned program and in every row, IS THE sha256 OF THE DUMP (.gsa) THAT YtaagbfpbbhaclaaProg.lean LOADS. Nothing in Lean hashes anything: it is a label: what it is worth is what the hold of that sum in a sandbox is worth. -/
noncomputable def Try.pinned : Pinned := { name := "ytaagbfpbbhaclaa", sum := "64bbf1d37643d2f546a3adf417790cd4cf435262e053fcadf86b01c1d0d83e5c", checked := Try.checked }
namespace Rows
def none {H : Type} : Left H := { results := [], args := [] }

/-- 'colonnadelaw13.BatchChecks': WHATEVER THE INPUT: true; the input reads as it did. -/
def batchChecksSpec : ChangeSpec := { name := "batchChecks", fn := fun _ => fun
  | [d] => { results := [.lit (.bool true)], args := [d] }
  | _ => none }
def batchChecksRow : OpenClaim := { program := "ytaagbfpbbhaclaa", sum := "64bbf1d37643d2f546a3adf417790cd4cf435262e053fcadf86b01c1d0d83e5c", func := "colonnade/colonnadelaw13.BatchChecks", spec := "batchChecks", unfollowed := true, recurses := true, apart := false }
def BatchChecksSaid : Prop := batchChecksRow.holds Try.pinned (OpenSpec.ofChange batchChecksSpec)

/-- ITS FALSE NEIGHBOUR: 'it returns false'. Refute it at one input. -/
def batchChecksWrong : ChangeSpec := { name := "batchChecks", fn := fun _ => fun
  | [d] => { results := [.lit (.bool false)], args := [d] }
  | _ => none }
def BatchChecksWrongFalsely : Prop := batchChecksRow.holds Try.pinned (OpenSpec.ofChange batchChecksWrong)

/-- 'colonnadelaw13.BatchOf': WHATEVER THE INPUT: true; the input reads as it did. -/
def batchOfSpec : ChangeSpec := { name := "batchOf", fn := fun _ => fun
  | [d1, d2] => { results := [.lit (.bool true)], args := [d1, d2] }
  | _ => none }
def batchOfRow : OpenClaim := { program := "ytaagbfpbbhaclaa", sum := "64bbf1d37643d2f546a3adf417790cd4cf435262e053fcadf86b01c1d0d83e5c", func := "colonnade/colonnadelaw13.BatchOf", spec := "batchOf", unfollowed := true, recurses := true, apart := false }
def BatchOfSaid : Prop := batchOfRow.holds Try.pinned (OpenSpec.ofChange batchOfSpec)

/-- ITS FALSE NEIGHBOUR: 'it returns false'. Refute it at one input. -/
def batchOfWrong : ChangeSpec := { name := "batchOf", fn := fun _ => fun
  | [d1, d2] => { results := [.lit (.bool false)], args := [d1, d2] }
  | _ => none }
def BatchOfWrongFalsely : Prop := batchOfRow.holds Try.pinned (OpenSpec.ofChange batchOfWrong)

/-- 'colonnadelaw13.BatchTwice': WHATEVER THE INPUT: true; the input reads as it did. -/
def batchTwiceSpec : ChangeSpec := { name := "batchTwice", fn := fun _ => fun
  | [d1, d2, d3, d4] => { results := [.lit (.bool true)], args := [d1, d2, d3, d4] }
  | _ => none }
def batchTwiceRow : OpenClaim := { program := "ytaagbfpbbhaclaa", sum := "64bbf1d37643d2f546a3adf417790cd4cf435262e053fcadf86b01c1d0d83e5c", func := "colonnade/colonnadelaw13.BatchTwice", spec := "batchTwice", unfollowed := true, recurses := true, apart := false }
def BatchTwiceSaid : Prop := batchTwiceRow.holds Try.pinned (OpenSpec.ofChange batchTwiceSpec)

/-- ITS FALSE NEIGHBOUR: 'it returns false'. Refute it at one input. -/
def batchTwiceWrong : ChangeSpec := { name := "batchTwice", fn := fun _ => fun
  | [d1, d2, d3, d4] => { results := [.lit (.bool false)], args := [d1, d2, d3, d4] }
  | _ => none }
def BatchTwiceWrongFalsely : Prop := batchTwiceRow.holds Try.pinned (OpenSpec.ofChange batchTwiceWrong)

/-- 'colonnadelaw13.BatchOwn': WHATEVER THE INPUT: true; the input reads as it did. -/
def batchOwnSpec : ChangeSpec := { name := "batchOwn", fn := fun _ => fun
  | [d1, d2] => { results := [.lit (.bool true)], args := [d1, d2] }
  | _ => none }
def batchOwnRow : OpenClaim := { program := "ytaagbfpbbhaclaa", sum := "64bbf1d37643d2f546a3adf417790cd4cf435262e053fcadf86b01c1d0d83e5c", func := "colonnade/colonnadelaw13.BatchOwn", spec := "batchOwn", unfollowed := true, recurses := true, apart := false }
def BatchOwnSaid : Prop := batchOwnRow.holds Try.pinned (OpenSpec.ofChange batchOwnSpec)

/-- ITS FALSE NEIGHBOUR: 'it returns false'. Refute it at one input. -/
def batchOwnWrong : ChangeSpec := { name := "batchOwn", fn := fun _ => fun
  | [d1, d2] => { results := [.lit (.bool false)], args := [d1, d2] }
  | _ => none }
def BatchOwnWrongFalsely : Prop := batchOwnRow.holds Try.pinned (OpenSpec.ofChange batchOwnWrong)

/-- 'colonnadelaw13.BatchCuts': WHATEVER THE INPUT: true; the input reads as it did. -/
def batchCutsSpec : ChangeSpec := { name := "batchCuts", fn := fun _ => fun
  | [d1, d2, d3, d4] => { results := [.lit (.bool true)], args := [d1, d2, d3, d4] }
  | _ => none }
def batchCutsRow : OpenClaim := { program := "ytaagbfpbbhaclaa", sum := "64bbf1d37643d2f546a3adf417790cd4cf435262e053fcadf86b01c1d0d83e5c", func := "colonnade/colonnadelaw13.BatchCuts", spec := "batchCuts", unfollowed := true, recurses := true, apart := false }
def BatchCutsSaid : Prop := batchCutsRow.holds Try.pinned (OpenSpec.ofChange batchCutsSpec)

/-- ITS FALSE NEIGHBOUR: 'it returns false'. Refute it at one input. -/
def batchCutsWrong : ChangeSpec := { name := "batchCuts", fn := fun _ => fun
  | [d1, d2, d3, d4] => { results := [.lit (.bool false)], args := [d1, d2, d3, d4] }
  | _ => none }
def BatchCutsWrongFalsely : Prop := batchCutsRow.holds Try.pinned (OpenSpec.ofChange batchCutsWrong)

/-- 'colonnadelaw13.BatchAll': WHATEVER THE INPUT: true; the input reads as it did. -/
def batchAllSpec : ChangeSpec := { name := "batchAll", fn := fun _ => fun
  | [d1, d2, d3] => { results := [.lit (.bool true)], args := [d1, d2, d3] }
  | _ => none }
def batchAllRow : OpenClaim := { program := "ytaagbfpbbhaclaa", sum := "64bbf1d37643d2f546a3adf417790cd4cf435262e053fcadf86b01c1d0d83e5c", func := "colonnade/colonnadelaw13.BatchAll", spec := "batchAll", unfollowed := true, recurses := true, apart := false }
def BatchAllSaid : Prop := batchAllRow.holds Try.pinned (OpenSpec.ofChange batchAllSpec)

/-- ITS FALSE NEIGHBOUR: 'it returns false'. Refute it at one input. -/
def batchAllWrong : ChangeSpec := { name := "batchAll", fn := fun _ => fun
  | [d1, d2, d3] => { results := [.lit (.bool false)], args := [d1, d2, d3] }
  | _ => none }
def BatchAllWrongFalsely : Prop := batchAllRow.holds Try.pinned (OpenSpec.ofChange batchAllWrong)

/-- 'colonnadelaw13.BatchKeeps': WHATEVER THE INPUT: true; the input reads as it did. -/
def batchKeepsSpec : ChangeSpec := { name := "batchKeeps", fn := fun _ => fun
  | [d1, d2, d3, d4, d5] => { results := [.lit (.bool true)], args := [d1, d2, d3, d4, d5] }
  | _ => none }
def batchKeepsRow : OpenClaim := { program := "ytaagbfpbbhaclaa", sum := "64bbf1d37643d2f546a3adf417790cd4cf435262e053fcadf86b01c1d0d83e5c", func := "colonnade/colonnadelaw13.BatchKeeps", spec := "batchKeeps", unfollowed := true, recurses := true, apart := false }
def BatchKeepsSaid : Prop := batchKeepsRow.holds Try.pinned (OpenSpec.ofChange batchKeepsSpec)

/-- ITS FALSE NEIGHBOUR: 'it returns false'. Refute it at one input. -/
def batchKeepsWrong : ChangeSpec := { name := "batchKeeps", fn := fun _ => fun
  | [d1, d2, d3, d4, d5] => { results := [.lit (.bool false)], args := [d1, d2, d3, d4, d5] }
  | _ => none }
def BatchKeepsWrongFalsely : Prop := batchKeepsRow.holds Try.pinned (OpenSpec.ofChange batchKeepsWrong)

/- THE SECOND FORM. 'bulk': how many values and letters a reading holds, each counted each time it is reached (what is shared counts as often as it is met; a slice's spare places count too). A statement '..UptoSaid' is the law's where the arguments, and the package variables that the reading takes, are together of bulk at most 1048576: NARROWER than '..Said'. Prove '..Said' where nothing that the law and all that it calls make is longer than what came in: it says more and counts as full. Else prove '..UptoSaid'. A law counts once. -/
mutual
def uptoBulk {H : Type} : DataW H → Nat
  | .lit (.string bytes) => bytes.length + 1
  | .lit _ => 1
  | .nil => 1
  | .ptr d => uptoBulk d + 1
  | .slice elems spare => uptoBulkAll elems + uptoBulkAll spare + 1
  | .agg parts => uptoBulkAll parts + 1
  | .iface _ d => uptoBulk d + 1
  | .map entries => uptoBulkEntries entries + 1
  | .held _ => 1
def uptoBulkAll {H : Type} : List (DataW H) → Nat
  | [] => 0
  | d :: r => uptoBulk d + uptoBulkAll r
def uptoBulkEntries {H : Type} : List (Lit × DataW H) → Nat
  | [] => 0
  | x :: r => uptoBulkEntry x + uptoBulkEntries r
def uptoBulkEntry {H : Type} : Lit × DataW H → Nat
  | (.string bytes, d) => bytes.length + uptoBulk d + 1
  | (_, d) => uptoBulk d + 1
 end
def uptoSmall : (H : Type) → List (DataW H) → Bool := fun _ ds => decide (uptoBulkAll ds ≤ 1048576)
def OpenSpec.upto (s : _root_.Go.ChangeSpec) : _root_.Go.OpenSpec := { _root_.Go.OpenSpec.ofChange s with cond := some uptoSmall }

/-- 'colonnadelaw13.BatchChecks', WHERE WHAT IT READS IS OF BULK AT MOST 1048576: true; the input reads as it did. -/
def batchChecksUptoRow : OpenClaim := { program := "ytaagbfpbbhaclaa", sum := "64bbf1d37643d2f546a3adf417790cd4cf435262e053fcadf86b01c1d0d83e5c", func := "colonnade/colonnadelaw13.BatchChecks", spec := "batchChecks", unfollowed := true, recurses := true, apart := false, narrowed := true }
def BatchChecksUptoSaid : Prop := batchChecksUptoRow.holds Try.pinned (OpenSpec.upto batchChecksSpec)

/-- 'colonnadelaw13.BatchOf', WHERE WHAT IT READS IS OF BULK AT MOST 1048576: true; the input reads as it did. -/
def batchOfUptoRow : OpenClaim := { program := "ytaagbfpbbhaclaa", sum := "64bbf1d37643d2f546a3adf417790cd4cf435262e053fcadf86b01c1d0d83e5c", func := "colonnade/colonnadelaw13.BatchOf", spec := "batchOf", unfollowed := true, recurses := true, apart := false, narrowed := true }
def BatchOfUptoSaid : Prop := batchOfUptoRow.holds Try.pinned (OpenSpec.upto batchOfSpec)

/-- 'colonnadelaw13.BatchTwice', WHERE WHAT IT READS IS OF BULK AT MOST 1048576: true; the input reads as it did. -/
def batchTwiceUptoRow : OpenClaim := { program := "ytaagbfpbbhaclaa", sum := "64bbf1d37643d2f546a3adf417790cd4cf435262e053fcadf86b01c1d0d83e5c", func := "colonnade/colonnadelaw13.BatchTwice", spec := "batchTwice", unfollowed := true, recurses := true, apart := false, narrowed := true }
def BatchTwiceUptoSaid : Prop := batchTwiceUptoRow.holds Try.pinned (OpenSpec.upto batchTwiceSpec)

/-- 'colonnadelaw13.BatchOwn', WHERE WHAT IT READS IS OF BULK AT MOST 1048576: true; the input reads as it did. -/
def batchOwnUptoRow : OpenClaim := { program := "ytaagbfpbbhaclaa", sum := "64bbf1d37643d2f546a3adf417790cd4cf435262e053fcadf86b01c1d0d83e5c", func := "colonnade/colonnadelaw13.BatchOwn", spec := "batchOwn", unfollowed := true, recurses := true, apart := false, narrowed := true }
def BatchOwnUptoSaid : Prop := batchOwnUptoRow.holds Try.pinned (OpenSpec.upto batchOwnSpec)

/-- 'colonnadelaw13.BatchCuts', WHERE WHAT IT READS IS OF BULK AT MOST 1048576: true; the input reads as it did. -/
def batchCutsUptoRow : OpenClaim := { program := "ytaagbfpbbhaclaa", sum := "64bbf1d37643d2f546a3adf417790cd4cf435262e053fcadf86b01c1d0d83e5c", func := "colonnade/colonnadelaw13.BatchCuts", spec := "batchCuts", unfollowed := true, recurses := true, apart := false, narrowed := true }
def BatchCutsUptoSaid : Prop := batchCutsUptoRow.holds Try.pinned (OpenSpec.upto batchCutsSpec)

/-- 'colonnadelaw13.BatchAll', WHERE WHAT IT READS IS OF BULK AT MOST 1048576: true; the input reads as it did. -/
def batchAllUptoRow : OpenClaim := { program := "ytaagbfpbbhaclaa", sum := "64bbf1d37643d2f546a3adf417790cd4cf435262e053fcadf86b01c1d0d83e5c", func := "colonnade/colonnadelaw13.BatchAll", spec := "batchAll", unfollowed := true, recurses := true, apart := false, narrowed := true }
def BatchAllUptoSaid : Prop := batchAllUptoRow.holds Try.pinned (OpenSpec.upto batchAllSpec)

/-- 'colonnadelaw13.BatchKeeps', WHERE WHAT IT READS IS OF BULK AT MOST 1048576: true; the input reads as it did. -/
def batchKeepsUptoRow : OpenClaim := { program := "ytaagbfpbbhaclaa", sum := "64bbf1d37643d2f546a3adf417790cd4cf435262e053fcadf86b01c1d0d83e5c", func := "colonnade/colonnadelaw13.BatchKeeps", spec := "batchKeeps", unfollowed := true, recurses := true, apart := false, narrowed := true }
def BatchKeepsUptoSaid : Prop := batchKeepsUptoRow.holds Try.pinned (OpenSpec.upto batchKeepsSpec)

end Rows
end Go.Proofs.Ytaagbfpbbhaclaa
