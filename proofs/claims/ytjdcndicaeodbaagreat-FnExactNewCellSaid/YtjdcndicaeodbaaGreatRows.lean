/-
  No cell of these rows narrows 'for every input' (looked for: loops, veiled, ifaces, maps, wideKeys, modest, calm, conditions, laid).
  DERIVED. THE GIVEN ROWS OF THIS SEAT. 8 by the template 'for every input the law returns true; each argument reads behind the call as it read before'; 0 by the template 'total and deterministic' (their statements: YtjdcndicaeodbaaGreatTotals.lean).
  GIVEN WITH THE SEED: the statements are not yours to turn. If you find one false, say at which input.
  Laid BY PROGRAM, IN A SANDBOX (cutbox-rows.mjs): the forced cells as the released guide's own fill.sh prints them over the translation 3810977556b8a812… (all of the seat's roots in one cut). By AI agents, Wed Nov 11 2026. No macro, syntax, notation, axiom, sorry.
-/
import Derived.Test.YtjdcndicaeodbaaGreatChecked
import GoSem.Claim
import GoSem.ClaimJoined
import GoSem.ClaimMapViews
import Derived.JoinedTies
import Derived.KernelRfl
namespace Go.Proofs.YtjdcndicaeodbaaGreat
/- THE CELL 'sum', in the pinned program and in every row, IS THE sha256 OF THE DUMP (.gsa) THAT YtjdcndicaeodbaaGreatProg.lean LOADS. Nothing in Lean hashes anything: it is a label: what it is worth is what the hold of that sum in a sandbox is worth. -/
noncomputable def Tryz.pinned : Pinned := { name := "ytjdcndicaeodbaagreat", sum := "3810977556b8a812180e71e3fd83e2f6d8d58542e7e682353ed70422dd4aec3c", checked := Tryz.checked }
namespace Rows
def none {H : Type} : Left H := { results := [], args := [] }

/-- 'laws.FnExactKin': WHATEVER THE INPUT: true; the input reads as it did. -/
def fnExactKinSpec : ChangeSpec := { name := "fnExactKin", fn := fun _ => fun
  | [d1, d2] => { results := [.lit (.bool true)], args := [d1, d2] }
  | _ => none }
def fnExactKinRow : OpenClaim := { program := "ytjdcndicaeodbaagreat", sum := "3810977556b8a812180e71e3fd83e2f6d8d58542e7e682353ed70422dd4aec3c", func := "loop.example/g00101/laws.FnExactKin", spec := "fnExactKin", unfollowed := true, recurses := true, apart := false }
def FnExactKinSaid : Prop := fnExactKinRow.holds Tryz.pinned (OpenSpec.ofChange fnExactKinSpec)

/-- ITS FALSE NEIGHBOUR: 'it returns false'. Refute it at one input. -/
def fnExactKinWrong : ChangeSpec := { name := "fnExactKin", fn := fun _ => fun
  | [d1, d2] => { results := [.lit (.bool false)], args := [d1, d2] }
  | _ => none }
def FnExactKinWrongFalsely : Prop := fnExactKinRow.holds Tryz.pinned (OpenSpec.ofChange fnExactKinWrong)

/-- 'laws.FnExactWords': WHATEVER THE INPUT: true; the input reads as it did. -/
def fnExactWordsSpec : ChangeSpec := { name := "fnExactWords", fn := fun _ => fun
  | [d] => { results := [.lit (.bool true)], args := [d] }
  | _ => none }
def fnExactWordsRow : OpenClaim := { program := "ytjdcndicaeodbaagreat", sum := "3810977556b8a812180e71e3fd83e2f6d8d58542e7e682353ed70422dd4aec3c", func := "loop.example/g00101/laws.FnExactWords", spec := "fnExactWords", unfollowed := true, recurses := true, apart := false }
def FnExactWordsSaid : Prop := fnExactWordsRow.holds Tryz.pinned (OpenSpec.ofChange fnExactWordsSpec)

/-- ITS FALSE NEIGHBOUR: 'it returns false'. Refute it at one input. -/
def fnExactWordsWrong : ChangeSpec := { name := "fnExactWords", fn := fun _ => fun
  | [d] => { results := [.lit (.bool false)], args := [d] }
  | _ => none }
def FnExactWordsWrongFalsely : Prop := fnExactWordsRow.holds Tryz.pinned (OpenSpec.ofChange fnExactWordsWrong)

/-- 'laws.FnExactMachineOk': WHATEVER THE INPUT: true; the input reads as it did. -/
def fnExactMachineOkSpec : ChangeSpec := { name := "fnExactMachineOk", fn := fun _ => fun
  | [d] => { results := [.lit (.bool true)], args := [d] }
  | _ => none }
def fnExactMachineOkRow : OpenClaim := { program := "ytjdcndicaeodbaagreat", sum := "3810977556b8a812180e71e3fd83e2f6d8d58542e7e682353ed70422dd4aec3c", func := "loop.example/g00101/laws.FnExactMachineOk", spec := "fnExactMachineOk", unfollowed := true, recurses := true, apart := false }
def FnExactMachineOkSaid : Prop := fnExactMachineOkRow.holds Tryz.pinned (OpenSpec.ofChange fnExactMachineOkSpec)

/-- ITS FALSE NEIGHBOUR: 'it returns false'. Refute it at one input. -/
def fnExactMachineOkWrong : ChangeSpec := { name := "fnExactMachineOk", fn := fun _ => fun
  | [d] => { results := [.lit (.bool false)], args := [d] }
  | _ => none }
def FnExactMachineOkWrongFalsely : Prop := fnExactMachineOkRow.holds Tryz.pinned (OpenSpec.ofChange fnExactMachineOkWrong)

/-- 'laws.FnExactStatuses': WHATEVER THE INPUT: true; the input reads as it did. -/
def fnExactStatusesSpec : ChangeSpec := { name := "fnExactStatuses", fn := fun _ => fun
  | [d] => { results := [.lit (.bool true)], args := [d] }
  | _ => none }
def fnExactStatusesRow : OpenClaim := { program := "ytjdcndicaeodbaagreat", sum := "3810977556b8a812180e71e3fd83e2f6d8d58542e7e682353ed70422dd4aec3c", func := "loop.example/g00101/laws.FnExactStatuses", spec := "fnExactStatuses", unfollowed := true, recurses := true, apart := false }
def FnExactStatusesSaid : Prop := fnExactStatusesRow.holds Tryz.pinned (OpenSpec.ofChange fnExactStatusesSpec)

/-- ITS FALSE NEIGHBOUR: 'it returns false'. Refute it at one input. -/
def fnExactStatusesWrong : ChangeSpec := { name := "fnExactStatuses", fn := fun _ => fun
  | [d] => { results := [.lit (.bool false)], args := [d] }
  | _ => none }
def FnExactStatusesWrongFalsely : Prop := fnExactStatusesRow.holds Tryz.pinned (OpenSpec.ofChange fnExactStatusesWrong)

/-- 'laws.FnExactStackTexts': WHATEVER THE INPUT: true; the input reads as it did. -/
def fnExactStackTextsSpec : ChangeSpec := { name := "fnExactStackTexts", fn := fun _ => fun
  | [d] => { results := [.lit (.bool true)], args := [d] }
  | _ => none }
def fnExactStackTextsRow : OpenClaim := { program := "ytjdcndicaeodbaagreat", sum := "3810977556b8a812180e71e3fd83e2f6d8d58542e7e682353ed70422dd4aec3c", func := "loop.example/g00101/laws.FnExactStackTexts", spec := "fnExactStackTexts", unfollowed := true, recurses := true, apart := false }
def FnExactStackTextsSaid : Prop := fnExactStackTextsRow.holds Tryz.pinned (OpenSpec.ofChange fnExactStackTextsSpec)

/-- ITS FALSE NEIGHBOUR: 'it returns false'. Refute it at one input. -/
def fnExactStackTextsWrong : ChangeSpec := { name := "fnExactStackTexts", fn := fun _ => fun
  | [d] => { results := [.lit (.bool false)], args := [d] }
  | _ => none }
def FnExactStackTextsWrongFalsely : Prop := fnExactStackTextsRow.holds Tryz.pinned (OpenSpec.ofChange fnExactStackTextsWrong)

/-- 'laws.FnTiled': WHATEVER THE INPUT: true; the input reads as it did. -/
def fnTiledSpec : ChangeSpec := { name := "fnTiled", fn := fun _ => fun
  | [d] => { results := [.lit (.bool true)], args := [d] }
  | _ => none }
def fnTiledRow : OpenClaim := { program := "ytjdcndicaeodbaagreat", sum := "3810977556b8a812180e71e3fd83e2f6d8d58542e7e682353ed70422dd4aec3c", func := "loop.example/g00101/laws.FnTiled", spec := "fnTiled", unfollowed := true, recurses := true, apart := false }
def FnTiledSaid : Prop := fnTiledRow.holds Tryz.pinned (OpenSpec.ofChange fnTiledSpec)

/-- ITS FALSE NEIGHBOUR: 'it returns false'. Refute it at one input. -/
def fnTiledWrong : ChangeSpec := { name := "fnTiled", fn := fun _ => fun
  | [d] => { results := [.lit (.bool false)], args := [d] }
  | _ => none }
def FnTiledWrongFalsely : Prop := fnTiledRow.holds Tryz.pinned (OpenSpec.ofChange fnTiledWrong)

/-- 'laws.FnCensus': WHATEVER THE INPUT: true; the input reads as it did. -/
def fnCensusSpec : ChangeSpec := { name := "fnCensus", fn := fun _ => fun
  | [d] => { results := [.lit (.bool true)], args := [d] }
  | _ => none }
def fnCensusRow : OpenClaim := { program := "ytjdcndicaeodbaagreat", sum := "3810977556b8a812180e71e3fd83e2f6d8d58542e7e682353ed70422dd4aec3c", func := "loop.example/g00101/laws.FnCensus", spec := "fnCensus", unfollowed := true, recurses := true, apart := false }
def FnCensusSaid : Prop := fnCensusRow.holds Tryz.pinned (OpenSpec.ofChange fnCensusSpec)

/-- ITS FALSE NEIGHBOUR: 'it returns false'. Refute it at one input. -/
def fnCensusWrong : ChangeSpec := { name := "fnCensus", fn := fun _ => fun
  | [d] => { results := [.lit (.bool false)], args := [d] }
  | _ => none }
def FnCensusWrongFalsely : Prop := fnCensusRow.holds Tryz.pinned (OpenSpec.ofChange fnCensusWrong)

/-- 'laws.FnExactNewCell': WHATEVER THE INPUT: true; the input reads as it did. -/
def fnExactNewCellSpec : ChangeSpec := { name := "fnExactNewCell", fn := fun _ => fun
  | [d1, d2, d3] => { results := [.lit (.bool true)], args := [d1, d2, d3] }
  | _ => none }
def fnExactNewCellRow : OpenClaim := { program := "ytjdcndicaeodbaagreat", sum := "3810977556b8a812180e71e3fd83e2f6d8d58542e7e682353ed70422dd4aec3c", func := "loop.example/g00101/laws.FnExactNewCell", spec := "fnExactNewCell", unfollowed := true, recurses := true, apart := false }
def FnExactNewCellSaid : Prop := fnExactNewCellRow.holds Tryz.pinned (OpenSpec.ofChange fnExactNewCellSpec)

/-- ITS FALSE NEIGHBOUR: 'it returns false'. Refute it at one input. -/
def fnExactNewCellWrong : ChangeSpec := { name := "fnExactNewCell", fn := fun _ => fun
  | [d1, d2, d3] => { results := [.lit (.bool false)], args := [d1, d2, d3] }
  | _ => none }
def FnExactNewCellWrongFalsely : Prop := fnExactNewCellRow.holds Tryz.pinned (OpenSpec.ofChange fnExactNewCellWrong)

/- THE SECOND FORM. 'bulk': how many values and letters a reading holds, each counted each time it is reached (what is shared counts as often as it is met; a slice's spare places count too). A statement '..UptoSaid' is the law's where the arguments, and the package variables that the reading takes, are together of bulk at most 1048576: NARROWER than '..Said'. Prove '..Said' where nothing that the law and all that it calls make is longer than what came in: it says more and counts as full. Else prove '..UptoSaid'. A law counts once. -/
mutual
def uptoBulk {H : Type} : DataW H → Nat
  | .lit (.string bytes) => bytes.length + 1
  | .lit _ => 1
  | .nil => 1
  | .ptr d => uptoBulk d + 1
  | .slice elems spare => uptoBulkAll elems + uptoBulkAll spare + 1
  | .agg parts => uptoBulkAll parts + 1
  | .iface _ d => uptoBulk d + 1
  | .map entries => uptoBulkEntries entries + 1
  | .held _ => 1
def uptoBulkAll {H : Type} : List (DataW H) → Nat
  | [] => 0
  | d :: r => uptoBulk d + uptoBulkAll r
def uptoBulkEntries {H : Type} : List (Lit × DataW H) → Nat
  | [] => 0
  | x :: r => uptoBulkEntry x + uptoBulkEntries r
def uptoBulkEntry {H : Type} : Lit × DataW H → Nat
  | (.string bytes, d) => bytes.length + uptoBulk d + 1
  | (_, d) => uptoBulk d + 1
 end
def uptoSmall : (H : Type) → List (DataW H) → Bool := fun _ ds => decide (uptoBulkAll ds ≤ 1048576)
def OpenSpec.upto (s : _root_.Go.ChangeSpec) : _root_.Go.OpenSpec := { _root_.Go.OpenSpec.ofChange s with cond := some uptoSmall }

/-- 'laws.FnExactKin', WHERE WHAT IT READS IS OF BULK AT MOST 1048576: true; the input reads as it did. -/
def fnExactKinUptoRow : OpenClaim := { program := "ytjdcndicaeodbaagreat", sum := "3810977556b8a812180e71e3fd83e2f6d8d58542e7e682353ed70422dd4aec3c", func := "loop.example/g00101/laws.FnExactKin", spec := "fnExactKin", unfollowed := true, recurses := true, apart := false, narrowed := true }
def FnExactKinUptoSaid : Prop := fnExactKinUptoRow.holds Tryz.pinned (OpenSpec.upto fnExactKinSpec)

/-- 'laws.FnExactWords', WHERE WHAT IT READS IS OF BULK AT MOST 1048576: true; the input reads as it did. -/
def fnExactWordsUptoRow : OpenClaim := { program := "ytjdcndicaeodbaagreat", sum := "3810977556b8a812180e71e3fd83e2f6d8d58542e7e682353ed70422dd4aec3c", func := "loop.example/g00101/laws.FnExactWords", spec := "fnExactWords", unfollowed := true, recurses := true, apart := false, narrowed := true }
def FnExactWordsUptoSaid : Prop := fnExactWordsUptoRow.holds Tryz.pinned (OpenSpec.upto fnExactWordsSpec)

/-- 'laws.FnExactMachineOk', WHERE WHAT IT READS IS OF BULK AT MOST 1048576: true; the input reads as it did. -/
def fnExactMachineOkUptoRow : OpenClaim := { program := "ytjdcndicaeodbaagreat", sum := "3810977556b8a812180e71e3fd83e2f6d8d58542e7e682353ed70422dd4aec3c", func := "loop.example/g00101/laws.FnExactMachineOk", spec := "fnExactMachineOk", unfollowed := true, recurses := true, apart := false, narrowed := true }
def FnExactMachineOkUptoSaid : Prop := fnExactMachineOkUptoRow.holds Tryz.pinned (OpenSpec.upto fnExactMachineOkSpec)

/-- 'laws.FnExactStatuses', WHERE WHAT IT READS IS OF BULK AT MOST 1048576: true; the input reads as it did. -/
def fnExactStatusesUptoRow : OpenClaim := { program := "ytjdcndicaeodbaagreat", sum := "3810977556b8a812180e71e3fd83e2f6d8d58542e7e682353ed70422dd4aec3c", func := "loop.example/g00101/laws.FnExactStatuses", spec := "fnExactStatuses", unfollowed := true, recurses := true, apart := false, narrowed := true }
def FnExactStatusesUptoSaid : Prop := fnExactStatusesUptoRow.holds Tryz.pinned (OpenSpec.upto fnExactStatusesSpec)

/-- 'laws.FnExactStackTexts', WHERE WHAT IT READS IS OF BULK AT MOST 1048576: true; the input reads as it did. -/
def fnExactStackTextsUptoRow : OpenClaim := { program := "ytjdcndicaeodbaagreat", sum := "3810977556b8a812180e71e3fd83e2f6d8d58542e7e682353ed70422dd4aec3c", func := "loop.example/g00101/laws.FnExactStackTexts", spec := "fnExactStackTexts", unfollowed := true, recurses := true, apart := false, narrowed := true }
def FnExactStackTextsUptoSaid : Prop := fnExactStackTextsUptoRow.holds Tryz.pinned (OpenSpec.upto fnExactStackTextsSpec)

/-- 'laws.FnTiled', WHERE WHAT IT READS IS OF BULK AT MOST 1048576: true; the input reads as it did. -/
def fnTiledUptoRow : OpenClaim := { program := "ytjdcndicaeodbaagreat", sum := "3810977556b8a812180e71e3fd83e2f6d8d58542e7e682353ed70422dd4aec3c", func := "loop.example/g00101/laws.FnTiled", spec := "fnTiled", unfollowed := true, recurses := true, apart := false, narrowed := true }
def FnTiledUptoSaid : Prop := fnTiledUptoRow.holds Tryz.pinned (OpenSpec.upto fnTiledSpec)

/-- 'laws.FnCensus', WHERE WHAT IT READS IS OF BULK AT MOST 1048576: true; the input reads as it did. -/
def fnCensusUptoRow : OpenClaim := { program := "ytjdcndicaeodbaagreat", sum := "3810977556b8a812180e71e3fd83e2f6d8d58542e7e682353ed70422dd4aec3c", func := "loop.example/g00101/laws.FnCensus", spec := "fnCensus", unfollowed := true, recurses := true, apart := false, narrowed := true }
def FnCensusUptoSaid : Prop := fnCensusUptoRow.holds Tryz.pinned (OpenSpec.upto fnCensusSpec)

/-- 'laws.FnExactNewCell', WHERE WHAT IT READS IS OF BULK AT MOST 1048576: true; the input reads as it did. -/
def fnExactNewCellUptoRow : OpenClaim := { program := "ytjdcndicaeodbaagreat", sum := "3810977556b8a812180e71e3fd83e2f6d8d58542e7e682353ed70422dd4aec3c", func := "loop.example/g00101/laws.FnExactNewCell", spec := "fnExactNewCell", unfollowed := true, recurses := true, apart := false, narrowed := true }
def FnExactNewCellUptoSaid : Prop := fnExactNewCellUptoRow.holds Tryz.pinned (OpenSpec.upto fnExactNewCellSpec)

end Rows
end Go.Proofs.YtjdcndicaeodbaaGreat
