/-
  No cell of these rows narrows 'for every input' (looked for: loops, veiled, ifaces, maps, wideKeys, modest, calm, conditions, laid).
  DERIVED. THE GIVEN ROWS OF THIS SEAT. 14 by the template 'for every input the law returns true; each argument reads behind the call as it read before'; 0 by the template 'total and deterministic' (their statements: YtpkehednooilhaaGreatTotals.lean).
  GIVEN WITH THE SEED: the statements are not yours to turn. If you find one false, say at which input.
  Laid BY PROGRAM, IN A SANDBOX (cutbox-rows.mjs): the forced cells as the released guide's own fill.sh prints them over the translation 5e638410b0c2ca1b… (all of the seat's roots in one cut). By AI agents, Wed Nov 11 2026. No macro, syntax, notation, axiom, sorry.
-/
import Derived.Test.YtpkehednooilhaaGreatChecked
import GoSem.Claim
import GoSem.ClaimJoined
import GoSem.ClaimMapViews
import Derived.JoinedTies
import Derived.KernelRfl
namespace Go.Proofs.YtpkehednooilhaaGreat
/- THE CELL 'sum', in the pinned program and in every row, IS THE sha256 OF THE DUMP (.gsa) THAT YtpkehednooilhaaGreatProg.lean LOADS. Nothing in Lean hashes anything: it is a label: what it is worth is what the hold of that sum in a sandbox is worth. -/
noncomputable def Tryz.pinned : Pinned := { name := "ytpkehednooilhaagreat", sum := "5e638410b0c2ca1b2418db9b61b056443934c75077636157cd3f6b6f1aa04c8b", checked := Tryz.checked }
namespace Rows
def none {H : Type} : Left H := { results := [], args := [] }

/-- 'laws.FnTiled': WHATEVER THE INPUT: true; the input reads as it did. -/
def fnTiledSpec : ChangeSpec := { name := "fnTiled", fn := fun _ => fun
  | [d] => { results := [.lit (.bool true)], args := [d] }
  | _ => none }
def fnTiledRow : OpenClaim := { program := "ytpkehednooilhaagreat", sum := "5e638410b0c2ca1b2418db9b61b056443934c75077636157cd3f6b6f1aa04c8b", func := "loop.example/g00101/laws.FnTiled", spec := "fnTiled", unfollowed := true, recurses := true, apart := false }
def FnTiledSaid : Prop := fnTiledRow.holds Tryz.pinned (OpenSpec.ofChange fnTiledSpec)

/-- ITS FALSE NEIGHBOUR: 'it returns false'. Refute it at one input. -/
def fnTiledWrong : ChangeSpec := { name := "fnTiled", fn := fun _ => fun
  | [d] => { results := [.lit (.bool false)], args := [d] }
  | _ => none }
def FnTiledWrongFalsely : Prop := fnTiledRow.holds Tryz.pinned (OpenSpec.ofChange fnTiledWrong)

/-- 'laws.FnCensus': WHATEVER THE INPUT: true; the input reads as it did. -/
def fnCensusSpec : ChangeSpec := { name := "fnCensus", fn := fun _ => fun
  | [d] => { results := [.lit (.bool true)], args := [d] }
  | _ => none }
def fnCensusRow : OpenClaim := { program := "ytpkehednooilhaagreat", sum := "5e638410b0c2ca1b2418db9b61b056443934c75077636157cd3f6b6f1aa04c8b", func := "loop.example/g00101/laws.FnCensus", spec := "fnCensus", unfollowed := true, recurses := true, apart := false }
def FnCensusSaid : Prop := fnCensusRow.holds Tryz.pinned (OpenSpec.ofChange fnCensusSpec)

/-- ITS FALSE NEIGHBOUR: 'it returns false'. Refute it at one input. -/
def fnCensusWrong : ChangeSpec := { name := "fnCensus", fn := fun _ => fun
  | [d] => { results := [.lit (.bool false)], args := [d] }
  | _ => none }
def FnCensusWrongFalsely : Prop := fnCensusRow.holds Tryz.pinned (OpenSpec.ofChange fnCensusWrong)

/-- 'laws.FnFlip': WHATEVER THE INPUT: true; the input reads as it did. -/
def fnFlipSpec : ChangeSpec := { name := "fnFlip", fn := fun _ => fun
  | [d] => { results := [.lit (.bool true)], args := [d] }
  | _ => none }
def fnFlipRow : OpenClaim := { program := "ytpkehednooilhaagreat", sum := "5e638410b0c2ca1b2418db9b61b056443934c75077636157cd3f6b6f1aa04c8b", func := "loop.example/g00101/laws.FnFlip", spec := "fnFlip", unfollowed := true, recurses := true, apart := false }
def FnFlipSaid : Prop := fnFlipRow.holds Tryz.pinned (OpenSpec.ofChange fnFlipSpec)

/-- ITS FALSE NEIGHBOUR: 'it returns false'. Refute it at one input. -/
def fnFlipWrong : ChangeSpec := { name := "fnFlip", fn := fun _ => fun
  | [d] => { results := [.lit (.bool false)], args := [d] }
  | _ => none }
def FnFlipWrongFalsely : Prop := fnFlipRow.holds Tryz.pinned (OpenSpec.ofChange fnFlipWrong)

/-- 'laws.FnCopy': WHATEVER THE INPUT: true; the input reads as it did. -/
def fnCopySpec : ChangeSpec := { name := "fnCopy", fn := fun _ => fun
  | [d] => { results := [.lit (.bool true)], args := [d] }
  | _ => none }
def fnCopyRow : OpenClaim := { program := "ytpkehednooilhaagreat", sum := "5e638410b0c2ca1b2418db9b61b056443934c75077636157cd3f6b6f1aa04c8b", func := "loop.example/g00101/laws.FnCopy", spec := "fnCopy", unfollowed := true, recurses := true, apart := false }
def FnCopySaid : Prop := fnCopyRow.holds Tryz.pinned (OpenSpec.ofChange fnCopySpec)

/-- ITS FALSE NEIGHBOUR: 'it returns false'. Refute it at one input. -/
def fnCopyWrong : ChangeSpec := { name := "fnCopy", fn := fun _ => fun
  | [d] => { results := [.lit (.bool false)], args := [d] }
  | _ => none }
def FnCopyWrongFalsely : Prop := fnCopyRow.holds Tryz.pinned (OpenSpec.ofChange fnCopyWrong)

/-- 'laws.FnCollect': WHATEVER THE INPUT: true; the input reads as it did. -/
def fnCollectSpec : ChangeSpec := { name := "fnCollect", fn := fun _ => fun
  | [d] => { results := [.lit (.bool true)], args := [d] }
  | _ => none }
def fnCollectRow : OpenClaim := { program := "ytpkehednooilhaagreat", sum := "5e638410b0c2ca1b2418db9b61b056443934c75077636157cd3f6b6f1aa04c8b", func := "loop.example/g00101/laws.FnCollect", spec := "fnCollect", unfollowed := true, recurses := true, apart := false }
def FnCollectSaid : Prop := fnCollectRow.holds Tryz.pinned (OpenSpec.ofChange fnCollectSpec)

/-- ITS FALSE NEIGHBOUR: 'it returns false'. Refute it at one input. -/
def fnCollectWrong : ChangeSpec := { name := "fnCollect", fn := fun _ => fun
  | [d] => { results := [.lit (.bool false)], args := [d] }
  | _ => none }
def FnCollectWrongFalsely : Prop := fnCollectRow.holds Tryz.pinned (OpenSpec.ofChange fnCollectWrong)

/-- 'laws.FnPause': WHATEVER THE INPUT: true; the input reads as it did. -/
def fnPauseSpec : ChangeSpec := { name := "fnPause", fn := fun _ => fun
  | [d] => { results := [.lit (.bool true)], args := [d] }
  | _ => none }
def fnPauseRow : OpenClaim := { program := "ytpkehednooilhaagreat", sum := "5e638410b0c2ca1b2418db9b61b056443934c75077636157cd3f6b6f1aa04c8b", func := "loop.example/g00101/laws.FnPause", spec := "fnPause", unfollowed := true, recurses := true, apart := false }
def FnPauseSaid : Prop := fnPauseRow.holds Tryz.pinned (OpenSpec.ofChange fnPauseSpec)

/-- ITS FALSE NEIGHBOUR: 'it returns false'. Refute it at one input. -/
def fnPauseWrong : ChangeSpec := { name := "fnPause", fn := fun _ => fun
  | [d] => { results := [.lit (.bool false)], args := [d] }
  | _ => none }
def FnPauseWrongFalsely : Prop := fnPauseRow.holds Tryz.pinned (OpenSpec.ofChange fnPauseWrong)

/-- 'laws.FnShape': WHATEVER THE INPUT: true; the input reads as it did. -/
def fnShapeSpec : ChangeSpec := { name := "fnShape", fn := fun _ => fun
  | [d] => { results := [.lit (.bool true)], args := [d] }
  | _ => none }
def fnShapeRow : OpenClaim := { program := "ytpkehednooilhaagreat", sum := "5e638410b0c2ca1b2418db9b61b056443934c75077636157cd3f6b6f1aa04c8b", func := "loop.example/g00101/laws.FnShape", spec := "fnShape", unfollowed := true, recurses := true, apart := false }
def FnShapeSaid : Prop := fnShapeRow.holds Tryz.pinned (OpenSpec.ofChange fnShapeSpec)

/-- ITS FALSE NEIGHBOUR: 'it returns false'. Refute it at one input. -/
def fnShapeWrong : ChangeSpec := { name := "fnShape", fn := fun _ => fun
  | [d] => { results := [.lit (.bool false)], args := [d] }
  | _ => none }
def FnShapeWrongFalsely : Prop := fnShapeRow.holds Tryz.pinned (OpenSpec.ofChange fnShapeWrong)

/-- 'laws.FnMemory': WHATEVER THE INPUT: true; the input reads as it did. -/
def fnMemorySpec : ChangeSpec := { name := "fnMemory", fn := fun _ => fun
  | [d] => { results := [.lit (.bool true)], args := [d] }
  | _ => none }
def fnMemoryRow : OpenClaim := { program := "ytpkehednooilhaagreat", sum := "5e638410b0c2ca1b2418db9b61b056443934c75077636157cd3f6b6f1aa04c8b", func := "loop.example/g00101/laws.FnMemory", spec := "fnMemory", unfollowed := true, recurses := true, apart := false }
def FnMemorySaid : Prop := fnMemoryRow.holds Tryz.pinned (OpenSpec.ofChange fnMemorySpec)

/-- ITS FALSE NEIGHBOUR: 'it returns false'. Refute it at one input. -/
def fnMemoryWrong : ChangeSpec := { name := "fnMemory", fn := fun _ => fun
  | [d] => { results := [.lit (.bool false)], args := [d] }
  | _ => none }
def FnMemoryWrongFalsely : Prop := fnMemoryRow.holds Tryz.pinned (OpenSpec.ofChange fnMemoryWrong)

/-- 'laws.FnAnyTime': WHATEVER THE INPUT: true; the input reads as it did. -/
def fnAnyTimeSpec : ChangeSpec := { name := "fnAnyTime", fn := fun _ => fun
  | [d] => { results := [.lit (.bool true)], args := [d] }
  | _ => none }
def fnAnyTimeRow : OpenClaim := { program := "ytpkehednooilhaagreat", sum := "5e638410b0c2ca1b2418db9b61b056443934c75077636157cd3f6b6f1aa04c8b", func := "loop.example/g00101/laws.FnAnyTime", spec := "fnAnyTime", unfollowed := true, recurses := true, apart := false }
def FnAnyTimeSaid : Prop := fnAnyTimeRow.holds Tryz.pinned (OpenSpec.ofChange fnAnyTimeSpec)

/-- ITS FALSE NEIGHBOUR: 'it returns false'. Refute it at one input. -/
def fnAnyTimeWrong : ChangeSpec := { name := "fnAnyTime", fn := fun _ => fun
  | [d] => { results := [.lit (.bool false)], args := [d] }
  | _ => none }
def FnAnyTimeWrongFalsely : Prop := fnAnyTimeRow.holds Tryz.pinned (OpenSpec.ofChange fnAnyTimeWrong)

/-- 'laws.FnFunctions': WHATEVER THE INPUT: true; the input reads as it did. -/
def fnFunctionsSpec : ChangeSpec := { name := "fnFunctions", fn := fun _ => fun
  | [d] => { results := [.lit (.bool true)], args := [d] }
  | _ => none }
def fnFunctionsRow : OpenClaim := { program := "ytpkehednooilhaagreat", sum := "5e638410b0c2ca1b2418db9b61b056443934c75077636157cd3f6b6f1aa04c8b", func := "loop.example/g00101/laws.FnFunctions", spec := "fnFunctions", unfollowed := true, recurses := true, apart := false }
def FnFunctionsSaid : Prop := fnFunctionsRow.holds Tryz.pinned (OpenSpec.ofChange fnFunctionsSpec)

/-- ITS FALSE NEIGHBOUR: 'it returns false'. Refute it at one input. -/
def fnFunctionsWrong : ChangeSpec := { name := "fnFunctions", fn := fun _ => fun
  | [d] => { results := [.lit (.bool false)], args := [d] }
  | _ => none }
def FnFunctionsWrongFalsely : Prop := fnFunctionsRow.holds Tryz.pinned (OpenSpec.ofChange fnFunctionsWrong)

/-- 'laws.FnDoors': WHATEVER THE INPUT: true; the input reads as it did. -/
def fnDoorsSpec : ChangeSpec := { name := "fnDoors", fn := fun _ => fun
  | [d] => { results := [.lit (.bool true)], args := [d] }
  | _ => none }
def fnDoorsRow : OpenClaim := { program := "ytpkehednooilhaagreat", sum := "5e638410b0c2ca1b2418db9b61b056443934c75077636157cd3f6b6f1aa04c8b", func := "loop.example/g00101/laws.FnDoors", spec := "fnDoors", unfollowed := true, recurses := true, apart := false }
def FnDoorsSaid : Prop := fnDoorsRow.holds Tryz.pinned (OpenSpec.ofChange fnDoorsSpec)

/-- ITS FALSE NEIGHBOUR: 'it returns false'. Refute it at one input. -/
def fnDoorsWrong : ChangeSpec := { name := "fnDoors", fn := fun _ => fun
  | [d] => { results := [.lit (.bool false)], args := [d] }
  | _ => none }
def FnDoorsWrongFalsely : Prop := fnDoorsRow.holds Tryz.pinned (OpenSpec.ofChange fnDoorsWrong)

/-- 'laws.FnKeys': WHATEVER THE INPUT: true; the input reads as it did. -/
def fnKeysSpec : ChangeSpec := { name := "fnKeys", fn := fun _ => fun
  | [d] => { results := [.lit (.bool true)], args := [d] }
  | _ => none }
def fnKeysRow : OpenClaim := { program := "ytpkehednooilhaagreat", sum := "5e638410b0c2ca1b2418db9b61b056443934c75077636157cd3f6b6f1aa04c8b", func := "loop.example/g00101/laws.FnKeys", spec := "fnKeys", unfollowed := true, recurses := true, apart := false }
def FnKeysSaid : Prop := fnKeysRow.holds Tryz.pinned (OpenSpec.ofChange fnKeysSpec)

/-- ITS FALSE NEIGHBOUR: 'it returns false'. Refute it at one input. -/
def fnKeysWrong : ChangeSpec := { name := "fnKeys", fn := fun _ => fun
  | [d] => { results := [.lit (.bool false)], args := [d] }
  | _ => none }
def FnKeysWrongFalsely : Prop := fnKeysRow.holds Tryz.pinned (OpenSpec.ofChange fnKeysWrong)

/-- 'laws.FnImage': WHATEVER THE INPUT: true; the input reads as it did. -/
def fnImageSpec : ChangeSpec := { name := "fnImage", fn := fun _ => fun
  | [d] => { results := [.lit (.bool true)], args := [d] }
  | _ => none }
def fnImageRow : OpenClaim := { program := "ytpkehednooilhaagreat", sum := "5e638410b0c2ca1b2418db9b61b056443934c75077636157cd3f6b6f1aa04c8b", func := "loop.example/g00101/laws.FnImage", spec := "fnImage", unfollowed := true, recurses := true, apart := false }
def FnImageSaid : Prop := fnImageRow.holds Tryz.pinned (OpenSpec.ofChange fnImageSpec)

/-- ITS FALSE NEIGHBOUR: 'it returns false'. Refute it at one input. -/
def fnImageWrong : ChangeSpec := { name := "fnImage", fn := fun _ => fun
  | [d] => { results := [.lit (.bool false)], args := [d] }
  | _ => none }
def FnImageWrongFalsely : Prop := fnImageRow.holds Tryz.pinned (OpenSpec.ofChange fnImageWrong)

/-- 'laws.FnKin': WHATEVER THE INPUT: true; the input reads as it did. -/
def fnKinSpec : ChangeSpec := { name := "fnKin", fn := fun _ => fun
  | [d] => { results := [.lit (.bool true)], args := [d] }
  | _ => none }
def fnKinRow : OpenClaim := { program := "ytpkehednooilhaagreat", sum := "5e638410b0c2ca1b2418db9b61b056443934c75077636157cd3f6b6f1aa04c8b", func := "loop.example/g00101/laws.FnKin", spec := "fnKin", unfollowed := true, recurses := true, apart := false }
def FnKinSaid : Prop := fnKinRow.holds Tryz.pinned (OpenSpec.ofChange fnKinSpec)

/-- ITS FALSE NEIGHBOUR: 'it returns false'. Refute it at one input. -/
def fnKinWrong : ChangeSpec := { name := "fnKin", fn := fun _ => fun
  | [d] => { results := [.lit (.bool false)], args := [d] }
  | _ => none }
def FnKinWrongFalsely : Prop := fnKinRow.holds Tryz.pinned (OpenSpec.ofChange fnKinWrong)

/- THE SECOND FORM. 'bulk': how many values and letters a reading holds, each counted each time it is reached (what is shared counts as often as it is met; a slice's spare places count too). A statement '..UptoSaid' is the law's where the arguments, and the package variables that the reading takes, are together of bulk at most 1048576: NARROWER than '..Said'. Prove '..Said' where nothing that the law and all that it calls make is longer than what came in: it says more and counts as full. Else prove '..UptoSaid'. A law counts once. -/
mutual
def uptoBulk {H : Type} : DataW H → Nat
  | .lit (.string bytes) => bytes.length + 1
  | .lit _ => 1
  | .nil => 1
  | .ptr d => uptoBulk d + 1
  | .slice elems spare => uptoBulkAll elems + uptoBulkAll spare + 1
  | .agg parts => uptoBulkAll parts + 1
  | .iface _ d => uptoBulk d + 1
  | .map entries => uptoBulkEntries entries + 1
  | .held _ => 1
def uptoBulkAll {H : Type} : List (DataW H) → Nat
  | [] => 0
  | d :: r => uptoBulk d + uptoBulkAll r
def uptoBulkEntries {H : Type} : List (Lit × DataW H) → Nat
  | [] => 0
  | x :: r => uptoBulkEntry x + uptoBulkEntries r
def uptoBulkEntry {H : Type} : Lit × DataW H → Nat
  | (.string bytes, d) => bytes.length + uptoBulk d + 1
  | (_, d) => uptoBulk d + 1
 end
def uptoSmall : (H : Type) → List (DataW H) → Bool := fun _ ds => decide (uptoBulkAll ds ≤ 1048576)
def OpenSpec.upto (s : _root_.Go.ChangeSpec) : _root_.Go.OpenSpec := { _root_.Go.OpenSpec.ofChange s with cond := some uptoSmall }

/-- 'laws.FnTiled', WHERE WHAT IT READS IS OF BULK AT MOST 1048576: true; the input reads as it did. -/
def fnTiledUptoRow : OpenClaim := { program := "ytpkehednooilhaagreat", sum := "5e638410b0c2ca1b2418db9b61b056443934c75077636157cd3f6b6f1aa04c8b", func := "loop.example/g00101/laws.FnTiled", spec := "fnTiled", unfollowed := true, recurses := true, apart := false, narrowed := true }
def FnTiledUptoSaid : Prop := fnTiledUptoRow.holds Tryz.pinned (OpenSpec.upto fnTiledSpec)

/-- 'laws.FnCensus', WHERE WHAT IT READS IS OF BULK AT MOST 1048576: true; the input reads as it did. -/
def fnCensusUptoRow : OpenClaim := { program := "ytpkehednooilhaagreat", sum := "5e638410b0c2ca1b2418db9b61b056443934c75077636157cd3f6b6f1aa04c8b", func := "loop.example/g00101/laws.FnCensus", spec := "fnCensus", unfollowed := true, recurses := true, apart := false, narrowed := true }
def FnCensusUptoSaid : Prop := fnCensusUptoRow.holds Tryz.pinned (OpenSpec.upto fnCensusSpec)

/-- 'laws.FnFlip', WHERE WHAT IT READS IS OF BULK AT MOST 1048576: true; the input reads as it did. -/
def fnFlipUptoRow : OpenClaim := { program := "ytpkehednooilhaagreat", sum := "5e638410b0c2ca1b2418db9b61b056443934c75077636157cd3f6b6f1aa04c8b", func := "loop.example/g00101/laws.FnFlip", spec := "fnFlip", unfollowed := true, recurses := true, apart := false, narrowed := true }
def FnFlipUptoSaid : Prop := fnFlipUptoRow.holds Tryz.pinned (OpenSpec.upto fnFlipSpec)

/-- 'laws.FnCopy', WHERE WHAT IT READS IS OF BULK AT MOST 1048576: true; the input reads as it did. -/
def fnCopyUptoRow : OpenClaim := { program := "ytpkehednooilhaagreat", sum := "5e638410b0c2ca1b2418db9b61b056443934c75077636157cd3f6b6f1aa04c8b", func := "loop.example/g00101/laws.FnCopy", spec := "fnCopy", unfollowed := true, recurses := true, apart := false, narrowed := true }
def FnCopyUptoSaid : Prop := fnCopyUptoRow.holds Tryz.pinned (OpenSpec.upto fnCopySpec)

/-- 'laws.FnCollect', WHERE WHAT IT READS IS OF BULK AT MOST 1048576: true; the input reads as it did. -/
def fnCollectUptoRow : OpenClaim := { program := "ytpkehednooilhaagreat", sum := "5e638410b0c2ca1b2418db9b61b056443934c75077636157cd3f6b6f1aa04c8b", func := "loop.example/g00101/laws.FnCollect", spec := "fnCollect", unfollowed := true, recurses := true, apart := false, narrowed := true }
def FnCollectUptoSaid : Prop := fnCollectUptoRow.holds Tryz.pinned (OpenSpec.upto fnCollectSpec)

/-- 'laws.FnPause', WHERE WHAT IT READS IS OF BULK AT MOST 1048576: true; the input reads as it did. -/
def fnPauseUptoRow : OpenClaim := { program := "ytpkehednooilhaagreat", sum := "5e638410b0c2ca1b2418db9b61b056443934c75077636157cd3f6b6f1aa04c8b", func := "loop.example/g00101/laws.FnPause", spec := "fnPause", unfollowed := true, recurses := true, apart := false, narrowed := true }
def FnPauseUptoSaid : Prop := fnPauseUptoRow.holds Tryz.pinned (OpenSpec.upto fnPauseSpec)

/-- 'laws.FnShape', WHERE WHAT IT READS IS OF BULK AT MOST 1048576: true; the input reads as it did. -/
def fnShapeUptoRow : OpenClaim := { program := "ytpkehednooilhaagreat", sum := "5e638410b0c2ca1b2418db9b61b056443934c75077636157cd3f6b6f1aa04c8b", func := "loop.example/g00101/laws.FnShape", spec := "fnShape", unfollowed := true, recurses := true, apart := false, narrowed := true }
def FnShapeUptoSaid : Prop := fnShapeUptoRow.holds Tryz.pinned (OpenSpec.upto fnShapeSpec)

/-- 'laws.FnMemory', WHERE WHAT IT READS IS OF BULK AT MOST 1048576: true; the input reads as it did. -/
def fnMemoryUptoRow : OpenClaim := { program := "ytpkehednooilhaagreat", sum := "5e638410b0c2ca1b2418db9b61b056443934c75077636157cd3f6b6f1aa04c8b", func := "loop.example/g00101/laws.FnMemory", spec := "fnMemory", unfollowed := true, recurses := true, apart := false, narrowed := true }
def FnMemoryUptoSaid : Prop := fnMemoryUptoRow.holds Tryz.pinned (OpenSpec.upto fnMemorySpec)

/-- 'laws.FnAnyTime', WHERE WHAT IT READS IS OF BULK AT MOST 1048576: true; the input reads as it did. -/
def fnAnyTimeUptoRow : OpenClaim := { program := "ytpkehednooilhaagreat", sum := "5e638410b0c2ca1b2418db9b61b056443934c75077636157cd3f6b6f1aa04c8b", func := "loop.example/g00101/laws.FnAnyTime", spec := "fnAnyTime", unfollowed := true, recurses := true, apart := false, narrowed := true }
def FnAnyTimeUptoSaid : Prop := fnAnyTimeUptoRow.holds Tryz.pinned (OpenSpec.upto fnAnyTimeSpec)

/-- 'laws.FnFunctions', WHERE WHAT IT READS IS OF BULK AT MOST 1048576: true; the input reads as it did. -/
def fnFunctionsUptoRow : OpenClaim := { program := "ytpkehednooilhaagreat", sum := "5e638410b0c2ca1b2418db9b61b056443934c75077636157cd3f6b6f1aa04c8b", func := "loop.example/g00101/laws.FnFunctions", spec := "fnFunctions", unfollowed := true, recurses := true, apart := false, narrowed := true }
def FnFunctionsUptoSaid : Prop := fnFunctionsUptoRow.holds Tryz.pinned (OpenSpec.upto fnFunctionsSpec)

/-- 'laws.FnDoors', WHERE WHAT IT READS IS OF BULK AT MOST 1048576: true; the input reads as it did. -/
def fnDoorsUptoRow : OpenClaim := { program := "ytpkehednooilhaagreat", sum := "5e638410b0c2ca1b2418db9b61b056443934c75077636157cd3f6b6f1aa04c8b", func := "loop.example/g00101/laws.FnDoors", spec := "fnDoors", unfollowed := true, recurses := true, apart := false, narrowed := true }
def FnDoorsUptoSaid : Prop := fnDoorsUptoRow.holds Tryz.pinned (OpenSpec.upto fnDoorsSpec)

/-- 'laws.FnKeys', WHERE WHAT IT READS IS OF BULK AT MOST 1048576: true; the input reads as it did. -/
def fnKeysUptoRow : OpenClaim := { program := "ytpkehednooilhaagreat", sum := "5e638410b0c2ca1b2418db9b61b056443934c75077636157cd3f6b6f1aa04c8b", func := "loop.example/g00101/laws.FnKeys", spec := "fnKeys", unfollowed := true, recurses := true, apart := false, narrowed := true }
def FnKeysUptoSaid : Prop := fnKeysUptoRow.holds Tryz.pinned (OpenSpec.upto fnKeysSpec)

/-- 'laws.FnImage', WHERE WHAT IT READS IS OF BULK AT MOST 1048576: true; the input reads as it did. -/
def fnImageUptoRow : OpenClaim := { program := "ytpkehednooilhaagreat", sum := "5e638410b0c2ca1b2418db9b61b056443934c75077636157cd3f6b6f1aa04c8b", func := "loop.example/g00101/laws.FnImage", spec := "fnImage", unfollowed := true, recurses := true, apart := false, narrowed := true }
def FnImageUptoSaid : Prop := fnImageUptoRow.holds Tryz.pinned (OpenSpec.upto fnImageSpec)

/-- 'laws.FnKin', WHERE WHAT IT READS IS OF BULK AT MOST 1048576: true; the input reads as it did. -/
def fnKinUptoRow : OpenClaim := { program := "ytpkehednooilhaagreat", sum := "5e638410b0c2ca1b2418db9b61b056443934c75077636157cd3f6b6f1aa04c8b", func := "loop.example/g00101/laws.FnKin", spec := "fnKin", unfollowed := true, recurses := true, apart := false, narrowed := true }
def FnKinUptoSaid : Prop := fnKinUptoRow.holds Tryz.pinned (OpenSpec.upto fnKinSpec)

end Rows
end Go.Proofs.YtpkehednooilhaaGreat
