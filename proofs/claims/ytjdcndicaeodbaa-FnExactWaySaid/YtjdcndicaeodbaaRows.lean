/-
  No cell of these rows narrows 'for every input' (looked for: loops, veiled, ifaces, maps, wideKeys, modest, calm, conditions, laid).
  DERIVED. THE GIVEN ROWS OF THIS SEAT. 4 by the template 'for every input the law returns true; each argument reads behind the call as it read before'; 0 by the template 'total and deterministic' (their statements: YtjdcndicaeodbaaTotals.lean).
  GIVEN WITH THE SEED: the statements are not yours to turn. If you find one false, say at which input.
  Laid BY PROGRAM, IN A SANDBOX (cutbox-rows.mjs): the forced cells as the released guide's own fill.sh prints them over the translation a801ec50bb22da19… (all of the seat's roots in one cut). By AI agents, Wed Nov 11 2026. No macro, syntax, notation, axiom, sorry.
-/
import Derived.Test.YtjdcndicaeodbaaChecked
import GoSem.Claim
import GoSem.ClaimJoined
import GoSem.ClaimMapViews
import Derived.JoinedTies
import Derived.KernelRfl
namespace Go.Proofs.Ytjdcndicaeodbaa
/- THE CELL 'sum', in the pinned program and in every row, IS THE sha256 OF THE DUMP (.gsa) THAT YtjdcndicaeodbaaProg.lean LOADS. Nothing in Lean hashes anything: it is a label: what it is worth is what the hold of that sum in a sandbox is worth. -/
noncomputable def Try.pinned : Pinned := { name := "ytjdcndicaeodbaa", sum := "a801ec50bb22da1960be5b946c9f4c7f60d16cbb05a17a99ecc908f3c5e87e28", checked := Try.checked }
namespace Rows
def none {H : Type} : Left H := { results := [], args := [] }

/-- 'laws.FnExactCensus': WHATEVER THE INPUT: true; the input reads as it did. -/
def fnExactCensusSpec : ChangeSpec := { name := "fnExactCensus", fn := fun _ => fun
  | [d] => { results := [.lit (.bool true)], args := [d] }
  | _ => none }
def fnExactCensusRow : OpenClaim := { program := "ytjdcndicaeodbaa", sum := "a801ec50bb22da1960be5b946c9f4c7f60d16cbb05a17a99ecc908f3c5e87e28", func := "loop.example/g00101/laws.FnExactCensus", spec := "fnExactCensus", unfollowed := true, recurses := true, apart := false }
def FnExactCensusSaid : Prop := fnExactCensusRow.holds Try.pinned (OpenSpec.ofChange fnExactCensusSpec)

/-- ITS FALSE NEIGHBOUR: 'it returns false'. Refute it at one input. -/
def fnExactCensusWrong : ChangeSpec := { name := "fnExactCensus", fn := fun _ => fun
  | [d] => { results := [.lit (.bool false)], args := [d] }
  | _ => none }
def FnExactCensusWrongFalsely : Prop := fnExactCensusRow.holds Try.pinned (OpenSpec.ofChange fnExactCensusWrong)

/-- 'laws.FnExactImage': WHATEVER THE INPUT: true; the input reads as it did. -/
def fnExactImageSpec : ChangeSpec := { name := "fnExactImage", fn := fun _ => fun
  | [d] => { results := [.lit (.bool true)], args := [d] }
  | _ => none }
def fnExactImageRow : OpenClaim := { program := "ytjdcndicaeodbaa", sum := "a801ec50bb22da1960be5b946c9f4c7f60d16cbb05a17a99ecc908f3c5e87e28", func := "loop.example/g00101/laws.FnExactImage", spec := "fnExactImage", unfollowed := true, recurses := true, apart := false }
def FnExactImageSaid : Prop := fnExactImageRow.holds Try.pinned (OpenSpec.ofChange fnExactImageSpec)

/-- ITS FALSE NEIGHBOUR: 'it returns false'. Refute it at one input. -/
def fnExactImageWrong : ChangeSpec := { name := "fnExactImage", fn := fun _ => fun
  | [d] => { results := [.lit (.bool false)], args := [d] }
  | _ => none }
def FnExactImageWrongFalsely : Prop := fnExactImageRow.holds Try.pinned (OpenSpec.ofChange fnExactImageWrong)

/-- 'laws.FnExactWay': WHATEVER THE INPUT: true; the input reads as it did. -/
def fnExactWaySpec : ChangeSpec := { name := "fnExactWay", fn := fun _ => fun
  | [d1, d2] => { results := [.lit (.bool true)], args := [d1, d2] }
  | _ => none }
def fnExactWayRow : OpenClaim := { program := "ytjdcndicaeodbaa", sum := "a801ec50bb22da1960be5b946c9f4c7f60d16cbb05a17a99ecc908f3c5e87e28", func := "loop.example/g00101/laws.FnExactWay", spec := "fnExactWay", unfollowed := true, recurses := true, apart := false }
def FnExactWaySaid : Prop := fnExactWayRow.holds Try.pinned (OpenSpec.ofChange fnExactWaySpec)

/-- ITS FALSE NEIGHBOUR: 'it returns false'. Refute it at one input. -/
def fnExactWayWrong : ChangeSpec := { name := "fnExactWay", fn := fun _ => fun
  | [d1, d2] => { results := [.lit (.bool false)], args := [d1, d2] }
  | _ => none }
def FnExactWayWrongFalsely : Prop := fnExactWayRow.holds Try.pinned (OpenSpec.ofChange fnExactWayWrong)

/-- 'laws.FnExactRestore': WHATEVER THE INPUT: true; the input reads as it did. -/
def fnExactRestoreSpec : ChangeSpec := { name := "fnExactRestore", fn := fun _ => fun
  | [d] => { results := [.lit (.bool true)], args := [d] }
  | _ => none }
def fnExactRestoreRow : OpenClaim := { program := "ytjdcndicaeodbaa", sum := "a801ec50bb22da1960be5b946c9f4c7f60d16cbb05a17a99ecc908f3c5e87e28", func := "loop.example/g00101/laws.FnExactRestore", spec := "fnExactRestore", unfollowed := true, recurses := true, apart := false }
def FnExactRestoreSaid : Prop := fnExactRestoreRow.holds Try.pinned (OpenSpec.ofChange fnExactRestoreSpec)

/-- ITS FALSE NEIGHBOUR: 'it returns false'. Refute it at one input. -/
def fnExactRestoreWrong : ChangeSpec := { name := "fnExactRestore", fn := fun _ => fun
  | [d] => { results := [.lit (.bool false)], args := [d] }
  | _ => none }
def FnExactRestoreWrongFalsely : Prop := fnExactRestoreRow.holds Try.pinned (OpenSpec.ofChange fnExactRestoreWrong)

/- THE SECOND FORM. 'bulk': how many values and letters a reading holds, each counted each time it is reached (what is shared counts as often as it is met; a slice's spare places count too). A statement '..UptoSaid' is the law's where the arguments, and the package variables that the reading takes, are together of bulk at most 1048576: NARROWER than '..Said'. Prove '..Said' where nothing that the law and all that it calls make is longer than what came in: it says more and counts as full. Else prove '..UptoSaid'. A law counts once. -/
mutual
def uptoBulk {H : Type} : DataW H → Nat
  | .lit (.string bytes) => bytes.length + 1
  | .lit _ => 1
  | .nil => 1
  | .ptr d => uptoBulk d + 1
  | .slice elems spare => uptoBulkAll elems + uptoBulkAll spare + 1
  | .agg parts => uptoBulkAll parts + 1
  | .iface _ d => uptoBulk d + 1
  | .map entries => uptoBulkEntries entries + 1
  | .held _ => 1
def uptoBulkAll {H : Type} : List (DataW H) → Nat
  | [] => 0
  | d :: r => uptoBulk d + uptoBulkAll r
def uptoBulkEntries {H : Type} : List (Lit × DataW H) → Nat
  | [] => 0
  | x :: r => uptoBulkEntry x + uptoBulkEntries r
def uptoBulkEntry {H : Type} : Lit × DataW H → Nat
  | (.string bytes, d) => bytes.length + uptoBulk d + 1
  | (_, d) => uptoBulk d + 1
 end
def uptoSmall : (H : Type) → List (DataW H) → Bool := fun _ ds => decide (uptoBulkAll ds ≤ 1048576)
def OpenSpec.upto (s : _root_.Go.ChangeSpec) : _root_.Go.OpenSpec := { _root_.Go.OpenSpec.ofChange s with cond := some uptoSmall }

/-- 'laws.FnExactCensus', WHERE WHAT IT READS IS OF BULK AT MOST 1048576: true; the input reads as it did. -/
def fnExactCensusUptoRow : OpenClaim := { program := "ytjdcndicaeodbaa", sum := "a801ec50bb22da1960be5b946c9f4c7f60d16cbb05a17a99ecc908f3c5e87e28", func := "loop.example/g00101/laws.FnExactCensus", spec := "fnExactCensus", unfollowed := true, recurses := true, apart := false, narrowed := true }
def FnExactCensusUptoSaid : Prop := fnExactCensusUptoRow.holds Try.pinned (OpenSpec.upto fnExactCensusSpec)

/-- 'laws.FnExactImage', WHERE WHAT IT READS IS OF BULK AT MOST 1048576: true; the input reads as it did. -/
def fnExactImageUptoRow : OpenClaim := { program := "ytjdcndicaeodbaa", sum := "a801ec50bb22da1960be5b946c9f4c7f60d16cbb05a17a99ecc908f3c5e87e28", func := "loop.example/g00101/laws.FnExactImage", spec := "fnExactImage", unfollowed := true, recurses := true, apart := false, narrowed := true }
def FnExactImageUptoSaid : Prop := fnExactImageUptoRow.holds Try.pinned (OpenSpec.upto fnExactImageSpec)

/-- 'laws.FnExactWay', WHERE WHAT IT READS IS OF BULK AT MOST 1048576: true; the input reads as it did. -/
def fnExactWayUptoRow : OpenClaim := { program := "ytjdcndicaeodbaa", sum := "a801ec50bb22da1960be5b946c9f4c7f60d16cbb05a17a99ecc908f3c5e87e28", func := "loop.example/g00101/laws.FnExactWay", spec := "fnExactWay", unfollowed := true, recurses := true, apart := false, narrowed := true }
def FnExactWayUptoSaid : Prop := fnExactWayUptoRow.holds Try.pinned (OpenSpec.upto fnExactWaySpec)

/-- 'laws.FnExactRestore', WHERE WHAT IT READS IS OF BULK AT MOST 1048576: true; the input reads as it did. -/
def fnExactRestoreUptoRow : OpenClaim := { program := "ytjdcndicaeodbaa", sum := "a801ec50bb22da1960be5b946c9f4c7f60d16cbb05a17a99ecc908f3c5e87e28", func := "loop.example/g00101/laws.FnExactRestore", spec := "fnExactRestore", unfollowed := true, recurses := true, apart := false, narrowed := true }
def FnExactRestoreUptoSaid : Prop := fnExactRestoreUptoRow.holds Try.pinned (OpenSpec.upto fnExactRestoreSpec)

end Rows
end Go.Proofs.Ytjdcndicaeodbaa
