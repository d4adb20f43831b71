/-
  No cell of these rows narrows 'for every input' (looked for: loops, veiled, ifaces, maps, wideKeys, modest, calm, conditions, laid).
  DERIVED. THE GIVEN ROWS OF THIS SEAT. 4 by the template 'for every input the law returns true; each argument reads behind the call as it read before'; 0 by the template 'total and deterministic' (their statements: YtpdcjocjkbgddaaGreatTotals.lean).
  GIVEN WITH THE SEED: the statements are not yours to turn. If you find one false, say at which input.
  Laid BY PROGRAM, IN A SANDBOX (cutbox-rows.mjs): the forced cells as the released guide's own fill.sh prints them over the translation 14b74c9d7a814bed… (all of the seat's roots in one cut). By AI agents, Wed Nov 11 2026. No macro, syntax, notation, axiom, sorry.
-/
import Derived.Test.YtpdcjocjkbgddaaGreatChecked
import GoSem.Claim
import GoSem.ClaimJoined
import GoSem.ClaimMapViews
import Derived.JoinedTies
import Derived.KernelRfl
namespace Go.Proofs.YtpdcjocjkbgddaaGreat
/- THE CELL 'sum', in the pinned program and in every row, IS THE sha256 OF THE DUMP (.gsa) THAT YtpdcjocjkbgddaaGreatProg.lean LOADS. Nothing in Lean hashes anything: it is a label: what it is worth is what the hold of that sum in a sandbox is worth. -/
noncomputable def Tryz.pinned : Pinned := { name := "ytpdcjocjkbgddaagreat", sum := "14b74c9d7a814bed29b708ca2c4c4a4a1f52faac27caa16681e388a2d1e39da9", checked := Tryz.checked }
namespace Rows
def none {H : Type} : Left H := { results := [], args := [] }

/-- 'laws.FnExactPutText': WHATEVER THE INPUT: true; the input reads as it did. -/
def fnExactPutTextSpec : ChangeSpec := { name := "fnExactPutText", fn := fun _ => fun
  | [d1, d2, d3] => { results := [.lit (.bool true)], args := [d1, d2, d3] }
  | _ => none }
def fnExactPutTextRow : OpenClaim := { program := "ytpdcjocjkbgddaagreat", sum := "14b74c9d7a814bed29b708ca2c4c4a4a1f52faac27caa16681e388a2d1e39da9", func := "loop.example/g00101/laws.FnExactPutText", spec := "fnExactPutText", unfollowed := true, recurses := true, apart := false }
def FnExactPutTextSaid : Prop := fnExactPutTextRow.holds Tryz.pinned (OpenSpec.ofChange fnExactPutTextSpec)

/-- ITS FALSE NEIGHBOUR: 'it returns false'. Refute it at one input. -/
def fnExactPutTextWrong : ChangeSpec := { name := "fnExactPutText", fn := fun _ => fun
  | [d1, d2, d3] => { results := [.lit (.bool false)], args := [d1, d2, d3] }
  | _ => none }
def FnExactPutTextWrongFalsely : Prop := fnExactPutTextRow.holds Tryz.pinned (OpenSpec.ofChange fnExactPutTextWrong)

/-- 'laws.FnExactJoinText': WHATEVER THE INPUT: true; the input reads as it did. -/
def fnExactJoinTextSpec : ChangeSpec := { name := "fnExactJoinText", fn := fun _ => fun
  | [d1, d2, d3, d4] => { results := [.lit (.bool true)], args := [d1, d2, d3, d4] }
  | _ => none }
def fnExactJoinTextRow : OpenClaim := { program := "ytpdcjocjkbgddaagreat", sum := "14b74c9d7a814bed29b708ca2c4c4a4a1f52faac27caa16681e388a2d1e39da9", func := "loop.example/g00101/laws.FnExactJoinText", spec := "fnExactJoinText", unfollowed := true, recurses := true, apart := false }
def FnExactJoinTextSaid : Prop := fnExactJoinTextRow.holds Tryz.pinned (OpenSpec.ofChange fnExactJoinTextSpec)

/-- ITS FALSE NEIGHBOUR: 'it returns false'. Refute it at one input. -/
def fnExactJoinTextWrong : ChangeSpec := { name := "fnExactJoinText", fn := fun _ => fun
  | [d1, d2, d3, d4] => { results := [.lit (.bool false)], args := [d1, d2, d3, d4] }
  | _ => none }
def FnExactJoinTextWrongFalsely : Prop := fnExactJoinTextRow.holds Tryz.pinned (OpenSpec.ofChange fnExactJoinTextWrong)

/-- 'laws.FnExactNewFun': WHATEVER THE INPUT: true; the input reads as it did. -/
def fnExactNewFunSpec : ChangeSpec := { name := "fnExactNewFun", fn := fun _ => fun
  | [d1, d2, d3, d4] => { results := [.lit (.bool true)], args := [d1, d2, d3, d4] }
  | _ => none }
def fnExactNewFunRow : OpenClaim := { program := "ytpdcjocjkbgddaagreat", sum := "14b74c9d7a814bed29b708ca2c4c4a4a1f52faac27caa16681e388a2d1e39da9", func := "loop.example/g00101/laws.FnExactNewFun", spec := "fnExactNewFun", unfollowed := true, recurses := true, apart := false }
def FnExactNewFunSaid : Prop := fnExactNewFunRow.holds Tryz.pinned (OpenSpec.ofChange fnExactNewFunSpec)

/-- ITS FALSE NEIGHBOUR: 'it returns false'. Refute it at one input. -/
def fnExactNewFunWrong : ChangeSpec := { name := "fnExactNewFun", fn := fun _ => fun
  | [d1, d2, d3, d4] => { results := [.lit (.bool false)], args := [d1, d2, d3, d4] }
  | _ => none }
def FnExactNewFunWrongFalsely : Prop := fnExactNewFunRow.holds Tryz.pinned (OpenSpec.ofChange fnExactNewFunWrong)

/-- 'laws.FnExactSetKey': WHATEVER THE INPUT: true; the input reads as it did. -/
def fnExactSetKeySpec : ChangeSpec := { name := "fnExactSetKey", fn := fun _ => fun
  | [d1, d2, d3, d4] => { results := [.lit (.bool true)], args := [d1, d2, d3, d4] }
  | _ => none }
def fnExactSetKeyRow : OpenClaim := { program := "ytpdcjocjkbgddaagreat", sum := "14b74c9d7a814bed29b708ca2c4c4a4a1f52faac27caa16681e388a2d1e39da9", func := "loop.example/g00101/laws.FnExactSetKey", spec := "fnExactSetKey", unfollowed := true, recurses := true, apart := false }
def FnExactSetKeySaid : Prop := fnExactSetKeyRow.holds Tryz.pinned (OpenSpec.ofChange fnExactSetKeySpec)

/-- ITS FALSE NEIGHBOUR: 'it returns false'. Refute it at one input. -/
def fnExactSetKeyWrong : ChangeSpec := { name := "fnExactSetKey", fn := fun _ => fun
  | [d1, d2, d3, d4] => { results := [.lit (.bool false)], args := [d1, d2, d3, d4] }
  | _ => none }
def FnExactSetKeyWrongFalsely : Prop := fnExactSetKeyRow.holds Tryz.pinned (OpenSpec.ofChange fnExactSetKeyWrong)

/- THE SECOND FORM. 'bulk': how many values and letters a reading holds, each counted each time it is reached (what is shared counts as often as it is met; a slice's spare places count too). A statement '..UptoSaid' is the law's where the arguments, and the package variables that the reading takes, are together of bulk at most 1048576: NARROWER than '..Said'. Prove '..Said' where nothing that the law and all that it calls make is longer than what came in: it says more and counts as full. Else prove '..UptoSaid'. A law counts once. -/
mutual
def uptoBulk {H : Type} : DataW H → Nat
  | .lit (.string bytes) => bytes.length + 1
  | .lit _ => 1
  | .nil => 1
  | .ptr d => uptoBulk d + 1
  | .slice elems spare => uptoBulkAll elems + uptoBulkAll spare + 1
  | .agg parts => uptoBulkAll parts + 1
  | .iface _ d => uptoBulk d + 1
  | .map entries => uptoBulkEntries entries + 1
  | .held _ => 1
def uptoBulkAll {H : Type} : List (DataW H) → Nat
  | [] => 0
  | d :: r => uptoBulk d + uptoBulkAll r
def uptoBulkEntries {H : Type} : List (Lit × DataW H) → Nat
  | [] => 0
  | x :: r => uptoBulkEntry x + uptoBulkEntries r
def uptoBulkEntry {H : Type} : Lit × DataW H → Nat
  | (.string bytes, d) => bytes.length + uptoBulk d + 1
  | (_, d) => uptoBulk d + 1
 end
def uptoSmall : (H : Type) → List (DataW H) → Bool := fun _ ds => decide (uptoBulkAll ds ≤ 1048576)
def OpenSpec.upto (s : _root_.Go.ChangeSpec) : _root_.Go.OpenSpec := { _root_.Go.OpenSpec.ofChange s with cond := some uptoSmall }

/-- 'laws.FnExactPutText', WHERE WHAT IT READS IS OF BULK AT MOST 1048576: true; the input reads as it did. -/
def fnExactPutTextUptoRow : OpenClaim := { program := "ytpdcjocjkbgddaagreat", sum := "14b74c9d7a814bed29b708ca2c4c4a4a1f52faac27caa16681e388a2d1e39da9", func := "loop.example/g00101/laws.FnExactPutText", spec := "fnExactPutText", unfollowed := true, recurses := true, apart := false, narrowed := true }
def FnExactPutTextUptoSaid : Prop := fnExactPutTextUptoRow.holds Tryz.pinned (OpenSpec.upto fnExactPutTextSpec)

/-- 'laws.FnExactJoinText', WHERE WHAT IT READS IS OF BULK AT MOST 1048576: true; the input reads as it did. -/
def fnExactJoinTextUptoRow : OpenClaim := { program := "ytpdcjocjkbgddaagreat", sum := "14b74c9d7a814bed29b708ca2c4c4a4a1f52faac27caa16681e388a2d1e39da9", func := "loop.example/g00101/laws.FnExactJoinText", spec := "fnExactJoinText", unfollowed := true, recurses := true, apart := false, narrowed := true }
def FnExactJoinTextUptoSaid : Prop := fnExactJoinTextUptoRow.holds Tryz.pinned (OpenSpec.upto fnExactJoinTextSpec)

/-- 'laws.FnExactNewFun', WHERE WHAT IT READS IS OF BULK AT MOST 1048576: true; the input reads as it did. -/
def fnExactNewFunUptoRow : OpenClaim := { program := "ytpdcjocjkbgddaagreat", sum := "14b74c9d7a814bed29b708ca2c4c4a4a1f52faac27caa16681e388a2d1e39da9", func := "loop.example/g00101/laws.FnExactNewFun", spec := "fnExactNewFun", unfollowed := true, recurses := true, apart := false, narrowed := true }
def FnExactNewFunUptoSaid : Prop := fnExactNewFunUptoRow.holds Tryz.pinned (OpenSpec.upto fnExactNewFunSpec)

/-- 'laws.FnExactSetKey', WHERE WHAT IT READS IS OF BULK AT MOST 1048576: true; the input reads as it did. -/
def fnExactSetKeyUptoRow : OpenClaim := { program := "ytpdcjocjkbgddaagreat", sum := "14b74c9d7a814bed29b708ca2c4c4a4a1f52faac27caa16681e388a2d1e39da9", func := "loop.example/g00101/laws.FnExactSetKey", spec := "fnExactSetKey", unfollowed := true, recurses := true, apart := false, narrowed := true }
def FnExactSetKeyUptoSaid : Prop := fnExactSetKeyUptoRow.holds Tryz.pinned (OpenSpec.upto fnExactSetKeySpec)

end Rows
end Go.Proofs.YtpdcjocjkbgddaaGreat
