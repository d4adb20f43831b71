/-
  No cell of these rows narrows 'for every input' (looked for: loops, veiled, ifaces, maps, wideKeys, modest, calm, conditions, laid).
  DERIVED. THE GIVEN ROWS OF THIS SEAT. 7 by the template 'for every input the law returns true; each argument reads behind the call as it read before'; 0 by the template 'total and deterministic' (their statements: YtcbjdodehjpddaaTotals.lean).
  GIVEN WITH THE SEED: the statements are not yours to turn. If you find one false, say at which input.
  Laid BY PROGRAM, IN A SANDBOX (cutbox-rows.mjs): the forced cells as the released guide's own fill.sh prints them over the translation 3418bcd4813499dd… (all of the seat's roots in one cut). By AI agents, Wed Nov 11 2026. No macro, syntax, notation, axiom, sorry.
-/
import Derived.Test.YtcbjdodehjpddaaChecked
import GoSem.Claim
import GoSem.ClaimJoined
import GoSem.ClaimMapViews
import Derived.JoinedTies
import Derived.KernelRfl
namespace Go.Proofs.Ytcbjdodehjpddaa
/- THE CELL 'sum', in the pinned program and in every row, IS THE sha256 OF THE DUMP (.gsa) THAT YtcbjdodehjpddaaProg.lean LOADS. Nothing in Lean hashes anything: it is a label: what it is worth is what the hold of that sum in a sandbox is worth. -/
noncomputable def Try.pinned : Pinned := { name := "ytcbjdodehjpddaa", sum := "3418bcd4813499dd3fa075bba5ad0c7fd604b0d6ee93b550753f8c71ef9b0143", checked := Try.checked }
namespace Rows
def none {H : Type} : Left H := { results := [], args := [] }

/-- 'laws.FnExactPlain': WHATEVER THE INPUT: true; the input reads as it did. -/
def fnExactPlainSpec : ChangeSpec := { name := "fnExactPlain", fn := fun _ => fun
  | [d] => { results := [.lit (.bool true)], args := [d] }
  | _ => none }
def fnExactPlainRow : OpenClaim := { program := "ytcbjdodehjpddaa", sum := "3418bcd4813499dd3fa075bba5ad0c7fd604b0d6ee93b550753f8c71ef9b0143", func := "loop.example/g00101/laws.FnExactPlain", spec := "fnExactPlain", apart := false }
def FnExactPlainSaid : Prop := fnExactPlainRow.holds Try.pinned (OpenSpec.ofChange fnExactPlainSpec)

/-- ITS FALSE NEIGHBOUR: 'it returns false'. Refute it at one input. -/
def fnExactPlainWrong : ChangeSpec := { name := "fnExactPlain", fn := fun _ => fun
  | [d] => { results := [.lit (.bool false)], args := [d] }
  | _ => none }
def FnExactPlainWrongFalsely : Prop := fnExactPlainRow.holds Try.pinned (OpenSpec.ofChange fnExactPlainWrong)

/-- 'laws.FnExactThread': WHATEVER THE INPUT: true; the input reads as it did. -/
def fnExactThreadSpec : ChangeSpec := { name := "fnExactThread", fn := fun _ => fun
  | [d] => { results := [.lit (.bool true)], args := [d] }
  | _ => none }
def fnExactThreadRow : OpenClaim := { program := "ytcbjdodehjpddaa", sum := "3418bcd4813499dd3fa075bba5ad0c7fd604b0d6ee93b550753f8c71ef9b0143", func := "loop.example/g00101/laws.FnExactThread", spec := "fnExactThread", apart := false }
def FnExactThreadSaid : Prop := fnExactThreadRow.holds Try.pinned (OpenSpec.ofChange fnExactThreadSpec)

/-- ITS FALSE NEIGHBOUR: 'it returns false'. Refute it at one input. -/
def fnExactThreadWrong : ChangeSpec := { name := "fnExactThread", fn := fun _ => fun
  | [d] => { results := [.lit (.bool false)], args := [d] }
  | _ => none }
def FnExactThreadWrongFalsely : Prop := fnExactThreadRow.holds Try.pinned (OpenSpec.ofChange fnExactThreadWrong)

/-- 'laws.FnExactDepths': WHATEVER THE INPUT: true; the input reads as it did. -/
def fnExactDepthsSpec : ChangeSpec := { name := "fnExactDepths", fn := fun _ => fun
  | [d] => { results := [.lit (.bool true)], args := [d] }
  | _ => none }
def fnExactDepthsRow : OpenClaim := { program := "ytcbjdodehjpddaa", sum := "3418bcd4813499dd3fa075bba5ad0c7fd604b0d6ee93b550753f8c71ef9b0143", func := "loop.example/g00101/laws.FnExactDepths", spec := "fnExactDepths", unfollowed := true, recurses := true, apart := false }
def FnExactDepthsSaid : Prop := fnExactDepthsRow.holds Try.pinned (OpenSpec.ofChange fnExactDepthsSpec)

/-- ITS FALSE NEIGHBOUR: 'it returns false'. Refute it at one input. -/
def fnExactDepthsWrong : ChangeSpec := { name := "fnExactDepths", fn := fun _ => fun
  | [d] => { results := [.lit (.bool false)], args := [d] }
  | _ => none }
def FnExactDepthsWrongFalsely : Prop := fnExactDepthsRow.holds Try.pinned (OpenSpec.ofChange fnExactDepthsWrong)

/-- 'laws.FnExactStrip': WHATEVER THE INPUT: true; the input reads as it did. -/
def fnExactStripSpec : ChangeSpec := { name := "fnExactStrip", fn := fun _ => fun
  | [d] => { results := [.lit (.bool true)], args := [d] }
  | _ => none }
def fnExactStripRow : OpenClaim := { program := "ytcbjdodehjpddaa", sum := "3418bcd4813499dd3fa075bba5ad0c7fd604b0d6ee93b550753f8c71ef9b0143", func := "loop.example/g00101/laws.FnExactStrip", spec := "fnExactStrip", unfollowed := true, recurses := true, apart := false }
def FnExactStripSaid : Prop := fnExactStripRow.holds Try.pinned (OpenSpec.ofChange fnExactStripSpec)

/-- ITS FALSE NEIGHBOUR: 'it returns false'. Refute it at one input. -/
def fnExactStripWrong : ChangeSpec := { name := "fnExactStrip", fn := fun _ => fun
  | [d] => { results := [.lit (.bool false)], args := [d] }
  | _ => none }
def FnExactStripWrongFalsely : Prop := fnExactStripRow.holds Try.pinned (OpenSpec.ofChange fnExactStripWrong)

/-- 'laws.FnExactJumps': WHATEVER THE INPUT: true; the input reads as it did. -/
def fnExactJumpsSpec : ChangeSpec := { name := "fnExactJumps", fn := fun _ => fun
  | [d] => { results := [.lit (.bool true)], args := [d] }
  | _ => none }
def fnExactJumpsRow : OpenClaim := { program := "ytcbjdodehjpddaa", sum := "3418bcd4813499dd3fa075bba5ad0c7fd604b0d6ee93b550753f8c71ef9b0143", func := "loop.example/g00101/laws.FnExactJumps", spec := "fnExactJumps", recurses := true, apart := false }
def FnExactJumpsSaid : Prop := fnExactJumpsRow.holds Try.pinned (OpenSpec.ofChange fnExactJumpsSpec)

/-- ITS FALSE NEIGHBOUR: 'it returns false'. Refute it at one input. -/
def fnExactJumpsWrong : ChangeSpec := { name := "fnExactJumps", fn := fun _ => fun
  | [d] => { results := [.lit (.bool false)], args := [d] }
  | _ => none }
def FnExactJumpsWrongFalsely : Prop := fnExactJumpsRow.holds Try.pinned (OpenSpec.ofChange fnExactJumpsWrong)

/-- 'laws.FnExactUnused': WHATEVER THE INPUT: true; the input reads as it did. -/
def fnExactUnusedSpec : ChangeSpec := { name := "fnExactUnused", fn := fun _ => fun
  | [d] => { results := [.lit (.bool true)], args := [d] }
  | _ => none }
def fnExactUnusedRow : OpenClaim := { program := "ytcbjdodehjpddaa", sum := "3418bcd4813499dd3fa075bba5ad0c7fd604b0d6ee93b550753f8c71ef9b0143", func := "loop.example/g00101/laws.FnExactUnused", spec := "fnExactUnused", apart := false }
def FnExactUnusedSaid : Prop := fnExactUnusedRow.holds Try.pinned (OpenSpec.ofChange fnExactUnusedSpec)

/-- ITS FALSE NEIGHBOUR: 'it returns false'. Refute it at one input. -/
def fnExactUnusedWrong : ChangeSpec := { name := "fnExactUnused", fn := fun _ => fun
  | [d] => { results := [.lit (.bool false)], args := [d] }
  | _ => none }
def FnExactUnusedWrongFalsely : Prop := fnExactUnusedRow.holds Try.pinned (OpenSpec.ofChange fnExactUnusedWrong)

/-- 'laws.FnExactSmaller': WHATEVER THE INPUT: true; the input reads as it did. -/
def fnExactSmallerSpec : ChangeSpec := { name := "fnExactSmaller", fn := fun _ => fun
  | [d] => { results := [.lit (.bool true)], args := [d] }
  | _ => none }
def fnExactSmallerRow : OpenClaim := { program := "ytcbjdodehjpddaa", sum := "3418bcd4813499dd3fa075bba5ad0c7fd604b0d6ee93b550753f8c71ef9b0143", func := "loop.example/g00101/laws.FnExactSmaller", spec := "fnExactSmaller", unfollowed := true, recurses := true, apart := false }
def FnExactSmallerSaid : Prop := fnExactSmallerRow.holds Try.pinned (OpenSpec.ofChange fnExactSmallerSpec)

/-- ITS FALSE NEIGHBOUR: 'it returns false'. Refute it at one input. -/
def fnExactSmallerWrong : ChangeSpec := { name := "fnExactSmaller", fn := fun _ => fun
  | [d] => { results := [.lit (.bool false)], args := [d] }
  | _ => none }
def FnExactSmallerWrongFalsely : Prop := fnExactSmallerRow.holds Try.pinned (OpenSpec.ofChange fnExactSmallerWrong)

/- THE SECOND FORM. 'bulk': how many values and letters a reading holds, each counted each time it is reached (what is shared counts as often as it is met; a slice's spare places count too). A statement '..UptoSaid' is the law's where the arguments, and the package variables that the reading takes, are together of bulk at most 1048576: NARROWER than '..Said'. Prove '..Said' where nothing that the law and all that it calls make is longer than what came in: it says more and counts as full. Else prove '..UptoSaid'. A law counts once. -/
mutual
def uptoBulk {H : Type} : DataW H → Nat
  | .lit (.string bytes) => bytes.length + 1
  | .lit _ => 1
  | .nil => 1
  | .ptr d => uptoBulk d + 1
  | .slice elems spare => uptoBulkAll elems + uptoBulkAll spare + 1
  | .agg parts => uptoBulkAll parts + 1
  | .iface _ d => uptoBulk d + 1
  | .map entries => uptoBulkEntries entries + 1
  | .held _ => 1
def uptoBulkAll {H : Type} : List (DataW H) → Nat
  | [] => 0
  | d :: r => uptoBulk d + uptoBulkAll r
def uptoBulkEntries {H : Type} : List (Lit × DataW H) → Nat
  | [] => 0
  | x :: r => uptoBulkEntry x + uptoBulkEntries r
def uptoBulkEntry {H : Type} : Lit × DataW H → Nat
  | (.string bytes, d) => bytes.length + uptoBulk d + 1
  | (_, d) => uptoBulk d + 1
 end
def uptoSmall : (H : Type) → List (DataW H) → Bool := fun _ ds => decide (uptoBulkAll ds ≤ 1048576)
def OpenSpec.upto (s : _root_.Go.ChangeSpec) : _root_.Go.OpenSpec := { _root_.Go.OpenSpec.ofChange s with cond := some uptoSmall }

/-- 'laws.FnExactPlain', WHERE WHAT IT READS IS OF BULK AT MOST 1048576: true; the input reads as it did. -/
def fnExactPlainUptoRow : OpenClaim := { program := "ytcbjdodehjpddaa", sum := "3418bcd4813499dd3fa075bba5ad0c7fd604b0d6ee93b550753f8c71ef9b0143", func := "loop.example/g00101/laws.FnExactPlain", spec := "fnExactPlain", apart := false, narrowed := true }
def FnExactPlainUptoSaid : Prop := fnExactPlainUptoRow.holds Try.pinned (OpenSpec.upto fnExactPlainSpec)

/-- 'laws.FnExactThread', WHERE WHAT IT READS IS OF BULK AT MOST 1048576: true; the input reads as it did. -/
def fnExactThreadUptoRow : OpenClaim := { program := "ytcbjdodehjpddaa", sum := "3418bcd4813499dd3fa075bba5ad0c7fd604b0d6ee93b550753f8c71ef9b0143", func := "loop.example/g00101/laws.FnExactThread", spec := "fnExactThread", apart := false, narrowed := true }
def FnExactThreadUptoSaid : Prop := fnExactThreadUptoRow.holds Try.pinned (OpenSpec.upto fnExactThreadSpec)

/-- 'laws.FnExactDepths', WHERE WHAT IT READS IS OF BULK AT MOST 1048576: true; the input reads as it did. -/
def fnExactDepthsUptoRow : OpenClaim := { program := "ytcbjdodehjpddaa", sum := "3418bcd4813499dd3fa075bba5ad0c7fd604b0d6ee93b550753f8c71ef9b0143", func := "loop.example/g00101/laws.FnExactDepths", spec := "fnExactDepths", unfollowed := true, recurses := true, apart := false, narrowed := true }
def FnExactDepthsUptoSaid : Prop := fnExactDepthsUptoRow.holds Try.pinned (OpenSpec.upto fnExactDepthsSpec)

/-- 'laws.FnExactStrip', WHERE WHAT IT READS IS OF BULK AT MOST 1048576: true; the input reads as it did. -/
def fnExactStripUptoRow : OpenClaim := { program := "ytcbjdodehjpddaa", sum := "3418bcd4813499dd3fa075bba5ad0c7fd604b0d6ee93b550753f8c71ef9b0143", func := "loop.example/g00101/laws.FnExactStrip", spec := "fnExactStrip", unfollowed := true, recurses := true, apart := false, narrowed := true }
def FnExactStripUptoSaid : Prop := fnExactStripUptoRow.holds Try.pinned (OpenSpec.upto fnExactStripSpec)

/-- 'laws.FnExactJumps', WHERE WHAT IT READS IS OF BULK AT MOST 1048576: true; the input reads as it did. -/
def fnExactJumpsUptoRow : OpenClaim := { program := "ytcbjdodehjpddaa", sum := "3418bcd4813499dd3fa075bba5ad0c7fd604b0d6ee93b550753f8c71ef9b0143", func := "loop.example/g00101/laws.FnExactJumps", spec := "fnExactJumps", recurses := true, apart := false, narrowed := true }
def FnExactJumpsUptoSaid : Prop := fnExactJumpsUptoRow.holds Try.pinned (OpenSpec.upto fnExactJumpsSpec)

/-- 'laws.FnExactUnused', WHERE WHAT IT READS IS OF BULK AT MOST 1048576: true; the input reads as it did. -/
def fnExactUnusedUptoRow : OpenClaim := { program := "ytcbjdodehjpddaa", sum := "3418bcd4813499dd3fa075bba5ad0c7fd604b0d6ee93b550753f8c71ef9b0143", func := "loop.example/g00101/laws.FnExactUnused", spec := "fnExactUnused", apart := false, narrowed := true }
def FnExactUnusedUptoSaid : Prop := fnExactUnusedUptoRow.holds Try.pinned (OpenSpec.upto fnExactUnusedSpec)

/-- 'laws.FnExactSmaller', WHERE WHAT IT READS IS OF BULK AT MOST 1048576: true; the input reads as it did. -/
def fnExactSmallerUptoRow : OpenClaim := { program := "ytcbjdodehjpddaa", sum := "3418bcd4813499dd3fa075bba5ad0c7fd604b0d6ee93b550753f8c71ef9b0143", func := "loop.example/g00101/laws.FnExactSmaller", spec := "fnExactSmaller", unfollowed := true, recurses := true, apart := false, narrowed := true }
def FnExactSmallerUptoSaid : Prop := fnExactSmallerUptoRow.holds Try.pinned (OpenSpec.upto fnExactSmallerSpec)

end Rows
end Go.Proofs.Ytcbjdodehjpddaa
