/- OpName: for every input the law returns true, where the listed tables of the library hold what the program's text lays there: the tied card of that row. -/
import Derived.Test.YtpdcjocjkbgddaaDoorYc
import Derived.Test.YtpdcjocjkbgddaaDoorCards
import Derived.Test.YtpdcjocjkbgddaaDoorTie
import Derived.SevenTiedAt
namespace Go.Proofs.YtpdcjocjkbgddaaDoor
open Go
theorem fnExactOpName_card : Rows.FnExactOpNameCardSaid :=
  Claim7.holds_tied_plain_at .later [] [.listed, .data] true (true, "ab7d4e16d8355fcf61646cd79e0fb8c9365a23849048801141c07a6d4bd5a95d") false
    opName.over (fun _ h => by cases h) (by kernel_rfl) (fun _ h => by cases h) fnExactOpName_row_tie rfl ⟨rfl, rfl⟩ (by kernel_rfl) rfl
    (fun f fn hf hfn => by
      obtain rfl : f = 3 := Option.some.inj ((show Tryd.prog.funcNamed "loop.example/g00101/laws.FnExactOpName" = some 3 by kernel_rfl).symm.trans hf) |>.symm
      obtain rfl : fn = Tryd.f3 := (Option.some.inj (Tryd.func3.symm.trans hfn)).symm
      exact ⟨by kernel_rfl, fun j t ht => by
        rw [Tryd.params3] at ht
        have h3 : t = 3 := by
          rcases j with _ | j
          · simpa using ht.symm
          · simp at ht
        subst h3
        exact (show Tryd.prog.wantsStandIn 3 = false by kernel_rfl)⟩)
    (by kernel_rfl)
#print axioms fnExactOpName_card
end Go.Proofs.YtpdcjocjkbgddaaDoor
