/- The closed facts of the row of FnCensus, each by computation. No condition. -/
import Derived.Test.YtpkehednooilhaaGreatRows
import Derived.JoinedOf
import Derived.KernelRfl
namespace Go.Proofs.YtpkehednooilhaaGreat
open Go
theorem fcFnCensus_0 : (Rows.fnCensusRow.inPlace == Tryz.pinned.checked.prog.inPlace 4) = true := by kernel_rfl
theorem fcFnCensus_1 : (Rows.fnCensusRow.unfollowed == Tryz.pinned.checked.prog.unfollowed 4) = true := by kernel_rfl
theorem fcFnCensus_2 : (Rows.fnCensusRow.recurses == Tryz.pinned.checked.prog.recurses 4) = true := by kernel_rfl
theorem fcFnCensus_3 : (Rows.fnCensusRow.named == Tryz.pinned.checked.prog.varsNamed 4) = true := by kernel_rfl
theorem factsFnCensus : joinedFacts Tryz.pinned.checked.prog 4 Tryz.f4 Rows.fnCensusSpec Rows.fnCensusRow = true := by
  unfold joinedFacts
  rw [fcFnCensus_0, fcFnCensus_1, fcFnCensus_2, fcFnCensus_3]
  kernel_rfl
end Go.Proofs.YtpkehednooilhaaGreat
