/- The closed facts of the row of FnPause, each by computation. No condition. -/
import Derived.Test.YtpkehednooilhaaGreatRows
import Derived.JoinedOf
import Derived.KernelRfl
namespace Go.Proofs.YtpkehednooilhaaGreat
open Go
theorem fcFnPause_0 : (Rows.fnPauseRow.inPlace == Tryz.pinned.checked.prog.inPlace 8) = true := by kernel_rfl
theorem fcFnPause_1 : (Rows.fnPauseRow.unfollowed == Tryz.pinned.checked.prog.unfollowed 8) = true := by kernel_rfl
theorem fcFnPause_2 : (Rows.fnPauseRow.recurses == Tryz.pinned.checked.prog.recurses 8) = true := by kernel_rfl
theorem fcFnPause_3 : (Rows.fnPauseRow.named == Tryz.pinned.checked.prog.varsNamed 8) = true := by kernel_rfl
theorem factsFnPause : joinedFacts Tryz.pinned.checked.prog 8 Tryz.f8 Rows.fnPauseSpec Rows.fnPauseRow = true := by
  unfold joinedFacts
  rw [fcFnPause_0, fcFnPause_1, fcFnPause_2, fcFnPause_3]
  kernel_rfl
end Go.Proofs.YtpkehednooilhaaGreat
