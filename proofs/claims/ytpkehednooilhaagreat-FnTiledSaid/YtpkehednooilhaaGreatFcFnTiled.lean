/- The closed facts of the row of FnTiled, each by computation. No condition. -/
import Derived.Test.YtpkehednooilhaaGreatRows
import Derived.JoinedOf
import Derived.KernelRfl
namespace Go.Proofs.YtpkehednooilhaaGreat
open Go
theorem fcFnTiled_0 : (Rows.fnTiledRow.inPlace == Tryz.pinned.checked.prog.inPlace 3) = true := by kernel_rfl
theorem fcFnTiled_1 : (Rows.fnTiledRow.unfollowed == Tryz.pinned.checked.prog.unfollowed 3) = true := by kernel_rfl
theorem fcFnTiled_2 : (Rows.fnTiledRow.recurses == Tryz.pinned.checked.prog.recurses 3) = true := by kernel_rfl
theorem fcFnTiled_3 : (Rows.fnTiledRow.named == Tryz.pinned.checked.prog.varsNamed 3) = true := by kernel_rfl
theorem factsFnTiled : joinedFacts Tryz.pinned.checked.prog 3 Tryz.f3 Rows.fnTiledSpec Rows.fnTiledRow = true := by
  unfold joinedFacts
  rw [fcFnTiled_0, fcFnTiled_1, fcFnTiled_2, fcFnTiled_3]
  kernel_rfl
end Go.Proofs.YtpkehednooilhaaGreat
