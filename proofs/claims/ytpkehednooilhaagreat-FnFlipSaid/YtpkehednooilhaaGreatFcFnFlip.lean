/- The closed facts of the row of FnFlip, each by computation. No condition. -/
import Derived.Test.YtpkehednooilhaaGreatRows
import Derived.JoinedOf
import Derived.KernelRfl
namespace Go.Proofs.YtpkehednooilhaaGreat
open Go
theorem fcFnFlip_0 : (Rows.fnFlipRow.inPlace == Tryz.pinned.checked.prog.inPlace 5) = true := by kernel_rfl
theorem fcFnFlip_1 : (Rows.fnFlipRow.unfollowed == Tryz.pinned.checked.prog.unfollowed 5) = true := by kernel_rfl
theorem fcFnFlip_2 : (Rows.fnFlipRow.recurses == Tryz.pinned.checked.prog.recurses 5) = true := by kernel_rfl
theorem fcFnFlip_3 : (Rows.fnFlipRow.named == Tryz.pinned.checked.prog.varsNamed 5) = true := by kernel_rfl
theorem factsFnFlip : joinedFacts Tryz.pinned.checked.prog 5 Tryz.f5 Rows.fnFlipSpec Rows.fnFlipRow = true := by
  unfold joinedFacts
  rw [fcFnFlip_0, fcFnFlip_1, fcFnFlip_2, fcFnFlip_3]
  kernel_rfl
end Go.Proofs.YtpkehednooilhaaGreat
