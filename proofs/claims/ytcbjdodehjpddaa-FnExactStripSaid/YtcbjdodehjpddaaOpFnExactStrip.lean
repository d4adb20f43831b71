/- What the arguments of the law FnExactStrip open to: for each struct type its well-formed values, and that a value that reads as data is one. -/
import Derived.Test.YtcbjdodehjpddaaPFnExactStripx0
import Derived.Test.YtcbjdodehjpddaaOpens
namespace Go.Proofs.Ytcbjdodehjpddaa.OpFnExactStrip
open Go.RowKit Go.Proofs.YtcbjdodehjpddaaW.PrintWords Go.Proofs.Ytcbjdodehjpddaa.PFnExactStrip Go.Proofs.Ytcbjdodehjpddaa.Opens
def ok103 (x : S103) : Prop := True ∧ ((Lit.int .i64 x.f1).wf = true)
instance : Inhabited S103 := ⟨z103⟩
theorem opens103 : Opens Try.prog 103 k103 ok103 :=
  opens_iso (fun x : S103 => (x.f0, x.f1)) (fun p => ⟨p.1, p.2⟩) (fun _ => rfl) (opens_struct Try.underlying103 (by kernel_rfl) (opensFs_cons rfl (by kernel_rfl) (opens_bool Try.underlying4) (opensFs_one rfl (by kernel_rfl) (opens_int Try.underlying3))))
def ok105 (x : S105) : Prop := ((Lit.int .i64 x.f0).wf = true) ∧ ((Lit.int .i64 x.f1).wf = true)
instance : Inhabited S105 := ⟨z105⟩
theorem opens105 : Opens Try.prog 105 k105 ok105 :=
  opens_iso (fun x : S105 => (x.f0, x.f1)) (fun p => ⟨p.1, p.2⟩) (fun _ => rfl) (opens_struct Try.underlying105 (by kernel_rfl) (opensFs_cons rfl (by kernel_rfl) (opens_int Try.underlying3) (opensFs_one rfl (by kernel_rfl) (opens_int Try.underlying3))))
end Go.Proofs.Ytcbjdodehjpddaa.OpFnExactStrip
