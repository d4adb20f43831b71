/- What the arguments of the law FnExactPlain open to: for each struct type its well-formed values, and that a value that reads as data is one. -/
import Derived.Test.YtcbjdodehjpddaaPFnExactPlainx0
import Derived.Test.YtcbjdodehjpddaaOpens
namespace Go.Proofs.Ytcbjdodehjpddaa.OpFnExactPlain
open Go.RowKit Go.Proofs.YtcbjdodehjpddaaW.PrintWords Go.Proofs.Ytcbjdodehjpddaa.PFnExactPlain Go.Proofs.Ytcbjdodehjpddaa.Opens
def ok66 (x : S66) : Prop := ((Lit.int .i64 x.f0).wf = true) ∧ ((Lit.int .i64 x.f1).wf = true)
instance : Inhabited S66 := ⟨z66⟩
theorem opens66 : Opens Try.prog 66 k66 ok66 :=
  opens_iso (fun x : S66 => (x.f0, x.f1)) (fun p => ⟨p.1, p.2⟩) (fun _ => rfl) (opens_struct Try.underlying66 (by kernel_rfl) (opensFs_cons rfl (by kernel_rfl) (opens_int Try.underlying3) (opensFs_one rfl (by kernel_rfl) (opens_int Try.underlying3))))
end Go.Proofs.Ytcbjdodehjpddaa.OpFnExactPlain
