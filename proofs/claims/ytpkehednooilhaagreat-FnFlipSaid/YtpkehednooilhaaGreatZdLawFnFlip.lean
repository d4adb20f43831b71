/- The law FnFlip: for every input it returns true, and its arguments read as before: the row out of the contract of the law's function. -/
import Derived.Test.YtpkehednooilhaaGreatRows
import Derived.Test.YtpkehednooilhaaGreatFcFnFlip
import Derived.Test.YtpkehednooilhaaGreatZde
import Derived.Test.YtpkehednooilhaaGreatZdb
import Derived.WalkKit
import Derived.ProofKit
import Derived.OpenShut
import Derived.ShutString
import Derived.ChangeOld
import Derived.Below
import Derived.SizedLaws
import Derived.Lib.SmallJoins
namespace Go.Proofs.YtpkehednooilhaaGreat.fnFlip
open Go.ChangeShapes Go.WideShapes Go.ChangeAt Go.RowKit
open Go.ChangeMaps (shut_string)
open Go.Proofs.YtpkehednooilhaaGreat.Abs
set_option linter.unusedVariables false
theorem own : ownKnob Tryz.prog.godebug = none := by kernel_rfl
theorem laidOut : laidOutB Tryz.prog = true := by kernel_rfl
set_option maxRecDepth 100000 in
theorem lifted (os : Os) (started : os.Started) (H : Type) (enc : TypeId × Value → H) :
    ReturnsInHanded {} Tryz.checked os 5 .any (Rows.fnFlipSpec.pre6 enc Tryz.prog Tryz.f5 Rows.fnFlipRow.domain false) (Rows.fnFlipSpec.post enc Tryz.prog Tryz.f5 false true false false) := by
  refine returnsInHanded_of_change_sized (C := Tryz.checked) own started (by kernel_rfl) Tryz.func5
    (ChangeSpec.witness6 (enc := enc) (C := Tryz.checked) false ⟨#[], #[.slice none 0 0], []⟩ 8 (by kernel_rfl) (by kernel_rfl) (by kernel_rfl) (by kernel_rfl)) ?_
  intro W base args ds gs before hval0 hW hcnd hsz0 _
  have hval : ∀ (j : Nat) t v, Tryz.f5.params[j]? = some t → args[j]? = some v → Value.okWide Tryz.prog W .any base t v := hval0
  have hW' := hW
  obtain ⟨p, q, hA0, hV, rfl, hfz, hnd⟩ := hW
  have hA : DataW.TrodAll enc Tryz.prog W 0 (fun _ => true) true Tryz.f5.params.toList args.toList ds p := hA0
  rw [Tryz.params5] at hA hval
  obtain ⟨v0, vs0, d0, ds0, p0, q0, hargs, rfl, rfl, h0, r0⟩ := trodAll_cons hA
  obtain ⟨rfl, rfl, rfl⟩ := trodAll_nil r0
  obtain rfl : args = #[v0] := by cases args; simp_all
  obtain ⟨rfl, rfl⟩ := trodVars_none hV
  have k0_ := h0
  have lt0 : ∀ x ∈ p0, x.block < W.heap.size := by obtain ⟨m, hm⟩ := k0_; exact DataW.trod_lt m _ _ _ hm
  obtain ⟨a0, len0, cap0, rfl⟩ := okWide_slice Tryz.underlying22 (hval 0 22 v0 rfl rfl)
  obtain ⟨fuel0, hf0⟩ := h0
  obtain ⟨l0, ⟨A0, c0, he0, hl0, hr0⟩, o0⟩ := (opens_slice Tryz.underlying22 (by kernel_rfl) (opens_u8 Tryz.underlying5)) H enc W _ fuel0 _ _ hf0
  simp [Value.cells] at he0
  obtain ⟨rfl, rfl, rfl⟩ := he0
  have hs : Abs.look t123 5 [.slice _ l0.length _] (memOf W) (fun v M => v = .bool true ∧ Mem.le (memOf W) M) := via (s := s5) rfl ⟨⟨_, l0.length, cap0⟩, l0, rfl, hr0.rd, rfl, o0, fun M hM => ⟨rfl, hM⟩⟩
  obtain ⟨_, hcalls⟩ := a123 5 _ _ _ hs
  refine (hcalls W (fun b o e => e)).mono ?_
  rintro e W' ⟨v, M, rfl, ⟨rfl, hM⟩, hR⟩
  have bel : Below W.heap.size W W' := below_of hM hR
  exact ⟨_, rfl, _, _, _, [], _, [], hW', trodAll_mk1 (shut_bool Tryz.underlying4 _), (trodAll_cons_mk (Below.trod laidOut (by kernel_rfl) (of_decide_eq_true (by kernel_rfl)) k0_ bel lt0) trodAll_mk0), rfl, bel.frame _, fun h => by cases h⟩
theorem over : Rows.fnFlipRow.holds Tryz.pinned (OpenSpec.ofChange Rows.fnFlipSpec) :=
  OpenClaim.holds_of_wide 5 Tryz.f5 rfl rfl rfl rfl rfl rfl rfl ⟨rfl, rfl, rfl, rfl, rfl⟩ rfl rfl rfl rfl rfl (by kernel_rfl) Tryz.func5 Go.Proofs.YtpkehednooilhaaGreat.factsFnFlip
    (of_decide_eq_true (by kernel_rfl)) (by unfold Func.isWrapper; first | (rw [if_pos (by decide +kernel)]; kernel_rfl) | (rw [if_neg (by decide +kernel)]; exact ⟨rfl, rfl⟩))
    (fun os started H enc _ => lifted os started H enc)
theorem proved : Rows.FnFlipSaid := over
#print axioms proved
end Go.Proofs.YtpkehednooilhaaGreat.fnFlip
namespace Go.Proofs.YtpkehednooilhaaGreat
/-- The row, under a short name, for the claim. -/
theorem fnFlip_holds : Rows.FnFlipSaid := fnFlip.proved
end Go.Proofs.YtpkehednooilhaaGreat
