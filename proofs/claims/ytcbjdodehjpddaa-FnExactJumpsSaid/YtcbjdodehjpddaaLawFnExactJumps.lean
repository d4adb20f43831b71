/- The law FnExactJumps: for every input it returns true, and its arguments read as before: the row out of the contract of the law's function. -/
import Derived.Test.YtcbjdodehjpddaaRows
import Derived.Test.YtcbjdodehjpddaaJs
import Derived.Test.YtcbjdodehjpddaaOq
import Derived.WalkKit
import Derived.ProofKit
import Derived.OpenShut
import Derived.ShutString
import Derived.ChangeOld
import Derived.Below
import Derived.SizedLaws
import Derived.Lib.SmallJoins
namespace Go.Proofs.Ytcbjdodehjpddaa.fnExactJumps
open Go.ChangeShapes Go.WideShapes Go.ChangeAt Go.RowKit
open Go.ChangeMaps (shut_string)
open Go.Proofs.Ytcbjdodehjpddaa.Abs
set_option linter.unusedVariables false
theorem own : ownKnob Try.prog.godebug = none := by kernel_rfl
theorem laidOut : laidOutB Try.prog = true := by kernel_rfl
set_option maxRecDepth 100000 in
theorem lifted (os : Os) (started : os.Started) (H : Type) (enc : TypeId × Value → H) :
    ReturnsInHanded {} Try.checked os 7 .any (Rows.fnExactJumpsSpec.pre6 enc Try.prog Try.f7 Rows.fnExactJumpsRow.domain false) (Rows.fnExactJumpsSpec.post enc Try.prog Try.f7 false true false false) := by
  refine returnsInHanded_of_change_sized (C := Try.checked) own started (by kernel_rfl) Try.func7
    (ChangeSpec.witness6 (enc := enc) (C := Try.checked) false ⟨#[], #[.agg #[.int .i64 0, .int .i64 0, .slice none 0 0, .slice none 0 0]], []⟩ 8 (by kernel_rfl) (by kernel_rfl) (by kernel_rfl) (by kernel_rfl)) ?_
  intro W base args ds gs before hval0 hW hcnd hsz0 _
  have hval : ∀ (j : Nat) t v, Try.f7.params[j]? = some t → args[j]? = some v → Value.okWide Try.prog W .any base t v := hval0
  have hW' := hW
  obtain ⟨p, q, hA0, hV, rfl, hfz, hnd⟩ := hW
  have hA : DataW.TrodAll enc Try.prog W 0 (fun _ => true) true Try.f7.params.toList args.toList ds p := hA0
  rw [Try.params7] at hA hval
  obtain ⟨v0, vs0, d0, ds0, p0, q0, hargs, rfl, rfl, h0, r0⟩ := trodAll_cons hA
  obtain ⟨rfl, rfl, rfl⟩ := trodAll_nil r0
  obtain rfl : args = #[v0] := by cases args; simp_all
  obtain ⟨rfl, rfl⟩ := trodVars_none hV
  have k0_ := h0
  have lt0 : ∀ x ∈ p0, x.block < W.heap.size := by obtain ⟨m, hm⟩ := k0_; exact DataW.trod_lt m _ _ _ hm
  obtain ⟨cs0, rfl, hcs0⟩ := okWide_struct Try.underlying33 (hval 0 33 v0 rfl rfl)
  obtain ⟨fuel0, hf0⟩ := h0
  have hg0 : DataW.trod enc Try.prog W 0 (fun _ => true) true fuel0 33 cs0.toList = some (d0, p0) := hf0
  obtain ⟨x0, K0, o0⟩ := (opens_struct Try.underlying33 (by kernel_rfl) (opensFs_cons rfl (by kernel_rfl) (opens_int Try.underlying3) (opensFs_cons rfl (by kernel_rfl) (opens_int Try.underlying3) (opensFs_cons rfl (by kernel_rfl) (opens_slice Try.underlying30 (by kernel_rfl) (opens_struct Try.underlying103 (by kernel_rfl) (opensFs_flat (opensFs_cons rfl (by kernel_rfl) (opens_bool Try.underlying4) (opensFs_one rfl (by kernel_rfl) (opens_int Try.underlying3)))))) (opensFs_one rfl (by kernel_rfl) (opens_slice Try.underlying31 (by kernel_rfl) (opens_struct Try.underlying105 (by kernel_rfl) (opensFs_flat (opensFs_cons rfl (by kernel_rfl) (opens_int Try.underlying3) (opensFs_one rfl (by kernel_rfl) (opens_int Try.underlying3))))))))))) H enc W _ fuel0 _ _ hg0
  obtain ⟨L0, hL0⟩ : ∃ L, cs0.toList = L := ⟨_, rfl⟩
  rw [hL0] at K0
  obtain ⟨a0_0, a0_1, l0_2, l0_3⟩ := x0
  obtain ⟨_, _, rfl, rfl, ⟨_, _, rfl, rfl, ⟨_, _, rfl, ⟨A0_2, c0_2, rfl, hl0_2, hr0_2⟩, ⟨A0_3, c0_3, rfl, hl0_3, hr0_3⟩⟩⟩⟩ := K0
  obtain rfl : cs0 = #[.int .i64 a0_0, .int .i64 a0_1, .slice A0_2 l0_2.length c0_2, .slice A0_3 l0_3.length c0_3] := by apply Array.ext'; rw [hL0]; rfl
  have hs : Abs.look t27 7 [.agg #[.int .i64 a0_0, .int .i64 a0_1, .slice A0_2 l0_2.length c0_2, .slice A0_3 l0_3.length c0_3]] (memOf W) (fun v M => v = .bool true ∧ Mem.le (memOf W) M) := via (s := s7) rfl ⟨_, _, _, _, _, _, _, _, l0_2, l0_3, rfl, rfl, rfl, hl0_2, hl0_3, hr0_2.rd, hr0_3.rd, fun M hM => ⟨rfl, hM⟩⟩
  obtain ⟨_, hcalls⟩ := a27 7 _ _ _ hs
  refine (hcalls W (fun b o e => e)).mono ?_
  rintro e W' ⟨v, M, rfl, ⟨rfl, hM⟩, hR⟩
  have bel : Below W.heap.size W W' := below_of hM hR
  exact ⟨_, rfl, _, _, _, [], _, [], hW', trodAll_mk1 (shut_bool Try.underlying4 _), (trodAll_cons_mk (Below.trod laidOut (by kernel_rfl) (of_decide_eq_true (by kernel_rfl)) k0_ bel lt0) trodAll_mk0), rfl, bel.frame _, fun h => by cases h⟩
theorem over : Rows.fnExactJumpsRow.holds Try.pinned (OpenSpec.ofChange Rows.fnExactJumpsSpec) :=
  OpenClaim.holds_of_wide 7 Try.f7 rfl rfl rfl rfl rfl rfl rfl ⟨rfl, rfl, rfl, rfl, rfl⟩ rfl rfl rfl rfl rfl (by kernel_rfl) Try.func7 (by kernel_rfl)
    (of_decide_eq_true (by kernel_rfl)) (by unfold Func.isWrapper; first | (rw [if_pos (by decide +kernel)]; kernel_rfl) | (rw [if_neg (by decide +kernel)]; exact ⟨rfl, rfl⟩))
    (fun os started H enc _ => lifted os started H enc)
theorem proved : Rows.FnExactJumpsSaid := over
#print axioms proved
end Go.Proofs.Ytcbjdodehjpddaa.fnExactJumps
namespace Go.Proofs.Ytcbjdodehjpddaa
/-- The row, under a short name, for the claim. -/
theorem fnExactJumps_holds : Rows.FnExactJumpsSaid := fnExactJumps.proved
end Go.Proofs.Ytcbjdodehjpddaa
