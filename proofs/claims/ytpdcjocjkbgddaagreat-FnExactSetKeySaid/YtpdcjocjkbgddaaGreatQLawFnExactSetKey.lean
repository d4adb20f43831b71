/- The law FnExactSetKey: for every input it returns true, and its arguments read as before: the row out of the contract of the law's function. -/
import Derived.Test.YtpdcjocjkbgddaaGreatRows
import Derived.Test.YtpdcjocjkbgddaaGreatQe
import Derived.Test.YtpdcjocjkbgddaaGreatQb
import Derived.WalkKit
import Derived.ProofKit
import Derived.OpenShut
import Derived.ShutString
import Derived.ChangeOld
import Derived.Below
import Derived.SizedLaws
import Derived.Lib.SmallJoins
namespace Go.Proofs.YtpdcjocjkbgddaaGreat.fnExactSetKey
open Go.ChangeShapes Go.WideShapes Go.ChangeAt Go.RowKit
open Go.ChangeMaps (shut_string)
open Go.Proofs.YtpdcjocjkbgddaaGreat.Abs
set_option linter.unusedVariables false
theorem own : ownKnob Tryz.prog.godebug = none := by kernel_rfl
theorem laidOut : laidOutB Tryz.prog = true := by kernel_rfl
set_option maxRecDepth 100000 in
theorem lifted (os : Os) (started : os.Started) (H : Type) (enc : TypeId × Value → H) :
    ReturnsInHanded {} Tryz.checked os 6 .any (Rows.fnExactSetKeySpec.pre6 enc Tryz.prog Tryz.f6 Rows.fnExactSetKeyRow.domain false) (Rows.fnExactSetKeySpec.post enc Tryz.prog Tryz.f6 false true false false) := by
  refine returnsInHanded_of_change_sized (C := Tryz.checked) own started (by kernel_rfl) Tryz.func6
    (ChangeSpec.witness6 (enc := enc) (C := Tryz.checked) false ⟨#[], #[.agg #[.slice none 0 0, .int .i64 0, .int .i64 0, .int .i64 0, .bool false, .int .i64 0, .int .i64 0, .int .i64 0, .int .i64 0, .slice none 0 0], .int .i64 0, .int .i64 0, .int .i64 0], []⟩ 8 (by kernel_rfl) (by kernel_rfl) (by kernel_rfl) (by kernel_rfl)) ?_
  intro W base args ds gs before hval0 hW hcnd hsz0 _
  have hval : ∀ (j : Nat) t v, Tryz.f6.params[j]? = some t → args[j]? = some v → Value.okWide Tryz.prog W .any base t v := hval0
  have hW' := hW
  obtain ⟨p, q, hA0, hV, rfl, hfz, hnd⟩ := hW
  have hA : DataW.TrodAll enc Tryz.prog W 0 (fun _ => true) true Tryz.f6.params.toList args.toList ds p := hA0
  rw [Tryz.params6] at hA hval
  obtain ⟨v0, vs0, d0, ds0, p0, q0, hargs, rfl, rfl, h0, r0⟩ := trodAll_cons hA
  obtain ⟨v1, vs1, d1, ds1, p1, q1, rfl, rfl, rfl, h1, r1⟩ := trodAll_cons r0
  obtain ⟨v2, vs2, d2, ds2, p2, q2, rfl, rfl, rfl, h2, r2⟩ := trodAll_cons r1
  obtain ⟨v3, vs3, d3, ds3, p3, q3, rfl, rfl, rfl, h3, r3⟩ := trodAll_cons r2
  obtain ⟨rfl, rfl, rfl⟩ := trodAll_nil r3
  obtain rfl : args = #[v0, v1, v2, v3] := by cases args; simp_all
  obtain ⟨rfl, rfl⟩ := trodVars_none hV
  have k0_ := h0
  have lt0 : ∀ x ∈ p0, x.block < W.heap.size := by obtain ⟨m, hm⟩ := k0_; exact DataW.trod_lt m _ _ _ hm
  obtain ⟨cs0, rfl, hcs0⟩ := okWide_struct Tryz.underlying25 (hval 0 25 v0 rfl rfl)
  obtain ⟨fuel0, hf0⟩ := h0
  have hg0 : DataW.trod enc Tryz.prog W 0 (fun _ => true) true fuel0 25 cs0.toList = some (d0, p0) := hf0
  obtain ⟨x0, K0, o0⟩ := (opens_struct Tryz.underlying25 (by kernel_rfl) (opensFs_cons rfl (by kernel_rfl) (opens_slice Tryz.underlying22 (by kernel_rfl) (opens_u64 Tryz.underlying64)) (opensFs_cons rfl (by kernel_rfl) (opens_int Tryz.underlying3) (opensFs_cons rfl (by kernel_rfl) (opens_int Tryz.underlying3) (opensFs_cons rfl (by kernel_rfl) (opens_int Tryz.underlying3) (opensFs_cons rfl (by kernel_rfl) (opens_bool Tryz.underlying4) (opensFs_cons rfl (by kernel_rfl) (opens_int Tryz.underlying3) (opensFs_cons rfl (by kernel_rfl) (opens_int Tryz.underlying3) (opensFs_cons rfl (by kernel_rfl) (opens_int Tryz.underlying3) (opensFs_cons rfl (by kernel_rfl) (opens_int Tryz.underlying3) (opensFs_one rfl (by kernel_rfl) (opens_slice Tryz.underlying23 (by kernel_rfl) (opens_struct Tryz.underlying79 (by kernel_rfl) (opensFs_flat (opensFs_cons rfl (by kernel_rfl) (opens_int Tryz.underlying3) (opensFs_one rfl (by kernel_rfl) (opens_int Tryz.underlying3))))))))))))))))) H enc W _ fuel0 _ _ hg0
  obtain ⟨y0, hc0, hat0, hbg0⟩ := kdAr.to K0
  obtain rfl : cs0 = (Enc.e y0).toArray := by apply Array.ext'; rw [hc0]
  have k1_ := h1
  have lt1 : ∀ x ∈ p1, x.block < W.heap.size := by obtain ⟨m, hm⟩ := k1_; exact DataW.trod_lt m _ _ _ hm
  obtain ⟨a1, rfl, rfl, rfl, o1⟩ := open_int Tryz.underlying3 (hval 1 3 v1 rfl rfl) h1
  have k2_ := h2
  have lt2 : ∀ x ∈ p2, x.block < W.heap.size := by obtain ⟨m, hm⟩ := k2_; exact DataW.trod_lt m _ _ _ hm
  obtain ⟨a2, rfl, rfl, rfl, o2⟩ := open_int Tryz.underlying3 (hval 2 3 v2 rfl rfl) h2
  have k3_ := h3
  have lt3 : ∀ x ∈ p3, x.block < W.heap.size := by obtain ⟨m, hm⟩ := k3_; exact DataW.trod_lt m _ _ _ hm
  obtain ⟨a3, rfl, rfl, rfl, o3⟩ := open_int Tryz.underlying3 (hval 3 3 v3 rfl rfl) h3
  have hs : Abs.look t122 6 [.agg (Enc.e y0).toArray, .int .i64 a1, .int .i64 a2, .int .i64 a3] (memOf W) (fun v M => v = .bool true ∧ Mem.le (memOf W) M) := via (s := s6) rfl ⟨y0, x0, a1, a2, a3, rfl, hat0, bgAr_of hbg0 o0.1, fun M hM => ⟨rfl, hM⟩⟩
  obtain ⟨_, hcalls⟩ := a122 6 _ _ _ hs
  refine (hcalls W (fun b o e => e)).mono ?_
  rintro e W' ⟨v, M, rfl, ⟨rfl, hM⟩, hR⟩
  have bel : Below W.heap.size W W' := below_of hM hR
  exact ⟨_, rfl, _, _, _, [], _, [], hW', trodAll_mk1 (shut_bool Tryz.underlying4 _), (trodAll_cons_mk (Below.trod laidOut (by kernel_rfl) (of_decide_eq_true (by kernel_rfl)) k0_ bel lt0) (trodAll_cons_mk (Below.trod laidOut (by kernel_rfl) (of_decide_eq_true (by kernel_rfl)) k1_ bel lt1) (trodAll_cons_mk (Below.trod laidOut (by kernel_rfl) (of_decide_eq_true (by kernel_rfl)) k2_ bel lt2) (trodAll_cons_mk (Below.trod laidOut (by kernel_rfl) (of_decide_eq_true (by kernel_rfl)) k3_ bel lt3) trodAll_mk0)))), rfl, bel.frame _, fun h => by cases h⟩
theorem over : Rows.fnExactSetKeyRow.holds Tryz.pinned (OpenSpec.ofChange Rows.fnExactSetKeySpec) :=
  OpenClaim.holds_of_wide 6 Tryz.f6 rfl rfl rfl rfl rfl rfl rfl ⟨rfl, rfl, rfl, rfl, rfl⟩ rfl rfl rfl rfl rfl (by kernel_rfl) Tryz.func6 (by kernel_rfl)
    (of_decide_eq_true (by kernel_rfl)) (by unfold Func.isWrapper; first | (rw [if_pos (by decide +kernel)]; kernel_rfl) | (rw [if_neg (by decide +kernel)]; exact ⟨rfl, rfl⟩))
    (fun os started H enc _ => lifted os started H enc)
theorem proved : Rows.FnExactSetKeySaid := over
#print axioms proved
end Go.Proofs.YtpdcjocjkbgddaaGreat.fnExactSetKey
namespace Go.Proofs.YtpdcjocjkbgddaaGreat
/-- The row, under a short name, for the claim. -/
theorem fnExactSetKey_holds : Rows.FnExactSetKeySaid := fnExactSetKey.proved
end Go.Proofs.YtpdcjocjkbgddaaGreat
