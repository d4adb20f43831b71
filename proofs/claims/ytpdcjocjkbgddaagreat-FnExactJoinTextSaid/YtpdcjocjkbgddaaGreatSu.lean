/- Arenas: what the laws want of them all. -/
import Derived.Test.YtpdcjocjkbgddaaGreatSb
import Derived.Test.YtpdcjocjkbgddaaGreatRx
import Derived.Test.YtpdcjocjkbgddaaGreatOl
namespace Go.Proofs.YtpdcjocjkbgddaaGreat.Abs
open Go.ChangeShapes Go.WideShapes Go.RowKit
set_option linter.unusedVariables false
set_option linter.unusedSimpArgs false
set_option maxRecDepth 20000
def dIs : Ds (List Int) := .rows Int
def dBs : Ds (List U8) := .rows U8
def atC (m : Mem) (h : ArH) (x : ArT) : Prop := dAr.At m h x ∧ h.1.n ≤ h.1.c
theorem own_atC {m : Mem} {h : ArH} {x : ArT} {D : List Nat} (o : dAr.Own m h x D) : atC m h x := by
  refine ⟨dAr.own_at o, ?_⟩
  obtain ⟨D1, D2, _, o1, _⟩ := o
  exact own_cap o1
theorem atC.ar {m : Mem} {h : ArH} {x : ArT} (a : atC m h x) : ArAt m h.1 h.2.2.2.2.2.2.2.2.2 (arOf x) ∧ vAr h = vA h.1 h.2.2.2.2.2.2.2.2.2 (arOf x) := by
  obtain ⟨⟨⟨n1, r1⟩, e1, e2, e3, e4, e5, e6, e7, e8, ⟨n2, r2⟩⟩, hc⟩ := a
  refine ⟨⟨Eq.symm n1, r1, Eq.symm n2, r2, hc⟩, ?_⟩
  obtain ⟨hw, h1, h2, h3, h4, h5, h6, h7, h8, hr⟩ := h
  obtain rfl : h1 = x.2.1 := e1
  obtain rfl : h2 = x.2.2.1 := e2
  obtain rfl : h3 = x.2.2.2.1 := e3
  obtain rfl : h4 = x.2.2.2.2.1 := e4
  obtain rfl : h5 = x.2.2.2.2.2.1 := e5
  obtain rfl : h6 = x.2.2.2.2.2.2.1 := e6
  obtain rfl : h7 = x.2.2.2.2.2.2.2.1 := e7
  obtain rfl : h8 = x.2.2.2.2.2.2.2.2.1 := e8
  rfl
theorem wf_of {x : ArT} (h1 : okAr x) (h2 : bgAr x) : (arOf x).wf := ⟨h2.2.2, h1.1, h1.2⟩
theorem opens_u64 {P : Program} {t : TypeId} (hu : P.underlying t = some (.int .u64)) : Opens P t (Kd.enc U64) (fun x => inW x.v) := by
  intro H enc w spare fuel cs x h
  obtain ⟨n, rfl, _, hw⟩ := DataW.trod_int hu h
  refine ⟨⟨n⟩, rfl, ?_⟩
  unfold Lit.wf at hw
  simp [IntKind.min, IntKind.max, IntKind.bits, IntKind.signed] at hw
  unfold inW
  show 0 ≤ n ∧ n < 18446744073709551616
  omega
theorem kdAr : KD (Kd.pair (Kd.slice (Kd.enc U64)) (Kd.pair (Kd.enc Int) (Kd.pair (Kd.enc Int) (Kd.pair (Kd.enc Int) (Kd.pair (Kd.enc Bool) (Kd.pair (Kd.enc Int) (Kd.pair (Kd.enc Int) (Kd.pair (Kd.enc Int) (Kd.pair (Kd.enc Int) (Kd.slice (Kd.enc Vl))))))))))) dAr (fun x => x.1.length ≤ 9223372036854775807 ∧ True ∧ True ∧ True ∧ True ∧ True ∧ True ∧ True ∧ True ∧ x.2.2.2.2.2.2.2.2.2.length ≤ 9223372036854775807) :=
  KD.pair (KD.rows U64) (KD.pair (KD.flat Int) (KD.pair (KD.flat Int) (KD.pair (KD.flat Int) (KD.pair (KD.flat Bool) (KD.pair (KD.flat Int) (KD.pair (KD.flat Int) (KD.pair (KD.flat Int) (KD.pair (KD.flat Int) (KD.rows Vl)))))))))
theorem bgAr_of {x : ArT} (h : x.1.length ≤ 9223372036854775807 ∧ True ∧ True ∧ True ∧ True ∧ True ∧ True ∧ True ∧ True ∧ x.2.2.2.2.2.2.2.2.2.length ≤ 9223372036854775807) (hw : ∀ w ∈ x.1, inW w.v) : bgAr x := ⟨h.1, h.2.2.2.2.2.2.2.2.2, hw⟩
end Go.Proofs.YtpdcjocjkbgddaaGreat.Abs
