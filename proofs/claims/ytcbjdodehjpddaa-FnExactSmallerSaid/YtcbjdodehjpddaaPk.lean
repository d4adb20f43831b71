/- Modules: an argument's reading as data. No condition. -/
import Derived.Test.YtcbjdodehjpddaaOl
import Derived.Test.YtcbjdodehjpddaaPi
namespace Go.Proofs.Ytcbjdodehjpddaa.Abs
open Go.RowKit
set_option linter.unusedVariables false
theorem kdMo : KD (Kd.pair (Kd.slice (Kd.pair (Kd.enc Int) (Kd.pair (Kd.enc Int) (Kd.pair (Kd.slice (Kd.enc Up)) (Kd.slice (Kd.enc Ins)))))) (Kd.slice (Kd.enc ByteArray))) dMo (fun x => (x.1.length ≤ 9223372036854775807 ∧ ∀ p ∈ x.1, True ∧ True ∧ p.2.2.1.length ≤ 9223372036854775807 ∧ p.2.2.2.length ≤ 9223372036854775807) ∧ x.2.length ≤ 9223372036854775807) :=
  KD.pair (KD.list (KD.pair (KD.flat Int) (KD.pair (KD.flat Int) (KD.pair (KD.rows Up) (KD.rows Ins))))) (KD.rows ByteArray)
theorem bgM_of {x : Mo} (h : (x.1.length ≤ 9223372036854775807 ∧ ∀ p ∈ x.1, True ∧ True ∧ p.2.2.1.length ≤ 9223372036854775807 ∧ p.2.2.2.length ≤ 9223372036854775807) ∧ x.2.length ≤ 9223372036854775807) (ht : ∀ t ∈ x.2, ByteArray.size t ≤ 9223372036854775807) : bgM x :=
  ⟨⟨h.1.1, fun p hp => (h.1.2 p hp).2.2⟩, h.2, ht⟩
end Go.Proofs.Ytcbjdodehjpddaa.Abs
