/- JoinText: what the laws want. -/
import Derived.Test.YtpdcjocjkbgddaaGreatXa
import Derived.Test.YtpdcjocjkbgddaaGreatUn
namespace Go.Proofs.YtpdcjocjkbgddaaGreat.Abs
open Go.ChangeShapes Go.WideShapes Go.RowKit
set_option linter.unusedVariables false
set_option linter.unusedSimpArgs false
set_option maxRecDepth 20000
noncomputable def jtM (x : ArT) (r s i : Int) : ArT := toT (jtA (arOf x) r s i).1
noncomputable def jtC (x : ArT) (r s i : Int) : Int := (jtA (arOf x) r s i).2
theorem jtM_ok {x : ArT} {r s i : Int} (h : okAr x) (hb : ∀ w ∈ x.1, inW w.v) : okAr (jtM x r s i) := by
  refine okAr_of h ?_
  unfold jtA
  split
  · exact ptA_len ⟨hb, h.1, h.2⟩
  · exact ⟨rfl, rfl⟩
def s14' : Spec := fun args m Q => ∃ (h : dAr.H) (x : ArT) (r s i : Int), args = [vAr h, .int .i64 r, .int .i64 s, .int .i64 i] ∧ atC m h x ∧ okAr x ∧ bgAr x ∧ ∀ (h' : dAr.H) (D : List Nat) (m' : Mem), Mem.le m m' → (∀ b ∈ D, m b = none) → D.Nodup → dAr.Own m' h' (jtM x r s i) D → Q (.tuple #[vAr h', .int .i64 (jtC x r s i)]) m'
theorem to14 {args : List Value} {m : Mem} {Q : Value → Mem → Prop} (h : s14' args m Q) : s14 args m Q := by
  obtain ⟨h, x, r, s, i, rfl, hq⟩ := h
  obtain ⟨e, a, w, k⟩ := makA.nc (q := fun x => jtA (arOf x) r s i) hq
  exact ⟨_, _, arOf x, r, s, i, by rw [e], a, w, k⟩
def s15' : Spec := s14'
theorem to15 {args : List Value} {m : Mem} {Q : Value → Mem → Prop} (h : s15' args m Q) : s15 args m Q := to14 h
end Go.Proofs.YtpdcjocjkbgddaaGreat.Abs
