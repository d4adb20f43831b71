/- Modules: when a module is right; the reference's function that says so. -/
import Derived.Test.YtcbjdodehjpddaaNe
namespace Go.Proofs.Ytcbjdodehjpddaa.Abs
open Go.RowKit
set_option linter.unusedVariables false
set_option linter.unusedSimpArgs false
set_option maxRecDepth 20000

def hdB (p : Pr) : Bool := rng p.2.1 0 20 && (rng p.1 0 p.2.1 && (decide (p.2.2.1.length ≤ 12) && (rng p.2.2.2.length 1 4000 && decide ((p.2.2.2.getD (p.2.2.2.length - 1) (0, 0)).1 = 24))))
def codeB (M : Mo) (p : Pr) : Bool := p.2.2.2.all (insB M p)
def okB (M : Mo) : Bool := rng M.1.length 1 100 && (decide (M.2.length ≤ 255) && (decide ((M.1.getD 0 (0, 0, [], [])).1 = 0) && (decide ((M.1.getD 0 (0, 0, [], [])).2.2.1.length = 0) && (M.2.all (fun t => decide (t.size ≤ 160)) && (M.1.all hdB && M.1.all (codeB M))))))
def s71 : Spec := fun args m Q => ∃ (h : Sl × Sl) (M : Mo), args = [vM h] ∧ dMo.At m h M ∧ okM M ∧ (∀ p ∈ M.2, ByteArray.size p ≤ 9223372036854775807) ∧ Q (.bool (okB M)) m
def s76 : Spec := s71
theorem all_take_succ {α : Type} (l : List α) (f : α → Bool) (i : Nat) (h : i < l.length) : (l.take (i + 1)).all f = ((l.take i).all f && f l[i]) := by
  rw [List.take_succ_eq_append_getElem h, List.all_append]
  simp
theorem all_false_of {α : Type} {l : List α} {f : α → Bool} {i : Nat} (h : i < l.length) (hf : f l[i] = false) : l.all f = false := by
  rw [List.all_eq_false]
  exact ⟨l[i], List.getElem_mem h, by simp [hf]⟩
end Go.Proofs.Ytcbjdodehjpddaa.Abs
