/- Arenas: what the laws want of ways. -/
import Derived.Test.YtjdcndicaeodbaaSq
import Derived.Test.YtjdcndicaeodbaaSc
namespace Go.Proofs.Ytjdcndicaeodbaa.Abs
open Go.ChangeShapes Go.WideShapes Go.RowKit
set_option linter.unusedVariables false
set_option linter.unusedSimpArgs false
set_option maxRecDepth 20000
noncomputable def wayM (x : ArT) (ser : Int) : List Int := (wayR (arOf x) ser).1
theorem wayM_ok {x : ArT} {ser : Int} (h : okAr x) (hb : ∀ w ∈ x.1, inW w.v) : okR (wayM x ser) := by
  unfold wayM wayR okR
  split
  case isFalse => exact Nat.zero_le _
  case isTrue hk =>
    obtain ⟨⟨mk, hk⟩, _⟩ := hk
    have hw : (arOf x).wf := ⟨hb, h.1, h.2⟩
    obtain ⟨seen, hI⟩ := BI.reach hw hk (allR_in (arOf x))
    have hl := hI.len
    have hx : (arOf x).ws.length ≤ 2 ^ 20 := h.1
    cases e : (reachL (arOf x) (allR (arOf x))).find? (serIs (arOf x).ws ser) with
    | none => exact Nat.zero_le _
    | some y =>
      obtain ⟨i, hi, e2⟩ := List.mem_iff_getElem.1 (List.mem_of_find?_eq_some e)
      have := way_len hI.wy i y (by rw [List.getElem?_eq_getElem hi, e2])
      show y.way.length ≤ 2 ^ 20
      have hi2 : i < (reachL (arOf x) (allR (arOf x))).length := hi
      have hl2 : (reachL (arOf x) (allR (arOf x))).length ≤ (arOf x).ws.length := hl
      omega
def s21' : Spec := fun args m Q => ∃ (h : dAr.H) (x : ArT) (ser : Int), args = [vAr h, .int .i64 ser] ∧ atC m h x ∧ okAr x ∧ bgAr x ∧ ∀ (h' : dIs.H) (D : List Nat) (m' : Mem), Mem.le m m' → (∀ b ∈ D, m b = none) → D.Nodup → dIs.Own m' h' (wayM x ser) D → Q (.tuple #[vs h', .bool (wayR (arOf x) ser).2]) m'
theorem to21 {args : List Value} {m : Mem} {Q : Value → Mem → Prop} (h : s21' args m Q) : s21 args m Q := by
  obtain ⟨h, x, ser, rfl, hA, hok, hbg, hQ⟩ := h
  obtain ⟨a, e⟩ := hA.ar
  exact ⟨_, _, arOf x, ser, by rw [e], a, wf_of hok hbg, fun s' M D hle hO hD => hQ s' D M hle hD (own_nd hO) hO⟩
def s22' : Spec := s21'
theorem to22 {args : List Value} {m : Mem} {Q : Value → Mem → Prop} (h : s22' args m Q) : s22 args m Q := to21 h
end Go.Proofs.Ytjdcndicaeodbaa.Abs
