/- Arenas: the numbers. -/
import Derived.Test.YtpdcjocjkbgddaaGreatRe
namespace Go.Proofs.YtpdcjocjkbgddaaGreat.Abs
open Go.RowKit
set_option linter.unusedVariables false
set_option linter.unusedSimpArgs false
set_option maxRecDepth 20000
def freeP (a : Ar) : Prop := if a.cyc then startA a (1 - a.to) ≤ a.old ∧ a.old ≤ endA a (1 - a.to) ∧ 0 ≤ a.cop ∧ a.cop ≤ a.old - startA a (1 - a.to) ∧ a.top + a.old - startA a (1 - a.to) - a.cop ≤ endA a a.to else a.scan = 0 ∧ a.old = 0 ∧ a.cop = 0
structure NumP (a : Ar) : Prop where
  sm : a.sm
  z0 : 1 ≤ a.ser
  z1 : a.ser ≤ 1000000000
  r : a.rs.length ≤ 24
  p0 : startA a a.to ≤ a.top
  p1 : a.top ≤ endA a a.to
  f : freeP a
open Classical in
noncomputable def numB (a : Ar) : Bool := decide (NumP a)
theorem numB_false {a : Ar} (h : ¬ NumP a) : numB a = false := by unfold numB; simp [h]
theorem numB_true {a : Ar} (h : NumP a) : numB a = true := by unfold numB; simp [h]
theorem start_b {a : Ar} {h : Int} (h0 : 0 ≤ h) (h1 : h ≤ 1) (k0 : 256 ≤ a.semi) (k1 : a.semi ≤ 4000) : 1 ≤ startA a h ∧ startA a h ≤ 4001 := by
  rw [startA_eq h0 h1]; split <;> omega
theorem end_b {a : Ar} {h : Int} (h0 : 0 ≤ h) (h1 : h ≤ 1) (k0 : 256 ≤ a.semi) (k1 : a.semi ≤ 4000) : 256 ≤ endA a h ∧ endA a h ≤ 2 * a.semi := by
  rw [endA_eq h0 h1]; split <;> omega
def s52 : Spec := fun args m Q => ∃ (s r : Sl) (a : Ar), args = [vA s r a] ∧ ArAt m s r a ∧ a.wf ∧ Q (.bool (numB a)) m
theorem f52 (t : Tab) (h44 : look t 44 = s44) (h73 : look t 73 = s73) (h90 : look t 90 = s90) : ∀ args m Q, s52 args m Q → FA Tryz.prog (look t) kp52 Tryz.f52 args m Q := by
  rintro args m Q ⟨s, r, a, rfl, hA, hw, hQ⟩
  show FA Tryz.prog (look t) kp52 Tryz.f52 [.agg #[.slice s.a s.n s.c, .int .i64 a.semi, .int .i64 a.to, .int .i64 a.top, .bool a.cyc, .int .i64 a.scan, .int .i64 a.old, .int .i64 a.cop, .int .i64 a.ser, .slice r.a r.n r.c]] m Q
  rw [e52]
  have hn := hA.n
  have hk := hA.k
  have hN := hw.n
  have hR := hw.r
  refine newA_intro fun g1 m2 hg1 e2 hb1 hle2 => ⟨_, cell_of hb1 1, via h44 ⟨_, _, _, rfl, _, rfl, ?_⟩⟩
  have no : ¬ NumP a → ret Q (.bool false) m2 := fun h => ret_intro hle2 (numB_false h ▸ hQ)
  by_cases c1 : 256 ≤ a.semi ∧ a.semi ≤ 4000
  case neg => rw [decide_eq_false c1, if_pos (by decide)]; exact no fun h => c1 ⟨h.sm.s0, h.sm.s1⟩
  rw [decide_eq_true c1, if_neg (by decide)]
  obtain ⟨c1, c1'⟩ := c1
  refine ⟨_, _, _, cell_of hb1 0, _, cell_of hb1 1, ?_⟩
  rw [w64 (x := 2 * a.semi) (by omega) (by omega)]
  by_cases c2 : (s.n : Int) = 2 * a.semi
  case neg => rw [if_pos (by simpa using c2)]; exact no fun h => c2 (by have := h.sm.l; omega)
  rw [if_neg (by simpa using c2)]
  refine ⟨_, cell_of hb1 2, via h44 ⟨_, _, _, rfl, _, rfl, ?_⟩⟩
  by_cases c3 : 0 ≤ a.to ∧ a.to ≤ 1
  case neg => rw [decide_eq_false c3, if_pos (by decide)]; exact no fun h => c3 ⟨h.sm.t0, h.sm.t1⟩
  rw [decide_eq_true c3, if_neg (by decide)]
  obtain ⟨c3, c3'⟩ := c3
  refine ⟨_, cell_of hb1 8, via h44 ⟨_, _, _, rfl, _, rfl, ?_⟩⟩
  by_cases c4 : 1 ≤ a.ser ∧ a.ser ≤ 1000000000
  case neg => rw [decide_eq_false c4, if_pos (by decide)]; exact no fun h => c4 ⟨h.z0, h.z1⟩
  rw [decide_eq_true c4, if_neg (by decide)]
  refine ⟨_, _, _, cell_of hb1 9, ?_⟩
  by_cases c5 : (r.n : Int) > 24
  case pos => rw [if_pos (by simpa using c5)]; exact no fun h => by have := h.r; omega
  rw [if_neg (by simpa using c5)]
  refine ⟨Mem.le m2, Mem.le_refl _, _, held (cell_of hb1 3), _, _, _, held (cell_of hb1 0), _, held (cell_of hb1 1), _, held (cell_of hb1 2), _, held (cell_of hb1 3), _, held (cell_of hb1 4), _, held (cell_of hb1 5), _, held (cell_of hb1 6), _, held (cell_of hb1 7), _, held (cell_of hb1 8), _, _, _, held (cell_of hb1 9), _, held (cell_of hb1 2), _, _, _, held (cell_of hb1 0), _, held (cell_of hb1 1), _, held (cell_of hb1 2), _, held (cell_of hb1 3), _, held (cell_of hb1 4), _, held (cell_of hb1 5), _, held (cell_of hb1 6), _, held (cell_of hb1 7), _, held (cell_of hb1 8), _, _, _, held (cell_of hb1 9), ?_⟩
  refine via h73 ⟨s, r, a, _, rfl, c3, c3', by omega, c1', _, rfl, Mem.le_refl _, via h90 ⟨s, r, a, rfl, c3, c3', by omega, c1', _, rfl, Mem.le_refl _, via h44 ⟨_, _, _, rfl, _, rfl, Mem.le_refl _, ?_⟩⟩⟩
  have sm : a.sm := ⟨c1, c1', c3, c3', by omega⟩
  by_cases c6 : startA a a.to ≤ a.top ∧ a.top ≤ endA a a.to
  case neg => rw [decide_eq_false c6, if_pos (by decide)]; exact no fun h => c6 ⟨h.p0, h.p1⟩
  rw [decide_eq_true c6, if_neg (by decide)]
  obtain ⟨c6, c6'⟩ := c6
  have yes : freeP a → NumP a := fun h => ⟨sm, c4.1, c4.2, by omega, c6, c6', h⟩
  refine ⟨_, cell_of hb1 4, ?_⟩
  have b1 := start_b (a := a) (h := a.to) c3 c3' c1 c1'
  have b2 := end_b (a := a) (h := a.to) c3 c3' c1 c1'
  have b3 := start_b (a := a) (h := 1 - a.to) (by omega) (by omega) c1 c1'
  have b4 := end_b (a := a) (h := 1 - a.to) (by omega) (by omega) c1 c1'
  cases hc : a.cyc with
  | false =>
    rw [if_pos (by decide)]
    have ef : freeP a = (a.scan = 0 ∧ a.old = 0 ∧ a.cop = 0) := by unfold freeP; rw [hc]; rfl
    refine ⟨_, cell_of hb1 5, ?_⟩
    by_cases d1 : a.scan = 0
    case neg => rw [if_neg (by simpa using d1)]; exact no fun h => d1 (ef ▸ h.f).1
    rw [if_pos (by simpa using d1)]
    refine ⟨_, cell_of hb1 6, ?_⟩
    by_cases d2 : a.old = 0
    case neg => rw [if_neg (by simpa using d2)]; exact no fun h => d2 (ef ▸ h.f).2.1
    rw [if_pos (by simpa using d2)]
    refine ⟨_, cell_of hb1 7, ?_⟩
    by_cases d3 : a.cop = 0
    case neg => rw [show (a.cop == 0) = false from by simpa using d3]; exact no fun h => d3 (ef ▸ h.f).2.2
    rw [show (a.cop == 0) = true from by simpa using d3]
    exact ret_intro hle2 (numB_true (yes (ef ▸ ⟨d1, d2, d3⟩)) ▸ hQ)
  | true =>
    rw [if_neg (by decide)]
    have ef : freeP a = (startA a (1 - a.to) ≤ a.old ∧ a.old ≤ endA a (1 - a.to) ∧ 0 ≤ a.cop ∧ a.cop ≤ a.old - startA a (1 - a.to) ∧ a.top + a.old - startA a (1 - a.to) - a.cop ≤ endA a a.to) := by unfold freeP; rw [hc]; rfl
    refine ⟨_, _, _, cell_of hb1 0, _, cell_of hb1 1, _, cell_of hb1 2, _, cell_of hb1 3, _, cell_of hb1 4, _, cell_of hb1 5, _, cell_of hb1 6, _, cell_of hb1 7, _, cell_of hb1 8, _, _, _, cell_of hb1 9, _, cell_of hb1 2, ?_⟩
    rw [w64 (x := 1 - a.to) (by omega) (by omega)]
    refine via h73 ⟨s, r, a, _, rfl, by omega, by omega, by omega, c1', _, rfl, _, cell_of hb1 6, _, cell_of hb1 2, _, cell_of hb1 1, ?_⟩
    have ee : (2 - a.to) * a.semi = endA a (1 - a.to) := by unfold endA; congr 1; omega
    rw [w64 (x := 2 - a.to) (by omega) (by omega), ee, w64 (x := endA a (1 - a.to)) (by omega) (by omega)]
    refine via h44 ⟨_, _, _, rfl, _, rfl, ?_⟩
    by_cases d1 : startA a (1 - a.to) ≤ a.old ∧ a.old ≤ endA a (1 - a.to)
    case neg => rw [decide_eq_false d1, if_pos (by decide)]; exact no fun h => d1 ⟨(ef ▸ h.f).1, (ef ▸ h.f).2.1⟩
    rw [decide_eq_true d1, if_neg (by decide)]
    refine ⟨_, cell_of hb1 7, _, cell_of hb1 6, ?_⟩
    rw [w64 (x := a.old - startA a (1 - a.to)) (by omega) (by omega)]
    refine via h44 ⟨_, _, _, rfl, _, rfl, ?_⟩
    by_cases d2 : 0 ≤ a.cop ∧ a.cop ≤ a.old - startA a (1 - a.to)
    case neg => rw [decide_eq_false d2, if_pos (by decide)]; exact no fun h => d2 ⟨(ef ▸ h.f).2.2.1, (ef ▸ h.f).2.2.2.1⟩
    rw [decide_eq_true d2, if_neg (by decide)]
    refine ⟨Mem.le m2, Mem.le_refl _, _, held (cell_of hb1 3), _, held (cell_of hb1 6), _, held (cell_of hb1 7), _, _, _, held (cell_of hb1 0), _, held (cell_of hb1 1), _, held (cell_of hb1 2), _, held (cell_of hb1 3), _, held (cell_of hb1 4), _, held (cell_of hb1 5), _, held (cell_of hb1 6), _, held (cell_of hb1 7), _, held (cell_of hb1 8), _, _, _, held (cell_of hb1 9), ?_⟩
    refine via h90 ⟨s, r, a, rfl, c3, c3', by omega, c1', _, rfl, Mem.le_refl _, ?_⟩
    rw [w64 (x := a.top + a.old) (by omega) (by omega), w64 (x := a.top + a.old - startA a (1 - a.to)) (by omega) (by omega), w64 (x := a.top + a.old - startA a (1 - a.to) - a.cop) (by omega) (by omega)]
    by_cases d3 : a.top + a.old - startA a (1 - a.to) - a.cop ≤ endA a a.to
    · rw [decide_eq_true d3]; exact ret_intro hle2 (numB_true (yes (ef ▸ ⟨d1.1, d1.2, d2.1, d2.2, d3⟩)) ▸ hQ)
    · rw [decide_eq_false d3]; exact no fun h => d3 (ef ▸ h.f).2.2.2.2
end Go.Proofs.YtpdcjocjkbgddaaGreat.Abs
