/- Arenas: keys that are the same; the keys of a block. -/
import Derived.Test.YtjdcndicaeodbaaGreatRk
namespace Go.Proofs.YtjdcndicaeodbaaGreat.Abs
open Go.RowKit
set_option linter.unusedVariables false
set_option linter.unusedSimpArgs false
set_option maxRecDepth 20000
def sameT (ws : List U64) (p q : Int) : Bool := ByteArray.toList (textS ws p) == ByteArray.toList (textS ws q)
def sameA (ws : List U64) (v w : Vl) : Bool := if v.1 = w.1 then if isRefB v then if v.1 = 3 then sameT ws (whereW ws v.2) (whereW ws w.2) else whereW ws v.2 == whereW ws w.2 else v.2 == w.2 else false
def s222 : Spec := fun args m Q => ∃ (s r : Sl) (a : Ar) (v w : Vl), args = [vA s r a, vVl v, vVl w] ∧ ArAt m s r a ∧ a.wf ∧ KeyOk a v ∧ KeyOk a w ∧ Q (.bool (sameA a.ws v w)) m
theorem isRef_tag {v w : Vl} (h : v.1 = w.1) : isRefB v = isRefB w := by unfold isRefB; rw [h]
theorem f222 (t : Tab) (h146 : look t 146 = s146) (h123 : look t 123 = s123) (h120 : look t 120 = s120) : ∀ args m Q, s222 args m Q → FA Tryz.prog (look t) kp222 Tryz.f222 args m Q := by
  rintro args m Q ⟨s, r, a, v, w, rfl, hA, hw, hK, hK', hQ⟩
  show FA Tryz.prog (look t) kp222 Tryz.f222 [.agg #[.slice s.a s.n s.c, .int .i64 a.semi, .int .i64 a.to, .int .i64 a.top, .bool a.cyc, .int .i64 a.scan, .int .i64 a.old, .int .i64 a.cop, .int .i64 a.ser, .slice r.a r.n r.c], .agg #[.int .i64 v.1, .int .i64 v.2], .agg #[.int .i64 w.1, .int .i64 w.2]] m Q
  rw [e222]
  unfold sameA at hQ
  refine newA_intro fun g1 m2 hg1 e2 hb1 hle2 => newA_intro fun g3 m4 hg3 e4 hb3 hle4 => newA_intro fun g5 m6 hg5 e6 hb5 hle6 => ⟨_, cell_of (hle6 _ _ hb3) 0, _, cell_of hb5 0, ?_⟩
  have hb1 := hle6 _ _ (hle4 _ _ hb1)
  have hb3 := hle6 _ _ hb3
  have l6 := Mem.le_trans hle2 (Mem.le_trans hle4 hle6)
  have hA6 := hA.le l6
  by_cases c : v.1 = w.1
  case neg => rw [if_pos (by simpa using c)]; rw [if_neg c] at hQ; exact ret_intro l6 hQ
  rw [if_neg (by simpa using c)]
  rw [if_pos c] at hQ
  refine ⟨_, cell_of hb3 0, _, cell_of hb3 1, via h120 ⟨v, rfl, _, rfl, ?_⟩⟩
  cases hr : isRefB v with
  | false => rw [if_pos (by decide)]; rw [hr, if_neg (by decide)] at hQ; exact ⟨_, cell_of hb3 1, _, cell_of hb5 1, ret_intro l6 hQ⟩
  | true =>
    rw [if_neg (by decide)]
    rw [hr, if_pos rfl] at hQ
    have hr' : isRefB w = true := by rw [← isRef_tag c]; exact hr
    obtain ⟨w0, w1, w2, w3⟩ := hK.r hr
    obtain ⟨x0, x1, x2, x3⟩ := hK'.r hr'
    have hp := ref_pos hK.ok hr
    have hp' := ref_pos hK'.ok hr'
    refine ⟨Mem.le m6, Mem.le_refl _, _, _, _, held (cell_of hb1 0), _, held (cell_of hb1 1), _, held (cell_of hb1 2), _, held (cell_of hb1 3), _, held (cell_of hb1 4), _, held (cell_of hb1 5), _, held (cell_of hb1 6), _, held (cell_of hb1 7), _, held (cell_of hb1 8), _, _, _, held (cell_of hb1 9), _, held (cell_of hb3 1), _, _, _, held (cell_of hb1 0), _, held (cell_of hb1 1), _, held (cell_of hb1 2), _, held (cell_of hb1 3), _, held (cell_of hb1 4), _, held (cell_of hb1 5), _, held (cell_of hb1 6), _, held (cell_of hb1 7), _, held (cell_of hb1 8), _, _, _, held (cell_of hb1 9), _, held (cell_of hb5 1), via h123 ⟨s, r, a, _, rfl, ⟨hA6, hw, by omega, w0⟩, _, rfl, Mem.le_refl _, via h123 ⟨s, r, a, _, rfl, ⟨hA6, hw, by omega, x0⟩, _, rfl, Mem.le_refl _, _, cell_of hb3 0, ?_⟩⟩⟩
    by_cases c3 : v.1 = 3
    · rw [if_pos (by simpa using c3)]; rw [if_pos c3] at hQ
      exact ⟨Mem.le m6, Mem.le_refl _, _, _, _, held (cell_of hb1 0), _, held (cell_of hb1 1), _, held (cell_of hb1 2), _, held (cell_of hb1 3), _, held (cell_of hb1 4), _, held (cell_of hb1 5), _, held (cell_of hb1 6), _, held (cell_of hb1 7), _, held (cell_of hb1 8), _, _, _, held (cell_of hb1 9), _, _, _, held (cell_of hb1 0), _, held (cell_of hb1 1), _, held (cell_of hb1 2), _, held (cell_of hb1 3), _, held (cell_of hb1 4), _, held (cell_of hb1 5), _, held (cell_of hb1 6), _, held (cell_of hb1 7), _, held (cell_of hb1 8), _, _, _, held (cell_of hb1 9), via h146 ⟨s, r, a, _, rfl, hA6, hw, hK.s c3, _, rfl, Mem.le_refl _, via h146 ⟨s, r, a, _, rfl, hA6, hw, hK'.s (c ▸ c3), _, rfl, Mem.le_refl _, ret_intro l6 hQ⟩⟩⟩
    · rw [if_neg (by simpa using c3)]; rw [if_neg c3] at hQ
      exact ret_intro l6 hQ
def s261 : Spec := fun args m Q => ∃ (g : Nat) (s r : Sl) (a : Ar) (v w : Vl), args = [.pointer (some ⟨g, 0, none⟩), vVl v, vVl w] ∧ Ptr m g s r a ∧ ArAt m s r a ∧ a.sm ∧ a.wf ∧ KeyOk a v ∧ KeyOk a w ∧ Q (.bool (sameA a.ws v w)) m
theorem f261 (t : Tab) (h151 : look t 151 = s151) (h127 : look t 127 = s127) (h126 : look t 126 = s126) : ∀ args m Q, s261 args m Q → FA Tryz.prog (look t) kp261 Tryz.f261 args m Q := by
  rintro args m Q ⟨g, s, r, a, v, w, rfl, hP, hA, hsm, hw, hK, hK', hQ⟩
  show FA Tryz.prog (look t) kp261 Tryz.f261 [.pointer (some ⟨g, 0, none⟩), .agg #[.int .i64 v.1, .int .i64 v.2], .agg #[.int .i64 w.1, .int .i64 w.2]] m Q
  rw [e261]
  unfold sameA at hQ
  refine newA_intro fun g1 m2 hg1 e2 hb1 hle2 => newA_intro fun g3 m4 hg3 e4 hb3 hle4 => ⟨_, cell_of (hle4 _ _ hb1) 0, _, cell_of hb3 0, ?_⟩
  have hb1 := hle4 _ _ hb1
  have l4 := Mem.le_trans hle2 hle4
  have hA4 := hA.le l4
  have hP4 : Ptr m4 g s r a := l4 _ _ hP
  by_cases c : v.1 = w.1
  case neg => rw [if_pos (by simpa using c)]; rw [if_neg c] at hQ; exact ret_intro l4 hQ
  rw [if_neg (by simpa using c)]
  rw [if_pos c] at hQ
  refine ⟨_, cell_of hb1 0, _, cell_of hb1 1, via h126 ⟨v, rfl, _, rfl, ?_⟩⟩
  cases hr : isRefB v with
  | false => rw [if_pos (by decide)]; rw [hr, if_neg (by decide)] at hQ; exact ⟨_, cell_of hb1 1, _, cell_of hb3 1, ret_intro l4 hQ⟩
  | true =>
    rw [if_neg (by decide)]
    rw [hr, if_pos rfl] at hQ
    have hr' : isRefB w = true := by rw [← isRef_tag c]; exact hr
    obtain ⟨w0, w1, w2, w3⟩ := hK.r hr
    obtain ⟨x0, x1, x2, x3⟩ := hK'.r hr'
    refine ⟨Mem.le m4, Mem.le_refl _, _, held (cell_of hb1 0), _, held (cell_of hb1 1), _, held (cell_of hb3 0), _, held (cell_of hb3 1), via h127 ⟨g, s, r, a, v, rfl, hP4, hA4, hsm, hw, _, rfl, Mem.le_refl _, via h127 ⟨g, s, r, a, w, rfl, hP4, hA4, hsm, hw, _, rfl, Mem.le_refl _, ?_⟩⟩⟩
    rw [w3, x3]
    by_cases ce : whereW a.ws v.2 = whereW a.ws w.2
    · rw [if_pos (by simpa using ce)]
      rw [ce] at hQ
      have : (if v.1 = 3 then sameT a.ws (whereW a.ws w.2) (whereW a.ws w.2) else whereW a.ws w.2 == whereW a.ws w.2) = true := by split <;> simp [sameT]
      rw [this] at hQ
      exact ret_intro l4 hQ
    · rw [if_neg (by simpa using ce)]
      refine ⟨_, cell_of hb1 0, ?_⟩
      by_cases c3 : v.1 = 3
      · rw [if_pos (by simpa using c3)]; rw [if_pos c3] at hQ
        exact via h151 ⟨g, s, r, a, _, rfl, hP4, hA4, hw, hK.s c3, _, rfl, via h151 ⟨g, s, r, a, _, rfl, hP4, hA4, hw, hK'.s (c ▸ c3), _, rfl, ret_intro l4 hQ⟩⟩
      · rw [if_neg (by simpa using c3)]; rw [if_neg c3, show (whereW a.ws v.2 == whereW a.ws w.2) = false from by simpa using ce] at hQ
        exact ret_intro l4 hQ
def s163 : Spec := fun args m Q => ∃ (s r : Sl) (a : Ar) (b i : Int), args = [vA s r a, .int .i64 b, .int .i64 i] ∧ ArAt m s r a ∧ a.wf ∧ 0 ≤ b ∧ 0 ≤ i ∧ b + 1 + 4 * i + 1 < a.ws.length ∧ Q (vVl (readV a.ws (b + 1 + 4 * i)).1) m
theorem f163 (t : Tab) (h122 : look t 122 = s122) : ∀ args m Q, s163 args m Q → FA Tryz.prog (look t) kp163 Tryz.f163 args m Q := by
  rintro args m Q ⟨s, r, a, b, i, rfl, hA, hw, b0, i0, bi, hQ⟩
  show FA Tryz.prog (look t) kp163 Tryz.f163 [.agg #[.slice s.a s.n s.c, .int .i64 a.semi, .int .i64 a.to, .int .i64 a.top, .bool a.cyc, .int .i64 a.scan, .int .i64 a.old, .int .i64 a.cop, .int .i64 a.ser, .slice r.a r.n r.c], .int .i64 b, .int .i64 i] m Q
  rw [e163]
  have hn := hA.n
  have hN := hw.n
  rw [w64 (x := b + 1) (by omega) (by omega), w64 (x := 4 * i) (by omega) (by omega), w64 (x := b + 1 + 4 * i) (by omega) (by omega)]
  refine newA_intro fun g1 m2 hg1 e2 hb1 hle2 => newA_intro fun g3 m4 hg3 e4 hb3 hle4 => ⟨_, _, _, cell_of (hle4 _ _ hb1) 0, via h122 ⟨s, a.ws, _, rfl, hn, hA.w.le (Mem.le_trans hle2 hle4), hw.w, hN, by omega, by omega, _, _, _, rfl, newA_intro fun g14 m15 hg14 e15 hb14 hle15 => ?_⟩⟩
  refine sto (c := #[.int .i64 0, .int .i64 0]) (t := 52) hb14 rfl (by simp) fun m16 e16 h16 hne16 => ?_
  have h16 : m16 g14 = some (.cells #[.int .i64 (readV a.ws (b + 1 + 4 * i)).1.1, .int .i64 (readV a.ws (b + 1 + 4 * i)).1.2] 52 (0, 0)) := h16
  have n1 : g3 ≠ g14 := ne_of_none hg14 hb3
  have b1 : m16 g3 = some (.cells #[.int .i64 0, .int .i64 0] 52 (0, 0)) := by rw [hne16 _ n1]; exact hle15 _ _ hb3
  refine ⟨_, cell_of h16 0, _, cell_of h16 1, sto (c := #[.int .i64 0, .int .i64 0]) (t := 52) b1 rfl (by simp) fun m21 e21 h21 hne21 => ?_⟩
  have h21 : m21 g3 = some (.cells #[.int .i64 (readV a.ws (b + 1 + 4 * i)).1.1, .int .i64 (readV a.ws (b + 1 + 4 * i)).1.2] 52 (0, 0)) := h21
  have l4 : Mem.le m2 m16 := le_other (Mem.le_trans hle4 hle15) (le_none hle4 hg14) hne16
  exact ⟨_, cell_of h21 0, _, cell_of h21 1, ret_intro (Mem.le_trans hle2 (le_other l4 hg3 hne21)) hQ⟩
end Go.Proofs.YtjdcndicaeodbaaGreat.Abs
