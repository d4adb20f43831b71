/- Arenas: texts and coroutines. -/
import Derived.Test.YtpdcjocjkbgddaaGreatRg
namespace Go.Proofs.YtpdcjocjkbgddaaGreat.Abs
open Go.RowKit
set_option linter.unusedVariables false
set_option linter.unusedSimpArgs false
set_option maxRecDepth 20000
theorem wrap_cases {x : Int} (h : inW x) : (x ≤ 9223372036854775807 ∧ IntKind.i64.wrap x = x) ∨ (IntKind.i64.wrap x < 0 ∧ 9223372036854775807 < x) := by
  obtain ⟨h0, h1⟩ := h
  by_cases c : x ≤ 9223372036854775807
  · exact .inl ⟨c, w64 (by omega) c⟩
  · refine .inr ⟨?_, by omega⟩
    have e : IntKind.i64.wrap x = x - 18446744073709551616 := by
      unfold IntKind.wrap
      simp [IntKind.bits, IntKind.signed]
      omega
    omega
def topB (n : Int) : Int := ((2 ^ (8 * (n % 8)).toNat : Nat) : Int)
def strP (ws : List U64) (p sz : Int) : Prop := gw ws (p + 1) ≤ 160 ∧ sz = 1 + (gw ws (p + 1) + 7) / 8 ∧ (gw ws (p + 1) % 8 = 0 ∨ gw ws (p + sz) / topB (gw ws (p + 1)) = 0)
instance (ws : List U64) (p sz : Int) : Decidable (strP ws p sz) := by unfold strP; infer_instance
theorem shr8 {n w : Int} (h0 : 0 ≤ n) (h1 : n ≤ 160) : Int.fdiv w (2 ^ min (Int.toNat (8 * (n % 8))) (IntKind.bits .u64)) = w / topB n := by
  have := fdiv_shr w (8 * (n % 8)).toNat (by omega)
  rwa [show (((8 * (n % 8)).toNat : Nat) : Int) = 8 * (n % 8) by omega] at this
def s95 : Spec := fun args m Q => ∃ (s r : Sl) (a : Ar) (p sz : Int), args = [vA s r a, .int .i64 p, .int .i64 sz] ∧ ArAt m s r a ∧ a.wf ∧ 0 ≤ p ∧ 1 ≤ sz ∧ sz ≤ 65535 ∧ p + sz < a.ws.length ∧ Q (.bool (decide (strP a.ws p sz))) m
theorem f95 (t : Tab) (h71 : look t 71 = s71) (h44 : look t 44 = s44) : ∀ args m Q, s95 args m Q → FA Tryz.prog (look t) kp95 Tryz.f95 args m Q := by
  rintro args m Q ⟨s, r, a, p, sz, rfl, hA, hw, p0, z0, z1, pz, hQ⟩
  show FA Tryz.prog (look t) kp95 Tryz.f95 [.agg #[.slice s.a s.n s.c, .int .i64 a.semi, .int .i64 a.to, .int .i64 a.top, .bool a.cyc, .int .i64 a.scan, .int .i64 a.old, .int .i64 a.cop, .int .i64 a.ser, .slice r.a r.n r.c], .int .i64 p, .int .i64 sz] m Q
  rw [e95]
  have hn := hA.n
  have hN := hw.n
  refine newA_intro fun g1 m2 hg1 e2 hb1 hle2 => ⟨_, _, _, cell_of hb1 0, _, cell_of hb1 1, _, cell_of hb1 2, _, cell_of hb1 3, _, cell_of hb1 4, _, cell_of hb1 5, _, cell_of hb1 6, _, cell_of hb1 7, _, cell_of hb1 8, _, _, _, cell_of hb1 9, via h71 ⟨s, r, a, p, 1, rfl, hA.le hle2, hw, p0, by decide, by omega, _, rfl, via h44 ⟨_, _, _, rfl, _, rfl, ?_⟩⟩⟩
  have no : ¬ strP a.ws p sz → ret Q (.bool false) m2 := fun h => ret_intro hle2 (by rw [decide_eq_false h] at hQ; exact hQ)
  have yes : strP a.ws p sz → ret Q (.bool true) m2 := fun h => ret_intro hle2 (by rw [decide_eq_true h] at hQ; exact hQ)
  have hx := gw_in hw.w (p + 1)
  have hx0 := hx.1
  unfold wordW
  rcases wrap_cases hx with ⟨q1, q2⟩ | ⟨q1, q2⟩
  case inr => rw [decide_eq_false (by omega), if_pos (by decide)]; exact no fun h => by have := h.1; omega
  rw [q2]
  unfold strP at no yes
  generalize gw a.ws (p + 1) = x at *
  by_cases c1 : 0 ≤ x ∧ x ≤ 160
  case neg => rw [decide_eq_false c1, if_pos (by decide)]; exact no fun h => by have := h.1; omega
  rw [decide_eq_true c1, if_neg (by decide)]
  refine ⟨by decide, ?_⟩
  rw [w64 (x := x + 7) (by omega) (by omega), Int.tdiv_eq_ediv_of_nonneg (by omega), w64 (x := (x + 7) / 8) (by omega) (by omega), w64 (x := 1 + (x + 7) / 8) (by omega) (by omega)]
  by_cases c2 : sz = 1 + (x + 7) / 8
  case neg => rw [if_pos (by simpa using c2)]; exact no fun h => c2 h.2.1
  rw [if_neg (by simpa using c2)]
  refine ⟨by decide, ?_⟩
  rw [Int.tmod_eq_emod_of_nonneg (by omega)]
  by_cases c3 : x % 8 = 0
  case pos => rw [if_pos (by simpa using c3)]; exact yes ⟨c1.2, c2, .inl c3⟩
  rw [if_neg (by simpa using c3)]
  refine ⟨_, _, _, cell_of hb1 0, ?_⟩
  rw [w64 (x := p + sz) (by omega) (by omega), w64 (x := 8 * (x % 8)) (by omega) (by omega), u64w (x := 8 * (x % 8)) (by omega) (by omega)]
  refine wd (hA.w.le hle2) hn (by omega) (by omega) fun ad had hd => ⟨_, hd _ (Mem.le_refl _), by omega, ?_⟩
  rw [shr8 c1.1 c1.2]
  by_cases c4 : gw a.ws (p + sz) / topB x = 0
  · rw [show (gw a.ws (p + sz) / topB x == 0) = true from by simpa using c4]; exact yes ⟨c1.2, c2, .inr c4⟩
  · rw [show (gw a.ws (p + sz) / topB x == 0) = false from by simpa using c4]; exact no fun h => h.2.2.elim c3 c4
def s133 : Spec := fun args m Q => ∃ (gs g : Nat) (s r is : Sl) (ms mb : Option Nat) (a : Ar) (mk : List Int) (p sz : Int), args = [.pointer (some ⟨gs, 0, none⟩), .int .i64 p, .int .i64 sz] ∧ Svy m gs g s r is ms mb a mk ∧ a.wf ∧ 0 ≤ p ∧ 1 ≤ sz ∧ sz ≤ 65535 ∧ p + sz < a.ws.length ∧ Q (.bool (decide (strP a.ws p sz))) m
theorem f133 (t : Tab) : ∀ args m Q, s133 args m Q → FA Tryz.prog (look t) kp133 Tryz.f133 args m Q := by
  rintro args m Q ⟨gs, g, s, r, is, ms, mb, a, mk, p, sz, rfl, hS, hw, p0, z0, z1, pz, hQ⟩
  rw [e133]
  have hn := hS.a.n
  have hN := hw.n
  have no : ¬ strP a.ws p sz → ret Q (.bool false) m := fun h => ret_intro (Mem.le_refl _) (by rw [decide_eq_false h] at hQ; exact hQ)
  have yes : strP a.ws p sz → ret Q (.bool true) m := fun h => ret_intro (Mem.le_refl _) (by rw [decide_eq_true h] at hQ; exact hQ)
  have hx := gw_in hw.w (p + 1)
  have hx0 := hx.1
  rw [w64 (x := p + 1) (by omega) (by omega), w64 (x := p + sz) (by omega) (by omega)]
  refine ⟨_, cell_of hS.b 0, po ⟨_, _, _, cell_of hS.p 0, wd hS.a.w hn (by omega) (by omega) fun ad had hd => ⟨_, hd _ (Mem.le_refl _), ?_⟩⟩⟩
  unfold strP at no yes
  generalize gw a.ws (p + 1) = x at *
  by_cases c1 : x > 160
  case pos => rw [if_pos (by simpa using c1)]; exact no fun h => by have := h.1; omega
  rw [if_neg (by simpa using c1)]
  refine ⟨by decide, ?_⟩
  rw [w64 (x := x) (by omega) (by omega), w64 (x := x + 7) (by omega) (by omega), Int.tdiv_eq_ediv_of_nonneg (by omega), w64 (x := (x + 7) / 8) (by omega) (by omega), w64 (x := 1 + (x + 7) / 8) (by omega) (by omega)]
  by_cases c2 : sz = 1 + (x + 7) / 8
  case neg => rw [if_pos (by simp; omega)]; exact no fun h => c2 h.2.1
  rw [if_neg (by simp; omega)]
  refine ⟨by decide, ?_⟩
  rw [Int.tmod_eq_emod_of_nonneg (by omega)]
  by_cases c3 : x % 8 = 0
  case pos => rw [if_pos (by simpa using c3)]; exact yes ⟨by omega, c2, .inl c3⟩
  rw [if_neg (by simpa using c3)]
  rw [w64 (x := 8 * (x % 8)) (by omega) (by omega)]
  refine ⟨_, cell_of hS.b 0, po ⟨_, _, _, cell_of hS.p 0, wd hS.a.w hn (by omega) (by omega) fun ad had hd => ⟨_, hd _ (Mem.le_refl _), by omega, ?_⟩⟩⟩
  rw [shr8 (by omega) (by omega)]
  by_cases c4 : gw a.ws (p + sz) / topB x = 0
  · rw [show (gw a.ws (p + sz) / topB x == 0) = true from by simpa using c4]; exact yes ⟨by omega, c2, .inr c4⟩
  · rw [show (gw a.ws (p + sz) / topB x == 0) = false from by simpa using c4]; exact no fun h => h.2.2.elim c3 c4
def coP (ws : List U64) (p : Int) : Prop := gw ws (p + 1) ≤ 4 ∧ gw ws (p + 2) ≤ 60 ∧ gw ws (p + 3) ≤ gw ws (p + 2) ∧ gw ws (p + 4) ≤ 4095 ∧ (gw ws (p + 5) = 0 ∨ gw ws (p + 5) = 6) ∧ ∀ i : Nat, i < 60 → gw ws (p + 2) ≤ i → gw ws (p + 7 + 2 * (i : Int)) = 0
open Classical in
noncomputable def coB (ws : List U64) (p : Int) : Bool := decide (coP ws p)
theorem coB_no {ws : List U64} {p : Int} (h : ¬ coP ws p) : coB ws p = false := by unfold coB; simp [h]
theorem coB_yes {ws : List U64} {p : Int} (h : coP ws p) : coB ws p = true := by unfold coB; simp [h]
theorem valOk_w {ws : List U64} {i : Int} (hw : ∀ x ∈ ws, inW x.v) (h : valOkB (valW ws i) = true) : (valW ws i).1 = gw ws i ∧ gw ws i ≤ 9 := by
  have a := valOk_tag h
  have b := wrap_big (gw_in hw i) a
  have c := gw_in hw i
  refine ⟨?_, b⟩
  unfold valW
  exact w64 (by have := c.1; omega) (by omega)
def s96 : Spec := fun args m Q => ∃ (s r : Sl) (a : Ar) (p : Int), args = [vA s r a, .int .i64 p] ∧ ArAt m s r a ∧ a.wf ∧ 0 ≤ p ∧ p + 126 < a.ws.length ∧ valOkB (valW a.ws (p + 5)) = true ∧ Q (.bool (coB a.ws p)) m
theorem loopC (t : Tab) {Q : Value → Mem → Prop} {s r : Sl} {a : Ar} {p : Int} {g : Nat} {m : Mem} (hw : a.wf) (p0 : 0 ≤ p) (pz : p + 126 < a.ws.length) (no : ∀ M, Mem.le m M → ¬ coP a.ws p → ret Q (.bool false) M) (yes : ∀ M, Mem.le m M → coP a.ws p → ret Q (.bool true) M)
    (hc : (∀ i : Nat, i < 60 → gw a.ws (p + 2) ≤ i → gw a.ws (p + 7 + 2 * (i : Int)) = 0) → coP a.ws p) : ∀ (d i : Nat), i + d = 60 → (∀ j : Nat, j < i → gw a.ws (p + 2) ≤ j → gw a.ws (p + 7 + 2 * (j : Int)) = 0) → gw a.ws (p + 2) ≤ i → ∀ M : Mem, Mem.le m M → Ptr M g s r a → ArAt M s r a → L96_8 (look t) (d + 1) Q p g (i : Int) M := by
  intro d
  induction d with
  | zero =>
    intro i hi hz _ M hle hP hA
    rw [l96_8]
    refine ⟨M, Mem.le_refl _, ?_⟩
    rw [if_neg (by simp; omega)]
    exact yes M hle (hc fun j hj => hz j (by omega))
  | succ d ih =>
    intro i hi hz ht M hle hP hA
    have hN := hw.n
    have hn := hA.n
    rw [l96_8]
    refine ⟨M, Mem.le_refl _, ?_⟩
    rw [if_pos (by simp; omega)]
    refine ⟨_, _, _, cell_of hP 0, ?_⟩
    rw [w64 (x := p + 7) (by omega) (by omega), w64 (x := 2 * (i : Int)) (by omega) (by omega), w64 (x := p + 7 + 2 * (i : Int)) (by omega) (by omega), wsucc (n := 60) (by omega) (by decide)]
    refine wd hA.w hn (by omega) (by omega) fun ad had hd => ⟨_, hd _ (Mem.le_refl _), ?_⟩
    by_cases c : gw a.ws (p + 7 + 2 * (i : Int)) = 0
    · rw [if_neg (by simpa using c)]
      refine ih (i + 1) (by omega) (fun j hj h2 => ?_) (by omega) M hle hP hA
      by_cases e : j = i
      · rw [e]; exact c
      · exact hz j (by omega) h2
    · rw [if_pos (by simpa using c)]
      exact no M hle fun h => c (h.2.2.2.2.2 i (by omega) ht)
theorem f96 (t : Tab) (h71 : look t 71 = s71) (h44 : look t 44 = s44) (h94 : look t 94 = s94) : ∀ args m Q, s96 args m Q → FA Tryz.prog (look t) kp96 Tryz.f96 args m Q := by
  rintro args m Q ⟨s, r, a, p, rfl, hA, hw, p0, pz, hv, hQ⟩
  show FA Tryz.prog (look t) kp96 Tryz.f96 [.agg #[.slice s.a s.n s.c, .int .i64 a.semi, .int .i64 a.to, .int .i64 a.top, .bool a.cyc, .int .i64 a.scan, .int .i64 a.old, .int .i64 a.cop, .int .i64 a.ser, .slice r.a r.n r.c], .int .i64 p] m Q
  rw [e96]
  have hn := hA.n
  have hN := hw.n
  refine newA_intro fun g1 m2 hg1 e2 hb1 hle2 => ?_
  have hA2 := hA.le hle2
  refine ⟨Mem.le m2, Mem.le_refl _, _, _, _, held (cell_of hb1 0), _, held (cell_of hb1 1), _, held (cell_of hb1 2), _, held (cell_of hb1 3), _, held (cell_of hb1 4), _, held (cell_of hb1 5), _, held (cell_of hb1 6), _, held (cell_of hb1 7), _, held (cell_of hb1 8), _, _, _, held (cell_of hb1 9), _, _, _, held (cell_of hb1 0), _, held (cell_of hb1 1), _, held (cell_of hb1 2), _, held (cell_of hb1 3), _, held (cell_of hb1 4), _, held (cell_of hb1 5), _, held (cell_of hb1 6), _, held (cell_of hb1 7), _, held (cell_of hb1 8), _, _, _, held (cell_of hb1 9), _, _, _, held (cell_of hb1 0), _, held (cell_of hb1 1), _, held (cell_of hb1 2), _, held (cell_of hb1 3), _, held (cell_of hb1 4), _, held (cell_of hb1 5), _, held (cell_of hb1 6), _, held (cell_of hb1 7), _, held (cell_of hb1 8), _, _, _, held (cell_of hb1 9), _, _, _, held (cell_of hb1 0), _, held (cell_of hb1 1), _, held (cell_of hb1 2), _, held (cell_of hb1 3), _, held (cell_of hb1 4), _, held (cell_of hb1 5), _, held (cell_of hb1 6), _, held (cell_of hb1 7), _, held (cell_of hb1 8), _, _, _, held (cell_of hb1 9), via h71 ⟨s, r, a, p, 1, rfl, hA2, hw, p0, by decide, by omega, _, rfl, Mem.le_refl _, via h71 ⟨s, r, a, p, 2, rfl, hA2, hw, p0, by decide, by omega, _, rfl, Mem.le_refl _, via h71 ⟨s, r, a, p, 3, rfl, hA2, hw, p0, by decide, by omega, _, rfl, Mem.le_refl _, via h71 ⟨s, r, a, p, 4, rfl, hA2, hw, p0, by decide, by omega, _, rfl, Mem.le_refl _, via h44 ⟨_, _, _, rfl, _, rfl, ?_⟩⟩⟩⟩⟩⟩
  have no : ∀ M, Mem.le m2 M → ¬ coP a.ws p → ret Q (.bool false) M := fun M hM h => ret_intro (Mem.le_trans hle2 hM) (coB_no h ▸ hQ)
  have yes : ∀ M, Mem.le m2 M → coP a.ws p → ret Q (.bool true) M := fun M hM h => ret_intro (Mem.le_trans hle2 hM) (coB_yes h ▸ hQ)
  have l0 := Mem.le_refl m2
  obtain ⟨v1, v2⟩ := valOk_w hw.w hv
  have x1 := wrap_cases (gw_in hw.w (p + 1))
  have x2 := wrap_cases (gw_in hw.w (p + 2))
  have x3 := wrap_cases (gw_in hw.w (p + 3))
  have x4 := wrap_cases (gw_in hw.w (p + 4))
  have y1 := (gw_in hw.w (p + 1)).1
  have y2 := (gw_in hw.w (p + 2)).1
  have y3 := (gw_in hw.w (p + 3)).1
  have y4 := (gw_in hw.w (p + 4)).1
  unfold wordW
  by_cases c1 : 0 ≤ IntKind.i64.wrap (gw a.ws (p + 1)) ∧ IntKind.i64.wrap (gw a.ws (p + 1)) ≤ 4
  case neg => rw [decide_eq_false c1, if_pos (by decide)]; exact no _ l0 fun h => by have := h.1; omega
  rw [decide_eq_true c1, if_neg (by decide)]
  refine via h44 ⟨_, _, _, rfl, _, rfl, ?_⟩
  by_cases c2 : 0 ≤ IntKind.i64.wrap (gw a.ws (p + 2)) ∧ IntKind.i64.wrap (gw a.ws (p + 2)) ≤ 60
  case neg => rw [decide_eq_false c2, if_pos (by decide)]; exact no _ l0 fun h => by have := h.2.1; omega
  rw [decide_eq_true c2, if_neg (by decide)]
  refine via h44 ⟨_, _, _, rfl, _, rfl, ?_⟩
  by_cases c3 : 0 ≤ IntKind.i64.wrap (gw a.ws (p + 3)) ∧ IntKind.i64.wrap (gw a.ws (p + 3)) ≤ IntKind.i64.wrap (gw a.ws (p + 2))
  case neg => rw [decide_eq_false c3, if_pos (by decide)]; exact no _ l0 fun h => by have := h.2.2.1; have := h.2.1; omega
  rw [decide_eq_true c3, if_neg (by decide)]
  refine via h44 ⟨_, _, _, rfl, _, rfl, ?_⟩
  by_cases c4 : 0 ≤ IntKind.i64.wrap (gw a.ws (p + 4)) ∧ IntKind.i64.wrap (gw a.ws (p + 4)) ≤ 4095
  case neg => rw [decide_eq_false c4, if_pos (by decide)]; exact no _ l0 fun h => by have := h.2.2.2.1; omega
  rw [decide_eq_true c4, if_neg (by decide)]
  refine ⟨_, _, _, cell_of hb1 0, ?_⟩
  rw [w64 (x := p + 5) (by omega) (by omega)]
  refine via h94 ⟨s, a.ws, _, rfl, hn, hA2.w, hw.w, hN, by omega, by omega, _, _, _, rfl, newA_intro fun g3 m4 hg3 e4 hb3 hle4 => ?_⟩
  have er : readV a.ws (p + 5) = (valW a.ws (p + 5), true) := by unfold readV; rw [hv]; rfl
  rw [er]
  refine sto (c := #[.int .i64 0, .int .i64 0]) (t := 58) hb3 rfl (by simp) fun m5 e5 h5 hne5 => ?_
  have h5 : m5 g3 = some (.cells #[.int .i64 (valW a.ws (p + 5)).1, .int .i64 (valW a.ws (p + 5)).2] 58 (0, 0)) := h5
  have l5 : Mem.le m2 m5 := le_other hle4 hg3 hne5
  have hz : (∀ i : Nat, i < 60 → gw a.ws (p + 2) ≤ i → gw a.ws (p + 7 + 2 * (i : Int)) = 0) → (gw a.ws (p + 5) = 0 ∨ gw a.ws (p + 5) = 6) → coP a.ws p := fun h h' => ⟨by omega, by omega, by omega, by omega, h', h⟩
  have hT : IntKind.i64.wrap (gw a.ws (p + 2)) = ((gw a.ws (p + 2)).toNat : Int) := by omega
  have fin : (gw a.ws (p + 5) = 0 ∨ gw a.ws (p + 5) = 6) → L96_8 (look t) (60 - (gw a.ws (p + 2)).toNat + 1) Q p g1 (IntKind.i64.wrap (gw a.ws (p + 2))) m5 := by
    intro h
    rw [hT]
    exact loopC t (s := s) (r := r) hw p0 pz no yes (fun hh => hz hh h) _ _ (by omega) (fun j hj hj2 => by omega) (by omega) m5 l5 (l5 _ _ hb1) (hA2.le l5)
  refine ⟨_, cell_of h5 0, ?_⟩
  rw [v1]
  by_cases c5 : gw a.ws (p + 5) = 0
  · rw [if_neg (by simpa using c5)]
    exact ⟨_, fin (.inl c5)⟩
  · rw [if_pos (by simpa using c5)]
    refine ⟨_, cell_of h5 0, ?_⟩
    rw [v1]
    by_cases c6 : gw a.ws (p + 5) = 6
    · rw [if_neg (by simpa using c6)]
      exact ⟨_, fin (.inr c6)⟩
    · rw [if_pos (by simpa using c6)]
      exact no _ l5 fun h => h.2.2.2.2.1.elim c5 c6
theorem gw_cut (ws : List U64) (k n : Nat) (j : Int) (h0 : 0 ≤ j) (hj : j < n) : gw ((ws.drop k).take n) j = gw ws (k + j) := by
  unfold gw
  rw [List.getD_eq_getElem?_getD, List.getD_eq_getElem?_getD, List.getElem?_take, if_pos (by omega), List.getElem?_drop]
  congr 2
  congr 1
  omega
theorem slots6 : slotsL 6 126 = everyK 5 61 := by decide
theorem everyK_get {f : Int} {n i : Nat} (h : i < n) : gi (everyK f n) (i : Int) = f + 2 * (i : Int) := by
  unfold gi everyK
  rw [List.getD_eq_getElem?_getD, Int.toNat_natCast, List.getElem?_map, List.getElem?_range h]
  rfl
def s134 : Spec := fun args m Q => ∃ (gs g : Nat) (s r is : Sl) (ms mb : Option Nat) (a : Ar) (mk : List Int) (p : Int), args = [.pointer (some ⟨gs, 0, none⟩), .int .i64 p, .int .i64 126] ∧ Svy m gs g s r is ms mb a mk ∧ a.wf ∧ 0 ≤ p ∧ p + 126 < a.ws.length ∧ (∀ i : Nat, i < 61 → valOkB (valW a.ws (p + (5 + 2 * (i : Int)))) = true) ∧ Q (.bool (coB a.ws p)) m
theorem loopD (t : Tab) (h125 : look t 125 = s125) {Q : Value → Mem → Prop} {s r is : Sl} {ms mb : Option Nat} {a : Ar} {mk : List Int} {p : Int} {gs g : Nat} {m : Mem} {ad : Option Addr} {c c2 : Nat} {sl : Option Addr} (hw : a.wf) (p0 : 0 ≤ p) (pz : p + 126 < a.ws.length)
    (hv : ∀ i : Nat, i < 61 → valOkB (valW a.ws (p + (5 + 2 * (i : Int)))) = true) (h60 : gw a.ws (p + 2) ≤ 60)
    (no : ∀ M, Mem.le m M → ¬ coP a.ws p → ret Q (.bool false) M) (yes : ∀ M, Mem.le m M → coP a.ws p → ret Q (.bool true) M)
    (hc : (gw a.ws (p + 5) = 0 ∨ gw a.ws (p + 5) = 6) → (∀ i : Nat, i < 60 → gw a.ws (p + 2) ≤ i → gw a.ws (p + 7 + 2 * (i : Int)) = 0) → coP a.ws p) :
    ∀ (d i : Nat), i + d = 61 → (∀ j : Nat, j < 60 → j + 1 < i → gw a.ws (p + 2) ≤ j → gw a.ws (p + 7 + 2 * (j : Int)) = 0) → (0 < i → gw a.ws (p + 5) = 0 ∨ gw a.ws (p + 5) = 6) → ∀ M : Mem, Mem.le m M → Svy M gs g s r is ms mb a mk → Rd M ad ((a.ws.drop (p + 1).toNat).take 4) → Rd M sl (everyK 5 61) →
      L134_5 (look t) (d + 1) Q gs p ad 4 c sl 61 c2 61 (i : Int) M := by
  intro d
  induction d with
  | zero =>
    intro i hi hz h5 M hle hS hR hL
    rw [l134_5]
    refine ⟨M, Mem.le_refl _, ?_⟩
    rw [if_neg (by simp; omega)]
    exact yes M hle (hc (h5 (by omega)) fun j hj => hz j hj (by omega))
  | succ d ih =>
    intro i hi hz h5 M hle hS hR hL
    have hN := hw.n
    have hn := hS.a.n
    have y2 := gw_in hw.w (p + 2)
    have hvi := hv i (by omega)
    obtain ⟨v1, v2⟩ := valOk_w hw.w hvi
    rw [l134_5]
    refine ⟨M, Mem.le_refl _, ?_⟩
    rw [if_pos (by simp; omega)]
    refine ri hL (n := 61) (everyK_len _ _) (by omega) (by omega) fun ad1 had1 hd1 => ⟨_, hd1 _ (Mem.le_refl _), ?_⟩
    rw [everyK_get (by omega)]
    refine ⟨_, cell_of hS.b 0, ?_⟩
    rw [w64 (x := p + (5 + 2 * (i : Int))) (by omega) (by omega), wsucc (n := 61) (by omega) (by decide)]
    refine via h125 ⟨g, s, r, a, _, rfl, ⟨hS.p, hS.a, hw, by omega, by omega⟩, by omega, _, _, rfl, ?_⟩
    rw [v1]
    have next : (gw a.ws (p + 5) = 0 ∨ gw a.ws (p + 5) = 6) → (0 < i → gw a.ws (p + 2) ≤ ((i - 1 : Nat) : Int) → gw a.ws (p + (5 + 2 * (i : Int))) = 0) → L134_5 (look t) (d + 1) Q gs p ad 4 c sl 61 c2 61 ((i + 1 : Nat) : Int) M := by
      intro k1 k2
      refine ih (i + 1) (by omega) (fun j hj h1 h2 => ?_) (fun _ => k1) M hle hS hR hL
      by_cases e : j + 1 = i
      · have := k2 (by omega) (by rw [show i - 1 = j by omega]; exact h2)
        rwa [show p + (5 + 2 * (i : Int)) = p + 7 + 2 * (j : Int) by omega] at this
      · exact hz j hj (by omega) h2
    have topv : gw ((a.ws.drop (p + 1).toNat).take 4) 1 = gw a.ws (p + 2) := by
      rw [gw_cut _ _ _ _ (by decide) (by decide)]
      congr 1
      omega
    have wt : IntKind.i64.wrap (gw a.ws (p + 2)) = gw a.ws (p + 2) := w64 (by have := y2.1; omega) (by omega)
    have l4 : ((a.ws.drop (p + 1).toNat).take 4).length = 4 := by simp; omega
    have rest : (gw a.ws (p + 5) = 0 ∨ gw a.ws (p + 5) = 6) → optA ad fun d43 => (0 ≤ (1 : Int) ∧ (1 : Int) < ((4 : Nat) : Int) ∧ (∃ y44 : Int, (Mem.cell? M (d43.add (Int.toNat (1 : Int) * 1)) = some (.int .u64 y44) ∧ if decide ((i : Int) > IntKind.i64.wrap y44) = true then (if (gw a.ws (p + (5 + 2 * (i : Int))) != (0 : Int)) = true then ret Q (.bool false) M else L134_5 (look t) (d + 1) Q gs p ad 4 c sl 61 c2 61 ((i + 1 : Nat) : Int) M) else L134_5 (look t) (d + 1) Q gs p ad 4 c sl 61 c2 61 ((i + 1 : Nat) : Int) M))) := by
      intro k1
      refine wd hR l4 (by decide) (by decide) fun ad2 had2 hd2 => ⟨_, hd2 _ (Mem.le_refl _), ?_⟩
      rw [topv, wt]
      by_cases q : (i : Int) > gw a.ws (p + 2)
      · rw [if_pos (by simpa using q)]
        by_cases z : gw a.ws (p + (5 + 2 * (i : Int))) = 0
        · rw [if_neg (by simpa using z)]
          exact next k1 fun _ _ => z
        · rw [if_pos (by simpa using z)]
          have y0 := y2.1
          refine no M hle fun h => z ?_
          have := h.2.2.2.2.2 (i - 1) (by omega) (by omega)
          rwa [show p + 7 + 2 * ((i - 1 : Nat) : Int) = p + (5 + 2 * (i : Int)) by omega] at this
      · rw [if_neg (by simpa using q)]
        exact next k1 fun h1 h2 => by omega
    by_cases hi0 : i = 0
    · subst hi0
      rw [if_pos (by decide)]
      have e5 : gw a.ws (p + (5 + 2 * ((0 : Nat) : Int))) = gw a.ws (p + 5) := rfl
      rw [e5] at rest ⊢
      by_cases c5 : gw a.ws (p + 5) = 0
      · rw [if_neg (by simpa using c5)]
        exact rest (.inl c5)
      · rw [if_pos (by simpa using c5)]
        by_cases c6 : gw a.ws (p + 5) = 6
        · rw [if_neg (by simpa using c6)]
          exact rest (.inr c6)
        · rw [if_pos (by simpa using c6)]
          exact no _ hle fun h => h.2.2.2.2.1.elim c5 c6
    · rw [if_neg (by simpa using hi0)]
      exact rest (h5 (by omega))
theorem f134 (t : Tab) (h125 : look t 125 = s125) (h131 : look t 131 = s131) : ∀ args m Q, s134 args m Q → FA Tryz.prog (look t) kp134 Tryz.f134 args m Q := by
  rintro args m Q ⟨gs, g, s, r, is, ms, mb, a, mk, p, rfl, hS, hw, p0, pz, hv, hQ⟩
  rw [e134]
  have hn := hS.a.n
  have hc := hS.a.c
  have hN := hw.n
  have y1 := (gw_in hw.w (p + 1)).1
  have y2 := (gw_in hw.w (p + 2)).1
  rw [w64 (x := p + 5) (by omega) (by omega), w64 (x := p + 1) (by omega) (by omega)]
  refine ⟨_, cell_of hS.b 0, po ⟨_, _, _, cell_of hS.p 0, by omega, by omega, by omega, by omega, Mem.le m, Mem.le_refl _, ?_⟩⟩
  have n4 : (p + 5).toNat - (p + 1).toNat = 4 := by omega
  rw [if_neg (by omega), n4]
  have hR : Rd m (Option.map (·.add ((p + 1).toNat * 1)) s.a) ((a.ws.drop (p + 1).toNat).take 4) := ((hS.a.w.drop (p + 1).toNat).take 4)
  have l4 : ((a.ws.drop (p + 1).toNat).take 4).length = 4 := by simp; omega
  have no : ∀ M, Mem.le m M → ¬ coP a.ws p → ret Q (.bool false) M := fun M hM h => ret_intro hM (coB_no h ▸ hQ)
  have yes : ∀ M, Mem.le m M → coP a.ws p → ret Q (.bool true) M := fun M hM h => ret_intro hM (coB_yes h ▸ hQ)
  have l0 := Mem.le_refl m
  have cut : ∀ j : Int, 0 ≤ j → j < 4 → gw ((a.ws.drop (p + 1).toNat).take 4) j = gw a.ws (p + 1 + j) := by
    intro j j0 j4
    rw [gw_cut _ _ _ _ j0 (by omega)]
    congr 1
    omega
  have g0 := cut 0 (by decide) (by decide)
  have g1 := cut 1 (by decide) (by decide)
  have g2 := cut 2 (by decide) (by decide)
  have g3 := cut 3 (by decide) (by decide)
  rw [show p + 1 + 0 = p + 1 by omega] at g0
  rw [show p + 1 + 1 = p + 2 by omega] at g1
  rw [show p + 1 + 2 = p + 3 by omega] at g2
  rw [show p + 1 + 3 = p + 4 by omega] at g3
  refine wd hR l4 (by decide) (by decide) fun ad0 _ hd0 => ⟨_, hd0, ?_⟩
  rw [g0]
  by_cases c1 : gw a.ws (p + 1) > 4
  case pos => rw [if_pos (by simpa using c1)]; exact no _ l0 fun h => by have := h.1; omega
  rw [if_neg (by simpa using c1)]
  refine wd hR l4 (by decide) (by decide) fun ad1 _ hd1 => ⟨_, hd1, ?_⟩
  rw [g1]
  by_cases c2 : gw a.ws (p + 2) > 60
  case pos => rw [if_pos (by simpa using c2)]; exact no _ l0 fun h => by have := h.2.1; omega
  rw [if_neg (by simpa using c2)]
  refine wd hR l4 (by decide) (by decide) fun ad2 _ hd2 => ⟨_, hd2, wd hR l4 (by decide) (by decide) fun ad3 _ hd3 => ⟨_, hd3, ?_⟩⟩
  rw [g1, g2]
  by_cases c3 : gw a.ws (p + 3) > gw a.ws (p + 2)
  case pos => rw [if_pos (by simpa using c3)]; exact no _ l0 fun h => by have := h.2.2.1; omega
  rw [if_neg (by simpa using c3)]
  refine wd hR l4 (by decide) (by decide) fun ad4 _ hd4 => ⟨_, hd4, ?_⟩
  rw [g3]
  by_cases c4 : gw a.ws (p + 4) > 4095
  case pos => rw [if_pos (by simpa using c4)]; exact no _ l0 fun h => by have := h.2.2.2.1; omega
  rw [if_neg (by simpa using c4)]
  refine via h131 ⟨6, 126, rfl, by decide, by decide, by decide, fun s' M D hle hO hD => ?_⟩
  rw [slots6] at hO
  have e61 : s'.n = 61 := by rw [hO.1, everyK_len]
  refine ⟨_, _, _, rfl, 62, ?_⟩
  have hL := hO.rd
  obtain ⟨sa, sn, sc⟩ := s'
  have e61 : sn = 61 := e61
  subst e61
  exact loopD t h125 hw p0 pz hv (by omega) no yes (fun h h' => ⟨by omega, by omega, by omega, by omega, h, h'⟩) 61 0 rfl (fun j hj h1 => by omega) (fun h => by omega) M hle (hS.le hle) (hR.le hle) hL
end Go.Proofs.YtpdcjocjkbgddaaGreat.Abs
