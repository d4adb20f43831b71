/- Texts that are joined. -/
import Derived.Test.YtpdcjocjkbgddaaGreatVa
import Derived.Test.YtpdcjocjkbgddaaGreatEqJ
namespace Go.Proofs.YtpdcjocjkbgddaaGreat.Abs
open Go.RowKit
set_option linter.unusedVariables false
set_option linter.unusedSimpArgs false
set_option maxRecDepth 20000
/-- A Root that is a text leads to one. -/
theorem root_text {a : Ar} (hw : a.wf) (h : okP a) {v : Vl} (hv : v ∈ a.rs) (h3 : v.1 = 3) : TextAt a v.2 := by
  obtain ⟨mk, h⟩ := h
  have hT := tile_ok hw h.N h.t
  obtain ⟨h1, h2, hl⟩ := h.r v hv
  have hr : isRefB v = true := by unfold isRefB kindT; rw [h3]; rfl
  have p := ref_pos h1 hr
  obtain ⟨l1, l2⟩ := frm_1 hl hr
  have g1 : gi mk v.2 = 1 := by
    rcases l2 with l | l
    · exact l.1
    · exact absurd rfl l.2
  obtain ⟨_, _, lk⟩ := leads_ok hl hr
  have := ok_fwd (gw_in hw.w v.2) (hT.h v.2 (by omega) l1 (.inl g1)).1
  have ew : whereW a.ws v.2 = v.2 := by unfold whereW; rw [this]; rfl
  rw [ew] at lk
  exact text_at hw hT h.o (by omega) l1 (.inl g1) (by rw [lk]; unfold kindT; rw [h3]; rfl)
def isT (a : Ar) (x : Int) : Prop := (0 ≤ x ∧ x < a.rs.length) ∧ (a.rs.getD x.toNat (0, 0)).1 = 3
def txA (a : Ar) (x : Int) : ByteArray := textS a.ws (a.rs.getD x.toNat (0, 0)).2
theorem isT.text {a : Ar} {x : Int} (h : isT a x) (hw : a.wf) (hk : okP a) : TextAt a (a.rs.getD x.toNat (0, 0)).2 := by
  refine root_text hw hk ?_ h.2
  have := h.1
  rw [List.getD_eq_getElem?_getD, List.getElem?_eq_getElem (by omega)]
  exact List.getElem_mem _
theorem isT.len {a : Ar} {x : Int} (h : isT a x) (hw : a.wf) (hk : okP a) : (txA a x).size ≤ 160 := by
  have := text_len (h.text hw hk)
  show (textL a.ws _).toArray.size ≤ 160
  simpa using this
def s41 : Spec := fun args m Q => ∃ (s r : Sl) (a : Ar) (x : Int), args = [vA s r a, .int .i64 x] ∧ ArAt m s r a ∧ a.wf ∧ Q (.bool (pB (isT a x))) m
theorem f41 (t : Tab) (h26 : look t 26 = s26) : ∀ args m Q, s41 args m Q → FA Tryz.prog (look t) kp41 Tryz.f41 args m Q := by
  rintro args m Q ⟨s, r, a, x, rfl, hA, hw, hQ⟩
  show FA Tryz.prog (look t) kp41 Tryz.f41 [.agg #[.slice s.a s.n s.c, .int .i64 a.semi, .int .i64 a.to, .int .i64 a.top, .bool a.cyc, .int .i64 a.scan, .int .i64 a.old, .int .i64 a.cop, .int .i64 a.ser, .slice r.a r.n r.c], .int .i64 x] m Q
  rw [e41]
  refine newA_intro fun g1 m2 hg1 e2 hb1 hle2 => ?_
  have p1 : Ptr m2 g1 s r a := hb1
  have hA2 := hA.le hle2
  refine ⟨_, _, _, cell_of p1 0, _, cell_of p1 1, _, cell_of p1 2, _, cell_of p1 3, _, cell_of p1 4, _, cell_of p1 5, _, cell_of p1 6, _, cell_of p1 7, _, cell_of p1 8, _, _, _, cell_of p1 9, via h26 ⟨s, r, a, x, rfl, hA2, hw, _, rfl, ?_⟩⟩
  by_cases hx : 0 ≤ x ∧ x < a.rs.length
  · rw [decide_eq_true hx, if_pos rfl]
    have hk := hA2.k
    refine ⟨_, _, _, cell_of p1 9, rget hA2.r hk hx.1 (by omega) fun ad had c1 c2 => ⟨_, c1, ret_bool hle2 hQ ?_⟩⟩
    by_cases h3 : (a.rs.getD x.toNat (0, 0)).1 = 3
    · rw [pB_yes ⟨hx, h3⟩, h3]; rfl
    · rw [pB_no fun h => h3 h.2]
      simpa using h3
  · rw [decide_eq_false hx, if_neg (by decide)]
    exact ret_bool hle2 hQ (pB_no fun h => hx h.1).symm
open Classical in
noncomputable def txB (a : Ar) (x : Int) : Value := if isT a x then .tuple #[.string (txA a x), .bool true] else .tuple #[.string ⟨#[]⟩, .bool false]
def s43 : Spec := fun args m Q => ∃ (g : Nat) (s r : Sl) (a : Ar) (x : Int), args = [.pointer (some ⟨g, 0, none⟩), .int .i64 x] ∧ Ptr m g s r a ∧ ArAt m s r a ∧ a.wf ∧ okP a ∧ Q (txB a x) m
theorem f43 (t : Tab) (h33 : look t 33 = s33) (h72 : look t 72 = s72) : ∀ args m Q, s43 args m Q → FA Tryz.prog (look t) kp43 Tryz.f43 args m Q := by
  rintro args m Q ⟨g, s, r, a, x, rfl, hP, hA, hw, hk, hQ⟩
  rw [e43]
  refine newA_intro fun g1 m2 hg1 e2 hb1 hle2 => ?_
  have p1 : Ptr m2 g s r a := hle2 _ _ hP
  have hA2 := hA.le hle2
  refine via h33 ⟨g, s, r, ⟨some ⟨g1, 0, none⟩, 1, 1⟩, a, [x], rfl, p1, hA2, hw, rfl, Rd.of_block (spare := []) hb1 rfl, by show 1 ≤ 2 ^ 20; decide, _, rfl, ?_⟩
  by_cases hx : 0 ≤ x ∧ x < a.rs.length
  case neg =>
    rw [decide_eq_false (show ¬ ∀ y ∈ [x], 0 ≤ y ∧ y < (a.rs.length : Int) from fun h => hx (h x (by simp))), if_pos (by decide)]
    have e : txB a x = .tuple #[.string ⟨#[]⟩, .bool false] := if_neg fun h => hx h.1
    rw [e] at hQ
    exact ret_intro hle2 hQ
  rw [decide_eq_true (show ∀ y ∈ [x], 0 ≤ y ∧ y < (a.rs.length : Int) from fun y hy => by simp at hy; rw [hy]; exact hx), if_neg (by decide)]
  have hkk := hA2.k
  refine ⟨_, _, _, cell_of p1 9, rget hA2.r hkk hx.1 (by omega) fun ad had c1 c2 => ⟨_, c1, ?_⟩⟩
  by_cases h3 : (a.rs.getD x.toNat (0, 0)).1 = 3
  · rw [if_neg (by rw [h3]; decide)]
    have hT : isT a x := ⟨hx, h3⟩
    have e : txB a x = .tuple #[.string (txA a x), .bool true] := if_pos hT
    rw [e] at hQ
    refine ⟨_, _, _, cell_of p1 9, rget hA2.r hkk hx.1 (by omega) fun ad had c1 c2 => ⟨_, c2, ?_⟩⟩
    refine via h72 ⟨g, s, r, a, _, rfl, p1, hA2, hw, hT.text hw hk, _, rfl, ?_⟩
    exact ret_intro hle2 hQ
  · rw [if_pos (by simpa using h3)]
    have e : txB a x = .tuple #[.string ⟨#[]⟩, .bool false] := if_neg fun h => h3 h.2
    rw [e] at hQ
    exact ret_intro hle2 hQ
open Classical in
noncomputable def jtA (a : Ar) (x y i : Int) : Ar × Int := if okP a ∧ isT a x ∧ isT a y ∧ 0 ≤ i ∧ i < a.rs.length then ptA a (txA a x ++ txA a y) i else (a, 1)
def s14 : Spec := fun args m Q => ∃ (s r : Sl) (a : Ar) (x y i : Int), args = [vA s r a, .int .i64 x, .int .i64 y, .int .i64 i] ∧ ArAt m s r a ∧ a.wf ∧ ncK m (jtA a x y i) Q
theorem f14 (t : Tab) (h27 : look t 27 = s27) (h25 : look t 25 = s25) (h26 : look t 26 = s26) (h41 : look t 41 = s41) (h42 : look t 42 = s42) (h8 : look t 8 = s8) : ∀ args m Q, s14 args m Q → FA Tryz.prog (look t) kp14 Tryz.f14 args m Q := by
  rintro args m Q ⟨s, r, a, x, y, i, rfl, hA, hw, hQ⟩
  show FA Tryz.prog (look t) kp14 Tryz.f14 [.agg #[.slice s.a s.n s.c, .int .i64 a.semi, .int .i64 a.to, .int .i64 a.top, .bool a.cyc, .int .i64 a.scan, .int .i64 a.old, .int .i64 a.cop, .int .i64 a.ser, .slice r.a r.n r.c], .int .i64 x, .int .i64 y, .int .i64 i] m Q
  rw [e14]
  refine newA_intro fun g1 m1 hg1 e1 hb1 hle1 => newA_intro fun g3 m2 hg3 e2 hb3 hle2 => ?_
  have l2 := Mem.le_trans hle1 hle2
  have p1 : Ptr m2 g1 s r a := hle2 _ _ hb1
  have z3 := le_none hle1 hg3
  have hA2 := hA.le l2
  have hkk := hA2.k
  have bad : jtA a x y i = (a, 1) → ptB (look t) Q g1 g3 m2 := fun e => by
    rw [e] at hQ
    exact ptB_ok t h27 p1 hA2 hw hb3 z3 l2 hQ
  refine ⟨_, _, _, cell_of p1 0, _, cell_of p1 1, _, cell_of p1 2, _, cell_of p1 3, _, cell_of p1 4, _, cell_of p1 5, _, cell_of p1 6, _, cell_of p1 7, _, cell_of p1 8, _, _, _, cell_of p1 9, via h25 ⟨s, r, a, rfl, hA2, hw, _, rfl, ?_⟩⟩
  by_cases hk : okP a
  case neg => rw [pB_no hk, if_pos (by decide)]; exact bad (if_neg fun h => hk h.1)
  rw [pB_yes hk, if_neg (by decide)]
  refine ⟨_, _, _, cell_of p1 0, _, cell_of p1 1, _, cell_of p1 2, _, cell_of p1 3, _, cell_of p1 4, _, cell_of p1 5, _, cell_of p1 6, _, cell_of p1 7, _, cell_of p1 8, _, _, _, cell_of p1 9, via h41 ⟨s, r, a, x, rfl, hA2, hw, _, rfl, ?_⟩⟩
  by_cases hx : isT a x
  case neg => rw [pB_no hx, if_pos (by decide)]; exact bad (if_neg fun h => hx h.2.1)
  rw [pB_yes hx, if_neg (by decide)]
  refine ⟨_, _, _, cell_of p1 0, _, cell_of p1 1, _, cell_of p1 2, _, cell_of p1 3, _, cell_of p1 4, _, cell_of p1 5, _, cell_of p1 6, _, cell_of p1 7, _, cell_of p1 8, _, _, _, cell_of p1 9, via h41 ⟨s, r, a, y, rfl, hA2, hw, _, rfl, ?_⟩⟩
  by_cases hy : isT a y
  case neg => rw [pB_no hy, if_pos (by decide)]; exact bad (if_neg fun h => hy h.2.2.1)
  rw [pB_yes hy, if_neg (by decide)]
  refine ⟨_, _, _, cell_of p1 0, _, cell_of p1 1, _, cell_of p1 2, _, cell_of p1 3, _, cell_of p1 4, _, cell_of p1 5, _, cell_of p1 6, _, cell_of p1 7, _, cell_of p1 8, _, _, _, cell_of p1 9, via h26 ⟨s, r, a, i, rfl, hA2, hw, _, rfl, ?_⟩⟩
  by_cases hi : 0 ≤ i ∧ i < a.rs.length
  case neg => rw [decide_eq_false hi, if_pos (by decide)]; exact bad (if_neg fun h => hi h.2.2.2)
  rw [decide_eq_true hi, if_neg (by decide)]
  have eA : jtA a x y i = ptA a (txA a x ++ txA a y) i := if_pos ⟨hk, hx, hy, hi⟩
  rw [eA] at hQ
  have lx := hx.len hw hk
  have ly := hy.len hw hk
  have n13 : g1 ≠ g3 := ne_of_none hg3 hb1
  refine ⟨fun q => q g1 = m2 g1 ∧ Mem.le m q, ⟨rfl, l2⟩, _, _, _, fun q hq => cell_of (hq.1.trans p1) 0, _, fun q hq => cell_of (hq.1.trans p1) 1, _, fun q hq => cell_of (hq.1.trans p1) 2, _, fun q hq => cell_of (hq.1.trans p1) 3, _, fun q hq => cell_of (hq.1.trans p1) 4, _, fun q hq => cell_of (hq.1.trans p1) 5, _, fun q hq => cell_of (hq.1.trans p1) 6, _, fun q hq => cell_of (hq.1.trans p1) 7, _, fun q hq => cell_of (hq.1.trans p1) 8, _, _, _, fun q hq => cell_of (hq.1.trans p1) 9, _, _, _, fun q hq => cell_of (hq.1.trans p1) 0, _, fun q hq => cell_of (hq.1.trans p1) 1, _, fun q hq => cell_of (hq.1.trans p1) 2, _, fun q hq => cell_of (hq.1.trans p1) 3, _, fun q hq => cell_of (hq.1.trans p1) 4, _, fun q hq => cell_of (hq.1.trans p1) 5, _, fun q hq => cell_of (hq.1.trans p1) 6, _, fun q hq => cell_of (hq.1.trans p1) 7, _, fun q hq => cell_of (hq.1.trans p1) 8, _, _, _, fun q hq => cell_of (hq.1.trans p1) 9, _, _, _, fun q hq => cell_of (hq.1.trans p1) 9, ?_⟩
  refine rgetH hA2.r hkk hx.1.1 (by have := hx.1.2; omega) fun ad had c1 c2 => ⟨_, fun q hq => c2 q (hA.r.le hq.2), _, _, _, fun q hq => cell_of (hq.1.trans p1) 0, _, fun q hq => cell_of (hq.1.trans p1) 1, _, fun q hq => cell_of (hq.1.trans p1) 2, _, fun q hq => cell_of (hq.1.trans p1) 3, _, fun q hq => cell_of (hq.1.trans p1) 4, _, fun q hq => cell_of (hq.1.trans p1) 5, _, fun q hq => cell_of (hq.1.trans p1) 6, _, fun q hq => cell_of (hq.1.trans p1) 7, _, fun q hq => cell_of (hq.1.trans p1) 8, _, _, _, fun q hq => cell_of (hq.1.trans p1) 9, _, _, _, fun q hq => cell_of (hq.1.trans p1) 9, ?_⟩
  refine rgetH hA2.r hkk hy.1.1 (by have := hy.1.2; omega) fun ad had c1 c2 => ⟨_, fun q hq => c2 q (hA.r.le hq.2), ?_⟩
  refine via h42 ⟨s, r, a, _, rfl, hA2, hw, hx.text hw hk, _, rfl, ⟨rfl, l2⟩, ?_⟩
  refine via h42 ⟨s, r, a, _, rfl, hA2, hw, hy.text hw hk, _, rfl, ⟨rfl, l2⟩, ?_⟩
  refine ⟨by show (((txA a x).size + (txA a y).size : Nat) : Int) ≤ _; omega, ?_⟩
  refine via h8 ⟨s, r, a, txA a x ++ txA a y, i, rfl, hA2, hw, fun s' r' D m3 l3 w3 f3 => ⟨_, _, _, _, _, _, _, _, _, _, _, _, _, _, _, rfl, ⟨(l3 _ _ p1).trans p1.symm, Mem.le_trans l2 l3⟩, ?_⟩⟩
  have d3 : g3 ∉ D := fun h => by have := f3 g3 h; rw [hb3] at this; cases this
  obtain ⟨wa, wn, wc⟩ := s'
  obtain ⟨ra, rn, rc⟩ := r'
  refine sto_ar (l3 _ _ hb3) fun m4 e4 q4 ne4 => ?_
  have p4 : Ptr m4 g3 ⟨wa, wn, wc⟩ ⟨ra, rn, rc⟩ (ptA a (txA a x ++ txA a y) i).1 := q4
  have l4 : Mem.le m m4 := le_other (Mem.le_trans l2 l3) z3 ne4
  refine ⟨⟨(ne4 g1 n13).trans ((l3 _ _ p1).trans p1.symm), l4⟩, _, _, _, cell_of p4 0, _, cell_of p4 1, _, cell_of p4 2, _, cell_of p4 3, _, cell_of p4 4, _, cell_of p4 5, _, cell_of p4 6, _, cell_of p4 7, _, cell_of p4 8, _, _, _, cell_of p4 9, ?_⟩
  exact ret_intro (Mem.le_refl _) (hQ _ _ D m4 l4 (w3.ext fun q hq => ne4 q fun e => d3 (e ▸ hq)) fun b hb => le_none l2 (f3 b hb))
def s15 : Spec := s14
theorem f15 (t : Tab) (h31 : look t 31 = s31) (h32 : look t 32 = s32) (h33 : look t 33 = s33) (h43 : look t 43 = s43) (h34 : look t 34 = s34) : ∀ args m Q, s15 args m Q → FA Tryz.prog (look t) kp15 Tryz.f15 args m Q := by
  rintro args m Q ⟨s, r, a, x, y, i, rfl, hA, hw, hQ⟩
  show FA Tryz.prog (look t) kp15 Tryz.f15 [.agg #[.slice s.a s.n s.c, .int .i64 a.semi, .int .i64 a.to, .int .i64 a.top, .bool a.cyc, .int .i64 a.scan, .int .i64 a.old, .int .i64 a.cop, .int .i64 a.ser, .slice r.a r.n r.c], .int .i64 x, .int .i64 y, .int .i64 i] m Q
  rw [e15]
  refine newA_intro fun g1 m1 hg1 e1 hb1 hle1 => newA_intro fun g3 m2 hg3 e2 hb3 hle2 => ?_
  have l2 := Mem.le_trans hle1 hle2
  have p1 : Ptr m2 g1 s r a := hle2 _ _ hb1
  have z3 := le_none hle1 hg3
  refine ⟨_, _, _, cell_of p1 0, _, cell_of p1 1, _, cell_of p1 2, _, cell_of p1 3, _, cell_of p1 4, _, cell_of p1 5, _, cell_of p1 6, _, cell_of p1 7, _, cell_of p1 8, _, _, _, cell_of p1 9, via h31 ⟨s, r, a, rfl, hA.le l2, hw, fun s' r' D m3 l3 w3 f3 => ⟨_, _, _, _, _, _, _, _, _, _, _, _, _, _, rfl, ?_⟩⟩⟩
  have hD : ∀ b ∈ D, m b = none := fun b hb => le_none l2 (f3 b hb)
  have d3 : g3 ∉ D := fun h => by have := f3 g3 h; rw [hb3] at this; cases this
  refine newA_intro fun g5 m4 hg5 e4 hb5 hle4 => ?_
  obtain ⟨wa, wn, wc⟩ := s'
  obtain ⟨ra, rn, rc⟩ := r'
  refine sto_ar hb5 fun m5 e5 q5 ne5 => ?_
  have p5 : Ptr m5 g5 ⟨wa, wn, wc⟩ ⟨ra, rn, rc⟩ a := q5
  have l5 : Mem.le m3 m5 := le_other hle4 hg5 ne5
  have im5 : Im m5 g5 ⟨wa, wn, wc⟩ ⟨ra, rn, rc⟩ a D := ⟨p5, w3.le l5, w3.fresh hg5⟩
  have L5 := Mem.le_trans (Mem.le_trans l2 l3) l5
  have p15 : Ptr m5 g1 s r a := l5 _ _ (l3 _ _ p1)
  have h35 := l5 _ _ (l3 _ _ hb3)
  have n35 : g3 ≠ g5 := fun e => by rw [← e] at hg5; have := l3 _ _ hb3; rw [hg5] at this; cases this
  have z5 : m g5 = none := le_none (Mem.le_trans l2 l3) hg5
  have bad : ∀ M, Mem.le m5 M → jtA a x y i = (a, 1) → stT Q g5 g3 1 M := fun M hM e => by
    rw [e] at hQ
    exact ret_nc (im5.le hM) (hM _ _ h35) z3 d3 (Off.of_le (Mem.le_trans L5 hM)) hD hQ
  refine ⟨_, _, _, cell_of p15 0, _, cell_of p15 1, _, cell_of p15 2, _, cell_of p15 3, _, cell_of p15 4, _, cell_of p15 5, _, cell_of p15 6, _, cell_of p15 7, _, cell_of p15 8, _, _, _, cell_of p15 9, via h32 ⟨s, r, a, rfl, hA.le L5, hw, _, rfl, ?_⟩⟩
  by_cases hk : okP a
  case neg => rw [pB_no hk, if_pos (by decide)]; exact bad m5 (Mem.le_refl _) (if_neg fun h => hk h.1)
  rw [pB_yes hk, if_neg (by decide)]
  refine newA_intro fun g6 m6 hg6 e6 hb6 hle6 => via h33 ⟨g1, s, r, ⟨some ⟨g6, 0, none⟩, 1, 1⟩, a, [i], rfl, hle6 _ _ p15, (hA.le L5).le hle6, hw, rfl, Rd.of_block (spare := []) hb6 rfl, by show 1 ≤ 2 ^ 20; decide, _, rfl, ?_⟩
  by_cases hi : 0 ≤ i ∧ i < a.rs.length
  case neg => rw [decide_eq_false (show ¬ ∀ x ∈ [i], 0 ≤ x ∧ x < (a.rs.length : Int) from fun h => hi (h i (by simp))), if_pos (by decide)]; exact bad m6 hle6 (if_neg fun h => hi h.2.2.2)
  rw [decide_eq_true (show ∀ x ∈ [i], 0 ≤ x ∧ x < (a.rs.length : Int) from fun x hx => by simp at hx; rw [hx]; exact hi), if_neg (by decide)]
  have p16 : Ptr m6 g1 s r a := hle6 _ _ p15
  have hA6 := (hA.le L5).le hle6
  refine via h43 ⟨g1, s, r, a, x, rfl, p16, hA6, hw, hk, ?_⟩
  by_cases hx : isT a x
  case neg =>
    rw [show txB a x = .tuple #[.string ⟨#[]⟩, .bool false] from if_neg hx]
    refine ⟨_, _, rfl, via h43 ⟨g1, s, r, a, y, rfl, p16, hA6, hw, hk, ?_⟩⟩
    have bd := bad m6 hle6 (if_neg fun h => hx h.2.1)
    by_cases hy : isT a y
    · rw [show txB a y = .tuple #[.string (txA a y), .bool true] from if_pos hy]
      refine ⟨_, _, rfl, ?_⟩
      rw [if_pos (by decide)]
      exact bd
    · rw [show txB a y = .tuple #[.string ⟨#[]⟩, .bool false] from if_neg hy]
      refine ⟨_, _, rfl, ?_⟩
      rw [if_pos (by decide)]
      exact bd
  rw [show txB a x = .tuple #[.string (txA a x), .bool true] from if_pos hx]
  refine ⟨_, _, rfl, via h43 ⟨g1, s, r, a, y, rfl, p16, hA6, hw, hk, ?_⟩⟩
  by_cases hy : isT a y
  case neg =>
    rw [show txB a y = .tuple #[.string ⟨#[]⟩, .bool false] from if_neg hy]
    refine ⟨_, _, rfl, ?_⟩
    rw [if_neg (by decide), if_pos (by decide)]
    exact bad m6 hle6 (if_neg fun h => hy h.2.2.1)
  rw [show txB a y = .tuple #[.string (txA a y), .bool true] from if_pos hy]
  refine ⟨_, _, rfl, ?_⟩
  rw [if_neg (by decide), if_neg (by decide)]
  have lx := hx.len hw hk
  have ly := hy.len hw hk
  have eJ : jtA a x y i = ptA a (txA a x ++ txA a y) i := if_pos ⟨hk, hx, hy, hi⟩
  have sz : (txA a x ++ txA a y).size = (txA a x).size + (txA a y).size := ByteArray.size_append
  rw [w64 (x := ((txA a x).size : Int) + ((txA a y).size : Int)) (by omega) (by omega)]
  by_cases hn : (txA a x).size + (txA a y).size ≤ 160
  · rw [if_neg (by simp; omega)]
    have eA : ptA a (txA a x ++ txA a y) i = ptR a (txA a x ++ txA a y) i := if_pos ⟨hk, hi, by omega⟩
    rw [eJ, eA] at hQ
    refine ⟨by omega, ?_⟩
    refine via h34 ⟨g5, _, _, a, D, txA a x ++ txA a y, i, rfl, im5.le hle6, okC_of hw hk, by omega, hi, fun m7 o7 im7 => ⟨_, rfl, ?_⟩⟩
    have h37 : m7 g3 = some (.cells #[.slice none 0 0, .int .i64 0, .int .i64 0, .int .i64 0, .bool false, .int .i64 0, .int .i64 0, .int .i64 0, .int .i64 0, .slice none 0 0] 29 (0, 0)) := (o7 g3 (by simp [n35, d3])).trans (hle6 _ _ h35)
    have O7 : Off D m m7 := fun x o hx e => by
      rw [o7 x fun h => by rcases List.mem_cons.1 h with h | h; rw [h, z5] at e; cases e; exact hx h]
      exact hle6 _ _ (L5 _ _ e)
    exact (ret_nc im7 h37 z3 d3 O7 hD hQ : stT Q g5 g3 (ptR a (txA a x ++ txA a y) i).2 m7)
  · rw [if_pos (by simp; omega)]
    refine bad m6 hle6 ?_
    rw [eJ]
    exact if_neg fun h => by have := h.2.2; omega
end Go.Proofs.YtpdcjocjkbgddaaGreat.Abs
