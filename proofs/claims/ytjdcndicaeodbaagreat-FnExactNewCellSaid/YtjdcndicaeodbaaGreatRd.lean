/- Arenas: beginnings, ends, heads, values, words, places. -/
import Derived.Test.YtjdcndicaeodbaaGreatRc
namespace Go.Proofs.YtjdcndicaeodbaaGreat.Abs
open Go.RowKit
set_option linter.unusedVariables false
set_option linter.unusedSimpArgs false
set_option maxRecDepth 20000
/-- The block of an arena. -/
def Ptr (m : Mem) (g : Nat) (s r : Sl) (a : Ar) : Prop := m g = some (.cells (cA s r a) 31 (0, 0))
/-- Numbers with which one can count. -/
structure Ar.sm (a : Ar) : Prop where
  s0 : 256 ≤ a.semi
  s1 : a.semi ≤ 4000
  t0 : 0 ≤ a.to
  t1 : a.to ≤ 1
  l : (a.ws.length : Int) = 2 * a.semi
theorem mul01 {h s : Int} (h0 : 0 ≤ h) (h1 : h ≤ 1) : h * s = if h = 0 then 0 else s := by
  have : h = 0 ∨ h = 1 := by omega
  rcases this with rfl | rfl <;> simp
def startA (a : Ar) (h : Int) : Int := h * a.semi + 1
def endA (a : Ar) (h : Int) : Int := (h + 1) * a.semi
theorem startA_eq {a : Ar} {h : Int} (h0 : 0 ≤ h) (h1 : h ≤ 1) : startA a h = if h = 0 then 1 else a.semi + 1 := by
  unfold startA
  rw [mul01 h0 h1]
  split <;> omega
theorem endA_eq {a : Ar} {h : Int} (h0 : 0 ≤ h) (h1 : h ≤ 1) : endA a h = if h = 0 then a.semi else 2 * a.semi := by
  unfold endA
  rw [Int.add_mul, mul01 h0 h1]
  split <;> omega
def s68 : Spec := fun args m Q => ∃ (s r : Sl) (a : Ar) (h : Int), args = [vA s r a, .int .i64 h] ∧ 0 ≤ h ∧ h ≤ 1 ∧ 0 ≤ a.semi ∧ a.semi ≤ 4000 ∧ Q (.int .i64 (startA a h)) m
theorem f68 (t : Tab) : ∀ args m Q, s68 args m Q → FA Tryz.prog (look t) kp68 Tryz.f68 args m Q := by
  rintro args m Q ⟨s, r, a, h, rfl, h0, h1, k0, k1, hQ⟩
  show FA Tryz.prog (look t) kp68 Tryz.f68 [.agg #[.slice s.a s.n s.c, .int .i64 a.semi, .int .i64 a.to, .int .i64 a.top, .bool a.cyc, .int .i64 a.scan, .int .i64 a.old, .int .i64 a.cop, .int .i64 a.ser, .slice r.a r.n r.c], .int .i64 h] m Q
  rw [e68]
  have e := mul01 (s := a.semi) h0 h1
  have b : 0 ≤ h * a.semi ∧ h * a.semi ≤ 4000 := by rw [e]; split <;> omega
  refine newA_intro fun g1 m2 hg1 e2 hb1 hle2 => ⟨_, cell_of hb1 1, ret_int hle2 hQ ?_⟩
  rw [w64 (x := h * a.semi) (by omega) (by omega), w64 (by omega) (by omega)]
  rfl
def s157 : Spec := fun args m Q => ∃ (s r : Sl) (a : Ar), args = [vA s r a] ∧ 0 ≤ a.to ∧ a.to ≤ 1 ∧ 0 ≤ a.semi ∧ a.semi ≤ 4000 ∧ Q (.int .i64 (endA a a.to)) m
theorem endA_b {a : Ar} {h : Int} (h0 : 0 ≤ h) (h1 : h ≤ 1) (k0 : 0 ≤ a.semi) (k1 : a.semi ≤ 4000) : 0 ≤ (h + 1) * a.semi ∧ (h + 1) * a.semi ≤ 8000 := by
  have e := endA_eq (a := a) h0 h1
  unfold endA at e
  rw [e]; split <;> omega
theorem f157 (t : Tab) : ∀ args m Q, s157 args m Q → FA Tryz.prog (look t) kp157 Tryz.f157 args m Q := by
  rintro args m Q ⟨s, r, a, rfl, h0, h1, k0, k1, hQ⟩
  show FA Tryz.prog (look t) kp157 Tryz.f157 [.agg #[.slice s.a s.n s.c, .int .i64 a.semi, .int .i64 a.to, .int .i64 a.top, .bool a.cyc, .int .i64 a.scan, .int .i64 a.old, .int .i64 a.cop, .int .i64 a.ser, .slice r.a r.n r.c]] m Q
  rw [e157]
  have b := endA_b h0 h1 k0 k1
  refine newA_intro fun g1 m2 hg1 e2 hb1 hle2 => ⟨_, cell_of hb1 2, _, cell_of hb1 1, ret_int hle2 hQ ?_⟩
  rw [w64 (x := a.to + 1) (by omega) (by omega), w64 (by omega) (by omega)]
  rfl
/-- An arena by value, and a place in it. -/
def Val1 (m : Mem) (s r : Sl) (a : Ar) (p : Int) : Prop := ArAt m s r a ∧ a.wf ∧ 0 ≤ p ∧ p < a.ws.length
def s123 : Spec := fun args m Q => ∃ (s r : Sl) (a : Ar) (p : Int), args = [vA s r a, .int .i64 p] ∧ Val1 m s r a p ∧ Q (.int .i64 (whereW a.ws p)) m
theorem f123 (t : Tab) (h158 : look t 158 = s158) : ∀ args m Q, s123 args m Q → FA Tryz.prog (look t) kp123 Tryz.f123 args m Q := by
  rintro args m Q ⟨s, r, a, p, rfl, ⟨hA, hw, h0, h1⟩, hQ⟩
  show FA Tryz.prog (look t) kp123 Tryz.f123 [.agg #[.slice s.a s.n s.c, .int .i64 a.semi, .int .i64 a.to, .int .i64 a.top, .bool a.cyc, .int .i64 a.scan, .int .i64 a.old, .int .i64 a.cop, .int .i64 a.ser, .slice r.a r.n r.c], .int .i64 p] m Q
  rw [e123]
  have hn := hA.n
  refine newA_intro fun g1 m2 hg1 e2 hb1 hle2 => ⟨_, _, _, cell_of hb1 0, wd (hA.w.le hle2) hA.n h0 (by omega) fun ad had hd => ⟨_, hd _ (Mem.le_refl _), via h158 ⟨_, rfl, gw_in hw.w p, _, _, rfl, ?_⟩⟩⟩
  unfold whereW at hQ
  cases hb : (fwd (gw a.ws p)).2 with
  | false => rw [if_neg (by decide)]; rw [hb] at hQ; exact ret_intro hle2 hQ
  | true => rw [if_pos rfl]; rw [hb] at hQ; exact ret_intro hle2 hQ
def s55 : Spec := fun args m Q => ∃ (s r : Sl) (a : Ar) (p : Int), args = [vA s r a, .int .i64 p] ∧ Val1 m s r a p ∧ Q (vHd (lookW a.ws p)) m
theorem f55 (t : Tab) (h124 : look t 124 = s124) : ∀ args m Q, s55 args m Q → FA Tryz.prog (look t) kp55 Tryz.f55 args m Q := by
  rintro args m Q ⟨s, r, a, p, rfl, ⟨hA, hw, h0, h1⟩, hQ⟩
  show FA Tryz.prog (look t) kp55 Tryz.f55 [.agg #[.slice s.a s.n s.c, .int .i64 a.semi, .int .i64 a.to, .int .i64 a.top, .bool a.cyc, .int .i64 a.scan, .int .i64 a.old, .int .i64 a.cop, .int .i64 a.ser, .slice r.a r.n r.c], .int .i64 p] m Q
  rw [e55]
  have hn := hA.n
  refine newA_intro fun g1 m2 hg1 e2 hb1 hle2 => newA_intro fun g3 m4 hg3 e4 hb3 hle4 => ⟨_, _, _, cell_of (hle4 _ _ hb1) 0, wd (hA.w.le (Mem.le_trans hle2 hle4)) hA.n h0 (by omega) fun ad had hd => ⟨_, hd _ (Mem.le_refl _), via h124 ⟨_, rfl, gw_in hw.w p, ?_⟩⟩⟩
  refine ⟨_, _, _, _, rfl, newA_intro fun g18 m19 hg18 e19 hb18 hle19 => ?_⟩
  refine sto (c := #[.int .i64 0, .int .i64 0, .int .i64 0]) (t := 70) hb18 rfl (by simp) fun m20 e20 h20 hne20 => ?_
  have h20 : m20 g18 = some (.cells #[.int .i64 (lookW a.ws p).1, .int .i64 (lookW a.ws p).2.1, .int .i64 (lookW a.ws p).2.2] 70 (0, 0)) := h20
  have n1 : g3 ≠ g18 := ne_of_none hg18 hb3
  have b1 : m20 g3 = some (.cells #[.int .i64 0, .int .i64 0, .int .i64 0] 70 (0, 0)) := by rw [hne20 _ n1]; exact hle19 _ _ hb3
  refine ⟨_, cell_of h20 0, _, cell_of h20 1, _, cell_of h20 2, sto (c := #[.int .i64 0, .int .i64 0, .int .i64 0]) (t := 70) b1 rfl (by simp) fun m21 e21 h21 hne21 => ?_⟩
  have h21 : m21 g3 = some (.cells #[.int .i64 (lookW a.ws p).1, .int .i64 (lookW a.ws p).2.1, .int .i64 (lookW a.ws p).2.2] 70 (0, 0)) := h21
  have l4 : Mem.le m2 m20 := le_other (Mem.le_trans hle4 hle19) (le_none hle4 hg18) hne20
  refine ⟨_, cell_of h21 0, _, cell_of h21 1, _, cell_of h21 2, ret_intro (Mem.le_trans hle2 (le_other l4 hg3 hne21)) hQ⟩
def s160 : Spec := fun args m Q => ∃ (s r : Sl) (a : Ar) (p i : Int), args = [vA s r a, .int .i64 p, .int .i64 i] ∧ ArAt m s r a ∧ a.wf ∧ 0 ≤ p ∧ 0 ≤ i ∧ p + i < a.ws.length ∧ Q (.int .i64 (wordW a.ws p i)) m
theorem f160 (t : Tab) : ∀ args m Q, s160 args m Q → FA Tryz.prog (look t) kp160 Tryz.f160 args m Q := by
  rintro args m Q ⟨s, r, a, p, i, rfl, hA, hw, h0, h1, h2, hQ⟩
  show FA Tryz.prog (look t) kp160 Tryz.f160 [.agg #[.slice s.a s.n s.c, .int .i64 a.semi, .int .i64 a.to, .int .i64 a.top, .bool a.cyc, .int .i64 a.scan, .int .i64 a.old, .int .i64 a.cop, .int .i64 a.ser, .slice r.a r.n r.c], .int .i64 p, .int .i64 i] m Q
  rw [e160]
  have hn := hA.n
  have hN := hw.n
  rw [w64 (x := p + i) (by omega) (by omega)]
  exact newA_intro fun g1 m2 hg1 e2 hb1 hle2 => ⟨_, _, _, cell_of hb1 0, wd (hA.w.le hle2) hA.n (by omega) (by omega) fun ad had hd => ⟨_, hd _ (Mem.le_refl _), ret_intro hle2 hQ⟩⟩
def s73 : Spec := fun args m Q => ∃ (g : Nat) (s r : Sl) (a : Ar) (h : Int), args = [.pointer (some ⟨g, 0, none⟩), .int .i64 h] ∧ Ptr m g s r a ∧ 0 ≤ h ∧ h ≤ 1 ∧ 0 ≤ a.semi ∧ a.semi ≤ 4000 ∧ Q (.int .i64 (startA a h)) m
theorem f73 (t : Tab) : ∀ args m Q, s73 args m Q → FA Tryz.prog (look t) kp73 Tryz.f73 args m Q := by
  rintro args m Q ⟨g, s, r, a, h, rfl, hb1, h0, h1, k0, k1, hQ⟩
  rw [e73]
  have e := mul01 (s := a.semi) h0 h1
  have b : 0 ≤ h * a.semi ∧ h * a.semi ≤ 4000 := by rw [e]; split <;> omega
  refine ⟨_, cell_of hb1 1, ret_int (Mem.le_refl _) hQ ?_⟩
  rw [w64 (x := h * a.semi) (by omega) (by omega), w64 (by omega) (by omega)]
  rfl
def s106 : Spec := fun args m Q => ∃ (g : Nat) (s r : Sl) (a : Ar) (h : Int), args = [.pointer (some ⟨g, 0, none⟩), .int .i64 h] ∧ Ptr m g s r a ∧ 0 ≤ h ∧ h ≤ 1 ∧ 0 ≤ a.semi ∧ a.semi ≤ 4000 ∧ Q (.int .i64 (endA a h)) m
theorem f106 (t : Tab) : ∀ args m Q, s106 args m Q → FA Tryz.prog (look t) kp106 Tryz.f106 args m Q := by
  rintro args m Q ⟨g, s, r, a, h, rfl, hb1, h0, h1, k0, k1, hQ⟩
  rw [e106]
  have b := endA_b h0 h1 k0 k1
  refine ⟨_, cell_of hb1 1, ret_int (Mem.le_refl _) hQ ?_⟩
  rw [w64 (x := h + 1) (by omega) (by omega), w64 (by omega) (by omega)]
  rfl
def s108 : Spec := fun args m Q => ∃ (g : Nat) (s r : Sl) (a : Ar), args = [.pointer (some ⟨g, 0, none⟩)] ∧ Ptr m g s r a ∧ 0 ≤ a.to ∧ a.to ≤ 1 ∧ Q (.int .i64 (1 - a.to)) m
theorem f108 (t : Tab) : ∀ args m Q, s108 args m Q → FA Tryz.prog (look t) kp108 Tryz.f108 args m Q := by
  rintro args m Q ⟨g, s, r, a, rfl, hb1, h0, h1, hQ⟩
  rw [e108]
  refine ⟨_, cell_of hb1 2, ret_int (Mem.le_refl _) hQ ?_⟩
  rw [w64 (x := 1 - a.to) (by omega) (by omega)]
def leftA (a : Ar) : Int := if a.cyc then a.old - startA a (1 - a.to) - a.cop else 0
def s109 : Spec := fun args m Q => ∃ (g : Nat) (s r : Sl) (a : Ar), args = [.pointer (some ⟨g, 0, none⟩)] ∧ Ptr m g s r a ∧ a.sm ∧ (a.cyc = true → 0 ≤ a.old ∧ a.old ≤ 8000 ∧ 0 ≤ a.cop ∧ a.cop ≤ 8000) ∧ Q (.int .i64 (leftA a)) m
theorem f109 (t : Tab) (h108 : look t 108 = s108) (h73 : look t 73 = s73) : ∀ args m Q, s109 args m Q → FA Tryz.prog (look t) kp109 Tryz.f109 args m Q := by
  rintro args m Q ⟨g, s, r, a, rfl, hb1, hs, hc, hQ⟩
  rw [e109]
  unfold leftA at hQ
  refine ⟨_, cell_of hb1 4, ?_⟩
  cases c : a.cyc with
  | false => rw [if_pos (by decide)]; rw [c] at hQ; exact ret_intro (Mem.le_refl _) hQ
  | true =>
    rw [if_neg (by decide)]
    rw [c, if_pos rfl] at hQ
    obtain ⟨s0, s1, t0, t1, l⟩ := hs
    obtain ⟨o0, o1, c0, c1⟩ := hc c
    have e := startA_eq (a := a) (h := 1 - a.to) (by omega) (by omega)
    have b : 0 ≤ startA a (1 - a.to) ∧ startA a (1 - a.to) ≤ 8000 := by rw [e]; split <;> omega
    refine ⟨Mem.le m, Mem.le_refl _, _, held (cell_of hb1 6), _, held (cell_of hb1 7), via h108 ⟨g, s, r, a, rfl, hb1, t0, t1, _, rfl, Mem.le_refl _, via h73 ⟨g, s, r, a, _, rfl, hb1, by omega, by omega, by omega, by omega, _, rfl, Mem.le_refl _, ret_int (Mem.le_refl _) hQ ?_⟩⟩⟩
    rw [w64 (x := a.old - _) (by omega) (by omega), w64 (by omega) (by omega)]
def otherA (a : Ar) (p : Int) : Bool := decide (startA a (1 - a.to) ≤ p ∧ p ≤ endA a (1 - a.to) - 1)
def s187 : Spec := fun args m Q => ∃ (g : Nat) (s r : Sl) (a : Ar) (p : Int), args = [.pointer (some ⟨g, 0, none⟩), .int .i64 p] ∧ Ptr m g s r a ∧ a.sm ∧ Q (.bool (otherA a p)) m
theorem f187 (t : Tab) (h108 : look t 108 = s108) (h73 : look t 73 = s73) (h106 : look t 106 = s106) (h80 : look t 80 = s80) : ∀ args m Q, s187 args m Q → FA Tryz.prog (look t) kp187 Tryz.f187 args m Q := by
  rintro args m Q ⟨g, s, r, a, p, rfl, hb1, ⟨s0, s1, t0, t1, l⟩, hQ⟩
  rw [e187]
  have b := endA_b (a := a) (h := 1 - a.to) (by omega) (by omega) (by omega) (by omega)
  refine via h108 ⟨g, s, r, a, rfl, hb1, t0, t1, _, rfl, via h73 ⟨g, s, r, a, _, rfl, hb1, by omega, by omega, by omega, by omega, _, rfl, via h108 ⟨g, s, r, a, rfl, hb1, t0, t1, _, rfl, via h106 ⟨g, s, r, a, _, rfl, hb1, by omega, by omega, by omega, by omega, _, rfl, ?_⟩⟩⟩⟩
  have e : endA a (1 - a.to) = (1 - a.to + 1) * a.semi := rfl
  rw [w64 (x := endA a (1 - a.to) - 1) (by omega) (by omega)]
  exact via h80 ⟨_, _, _, rfl, _, rfl, ret_intro (Mem.le_refl _) hQ⟩
def placeA (a : Ar) (p : Int) : Int := if otherA a p then whereW a.ws p else p
def s127 : Spec := fun args m Q => ∃ (g : Nat) (s r : Sl) (a : Ar) (v : Vl), args = [.pointer (some ⟨g, 0, none⟩), vVl v] ∧ Ptr m g s r a ∧ ArAt m s r a ∧ a.sm ∧ a.wf ∧ Q (.int .i64 (placeA a v.2)) m
theorem f127 (t : Tab) (h187 : look t 187 = s187) (h166 : look t 166 = s166) : ∀ args m Q, s127 args m Q → FA Tryz.prog (look t) kp127 Tryz.f127 args m Q := by
  rintro args m Q ⟨g, s, r, a, v, rfl, hb1, hA, hs, hw, hQ⟩
  show FA Tryz.prog (look t) kp127 Tryz.f127 [.pointer (some ⟨g, 0, none⟩), .agg #[.int .i64 v.1, .int .i64 v.2]] m Q
  rw [e127]
  refine newA_intro fun g1 m2 hg1 e2 hb2 hle2 => ⟨_, cell_of hb2 1, via h187 ⟨g, s, r, a, _, rfl, hle2 _ _ hb1, hs, _, rfl, ?_⟩⟩
  unfold placeA at hQ
  cases c : otherA a v.2 with
  | false => rw [if_neg (by decide)]; rw [c] at hQ; exact ⟨_, cell_of hb2 1, ret_intro hle2 hQ⟩
  | true =>
    rw [if_pos rfl]
    rw [c, if_pos rfl] at hQ
    obtain ⟨s0, s1, t0, t1, l⟩ := hs
    have e := startA_eq (a := a) (h := 1 - a.to) (by omega) (by omega)
    have e' := endA_eq (a := a) (h := 1 - a.to) (by omega) (by omega)
    have hn := hA.n
    have c' : 0 ≤ v.2 ∧ v.2 < s.n := by
      unfold otherA at c
      rw [decide_eq_true_eq, e, e'] at c
      split at c <;> simp_all <;> omega
    refine ⟨Mem.le m2, Mem.le_refl _, _, _, _, held (cell_of (hle2 _ _ hb1) 0), _, held (cell_of hb2 1), wd (hA.w.le hle2) hA.n c'.1 c'.2 fun ad had hd => ⟨_, hd, via h166 ⟨_, rfl, gw_in hw.w _, _, _, rfl, Mem.le_refl _, ?_⟩⟩⟩
    unfold whereW at hQ
    cases hf : (fwd (gw a.ws v.2)).2 with
    | false => rw [if_neg (by decide)]; rw [hf] at hQ; exact ⟨_, cell_of hb2 1, ret_intro hle2 hQ⟩
    | true => rw [if_pos rfl]; rw [hf] at hQ; exact ret_intro hle2 hQ
/-- An arena by its block, and a place in it. -/
def Ptr1 (m : Mem) (g : Nat) (s r : Sl) (a : Ar) (p : Int) : Prop := Ptr m g s r a ∧ ArAt m s r a ∧ a.wf ∧ 0 ≤ p ∧ p < a.ws.length
def s60 : Spec := fun args m Q => ∃ (g : Nat) (s r : Sl) (a : Ar) (p : Int), args = [.pointer (some ⟨g, 0, none⟩), .int .i64 p] ∧ Ptr1 m g s r a p ∧ Q (vHd (lookW a.ws p)) m
theorem f60 (t : Tab) (h130 : look t 130 = s130) : ∀ args m Q, s60 args m Q → FA Tryz.prog (look t) kp60 Tryz.f60 args m Q := by
  rintro args m Q ⟨g, s, r, a, p, rfl, ⟨hb1, hA, hw, h0, h1⟩, hQ⟩
  rw [e60]
  have hn := hA.n
  refine newA_intro fun g3 m4 hg3 e4 hb3 hle4 => ⟨_, _, _, cell_of (hle4 _ _ hb1) 0, wd (hA.w.le hle4) hA.n h0 (by omega) fun ad had hd => ⟨_, hd _ (Mem.le_refl _), via h130 ⟨_, rfl, gw_in hw.w p, ?_⟩⟩⟩
  refine ⟨_, _, _, _, rfl, newA_intro fun g18 m19 hg18 e19 hb18 hle19 => ?_⟩
  refine sto (c := #[.int .i64 0, .int .i64 0, .int .i64 0]) (t := 70) hb18 rfl (by simp) fun m20 e20 h20 hne20 => ?_
  have h20 : m20 g18 = some (.cells #[.int .i64 (lookW a.ws p).1, .int .i64 (lookW a.ws p).2.1, .int .i64 (lookW a.ws p).2.2] 70 (0, 0)) := h20
  have n1 : g3 ≠ g18 := ne_of_none hg18 hb3
  have b1 : m20 g3 = some (.cells #[.int .i64 0, .int .i64 0, .int .i64 0] 70 (0, 0)) := by rw [hne20 _ n1]; exact hle19 _ _ hb3
  refine ⟨_, cell_of h20 0, _, cell_of h20 1, _, cell_of h20 2, sto (c := #[.int .i64 0, .int .i64 0, .int .i64 0]) (t := 70) b1 rfl (by simp) fun m21 e21 h21 hne21 => ?_⟩
  have h21 : m21 g3 = some (.cells #[.int .i64 (lookW a.ws p).1, .int .i64 (lookW a.ws p).2.1, .int .i64 (lookW a.ws p).2.2] 70 (0, 0)) := h21
  have l4 : Mem.le m m20 := le_other (Mem.le_trans hle4 hle19) (le_none hle4 hg18) hne20
  refine ⟨_, cell_of h21 0, _, cell_of h21 1, _, cell_of h21 2, ret_intro (le_other l4 hg3 hne21) hQ⟩
def s129 : Spec := fun args m Q => ∃ (g : Nat) (s r : Sl) (a : Ar) (p : Int), args = [.pointer (some ⟨g, 0, none⟩), .int .i64 p] ∧ Ptr1 m g s r a p ∧ p + 1 < a.ws.length ∧ Q (vVl (valW a.ws p)) m
theorem f129 (t : Tab) : ∀ args m Q, s129 args m Q → FA Tryz.prog (look t) kp129 Tryz.f129 args m Q := by
  rintro args m Q ⟨g, s, r, a, p, rfl, ⟨hb1, hA, hw, h0, h1⟩, h2, hQ⟩
  rw [e129]
  have hn := hA.n
  have hN := hw.n
  rw [w64 (x := p + 1) (by omega) (by omega)]
  refine newA_intro fun g3 m4 hg3 e4 hb3 hle4 => ⟨Mem.le m4, Mem.le_refl _, _, _, _, held (cell_of (hle4 _ _ hb1) 0), wd (hA.w.le hle4) hA.n h0 (by omega) fun ad had hd => ⟨_, hd, _, _, _, held (cell_of (hle4 _ _ hb1) 0), wd (hA.w.le hle4) hA.n (by omega) (by omega) fun ad2 had2 hd2 => ⟨_, hd2, ?_⟩⟩⟩
  refine sto (c := #[.int .i64 0, .int .i64 0]) (t := 52) hb3 rfl (by simp) fun m20 e20 h20 hne20 => ?_
  have h20 : m20 g3 = some (.cells #[.int .i64 (valW a.ws p).1, .int .i64 (valW a.ws p).2] 52 (0, 0)) := h20
  exact ⟨_, cell_of h20 0, _, cell_of h20 1, ret_intro (le_other hle4 hg3 hne20) hQ⟩
end Go.Proofs.YtjdcndicaeodbaaGreat.Abs
