/- Arenas: beginnings, ends, heads, values, words, places. -/
import Derived.Test.YtpdcjocjkbgddaaGreatRc
namespace Go.Proofs.YtpdcjocjkbgddaaGreat.Abs
open Go.RowKit
set_option linter.unusedVariables false
set_option linter.unusedSimpArgs false
set_option maxRecDepth 20000
/-- The block of an arena. -/
def Ptr (m : Mem) (g : Nat) (s r : Sl) (a : Ar) : Prop := m g = some (.cells (cA s r a) 29 (0, 0))
/-- Numbers with which one can count. -/
structure Ar.sm (a : Ar) : Prop where
  s0 : 256 ≤ a.semi
  s1 : a.semi ≤ 4000
  t0 : 0 ≤ a.to
  t1 : a.to ≤ 1
  l : (a.ws.length : Int) = 2 * a.semi
theorem mul01 {h s : Int} (h0 : 0 ≤ h) (h1 : h ≤ 1) : h * s = if h = 0 then 0 else s := by
  have : h = 0 ∨ h = 1 := by omega
  rcases this with rfl | rfl <;> simp
def startA (a : Ar) (h : Int) : Int := h * a.semi + 1
def endA (a : Ar) (h : Int) : Int := (h + 1) * a.semi
theorem startA_eq {a : Ar} {h : Int} (h0 : 0 ≤ h) (h1 : h ≤ 1) : startA a h = if h = 0 then 1 else a.semi + 1 := by
  unfold startA
  rw [mul01 h0 h1]
  split <;> omega
theorem endA_eq {a : Ar} {h : Int} (h0 : 0 ≤ h) (h1 : h ≤ 1) : endA a h = if h = 0 then a.semi else 2 * a.semi := by
  unfold endA
  rw [Int.add_mul, mul01 h0 h1]
  split <;> omega
def s73 : Spec := fun args m Q => ∃ (s r : Sl) (a : Ar) (h : Int), args = [vA s r a, .int .i64 h] ∧ 0 ≤ h ∧ h ≤ 1 ∧ 0 ≤ a.semi ∧ a.semi ≤ 4000 ∧ Q (.int .i64 (startA a h)) m
theorem f73 (t : Tab) : ∀ args m Q, s73 args m Q → FA Tryz.prog (look t) kp73 Tryz.f73 args m Q := by
  rintro args m Q ⟨s, r, a, h, rfl, h0, h1, k0, k1, hQ⟩
  show FA Tryz.prog (look t) kp73 Tryz.f73 [.agg #[.slice s.a s.n s.c, .int .i64 a.semi, .int .i64 a.to, .int .i64 a.top, .bool a.cyc, .int .i64 a.scan, .int .i64 a.old, .int .i64 a.cop, .int .i64 a.ser, .slice r.a r.n r.c], .int .i64 h] m Q
  rw [e73]
  have e := mul01 (s := a.semi) h0 h1
  have b : 0 ≤ h * a.semi ∧ h * a.semi ≤ 4000 := by rw [e]; split <;> omega
  refine newA_intro fun g1 m2 hg1 e2 hb1 hle2 => ⟨_, cell_of hb1 1, ret_int hle2 hQ ?_⟩
  rw [w64 (x := h * a.semi) (by omega) (by omega), w64 (by omega) (by omega)]
  rfl
def s90 : Spec := fun args m Q => ∃ (s r : Sl) (a : Ar), args = [vA s r a] ∧ 0 ≤ a.to ∧ a.to ≤ 1 ∧ 0 ≤ a.semi ∧ a.semi ≤ 4000 ∧ Q (.int .i64 (endA a a.to)) m
theorem endA_b {a : Ar} {h : Int} (h0 : 0 ≤ h) (h1 : h ≤ 1) (k0 : 0 ≤ a.semi) (k1 : a.semi ≤ 4000) : 0 ≤ (h + 1) * a.semi ∧ (h + 1) * a.semi ≤ 8000 := by
  have e := endA_eq (a := a) h0 h1
  unfold endA at e
  rw [e]; split <;> omega
theorem f90 (t : Tab) : ∀ args m Q, s90 args m Q → FA Tryz.prog (look t) kp90 Tryz.f90 args m Q := by
  rintro args m Q ⟨s, r, a, rfl, h0, h1, k0, k1, hQ⟩
  show FA Tryz.prog (look t) kp90 Tryz.f90 [.agg #[.slice s.a s.n s.c, .int .i64 a.semi, .int .i64 a.to, .int .i64 a.top, .bool a.cyc, .int .i64 a.scan, .int .i64 a.old, .int .i64 a.cop, .int .i64 a.ser, .slice r.a r.n r.c]] m Q
  rw [e90]
  have b := endA_b h0 h1 k0 k1
  refine newA_intro fun g1 m2 hg1 e2 hb1 hle2 => ⟨_, cell_of hb1 2, _, cell_of hb1 1, ret_int hle2 hQ ?_⟩
  rw [w64 (x := a.to + 1) (by omega) (by omega), w64 (by omega) (by omega)]
  rfl
/-- An arena by value, and a place in it. -/
def Val1 (m : Mem) (s r : Sl) (a : Ar) (p : Int) : Prop := ArAt m s r a ∧ a.wf ∧ 0 ≤ p ∧ p < a.ws.length
def s97 : Spec := fun args m Q => ∃ (s r : Sl) (a : Ar) (p : Int), args = [vA s r a, .int .i64 p] ∧ Val1 m s r a p ∧ Q (.int .i64 (whereW a.ws p)) m
theorem f97 (t : Tab) (h92 : look t 92 = s92) : ∀ args m Q, s97 args m Q → FA Tryz.prog (look t) kp97 Tryz.f97 args m Q := by
  rintro args m Q ⟨s, r, a, p, rfl, ⟨hA, hw, h0, h1⟩, hQ⟩
  show FA Tryz.prog (look t) kp97 Tryz.f97 [.agg #[.slice s.a s.n s.c, .int .i64 a.semi, .int .i64 a.to, .int .i64 a.top, .bool a.cyc, .int .i64 a.scan, .int .i64 a.old, .int .i64 a.cop, .int .i64 a.ser, .slice r.a r.n r.c], .int .i64 p] m Q
  rw [e97]
  have hn := hA.n
  refine newA_intro fun g1 m2 hg1 e2 hb1 hle2 => ⟨_, _, _, cell_of hb1 0, wd (hA.w.le hle2) hA.n h0 (by omega) fun ad had hd => ⟨_, hd _ (Mem.le_refl _), via h92 ⟨_, rfl, gw_in hw.w p, _, _, rfl, ?_⟩⟩⟩
  unfold whereW at hQ
  cases hb : (fwd (gw a.ws p)).2 with
  | false => rw [if_neg (by decide)]; rw [hb] at hQ; exact ret_intro hle2 hQ
  | true => rw [if_pos rfl]; rw [hb] at hQ; exact ret_intro hle2 hQ
def s56 : Spec := fun args m Q => ∃ (s r : Sl) (a : Ar) (p : Int), args = [vA s r a, .int .i64 p] ∧ Val1 m s r a p ∧ Q (vHd (lookW a.ws p)) m
theorem f56 (t : Tab) (h91 : look t 91 = s91) : ∀ args m Q, s56 args m Q → FA Tryz.prog (look t) kp56 Tryz.f56 args m Q := by
  rintro args m Q ⟨s, r, a, p, rfl, ⟨hA, hw, h0, h1⟩, hQ⟩
  show FA Tryz.prog (look t) kp56 Tryz.f56 [.agg #[.slice s.a s.n s.c, .int .i64 a.semi, .int .i64 a.to, .int .i64 a.top, .bool a.cyc, .int .i64 a.scan, .int .i64 a.old, .int .i64 a.cop, .int .i64 a.ser, .slice r.a r.n r.c], .int .i64 p] m Q
  rw [e56]
  have hn := hA.n
  refine newA_intro fun g1 m2 hg1 e2 hb1 hle2 => newA_intro fun g3 m4 hg3 e4 hb3 hle4 => ⟨_, _, _, cell_of (hle4 _ _ hb1) 0, wd (hA.w.le (Mem.le_trans hle2 hle4)) hA.n h0 (by omega) fun ad had hd => ⟨_, hd _ (Mem.le_refl _), via h91 ⟨_, rfl, gw_in hw.w p, ?_⟩⟩⟩
  refine ⟨_, _, _, _, rfl, newA_intro fun g18 m19 hg18 e19 hb18 hle19 => ?_⟩
  refine sto (c := #[.int .i64 0, .int .i64 0, .int .i64 0]) (t := 72) hb18 rfl (by simp) fun m20 e20 h20 hne20 => ?_
  have h20 : m20 g18 = some (.cells #[.int .i64 (lookW a.ws p).1, .int .i64 (lookW a.ws p).2.1, .int .i64 (lookW a.ws p).2.2] 72 (0, 0)) := h20
  have n1 : g3 ≠ g18 := ne_of_none hg18 hb3
  have b1 : m20 g3 = some (.cells #[.int .i64 0, .int .i64 0, .int .i64 0] 72 (0, 0)) := by rw [hne20 _ n1]; exact hle19 _ _ hb3
  refine ⟨_, cell_of h20 0, _, cell_of h20 1, _, cell_of h20 2, sto (c := #[.int .i64 0, .int .i64 0, .int .i64 0]) (t := 72) b1 rfl (by simp) fun m21 e21 h21 hne21 => ?_⟩
  have h21 : m21 g3 = some (.cells #[.int .i64 (lookW a.ws p).1, .int .i64 (lookW a.ws p).2.1, .int .i64 (lookW a.ws p).2.2] 72 (0, 0)) := h21
  have l4 : Mem.le m2 m20 := le_other (Mem.le_trans hle4 hle19) (le_none hle4 hg18) hne20
  refine ⟨_, cell_of h21 0, _, cell_of h21 1, _, cell_of h21 2, ret_intro (Mem.le_trans hle2 (le_other l4 hg3 hne21)) hQ⟩
def s71 : Spec := fun args m Q => ∃ (s r : Sl) (a : Ar) (p i : Int), args = [vA s r a, .int .i64 p, .int .i64 i] ∧ ArAt m s r a ∧ a.wf ∧ 0 ≤ p ∧ 0 ≤ i ∧ p + i < a.ws.length ∧ Q (.int .i64 (wordW a.ws p i)) m
theorem f71 (t : Tab) : ∀ args m Q, s71 args m Q → FA Tryz.prog (look t) kp71 Tryz.f71 args m Q := by
  rintro args m Q ⟨s, r, a, p, i, rfl, hA, hw, h0, h1, h2, hQ⟩
  show FA Tryz.prog (look t) kp71 Tryz.f71 [.agg #[.slice s.a s.n s.c, .int .i64 a.semi, .int .i64 a.to, .int .i64 a.top, .bool a.cyc, .int .i64 a.scan, .int .i64 a.old, .int .i64 a.cop, .int .i64 a.ser, .slice r.a r.n r.c], .int .i64 p, .int .i64 i] m Q
  rw [e71]
  have hn := hA.n
  have hN := hw.n
  rw [w64 (x := p + i) (by omega) (by omega)]
  exact newA_intro fun g1 m2 hg1 e2 hb1 hle2 => ⟨_, _, _, cell_of hb1 0, wd (hA.w.le hle2) hA.n (by omega) (by omega) fun ad had hd => ⟨_, hd _ (Mem.le_refl _), ret_intro hle2 hQ⟩⟩
def s63 : Spec := fun args m Q => ∃ (g : Nat) (s r : Sl) (a : Ar) (h : Int), args = [.pointer (some ⟨g, 0, none⟩), .int .i64 h] ∧ Ptr m g s r a ∧ 0 ≤ h ∧ h ≤ 1 ∧ 0 ≤ a.semi ∧ a.semi ≤ 4000 ∧ Q (.int .i64 (startA a h)) m
theorem f63 (t : Tab) : ∀ args m Q, s63 args m Q → FA Tryz.prog (look t) kp63 Tryz.f63 args m Q := by
  rintro args m Q ⟨g, s, r, a, h, rfl, hb1, h0, h1, k0, k1, hQ⟩
  rw [e63]
  have e := mul01 (s := a.semi) h0 h1
  have b : 0 ≤ h * a.semi ∧ h * a.semi ≤ 4000 := by rw [e]; split <;> omega
  refine ⟨_, cell_of hb1 1, ret_int (Mem.le_refl _) hQ ?_⟩
  rw [w64 (x := h * a.semi) (by omega) (by omega), w64 (by omega) (by omega)]
  rfl
def s64 : Spec := fun args m Q => ∃ (g : Nat) (s r : Sl) (a : Ar) (h : Int), args = [.pointer (some ⟨g, 0, none⟩), .int .i64 h] ∧ Ptr m g s r a ∧ 0 ≤ h ∧ h ≤ 1 ∧ 0 ≤ a.semi ∧ a.semi ≤ 4000 ∧ Q (.int .i64 (endA a h)) m
theorem f64 (t : Tab) : ∀ args m Q, s64 args m Q → FA Tryz.prog (look t) kp64 Tryz.f64 args m Q := by
  rintro args m Q ⟨g, s, r, a, h, rfl, hb1, h0, h1, k0, k1, hQ⟩
  rw [e64]
  have b := endA_b h0 h1 k0 k1
  refine ⟨_, cell_of hb1 1, ret_int (Mem.le_refl _) hQ ?_⟩
  rw [w64 (x := h + 1) (by omega) (by omega), w64 (by omega) (by omega)]
  rfl
def s66 : Spec := fun args m Q => ∃ (g : Nat) (s r : Sl) (a : Ar), args = [.pointer (some ⟨g, 0, none⟩)] ∧ Ptr m g s r a ∧ 0 ≤ a.to ∧ a.to ≤ 1 ∧ Q (.int .i64 (1 - a.to)) m
theorem f66 (t : Tab) : ∀ args m Q, s66 args m Q → FA Tryz.prog (look t) kp66 Tryz.f66 args m Q := by
  rintro args m Q ⟨g, s, r, a, rfl, hb1, h0, h1, hQ⟩
  rw [e66]
  refine ⟨_, cell_of hb1 2, ret_int (Mem.le_refl _) hQ ?_⟩
  rw [w64 (x := 1 - a.to) (by omega) (by omega)]
def leftA (a : Ar) : Int := if a.cyc then a.old - startA a (1 - a.to) - a.cop else 0
def s67 : Spec := fun args m Q => ∃ (g : Nat) (s r : Sl) (a : Ar), args = [.pointer (some ⟨g, 0, none⟩)] ∧ Ptr m g s r a ∧ a.sm ∧ (a.cyc = true → 0 ≤ a.old ∧ a.old ≤ 8000 ∧ 0 ≤ a.cop ∧ a.cop ≤ 8000) ∧ Q (.int .i64 (leftA a)) m
theorem f67 (t : Tab) (h66 : look t 66 = s66) (h63 : look t 63 = s63) : ∀ args m Q, s67 args m Q → FA Tryz.prog (look t) kp67 Tryz.f67 args m Q := by
  rintro args m Q ⟨g, s, r, a, rfl, hb1, hs, hc, hQ⟩
  rw [e67]
  unfold leftA at hQ
  refine ⟨_, cell_of hb1 4, ?_⟩
  cases c : a.cyc with
  | false => rw [if_pos (by decide)]; rw [c] at hQ; exact ret_intro (Mem.le_refl _) hQ
  | true =>
    rw [if_neg (by decide)]
    rw [c, if_pos rfl] at hQ
    obtain ⟨s0, s1, t0, t1, l⟩ := hs
    obtain ⟨o0, o1, c0, c1⟩ := hc c
    have e := startA_eq (a := a) (h := 1 - a.to) (by omega) (by omega)
    have b : 0 ≤ startA a (1 - a.to) ∧ startA a (1 - a.to) ≤ 8000 := by rw [e]; split <;> omega
    refine ⟨Mem.le m, Mem.le_refl _, _, held (cell_of hb1 6), _, held (cell_of hb1 7), via h66 ⟨g, s, r, a, rfl, hb1, t0, t1, _, rfl, Mem.le_refl _, via h63 ⟨g, s, r, a, _, rfl, hb1, by omega, by omega, by omega, by omega, _, rfl, Mem.le_refl _, ret_int (Mem.le_refl _) hQ ?_⟩⟩⟩
    rw [w64 (x := a.old - _) (by omega) (by omega), w64 (by omega) (by omega)]
def otherA (a : Ar) (p : Int) : Bool := decide (startA a (1 - a.to) ≤ p ∧ p ≤ endA a (1 - a.to) - 1)
def s140 : Spec := fun args m Q => ∃ (g : Nat) (s r : Sl) (a : Ar) (p : Int), args = [.pointer (some ⟨g, 0, none⟩), .int .i64 p] ∧ Ptr m g s r a ∧ a.sm ∧ Q (.bool (otherA a p)) m
theorem f140 (t : Tab) (h66 : look t 66 = s66) (h63 : look t 63 = s63) (h64 : look t 64 = s64) (h47 : look t 47 = s47) : ∀ args m Q, s140 args m Q → FA Tryz.prog (look t) kp140 Tryz.f140 args m Q := by
  rintro args m Q ⟨g, s, r, a, p, rfl, hb1, ⟨s0, s1, t0, t1, l⟩, hQ⟩
  rw [e140]
  have b := endA_b (a := a) (h := 1 - a.to) (by omega) (by omega) (by omega) (by omega)
  refine via h66 ⟨g, s, r, a, rfl, hb1, t0, t1, _, rfl, via h63 ⟨g, s, r, a, _, rfl, hb1, by omega, by omega, by omega, by omega, _, rfl, via h66 ⟨g, s, r, a, rfl, hb1, t0, t1, _, rfl, via h64 ⟨g, s, r, a, _, rfl, hb1, by omega, by omega, by omega, by omega, _, rfl, ?_⟩⟩⟩⟩
  have e : endA a (1 - a.to) = (1 - a.to + 1) * a.semi := rfl
  rw [w64 (x := endA a (1 - a.to) - 1) (by omega) (by omega)]
  exact via h47 ⟨_, _, _, rfl, _, rfl, ret_intro (Mem.le_refl _) hQ⟩
def placeA (a : Ar) (p : Int) : Int := if otherA a p then whereW a.ws p else p
def s129 : Spec := fun args m Q => ∃ (g : Nat) (s r : Sl) (a : Ar) (v : Vl), args = [.pointer (some ⟨g, 0, none⟩), vVl v] ∧ Ptr m g s r a ∧ ArAt m s r a ∧ a.sm ∧ a.wf ∧ Q (.int .i64 (placeA a v.2)) m
theorem f129 (t : Tab) (h140 : look t 140 = s140) (h102 : look t 102 = s102) : ∀ args m Q, s129 args m Q → FA Tryz.prog (look t) kp129 Tryz.f129 args m Q := by
  rintro args m Q ⟨g, s, r, a, v, rfl, hb1, hA, hs, hw, hQ⟩
  show FA Tryz.prog (look t) kp129 Tryz.f129 [.pointer (some ⟨g, 0, none⟩), .agg #[.int .i64 v.1, .int .i64 v.2]] m Q
  rw [e129]
  refine newA_intro fun g1 m2 hg1 e2 hb2 hle2 => ⟨_, cell_of hb2 1, via h140 ⟨g, s, r, a, _, rfl, hle2 _ _ hb1, hs, _, rfl, ?_⟩⟩
  unfold placeA at hQ
  cases c : otherA a v.2 with
  | false => rw [if_neg (by decide)]; rw [c] at hQ; exact ⟨_, cell_of hb2 1, ret_intro hle2 hQ⟩
  | true =>
    rw [if_pos rfl]
    rw [c, if_pos rfl] at hQ
    obtain ⟨s0, s1, t0, t1, l⟩ := hs
    have e := startA_eq (a := a) (h := 1 - a.to) (by omega) (by omega)
    have e' := endA_eq (a := a) (h := 1 - a.to) (by omega) (by omega)
    have hn := hA.n
    have c' : 0 ≤ v.2 ∧ v.2 < s.n := by
      unfold otherA at c
      rw [decide_eq_true_eq, e, e'] at c
      split at c <;> simp_all <;> omega
    refine ⟨Mem.le m2, Mem.le_refl _, _, _, _, held (cell_of (hle2 _ _ hb1) 0), _, held (cell_of hb2 1), wd (hA.w.le hle2) hA.n c'.1 c'.2 fun ad had hd => ⟨_, hd, via h102 ⟨_, rfl, gw_in hw.w _, _, _, rfl, Mem.le_refl _, ?_⟩⟩⟩
    unfold whereW at hQ
    cases hf : (fwd (gw a.ws v.2)).2 with
    | false => rw [if_neg (by decide)]; rw [hf] at hQ; exact ⟨_, cell_of hb2 1, ret_intro hle2 hQ⟩
    | true => rw [if_pos rfl]; rw [hf] at hQ; exact ret_intro hle2 hQ
/-- An arena by its block, and a place in it. -/
def Ptr1 (m : Mem) (g : Nat) (s r : Sl) (a : Ar) (p : Int) : Prop := Ptr m g s r a ∧ ArAt m s r a ∧ a.wf ∧ 0 ≤ p ∧ p < a.ws.length
def s86 : Spec := fun args m Q => ∃ (g : Nat) (s r : Sl) (a : Ar) (p : Int), args = [.pointer (some ⟨g, 0, none⟩), .int .i64 p] ∧ Ptr1 m g s r a p ∧ Q (vHd (lookW a.ws p)) m
theorem f86 (t : Tab) (h103 : look t 103 = s103) : ∀ args m Q, s86 args m Q → FA Tryz.prog (look t) kp86 Tryz.f86 args m Q := by
  rintro args m Q ⟨g, s, r, a, p, rfl, ⟨hb1, hA, hw, h0, h1⟩, hQ⟩
  rw [e86]
  have hn := hA.n
  refine newA_intro fun g3 m4 hg3 e4 hb3 hle4 => ⟨_, _, _, cell_of (hle4 _ _ hb1) 0, wd (hA.w.le hle4) hA.n h0 (by omega) fun ad had hd => ⟨_, hd _ (Mem.le_refl _), via h103 ⟨_, rfl, gw_in hw.w p, ?_⟩⟩⟩
  refine ⟨_, _, _, _, rfl, newA_intro fun g18 m19 hg18 e19 hb18 hle19 => ?_⟩
  refine sto (c := #[.int .i64 0, .int .i64 0, .int .i64 0]) (t := 72) hb18 rfl (by simp) fun m20 e20 h20 hne20 => ?_
  have h20 : m20 g18 = some (.cells #[.int .i64 (lookW a.ws p).1, .int .i64 (lookW a.ws p).2.1, .int .i64 (lookW a.ws p).2.2] 72 (0, 0)) := h20
  have n1 : g3 ≠ g18 := ne_of_none hg18 hb3
  have b1 : m20 g3 = some (.cells #[.int .i64 0, .int .i64 0, .int .i64 0] 72 (0, 0)) := by rw [hne20 _ n1]; exact hle19 _ _ hb3
  refine ⟨_, cell_of h20 0, _, cell_of h20 1, _, cell_of h20 2, sto (c := #[.int .i64 0, .int .i64 0, .int .i64 0]) (t := 72) b1 rfl (by simp) fun m21 e21 h21 hne21 => ?_⟩
  have h21 : m21 g3 = some (.cells #[.int .i64 (lookW a.ws p).1, .int .i64 (lookW a.ws p).2.1, .int .i64 (lookW a.ws p).2.2] 72 (0, 0)) := h21
  have l4 : Mem.le m m20 := le_other (Mem.le_trans hle4 hle19) (le_none hle4 hg18) hne20
  refine ⟨_, cell_of h21 0, _, cell_of h21 1, _, cell_of h21 2, ret_intro (le_other l4 hg3 hne21) hQ⟩
def s125 : Spec := fun args m Q => ∃ (g : Nat) (s r : Sl) (a : Ar) (p : Int), args = [.pointer (some ⟨g, 0, none⟩), .int .i64 p] ∧ Ptr1 m g s r a p ∧ p + 1 < a.ws.length ∧ Q (vVl (valW a.ws p)) m
theorem f125 (t : Tab) : ∀ args m Q, s125 args m Q → FA Tryz.prog (look t) kp125 Tryz.f125 args m Q := by
  rintro args m Q ⟨g, s, r, a, p, rfl, ⟨hb1, hA, hw, h0, h1⟩, h2, hQ⟩
  rw [e125]
  have hn := hA.n
  have hN := hw.n
  rw [w64 (x := p + 1) (by omega) (by omega)]
  refine newA_intro fun g3 m4 hg3 e4 hb3 hle4 => ⟨Mem.le m4, Mem.le_refl _, _, _, _, held (cell_of (hle4 _ _ hb1) 0), wd (hA.w.le hle4) hA.n h0 (by omega) fun ad had hd => ⟨_, hd, _, _, _, held (cell_of (hle4 _ _ hb1) 0), wd (hA.w.le hle4) hA.n (by omega) (by omega) fun ad2 had2 hd2 => ⟨_, hd2, ?_⟩⟩⟩
  refine sto (c := #[.int .i64 0, .int .i64 0]) (t := 58) hb3 rfl (by simp) fun m20 e20 h20 hne20 => ?_
  have h20 : m20 g3 = some (.cells #[.int .i64 (valW a.ws p).1, .int .i64 (valW a.ws p).2] 58 (0, 0)) := h20
  exact ⟨_, cell_of h20 0, _, cell_of h20 1, ret_intro (le_other hle4 hg3 hne20) hQ⟩
end Go.Proofs.YtpdcjocjkbgddaaGreat.Abs
