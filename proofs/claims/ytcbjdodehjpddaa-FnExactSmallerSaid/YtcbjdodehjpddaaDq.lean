/- Contracts of the functions over whole prototypes that the law FnExactDepths reaches. -/
import Derived.Test.YtcbjdodehjpddaaDp
namespace Go.Proofs.Ytcbjdodehjpddaa.Abs
open Go.RowKit
set_option linter.unusedVariables false
set_option linter.unusedSimpArgs false

def s44 : Spec := fun args m Q => ∃ (a : Option Addr) (n c : Nat) (k : Int), args = [.slice a n c, .int .i64 k] ∧ n ≤ 9223372036854775807 ∧ 0 ≤ k ∧ k ≤ 2 ^ 40 ∧ Q (.int .i64 (if k - n < 0 then -1 else k - n)) m
theorem f44 (t : Tab) : ∀ args m Q, s44 args m Q → FA Try.prog (look t) kp44 Try.f44 args m Q := by
  rintro args m Q ⟨a, n, c, k, rfl, hn, h0, h1, h⟩
  rw [e44, w64 (by omega) (by omega)]
  by_cases hk : k - n < 0
  · rw [if_pos (by simpa using hk)]; rw [if_pos hk] at h; exact ret_intro (Mem.le_refl _) h
  · rw [if_neg (by simpa using hk)]; rw [if_neg hk] at h; exact ret_intro (Mem.le_refl _) h
def s45 : Spec := fun args m Q => ∃ (a : Option Addr) (n c : Nat) (k : Int), args = [.slice a n c, .int .i64 k] ∧ n ≤ 9223372036854775807 ∧ 0 ≤ k ∧ k ≤ 2 ^ 40 ∧ Q (.int .i64 (if k - n < 0 then -1 else k - n)) m
theorem f45 (t : Tab) : ∀ args m Q, s45 args m Q → FA Try.prog (look t) kp45 Try.f45 args m Q := by
  rintro args m Q ⟨a, n, c, k, rfl, hn, h0, h1, h⟩
  rw [e45, w64 (by omega) (by omega)]
  by_cases hk : k - n < 0
  · rw [if_pos (by simpa using hk)]; rw [if_pos hk] at h; exact ret_intro (Mem.le_refl _) h
  · rw [if_neg (by simpa using hk)]; rw [if_neg hk] at h; exact ret_intro (Mem.le_refl _) h
def szP (k : Int) (u c : Nat) : Int := if k - u < 0 then -1 else if k - u - c < 0 then -1 else k - u - c
def s17 : Spec := fun args m Q => ∃ (p s : Int) (ua : Option Addr) (un uc : Nat) (ca : Option Addr) (cn cc : Nat) (k : Int), args = [.agg #[.int .i64 p, .int .i64 s, .slice ua un uc, .slice ca cn cc], .int .i64 k] ∧ un ≤ 9223372036854775807 ∧ cn ≤ 9223372036854775807 ∧ 0 ≤ k ∧ k ≤ 2 ^ 40 ∧
  Q (.int .i64 (szP k un cn)) m
theorem f17 (t : Tab) (h44 : look t 44 = s44) (h45 : look t 45 = s45) : ∀ args m Q, s17 args m Q → FA Try.prog (look t) kp17 Try.f17 args m Q := by
  rintro args m Q ⟨p, s, ua, un, uc, ca, cn, cc, k, rfl, hu, hc, h0, h1, h⟩
  rw [e17]
  intro g1 hg1
  have hb := upd_same m g1 (.cells #[.int .i64 p, .int .i64 s, .slice ua un uc, .slice ca cn cc] 33 (0, 0))
  have hle := le_upd (o := .cells #[.int .i64 p, .int .i64 s, .slice ua un uc, .slice ca cn cc] 33 (0, 0)) hg1
  generalize m.upd g1 (.cells #[.int .i64 p, .int .i64 s, .slice ua un uc, .slice ca cn cc] 33 (0, 0)) = m1 at *
  refine ⟨_, _, _, cell_of hb 2, ?_⟩
  rw [h44]
  refine ⟨_, _, _, _, rfl, hu, h0, h1, _, rfl, ?_⟩
  unfold szP at h
  by_cases hk : k - un < 0
  · rw [if_pos hk] at h ⊢
    exact ret_intro hle h
  · rw [if_neg hk] at h ⊢
    rw [if_neg (by simpa using hk)]
    refine ⟨_, _, _, cell_of hb 3, ?_⟩
    rw [h45]
    refine ⟨_, _, _, _, rfl, hc, by omega, by omega, _, rfl, ?_⟩
    by_cases hk2 : k - un - cn < 0
    · rw [if_pos hk2] at h ⊢
      exact ret_intro hle h
    · rw [if_neg hk2] at h ⊢
      rw [if_neg (by simpa using hk2)]
      exact ret_intro hle h
def s19 : Spec := fun args m Q => ∃ (p s : Int) (ua : Option Addr) (un uc : Nat) (ca : Option Addr) (cn cc : Nat) (lu : List (Bool × Int)) (lc : List (Int × Int)), args = [.agg #[.int .i64 p, .int .i64 s, .slice ua un uc, .slice ca cn cc]] ∧
  lu.length = un ∧ lc.length = cn ∧ un ≤ 2 ^ 40 ∧ cn ≤ 2 ^ 40 ∧ Rd m ua lu ∧ Rd m ca lc ∧
  ∀ g1 g2, m g1 = none → m g2 = none → g2 ≠ g1 → Q (.agg #[.int .i64 p, .int .i64 s, .slice (some ⟨g1, 0, none⟩) un un, .slice (some ⟨g2, 0, none⟩) cn cn]) ((m.upd g1 (.cells (flat Enc.e lu).toArray 101 (0, 0))).upd g2 (.cells (flat Enc.e lc).toArray 73 (0, 0)))
theorem f19 (t : Tab) (h49 : look t 49 = s49) (h50 : look t 50 = s50) : ∀ args m Q, s19 args m Q → FA Try.prog (look t) kp19 Try.f19 args m Q := by
  rintro args m Q ⟨p, s, ua, un, uc, ca, cn, cc, lu, lc, rfl, hlu, hlc, hnu, hnc, hu, hcd, h⟩
  rw [e19]
  intro g1 h1 g3 h3 g5 h5
  simp only [upd_none] at h3 h5
  obtain ⟨n31, h3⟩ := h3
  obtain ⟨n53, n51, h5⟩ := h5
  simp [Mem.cell?, Mem.upd, stoA, setAll, one, n31.symm, Ne.symm n53, Ne.symm n51, and_assoc]
  rw [h49]
  refine ⟨ua, un, uc, lu, rfl, hlu, hnu, hu.le ?_, fun gu hgu => ⟨_, _, _, rfl, ?_⟩⟩
  · repeat (first | exact Mem.le_refl _ | refine le_upd_fresh ?_ (by assumption))
  simp only [upd_none] at hgu
  obtain ⟨nu5, -, -, nu3, nu1, hmu⟩ := hgu
  simp [Mem.upd, n31.symm, Ne.symm n53, Ne.symm n51, Ne.symm nu5, Ne.symm nu3, Ne.symm nu1, and_assoc]
  rw [h50]
  refine ⟨ca, cn, cc, lc, rfl, hlc, hnc, hcd.le ?_, fun gc hgc => ⟨_, _, _, rfl, ?_⟩⟩
  · repeat (first | exact Mem.le_refl _ | refine le_upd_fresh ?_ (by assumption))
  simp only [upd_none] at hgc
  obtain ⟨nc5, ncu, -, -, -, nc3, nc1, hmc⟩ := hgc
  simp [Mem.upd, n31.symm, Ne.symm n53, Ne.symm n51, Ne.symm nu5, Ne.symm nu3, Ne.symm nu1, Ne.symm nc5, Ne.symm nc3, Ne.symm nc1, Ne.symm ncu, and_assoc]
  refine ret_intro ?_ (h gu gc hmu hmc ncu)
  refine le_of_upd (le_of_upd ?_ ?_) ?_
  · repeat (first | exact Mem.le_refl _ | refine le_upd_fresh ?_ (by assumption))
  · simp [Mem.upd, nu5, nu3, nu1, Ne.symm ncu]
  · simp [Mem.upd, nc5, nc3, nc1]
/-- What an exact law's equality of prototypes compares. -/
def s21 : Spec := fun args m Q => ∃ (p s : Int) (ua : Option Addr) (un uc : Nat) (ca : Option Addr) (cn cc : Nat) (lu : List (Bool × Int)) (lc : List (Int × Int))
  (p' s' : Int) (ua' : Option Addr) (un' uc' : Nat) (ca' : Option Addr) (cn' cc' : Nat) (lu' : List (Bool × Int)) (lc' : List (Int × Int)),
  args = [.agg #[.int .i64 p, .int .i64 s, .slice ua un uc, .slice ca cn cc], .agg #[.int .i64 p', .int .i64 s', .slice ua' un' uc', .slice ca' cn' cc']] ∧
  lu.length = un ∧ lc.length = cn ∧ lu'.length = un' ∧ lc'.length = cn' ∧ un ≤ 2 ^ 40 ∧ cn ≤ 2 ^ 40 ∧ Rd m ua lu ∧ Rd m ca lc ∧ Rd m ua' lu' ∧ Rd m ca' lc' ∧ Q (.bool (decide (p = p' ∧ s = s' ∧ lu = lu' ∧ lc = lc'))) m
theorem f21 (t : Tab) (h54 : look t 54 = s54) (h55 : look t 55 = s55) : ∀ args m Q, s21 args m Q → FA Try.prog (look t) kp21 Try.f21 args m Q := by
  rintro args m Q ⟨p, s, ua, un, uc, ca, cn, cc, lu, lc, p', s', ua', un', uc', ca', cn', cc', lu', lc', rfl, hlu, hlc, hlu', hlc', hnu, hnc, hu, hcd, hu', hcd', h⟩
  rw [e21]
  refine newA_intro fun g1 m1 hg1 _ hb1 hle1 => newA_intro fun g3 m3 hg3 _ hb3 hle3 => ?_
  have hle := Mem.le_trans hle1 hle3
  have hb1 := hle3 _ _ hb1
  refine ⟨_, cell_of hb1 0, _, cell_of hb3 0, ?_⟩
  by_cases c1 : p = p'
  case neg => rw [if_pos (by simpa using c1)]; exact ret_intro hle (by simpa [c1] using h)
  rw [if_neg (by simpa using c1)]
  refine ⟨_, cell_of hb1 1, _, cell_of hb3 1, ?_⟩
  by_cases c2 : s = s'
  case neg => rw [if_pos (by simpa using c2)]; exact ret_intro hle (by simpa [c1, c2] using h)
  rw [if_neg (by simpa using c2)]
  refine ⟨_, _, _, cell_of hb1 2, _, _, _, cell_of hb3 2, ?_⟩
  rw [h54]
  refine ⟨_, _, _, _, _, _, lu, lu', rfl, hlu, hlu', hnu, hu.le hle, hu'.le hle, _, rfl, ?_⟩
  by_cases c3 : lu = lu'
  case neg => rw [if_pos (by simpa using c3)]; exact ret_intro hle (by simpa [c1, c2, c3] using h)
  rw [if_neg (by simpa using c3)]
  refine ⟨_, _, _, cell_of hb1 3, _, _, _, cell_of hb3 3, ?_⟩
  rw [h55]
  refine ⟨_, _, _, _, _, _, lc, lc', rfl, hlc, hlc', hnc, hcd.le hle, hcd'.le hle, _, rfl, ?_⟩
  by_cases c4 : lc = lc'
  case neg => rw [if_pos (by simpa using c4)]; exact ret_intro hle (by simpa [c1, c2, c3, c4] using h)
  rw [if_neg (by simpa using c4)]
  exact ret_intro hle (by simpa [c1, c2, c3, c4] using h)
def s22 : Spec := fun args m Q => ∃ (p s : Int) (gu un uc gc cn cc : Nat) (lu : List (Bool × Int)) (lc : List (Int × Int)) (k : Int), args = [.agg #[.int .i64 p, .int .i64 s, .slice (some ⟨gu, 0, none⟩) un uc, .slice (some ⟨gc, 0, none⟩) cn cc], .int .i64 k] ∧
  lu.length = un ∧ lc.length = cn ∧ un ≤ 2 ^ 40 ∧ cn ≤ 2 ^ 40 ∧ 0 ≤ k ∧ k ≤ 2 ^ 40 ∧ gu ≠ gc ∧ m gu = some (.cells (flat Enc.e lu).toArray 101 (0, 0)) ∧ m gc = some (.cells (flat Enc.e lc).toArray 73 (0, 0)) ∧
  Q (.int .i64 (k + 2 * un + 2 * cn)) ((m.upd gu (.cells (flat Enc.e (marks56 k un)).toArray 101 (0, 0))).upd gc (.cells (flat Enc.e (marks57 (k + 2 * un) cn)).toArray 73 (0, 0)))
theorem f22 (t : Tab) (h56 : look t 56 = s56) (h57 : look t 57 = s57) : ∀ args m Q, s22 args m Q → FA Try.prog (look t) kp22 Try.f22 args m Q := by
  rintro args m Q ⟨p, s, gu, un, uc, gc, cn, cc, lu, lc, k, rfl, hlu, hlc, hnu, hnc, hk0, hk1, hne, hmu, hmc, h⟩
  rw [e22]
  refine newA_intro fun g1 m1 hg1 e1 hb1 hle1 => ?_
  have n1u : g1 ≠ gu := fun e => by rw [e, hmu] at hg1; cases hg1
  have n1c : g1 ≠ gc := fun e => by rw [e, hmc] at hg1; cases hg1
  refine ⟨_, _, _, cell_of hb1 2, ?_⟩
  rw [h56]
  refine ⟨_, _, _, lu, [], _, _, rfl, hlu, hnu, hk0, by omega, by rw [List.append_nil]; exact hle1 _ _ hmu, _, rfl, ?_⟩
  rw [List.append_nil]
  refine ⟨_, _, _, cell_of ((upd_ne n1u).trans hb1) 3, ?_⟩
  rw [h57]
  refine ⟨_, _, _, lc, [], _, _, rfl, hlc, hnc, by omega, by omega, by rw [List.append_nil]; exact (upd_ne (Ne.symm hne)).trans (hle1 _ _ hmc), _, rfl, ?_⟩
  rw [List.append_nil]
  exact ret_intro (upd_mono (upd_mono hle1 _ _) _ _) h
def s63 : Spec := fun args m Q => ∃ x lo hi : Int, args = [.int .i64 x, .int .i64 lo, .int .i64 hi] ∧ Q (.bool (decide (lo ≤ x ∧ x ≤ hi))) m
theorem f63 (t : Tab) : ∀ args m Q, s63 args m Q → FA Try.prog (look t) kp63 Try.f63 args m Q := by
  rintro args m Q ⟨x, lo, hi, rfl, h⟩
  rw [e63]
  by_cases c : x ≥ lo
  · rw [if_pos (decide_eq_true c)]
    exact ret_intro (Mem.le_refl _) (by simpa [show lo ≤ x from c] using h)
  · rw [if_neg (by simpa using c)]
    exact ret_intro (Mem.le_refl _) (by simpa [show ¬ lo ≤ x from c] using h)
def s53 : Spec := fun args m Q => ∃ x : Int, args = [.int .i64 x] ∧ Q (.bool (decide (18 ≤ x ∧ x ≤ 21))) m
theorem f53 (t : Tab) (h63 : look t 63 = s63) : ∀ args m Q, s53 args m Q → FA Try.prog (look t) kp53 Try.f53 args m Q := by
  rintro args m Q ⟨x, rfl, h⟩
  rw [e53, h63]
  exact ⟨_, _, _, rfl, _, rfl, ret_intro (Mem.le_refl _) h⟩
end Go.Proofs.Ytcbjdodehjpddaa.Abs
