/- Contracts of the functions that the law FnExactDepths reaches. -/
import Derived.Test.YtcbjdodehjpddaaAbx
import Derived.Test.YtcbjdodehjpddaaEqDepths
namespace Go.Proofs.Ytcbjdodehjpddaa.Abs
open Go.RowKit
set_option linter.unusedVariables false

theorem mixed : Try.prog.follows .mixedOrders = true := by kernel_rfl

def s85 : Spec := fun args m Q => ∃ x lo hi : Int, args = [.int .i64 x, .int .i64 lo, .int .i64 hi] ∧ Q (.bool (decide (lo ≤ x ∧ x ≤ hi))) m
theorem f85 (t : Tab) : ∀ args m Q, s85 args m Q → FA Try.prog (look t) kp85 Try.f85 args m Q := by
  rintro args m Q ⟨x, lo, hi, rfl, h⟩
  rw [e85]
  by_cases c : x ≥ lo
  · rw [if_pos (decide_eq_true c)]
    exact ret_intro (Mem.le_refl _) (by simpa [show lo ≤ x from c] using h)
  · rw [if_neg (by simpa using c)]
    exact ret_intro (Mem.le_refl _) (by simpa [show ¬ lo ≤ x from c] using h)
def s89 : Spec := fun args m Q => ∃ x y : Int × Int, args = [.agg #[.int .i64 x.1, .int .i64 x.2], .agg #[.int .i64 y.1, .int .i64 y.2]] ∧ Q (.bool (decide (x = y))) m
theorem f89 (t : Tab) : ∀ args m Q, s89 args m Q → FA Try.prog (look t) kp89 Try.f89 args m Q := by
  rintro args m Q ⟨⟨a, b⟩, ⟨c, d⟩, rfl, h⟩
  rw [e89]
  intro g1 h1 g3 h3
  rw [upd_none] at h3
  obtain ⟨n31, h3⟩ := h3
  have hl : ∀ v, Q v m → ret Q v ((m.upd g1 (.cells #[.int .i64 a, .int .i64 b] 73 (0, 0))).upd g3 (.cells #[.int .i64 c, .int .i64 d] 73 (0, 0))) := fun v hv => ret_intro (le_upd_fresh (le_upd_fresh (Mem.le_refl _) h1) h3) hv
  simp [Mem.cell?, upd_same, upd_ne n31.symm]
  by_cases c1 : a = c <;> by_cases c2 : b = d <;> simp [c1, c2] at h ⊢ <;> subst_vars <;> exact hl _ h
def s87 : Spec := fun args m Q => ∃ x : Int × Int, args = [.agg #[.int .i64 x.1, .int .i64 x.2]] ∧ Q (.agg #[.int .i64 x.1, .int .i64 x.2]) m
theorem f87 (t : Tab) : ∀ args m Q, s87 args m Q → FA Try.prog (look t) kp87 Try.f87 args m Q := by
  rintro args m Q ⟨⟨a, b⟩, rfl, h⟩
  rw [e87]
  intro g1 h1 g3 h3 g5 h5
  simp only [upd_none] at h3 h5
  obtain ⟨n31, h3⟩ := h3
  obtain ⟨n53, n51, h5⟩ := h5
  skip
  all_goals
    simp [Mem.cell?, Mem.upd, stoA, setAll, one, n31.symm, Ne.symm n53, Ne.symm n51, and_assoc]
    refine ret_intro (m1 := m) ?_ h
    intro x o e
    have e1 : x ≠ g1 := by rintro rfl; rw [h1] at e; cases e
    have e3 : x ≠ g3 := by rintro rfl; rw [h3] at e; cases e
    have e5 : x ≠ g5 := by rintro rfl; rw [h5] at e; cases e
    simpa [Mem.upd, e1, e3, e5] using e
def s88 : Spec := fun args m Q => ∃ x y : Bool × Int, args = [.agg #[.bool x.1, .int .i64 x.2], .agg #[.bool y.1, .int .i64 y.2]] ∧ Q (.bool (decide (x = y))) m
theorem f88 (t : Tab) : ∀ args m Q, s88 args m Q → FA Try.prog (look t) kp88 Try.f88 args m Q := by
  rintro args m Q ⟨⟨a, b⟩, ⟨c, d⟩, rfl, h⟩
  rw [e88]
  intro g1 h1 g3 h3
  rw [upd_none] at h3
  obtain ⟨n31, h3⟩ := h3
  have hl : ∀ v, Q v m → ret Q v ((m.upd g1 (.cells #[.bool a, .int .i64 b] 101 (0, 0))).upd g3 (.cells #[.bool c, .int .i64 d] 101 (0, 0))) := fun v hv => ret_intro (le_upd_fresh (le_upd_fresh (Mem.le_refl _) h1) h3) hv
  simp [Mem.cell?, upd_same, upd_ne n31.symm]
  by_cases c1 : a = c <;> by_cases c2 : b = d <;> simp [c1, c2] at h ⊢ <;> subst_vars <;> exact hl _ h
def s86 : Spec := fun args m Q => ∃ x : Bool × Int, args = [.agg #[.bool x.1, .int .i64 x.2]] ∧ Q (.agg #[.bool x.1, .int .i64 x.2]) m
theorem f86 (t : Tab) : ∀ args m Q, s86 args m Q → FA Try.prog (look t) kp86 Try.f86 args m Q := by
  rintro args m Q ⟨⟨a, b⟩, rfl, h⟩
  rw [e86]
  intro g1 h1 g3 h3 g5 h5
  simp only [upd_none] at h3 h5
  obtain ⟨n31, h3⟩ := h3
  obtain ⟨n53, n51, h5⟩ := h5
  cases a
  all_goals
    simp [Mem.cell?, Mem.upd, stoA, setAll, one, n31.symm, Ne.symm n53, Ne.symm n51, and_assoc]
    refine ret_intro (m1 := m) ?_ h
    intro x o e
    have e1 : x ≠ g1 := by rintro rfl; rw [h1] at e; cases e
    have e3 : x ≠ g3 := by rintro rfl; rw [h3] at e; cases e
    have e5 : x ≠ g5 := by rintro rfl; rw [h5] at e; cases e
    simpa [Mem.upd, e1, e3, e5] using e
def s26 : Spec := fun args m Q => ∃ (a : Option Addr) (n c : Nat) (b : Option Addr) (n' c' : Nat) (l l' : List Int), args = [.slice a n c, .slice b n' c'] ∧ l.length = n ∧ l'.length = n' ∧ n ≤ 2 ^ 40 ∧ Rd m a l ∧ Rd m b l' ∧ Q (.bool (decide (l = l'))) m
theorem f26 (t : Tab) : ∀ args m Q, s26 args m Q → FA Try.prog (look t) kp26 Try.f26 args m Q := by
  rintro args m Q ⟨a, n, c, b, n', c', l, l', rfl, hl, hl', hn, ha, hb, h⟩
  rw [e26]
  by_cases hne : n = n'
  case neg =>
    rw [if_pos (by simp; omega)]
    have : l ≠ l' := by rintro rfl; omega
    exact ret_intro (Mem.le_refl _) (by simpa [this] using h)
  rw [if_neg (by simp; omega)]
  subst hne
  suffices key : ∀ d i, i + d = n → l.take i = l'.take i → L26_4 (look t) (d + 1) Q a n c b n c' (i : Int) m from ⟨n + 1, key n 0 (by omega) (by simp)⟩
  intro d
  induction d with
  | zero =>
    intro i hi ht
    rw [l26_4]
    refine ⟨m, Mem.le_refl _, ?_⟩
    rw [if_neg (by simp; omega)]
    rw [List.take_of_length_le (by omega), List.take_of_length_le (by omega)] at ht
    exact ret_intro (Mem.le_refl _) (by simpa [ht] using h)
  | succ d ih =>
    intro i hi ht
    rw [l26_4]
    refine ⟨m, Mem.le_refl _, ?_⟩
    rw [if_pos (by simp; omega)]
    refine ⟨Mem.le m, Mem.le_refl _, idx' ha hl (by omega) (by omega) fun ad had hc => ?_⟩
    refine ⟨_, held (hc 0 _ rfl), idx' hb hl' (by omega) (by omega) fun ad' had' hc' => ?_⟩
    refine ⟨_, held (hc' 0 _ rfl), ?_⟩
    have hx := take_eq_iff (l1 := l) (l2 := l') (i := i) (by omega) (by omega) ht
    simp only [Int.toNat_natCast]
    by_cases hq : l[i]'(by omega) = l'[i]'(by omega)
    · rw [if_neg (by simpa using hq), wsucc (by omega) hn]
      exact ih (i + 1) (by omega) (hx.2 hq)
    · rw [if_pos (by simpa using hq)]
      have : l ≠ l' := by rintro rfl; exact hq rfl
      exact ret_intro (Mem.le_refl _) (by simpa [this] using h)

def marks (k : Int) (n : Nat) : List Int := (List.range n).map fun i : Nat => k + i
def s27 : Spec := fun args m Q => ∃ (g n c : Nat) (l : List Int) (spare : List Value) (k : Int), args = [.slice (some ⟨g, 0, none⟩) n c, .int .i64 k] ∧ l.length = n ∧ n ≤ 2 ^ 40 ∧ 0 ≤ k ∧ k ≤ 2 ^ 40 ∧ m g = some (.cells (flat Enc.e l ++ spare).toArray 3 (0, 0)) ∧
  Q (.int .i64 (k + n)) (m.upd g (.cells (flat Enc.e (marks k n) ++ spare).toArray 3 (0, 0)))
theorem f27 (t : Tab) : ∀ args m Q, s27 args m Q → FA Try.prog (look t) kp27 Try.f27 args m Q := by
  rintro args m Q ⟨g, n, c, l, spare, k, rfl, hl, hn, hk0, hk1, hm, h⟩
  rw [e27]
  suffices key : ∀ d i, i + d = n → ∀ m', m' = m.upd g (.cells (flat Enc.e ((List.range i).map (fun i : Nat => k + i) ++ l.drop i) ++ spare).toArray 3 (0, 0)) → L27_2 (look t) (d + 1) Q (some ⟨g, 0, none⟩) n c (k + i) (i : Int) m' from by
    refine ⟨n + 1, ?_⟩
    have := key n 0 (by omega) m (by
      funext b
      unfold Mem.upd
      by_cases hb : b = g
      · rw [if_pos hb, hb, hm]; simp
      · rw [if_neg hb])
    simpa using this
  intro d
  induction d with
  | zero =>
    intro i hi m' hm'
    rw [l27_2]
    refine ⟨m', Mem.le_refl _, ?_⟩
    rw [if_neg (by simp; omega)]
    have : i = l.length := by omega
    subst this
    rw [row_end] at hm'
    subst hm'
    refine ret_intro (Mem.le_refl _) ?_
    rw [← hl] at h
    exact h
  | succ d ih =>
    intro i hi m' hm'
    rw [l27_2]
    refine ⟨m', Mem.le_refl _, ?_⟩
    rw [if_pos (by simp; omega)]
    refine ⟨by omega, by omega, ?_⟩
    have hmg : m' g = some (.cells (flat Enc.e ((List.range i).map (fun i : Nat => k + i) ++ l.drop i) ++ spare).toArray 3 (0, 0)) := by rw [hm']; exact upd_same _ _ _
    refine sto1 (α := Int) (spare := spare) (i := i) (j := 0) (x := k + i) hmg (by rw [add_eq rfl, Int.toNat_natCast]; exact congrArg (fun x => (⟨g, x, none⟩ : Addr)) (by show 0 + i * 1 = i * 1 + 0; omega)) rfl (by simp; omega) (by decide) rfl ?_
    rw [wsucc (by omega) hn, w64 (by omega) (by omega), show k + (i : Int) + 1 = k + ((i + 1 : Nat) : Int) by omega]
    refine ih (i + 1) (by omega) _ ?_
    rw [hm', upd_upd, upd_row (fun i : Nat => k + (i : Int)) l i (by omega)]
def s28 : Spec := fun args m Q => ∃ (a : Option Addr) (n c : Nat) (k : Int), args = [.slice a n c, .int .i64 k] ∧ n ≤ 2 ^ 40 ∧ 0 ≤ k ∧ k ≤ 2 ^ 40 ∧ Rd m a (marks k n) ∧ Q (.int .i64 (k + n)) m
theorem f28 (t : Tab) : ∀ args m Q, s28 args m Q → FA Try.prog (look t) kp28 Try.f28 args m Q := by
  rintro args m Q ⟨a, n, c, k, rfl, hn, hk0, hk1, ha, h⟩
  rw [e28]
  have hl : (marks k n).length = n := by simp [marks]
  suffices key : ∀ d i, i + d = n → L28_2 (look t) (d + 1) Q a n c (k + i) (i : Int) m from ⟨n + 1, by simpa using key n 0 (by omega)⟩
  intro d
  induction d with
  | zero =>
    intro i hi
    rw [l28_2]
    refine ⟨m, Mem.le_refl _, ?_⟩
    rw [if_neg (by simp; omega)]
    rw [show i = n by omega]
    exact ret_intro (Mem.le_refl _) h
  | succ d ih =>
    intro i hi
    rw [l28_2]
    refine ⟨m, Mem.le_refl _, ?_⟩
    rw [if_pos (by simp; omega)]
    refine idx' ha hl (by omega) (by omega) fun ad had hc => ?_
    refine ⟨k + i, ?_, ?_⟩
    · have := hc 0 (.int .i64 (k + i)) (by simp [marks]; rfl)
      exact this
    · rw [if_neg (by simp), wsucc (by omega) hn, w64 (by omega) (by omega), show k + (i : Int) + 1 = k + ((i + 1 : Nat) : Int) by omega]
      exact ih (i + 1) (by omega)
def s55 : Spec := fun args m Q => ∃ (a : Option Addr) (n c : Nat) (b : Option Addr) (n' c' : Nat) (l l' : List (Int × Int)), args = [.slice a n c, .slice b n' c'] ∧ l.length = n ∧ l'.length = n' ∧ n ≤ 2 ^ 40 ∧ Rd m a l ∧ Rd m b l' ∧ Q (.bool (decide (l = l'))) m
theorem f55 (t : Tab) (hc : look t 89 = s89) : ∀ args m Q, s55 args m Q → FA Try.prog (look t) kp55 Try.f55 args m Q := by
  rintro args m Q ⟨a, n, c, b, n', c', l, l', rfl, hl, hl', hn, ha, hb, h⟩
  rw [e55]
  by_cases hne : n = n'
  case neg =>
    rw [if_pos (by simp; omega)]
    have : l ≠ l' := by rintro rfl; omega
    exact ret_intro (Mem.le_refl _) (by simpa [this] using h)
  rw [if_neg (by simp; omega)]
  subst hne
  suffices key : ∀ d i, i + d = n → l.take i = l'.take i → L55_4 (look t) (d + 1) Q a n c b n c' (i : Int) m from ⟨n + 1, key n 0 (by omega) (by simp)⟩
  intro d
  induction d with
  | zero =>
    intro i hi ht
    rw [l55_4]
    refine ⟨m, Mem.le_refl _, ?_⟩
    rw [if_neg (by simp; omega)]
    rw [List.take_of_length_le (by omega), List.take_of_length_le (by omega)] at ht
    exact ret_intro (Mem.le_refl _) (by simpa [ht] using h)
  | succ d ih =>
    intro i hi ht
    rw [l55_4]
    refine ⟨m, Mem.le_refl _, ?_⟩
    rw [if_pos (by simp; omega)]
    refine ⟨Mem.le m, Mem.le_refl _, idx' ha hl (by omega) (by omega) fun ad had hd => ?_⟩
    refine ⟨_, held (hd 0 _ rfl), _, held (hd 1 _ rfl), idx' hb hl' (by omega) (by omega) fun ad' had' hd' => ?_⟩
    refine ⟨_, held (hd' 0 _ rfl), _, held (hd' 1 _ rfl), ?_⟩
    have hx := take_eq_iff (l1 := l) (l2 := l') (i := i) (by omega) (by omega) ht
    simp only [Int.toNat_natCast]
    rw [hc]
    refine ⟨l[i]'(by omega), l'[i]'(by omega), rfl, _, rfl, Mem.le_refl _, ?_⟩
    by_cases hq : l[i]'(by omega) = l'[i]'(by omega)
    · rw [if_neg (by simpa using hq), wsucc (by omega) hn]
      exact ih (i + 1) (by omega) (hx.2 hq)
    · rw [if_pos (by simpa using hq)]
      have : l ≠ l' := by rintro rfl; exact hq rfl
      exact ret_intro (Mem.le_refl _) (by simpa [this] using h)
def s54 : Spec := fun args m Q => ∃ (a : Option Addr) (n c : Nat) (b : Option Addr) (n' c' : Nat) (l l' : List (Bool × Int)), args = [.slice a n c, .slice b n' c'] ∧ l.length = n ∧ l'.length = n' ∧ n ≤ 2 ^ 40 ∧ Rd m a l ∧ Rd m b l' ∧ Q (.bool (decide (l = l'))) m
theorem f54 (t : Tab) (hc : look t 88 = s88) : ∀ args m Q, s54 args m Q → FA Try.prog (look t) kp54 Try.f54 args m Q := by
  rintro args m Q ⟨a, n, c, b, n', c', l, l', rfl, hl, hl', hn, ha, hb, h⟩
  rw [e54]
  by_cases hne : n = n'
  case neg =>
    rw [if_pos (by simp; omega)]
    have : l ≠ l' := by rintro rfl; omega
    exact ret_intro (Mem.le_refl _) (by simpa [this] using h)
  rw [if_neg (by simp; omega)]
  subst hne
  suffices key : ∀ d i, i + d = n → l.take i = l'.take i → L54_4 (look t) (d + 1) Q a n c b n c' (i : Int) m from ⟨n + 1, key n 0 (by omega) (by simp)⟩
  intro d
  induction d with
  | zero =>
    intro i hi ht
    rw [l54_4]
    refine ⟨m, Mem.le_refl _, ?_⟩
    rw [if_neg (by simp; omega)]
    rw [List.take_of_length_le (by omega), List.take_of_length_le (by omega)] at ht
    exact ret_intro (Mem.le_refl _) (by simpa [ht] using h)
  | succ d ih =>
    intro i hi ht
    rw [l54_4]
    refine ⟨m, Mem.le_refl _, ?_⟩
    rw [if_pos (by simp; omega)]
    refine ⟨Mem.le m, Mem.le_refl _, idx' ha hl (by omega) (by omega) fun ad had hd => ?_⟩
    refine ⟨_, held (hd 0 _ rfl), _, held (hd 1 _ rfl), idx' hb hl' (by omega) (by omega) fun ad' had' hd' => ?_⟩
    refine ⟨_, held (hd' 0 _ rfl), _, held (hd' 1 _ rfl), ?_⟩
    have hx := take_eq_iff (l1 := l) (l2 := l') (i := i) (by omega) (by omega) ht
    simp only [Int.toNat_natCast]
    rw [hc]
    refine ⟨l[i]'(by omega), l'[i]'(by omega), rfl, _, rfl, Mem.le_refl _, ?_⟩
    by_cases hq : l[i]'(by omega) = l'[i]'(by omega)
    · rw [if_neg (by simpa using hq), wsucc (by omega) hn]
      exact ih (i + 1) (by omega) (hx.2 hq)
    · rw [if_pos (by simpa using hq)]
      have : l ≠ l' := by rintro rfl; exact hq rfl
      exact ret_intro (Mem.le_refl _) (by simpa [this] using h)
def s50 : Spec := fun args m Q => ∃ (a : Option Addr) (n c : Nat) (l : List (Int × Int)), args = [.slice a n c] ∧ l.length = n ∧ n ≤ 2 ^ 40 ∧ Rd m a l ∧ ∀ g, m g = none → Q (.slice (some ⟨g, 0, none⟩) n n) (m.upd g (.cells (flat Enc.e l).toArray 73 (0, 0)))
theorem f50 (t : Tab) (hc : look t 87 = s87) : ∀ args m Q, s50 args m Q → FA Try.prog (look t) kp50 Try.f50 args m Q := by
  rintro args m Q ⟨a, n, c, l, rfl, hl, hn, ha, h⟩
  rw [e50]
  refine ⟨by omega, by omega, by omega, by omega, ?_⟩
  intro g hg
  have h := h g hg
  simp only [Int.toNat_natCast]
  suffices key : ∀ d i, i + d = n → ∀ m', m' = m.upd g (.cells (flat Enc.e ((List.range i).map (fun i => l.getD i (0, 0)) ++ (List.replicate n (0, 0)).drop i)).toArray 73 (0, 0)) → L50_3 (look t) (d + 1) Q a n c (some ⟨g, 0, none⟩) n n (i : Int) m' from by
    refine ⟨n + 1, key n 0 (by omega) _ ?_⟩
    have := zeroRow_eq ((0, 0) : Int × Int) n
    rw [show (zeroRow #[.int .i64 (0, 0).1, .int .i64 (0, 0).2] (n * 2)) = _ from this]
    simp
  intro d
  induction d with
  | zero =>
    intro i hi m' hm'
    rw [l50_3]
    refine ⟨m', Mem.le_refl _, ?_⟩
    rw [if_neg (by simp; omega)]
    refine ret_intro (Mem.le_refl _) ?_
    rw [hm', List.drop_eq_nil_of_le (by simp; omega), List.append_nil, show i = l.length by omega, map_range]
    exact h
  | succ d ih =>
    intro i hi m' hm'
    rw [l50_3]
    refine ⟨m', Mem.le_refl _, ?_⟩
    rw [if_pos (by simp; omega)]
    have ha' : Rd m' a l := by rw [hm']; exact ha.le (le_upd hg)
    refine idx' ha' hl (by omega) (by omega) fun ad had hd => ?_
    refine ⟨_, hd 0 _ rfl, _, hd 1 _ rfl, ?_⟩
    rw [hc]
    refine ⟨l[((i : Nat) : Int).toNat]'(by simp; omega), rfl, _, _, rfl, ?_⟩
    refine ⟨by omega, by omega, ?_⟩
    have hmg : m' g = some (.cells (flat Enc.e ((List.range i).map (fun i => l.getD i (0, 0)) ++ (List.replicate n (0, 0)).drop i)).toArray 73 (0, 0)) := by rw [hm']; exact upd_same _ _ _
    simp only [Int.toNat_natCast]
    refine sto2 (α := Int × Int) (spare := []) (i := i) (x := l[i]'(by omega)) (y := ((l[i]'(by omega)).1, (0, 0).2)) (by rw [List.append_nil]; exact hmg) (by rw [add_eq rfl]; simp; rfl) rfl rfl (by simp; omega) (by decide) ?_ rfl ?_
    · rw [row_get (fun i => l.getD i (0, 0)) (List.replicate n (0, 0)) i (by simp; omega), List.getElem_replicate]
      rfl
    · rw [wsucc (by omega) hn]
      refine ih (i + 1) (by omega) _ ?_
      have := upd_row (fun i => l.getD i (0, 0)) (List.replicate n (0, 0)) i (by simp; omega)
      rw [show l.getD i (0, 0) = l[i]'(by omega) by simp [List.getD_eq_getElem?_getD, List.getElem?_eq_getElem (show i < l.length by omega)]] at this
      rw [hm', upd_upd, List.append_nil, this]
def s49 : Spec := fun args m Q => ∃ (a : Option Addr) (n c : Nat) (l : List (Bool × Int)), args = [.slice a n c] ∧ l.length = n ∧ n ≤ 2 ^ 40 ∧ Rd m a l ∧ ∀ g, m g = none → Q (.slice (some ⟨g, 0, none⟩) n n) (m.upd g (.cells (flat Enc.e l).toArray 101 (0, 0)))
theorem f49 (t : Tab) (hc : look t 86 = s86) : ∀ args m Q, s49 args m Q → FA Try.prog (look t) kp49 Try.f49 args m Q := by
  rintro args m Q ⟨a, n, c, l, rfl, hl, hn, ha, h⟩
  rw [e49]
  refine ⟨by omega, by omega, by omega, by omega, ?_⟩
  intro g hg
  have h := h g hg
  simp only [Int.toNat_natCast]
  suffices key : ∀ d i, i + d = n → ∀ m', m' = m.upd g (.cells (flat Enc.e ((List.range i).map (fun i => l.getD i (false, 0)) ++ (List.replicate n (false, 0)).drop i)).toArray 101 (0, 0)) → L49_3 (look t) (d + 1) Q a n c (some ⟨g, 0, none⟩) n n (i : Int) m' from by
    refine ⟨n + 1, key n 0 (by omega) _ ?_⟩
    have := zeroRow_eq ((false, 0) : Bool × Int) n
    rw [show (zeroRow #[.bool (false, 0).1, .int .i64 (false, 0).2] (n * 2)) = _ from this]
    simp
  intro d
  induction d with
  | zero =>
    intro i hi m' hm'
    rw [l49_3]
    refine ⟨m', Mem.le_refl _, ?_⟩
    rw [if_neg (by simp; omega)]
    refine ret_intro (Mem.le_refl _) ?_
    rw [hm', List.drop_eq_nil_of_le (by simp; omega), List.append_nil, show i = l.length by omega, map_range]
    exact h
  | succ d ih =>
    intro i hi m' hm'
    rw [l49_3]
    refine ⟨m', Mem.le_refl _, ?_⟩
    rw [if_pos (by simp; omega)]
    have ha' : Rd m' a l := by rw [hm']; exact ha.le (le_upd hg)
    refine idx' ha' hl (by omega) (by omega) fun ad had hd => ?_
    refine ⟨_, hd 0 _ rfl, _, hd 1 _ rfl, ?_⟩
    rw [hc]
    refine ⟨l[((i : Nat) : Int).toNat]'(by simp; omega), rfl, _, _, rfl, ?_⟩
    refine ⟨by omega, by omega, ?_⟩
    have hmg : m' g = some (.cells (flat Enc.e ((List.range i).map (fun i => l.getD i (false, 0)) ++ (List.replicate n (false, 0)).drop i)).toArray 101 (0, 0)) := by rw [hm']; exact upd_same _ _ _
    simp only [Int.toNat_natCast]
    refine sto2 (α := Bool × Int) (spare := []) (i := i) (x := l[i]'(by omega)) (y := ((l[i]'(by omega)).1, (false, 0).2)) (by rw [List.append_nil]; exact hmg) (by rw [add_eq rfl]; simp; rfl) rfl rfl (by simp; omega) (by decide) ?_ rfl ?_
    · rw [row_get (fun i => l.getD i (false, 0)) (List.replicate n (false, 0)) i (by simp; omega), List.getElem_replicate]
      rfl
    · rw [wsucc (by omega) hn]
      refine ih (i + 1) (by omega) _ ?_
      have := upd_row (fun i => l.getD i (false, 0)) (List.replicate n (false, 0)) i (by simp; omega)
      rw [show l.getD i (false, 0) = l[i]'(by omega) by simp [List.getD_eq_getElem?_getD, List.getElem?_eq_getElem (show i < l.length by omega)]] at this
      rw [hm', upd_upd, List.append_nil, this]
def marks57 (k : Int) (n : Nat) : List (Int × Int) := (List.range n).map fun i : Nat => ((k + 2 * i), k + 2 * i + 1)
def s57 : Spec := fun args m Q => ∃ (g n c : Nat) (l : List (Int × Int)) (spare : List Value) (ty : TypeId) (k : Int), args = [.slice (some ⟨g, 0, none⟩) n c, .int .i64 k] ∧ l.length = n ∧ n ≤ 2 ^ 40 ∧ 0 ≤ k ∧ k ≤ 2 ^ 50 ∧ m g = some (.cells (flat Enc.e l ++ spare).toArray ty (0, 0)) ∧
  Q (.int .i64 (k + 2 * n)) (m.upd g (.cells (flat Enc.e (marks57 k n) ++ spare).toArray ty (0, 0)))
theorem f57 (t : Tab) : ∀ args m Q, s57 args m Q → FA Try.prog (look t) kp57 Try.f57 args m Q := by
  rintro args m Q ⟨g, n, c, l, spare, ty, k, rfl, hl, hn, hk0, hk1, hm, h⟩
  rw [e57]
  suffices key : ∀ d i, i + d = n → ∀ m', m' = m.upd g (.cells (flat Enc.e ((List.range i).map (fun i : Nat => ((k + 2 * (i : Int)), k + 2 * (i : Int) + 1)) ++ l.drop i) ++ spare).toArray ty (0, 0)) → L57_2 (look t) (d + 1) Q (some ⟨g, 0, none⟩) n c (k + 2 * i) (i : Int) m' from by
    refine ⟨n + 1, ?_⟩
    have := key n 0 (by omega) m (by
      funext b
      unfold Mem.upd
      by_cases hb : b = g
      · rw [if_pos hb, hb, hm]; simp
      · rw [if_neg hb])
    simpa using this
  intro d
  induction d with
  | zero =>
    intro i hi m' hm'
    rw [l57_2]
    refine ⟨m', Mem.le_refl _, ?_⟩
    rw [if_neg (by simp; omega)]
    have : i = l.length := by omega
    subst this
    rw [row_end] at hm'
    subst hm'
    refine ret_intro (Mem.le_refl _) ?_
    rw [← hl] at h
    exact h
  | succ d ih =>
    intro i hi m' hm'
    rw [l57_2]
    refine ⟨m', Mem.le_refl _, ?_⟩
    rw [if_pos (by simp; omega)]
    refine ⟨by omega, by omega, ?_⟩
    have hmg : m' g = some (.cells (flat Enc.e ((List.range i).map (fun i : Nat => ((k + 2 * (i : Int)), k + 2 * (i : Int) + 1)) ++ l.drop i) ++ spare).toArray ty (0, 0)) := by rw [hm']; exact upd_same _ _ _
    refine sto1 (α := Int × Int) (spare := spare) (i := i) (j := 0) (x := ((k + 2 * (i : Int)), (l[i]'(by omega)).2)) hmg (by rw [add_eq rfl]; simp; rfl) rfl (by simp; omega) (by decide) ?_ ?_
    · rw [row_get _ _ _ (by omega)]; rfl
    refine ⟨by omega, by omega, ?_⟩
    refine sto1 (α := Int × Int) (spare := spare) (i := i) (j := 1) (x := ((k + 2 * (i : Int)), k + 2 * (i : Int) + 1)) (upd_same _ _ _) (by rw [add_add, add_eq rfl]; simp; rfl) rfl (by simp; omega) (by decide) ?_ ?_
    · rw [List.getElem_set_self, w64 (by omega) (by omega)]; rfl
    rw [wsucc (by omega) hn, w64 (x := k + 2 * (i : Int) + (1 : Int)) (by omega) (by omega), w64 (by omega) (by omega), show k + 2 * (i : Int) + 1 + 1 = k + 2 * ((i + 1 : Nat) : Int) by omega]
    refine ih (i + 1) (by omega) _ ?_
    rw [hm', upd_upd, upd_upd, List.set_set, upd_row (fun i : Nat => ((k + 2 * (i : Int)), k + 2 * (i : Int) + 1)) l i (by omega)]
def marks56 (k : Int) (n : Nat) : List (Bool × Int) := (List.range n).map fun i : Nat => ((Int.tmod (k + 2 * i) 3 == 0), k + 2 * i + 1)
def s56 : Spec := fun args m Q => ∃ (g n c : Nat) (l : List (Bool × Int)) (spare : List Value) (ty : TypeId) (k : Int), args = [.slice (some ⟨g, 0, none⟩) n c, .int .i64 k] ∧ l.length = n ∧ n ≤ 2 ^ 40 ∧ 0 ≤ k ∧ k ≤ 2 ^ 50 ∧ m g = some (.cells (flat Enc.e l ++ spare).toArray ty (0, 0)) ∧
  Q (.int .i64 (k + 2 * n)) (m.upd g (.cells (flat Enc.e (marks56 k n) ++ spare).toArray ty (0, 0)))
theorem f56 (t : Tab) : ∀ args m Q, s56 args m Q → FA Try.prog (look t) kp56 Try.f56 args m Q := by
  rintro args m Q ⟨g, n, c, l, spare, ty, k, rfl, hl, hn, hk0, hk1, hm, h⟩
  rw [e56]
  suffices key : ∀ d i, i + d = n → ∀ m', m' = m.upd g (.cells (flat Enc.e ((List.range i).map (fun i : Nat => ((Int.tmod (k + 2 * (i : Int)) 3 == 0), k + 2 * (i : Int) + 1)) ++ l.drop i) ++ spare).toArray ty (0, 0)) → L56_2 (look t) (d + 1) Q (some ⟨g, 0, none⟩) n c (k + 2 * i) (i : Int) m' from by
    refine ⟨n + 1, ?_⟩
    have := key n 0 (by omega) m (by
      funext b
      unfold Mem.upd
      by_cases hb : b = g
      · rw [if_pos hb, hb, hm]; simp
      · rw [if_neg hb])
    simpa using this
  intro d
  induction d with
  | zero =>
    intro i hi m' hm'
    rw [l56_2]
    refine ⟨m', Mem.le_refl _, ?_⟩
    rw [if_neg (by simp; omega)]
    have : i = l.length := by omega
    subst this
    rw [row_end] at hm'
    subst hm'
    refine ret_intro (Mem.le_refl _) ?_
    rw [← hl] at h
    exact h
  | succ d ih =>
    intro i hi m' hm'
    rw [l56_2]
    refine ⟨m', Mem.le_refl _, ?_⟩
    rw [if_pos (by simp; omega)]
    refine ⟨by decide, by omega, by omega, ?_⟩
    have hmg : m' g = some (.cells (flat Enc.e ((List.range i).map (fun i : Nat => ((Int.tmod (k + 2 * (i : Int)) 3 == 0), k + 2 * (i : Int) + 1)) ++ l.drop i) ++ spare).toArray ty (0, 0)) := by rw [hm']; exact upd_same _ _ _
    refine sto1 (α := Bool × Int) (spare := spare) (i := i) (j := 0) (x := ((Int.tmod (k + 2 * (i : Int)) 3 == 0), (l[i]'(by omega)).2)) hmg (by rw [add_eq rfl]; simp; rfl) rfl (by simp; omega) (by decide) ?_ ?_
    · rw [row_get _ _ _ (by omega)]; rfl
    refine ⟨by omega, by omega, ?_⟩
    refine sto1 (α := Bool × Int) (spare := spare) (i := i) (j := 1) (x := ((Int.tmod (k + 2 * (i : Int)) 3 == 0), k + 2 * (i : Int) + 1)) (upd_same _ _ _) (by rw [add_add, add_eq rfl]; simp; rfl) rfl (by simp; omega) (by decide) ?_ ?_
    · rw [List.getElem_set_self, w64 (by omega) (by omega)]; rfl
    rw [wsucc (by omega) hn, w64 (x := k + 2 * (i : Int) + (1 : Int)) (by omega) (by omega), w64 (by omega) (by omega), show k + 2 * (i : Int) + 1 + 1 = k + 2 * ((i + 1 : Nat) : Int) by omega]
    refine ih (i + 1) (by omega) _ ?_
    rw [hm', upd_upd, upd_upd, List.set_set, upd_row (fun i : Nat => ((Int.tmod (k + 2 * (i : Int)) 3 == 0), k + 2 * (i : Int) + 1)) l i (by omega)]
end Go.Proofs.Ytcbjdodehjpddaa.Abs
