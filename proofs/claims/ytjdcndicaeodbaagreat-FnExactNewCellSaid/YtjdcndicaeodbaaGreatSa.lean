/- The laws' functions over rows. -/
import Derived.Test.YtjdcndicaeodbaaGreatNj
import Derived.Test.YtjdcndicaeodbaaGreatOq
import Derived.Test.YtjdcndicaeodbaaGreatEqL
import Derived.Test.YtjdcndicaeodbaaGreatRa
namespace Go.Proofs.YtjdcndicaeodbaaGreat.Abs
open Go.RowKit
set_option linter.unusedVariables false
set_option linter.unusedSimpArgs false
set_option maxRecDepth 20000
def okR {α : Type} (l : List α) : Prop := l.length ≤ 2 ^ 20
def big {α : Type} (l : List α) : Prop := l.length ≤ 9223372036854775807
def szB {α : Type} (d : Ds α) (v : d.H → Value) (bg : α → Prop) (ok : α → Prop) : Spec := fun args m Q => ∃ (h : d.H) (x : α) (k : Int), args = [v h, .int .i64 k] ∧ d.At m h x ∧ bg x ∧ 0 ≤ k ∧ k ≤ 2 ^ 20 ∧ ∀ r : Int, (r < 0 ∨ 0 ≤ r ∧ r ≤ k ∧ ok x) → Q (.int .i64 r) m
theorem ownL_new {α : Type} [Enc α] {m : Mem} {g n : Nat} {t : TypeId} {l : List α} (hn : l.length = n) (h : m g = some (.cells (flat Enc.e l).toArray t (0, 0))) : OwnL m ⟨some ⟨g, 0, none⟩, n, n⟩ l [g] :=
  ⟨hn.symm, .inr ⟨g, t, [], rfl, rfl, by simpa using h, by rw [← hn]; simp⟩⟩
def s51 : Spec := szB (.rows U64) vs big okR
theorem f51 (t : Tab) : ∀ args m Q, s51 args m Q → FA Tryz.prog (look t) kp51 Tryz.f51 args m Q := by
  rintro args m Q ⟨⟨a, n, c⟩, l, k, rfl, ⟨hn, hrd⟩, hb, h0, h1, h⟩
  have hn : n = l.length := hn
  have hb : l.length ≤ 9223372036854775807 := hb
  show FA Tryz.prog (look t) kp51 Tryz.f51 [.slice a n c, .int .i64 k] m Q
  rw [e51, w64 (by omega) (by omega)]
  by_cases hk : k - n < 0
  · rw [if_pos (by simpa using hk)]
    exact ret_intro (Mem.le_refl _) (h _ (.inl (by decide)))
  rw [if_neg (by simpa using hk)]
  exact ret_intro (Mem.le_refl _) (h _ (.inr ⟨by omega, by omega, by show l.length ≤ 2 ^ 20; omega⟩))
def s56 : Spec := toS (.rows U64) vs vs okR
theorem f56 (t : Tab) : ∀ args m Q, s56 args m Q → FA Tryz.prog (look t) kp56 Tryz.f56 args m Q := by
  rintro args m Q ⟨⟨a, n, c⟩, l, rfl, ⟨hn, hrd⟩, hok, h⟩
  have hn : n = l.length := hn
  have hrd : Rd m a l := hrd
  have hok : l.length ≤ 2 ^ 20 := hok
  show FA Tryz.prog (look t) kp56 Tryz.f56 [.slice a n c] m Q
  rw [e56]
  refine ⟨by omega, by omega, by omega, by omega, ?_⟩
  refine newA_intro fun g1 m2 hg1 e2 hb2 hle2 => ?_
  simp only [Int.toNat_natCast] at *
  have hz : zeroRow #[.int .u64 0] (n * 1) = (flat Enc.e (List.replicate n (⟨0⟩ : U64))).toArray := zeroRow_eq (⟨0⟩ : U64) n
  rw [hz] at hb2
  suffices key : ∀ d i, i + d = n → ∀ (M : Mem), M g1 = some (.cells (flat Enc.e (l.take i ++ List.replicate (n - i) (⟨0⟩ : U64))).toArray 74 (0, 0)) → Mem.le m M → L56_3 (look t) (d + 1) Q a n c (some ⟨g1, 0, none⟩) n n (i : Int) M from
    ⟨n + 1, key n 0 (by omega) m2 (by simpa using hb2) hle2⟩
  intro d
  induction d with
  | zero =>
    intro i hi M hg hle
    rw [l56_3]
    refine ⟨M, Mem.le_refl _, ?_⟩
    rw [if_neg (by simp; omega)]
    have ei : n - i = 0 := by omega
    rw [ei, List.replicate_zero, List.append_nil, List.take_of_length_le (by omega)] at hg
    exact ret_intro (Mem.le_refl _) (h ⟨some ⟨g1, 0, none⟩, n, n⟩ [g1] M hle (by simp [hg1]) (by simp) (ownL_new hn.symm hg))
  | succ d ih =>
    intro i hi M hg hle
    rw [l56_3]
    refine ⟨M, Mem.le_refl _, ?_⟩
    rw [if_pos (by simp; omega)]
    have hil : i < l.length := by omega
    refine idx' (hrd.le hle) hn.symm (by omega) (by omega) fun ad had hd => ?_
    simp only [Int.toNat_natCast] at hd ⊢
    refine ⟨_, hd 0 _ rfl, by omega, by omega, ?_⟩
    refine sto_elem (α := U64) (spare := []) (l := l.take i ++ List.replicate (n - i) (⟨0⟩ : U64)) (i := i) (x := l[i]) (by rw [List.append_nil]; exact hg) (by rw [add_eq rfl, Nat.zero_add]; rfl) (by simp; omega) ?_
    rw [wsucc (n := n) (by omega) (by omega)]
    refine ih (i + 1) (by omega) _ ?_ (le_upd_fresh hle hg1)
    rw [upd_same, List.append_nil, List.set_append_right _ _ (by simp; omega), List.length_take, Nat.min_eq_left (by omega), Nat.sub_self, show n - i = (n - (i + 1)) + 1 by omega, List.replicate_succ, List.set_cons_zero, List.take_succ_eq_append_getElem hil, List.append_assoc]
    rfl
def s62 : Spec := eqS (.rows U64) vs okR
theorem f62 (t : Tab) : ∀ args m Q, s62 args m Q → FA Tryz.prog (look t) kp62 Tryz.f62 args m Q := by
  rintro args m Q ⟨⟨a, n, c⟩, l, ⟨b, n', c'⟩, l', rfl, ⟨hl, ha⟩, ⟨hl', hb⟩, hok, h⟩
  have hl : n = l.length := hl
  have hl' : l'.length = n' := Eq.symm hl'
  have ha : Rd m a l := ha
  have hb : Rd m b l' := hb
  have hn : l.length ≤ 2 ^ 20 := hok
  show FA Tryz.prog (look t) kp62 Tryz.f62 [.slice a n c, .slice b n' c'] m Q
  rw [e62]
  by_cases hne : n = n'
  case neg =>
    rw [if_pos (by simp; omega)]
    have : l ≠ l' := by rintro rfl; omega
    exact ret_intro (Mem.le_refl _) (by simpa [this] using h)
  rw [if_neg (by simp; omega)]
  subst hne
  suffices key : ∀ d i, i + d = n → l.take i = l'.take i → L62_4 (look t) (d + 1) Q a n c b n c' (i : Int) m from ⟨n + 1, key n 0 (by omega) (by simp)⟩
  intro d
  induction d with
  | zero =>
    intro i hi ht
    rw [l62_4]
    refine ⟨m, Mem.le_refl _, ?_⟩
    rw [if_neg (by simp; omega)]
    rw [List.take_of_length_le (by omega), List.take_of_length_le (by omega)] at ht
    exact ret_intro (Mem.le_refl _) (by simpa [ht] using h)
  | succ d ih =>
    intro i hi ht
    rw [l62_4]
    refine ⟨m, Mem.le_refl _, ?_⟩
    rw [if_pos (by simp; omega)]
    refine ⟨Mem.le m, Mem.le_refl _, idx' ha hl.symm (by omega) (by omega) fun ad had hd => ?_⟩
    refine ⟨_, held (hd 0 _ rfl), idx' hb hl' (by omega) (by omega) fun ad' had' hd' => ?_⟩
    refine ⟨_, held (hd' 0 _ rfl), ?_⟩
    have hx := take_eq_iff (l1 := l) (l2 := l') (i := i) (by omega) (by omega) ht
    simp only [Int.toNat_natCast]
    by_cases hq : l[i]'(by omega) = l'[i]'(by omega)
    · rw [if_neg (by rw [hq]; simp), wsucc (n := n) (by omega) (by omega)]
      exact ih (i + 1) (by omega) (hx.2 hq)
    · rw [if_pos (by rw [bne_iff_ne]; exact fun e => hq (by
        generalize l[i]'(by omega) = x at e ⊢
        generalize l'[i]'(by omega) = y at e ⊢
        cases x; cases y; simp at e; rw [e]))]
      have : l ≠ l' := by rintro rfl; exact hq rfl
      exact ret_intro (Mem.le_refl _) (by simpa [this] using h)
def mkU64 (k : Int) (l : List U64) : List U64 := (List.range l.length).map fun i : Nat => ⟨IntKind.u64.wrap (k + (i : Int))⟩
theorem mkU64_len (k : Int) (l : List U64) : (mkU64 k l).length = l.length := by simp [mkU64]
def s64 : Spec := mkS (.rows U64) vs mkU64 (fun l => l.length) okR (2 ^ 50)
theorem f64 (t : Tab) : ∀ args m Q, s64 args m Q → FA Tryz.prog (look t) kp64 Tryz.f64 args m Q := by
  rintro args m Q ⟨⟨a, n, c⟩, l, D, k, rfl, ⟨hn, hO⟩, hnd, hok, hk0, hk1, h⟩
  have hn : n = l.length := hn
  have hok : l.length ≤ 2 ^ 20 := hok
  rcases hO with ⟨ha, hc, hl, hD⟩ | ⟨g, ty, spare, ha, hD, hm, hsz⟩
  · have ha : a = none := ha
    have hc : c = 0 := hc
    subst ha hc hl hD hn
    show FA Tryz.prog (look t) kp64 Tryz.f64 [.slice none 0 0, .int .i64 k] m Q
    rw [e64]
    refine ⟨1, ?_⟩
    rw [l64_2]
    refine ⟨m, Mem.le_refl _, ?_⟩
    rw [if_neg (by simp)]
    have := h m (fun _ _ => rfl) ⟨rfl, .inl ⟨rfl, rfl, rfl, rfl⟩⟩
    simp at this
    exact ret_intro (Mem.le_refl _) this
  have ha : a = some ⟨g, 0, none⟩ := ha
  subst ha hD
  show FA Tryz.prog (look t) kp64 Tryz.f64 [.slice (some ⟨g, 0, none⟩) n c, .int .i64 k] m Q
  rw [e64]
  suffices key : ∀ d i, i + d = n → ∀ M : Mem, (∀ b, b ≠ g → M b = m b) → M g = some (.cells (flat Enc.e ((List.range i).map (fun i : Nat => (⟨IntKind.u64.wrap (k + (i : Int))⟩ : U64)) ++ l.drop i) ++ spare).toArray ty (0, 0)) → L64_2 (look t) (d + 1) Q (some ⟨g, 0, none⟩) n c (k + (i : Int)) (i : Int) M from ⟨n + 1, by simpa using key n 0 (by omega) m (fun _ _ => rfl) (by simpa using hm)⟩
  intro d
  induction d with
  | zero =>
    intro i hi M ho hg
    rw [l64_2]
    refine ⟨M, Mem.le_refl _, ?_⟩
    rw [if_neg (by simp; omega)]
    have ei : i = l.length := by omega
    subst ei
    rw [row_end] at hg
    have := h M (fun b hb => ho b (by simpa using hb)) ⟨by rw [mkU64_len]; exact hn, .inr ⟨g, ty, spare, rfl, rfl, hg, by show (mkU64 k l).length * _ + _ = _; rw [mkU64_len]; exact hsz⟩⟩
    exact ret_intro (Mem.le_refl _) (by simpa using this)
  | succ d ih =>
    intro i hi M ho hg
    rw [l64_2]
    refine ⟨M, Mem.le_refl _, ?_⟩
    rw [if_pos (by simp; omega)]
    refine ⟨by omega, by omega, ?_⟩
    refine sto_elem (α := U64) (spare := spare) (l := (List.range i).map (fun i : Nat => (⟨IntKind.u64.wrap (k + (i : Int))⟩ : U64)) ++ l.drop i) (i := i) (x := (⟨IntKind.u64.wrap (k + (i : Int))⟩ : U64)) hg (by rw [add_eq rfl, Nat.zero_add]; rfl) (by simp; omega) ?_
    rw [wsucc (n := n) (by omega) (by omega), w64 (x := k + (i : Int) + 1) (by omega) (by omega), show k + (i : Int) + 1 = k + ((i + 1 : Nat) : Int) by omega]
    refine ih (i + 1) (by omega) _ (fun b hb => ?_) ?_
    · rw [upd_ne hb, ho b hb]
    · rw [upd_same, upd_row (fun i : Nat => (⟨IntKind.u64.wrap (k + (i : Int))⟩ : U64)) l i (by omega)]
def s118 : Spec := hdS (.rows U64) vs mkU64 (fun l => l.length) okR (2 ^ 50)
theorem f118 (t : Tab) : ∀ args m Q, s118 args m Q → FA Tryz.prog (look t) kp118 Tryz.f118 args m Q := by
  rintro args m Q ⟨⟨a, n, c⟩, l, k, rfl, ⟨hn, hrd⟩, hok, hk0, hk1, h⟩
  have hn : n = (mkU64 k l).length := hn
  rw [mkU64_len] at hn
  have hok : l.length ≤ 2 ^ 20 := hok
  have hrd : Rd m a (mkU64 k l) := hrd
  show FA Tryz.prog (look t) kp118 Tryz.f118 [.slice a n c, .int .i64 k] m Q
  rw [e118]
  suffices key : ∀ d i, i + d = n → L118_2 (look t) (d + 1) Q a n c (k + (i : Int)) (i : Int) m from ⟨n + 1, by simpa using key n 0 (by omega)⟩
  intro d
  induction d with
  | zero =>
    intro i hi
    rw [l118_2]
    refine ⟨m, Mem.le_refl _, ?_⟩
    rw [if_neg (by simp; omega)]
    have e : k + (i : Int) = k + ((l.length : Nat) : Int) := by push_cast; omega
    rw [e]
    exact ret_intro (Mem.le_refl _) h
  | succ d ih =>
    intro i hi
    rw [l118_2]
    refine ⟨m, Mem.le_refl _, ?_⟩
    rw [if_pos (by simp; omega)]
    have hx : (mkU64 k l)[i]'(by rw [mkU64_len]; omega) = ⟨IntKind.u64.wrap (k + (i : Int))⟩ := by simp [mkU64]
    refine idx' hrd (by rw [mkU64_len]; exact hn.symm) (by omega) (by omega) fun ad had hd => ?_
    simp only [Int.toNat_natCast] at hd ⊢
    rw [hx] at hd
    refine ⟨_, hd 0 _ rfl, ?_⟩
    rw [if_neg (by simp), w64 (x := k + (i : Int) + 1) (by omega) (by omega), wsucc (n := n) (by omega) (by omega), show k + (i : Int) + 1 = k + ((i + 1 : Nat) : Int) by omega]
    exact ih (i + 1) (by omega)
def s15 : Spec := eqS (.rows Int) vs okR
theorem f15 (t : Tab) : ∀ args m Q, s15 args m Q → FA Tryz.prog (look t) kp15 Tryz.f15 args m Q := by
  rintro args m Q ⟨⟨a, n, c⟩, l, ⟨b, n', c'⟩, l', rfl, ⟨hl, ha⟩, ⟨hl', hb⟩, hok, h⟩
  have hl : n = l.length := hl
  have hl' : l'.length = n' := Eq.symm hl'
  have ha : Rd m a l := ha
  have hb : Rd m b l' := hb
  have hn : l.length ≤ 2 ^ 20 := hok
  show FA Tryz.prog (look t) kp15 Tryz.f15 [.slice a n c, .slice b n' c'] m Q
  rw [e15]
  by_cases hne : n = n'
  case neg =>
    rw [if_pos (by simp; omega)]
    have : l ≠ l' := by rintro rfl; omega
    exact ret_intro (Mem.le_refl _) (by simpa [this] using h)
  rw [if_neg (by simp; omega)]
  subst hne
  suffices key : ∀ d i, i + d = n → l.take i = l'.take i → L15_4 (look t) (d + 1) Q a n c b n c' (i : Int) m from ⟨n + 1, key n 0 (by omega) (by simp)⟩
  intro d
  induction d with
  | zero =>
    intro i hi ht
    rw [l15_4]
    refine ⟨m, Mem.le_refl _, ?_⟩
    rw [if_neg (by simp; omega)]
    rw [List.take_of_length_le (by omega), List.take_of_length_le (by omega)] at ht
    exact ret_intro (Mem.le_refl _) (by simpa [ht] using h)
  | succ d ih =>
    intro i hi ht
    rw [l15_4]
    refine ⟨m, Mem.le_refl _, ?_⟩
    rw [if_pos (by simp; omega)]
    refine ⟨Mem.le m, Mem.le_refl _, idx' ha hl.symm (by omega) (by omega) fun ad had hd => ?_⟩
    refine ⟨_, held (hd 0 _ rfl), idx' hb hl' (by omega) (by omega) fun ad' had' hd' => ?_⟩
    refine ⟨_, held (hd' 0 _ rfl), ?_⟩
    have hx := take_eq_iff (l1 := l) (l2 := l') (i := i) (by omega) (by omega) ht
    simp only [Int.toNat_natCast]
    by_cases hq : l[i]'(by omega) = l'[i]'(by omega)
    · rw [if_neg (by rw [hq]; simp), wsucc (n := n) (by omega) (by omega)]
      exact ih (i + 1) (by omega) (hx.2 hq)
    · rw [if_pos (by simpa using hq)]
      have : l ≠ l' := by rintro rfl; exact hq rfl
      exact ret_intro (Mem.le_refl _) (by simpa [this] using h)
def mkInt (k : Int) (l : List Int) : List Int := (List.range l.length).map fun i : Nat => k + (i : Int)
theorem mkInt_len (k : Int) (l : List Int) : (mkInt k l).length = l.length := by simp [mkInt]
def s18 : Spec := mkS (.rows Int) vs mkInt (fun l => l.length) okR (2 ^ 50)
theorem f18 (t : Tab) : ∀ args m Q, s18 args m Q → FA Tryz.prog (look t) kp18 Tryz.f18 args m Q := by
  rintro args m Q ⟨⟨a, n, c⟩, l, D, k, rfl, ⟨hn, hO⟩, hnd, hok, hk0, hk1, h⟩
  have hn : n = l.length := hn
  have hok : l.length ≤ 2 ^ 20 := hok
  rcases hO with ⟨ha, hc, hl, hD⟩ | ⟨g, ty, spare, ha, hD, hm, hsz⟩
  · have ha : a = none := ha
    have hc : c = 0 := hc
    subst ha hc hl hD hn
    show FA Tryz.prog (look t) kp18 Tryz.f18 [.slice none 0 0, .int .i64 k] m Q
    rw [e18]
    refine ⟨1, ?_⟩
    rw [l18_2]
    refine ⟨m, Mem.le_refl _, ?_⟩
    rw [if_neg (by simp)]
    have := h m (fun _ _ => rfl) ⟨rfl, .inl ⟨rfl, rfl, rfl, rfl⟩⟩
    simp at this
    exact ret_intro (Mem.le_refl _) this
  have ha : a = some ⟨g, 0, none⟩ := ha
  subst ha hD
  show FA Tryz.prog (look t) kp18 Tryz.f18 [.slice (some ⟨g, 0, none⟩) n c, .int .i64 k] m Q
  rw [e18]
  suffices key : ∀ d i, i + d = n → ∀ M : Mem, (∀ b, b ≠ g → M b = m b) → M g = some (.cells (flat Enc.e ((List.range i).map (fun i : Nat => (k + (i : Int) : Int)) ++ l.drop i) ++ spare).toArray ty (0, 0)) → L18_2 (look t) (d + 1) Q (some ⟨g, 0, none⟩) n c (k + (i : Int)) (i : Int) M from ⟨n + 1, by simpa using key n 0 (by omega) m (fun _ _ => rfl) (by simpa using hm)⟩
  intro d
  induction d with
  | zero =>
    intro i hi M ho hg
    rw [l18_2]
    refine ⟨M, Mem.le_refl _, ?_⟩
    rw [if_neg (by simp; omega)]
    have ei : i = l.length := by omega
    subst ei
    rw [row_end] at hg
    have := h M (fun b hb => ho b (by simpa using hb)) ⟨by rw [mkInt_len]; exact hn, .inr ⟨g, ty, spare, rfl, rfl, hg, by show (mkInt k l).length * _ + _ = _; rw [mkInt_len]; exact hsz⟩⟩
    exact ret_intro (Mem.le_refl _) (by simpa using this)
  | succ d ih =>
    intro i hi M ho hg
    rw [l18_2]
    refine ⟨M, Mem.le_refl _, ?_⟩
    rw [if_pos (by simp; omega)]
    refine ⟨by omega, by omega, ?_⟩
    refine sto_elem (α := Int) (spare := spare) (l := (List.range i).map (fun i : Nat => (k + (i : Int) : Int)) ++ l.drop i) (i := i) (x := (k + (i : Int) : Int)) hg (by rw [add_eq rfl, Nat.zero_add]; rfl) (by simp; omega) ?_
    rw [wsucc (n := n) (by omega) (by omega), w64 (x := k + (i : Int) + 1) (by omega) (by omega), show k + (i : Int) + 1 = k + ((i + 1 : Nat) : Int) by omega]
    refine ih (i + 1) (by omega) _ (fun b hb => ?_) ?_
    · rw [upd_ne hb, ho b hb]
    · rw [upd_same, upd_row (fun i : Nat => (k + (i : Int) : Int)) l i (by omega)]
def s19 : Spec := hdS (.rows Int) vs mkInt (fun l => l.length) okR (2 ^ 50)
theorem f19 (t : Tab) : ∀ args m Q, s19 args m Q → FA Tryz.prog (look t) kp19 Tryz.f19 args m Q := by
  rintro args m Q ⟨⟨a, n, c⟩, l, k, rfl, ⟨hn, hrd⟩, hok, hk0, hk1, h⟩
  have hn : n = (mkInt k l).length := hn
  rw [mkInt_len] at hn
  have hok : l.length ≤ 2 ^ 20 := hok
  have hrd : Rd m a (mkInt k l) := hrd
  show FA Tryz.prog (look t) kp19 Tryz.f19 [.slice a n c, .int .i64 k] m Q
  rw [e19]
  suffices key : ∀ d i, i + d = n → L19_2 (look t) (d + 1) Q a n c (k + (i : Int)) (i : Int) m from ⟨n + 1, by simpa using key n 0 (by omega)⟩
  intro d
  induction d with
  | zero =>
    intro i hi
    rw [l19_2]
    refine ⟨m, Mem.le_refl _, ?_⟩
    rw [if_neg (by simp; omega)]
    have e : k + (i : Int) = k + ((l.length : Nat) : Int) := by push_cast; omega
    rw [e]
    exact ret_intro (Mem.le_refl _) h
  | succ d ih =>
    intro i hi
    rw [l19_2]
    refine ⟨m, Mem.le_refl _, ?_⟩
    rw [if_pos (by simp; omega)]
    have hx : (mkInt k l)[i]'(by rw [mkInt_len]; omega) = k + (i : Int) := by simp [mkInt]
    refine idx' hrd (by rw [mkInt_len]; exact hn.symm) (by omega) (by omega) fun ad had hd => ?_
    simp only [Int.toNat_natCast] at hd ⊢
    rw [hx] at hd
    refine ⟨_, hd 0 _ rfl, ?_⟩
    rw [if_neg (by simp), w64 (x := k + (i : Int) + 1) (by omega) (by omega), wsucc (n := n) (by omega) (by omega), show k + (i : Int) + 1 = k + ((i + 1 : Nat) : Int) by omega]
    exact ih (i + 1) (by omega)
def s71 : Spec := fun args m Q => ∃ v : Vl, args = [vVl v] ∧ Q (vVl v) m
theorem f71 (t : Tab) : ∀ args m Q, s71 args m Q → FA Tryz.prog (look t) kp71 Tryz.f71 args m Q := by
  rintro args m Q ⟨⟨a, b⟩, rfl, h⟩
  show FA Tryz.prog (look t) kp71 Tryz.f71 [.agg #[.int .i64 a, .int .i64 b]] m Q
  rw [e71]
  intro g1 h1 g3 h3 g5 h5
  simp only [upd_none] at h3 h5
  obtain ⟨n31, h3⟩ := h3
  obtain ⟨n53, n51, h5⟩ := h5
  simp [Mem.cell?, Mem.upd, stoA, setAll, one, n31.symm, Ne.symm n53, Ne.symm n51, and_assoc]
  refine ret_intro (m1 := m) ?_ h
  intro x o e
  have e1 : x ≠ g1 := by rintro rfl; rw [h1] at e; cases e
  have e3 : x ≠ g3 := by rintro rfl; rw [h3] at e; cases e
  have e5 : x ≠ g5 := by rintro rfl; rw [h5] at e; cases e
  simpa [Mem.upd, e1, e3, e5] using e
def s76 : Spec := fun args m Q => ∃ x y : Vl, args = [vVl x, vVl y] ∧ Q (.bool (decide (x = y))) m
theorem f76 (t : Tab) : ∀ args m Q, s76 args m Q → FA Tryz.prog (look t) kp76 Tryz.f76 args m Q := by
  rintro args m Q ⟨⟨a, b⟩, ⟨c, d⟩, rfl, h⟩
  show FA Tryz.prog (look t) kp76 Tryz.f76 [.agg #[.int .i64 a, .int .i64 b], .agg #[.int .i64 c, .int .i64 d]] m Q
  rw [e76]
  refine newA_intro fun g1 m2 hg1 e2 hb1 hle2 => newA_intro fun g3 m4 hg3 e4 hb3 hle4 => ⟨_, cell_of (hle4 _ _ hb1) 0, _, cell_of hb3 0, ?_⟩
  have l4 := Mem.le_trans hle2 hle4
  by_cases c1 : a = c
  case neg => rw [if_pos (by simpa using c1)]; exact ret_bool l4 h (by simp [c1])
  rw [if_neg (by simpa using c1)]
  refine ⟨_, cell_of (hle4 _ _ hb1) 1, _, cell_of hb3 1, ?_⟩
  by_cases c2 : b = d
  · rw [if_neg (by simpa using c2)]; exact ret_bool l4 h (by simp [c1, c2])
  · rw [if_pos (by simpa using c2)]; exact ret_bool l4 h (by simp [c2])
def s52 : Spec := szB (.rows Vl) vs big okR
theorem f52 (t : Tab) : ∀ args m Q, s52 args m Q → FA Tryz.prog (look t) kp52 Tryz.f52 args m Q := by
  rintro args m Q ⟨⟨a, n, c⟩, l, k, rfl, ⟨hn, hrd⟩, hb, h0, h1, h⟩
  have hn : n = l.length := hn
  have hb : l.length ≤ 9223372036854775807 := hb
  show FA Tryz.prog (look t) kp52 Tryz.f52 [.slice a n c, .int .i64 k] m Q
  rw [e52, w64 (by omega) (by omega)]
  by_cases hk : k - n < 0
  · rw [if_pos (by simpa using hk)]
    exact ret_intro (Mem.le_refl _) (h _ (.inl (by decide)))
  rw [if_neg (by simpa using hk)]
  exact ret_intro (Mem.le_refl _) (h _ (.inr ⟨by omega, by omega, by show l.length ≤ 2 ^ 20; omega⟩))
def s57 : Spec := toS (.rows Vl) vs vs okR
theorem f57 (t : Tab) (hc : look t 71 = s71) : ∀ args m Q, s57 args m Q → FA Tryz.prog (look t) kp57 Tryz.f57 args m Q := by
  rintro args m Q ⟨⟨a, n, c⟩, l, rfl, ⟨hn, hrd⟩, hok, h⟩
  have hn : n = l.length := hn
  have hrd : Rd m a l := hrd
  have hok : l.length ≤ 2 ^ 20 := hok
  show FA Tryz.prog (look t) kp57 Tryz.f57 [.slice a n c] m Q
  rw [e57]
  refine ⟨by omega, by omega, by omega, by omega, ?_⟩
  refine newA_intro fun g1 m2 hg1 e2 hb2 hle2 => ?_
  simp only [Int.toNat_natCast] at *
  have hz : zeroRow #[.int .i64 0, .int .i64 0] (n * 2) = (flat Enc.e (List.replicate n ((0, 0) : Vl))).toArray := zeroRow_eq ((0, 0) : Vl) n
  rw [hz] at hb2
  suffices key : ∀ d i, i + d = n → ∀ (M : Mem), M g1 = some (.cells (flat Enc.e (l.take i ++ List.replicate (n - i) ((0, 0) : Vl))).toArray 52 (0, 0)) → Mem.le m M → L57_3 (look t) (d + 1) Q a n c (some ⟨g1, 0, none⟩) n n (i : Int) M from
    ⟨n + 1, key n 0 (by omega) m2 (by simpa using hb2) hle2⟩
  intro d
  induction d with
  | zero =>
    intro i hi M hg hle
    rw [l57_3]
    refine ⟨M, Mem.le_refl _, ?_⟩
    rw [if_neg (by simp; omega)]
    have ei : n - i = 0 := by omega
    rw [ei, List.replicate_zero, List.append_nil, List.take_of_length_le (by omega)] at hg
    exact ret_intro (Mem.le_refl _) (h ⟨some ⟨g1, 0, none⟩, n, n⟩ [g1] M hle (by simp [hg1]) (by simp) (ownL_new hn.symm hg))
  | succ d ih =>
    intro i hi M hg hle
    rw [l57_3]
    refine ⟨M, Mem.le_refl _, ?_⟩
    rw [if_pos (by simp; omega)]
    have hil : i < l.length := by omega
    refine idx' (hrd.le hle) hn.symm (by omega) (by omega) fun ad had hd => ?_
    simp only [Int.toNat_natCast] at hd ⊢
    refine ⟨_, hd 0 _ rfl, _, hd 1 _ rfl, ?_⟩
    rw [hc]
    refine ⟨l[i], rfl, _, _, rfl, by omega, by omega, ?_⟩
    refine sto_elem (α := Vl) (spare := []) (l := l.take i ++ List.replicate (n - i) ((0, 0) : Vl)) (i := i) (x := l[i]) (by rw [List.append_nil]; exact hg) (by rw [add_eq rfl, Nat.zero_add]; rfl) (by simp; omega) ?_
    rw [wsucc (n := n) (by omega) (by omega)]
    refine ih (i + 1) (by omega) _ ?_ (le_upd_fresh hle hg1)
    rw [upd_same, List.append_nil, List.set_append_right _ _ (by simp; omega), List.length_take, Nat.min_eq_left (by omega), Nat.sub_self, show n - i = (n - (i + 1)) + 1 by omega, List.replicate_succ, List.set_cons_zero, List.take_succ_eq_append_getElem hil, List.append_assoc]
    rfl
def s63 : Spec := eqS (.rows Vl) vs okR
theorem f63 (t : Tab) (hc : look t 76 = s76) : ∀ args m Q, s63 args m Q → FA Tryz.prog (look t) kp63 Tryz.f63 args m Q := by
  rintro args m Q ⟨⟨a, n, c⟩, l, ⟨b, n', c'⟩, l', rfl, ⟨hl, ha⟩, ⟨hl', hb⟩, hok, h⟩
  have hl : n = l.length := hl
  have hl' : l'.length = n' := Eq.symm hl'
  have ha : Rd m a l := ha
  have hb : Rd m b l' := hb
  have hn : l.length ≤ 2 ^ 20 := hok
  show FA Tryz.prog (look t) kp63 Tryz.f63 [.slice a n c, .slice b n' c'] m Q
  rw [e63]
  by_cases hne : n = n'
  case neg =>
    rw [if_pos (by simp; omega)]
    have : l ≠ l' := by rintro rfl; omega
    exact ret_intro (Mem.le_refl _) (by simpa [this] using h)
  rw [if_neg (by simp; omega)]
  subst hne
  suffices key : ∀ d i, i + d = n → l.take i = l'.take i → L63_4 (look t) (d + 1) Q a n c b n c' (i : Int) m from ⟨n + 1, key n 0 (by omega) (by simp)⟩
  intro d
  induction d with
  | zero =>
    intro i hi ht
    rw [l63_4]
    refine ⟨m, Mem.le_refl _, ?_⟩
    rw [if_neg (by simp; omega)]
    rw [List.take_of_length_le (by omega), List.take_of_length_le (by omega)] at ht
    exact ret_intro (Mem.le_refl _) (by simpa [ht] using h)
  | succ d ih =>
    intro i hi ht
    rw [l63_4]
    refine ⟨m, Mem.le_refl _, ?_⟩
    rw [if_pos (by simp; omega)]
    refine ⟨Mem.le m, Mem.le_refl _, idx' ha hl.symm (by omega) (by omega) fun ad had hd => ?_⟩
    refine ⟨_, held (hd 0 _ rfl), _, held (hd 1 _ rfl), idx' hb hl' (by omega) (by omega) fun ad' had' hd' => ?_⟩
    refine ⟨_, held (hd' 0 _ rfl), _, held (hd' 1 _ rfl), ?_⟩
    have hx := take_eq_iff (l1 := l) (l2 := l') (i := i) (by omega) (by omega) ht
    simp only [Int.toNat_natCast]
    rw [hc]
    refine ⟨l[i]'(by omega), l'[i]'(by omega), rfl, _, rfl, Mem.le_refl _, ?_⟩
    by_cases hq : l[i]'(by omega) = l'[i]'(by omega)
    · rw [if_neg (by simpa using hq), wsucc (n := n) (by omega) (by omega)]
      exact ih (i + 1) (by omega) (hx.2 hq)
    · rw [if_pos (by simpa using hq)]
      have : l ≠ l' := by rintro rfl; exact hq rfl
      exact ret_intro (Mem.le_refl _) (by simpa [this] using h)
def mkVl (k : Int) (l : List Vl) : List Vl := (List.range l.length).map fun i : Nat => (k + 2 * (i : Int), k + 2 * (i : Int) + 1)
theorem mkVl_len (k : Int) (l : List Vl) : (mkVl k l).length = l.length := by simp [mkVl]
def s65 : Spec := mkS (.rows Vl) vs mkVl (fun l => 2 * l.length) okR (2 ^ 50)
theorem f65 (t : Tab) : ∀ args m Q, s65 args m Q → FA Tryz.prog (look t) kp65 Tryz.f65 args m Q := by
  rintro args m Q ⟨⟨a, n, c⟩, l, D, k, rfl, ⟨hn, hO⟩, hnd, hok, hk0, hk1, h⟩
  have hn : n = l.length := hn
  have hok : l.length ≤ 2 ^ 20 := hok
  rcases hO with ⟨ha, hc, hl, hD⟩ | ⟨g, ty, spare, ha, hD, hm, hsz⟩
  · have ha : a = none := ha
    have hc : c = 0 := hc
    subst ha hc hl hD hn
    show FA Tryz.prog (look t) kp65 Tryz.f65 [.slice none 0 0, .int .i64 k] m Q
    rw [e65]
    refine ⟨1, ?_⟩
    rw [l65_2]
    refine ⟨m, Mem.le_refl _, ?_⟩
    rw [if_neg (by simp)]
    have := h m (fun _ _ => rfl) ⟨rfl, .inl ⟨rfl, rfl, rfl, rfl⟩⟩
    simp at this
    exact ret_intro (Mem.le_refl _) this
  have ha : a = some ⟨g, 0, none⟩ := ha
  subst ha hD
  show FA Tryz.prog (look t) kp65 Tryz.f65 [.slice (some ⟨g, 0, none⟩) n c, .int .i64 k] m Q
  rw [e65]
  suffices key : ∀ d i, i + d = n → ∀ M : Mem, (∀ b, b ≠ g → M b = m b) → M g = some (.cells (flat Enc.e ((List.range i).map (fun i : Nat => ((k + 2 * (i : Int), k + 2 * (i : Int) + 1) : Vl)) ++ l.drop i) ++ spare).toArray ty (0, 0)) → L65_2 (look t) (d + 1) Q (some ⟨g, 0, none⟩) n c (k + 2 * (i : Int)) (i : Int) M from ⟨n + 1, by simpa using key n 0 (by omega) m (fun _ _ => rfl) (by simpa using hm)⟩
  intro d
  induction d with
  | zero =>
    intro i hi M ho hg
    rw [l65_2]
    refine ⟨M, Mem.le_refl _, ?_⟩
    rw [if_neg (by simp; omega)]
    have ei : i = l.length := by omega
    subst ei
    rw [row_end] at hg
    have := h M (fun b hb => ho b (by simpa using hb)) ⟨by rw [mkVl_len]; exact hn, .inr ⟨g, ty, spare, rfl, rfl, hg, by show (mkVl k l).length * _ + _ = _; rw [mkVl_len]; exact hsz⟩⟩
    exact ret_intro (Mem.le_refl _) (by simpa using this)
  | succ d ih =>
    intro i hi M ho hg
    rw [l65_2]
    refine ⟨M, Mem.le_refl _, ?_⟩
    rw [if_pos (by simp; omega)]
    refine ⟨by omega, by omega, ?_⟩
    refine sto1 (α := Vl) (spare := spare) (i := i) (j := 0) (x := (k + 2 * (i : Int), (l[i]'(by omega)).2)) hg (by rw [add_eq rfl]; simp; rfl) rfl (by simp; omega) (by decide) ?_ ?_
    · rw [row_get _ _ _ (by omega)]; rfl
    refine ⟨by omega, by omega, ?_⟩
    refine sto1 (α := Vl) (spare := spare) (i := i) (j := 1) (x := (k + 2 * (i : Int), k + 2 * (i : Int) + 1)) (upd_same _ _ _) (by rw [add_add, add_eq rfl]; simp; rfl) rfl (by simp; omega) (by decide) ?_ ?_
    · rw [List.getElem_set_self, w64 (by omega) (by omega)]; rfl
    rw [wsucc (n := n) (by omega) (by omega), w64 (x := k + 2 * (i : Int) + (1 : Int)) (by omega) (by omega), w64 (by omega) (by omega), show k + 2 * (i : Int) + 1 + 1 = k + 2 * ((i + 1 : Nat) : Int) by omega]
    refine ih (i + 1) (by omega) _ (fun b hb => ?_) ?_
    · rw [upd_ne hb, upd_ne hb, ho b hb]
    · rw [upd_same, List.set_set, upd_row (fun i : Nat => ((k + 2 * (i : Int), k + 2 * (i : Int) + 1) : Vl)) l i (by omega)]
def s119 : Spec := hdS (.rows Vl) vs mkVl (fun l => 2 * l.length) okR (2 ^ 50)
theorem f119 (t : Tab) : ∀ args m Q, s119 args m Q → FA Tryz.prog (look t) kp119 Tryz.f119 args m Q := by
  rintro args m Q ⟨⟨a, n, c⟩, l, k, rfl, ⟨hn, hrd⟩, hok, hk0, hk1, h⟩
  have hn : n = (mkVl k l).length := hn
  rw [mkVl_len] at hn
  have hok : l.length ≤ 2 ^ 20 := hok
  have hrd : Rd m a (mkVl k l) := hrd
  show FA Tryz.prog (look t) kp119 Tryz.f119 [.slice a n c, .int .i64 k] m Q
  rw [e119]
  suffices key : ∀ d i, i + d = n → L119_2 (look t) (d + 1) Q a n c (k + 2 * (i : Int)) (i : Int) m from ⟨n + 1, by simpa using key n 0 (by omega)⟩
  intro d
  induction d with
  | zero =>
    intro i hi
    rw [l119_2]
    refine ⟨m, Mem.le_refl _, ?_⟩
    rw [if_neg (by simp; omega)]
    have e : k + 2 * (i : Int) = k + ((2 * l.length : Nat) : Int) := by push_cast; omega
    rw [e]
    exact ret_intro (Mem.le_refl _) h
  | succ d ih =>
    intro i hi
    rw [l119_2]
    refine ⟨m, Mem.le_refl _, ?_⟩
    rw [if_pos (by simp; omega)]
    have hx : (mkVl k l)[i]'(by rw [mkVl_len]; omega) = (k + 2 * (i : Int), k + 2 * (i : Int) + 1) := by simp [mkVl]
    refine idx' hrd (by rw [mkVl_len]; exact hn.symm) (by omega) (by omega) fun ad had hd => ?_
    simp only [Int.toNat_natCast] at hd ⊢
    rw [hx] at hd
    refine ⟨_, hd 0 _ rfl, ?_⟩
    rw [if_neg (by simp)]
    refine idx' hrd (by rw [mkVl_len]; exact hn.symm) (by omega) (by omega) fun ad' had' hd' => ?_
    simp only [Int.toNat_natCast] at hd' ⊢
    rw [hx] at hd'
    refine ⟨_, hd' 1 _ rfl, ?_⟩
    rw [w64 (x := k + 2 * (i : Int) + 1) (by omega) (by omega), if_neg (by simp), w64 (by omega) (by omega), wsucc (n := n) (by omega) (by omega), show k + 2 * (i : Int) + 1 + 1 = k + 2 * ((i + 1 : Nat) : Int) by omega]
    exact ih (i + 1) (by omega)
end Go.Proofs.YtjdcndicaeodbaaGreat.Abs
