/- The laws' functions over rows. -/
import Derived.Test.YtpdcjocjkbgddaaGreatNj
import Derived.Test.YtpdcjocjkbgddaaGreatOq
import Derived.Test.YtpdcjocjkbgddaaGreatEqL
import Derived.Test.YtpdcjocjkbgddaaGreatRa
namespace Go.Proofs.YtpdcjocjkbgddaaGreat.Abs
open Go.RowKit
set_option linter.unusedVariables false
set_option linter.unusedSimpArgs false
set_option maxRecDepth 20000
def okR {α : Type} (l : List α) : Prop := l.length ≤ 2 ^ 20
def big {α : Type} (l : List α) : Prop := l.length ≤ 9223372036854775807
def szB {α : Type} (d : Ds α) (v : d.H → Value) (bg : α → Prop) (ok : α → Prop) : Spec := fun args m Q => ∃ (h : d.H) (x : α) (k : Int), args = [v h, .int .i64 k] ∧ d.At m h x ∧ bg x ∧ 0 ≤ k ∧ k ≤ 2 ^ 20 ∧ ∀ r : Int, (r < 0 ∨ 0 ≤ r ∧ r ≤ k ∧ ok x) → Q (.int .i64 r) m
theorem ownL_new {α : Type} [Enc α] {m : Mem} {g n : Nat} {t : TypeId} {l : List α} (hn : l.length = n) (h : m g = some (.cells (flat Enc.e l).toArray t (0, 0))) : OwnL m ⟨some ⟨g, 0, none⟩, n, n⟩ l [g] :=
  ⟨hn.symm, .inr ⟨g, t, [], rfl, rfl, by simpa using h, by rw [← hn]; simp⟩⟩
def s23 : Spec := szB (.rows U64) vs big okR
theorem f23 (t : Tab) : ∀ args m Q, s23 args m Q → FA Tryz.prog (look t) kp23 Tryz.f23 args m Q := by
  rintro args m Q ⟨⟨a, n, c⟩, l, k, rfl, ⟨hn, hrd⟩, hb, h0, h1, h⟩
  have hn : n = l.length := hn
  have hb : l.length ≤ 9223372036854775807 := hb
  show FA Tryz.prog (look t) kp23 Tryz.f23 [.slice a n c, .int .i64 k] m Q
  rw [e23, w64 (by omega) (by omega)]
  by_cases hk : k - n < 0
  · rw [if_pos (by simpa using hk)]
    exact ret_intro (Mem.le_refl _) (h _ (.inl (by decide)))
  rw [if_neg (by simpa using hk)]
  exact ret_intro (Mem.le_refl _) (h _ (.inr ⟨by omega, by omega, by show l.length ≤ 2 ^ 20; omega⟩))
def s29 : Spec := toS (.rows U64) vs vs okR
theorem f29 (t : Tab) : ∀ args m Q, s29 args m Q → FA Tryz.prog (look t) kp29 Tryz.f29 args m Q := by
  rintro args m Q ⟨⟨a, n, c⟩, l, rfl, ⟨hn, hrd⟩, hok, h⟩
  have hn : n = l.length := hn
  have hrd : Rd m a l := hrd
  have hok : l.length ≤ 2 ^ 20 := hok
  show FA Tryz.prog (look t) kp29 Tryz.f29 [.slice a n c] m Q
  rw [e29]
  refine ⟨by omega, by omega, by omega, by omega, ?_⟩
  refine newA_intro fun g1 m2 hg1 e2 hb2 hle2 => ?_
  simp only [Int.toNat_natCast] at *
  have hz : zeroRow #[.int .u64 0] (n * 1) = (flat Enc.e (List.replicate n (⟨0⟩ : U64))).toArray := zeroRow_eq (⟨0⟩ : U64) n
  rw [hz] at hb2
  suffices key : ∀ d i, i + d = n → ∀ (M : Mem), M g1 = some (.cells (flat Enc.e (l.take i ++ List.replicate (n - i) (⟨0⟩ : U64))).toArray 64 (0, 0)) → Mem.le m M → L29_3 (look t) (d + 1) Q a n c (some ⟨g1, 0, none⟩) n n (i : Int) M from
    ⟨n + 1, key n 0 (by omega) m2 (by simpa using hb2) hle2⟩
  intro d
  induction d with
  | zero =>
    intro i hi M hg hle
    rw [l29_3]
    refine ⟨M, Mem.le_refl _, ?_⟩
    rw [if_neg (by simp; omega)]
    have ei : n - i = 0 := by omega
    rw [ei, List.replicate_zero, List.append_nil, List.take_of_length_le (by omega)] at hg
    exact ret_intro (Mem.le_refl _) (h ⟨some ⟨g1, 0, none⟩, n, n⟩ [g1] M hle (by simp [hg1]) (by simp) (ownL_new hn.symm hg))
  | succ d ih =>
    intro i hi M hg hle
    rw [l29_3]
    refine ⟨M, Mem.le_refl _, ?_⟩
    rw [if_pos (by simp; omega)]
    have hil : i < l.length := by omega
    refine idx' (hrd.le hle) hn.symm (by omega) (by omega) fun ad had hd => ?_
    simp only [Int.toNat_natCast] at hd ⊢
    refine ⟨_, hd 0 _ rfl, by omega, by omega, ?_⟩
    refine sto_elem (α := U64) (spare := []) (l := l.take i ++ List.replicate (n - i) (⟨0⟩ : U64)) (i := i) (x := l[i]) (by rw [List.append_nil]; exact hg) (by rw [add_eq rfl, Nat.zero_add]; rfl) (by simp; omega) ?_
    rw [wsucc (n := n) (by omega) (by omega)]
    refine ih (i + 1) (by omega) _ ?_ (le_upd_fresh hle hg1)
    rw [upd_same, List.append_nil, List.set_append_right _ _ (by simp; omega), List.length_take, Nat.min_eq_left (by omega), Nat.sub_self, show n - i = (n - (i + 1)) + 1 by omega, List.replicate_succ, List.set_cons_zero, List.take_succ_eq_append_getElem hil, List.append_assoc]
    rfl
def s35 : Spec := eqS (.rows U64) vs okR
theorem f35 (t : Tab) : ∀ args m Q, s35 args m Q → FA Tryz.prog (look t) kp35 Tryz.f35 args m Q := by
  rintro args m Q ⟨⟨a, n, c⟩, l, ⟨b, n', c'⟩, l', rfl, ⟨hl, ha⟩, ⟨hl', hb⟩, hok, h⟩
  have hl : n = l.length := hl
  have hl' : l'.length = n' := Eq.symm hl'
  have ha : Rd m a l := ha
  have hb : Rd m b l' := hb
  have hn : l.length ≤ 2 ^ 20 := hok
  show FA Tryz.prog (look t) kp35 Tryz.f35 [.slice a n c, .slice b n' c'] m Q
  rw [e35]
  by_cases hne : n = n'
  case neg =>
    rw [if_pos (by simp; omega)]
    have : l ≠ l' := by rintro rfl; omega
    exact ret_intro (Mem.le_refl _) (by simpa [this] using h)
  rw [if_neg (by simp; omega)]
  subst hne
  suffices key : ∀ d i, i + d = n → l.take i = l'.take i → L35_4 (look t) (d + 1) Q a n c b n c' (i : Int) m from ⟨n + 1, key n 0 (by omega) (by simp)⟩
  intro d
  induction d with
  | zero =>
    intro i hi ht
    rw [l35_4]
    refine ⟨m, Mem.le_refl _, ?_⟩
    rw [if_neg (by simp; omega)]
    rw [List.take_of_length_le (by omega), List.take_of_length_le (by omega)] at ht
    exact ret_intro (Mem.le_refl _) (by simpa [ht] using h)
  | succ d ih =>
    intro i hi ht
    rw [l35_4]
    refine ⟨m, Mem.le_refl _, ?_⟩
    rw [if_pos (by simp; omega)]
    refine ⟨Mem.le m, Mem.le_refl _, idx' ha hl.symm (by omega) (by omega) fun ad had hd => ?_⟩
    refine ⟨_, held (hd 0 _ rfl), idx' hb hl' (by omega) (by omega) fun ad' had' hd' => ?_⟩
    refine ⟨_, held (hd' 0 _ rfl), ?_⟩
    have hx := take_eq_iff (l1 := l) (l2 := l') (i := i) (by omega) (by omega) ht
    simp only [Int.toNat_natCast]
    by_cases hq : l[i]'(by omega) = l'[i]'(by omega)
    · rw [if_neg (by rw [hq]; simp), wsucc (n := n) (by omega) (by omega)]
      exact ih (i + 1) (by omega) (hx.2 hq)
    · rw [if_pos (by rw [bne_iff_ne]; exact fun e => hq (by
        generalize l[i]'(by omega) = x at e ⊢
        generalize l'[i]'(by omega) = y at e ⊢
        cases x; cases y; simp at e; rw [e]))]
      have : l ≠ l' := by rintro rfl; exact hq rfl
      exact ret_intro (Mem.le_refl _) (by simpa [this] using h)
def mkU64 (k : Int) (l : List U64) : List U64 := (List.range l.length).map fun i : Nat => ⟨IntKind.u64.wrap (k + (i : Int))⟩
theorem mkU64_len (k : Int) (l : List U64) : (mkU64 k l).length = l.length := by simp [mkU64]
def s37 : Spec := mkS (.rows U64) vs mkU64 (fun l => l.length) okR (2 ^ 50)
theorem f37 (t : Tab) : ∀ args m Q, s37 args m Q → FA Tryz.prog (look t) kp37 Tryz.f37 args m Q := by
  rintro args m Q ⟨⟨a, n, c⟩, l, D, k, rfl, ⟨hn, hO⟩, hnd, hok, hk0, hk1, h⟩
  have hn : n = l.length := hn
  have hok : l.length ≤ 2 ^ 20 := hok
  rcases hO with ⟨ha, hc, hl, hD⟩ | ⟨g, ty, spare, ha, hD, hm, hsz⟩
  · have ha : a = none := ha
    have hc : c = 0 := hc
    subst ha hc hl hD hn
    show FA Tryz.prog (look t) kp37 Tryz.f37 [.slice none 0 0, .int .i64 k] m Q
    rw [e37]
    refine ⟨1, ?_⟩
    rw [l37_2]
    refine ⟨m, Mem.le_refl _, ?_⟩
    rw [if_neg (by simp)]
    have := h m (fun _ _ => rfl) ⟨rfl, .inl ⟨rfl, rfl, rfl, rfl⟩⟩
    simp at this
    exact ret_intro (Mem.le_refl _) this
  have ha : a = some ⟨g, 0, none⟩ := ha
  subst ha hD
  show FA Tryz.prog (look t) kp37 Tryz.f37 [.slice (some ⟨g, 0, none⟩) n c, .int .i64 k] m Q
  rw [e37]
  suffices key : ∀ d i, i + d = n → ∀ M : Mem, (∀ b, b ≠ g → M b = m b) → M g = some (.cells (flat Enc.e ((List.range i).map (fun i : Nat => (⟨IntKind.u64.wrap (k + (i : Int))⟩ : U64)) ++ l.drop i) ++ spare).toArray ty (0, 0)) → L37_2 (look t) (d + 1) Q (some ⟨g, 0, none⟩) n c (k + (i : Int)) (i : Int) M from ⟨n + 1, by simpa using key n 0 (by omega) m (fun _ _ => rfl) (by simpa using hm)⟩
  intro d
  induction d with
  | zero =>
    intro i hi M ho hg
    rw [l37_2]
    refine ⟨M, Mem.le_refl _, ?_⟩
    rw [if_neg (by simp; omega)]
    have ei : i = l.length := by omega
    subst ei
    rw [row_end] at hg
    have := h M (fun b hb => ho b (by simpa using hb)) ⟨by rw [mkU64_len]; exact hn, .inr ⟨g, ty, spare, rfl, rfl, hg, by show (mkU64 k l).length * _ + _ = _; rw [mkU64_len]; exact hsz⟩⟩
    exact ret_intro (Mem.le_refl _) (by simpa using this)
  | succ d ih =>
    intro i hi M ho hg
    rw [l37_2]
    refine ⟨M, Mem.le_refl _, ?_⟩
    rw [if_pos (by simp; omega)]
    refine ⟨by omega, by omega, ?_⟩
    refine sto_elem (α := U64) (spare := spare) (l := (List.range i).map (fun i : Nat => (⟨IntKind.u64.wrap (k + (i : Int))⟩ : U64)) ++ l.drop i) (i := i) (x := (⟨IntKind.u64.wrap (k + (i : Int))⟩ : U64)) hg (by rw [add_eq rfl, Nat.zero_add]; rfl) (by simp; omega) ?_
    rw [wsucc (n := n) (by omega) (by omega), w64 (x := k + (i : Int) + 1) (by omega) (by omega), show k + (i : Int) + 1 = k + ((i + 1 : Nat) : Int) by omega]
    refine ih (i + 1) (by omega) _ (fun b hb => ?_) ?_
    · rw [upd_ne hb, ho b hb]
    · rw [upd_same, upd_row (fun i : Nat => (⟨IntKind.u64.wrap (k + (i : Int))⟩ : U64)) l i (by omega)]
def s39 : Spec := hdS (.rows U64) vs mkU64 (fun l => l.length) okR (2 ^ 50)
theorem f39 (t : Tab) : ∀ args m Q, s39 args m Q → FA Tryz.prog (look t) kp39 Tryz.f39 args m Q := by
  rintro args m Q ⟨⟨a, n, c⟩, l, k, rfl, ⟨hn, hrd⟩, hok, hk0, hk1, h⟩
  have hn : n = (mkU64 k l).length := hn
  rw [mkU64_len] at hn
  have hok : l.length ≤ 2 ^ 20 := hok
  have hrd : Rd m a (mkU64 k l) := hrd
  show FA Tryz.prog (look t) kp39 Tryz.f39 [.slice a n c, .int .i64 k] m Q
  rw [e39]
  suffices key : ∀ d i, i + d = n → L39_2 (look t) (d + 1) Q a n c (k + (i : Int)) (i : Int) m from ⟨n + 1, by simpa using key n 0 (by omega)⟩
  intro d
  induction d with
  | zero =>
    intro i hi
    rw [l39_2]
    refine ⟨m, Mem.le_refl _, ?_⟩
    rw [if_neg (by simp; omega)]
    have e : k + (i : Int) = k + ((l.length : Nat) : Int) := by push_cast; omega
    rw [e]
    exact ret_intro (Mem.le_refl _) h
  | succ d ih =>
    intro i hi
    rw [l39_2]
    refine ⟨m, Mem.le_refl _, ?_⟩
    rw [if_pos (by simp; omega)]
    have hx : (mkU64 k l)[i]'(by rw [mkU64_len]; omega) = ⟨IntKind.u64.wrap (k + (i : Int))⟩ := by simp [mkU64]
    refine idx' hrd (by rw [mkU64_len]; exact hn.symm) (by omega) (by omega) fun ad had hd => ?_
    simp only [Int.toNat_natCast] at hd ⊢
    rw [hx] at hd
    refine ⟨_, hd 0 _ rfl, ?_⟩
    rw [if_neg (by simp), w64 (x := k + (i : Int) + 1) (by omega) (by omega), wsucc (n := n) (by omega) (by omega), show k + (i : Int) + 1 = k + ((i + 1 : Nat) : Int) by omega]
    exact ih (i + 1) (by omega)
def s19 : Spec := eqS (.rows Int) vs okR
theorem f19 (t : Tab) : ∀ args m Q, s19 args m Q → FA Tryz.prog (look t) kp19 Tryz.f19 args m Q := by
  rintro args m Q ⟨⟨a, n, c⟩, l, ⟨b, n', c'⟩, l', rfl, ⟨hl, ha⟩, ⟨hl', hb⟩, hok, h⟩
  have hl : n = l.length := hl
  have hl' : l'.length = n' := Eq.symm hl'
  have ha : Rd m a l := ha
  have hb : Rd m b l' := hb
  have hn : l.length ≤ 2 ^ 20 := hok
  show FA Tryz.prog (look t) kp19 Tryz.f19 [.slice a n c, .slice b n' c'] m Q
  rw [e19]
  by_cases hne : n = n'
  case neg =>
    rw [if_pos (by simp; omega)]
    have : l ≠ l' := by rintro rfl; omega
    exact ret_intro (Mem.le_refl _) (by simpa [this] using h)
  rw [if_neg (by simp; omega)]
  subst hne
  suffices key : ∀ d i, i + d = n → l.take i = l'.take i → L19_4 (look t) (d + 1) Q a n c b n c' (i : Int) m from ⟨n + 1, key n 0 (by omega) (by simp)⟩
  intro d
  induction d with
  | zero =>
    intro i hi ht
    rw [l19_4]
    refine ⟨m, Mem.le_refl _, ?_⟩
    rw [if_neg (by simp; omega)]
    rw [List.take_of_length_le (by omega), List.take_of_length_le (by omega)] at ht
    exact ret_intro (Mem.le_refl _) (by simpa [ht] using h)
  | succ d ih =>
    intro i hi ht
    rw [l19_4]
    refine ⟨m, Mem.le_refl _, ?_⟩
    rw [if_pos (by simp; omega)]
    refine ⟨Mem.le m, Mem.le_refl _, idx' ha hl.symm (by omega) (by omega) fun ad had hd => ?_⟩
    refine ⟨_, held (hd 0 _ rfl), idx' hb hl' (by omega) (by omega) fun ad' had' hd' => ?_⟩
    refine ⟨_, held (hd' 0 _ rfl), ?_⟩
    have hx := take_eq_iff (l1 := l) (l2 := l') (i := i) (by omega) (by omega) ht
    simp only [Int.toNat_natCast]
    by_cases hq : l[i]'(by omega) = l'[i]'(by omega)
    · rw [if_neg (by rw [hq]; simp), wsucc (n := n) (by omega) (by omega)]
      exact ih (i + 1) (by omega) (hx.2 hq)
    · rw [if_pos (by simpa using hq)]
      have : l ≠ l' := by rintro rfl; exact hq rfl
      exact ret_intro (Mem.le_refl _) (by simpa [this] using h)
def mkInt (k : Int) (l : List Int) : List Int := (List.range l.length).map fun i : Nat => k + (i : Int)
theorem mkInt_len (k : Int) (l : List Int) : (mkInt k l).length = l.length := by simp [mkInt]
def s20 : Spec := mkS (.rows Int) vs mkInt (fun l => l.length) okR (2 ^ 50)
theorem f20 (t : Tab) : ∀ args m Q, s20 args m Q → FA Tryz.prog (look t) kp20 Tryz.f20 args m Q := by
  rintro args m Q ⟨⟨a, n, c⟩, l, D, k, rfl, ⟨hn, hO⟩, hnd, hok, hk0, hk1, h⟩
  have hn : n = l.length := hn
  have hok : l.length ≤ 2 ^ 20 := hok
  rcases hO with ⟨ha, hc, hl, hD⟩ | ⟨g, ty, spare, ha, hD, hm, hsz⟩
  · have ha : a = none := ha
    have hc : c = 0 := hc
    subst ha hc hl hD hn
    show FA Tryz.prog (look t) kp20 Tryz.f20 [.slice none 0 0, .int .i64 k] m Q
    rw [e20]
    refine ⟨1, ?_⟩
    rw [l20_2]
    refine ⟨m, Mem.le_refl _, ?_⟩
    rw [if_neg (by simp)]
    have := h m (fun _ _ => rfl) ⟨rfl, .inl ⟨rfl, rfl, rfl, rfl⟩⟩
    simp at this
    exact ret_intro (Mem.le_refl _) this
  have ha : a = some ⟨g, 0, none⟩ := ha
  subst ha hD
  show FA Tryz.prog (look t) kp20 Tryz.f20 [.slice (some ⟨g, 0, none⟩) n c, .int .i64 k] m Q
  rw [e20]
  suffices key : ∀ d i, i + d = n → ∀ M : Mem, (∀ b, b ≠ g → M b = m b) → M g = some (.cells (flat Enc.e ((List.range i).map (fun i : Nat => (k + (i : Int) : Int)) ++ l.drop i) ++ spare).toArray ty (0, 0)) → L20_2 (look t) (d + 1) Q (some ⟨g, 0, none⟩) n c (k + (i : Int)) (i : Int) M from ⟨n + 1, by simpa using key n 0 (by omega) m (fun _ _ => rfl) (by simpa using hm)⟩
  intro d
  induction d with
  | zero =>
    intro i hi M ho hg
    rw [l20_2]
    refine ⟨M, Mem.le_refl _, ?_⟩
    rw [if_neg (by simp; omega)]
    have ei : i = l.length := by omega
    subst ei
    rw [row_end] at hg
    have := h M (fun b hb => ho b (by simpa using hb)) ⟨by rw [mkInt_len]; exact hn, .inr ⟨g, ty, spare, rfl, rfl, hg, by show (mkInt k l).length * _ + _ = _; rw [mkInt_len]; exact hsz⟩⟩
    exact ret_intro (Mem.le_refl _) (by simpa using this)
  | succ d ih =>
    intro i hi M ho hg
    rw [l20_2]
    refine ⟨M, Mem.le_refl _, ?_⟩
    rw [if_pos (by simp; omega)]
    refine ⟨by omega, by omega, ?_⟩
    refine sto_elem (α := Int) (spare := spare) (l := (List.range i).map (fun i : Nat => (k + (i : Int) : Int)) ++ l.drop i) (i := i) (x := (k + (i : Int) : Int)) hg (by rw [add_eq rfl, Nat.zero_add]; rfl) (by simp; omega) ?_
    rw [wsucc (n := n) (by omega) (by omega), w64 (x := k + (i : Int) + 1) (by omega) (by omega), show k + (i : Int) + 1 = k + ((i + 1 : Nat) : Int) by omega]
    refine ih (i + 1) (by omega) _ (fun b hb => ?_) ?_
    · rw [upd_ne hb, ho b hb]
    · rw [upd_same, upd_row (fun i : Nat => (k + (i : Int) : Int)) l i (by omega)]
def s61 : Spec := fun args m Q => ∃ v : Vl, args = [vVl v] ∧ Q (vVl v) m
theorem f61 (t : Tab) : ∀ args m Q, s61 args m Q → FA Tryz.prog (look t) kp61 Tryz.f61 args m Q := by
  rintro args m Q ⟨⟨a, b⟩, rfl, h⟩
  show FA Tryz.prog (look t) kp61 Tryz.f61 [.agg #[.int .i64 a, .int .i64 b]] m Q
  rw [e61]
  intro g1 h1 g3 h3 g5 h5
  simp only [upd_none] at h3 h5
  obtain ⟨n31, h3⟩ := h3
  obtain ⟨n53, n51, h5⟩ := h5
  simp [Mem.cell?, Mem.upd, stoA, setAll, one, n31.symm, Ne.symm n53, Ne.symm n51, and_assoc]
  refine ret_intro (m1 := m) ?_ h
  intro x o e
  have e1 : x ≠ g1 := by rintro rfl; rw [h1] at e; cases e
  have e3 : x ≠ g3 := by rintro rfl; rw [h3] at e; cases e
  have e5 : x ≠ g5 := by rintro rfl; rw [h5] at e; cases e
  simpa [Mem.upd, e1, e3, e5] using e
def s70 : Spec := fun args m Q => ∃ x y : Vl, args = [vVl x, vVl y] ∧ Q (.bool (decide (x = y))) m
theorem f70 (t : Tab) : ∀ args m Q, s70 args m Q → FA Tryz.prog (look t) kp70 Tryz.f70 args m Q := by
  rintro args m Q ⟨⟨a, b⟩, ⟨c, d⟩, rfl, h⟩
  show FA Tryz.prog (look t) kp70 Tryz.f70 [.agg #[.int .i64 a, .int .i64 b], .agg #[.int .i64 c, .int .i64 d]] m Q
  rw [e70]
  refine newA_intro fun g1 m2 hg1 e2 hb1 hle2 => newA_intro fun g3 m4 hg3 e4 hb3 hle4 => ⟨_, cell_of (hle4 _ _ hb1) 0, _, cell_of hb3 0, ?_⟩
  have l4 := Mem.le_trans hle2 hle4
  by_cases c1 : a = c
  case neg => rw [if_pos (by simpa using c1)]; exact ret_bool l4 h (by simp [c1])
  rw [if_neg (by simpa using c1)]
  refine ⟨_, cell_of (hle4 _ _ hb1) 1, _, cell_of hb3 1, ?_⟩
  by_cases c2 : b = d
  · rw [if_neg (by simpa using c2)]; exact ret_bool l4 h (by simp [c1, c2])
  · rw [if_pos (by simpa using c2)]; exact ret_bool l4 h (by simp [c2])
def s24 : Spec := szB (.rows Vl) vs big okR
theorem f24 (t : Tab) : ∀ args m Q, s24 args m Q → FA Tryz.prog (look t) kp24 Tryz.f24 args m Q := by
  rintro args m Q ⟨⟨a, n, c⟩, l, k, rfl, ⟨hn, hrd⟩, hb, h0, h1, h⟩
  have hn : n = l.length := hn
  have hb : l.length ≤ 9223372036854775807 := hb
  show FA Tryz.prog (look t) kp24 Tryz.f24 [.slice a n c, .int .i64 k] m Q
  rw [e24, w64 (by omega) (by omega)]
  by_cases hk : k - n < 0
  · rw [if_pos (by simpa using hk)]
    exact ret_intro (Mem.le_refl _) (h _ (.inl (by decide)))
  rw [if_neg (by simpa using hk)]
  exact ret_intro (Mem.le_refl _) (h _ (.inr ⟨by omega, by omega, by show l.length ≤ 2 ^ 20; omega⟩))
def s30 : Spec := toS (.rows Vl) vs vs okR
theorem f30 (t : Tab) (hc : look t 61 = s61) : ∀ args m Q, s30 args m Q → FA Tryz.prog (look t) kp30 Tryz.f30 args m Q := by
  rintro args m Q ⟨⟨a, n, c⟩, l, rfl, ⟨hn, hrd⟩, hok, h⟩
  have hn : n = l.length := hn
  have hrd : Rd m a l := hrd
  have hok : l.length ≤ 2 ^ 20 := hok
  show FA Tryz.prog (look t) kp30 Tryz.f30 [.slice a n c] m Q
  rw [e30]
  refine ⟨by omega, by omega, by omega, by omega, ?_⟩
  refine newA_intro fun g1 m2 hg1 e2 hb2 hle2 => ?_
  simp only [Int.toNat_natCast] at *
  have hz : zeroRow #[.int .i64 0, .int .i64 0] (n * 2) = (flat Enc.e (List.replicate n ((0, 0) : Vl))).toArray := zeroRow_eq ((0, 0) : Vl) n
  rw [hz] at hb2
  suffices key : ∀ d i, i + d = n → ∀ (M : Mem), M g1 = some (.cells (flat Enc.e (l.take i ++ List.replicate (n - i) ((0, 0) : Vl))).toArray 58 (0, 0)) → Mem.le m M → L30_3 (look t) (d + 1) Q a n c (some ⟨g1, 0, none⟩) n n (i : Int) M from
    ⟨n + 1, key n 0 (by omega) m2 (by simpa using hb2) hle2⟩
  intro d
  induction d with
  | zero =>
    intro i hi M hg hle
    rw [l30_3]
    refine ⟨M, Mem.le_refl _, ?_⟩
    rw [if_neg (by simp; omega)]
    have ei : n - i = 0 := by omega
    rw [ei, List.replicate_zero, List.append_nil, List.take_of_length_le (by omega)] at hg
    exact ret_intro (Mem.le_refl _) (h ⟨some ⟨g1, 0, none⟩, n, n⟩ [g1] M hle (by simp [hg1]) (by simp) (ownL_new hn.symm hg))
  | succ d ih =>
    intro i hi M hg hle
    rw [l30_3]
    refine ⟨M, Mem.le_refl _, ?_⟩
    rw [if_pos (by simp; omega)]
    have hil : i < l.length := by omega
    refine idx' (hrd.le hle) hn.symm (by omega) (by omega) fun ad had hd => ?_
    simp only [Int.toNat_natCast] at hd ⊢
    refine ⟨_, hd 0 _ rfl, _, hd 1 _ rfl, ?_⟩
    rw [hc]
    refine ⟨l[i], rfl, _, _, rfl, by omega, by omega, ?_⟩
    refine sto_elem (α := Vl) (spare := []) (l := l.take i ++ List.replicate (n - i) ((0, 0) : Vl)) (i := i) (x := l[i]) (by rw [List.append_nil]; exact hg) (by rw [add_eq rfl, Nat.zero_add]; rfl) (by simp; omega) ?_
    rw [wsucc (n := n) (by omega) (by omega)]
    refine ih (i + 1) (by omega) _ ?_ (le_upd_fresh hle hg1)
    rw [upd_same, List.append_nil, List.set_append_right _ _ (by simp; omega), List.length_take, Nat.min_eq_left (by omega), Nat.sub_self, show n - i = (n - (i + 1)) + 1 by omega, List.replicate_succ, List.set_cons_zero, List.take_succ_eq_append_getElem hil, List.append_assoc]
    rfl
def s36 : Spec := eqS (.rows Vl) vs okR
theorem f36 (t : Tab) (hc : look t 70 = s70) : ∀ args m Q, s36 args m Q → FA Tryz.prog (look t) kp36 Tryz.f36 args m Q := by
  rintro args m Q ⟨⟨a, n, c⟩, l, ⟨b, n', c'⟩, l', rfl, ⟨hl, ha⟩, ⟨hl', hb⟩, hok, h⟩
  have hl : n = l.length := hl
  have hl' : l'.length = n' := Eq.symm hl'
  have ha : Rd m a l := ha
  have hb : Rd m b l' := hb
  have hn : l.length ≤ 2 ^ 20 := hok
  show FA Tryz.prog (look t) kp36 Tryz.f36 [.slice a n c, .slice b n' c'] m Q
  rw [e36]
  by_cases hne : n = n'
  case neg =>
    rw [if_pos (by simp; omega)]
    have : l ≠ l' := by rintro rfl; omega
    exact ret_intro (Mem.le_refl _) (by simpa [this] using h)
  rw [if_neg (by simp; omega)]
  subst hne
  suffices key : ∀ d i, i + d = n → l.take i = l'.take i → L36_4 (look t) (d + 1) Q a n c b n c' (i : Int) m from ⟨n + 1, key n 0 (by omega) (by simp)⟩
  intro d
  induction d with
  | zero =>
    intro i hi ht
    rw [l36_4]
    refine ⟨m, Mem.le_refl _, ?_⟩
    rw [if_neg (by simp; omega)]
    rw [List.take_of_length_le (by omega), List.take_of_length_le (by omega)] at ht
    exact ret_intro (Mem.le_refl _) (by simpa [ht] using h)
  | succ d ih =>
    intro i hi ht
    rw [l36_4]
    refine ⟨m, Mem.le_refl _, ?_⟩
    rw [if_pos (by simp; omega)]
    refine ⟨Mem.le m, Mem.le_refl _, idx' ha hl.symm (by omega) (by omega) fun ad had hd => ?_⟩
    refine ⟨_, held (hd 0 _ rfl), _, held (hd 1 _ rfl), idx' hb hl' (by omega) (by omega) fun ad' had' hd' => ?_⟩
    refine ⟨_, held (hd' 0 _ rfl), _, held (hd' 1 _ rfl), ?_⟩
    have hx := take_eq_iff (l1 := l) (l2 := l') (i := i) (by omega) (by omega) ht
    simp only [Int.toNat_natCast]
    rw [hc]
    refine ⟨l[i]'(by omega), l'[i]'(by omega), rfl, _, rfl, Mem.le_refl _, ?_⟩
    by_cases hq : l[i]'(by omega) = l'[i]'(by omega)
    · rw [if_neg (by simpa using hq), wsucc (n := n) (by omega) (by omega)]
      exact ih (i + 1) (by omega) (hx.2 hq)
    · rw [if_pos (by simpa using hq)]
      have : l ≠ l' := by rintro rfl; exact hq rfl
      exact ret_intro (Mem.le_refl _) (by simpa [this] using h)
def mkVl (k : Int) (l : List Vl) : List Vl := (List.range l.length).map fun i : Nat => (k + 2 * (i : Int), k + 2 * (i : Int) + 1)
theorem mkVl_len (k : Int) (l : List Vl) : (mkVl k l).length = l.length := by simp [mkVl]
def s38 : Spec := mkS (.rows Vl) vs mkVl (fun l => 2 * l.length) okR (2 ^ 50)
theorem f38 (t : Tab) : ∀ args m Q, s38 args m Q → FA Tryz.prog (look t) kp38 Tryz.f38 args m Q := by
  rintro args m Q ⟨⟨a, n, c⟩, l, D, k, rfl, ⟨hn, hO⟩, hnd, hok, hk0, hk1, h⟩
  have hn : n = l.length := hn
  have hok : l.length ≤ 2 ^ 20 := hok
  rcases hO with ⟨ha, hc, hl, hD⟩ | ⟨g, ty, spare, ha, hD, hm, hsz⟩
  · have ha : a = none := ha
    have hc : c = 0 := hc
    subst ha hc hl hD hn
    show FA Tryz.prog (look t) kp38 Tryz.f38 [.slice none 0 0, .int .i64 k] m Q
    rw [e38]
    refine ⟨1, ?_⟩
    rw [l38_2]
    refine ⟨m, Mem.le_refl _, ?_⟩
    rw [if_neg (by simp)]
    have := h m (fun _ _ => rfl) ⟨rfl, .inl ⟨rfl, rfl, rfl, rfl⟩⟩
    simp at this
    exact ret_intro (Mem.le_refl _) this
  have ha : a = some ⟨g, 0, none⟩ := ha
  subst ha hD
  show FA Tryz.prog (look t) kp38 Tryz.f38 [.slice (some ⟨g, 0, none⟩) n c, .int .i64 k] m Q
  rw [e38]
  suffices key : ∀ d i, i + d = n → ∀ M : Mem, (∀ b, b ≠ g → M b = m b) → M g = some (.cells (flat Enc.e ((List.range i).map (fun i : Nat => ((k + 2 * (i : Int), k + 2 * (i : Int) + 1) : Vl)) ++ l.drop i) ++ spare).toArray ty (0, 0)) → L38_2 (look t) (d + 1) Q (some ⟨g, 0, none⟩) n c (k + 2 * (i : Int)) (i : Int) M from ⟨n + 1, by simpa using key n 0 (by omega) m (fun _ _ => rfl) (by simpa using hm)⟩
  intro d
  induction d with
  | zero =>
    intro i hi M ho hg
    rw [l38_2]
    refine ⟨M, Mem.le_refl _, ?_⟩
    rw [if_neg (by simp; omega)]
    have ei : i = l.length := by omega
    subst ei
    rw [row_end] at hg
    have := h M (fun b hb => ho b (by simpa using hb)) ⟨by rw [mkVl_len]; exact hn, .inr ⟨g, ty, spare, rfl, rfl, hg, by show (mkVl k l).length * _ + _ = _; rw [mkVl_len]; exact hsz⟩⟩
    exact ret_intro (Mem.le_refl _) (by simpa using this)
  | succ d ih =>
    intro i hi M ho hg
    rw [l38_2]
    refine ⟨M, Mem.le_refl _, ?_⟩
    rw [if_pos (by simp; omega)]
    refine ⟨by omega, by omega, ?_⟩
    refine sto1 (α := Vl) (spare := spare) (i := i) (j := 0) (x := (k + 2 * (i : Int), (l[i]'(by omega)).2)) hg (by rw [add_eq rfl]; simp; rfl) rfl (by simp; omega) (by decide) ?_ ?_
    · rw [row_get _ _ _ (by omega)]; rfl
    refine ⟨by omega, by omega, ?_⟩
    refine sto1 (α := Vl) (spare := spare) (i := i) (j := 1) (x := (k + 2 * (i : Int), k + 2 * (i : Int) + 1)) (upd_same _ _ _) (by rw [add_add, add_eq rfl]; simp; rfl) rfl (by simp; omega) (by decide) ?_ ?_
    · rw [List.getElem_set_self, w64 (by omega) (by omega)]; rfl
    rw [wsucc (n := n) (by omega) (by omega), w64 (x := k + 2 * (i : Int) + (1 : Int)) (by omega) (by omega), w64 (by omega) (by omega), show k + 2 * (i : Int) + 1 + 1 = k + 2 * ((i + 1 : Nat) : Int) by omega]
    refine ih (i + 1) (by omega) _ (fun b hb => ?_) ?_
    · rw [upd_ne hb, upd_ne hb, ho b hb]
    · rw [upd_same, List.set_set, upd_row (fun i : Nat => ((k + 2 * (i : Int), k + 2 * (i : Int) + 1) : Vl)) l i (by omega)]
def s40 : Spec := hdS (.rows Vl) vs mkVl (fun l => 2 * l.length) okR (2 ^ 50)
theorem f40 (t : Tab) : ∀ args m Q, s40 args m Q → FA Tryz.prog (look t) kp40 Tryz.f40 args m Q := by
  rintro args m Q ⟨⟨a, n, c⟩, l, k, rfl, ⟨hn, hrd⟩, hok, hk0, hk1, h⟩
  have hn : n = (mkVl k l).length := hn
  rw [mkVl_len] at hn
  have hok : l.length ≤ 2 ^ 20 := hok
  have hrd : Rd m a (mkVl k l) := hrd
  show FA Tryz.prog (look t) kp40 Tryz.f40 [.slice a n c, .int .i64 k] m Q
  rw [e40]
  suffices key : ∀ d i, i + d = n → L40_2 (look t) (d + 1) Q a n c (k + 2 * (i : Int)) (i : Int) m from ⟨n + 1, by simpa using key n 0 (by omega)⟩
  intro d
  induction d with
  | zero =>
    intro i hi
    rw [l40_2]
    refine ⟨m, Mem.le_refl _, ?_⟩
    rw [if_neg (by simp; omega)]
    have e : k + 2 * (i : Int) = k + ((2 * l.length : Nat) : Int) := by push_cast; omega
    rw [e]
    exact ret_intro (Mem.le_refl _) h
  | succ d ih =>
    intro i hi
    rw [l40_2]
    refine ⟨m, Mem.le_refl _, ?_⟩
    rw [if_pos (by simp; omega)]
    have hx : (mkVl k l)[i]'(by rw [mkVl_len]; omega) = (k + 2 * (i : Int), k + 2 * (i : Int) + 1) := by simp [mkVl]
    refine idx' hrd (by rw [mkVl_len]; exact hn.symm) (by omega) (by omega) fun ad had hd => ?_
    simp only [Int.toNat_natCast] at hd ⊢
    rw [hx] at hd
    refine ⟨_, hd 0 _ rfl, ?_⟩
    rw [if_neg (by simp)]
    refine idx' hrd (by rw [mkVl_len]; exact hn.symm) (by omega) (by omega) fun ad' had' hd' => ?_
    simp only [Int.toNat_natCast] at hd' ⊢
    rw [hx] at hd'
    refine ⟨_, hd' 1 _ rfl, ?_⟩
    rw [w64 (x := k + 2 * (i : Int) + 1) (by omega) (by omega), if_neg (by simp), w64 (by omega) (by omega), wsucc (n := n) (by omega) (by omega), show k + 2 * (i : Int) + 1 + 1 = k + 2 * ((i + 1 : Nat) : Int) by omega]
    exact ih (i + 1) (by omega)
end Go.Proofs.YtpdcjocjkbgddaaGreat.Abs
