/- Arenas: heads, words that are forwarded, values; in plain words, and the functions that tell them. -/
import Derived.Test.YtpdcjocjkbgddaaGreatNj
import Derived.Test.YtpdcjocjkbgddaaGreatEqS
import Derived.Test.YtpdcjocjkbgddaaGreatEqI
namespace Go.Proofs.YtpdcjocjkbgddaaGreat.Abs
open Go.RowKit
set_option linter.unusedVariables false
set_option linter.unusedSimpArgs false
set_option maxRecDepth 20000

theorem mixed : Tryz.prog.follows .mixedOrders = true := by kernel_rfl
theorem ret_of {m m2 : Mem} {Q : Value → Mem → Prop} {v : Value} (hle : Mem.le m m2) (h : Q v m) : ret Q v m2 := ⟨m, hle, h⟩
theorem ite_ret {c : Prop} [Decidable c] {Q : Value → Mem → Prop} {a b : Value} {m : Mem} : (if c then ret Q a m else ret Q b m) = ret Q (if c then a else b) m := by split <;> rfl
theorem ite_bool {c : Prop} [Decidable c] {a b : Bool} : (if c then Value.bool a else Value.bool b) = .bool (if c then a else b) := by split <;> rfl
theorem ite_int {c : Prop} [Decidable c] {k : IntKind} {a b : Int} : (if c then Value.int k a else Value.int k b) = .int k (if c then a else b) := by split <;> rfl

/-! ### Bits -/
theorem and_bits {n M : Nat} (hn : n < 2 ^ 64) (hM : M < 2 ^ 64) : IntKind.u64.wrap (BitVec.toNat (BitVec.ofInt (IntKind.bits .u64) (n : Int) &&& BitVec.ofInt (IntKind.bits .u64) (M : Int))) = ((n &&& M : Nat) : Int) := by
  have e1 : BitVec.ofInt (IntKind.bits .u64) (n : Int) = BitVec.ofNat 64 n := by simp [IntKind.bits]
  have e2 : BitVec.ofInt (IntKind.bits .u64) (M : Int) = BitVec.ofNat 64 M := by simp [IntKind.bits]
  rw [e1, e2]
  have e3 : (BitVec.ofNat 64 n &&& BitVec.ofNat 64 M).toNat = n &&& M := by
    rw [BitVec.toNat_and, BitVec.toNat_ofNat, BitVec.toNat_ofNat, Nat.mod_eq_of_lt hn, Nat.mod_eq_of_lt hM]
  have hlt : n &&& M < 2 ^ 64 := Nat.lt_of_le_of_lt Nat.and_le_left hn
  show IntKind.u64.wrap ((BitVec.ofNat 64 n &&& BitVec.ofNat 64 M).toNat : Int) = _
  rw [e3]
  unfold IntKind.wrap
  simp only [IntKind.bits, IntKind.signed, Bool.false_and, Bool.false_eq_true, if_false]
  omega
theorem and_mask {w : Int} {k M : Nat} (hM : M = 2 ^ k - 1) (hk : k ≤ 63) (h0 : 0 ≤ w) (h1 : w < 18446744073709551616) : IntKind.u64.wrap (BitVec.toNat (BitVec.ofInt (IntKind.bits .u64) w &&& BitVec.ofInt (IntKind.bits .u64) (M : Int))) = w % ((2 ^ k : Nat) : Int) := by
  obtain ⟨n, rfl⟩ := Int.eq_ofNat_of_zero_le h0
  have h2 : 2 ^ k ≤ 2 ^ 63 := Nat.pow_le_pow_right (by omega) hk
  rw [and_bits (by omega) (by omega), hM, Nat.and_two_pow_sub_one_eq_mod]
  rfl
theorem and_top {w : Int} (h0 : 0 ≤ w) (h1 : w < 18446744073709551616) : IntKind.u64.wrap (BitVec.toNat (BitVec.ofInt (IntKind.bits .u64) w &&& BitVec.ofInt (IntKind.bits .u64) (9223372036854775808 : Int))) = if w < 9223372036854775808 then 0 else 9223372036854775808 := by
  obtain ⟨n, rfl⟩ := Int.eq_ofNat_of_zero_le h0
  have e := and_bits (n := n) (M := 2 ^ 63) (by omega) (by omega)
  rw [show ((2 ^ 63 : Nat) : Int) = 9223372036854775808 by rfl] at e
  rw [e]
  by_cases h : n < 2 ^ 63
  · rw [if_pos (by omega)]
    have e0 : n &&& 2 ^ 63 = 0 := by
      apply Nat.eq_of_testBit_eq
      intro i
      rw [Nat.testBit_and, Nat.testBit_two_pow, Nat.zero_testBit]
      by_cases hi : 63 = i
      · subst hi; rw [Nat.testBit_lt_two_pow h]; rfl
      · simp [hi]
    rw [e0]; rfl
  · have ht : n.testBit 63 = true := by
      rw [Nat.testBit_eq_decide_div_mod_eq]
      have : n / 2 ^ 63 = 1 := by omega
      rw [this]; rfl
    rw [if_neg (by omega)]
    have e0 : n &&& 2 ^ 63 = 2 ^ 63 := by
      apply Nat.eq_of_testBit_eq
      intro i
      rw [Nat.testBit_and, Nat.testBit_two_pow]
      by_cases hi : 63 = i
      · subst hi; rw [ht]; rfl
      · simp [hi]
    rw [e0]; rfl
theorem and_rest {w : Int} (h0 : 0 ≤ w) (h1 : w < 18446744073709551616) : IntKind.u64.wrap (BitVec.toNat (BitVec.ofInt (IntKind.bits .u64) w &&& ~~~ BitVec.ofInt (IntKind.bits .u64) (9223372036854775808 : Int))) = w % 9223372036854775808 := by
  have e : ~~~ BitVec.ofInt (IntKind.bits .u64) (9223372036854775808 : Int) = BitVec.ofInt (IntKind.bits .u64) ((9223372036854775807 : Nat) : Int) := by decide
  rw [e, and_mask (k := 63) (by rfl) (by omega) h0 h1]
  rfl

/-! ### In plain words -/
def sizeB (k s : Int) : Bool :=
  if k = 1 then decide (1 ≤ s ∧ s ≤ 21) else if k = 2 then decide (s = 3) else if k = 3 then decide (s = 16 ∨ s = 32 ∨ s = 64 ∨ s = 128 ∨ s = 256)
  else if k = 4 then decide (1 ≤ s ∧ s ≤ 25 ∧ s % 2 = 1) else if k = 5 then decide (s = 2) else if k = 6 then decide (s = 126) else false
def bornB (k : Int) : Bool := decide (k = 2 ∨ k = 4 ∨ k = 6)
def hdOk (k s z : Int) : Bool := sizeB k s && (if bornB k then decide (1 ≤ z ∧ z ≤ 1000000000) else decide (z = 0))
abbrev Hd := Int × Int × Int
def hdW (w : Int) : Hd := (w % 16, w / 16 % 65536, w / 1048576)
def okW (w : Int) : Bool := hdOk (w % 16) (w / 16 % 65536) (w / 1048576)
def readH (w : Int) : Hd × Bool := if okW w then (hdW w, true) else ((0, 0, 0), false)
def fwd (w : Int) : Int × Bool := if w < 9223372036854775808 ∨ w - 9223372036854775808 > 2147483647 then (0, false) else (w - 9223372036854775808, true)
def kindT (t : Int) : Int := if t = 3 then 1 else if t = 4 then 2 else if t = 5 then 4 else if t = 6 then 6 else if t = 8 then 3 else if t = 9 then 5 else 0
def isRefB (v : Int × Int) : Bool := kindT v.1 != 0
def valOkB (v : Int × Int) : Bool := if v.1 = 0 then decide (v.2 = 0) else if v.1 = 1 then decide (0 ≤ v.2 ∧ v.2 ≤ 1) else if v.1 = 2 then true else if v.1 = 7 then decide (1 ≤ v.2 ∧ v.2 ≤ 20) else isRefB v && decide (v.2 > 0)
def inW (w : Int) : Prop := 0 ≤ w ∧ w < 18446744073709551616
theorem ret_bool {m m2 : Mem} {Q : Value → Mem → Prop} {a b : Bool} (hle : Mem.le m m2) (h : Q (.bool b) m) (e : a = b) : ret Q (.bool a) m2 := by subst e; exact ⟨m, hle, h⟩
theorem ret_int {m m2 : Mem} {Q : Value → Mem → Prop} {a b : Int} {k : IntKind} (hle : Mem.le m m2) (h : Q (.int k b) m) (e : a = b) : ret Q (.int k a) m2 := by subst e; exact ⟨m, hle, h⟩
def s44 : Spec := fun args m Q => ∃ x lo hi : Int, args = [.int .i64 x, .int .i64 lo, .int .i64 hi] ∧ Q (.bool (decide (lo ≤ x ∧ x ≤ hi))) m
def s47 : Spec := s44
theorem f44 (t : Tab) : ∀ args m Q, s44 args m Q → FA Tryz.prog (look t) kp44 Tryz.f44 args m Q := by
  rintro args m Q ⟨x, lo, hi, rfl, h⟩
  rw [e44]
  simp only [ite_ret, ite_bool]
  refine ret_bool (Mem.le_refl _) h ?_
  by_cases h1 : lo ≤ x <;> by_cases h2 : x ≤ hi <;> simp [h1, h2]
theorem f47 (t : Tab) : ∀ args m Q, s47 args m Q → FA Tryz.prog (look t) kp47 Tryz.f47 args m Q := by
  rintro args m Q ⟨x, lo, hi, rfl, h⟩
  rw [e47]
  simp only [ite_ret, ite_bool]
  refine ret_bool (Mem.le_refl _) h ?_
  by_cases h1 : lo ≤ x <;> by_cases h2 : x ≤ hi <;> simp [h1, h2]
def s136 : Spec := fun args m Q => ∃ x : Int, args = [.int .i64 x] ∧ Q (.int .i64 (kindT x)) m
def s101 : Spec := s136
theorem f136 (t : Tab) : ∀ args m Q, s136 args m Q → FA Tryz.prog (look t) kp136 Tryz.f136 args m Q := by
  rintro args m Q ⟨x, rfl, h⟩
  rw [e136]
  simp only [ite_ret, ite_int]
  refine ret_int (Mem.le_refl _) h ?_
  unfold kindT
  simp only [beq_iff_eq]
theorem f101 (t : Tab) : ∀ args m Q, s101 args m Q → FA Tryz.prog (look t) kp101 Tryz.f101 args m Q := by
  rintro args m Q ⟨x, rfl, h⟩
  rw [e101]
  simp only [ite_ret, ite_int]
  refine ret_int (Mem.le_refl _) h ?_
  unfold kindT
  simp only [beq_iff_eq]
def s141 : Spec := fun args m Q => ∃ k s : Int, args = [.int .i64 k, .int .i64 s] ∧ 0 ≤ s ∧ Q (.bool (sizeB k s)) m
theorem f141 (t : Tab) (h47 : look t 47 = s47) : ∀ args m Q, s141 args m Q → FA Tryz.prog (look t) kp141 Tryz.f141 args m Q := by
  rintro args m Q ⟨k, s, rfl, h0, h⟩
  rw [e141]
  have et : Int.tmod s 2 = s % 2 := Int.tmod_eq_emod_of_nonneg h0
  simp only [h47, s47, s44, exists_and_left, exists_eq_left', List.getElem?_toArray, List.getElem?_cons_zero, List.getElem?_cons_succ, Option.some.injEq, Value.slice.injEq, Value.int.injEq, Value.bool.injEq, Value.string.injEq, Value.agg.injEq, Value.tuple.injEq, Value.pointer.injEq, List.cons.injEq, Array.mk.injEq, and_assoc, true_and, and_true, exists_eq_left, ne_eq, show ¬ ((2 : Int) = 0) by decide, not_false_iff]
  simp only [ite_ret, ite_bool, et]
  refine ret_bool (Mem.le_refl _) h ?_
  unfold sizeB
  clear et
  (apply Bool.eq_iff_iff.2; simp only [beq_iff_eq, decide_eq_true_eq, bne_iff_ne]; repeat' split) <;> (simp only [beq_iff_eq, bne_iff_ne, ne_eq, decide_eq_true_eq, Bool.and_eq_true, Bool.not_eq_true', iff_true, true_iff, iff_false, false_iff, Bool.false_eq_true, and_false, false_and, and_true, true_and, not_false_iff, not_true, Bool.or_eq_true, if_true, if_false] at *) <;> (first | done | omega | (split <;> simp only [decide_eq_true_eq, Bool.false_eq_true] at * <;> omega))
def s114 : Spec := fun args m Q => ∃ k : Int, args = [.int .i64 k] ∧ Q (.bool (bornB k)) m
theorem f114 (t : Tab) : ∀ args m Q, s114 args m Q → FA Tryz.prog (look t) kp114 Tryz.f114 args m Q := by
  rintro args m Q ⟨k, rfl, h⟩
  rw [e114]
  simp only [ite_ret, ite_bool]
  refine ret_bool (Mem.le_refl _) h ?_
  unfold bornB
  by_cases h1 : k = 2 <;> by_cases h2 : k = 4 <;> by_cases h3 : k = 6 <;> simp [h1, h2, h3] <;> omega
def s130 : Spec := fun args m Q => ∃ k s z : Int, args = [.agg #[.int .i64 k, .int .i64 s, .int .i64 z]] ∧ 0 ≤ s ∧ Q (.bool (hdOk k s z)) m
def s118 : Spec := s130
theorem f130 (t : Tab) (h141 : look t 141 = s141) (h114 : look t 114 = s114) (h47 : look t 47 = s47) : ∀ args m Q, s130 args m Q → FA Tryz.prog (look t) kp130 Tryz.f130 args m Q := by
  rintro args m Q ⟨k, s, z, rfl, h0, h⟩
  rw [e130]
  refine newA_intro fun g1 m2 hg1 e2 hb1 hle2 => ?_
  simp only [cell_of hb1, h47, s47, s44, h141, s141, h114, s114, h0, exists_and_left, exists_eq_left', List.getElem?_toArray, List.getElem?_cons_zero, List.getElem?_cons_succ, Option.some.injEq, Value.slice.injEq, Value.int.injEq, Value.bool.injEq, Value.string.injEq, Value.agg.injEq, Value.tuple.injEq, Value.pointer.injEq, List.cons.injEq, Array.mk.injEq, and_assoc, true_and, and_true, exists_eq_left, ite_ret, ite_bool]
  refine ret_bool hle2 h ?_
  unfold hdOk
  have : (z == 0) = decide (z = 0) := by (apply Bool.eq_iff_iff.2; simp only [beq_iff_eq, decide_eq_true_eq, bne_iff_ne]; repeat' split) <;> (simp only [beq_iff_eq, bne_iff_ne, ne_eq, decide_eq_true_eq, Bool.and_eq_true, Bool.not_eq_true', iff_true, true_iff, iff_false, false_iff, Bool.false_eq_true, and_false, false_and, and_true, true_and, not_false_iff, not_true, Bool.or_eq_true, if_true, if_false] at *) <;> (first | done | omega | (split <;> simp only [decide_eq_true_eq, Bool.false_eq_true] at * <;> omega))
  rw [this]
  cases sizeB k s <;> cases bornB k <;> simp
theorem f118 (t : Tab) (h44 : look t 44 = s44) : ∀ args m Q, s118 args m Q → FA Tryz.prog (look t) kp118 Tryz.f118 args m Q := by
  rintro args m Q ⟨k, s, z, rfl, h0, h⟩
  rw [e118]
  refine newA_intro fun g1 m2 hg1 e2 hb1 hle2 => ?_
  have et : Int.tmod s 2 = s % 2 := Int.tmod_eq_emod_of_nonneg h0
  simp only [cell_of hb1, h44, s44, exists_and_left, exists_eq_left', List.getElem?_toArray, List.getElem?_cons_zero, List.getElem?_cons_succ, Option.some.injEq, Value.slice.injEq, Value.int.injEq, Value.bool.injEq, Value.string.injEq, Value.agg.injEq, Value.tuple.injEq, Value.pointer.injEq, List.cons.injEq, Array.mk.injEq, and_assoc, true_and, and_true, exists_eq_left, ne_eq, show ¬ ((2 : Int) = 0) by decide, not_false_iff, ite_ret, ite_bool, et]
  refine ret_bool hle2 h ?_
  unfold hdOk sizeB bornB
  clear et
  (apply Bool.eq_iff_iff.2; simp only [beq_iff_eq, decide_eq_true_eq, bne_iff_ne]; repeat' split) <;> (simp only [beq_iff_eq, bne_iff_ne, ne_eq, decide_eq_true_eq, Bool.and_eq_true, Bool.not_eq_true', iff_true, true_iff, iff_false, false_iff, Bool.false_eq_true, and_false, false_and, and_true, true_and, not_false_iff, not_true, Bool.or_eq_true, if_true, if_false] at *) <;> (first | done | omega | (split <;> simp only [decide_eq_true_eq, Bool.false_eq_true] at * <;> omega))
end Go.Proofs.YtpdcjocjkbgddaaGreat.Abs
/- Arenas: the functions that read a head's word, a forwarded word, a value. -/
namespace Go.Proofs.YtpdcjocjkbgddaaGreat.Abs
open Go.RowKit
set_option linter.unusedVariables false
set_option linter.unusedSimpArgs false
set_option maxRecDepth 20000
theorem u64w {x : Int} (h0 : 0 ≤ x) (h1 : x < 18446744073709551616) : IntKind.u64.wrap x = x := by
  unfold IntKind.wrap
  simp [IntKind.bits, IntKind.signed]
  omega
theorem hdW_range {w : Int} (h : inW w) : 0 ≤ w % 16 ∧ w % 16 < 16 ∧ 0 ≤ w / 16 % 65536 ∧ w / 16 % 65536 < 65536 ∧ 0 ≤ w / 1048576 ∧ w / 1048576 < 17592186044416 := by
  obtain ⟨h0, h1⟩ := h
  omega
theorem fdiv_shr (w : Int) (k : Nat) (hk : k ≤ 64) : Int.fdiv w (2 ^ min (Int.toNat (k : Int)) (IntKind.bits .u64)) = w / ((2 ^ k : Nat) : Int) := by
  have e : min (Int.toNat (k : Int)) (IntKind.bits .u64) = k := by
    simp only [Int.toNat_natCast]
    show min k 64 = k
    omega
  rw [e]
  have : (2 : Int) ^ k = ((2 ^ k : Nat) : Int) := by simp
  rw [this]
  exact Int.fdiv_eq_ediv_of_nonneg _ (Int.natCast_nonneg _)
theorem sh4 (w : Int) : Int.fdiv w (2 ^ min (Int.toNat (4 : Int)) (IntKind.bits .u64)) = w / 16 := fdiv_shr w 4 (by omega)
theorem sh20 (w : Int) : Int.fdiv w (2 ^ min (Int.toNat (20 : Int)) (IntKind.bits .u64)) = w / 1048576 := fdiv_shr w 20 (by omega)
theorem sh63 (w : Int) : Int.fdiv w (2 ^ min (Int.toNat (63 : Int)) (IntKind.bits .u64)) = w / 9223372036854775808 := fdiv_shr w 63 (by omega)
def vHd (h : Hd) : Value := .agg #[.int .i64 h.1, .int .i64 h.2.1, .int .i64 h.2.2]
def s103 : Spec := fun args m Q => ∃ w : Int, args = [.int .u64 w] ∧ inW w ∧ Q (.tuple #[vHd (readH w).1, .bool (readH w).2]) m
def s91 : Spec := s103
theorem f103 (t : Tab) (h130 : look t 130 = s130) : ∀ args m Q, s103 args m Q → FA Tryz.prog (look t) kp103 Tryz.f103 args m Q := by
  rintro args m Q ⟨w, rfl, hw, h⟩
  rw [e103]
  obtain ⟨a1, a2, a3, a4, a5, a6⟩ := hdW_range hw
  have m1 := and_mask (w := w) (k := 4) (M := 15) (by rfl) (by omega) hw.1 hw.2
  have m2' := and_mask (w := w / 16) (k := 16) (M := 65535) (by rfl) (by omega) (by omega) (by have := hw.2; omega)
  refine newA_intro fun g1 m2 hg1 e2 hb1 hle2 => ⟨by omega, by omega, newA_intro fun g3 m4 hg3 e4 hb3 hle4 => ?_⟩
  rw [sh4, sh20]
  rw [show (15 : Int) = ((15 : Nat) : Int) by rfl, show (65535 : Int) = ((65535 : Nat) : Int) by rfl, m1, m2', show ((2 ^ 4 : Nat) : Int) = 16 by rfl, show ((2 ^ 16 : Nat) : Int) = 65536 by rfl, w64 (by omega) (by omega), w64 (by omega) (by omega), w64 (by omega) (by omega)]
  refine sto (c := #[.int .i64 0, .int .i64 0, .int .i64 0]) (t := 72) hb3 rfl (by simp) fun m5 e5 h5 hne5 => ?_
  have h5 : m5 g3 = some (.cells #[.int .i64 (w % 16), .int .i64 (w / 16 % 65536), .int .i64 (w / 1048576)] 72 (0, 0)) := h5
  have n13 : g1 ≠ g3 := ne_of_none hg3 hb1
  have b1 : m5 g1 = some (.cells #[.int .i64 0, .int .i64 0, .int .i64 0] 72 (0, 0)) := by rw [hne5 _ n13]; exact hle4 _ _ hb1
  have l5 : Mem.le m m5 := le_other (Mem.le_trans hle2 hle4) (le_none hle2 hg3) hne5
  refine ⟨_, cell_of h5 0, _, cell_of h5 1, _, cell_of h5 2, via h130 ⟨_, _, _, rfl, a3, _, rfl, ?_⟩⟩
  have hk : hdOk (w % 16) (w / 16 % 65536) (w / 1048576) = okW w := rfl
  rw [hk]
  cases hb : okW w with
  | false =>
    rw [if_pos (by decide)]
    refine sto (c := #[.int .i64 0, .int .i64 0, .int .i64 0]) (t := 72) b1 rfl (by simp) fun m15 e15 h15 hne15 => ?_
    have h15 : m15 g1 = some (.cells #[.int .i64 0, .int .i64 0, .int .i64 0] 72 (0, 0)) := h15
    refine ⟨_, cell_of h15 0, _, cell_of h15 1, _, cell_of h15 2, ret_intro (le_other l5 hg1 hne15) ?_⟩
    have e : readH w = ((0, 0, 0), false) := by unfold readH; rw [hb]; rfl
    rw [e] at h
    exact h
  | true =>
    rw [if_neg (by decide)]
    refine ⟨_, cell_of h5 0, _, cell_of h5 1, _, cell_of h5 2, ?_⟩
    refine sto (c := #[.int .i64 0, .int .i64 0, .int .i64 0]) (t := 72) b1 rfl (by simp) fun m15 e15 h15 hne15 => ?_
    have h15 : m15 g1 = some (.cells #[.int .i64 (w % 16), .int .i64 (w / 16 % 65536), .int .i64 (w / 1048576)] 72 (0, 0)) := h15
    refine ⟨_, cell_of h15 0, _, cell_of h15 1, _, cell_of h15 2, ret_intro (le_other l5 hg1 hne15) ?_⟩
    have e : readH w = (hdW w, true) := by unfold readH; rw [hb]; rfl
    rw [e] at h
    exact h
def packH (k s z : Int) : Int := IntKind.u64.wrap (IntKind.u64.wrap (IntKind.u64.wrap k + IntKind.u64.wrap (IntKind.u64.wrap s * 16)) + IntKind.u64.wrap (IntKind.u64.wrap z * 1048576))
def s79 : Spec := fun args m Q => ∃ k s z : Int, args = [.agg #[.int .i64 k, .int .i64 s, .int .i64 z]] ∧ 0 ≤ s ∧ Q (if hdOk k s z then .tuple #[.int .u64 (packH k s z), .bool true] else .tuple #[.int .u64 0, .bool false]) m
theorem f79 (t : Tab) (h118 : look t 118 = s118) : ∀ args m Q, s79 args m Q → FA Tryz.prog (look t) kp79 Tryz.f79 args m Q := by
  rintro args m Q ⟨k, s, z, rfl, h0, h⟩
  rw [e79]
  refine newA_intro fun g1 m2 hg1 e2 hb1 hle2 => ?_
  refine ⟨_, cell_of hb1 0, _, cell_of hb1 1, _, cell_of hb1 2, via h118 ⟨k, s, z, rfl, h0, _, rfl, ?_⟩⟩
  cases hb : hdOk k s z with
  | false => rw [if_pos (by decide)]; rw [hb, if_neg (by decide)] at h; exact ret_intro hle2 h
  | true =>
    rw [if_neg (by decide)]
    rw [hb, if_pos rfl] at h
    exact ⟨_, cell_of hb1 0, _, cell_of hb1 1, _, cell_of hb1 2, ret_intro hle2 h⟩
theorem packH_back {w : Int} (h : inW w) : (hdOk (w % 16) (w / 16 % 65536) (w / 1048576 % 4294967296) && (packH (w % 16) (w / 16 % 65536) (w / 1048576 % 4294967296) == w)) = okW w := by
  obtain ⟨a1, a2, a3, a4, a5, a6⟩ := hdW_range h
  obtain ⟨h0, h1⟩ := h
  have hp : packH (w % 16) (w / 16 % 65536) (w / 1048576 % 4294967296) = w % 16 + w / 16 % 65536 * 16 + w / 1048576 % 4294967296 * 1048576 := by
    unfold packH
    rw [u64w (x := w % 16) (by omega) (by omega), u64w (x := w / 16 % 65536) (by omega) (by omega), u64w (x := w / 1048576 % 4294967296) (by omega) (by omega), u64w (x := w / 16 % 65536 * 16) (by omega) (by omega), u64w (x := w / 1048576 % 4294967296 * 1048576) (by omega) (by omega), u64w (x := w % 16 + w / 16 % 65536 * 16) (by omega) (by omega), u64w (x := w % 16 + w / 16 % 65536 * 16 + w / 1048576 % 4294967296 * 1048576) (by omega) (by omega)]
  rw [hp]
  unfold okW
  by_cases hz : w / 1048576 < 4294967296
  · have e : w / 1048576 % 4294967296 = w / 1048576 := by omega
    rw [e]
    have e2 : (w % 16 + w / 16 % 65536 * 16 + w / 1048576 * 1048576 == w) = true := by rw [beq_iff_eq]; omega
    rw [e2, Bool.and_true]
  · have e2 : (w % 16 + w / 16 % 65536 * 16 + w / 1048576 % 4294967296 * 1048576 == w) = false := by rw [beq_eq_false_iff_ne]; omega
    rw [e2, Bool.and_false]
    unfold hdOk
    cases sizeB (w % 16) (w / 16 % 65536) with
    | false => rfl
    | true =>
      cases bornB (w % 16) with
      | true => simp only [Bool.true_and, if_true]; symm; rw [decide_eq_false_iff_not]; omega
      | false => simp only [Bool.true_and, Bool.false_eq_true, if_false]; symm; rw [decide_eq_false_iff_not]; omega
theorem f91 (t : Tab) (h79 : look t 79 = s79) : ∀ args m Q, s91 args m Q → FA Tryz.prog (look t) kp91 Tryz.f91 args m Q := by
  rintro args m Q ⟨w, rfl, hw, h⟩
  rw [e91]
  obtain ⟨a1, a2, a3, a4, a5, a6⟩ := hdW_range hw
  have m1 := and_mask (w := w) (k := 4) (M := 15) (by rfl) (by omega) hw.1 hw.2
  have m2' := and_mask (w := w / 16) (k := 16) (M := 65535) (by rfl) (by omega) (by omega) (by have := hw.2; omega)
  have m3' := and_mask (w := w / 1048576) (k := 32) (M := 4294967295) (by rfl) (by omega) (by omega) (by omega)
  have hpb := packH_back hw
  refine newA_intro fun g1 m2 hg1 e2 hb1 hle2 => ⟨by omega, by omega, newA_intro fun g3 m4 hg3 e4 hb3 hle4 => ?_⟩
  rw [sh4, sh20]
  rw [show (15 : Int) = ((15 : Nat) : Int) by rfl, show (65535 : Int) = ((65535 : Nat) : Int) by rfl, show (4294967295 : Int) = ((4294967295 : Nat) : Int) by rfl, m1, m2', m3', show ((2 ^ 4 : Nat) : Int) = 16 by rfl, show ((2 ^ 16 : Nat) : Int) = 65536 by rfl, show ((2 ^ 32 : Nat) : Int) = 4294967296 by rfl, w64 (x := w % 16) (by omega) (by omega), w64 (x := w / 16 % 65536) (by omega) (by omega), w64 (x := w / 1048576 % 4294967296) (by omega) (by omega)]
  refine sto (c := #[.int .i64 0, .int .i64 0, .int .i64 0]) (t := 72) hb3 rfl (by simp) fun m5 e5 h5 hne5 => ?_
  have h5 : m5 g3 = some (.cells #[.int .i64 (w % 16), .int .i64 (w / 16 % 65536), .int .i64 (w / 1048576 % 4294967296)] 72 (0, 0)) := h5
  have n13 : g1 ≠ g3 := ne_of_none hg3 hb1
  have b1 : m5 g1 = some (.cells #[.int .i64 0, .int .i64 0, .int .i64 0] 72 (0, 0)) := by rw [hne5 _ n13]; exact hle4 _ _ hb1
  have l5 : Mem.le m m5 := le_other (Mem.le_trans hle2 hle4) (le_none hle2 hg3) hne5
  have bad : okW w = false → (stoA m5 ⟨g1, 0, none⟩ [(.int .i64 (0 : Int)), (.int .i64 (0 : Int)), (.int .i64 (0 : Int))] fun m16 => (∃ y17 : Int, (Mem.cell? m16 ⟨g1, 0, none⟩ = some (.int .i64 y17) ∧ (∃ y19 : Int, (Mem.cell? m16 ⟨g1, 1, none⟩ = some (.int .i64 y19) ∧ (∃ y21 : Int, (Mem.cell? m16 ⟨g1, 2, none⟩ = some (.int .i64 y21) ∧ (ret Q (.tuple #[(.agg #[(.int .i64 y17), (.int .i64 y19), (.int .i64 y21)]), (.bool false)]) m16)))))))) := by
    intro hb
    refine sto (c := #[.int .i64 0, .int .i64 0, .int .i64 0]) (t := 72) b1 rfl (by simp) fun m15 e15 h15 hne15 => ?_
    have h15 : m15 g1 = some (.cells #[.int .i64 0, .int .i64 0, .int .i64 0] 72 (0, 0)) := h15
    refine ⟨_, cell_of h15 0, _, cell_of h15 1, _, cell_of h15 2, ret_intro (le_other l5 hg1 hne15) ?_⟩
    have e : readH w = ((0, 0, 0), false) := by unfold readH; rw [hb]; rfl
    rw [e] at h
    exact h
  refine ⟨_, cell_of h5 0, _, cell_of h5 1, _, cell_of h5 2, via h79 ⟨_, _, _, rfl, a3, ?_⟩⟩
  cases hb : hdOk (w % 16) (w / 16 % 65536) (w / 1048576 % 4294967296) with
  | false =>
    rw [if_neg (by decide)]
    refine ⟨_, _, rfl, ?_⟩
    rw [if_pos (by decide)]
    exact bad (by rw [← hpb, hb]; rfl)
  | true =>
    rw [if_pos rfl]
    refine ⟨_, _, rfl, ?_⟩
    rw [if_neg (by decide)]
    rw [hb, Bool.true_and] at hpb
    by_cases he : packH (w % 16) (w / 16 % 65536) (w / 1048576 % 4294967296) = w
    · rw [if_neg (by simpa using he)]
      have hok : okW w = true := by rw [← hpb, beq_iff_eq]; exact he
      have hz : w / 1048576 % 4294967296 = w / 1048576 := by
        have : w / 1048576 ≤ 1000000000 := by
          unfold okW hdOk at hok
          simp only [Bool.and_eq_true] at hok
          have h2 := hok.2
          split at h2 <;> simp only [decide_eq_true_eq] at h2 <;> omega
        omega
      refine ⟨_, cell_of h5 0, _, cell_of h5 1, _, cell_of h5 2, ?_⟩
      refine sto (c := #[.int .i64 0, .int .i64 0, .int .i64 0]) (t := 72) b1 rfl (by simp) fun m15 e15 h15 hne15 => ?_
      have h15 : m15 g1 = some (.cells #[.int .i64 (w % 16), .int .i64 (w / 16 % 65536), .int .i64 (w / 1048576 % 4294967296)] 72 (0, 0)) := h15
      refine ⟨_, cell_of h15 0, _, cell_of h15 1, _, cell_of h15 2, ret_intro (le_other l5 hg1 hne15) ?_⟩
      have e : readH w = (hdW w, true) := by unfold readH; rw [hok]; rfl
      rw [e] at h
      rw [hz]
      exact h
    · rw [if_pos (by simpa using he)]
      exact bad (by rw [← hpb, beq_eq_false_iff_ne]; exact he)
def s102 : Spec := fun args m Q => ∃ w : Int, args = [.int .u64 w] ∧ inW w ∧ Q (.tuple #[.int .i64 (fwd w).1, .bool (fwd w).2]) m
def s92 : Spec := s102
theorem f102 (t : Tab) : ∀ args m Q, s102 args m Q → FA Tryz.prog (look t) kp102 Tryz.f102 args m Q := by
  rintro args m Q ⟨w, rfl, hw, h⟩
  rw [e102]
  obtain ⟨h0, h1⟩ := hw
  rw [and_top h0 h1, and_rest h0 h1]
  unfold fwd at h
  by_cases c : w < 9223372036854775808
  · rw [if_pos c, if_pos (by decide)]
    rw [if_pos (.inl c)] at h
    exact ret_intro (Mem.le_refl _) h
  · rw [if_neg c, if_neg (by decide)]
    have e : w % 9223372036854775808 = w - 9223372036854775808 := by omega
    rw [e]
    by_cases c2 : w - 9223372036854775808 > 2147483647
    · rw [if_pos (by simpa using c2)]
      rw [if_pos (.inr c2)] at h
      exact ret_intro (Mem.le_refl _) h
    · rw [if_neg (by simpa using c2), w64 (by omega) (by omega)]
      rw [if_neg (by omega)] at h
      exact ret_intro (Mem.le_refl _) h
theorem f92 (t : Tab) : ∀ args m Q, s92 args m Q → FA Tryz.prog (look t) kp92 Tryz.f92 args m Q := by
  rintro args m Q ⟨w, rfl, hw, h⟩
  rw [e92]
  obtain ⟨h0, h1⟩ := hw
  have m1 := and_mask (w := w) (k := 63) (M := 9223372036854775807) (by rfl) (by omega) h0 h1
  refine ⟨by omega, ?_⟩
  rw [sh63, show (9223372036854775807 : Int) = ((9223372036854775807 : Nat) : Int) by rfl, m1, show ((2 ^ 63 : Nat) : Int) = 9223372036854775808 by rfl]
  unfold fwd at h
  by_cases c : w < 9223372036854775808
  · have e : w / 9223372036854775808 = 0 := by omega
    rw [e, if_pos (by decide)]
    rw [if_pos (.inl c)] at h
    exact ret_intro (Mem.le_refl _) h
  · have e1 : w / 9223372036854775808 = 1 := by omega
    rw [e1, if_neg (by decide)]
    have e : w % 9223372036854775808 = w - 9223372036854775808 := by omega
    rw [e]
    by_cases c2 : w - 9223372036854775808 > 2147483647
    · rw [if_pos (by simpa using c2)]
      rw [if_pos (.inr c2)] at h
      exact ret_intro (Mem.le_refl _) h
    · rw [if_neg (by simpa using c2), w64 (by omega) (by omega)]
      rw [if_neg (by omega)] at h
      exact ret_intro (Mem.le_refl _) h
abbrev Vl := Int × Int
def vVl (v : Vl) : Value := .agg #[.int .i64 v.1, .int .i64 v.2]
def s137 : Spec := fun args m Q => ∃ v : Vl, args = [vVl v] ∧ Q (.bool (isRefB v)) m
def s100 : Spec := s137
theorem f137 (t : Tab) (h136 : look t 136 = s136) : ∀ args m Q, s137 args m Q → FA Tryz.prog (look t) kp137 Tryz.f137 args m Q := by
  rintro args m Q ⟨⟨a, b⟩, rfl, h⟩
  show FA Tryz.prog (look t) kp137 Tryz.f137 [.agg #[.int .i64 a, .int .i64 b]] m Q
  rw [e137]
  refine newA_intro fun g1 m2 hg1 e2 hb1 hle2 => ⟨_, cell_of hb1 0, via h136 ⟨_, rfl, _, rfl, ret_intro hle2 h⟩⟩
theorem f100 (t : Tab) (h101 : look t 101 = s101) : ∀ args m Q, s100 args m Q → FA Tryz.prog (look t) kp100 Tryz.f100 args m Q := by
  rintro args m Q ⟨⟨a, b⟩, rfl, h⟩
  show FA Tryz.prog (look t) kp100 Tryz.f100 [.agg #[.int .i64 a, .int .i64 b]] m Q
  rw [e100]
  refine newA_intro fun g1 m2 hg1 e2 hb1 hle2 => ⟨_, cell_of hb1 0, via h101 ⟨_, rfl, _, rfl, ret_intro hle2 h⟩⟩
def s108 : Spec := fun args m Q => ∃ v : Vl, args = [vVl v] ∧ Q (.bool (valOkB v)) m
def s58 : Spec := s108
theorem f108 (t : Tab) (h136 : look t 136 = s136) (h47 : look t 47 = s47) : ∀ args m Q, s108 args m Q → FA Tryz.prog (look t) kp108 Tryz.f108 args m Q := by
  rintro args m Q ⟨⟨a, b⟩, rfl, h⟩
  show FA Tryz.prog (look t) kp108 Tryz.f108 [.agg #[.int .i64 a, .int .i64 b]] m Q
  rw [e108]
  refine newA_intro fun g1 m2 hg1 e2 hb1 hle2 => ?_
  simp only [cell_of hb1, h47, s47, s44, h136, s136, exists_and_left, exists_eq_left', List.getElem?_toArray, List.getElem?_cons_zero, List.getElem?_cons_succ, Option.some.injEq, Value.slice.injEq, Value.int.injEq, Value.bool.injEq, Value.string.injEq, Value.agg.injEq, Value.tuple.injEq, Value.pointer.injEq, List.cons.injEq, Array.mk.injEq, and_assoc, true_and, and_true, exists_eq_left, ite_ret, ite_bool]
  refine ret_bool hle2 h ?_
  unfold valOkB isRefB
  (apply Bool.eq_iff_iff.2; simp only [beq_iff_eq, decide_eq_true_eq, bne_iff_ne]; repeat' split) <;> (simp only [beq_iff_eq, bne_iff_ne, ne_eq, decide_eq_true_eq, Bool.and_eq_true, Bool.not_eq_true', iff_true, true_iff, iff_false, false_iff, Bool.false_eq_true, and_false, false_and, and_true, true_and, not_false_iff, not_true, Bool.or_eq_true, if_true, if_false] at *) <;> (first | done | omega | (split <;> simp only [decide_eq_true_eq, Bool.false_eq_true] at * <;> omega))
theorem f58 (t : Tab) (h100 : look t 100 = s100) (h44 : look t 44 = s44) : ∀ args m Q, s58 args m Q → FA Tryz.prog (look t) kp58 Tryz.f58 args m Q := by
  rintro args m Q ⟨⟨a, b⟩, rfl, h⟩
  show FA Tryz.prog (look t) kp58 Tryz.f58 [.agg #[.int .i64 a, .int .i64 b]] m Q
  rw [e58]
  refine newA_intro fun g1 m2 hg1 e2 hb1 hle2 => ?_
  have hI : ∀ (K : Value → Mem → Prop) (M : Mem), look t 100 [.agg #[.int .i64 a, .int .i64 b]] M K = K (.bool (isRefB (a, b))) M := by
    intro K M
    rw [h100]
    apply propext
    exact ⟨fun ⟨⟨x, y⟩, e, k⟩ => by
      have e : Value.agg #[.int .i64 a, .int .i64 b] = vVl (x, y) := by injection e
      simp [vVl] at e
      obtain ⟨rfl, rfl⟩ := e
      exact k, fun k => ⟨(a, b), rfl, k⟩⟩
  simp only [cell_of hb1, h44, s44, hI, exists_and_left, exists_eq_left', List.getElem?_toArray, List.getElem?_cons_zero, List.getElem?_cons_succ, Option.some.injEq, Value.slice.injEq, Value.int.injEq, Value.bool.injEq, Value.string.injEq, Value.agg.injEq, Value.tuple.injEq, Value.pointer.injEq, List.cons.injEq, Array.mk.injEq, and_assoc, true_and, and_true, exists_eq_left, ite_ret, ite_bool]
  refine ret_bool hle2 h ?_
  unfold valOkB
  cases isRefB (a, b) <;> (apply Bool.eq_iff_iff.2; simp only [beq_iff_eq, decide_eq_true_eq, bne_iff_ne]; repeat' split) <;> (simp only [beq_iff_eq, bne_iff_ne, ne_eq, decide_eq_true_eq, Bool.and_eq_true, Bool.not_eq_true', iff_true, true_iff, iff_false, false_iff, Bool.false_eq_true, and_false, false_and, and_true, true_and, not_false_iff, not_true, Bool.or_eq_true, if_true, if_false] at *) <;> (first | done | omega | (split <;> simp only [decide_eq_true_eq, Bool.false_eq_true] at * <;> omega))
end Go.Proofs.YtpdcjocjkbgddaaGreat.Abs
