/- Arenas: heads, words that are forwarded, values; in plain words, and the functions that tell them. -/
import Derived.Test.YtjdcndicaeodbaaGreatNj
import Derived.Test.YtjdcndicaeodbaaGreatEqS
import Derived.Test.YtjdcndicaeodbaaGreatEqI
namespace Go.Proofs.YtjdcndicaeodbaaGreat.Abs
open Go.RowKit
set_option linter.unusedVariables false
set_option linter.unusedSimpArgs false
set_option maxRecDepth 20000

theorem mixed : Tryz.prog.follows .mixedOrders = true := by kernel_rfl
theorem ret_of {m m2 : Mem} {Q : Value → Mem → Prop} {v : Value} (hle : Mem.le m m2) (h : Q v m) : ret Q v m2 := ⟨m, hle, h⟩
theorem ite_ret {c : Prop} [Decidable c] {Q : Value → Mem → Prop} {a b : Value} {m : Mem} : (if c then ret Q a m else ret Q b m) = ret Q (if c then a else b) m := by split <;> rfl
theorem ite_bool {c : Prop} [Decidable c] {a b : Bool} : (if c then Value.bool a else Value.bool b) = .bool (if c then a else b) := by split <;> rfl
theorem ite_int {c : Prop} [Decidable c] {k : IntKind} {a b : Int} : (if c then Value.int k a else Value.int k b) = .int k (if c then a else b) := by split <;> rfl

/-! ### Bits -/
theorem and_bits {n M : Nat} (hn : n < 2 ^ 64) (hM : M < 2 ^ 64) : IntKind.u64.wrap (BitVec.toNat (BitVec.ofInt (IntKind.bits .u64) (n : Int) &&& BitVec.ofInt (IntKind.bits .u64) (M : Int))) = ((n &&& M : Nat) : Int) := by
  have e1 : BitVec.ofInt (IntKind.bits .u64) (n : Int) = BitVec.ofNat 64 n := by simp [IntKind.bits]
  have e2 : BitVec.ofInt (IntKind.bits .u64) (M : Int) = BitVec.ofNat 64 M := by simp [IntKind.bits]
  rw [e1, e2]
  have e3 : (BitVec.ofNat 64 n &&& BitVec.ofNat 64 M).toNat = n &&& M := by
    rw [BitVec.toNat_and, BitVec.toNat_ofNat, BitVec.toNat_ofNat, Nat.mod_eq_of_lt hn, Nat.mod_eq_of_lt hM]
  have hlt : n &&& M < 2 ^ 64 := Nat.lt_of_le_of_lt Nat.and_le_left hn
  show IntKind.u64.wrap ((BitVec.ofNat 64 n &&& BitVec.ofNat 64 M).toNat : Int) = _
  rw [e3]
  unfold IntKind.wrap
  simp only [IntKind.bits, IntKind.signed, Bool.false_and, Bool.false_eq_true, if_false]
  omega
theorem and_mask {w : Int} {k M : Nat} (hM : M = 2 ^ k - 1) (hk : k ≤ 63) (h0 : 0 ≤ w) (h1 : w < 18446744073709551616) : IntKind.u64.wrap (BitVec.toNat (BitVec.ofInt (IntKind.bits .u64) w &&& BitVec.ofInt (IntKind.bits .u64) (M : Int))) = w % ((2 ^ k : Nat) : Int) := by
  obtain ⟨n, rfl⟩ := Int.eq_ofNat_of_zero_le h0
  have h2 : 2 ^ k ≤ 2 ^ 63 := Nat.pow_le_pow_right (by omega) hk
  rw [and_bits (by omega) (by omega), hM, Nat.and_two_pow_sub_one_eq_mod]
  rfl
theorem and_top {w : Int} (h0 : 0 ≤ w) (h1 : w < 18446744073709551616) : IntKind.u64.wrap (BitVec.toNat (BitVec.ofInt (IntKind.bits .u64) w &&& BitVec.ofInt (IntKind.bits .u64) (9223372036854775808 : Int))) = if w < 9223372036854775808 then 0 else 9223372036854775808 := by
  obtain ⟨n, rfl⟩ := Int.eq_ofNat_of_zero_le h0
  have e := and_bits (n := n) (M := 2 ^ 63) (by omega) (by omega)
  rw [show ((2 ^ 63 : Nat) : Int) = 9223372036854775808 by rfl] at e
  rw [e]
  by_cases h : n < 2 ^ 63
  · rw [if_pos (by omega)]
    have e0 : n &&& 2 ^ 63 = 0 := by
      apply Nat.eq_of_testBit_eq
      intro i
      rw [Nat.testBit_and, Nat.testBit_two_pow, Nat.zero_testBit]
      by_cases hi : 63 = i
      · subst hi; rw [Nat.testBit_lt_two_pow h]; rfl
      · simp [hi]
    rw [e0]; rfl
  · have ht : n.testBit 63 = true := by
      rw [Nat.testBit_eq_decide_div_mod_eq]
      have : n / 2 ^ 63 = 1 := by omega
      rw [this]; rfl
    rw [if_neg (by omega)]
    have e0 : n &&& 2 ^ 63 = 2 ^ 63 := by
      apply Nat.eq_of_testBit_eq
      intro i
      rw [Nat.testBit_and, Nat.testBit_two_pow]
      by_cases hi : 63 = i
      · subst hi; rw [ht]; rfl
      · simp [hi]
    rw [e0]; rfl
theorem and_rest {w : Int} (h0 : 0 ≤ w) (h1 : w < 18446744073709551616) : IntKind.u64.wrap (BitVec.toNat (BitVec.ofInt (IntKind.bits .u64) w &&& ~~~ BitVec.ofInt (IntKind.bits .u64) (9223372036854775808 : Int))) = w % 9223372036854775808 := by
  have e : ~~~ BitVec.ofInt (IntKind.bits .u64) (9223372036854775808 : Int) = BitVec.ofInt (IntKind.bits .u64) ((9223372036854775807 : Nat) : Int) := by decide
  rw [e, and_mask (k := 63) (by rfl) (by omega) h0 h1]
  rfl

/-! ### In plain words -/
def sizeB (k s : Int) : Bool :=
  if k = 1 then decide (1 ≤ s ∧ s ≤ 21) else if k = 2 then decide (s = 3) else if k = 3 then decide (s = 16 ∨ s = 32 ∨ s = 64 ∨ s = 128 ∨ s = 256)
  else if k = 4 then decide (1 ≤ s ∧ s ≤ 25 ∧ s % 2 = 1) else if k = 5 then decide (s = 2) else if k = 6 then decide (s = 126) else false
def bornB (k : Int) : Bool := decide (k = 2 ∨ k = 4 ∨ k = 6)
def hdOk (k s z : Int) : Bool := sizeB k s && (if bornB k then decide (1 ≤ z ∧ z ≤ 1000000000) else decide (z = 0))
abbrev Hd := Int × Int × Int
def hdW (w : Int) : Hd := (w % 16, w / 16 % 65536, w / 1048576)
def okW (w : Int) : Bool := hdOk (w % 16) (w / 16 % 65536) (w / 1048576)
def readH (w : Int) : Hd × Bool := if okW w then (hdW w, true) else ((0, 0, 0), false)
def fwd (w : Int) : Int × Bool := if w < 9223372036854775808 ∨ w - 9223372036854775808 > 2147483647 then (0, false) else (w - 9223372036854775808, true)
def kindT (t : Int) : Int := if t = 3 then 1 else if t = 4 then 2 else if t = 5 then 4 else if t = 6 then 6 else if t = 8 then 3 else if t = 9 then 5 else 0
def isRefB (v : Int × Int) : Bool := kindT v.1 != 0
def valOkB (v : Int × Int) : Bool := if v.1 = 0 then decide (v.2 = 0) else if v.1 = 1 then decide (0 ≤ v.2 ∧ v.2 ≤ 1) else if v.1 = 2 then true else if v.1 = 7 then decide (1 ≤ v.2 ∧ v.2 ≤ 20) else isRefB v && decide (v.2 > 0)
def inW (w : Int) : Prop := 0 ≤ w ∧ w < 18446744073709551616
theorem ret_bool {m m2 : Mem} {Q : Value → Mem → Prop} {a b : Bool} (hle : Mem.le m m2) (h : Q (.bool b) m) (e : a = b) : ret Q (.bool a) m2 := by subst e; exact ⟨m, hle, h⟩
theorem ret_int {m m2 : Mem} {Q : Value → Mem → Prop} {a b : Int} {k : IntKind} (hle : Mem.le m m2) (h : Q (.int k b) m) (e : a = b) : ret Q (.int k a) m2 := by subst e; exact ⟨m, hle, h⟩
def s78 : Spec := fun args m Q => ∃ x lo hi : Int, args = [.int .i64 x, .int .i64 lo, .int .i64 hi] ∧ Q (.bool (decide (lo ≤ x ∧ x ≤ hi))) m
def s80 : Spec := s78
theorem f78 (t : Tab) : ∀ args m Q, s78 args m Q → FA Tryz.prog (look t) kp78 Tryz.f78 args m Q := by
  rintro args m Q ⟨x, lo, hi, rfl, h⟩
  rw [e78]
  simp only [ite_ret, ite_bool]
  refine ret_bool (Mem.le_refl _) h ?_
  by_cases h1 : lo ≤ x <;> by_cases h2 : x ≤ hi <;> simp [h1, h2]
theorem f80 (t : Tab) : ∀ args m Q, s80 args m Q → FA Tryz.prog (look t) kp80 Tryz.f80 args m Q := by
  rintro args m Q ⟨x, lo, hi, rfl, h⟩
  rw [e80]
  simp only [ite_ret, ite_bool]
  refine ret_bool (Mem.le_refl _) h ?_
  by_cases h1 : lo ≤ x <;> by_cases h2 : x ≤ hi <;> simp [h1, h2]
def s186 : Spec := fun args m Q => ∃ x : Int, args = [.int .i64 x] ∧ Q (.int .i64 (kindT x)) m
def s165 : Spec := s186
theorem f186 (t : Tab) : ∀ args m Q, s186 args m Q → FA Tryz.prog (look t) kp186 Tryz.f186 args m Q := by
  rintro args m Q ⟨x, rfl, h⟩
  rw [e186]
  simp only [ite_ret, ite_int]
  refine ret_int (Mem.le_refl _) h ?_
  unfold kindT
  simp only [beq_iff_eq]
theorem f165 (t : Tab) : ∀ args m Q, s165 args m Q → FA Tryz.prog (look t) kp165 Tryz.f165 args m Q := by
  rintro args m Q ⟨x, rfl, h⟩
  rw [e165]
  simp only [ite_ret, ite_int]
  refine ret_int (Mem.le_refl _) h ?_
  unfold kindT
  simp only [beq_iff_eq]
def s174 : Spec := fun args m Q => ∃ k s : Int, args = [.int .i64 k, .int .i64 s] ∧ 0 ≤ s ∧ Q (.bool (sizeB k s)) m
theorem f174 (t : Tab) (h80 : look t 80 = s80) : ∀ args m Q, s174 args m Q → FA Tryz.prog (look t) kp174 Tryz.f174 args m Q := by
  rintro args m Q ⟨k, s, rfl, h0, h⟩
  rw [e174]
  have et : Int.tmod s 2 = s % 2 := Int.tmod_eq_emod_of_nonneg h0
  simp only [h80, s80, s78, exists_and_left, exists_eq_left', List.getElem?_toArray, List.getElem?_cons_zero, List.getElem?_cons_succ, Option.some.injEq, Value.slice.injEq, Value.int.injEq, Value.bool.injEq, Value.string.injEq, Value.agg.injEq, Value.tuple.injEq, Value.pointer.injEq, List.cons.injEq, Array.mk.injEq, and_assoc, true_and, and_true, exists_eq_left, ne_eq, show ¬ ((2 : Int) = 0) by decide, not_false_iff]
  simp only [ite_ret, ite_bool, et]
  refine ret_bool (Mem.le_refl _) h ?_
  unfold sizeB
  clear et
  (apply Bool.eq_iff_iff.2; simp only [beq_iff_eq, decide_eq_true_eq, bne_iff_ne]; repeat' split) <;> (simp only [beq_iff_eq, bne_iff_ne, ne_eq, decide_eq_true_eq, Bool.and_eq_true, Bool.not_eq_true', iff_true, true_iff, iff_false, false_iff, Bool.false_eq_true, and_false, false_and, and_true, true_and, not_false_iff, not_true, Bool.or_eq_true, if_true, if_false] at *) <;> (first | done | omega | (split <;> simp only [decide_eq_true_eq, Bool.false_eq_true] at * <;> omega))
def s175 : Spec := fun args m Q => ∃ k : Int, args = [.int .i64 k] ∧ Q (.bool (bornB k)) m
theorem f175 (t : Tab) : ∀ args m Q, s175 args m Q → FA Tryz.prog (look t) kp175 Tryz.f175 args m Q := by
  rintro args m Q ⟨k, rfl, h⟩
  rw [e175]
  simp only [ite_ret, ite_bool]
  refine ret_bool (Mem.le_refl _) h ?_
  unfold bornB
  by_cases h1 : k = 2 <;> by_cases h2 : k = 4 <;> by_cases h3 : k = 6 <;> simp [h1, h2, h3] <;> omega
def s112 : Spec := fun args m Q => ∃ k s z : Int, args = [.agg #[.int .i64 k, .int .i64 s, .int .i64 z]] ∧ 0 ≤ s ∧ Q (.bool (hdOk k s z)) m
def s41 : Spec := s112
theorem f112 (t : Tab) (h174 : look t 174 = s174) (h175 : look t 175 = s175) (h80 : look t 80 = s80) : ∀ args m Q, s112 args m Q → FA Tryz.prog (look t) kp112 Tryz.f112 args m Q := by
  rintro args m Q ⟨k, s, z, rfl, h0, h⟩
  rw [e112]
  refine newA_intro fun g1 m2 hg1 e2 hb1 hle2 => ?_
  simp only [cell_of hb1, h80, s80, s78, h174, s174, h175, s175, h0, exists_and_left, exists_eq_left', List.getElem?_toArray, List.getElem?_cons_zero, List.getElem?_cons_succ, Option.some.injEq, Value.slice.injEq, Value.int.injEq, Value.bool.injEq, Value.string.injEq, Value.agg.injEq, Value.tuple.injEq, Value.pointer.injEq, List.cons.injEq, Array.mk.injEq, and_assoc, true_and, and_true, exists_eq_left, ite_ret, ite_bool]
  refine ret_bool hle2 h ?_
  unfold hdOk
  have : (z == 0) = decide (z = 0) := by (apply Bool.eq_iff_iff.2; simp only [beq_iff_eq, decide_eq_true_eq, bne_iff_ne]; repeat' split) <;> (simp only [beq_iff_eq, bne_iff_ne, ne_eq, decide_eq_true_eq, Bool.and_eq_true, Bool.not_eq_true', iff_true, true_iff, iff_false, false_iff, Bool.false_eq_true, and_false, false_and, and_true, true_and, not_false_iff, not_true, Bool.or_eq_true, if_true, if_false] at *) <;> (first | done | omega | (split <;> simp only [decide_eq_true_eq, Bool.false_eq_true] at * <;> omega))
  rw [this]
  cases sizeB k s <;> cases bornB k <;> simp
theorem f41 (t : Tab) (h78 : look t 78 = s78) : ∀ args m Q, s41 args m Q → FA Tryz.prog (look t) kp41 Tryz.f41 args m Q := by
  rintro args m Q ⟨k, s, z, rfl, h0, h⟩
  rw [e41]
  refine newA_intro fun g1 m2 hg1 e2 hb1 hle2 => ?_
  have et : Int.tmod s 2 = s % 2 := Int.tmod_eq_emod_of_nonneg h0
  simp only [cell_of hb1, h78, s78, exists_and_left, exists_eq_left', List.getElem?_toArray, List.getElem?_cons_zero, List.getElem?_cons_succ, Option.some.injEq, Value.slice.injEq, Value.int.injEq, Value.bool.injEq, Value.string.injEq, Value.agg.injEq, Value.tuple.injEq, Value.pointer.injEq, List.cons.injEq, Array.mk.injEq, and_assoc, true_and, and_true, exists_eq_left, ne_eq, show ¬ ((2 : Int) = 0) by decide, not_false_iff, ite_ret, ite_bool, et]
  refine ret_bool hle2 h ?_
  unfold hdOk sizeB bornB
  clear et
  (apply Bool.eq_iff_iff.2; simp only [beq_iff_eq, decide_eq_true_eq, bne_iff_ne]; repeat' split) <;> (simp only [beq_iff_eq, bne_iff_ne, ne_eq, decide_eq_true_eq, Bool.and_eq_true, Bool.not_eq_true', iff_true, true_iff, iff_false, false_iff, Bool.false_eq_true, and_false, false_and, and_true, true_and, not_false_iff, not_true, Bool.or_eq_true, if_true, if_false] at *) <;> (first | done | omega | (split <;> simp only [decide_eq_true_eq, Bool.false_eq_true] at * <;> omega))
end Go.Proofs.YtjdcndicaeodbaaGreat.Abs
