/- Modules: the contracts of the functions that measure them. -/
import Derived.Test.YtcbjdodehjpddaaMq
namespace Go.Proofs.Ytcbjdodehjpddaa.Abs
open Go.RowKit
set_option linter.unusedVariables false
set_option linter.unusedSimpArgs false
set_option maxRecDepth 20000

/-- What a measure takes from what is at hand: a row's length must be one that Go can hold. -/
def big {α : Type} (l : List α) : Prop := l.length ≤ 9223372036854775807
def bigP (p : Pr) : Prop := big p.2.2.1 ∧ big p.2.2.2
def szB {α : Type} (d : Ds α) (v : d.H → Value) (bg : α → Prop) (ok : α → Prop) : Spec := fun args m Q => ∃ (h : d.H) (x : α) (k : Int), args = [v h, .int .i64 k] ∧ d.At m h x ∧ bg x ∧ 0 ≤ k ∧ k ≤ 2 ^ 20 ∧ ∀ r : Int, (r < 0 ∨ 0 ≤ r ∧ r ≤ k ∧ ok x) → Q (.int .i64 r) m

def s17' : Spec := szB dPr vP bigP okP
theorem to17 {args : List Value} {m : Mem} {Q : Value → Mem → Prop} (h : s17' args m Q) : s17 args m Q := by
  obtain ⟨(⟨p, s, ⟨ua, un, uc⟩, ⟨ca, cn, cc⟩⟩ : PH), ⟨p0, s0, lu, lc⟩, k, rfl, ⟨hp, hs, ⟨hun, hur⟩, ⟨hcn, hcr⟩⟩, ⟨hb1, hb2⟩, h0, h1, hq⟩ := h
  have hun : un = lu.length := hun
  have hcn : cn = lc.length := hcn
  have hb1 : lu.length ≤ 9223372036854775807 := hb1
  have hb2 : lc.length ≤ 9223372036854775807 := hb2
  refine ⟨p, s, ua, un, uc, ca, cn, cc, k, rfl, by omega, by omega, h0, by omega, ?_⟩
  refine hq _ ?_
  unfold szP
  split
  · left; decide
  · split
    · left; decide
    · right
      refine ⟨by omega, by omega, ?_, ?_⟩
      · show lu.length ≤ 2 ^ 20; omega
      · show lc.length ≤ 2 ^ 20; omega
def s69 : Spec := szB dPrs vs (fun l => big l ∧ ∀ p ∈ l, bigP p) okPs
theorem f69 (t : Tab) (h17 : look t 17 = s17') : ∀ args m Q, s69 args m Q → FA Try.prog (look t) kp69 Try.f69 args m Q := by
  rintro args m Q ⟨⟨a, n, c⟩, l, k, rfl, ⟨hn, hs, hl, hrd, hat⟩, ⟨hb, hb2⟩, h0, h1, h⟩
  have hn : n = l.length := hn
  have hb : l.length ≤ 9223372036854775807 := hb
  show FA Try.prog (look t) kp69 Try.f69 [.slice a n c, .int .i64 k] m Q
  rw [e69, w64 (by omega) (by omega)]
  by_cases hk : k - n < 0
  · rw [if_pos (by simpa using hk)]
    exact ret_intro (Mem.le_refl _) (h _ (.inl (by decide)))
  rw [if_neg (by simpa using hk)]
  suffices key : ∀ d i, i + d = n → ∀ r : Int, 0 ≤ r → r ≤ k → (∀ p ∈ l.take i, okP p) → L69_5 (look t) (d + 1) Q a n c r (i : Int) m from ⟨n + 1, key n 0 (by omega) _ (by omega) (by omega) (by simp)⟩
  intro d
  induction d with
  | zero =>
    intro i hi r hr0 hr1 hok
    rw [l69_5]
    refine ⟨m, Mem.le_refl _, ?_⟩
    rw [if_neg (by simp; omega)]
    rw [List.take_of_length_le (by omega)] at hok
    exact ret_intro (Mem.le_refl _) (h _ (.inr ⟨hr0, hr1, by omega, hok⟩))
  | succ d ih =>
    intro i hi r hr0 hr1 hok
    rw [l69_5]
    refine ⟨m, Mem.le_refl _, ?_⟩
    rw [if_pos (by simp; omega)]
    have i1 : i < hs.length := by omega
    have i2 : i < l.length := by omega
    have a1 := hat i hs[i] l[i] (List.getElem?_eq_getElem i1) (List.getElem?_eq_getElem i2)
    refine idx' hrd (by omega) (by omega) (by omega) fun ad had hd => ?_
    simp only [Int.toNat_natCast] at hd ⊢
    generalize hs[i] = hh at hd a1
    obtain ⟨p, s, ⟨ua, un, uc⟩, ⟨ca, cn, cc⟩⟩ := hh
    refine ⟨_, hd 0 _ rfl, _, hd 1 _ rfl, _, _, _, hd 2 _ rfl, _, _, _, hd 3 _ rfl, ?_⟩
    refine via h17 ⟨(p, s, ⟨ua, un, uc⟩, ⟨ca, cn, cc⟩), l[i], r, rfl, a1, hb2 _ (List.getElem_mem i2), hr0, by omega, fun r' hr' => ⟨_, rfl, ?_⟩⟩
    by_cases hneg : r' < 0
    · rw [if_pos (by simpa using hneg)]
      exact ret_intro (Mem.le_refl _) (h _ (.inl (by decide)))
    rw [if_neg (by simpa using hneg), wsucc (n := n) (by omega) (by omega)]
    obtain hr' | ⟨h2, h3, h4⟩ := hr'
    · exact absurd hr' hneg
    refine ih (i + 1) (by omega) r' h2 (by omega) fun p hp => ?_
    rw [List.take_succ_eq_append_getElem i2, List.mem_append, List.mem_singleton] at hp
    rcases hp with hp | rfl
    · exact hok p hp
    · exact h4
def s70 : Spec := szB dTx vs (fun l => big l ∧ ∀ p ∈ l, ByteArray.size p ≤ 9223372036854775807) okR
theorem f70 (t : Tab) : ∀ args m Q, s70 args m Q → FA Try.prog (look t) kp70 Try.f70 args m Q := by
  rintro args m Q ⟨⟨a, n, c⟩, l, k, rfl, ⟨hn, hrd⟩, ⟨hb, hb2⟩, h0, h1, h⟩
  have hn : n = l.length := hn
  have hrd : Rd m a l := hrd
  have hb : l.length ≤ 9223372036854775807 := hb
  show FA Try.prog (look t) kp70 Try.f70 [.slice a n c, .int .i64 k] m Q
  rw [e70, w64 (by omega) (by omega)]
  by_cases hk : k - n < 0
  · rw [if_pos (by simpa using hk)]
    exact ret_intro (Mem.le_refl _) (h _ (.inl (by decide)))
  rw [if_neg (by simpa using hk)]
  suffices key : ∀ d i, i + d = n → ∀ r : Int, 0 ≤ r → r ≤ k → L70_5 (look t) (d + 1) Q a n c r (i : Int) m from ⟨n + 1, key n 0 (by omega) _ (by omega) (by omega)⟩
  intro d
  induction d with
  | zero =>
    intro i hi r hr0 hr1
    rw [l70_5]
    refine ⟨m, Mem.le_refl _, ?_⟩
    rw [if_neg (by simp; omega)]
    exact ret_intro (Mem.le_refl _) (h _ (.inr ⟨hr0, hr1, by show l.length ≤ 2 ^ 20; omega⟩))
  | succ d ih =>
    intro i hi r hr0 hr1
    rw [l70_5]
    refine ⟨m, Mem.le_refl _, ?_⟩
    rw [if_pos (by simp; omega)]
    have i2 : i < l.length := by omega
    refine idx' hrd (by omega) (by omega) (by omega) fun ad had hd => ?_
    simp only [Int.toNat_natCast] at hd ⊢
    have hbs := hb2 l[i] (List.getElem_mem i2)
    refine ⟨_, hd 0 _ rfl, ?_⟩
    rw [w64 (by omega) (by omega)]
    by_cases hneg : r - (l[i].size : Int) < 0
    · rw [if_pos (by simpa using hneg)]
      exact ret_intro (Mem.le_refl _) (h _ (.inl (by decide)))
    rw [if_neg (by simpa using hneg), wsucc (n := n) (by omega) (by omega)]
    exact ih (i + 1) (by omega) _ (by omega) (by omega)
def s33 : Spec := szB dMo vM (fun x => (big x.1 ∧ ∀ p ∈ x.1, bigP p) ∧ big x.2 ∧ ∀ p ∈ x.2, ByteArray.size p ≤ 9223372036854775807) okM
theorem f33 (t : Tab) (h69 : look t 69 = s69) (h70 : look t 70 = s70) : ∀ args m Q, s33 args m Q → FA Try.prog (look t) kp33 Try.f33 args m Q := by
  rintro args m Q ⟨⟨⟨pa, pn, pc⟩, ⟨ta, tn, tc⟩⟩, ⟨ps, ts⟩, k, rfl, ⟨hps, hts⟩, ⟨hb1, hb2⟩, h0, h1, h⟩
  show FA Try.prog (look t) kp33 Try.f33 [.agg #[.slice pa pn pc, .slice ta tn tc], .int .i64 k] m Q
  rw [e33]
  refine newA_intro fun g1 m2 hg1 e2 hb1' hle2 => ?_
  refine ⟨_, _, _, cell_of hb1' 0, via h69 ⟨⟨pa, pn, pc⟩, ps, k, rfl, dPrs.at_le hle2 hps, hb1, h0, h1, fun r hr => ⟨_, rfl, ?_⟩⟩⟩
  by_cases hneg : r < 0
  · rw [if_pos (by simpa using hneg)]
    exact ret_intro hle2 (h _ (.inl (by decide)))
  rw [if_neg (by simpa using hneg)]
  obtain hr | ⟨r0, r1, ok1⟩ := hr
  · exact absurd hr hneg
  refine ⟨_, _, _, cell_of hb1' 1, via h70 ⟨⟨ta, tn, tc⟩, ts, r, rfl, dTx.at_le hle2 hts, hb2, r0, by omega, fun r' hr' => ⟨_, rfl, ?_⟩⟩⟩
  by_cases hneg' : r' < 0
  · rw [if_pos (by simpa using hneg')]
    exact ret_intro hle2 (h _ (.inl (by decide)))
  rw [if_neg (by simpa using hneg')]
  obtain hr' | ⟨r0', r1', ok2⟩ := hr'
  · exact absurd hr' hneg'
  exact ret_intro hle2 (h _ (.inr ⟨r0', by omega, ok1, ok2⟩))
end Go.Proofs.Ytcbjdodehjpddaa.Abs
