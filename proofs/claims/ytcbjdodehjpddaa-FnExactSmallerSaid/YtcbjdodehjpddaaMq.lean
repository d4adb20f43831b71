/- Modules: the contracts of the functions that compare them. -/
import Derived.Test.YtcbjdodehjpddaaMp
import Derived.Laws.Strings
namespace Go.Proofs.Ytcbjdodehjpddaa.Abs
open Go.RowKit
set_option linter.unusedVariables false
set_option linter.unusedSimpArgs false
set_option maxRecDepth 20000

theorem toList_beq (a b : ByteArray) : (a.toList == b.toList) = decide (a = b) := by
  have key : a.toList = b.toList ↔ a = b := by
    constructor
    · intro h
      rw [ByteArray.toList_eq, ByteArray.toList_eq] at h
      exact ByteArray.ext (Array.toList_inj.1 h)
    · rintro rfl; rfl
  by_cases h : a = b
  · subst h; simp
  · have : ¬ a.toList = b.toList := fun e => h (key.1 e)
    simp [h, this]

def s80 : Spec := eqS dTx vs okR
theorem f80 (t : Tab) : ∀ args m Q, s80 args m Q → FA Try.prog (look t) kp80 Try.f80 args m Q := by
  rintro args m Q ⟨⟨a, n, c⟩, l, ⟨a', n', c'⟩, l', rfl, ⟨hn, hrd⟩, ⟨hn', hrd'⟩, hok, h⟩
  have hn : n = l.length := hn
  have hn' : n' = l'.length := hn'
  have hrd : Rd m a l := hrd
  have hrd' : Rd m a' l' := hrd'
  have hok : l.length ≤ 2 ^ 20 := hok
  show FA Try.prog (look t) kp80 Try.f80 [.slice a n c, .slice a' n' c'] m Q
  rw [e80]
  by_cases hne : n = n'
  case neg =>
    rw [if_pos (by simp; omega)]
    have : l ≠ l' := by rintro rfl; omega
    exact ret_intro (Mem.le_refl _) (by simpa [this] using h)
  rw [if_neg (by simp; omega)]
  suffices key : ∀ d i, i + d = n → l.take i = l'.take i → L80_4 (look t) (d + 1) Q a n c a' n' c' (i : Int) m from ⟨n + 1, key n 0 (by omega) (by simp)⟩
  intro d
  induction d with
  | zero =>
    intro i hi ht
    rw [l80_4]
    refine ⟨m, Mem.le_refl _, ?_⟩
    rw [if_neg (by simp; omega)]
    rw [List.take_of_length_le (by omega), List.take_of_length_le (by omega)] at ht
    exact ret_intro (Mem.le_refl _) (by simpa [ht] using h)
  | succ d ih =>
    intro i hi ht
    rw [l80_4]
    refine ⟨m, Mem.le_refl _, ?_⟩
    rw [if_pos (by simp; omega)]
    refine ⟨Mem.le m, Mem.le_refl _, idx hrd (by omega) (by omega) (by omega) fun ad had hc => ?_⟩
    refine ⟨_, held (hc 0 _ rfl), idx hrd' (by omega) (by omega) (by omega) fun ad' had' hc' => ?_⟩
    refine ⟨_, held (hc' 0 _ rfl), ?_⟩
    have hx := take_eq_iff (l1 := l) (l2 := l') (i := i) (by omega) (by omega) ht
    simp only [Int.toNat_natCast, toList_beq]
    by_cases hq : l[i]'(by omega) = l'[i]'(by omega)
    · rw [if_neg (by simpa using hq), wsucc (n := n) (by omega) (by omega)]
      exact ih (i + 1) (by omega) (hx.2 hq)
    · rw [if_pos (by simpa using hq)]
      have : l ≠ l' := by rintro rfl; exact hq rfl
      exact ret_intro (Mem.le_refl _) (by simpa [this] using h)

def s21' : Spec := eqS dPr vP okP
theorem to21 {args : List Value} {m : Mem} {Q : Value → Mem → Prop} (h : s21' args m Q) : s21 args m Q := by
  obtain ⟨(⟨p, s, ⟨ua, un, uc⟩, ⟨ca, cn, cc⟩⟩ : PH), ⟨p0, s0, lu, lc⟩, (⟨p', s', ⟨ua', un', uc'⟩, ⟨ca', cn', cc'⟩⟩ : PH), ⟨p0', s0', lu', lc'⟩, rfl, ⟨hp, hs, ⟨hun, hur⟩, ⟨hcn, hcr⟩⟩, ⟨hp', hs', ⟨hun', hur'⟩, ⟨hcn', hcr'⟩⟩, ⟨hok1, hok2⟩, hq⟩ := h
  have hp : p = p0 := hp
  have hs : s = s0 := hs
  have hp' : p' = p0' := hp'
  have hs' : s' = s0' := hs'
  subst hp hs hp' hs'
  have hun : un = lu.length := hun
  have hcn : cn = lc.length := hcn
  have hun' : un' = lu'.length := hun'
  have hcn' : cn' = lc'.length := hcn'
  have hok1 : lu.length ≤ 2 ^ 20 := hok1
  have hok2 : lc.length ≤ 2 ^ 20 := hok2
  refine ⟨p, s, ua, un, uc, ca, cn, cc, lu, lc, p', s', ua', un', uc', ca', cn', cc', lu', lc', rfl, hun.symm, hcn.symm, hun'.symm, hcn'.symm, by omega, by omega, hur, hcr, hur', hcr', ?_⟩
  have e : decide ((p, s, lu, lc) = ((p', s', lu', lc') : Pr)) = decide (p = p' ∧ s = s' ∧ lu = lu' ∧ lc = lc') := by simp
  rw [← e]
  exact hq

def s79 : Spec := eqS dPrs vs okPs
theorem f79 (t : Tab) (h21 : look t 21 = s21') : ∀ args m Q, s79 args m Q → FA Try.prog (look t) kp79 Try.f79 args m Q := by
  rintro args m Q ⟨⟨a, n, c⟩, l, ⟨a', n', c'⟩, l', rfl, ⟨hn, hs, hl, hrd, hat⟩, ⟨hn', hs', hl', hrd', hat'⟩, ⟨hok, hok2⟩, h⟩
  have hn : n = l.length := hn
  have hn' : n' = l'.length := hn'
  show FA Try.prog (look t) kp79 Try.f79 [.slice a n c, .slice a' n' c'] m Q
  rw [e79]
  by_cases hne : n = n'
  case neg =>
    rw [if_pos (by simp; omega)]
    have : l ≠ l' := by rintro rfl; omega
    exact ret_intro (Mem.le_refl _) (by simpa [this] using h)
  rw [if_neg (by simp; omega)]
  suffices key : ∀ d i, i + d = n → l.take i = l'.take i → L79_4 (look t) (d + 1) Q a n c a' n' c' (i : Int) m from ⟨n + 1, key n 0 (by omega) (by simp)⟩
  intro d
  induction d with
  | zero =>
    intro i hi ht
    rw [l79_4]
    refine ⟨m, Mem.le_refl _, ?_⟩
    rw [if_neg (by simp; omega)]
    rw [List.take_of_length_le (by omega), List.take_of_length_le (by omega)] at ht
    exact ret_intro (Mem.le_refl _) (by simpa [ht] using h)
  | succ d ih =>
    intro i hi ht
    rw [l79_4]
    refine ⟨m, Mem.le_refl _, ?_⟩
    rw [if_pos (by simp; omega)]
    have i1 : i < hs.length := by omega
    have i2 : i < l.length := by omega
    have i3 : i < hs'.length := by omega
    have i4 : i < l'.length := by omega
    have a1 := hat i hs[i] l[i] (List.getElem?_eq_getElem i1) (List.getElem?_eq_getElem i2)
    have a2 := hat' i hs'[i] l'[i] (List.getElem?_eq_getElem i3) (List.getElem?_eq_getElem i4)
    refine ⟨Mem.le m, Mem.le_refl _, idx' hrd (by omega) (by omega) (by omega) fun ad had hd => ?_⟩
    simp only [Int.toNat_natCast] at hd ⊢
    generalize hs[i] = hh at hd a1
    obtain ⟨p, s, ⟨ua, un, uc⟩, ⟨ca, cn, cc⟩⟩ := hh
    refine ⟨_, held (hd 0 _ rfl), _, held (hd 1 _ rfl), _, _, _, held (hd 2 _ rfl), _, _, _, held (hd 3 _ rfl), ?_⟩
    refine idx' hrd' (by omega) (by omega) (by omega) fun ad' had' hd' => ?_
    simp only [Int.toNat_natCast] at hd' ⊢
    generalize hs'[i] = hh' at hd' a2
    obtain ⟨p', s', ⟨ua', un', uc'⟩, ⟨ca', cn', cc'⟩⟩ := hh'
    refine ⟨_, held (hd' 0 _ rfl), _, held (hd' 1 _ rfl), _, _, _, held (hd' 2 _ rfl), _, _, _, held (hd' 3 _ rfl), ?_⟩
    refine via h21 ⟨(p, s, ⟨ua, un, uc⟩, ⟨ca, cn, cc⟩), l[i], (p', s', ⟨ua', un', uc'⟩, ⟨ca', cn', cc'⟩), l'[i], rfl, a1, a2, hok2 _ (List.getElem_mem i2), _, rfl, Mem.le_refl _, ?_⟩
    have hx := take_eq_iff (l1 := l) (l2 := l') (i := i) (by omega) (by omega) ht
    by_cases hq : l[i] = l'[i]
    · rw [if_neg (by simpa using hq), wsucc (n := n) (by omega) (by omega)]
      exact ih (i + 1) (by omega) (hx.2 hq)
    · rw [if_pos (by simpa using hq)]
      have : l ≠ l' := by rintro rfl; exact hq rfl
      exact ret_intro (Mem.le_refl _) (by simpa [this] using h)

def s37 : Spec := eqS dMo vM okM
theorem f37 (t : Tab) (h79 : look t 79 = s79) (h80 : look t 80 = s80) : ∀ args m Q, s37 args m Q → FA Try.prog (look t) kp37 Try.f37 args m Q := by
  rintro args m Q ⟨⟨⟨pa, pn, pc⟩, ⟨ta, tn, tc⟩⟩, ⟨ps, ts⟩, ⟨⟨pa', pn', pc'⟩, ⟨ta', tn', tc'⟩⟩, ⟨ps', ts'⟩, rfl, ⟨hps, hts⟩, ⟨hps', hts'⟩, ⟨hok1, hok2⟩, h⟩
  show FA Try.prog (look t) kp37 Try.f37 [.agg #[.slice pa pn pc, .slice ta tn tc], .agg #[.slice pa' pn' pc', .slice ta' tn' tc']] m Q
  rw [e37]
  refine newA_intro fun g1 m2 hg1 e2 hb1 hle2 => newA_intro fun g3 m4 hg3 e4 hb3 hle4 => ?_
  have l4 := Mem.le_trans hle2 hle4
  have b1 := hle4 _ _ hb1
  refine ⟨_, _, _, cell_of b1 0, _, _, _, cell_of hb3 0, via h79 ⟨⟨pa, pn, pc⟩, ps, ⟨pa', pn', pc'⟩, ps', rfl, dPrs.at_le l4 hps, dPrs.at_le l4 hps', hok1, _, rfl, ?_⟩⟩
  by_cases c1 : ps = ps'
  case neg => rw [if_pos (by simpa using c1)]; exact ret_intro l4 (by simpa [c1] using h)
  rw [if_neg (by simpa using c1)]
  refine ⟨_, _, _, cell_of b1 1, _, _, _, cell_of hb3 1, via h80 ⟨⟨ta, tn, tc⟩, ts, ⟨ta', tn', tc'⟩, ts', rfl, dTx.at_le l4 hts, dTx.at_le l4 hts', hok2, _, rfl, ?_⟩⟩
  by_cases c2 : ts = ts'
  case neg => rw [if_pos (by simpa using c2)]; exact ret_intro l4 (by simpa [c2] using h)
  rw [if_neg (by simpa using c2)]
  exact ret_intro l4 (by simpa [c1, c2] using h)
end Go.Proofs.Ytcbjdodehjpddaa.Abs
