/- Modules: the contracts of the functions that look whether a module's marks are there. -/
import Derived.Test.YtcbjdodehjpddaaMu
namespace Go.Proofs.Ytcbjdodehjpddaa.Abs
open Go.RowKit
set_option linter.unusedVariables false
set_option linter.unusedSimpArgs false
set_option maxRecDepth 20000

theorem mkPs_get (k : Int) (l : List Pr) (i : Nat) (h : i < l.length) : (mkPs k l)[i]? = some (mkP (k + cntPs (l.take i)) l[i]) := by
  conv => lhs; rw [← List.take_append_drop i l, mkPs_app]
  rw [List.getElem?_append_right (by rw [mkPs_len]; simp; omega), mkPs_len, List.length_take, Nat.min_eq_left (by omega), Nat.sub_self, List.drop_eq_getElem_cons h]
  simp [mkPs]
def s83 : Spec := hdS dPrs vs mkPs cntPs okPs (2 ^ 48)
theorem f83 (t : Tab) (h58 : look t 58 = s58) (h59 : look t 59 = s59) : ∀ args m Q, s83 args m Q → FA Try.prog (look t) kp83 Try.f83 args m Q := by
  rintro args m Q ⟨⟨a, n, c⟩, l, k, rfl, ⟨hn, (hs : List PH), hl, hrd, hat⟩, ⟨hok, hok2⟩, hk0, hk1, h⟩
  have hn : n = (mkPs k l).length := hn
  rw [mkPs_len] at hn
  have hl : hs.length = l.length := hl.trans (mkPs_len k l)
  have hrd : Rd m a hs := hrd
  show FA Try.prog (look t) kp83 Try.f83 [.slice a n c, .int .i64 k] m Q
  rw [e83]
  have hcb : cntPs l ≤ 2 ^ 43 := cntPs_le2 ⟨hok, hok2⟩
  suffices key : ∀ d i, i + d = n → L83_2 (look t) (d + 1) Q a n c (k + cntPs (l.take i)) (i : Int) m from ⟨n + 1, by simpa [cntPs] using key n 0 (by omega)⟩
  intro d
  induction d with
  | zero =>
    intro i hi
    rw [l83_2]
    refine ⟨m, Mem.le_refl _, ?_⟩
    rw [if_neg (by simp; omega), List.take_of_length_le (by omega)]
    exact ret_intro (Mem.le_refl _) h
  | succ d ih =>
    intro i hi
    have hil : i < l.length := by omega
    have i1 : i < hs.length := by omega
    have hii := hat i hs[i] _ (List.getElem?_eq_getElem i1) (mkPs_get k l i hil)
    have okp := hok2 _ (List.getElem_mem hil)
    have htk : l.take (i + 1) = l.take i ++ [l[i]] := List.take_succ_eq_append_getElem hil
    have hcs : cntPs (l.take (i + 1)) = cntPs (l.take i) + cntP l[i] := by rw [htk, cntPs_app]; simp [cntPs]
    have hcle : cntPs (l.take (i + 1)) ≤ cntPs l := by
      conv => rhs; rw [← List.take_append_drop (i + 1) l]
      rw [cntPs_app]
      omega
    rw [l83_2]
    refine ⟨m, Mem.le_refl _, ?_⟩
    rw [if_pos (by simp; omega)]
    have rd : ∀ {K : Addr → Prop}, (∀ ad, (∀ (j : Nat) (v : Value), (Enc.e hs[i])[j]? = some v → m.cell? ((ad.add (i * 4)).add j) = some v) → K ad) → optA a fun ad => 0 ≤ (i : Int) ∧ (i : Int) < (n : Int) ∧ K ad := by
      intro K hK
      refine idx' hrd (by omega) (by omega) (by omega) fun ad had hd => hK ad ?_
      simp only [Int.toNat_natCast] at hd
      exact hd
    simp only [Int.toNat_natCast]
    generalize hK : k + (cntPs (l.take i) : Int) = K at *
    generalize hs[i] = hh at *
    generalize l[i] = x at *
    obtain ⟨p, s, ⟨ua, un, uc⟩, ⟨ca, cn, cc⟩⟩ := hh
    obtain ⟨p0, s0, lu, lc⟩ := x
    obtain ⟨hp, hs', hu, hc⟩ := hii
    have hp : p = K := hp
    have hs' : s = K + 1 := hs'
    subst hp hs'
    obtain ⟨hlu, hlc⟩ : lu.length ≤ 2 ^ 20 ∧ lc.length ≤ 2 ^ 20 := okp
    have hcp : cntP (p0, s0, lu, lc) = 2 + 2 * lu.length + 2 * lc.length := rfl
    have hKb : 0 < p ∧ p + 4 + 2 * 2 ^ 20 ≤ 2 ^ 50 := by
      have : cntPs (l.take i) ≤ cntPs l := by rw [hcs] at hcle; omega
      omega
    have e1 : IntKind.i64.wrap (p + 1) = p + 1 := w64 (by omega) (by omega)
    have e2 : IntKind.i64.wrap (p + 1 + 1) = p + 2 := (w64 (by omega) (by omega)).trans (by omega)
    refine rd fun ad hd => ⟨_, hd 0 _ rfl, ?_⟩
    rw [if_neg (by simp)]
    refine rd fun ad hd => ⟨_, hd 1 _ rfl, ?_⟩
    rw [e1, if_neg (by simp)]
    refine rd fun ad hd => ⟨_, _, _, hd 2 _ rfl, ?_⟩
    rw [e2]
    refine via h58 ⟨(⟨ua, un, uc⟩ : Sl), lu, p + 2, rfl, hu, hlu, by omega, by omega, _, rfl, ?_⟩
    rw [if_neg (by simp; omega)]
    refine rd fun ad hd => ⟨_, _, _, hd 3 _ rfl, ?_⟩
    have e3 : p + 2 + ((2 * lu.length : Nat) : Int) = p + 2 + 2 * (lu.length : Int) := by push_cast; omega
    show look t 59 [.slice ca cn cc, .int .i64 (p + 2 + ((2 * lu.length : Nat) : Int))] m _
    rw [e3]
    refine via h59 ⟨(⟨ca, cn, cc⟩ : Sl), lc, p + 2 + 2 * (lu.length : Int), rfl, hc, hlc, by omega, by omega, _, rfl, ?_⟩
    rw [if_neg (by simp; omega), wsucc (n := n) (by omega) (by omega)]
    have hval : p + 2 + 2 * (lu.length : Int) + ((2 * lc.length : Nat) : Int) = k + cntPs (l.take (i + 1)) := by
      rw [hcs, hcp]
      push_cast
      omega
    show L83_2 (look t) (d + 1) Q a n c (p + 2 + 2 * (lu.length : Int) + ((2 * lc.length : Nat) : Int)) ((i + 1 : Nat) : Int) m
    rw [hval]
    exact ih (i + 1) (by omega)
def s39 : Spec := hdS dMo vM mkM cntM okM (2 ^ 40)
theorem f39 (t : Tab) (h83 : look t 83 = s83) (h84 : look t 84 = s84) : ∀ args m Q, s39 args m Q → FA Try.prog (look t) kp39 Try.f39 args m Q := by
  rintro args m Q ⟨⟨⟨pa, pn, pc⟩, ⟨ta, tn, tc⟩⟩, ⟨ps, ts⟩, k, rfl, ⟨hps, hts⟩, ⟨hok1, hok2⟩, hk0, hk1, h⟩
  show FA Try.prog (look t) kp39 Try.f39 [.agg #[.slice pa pn pc, .slice ta tn tc], .int .i64 k] m Q
  rw [e39]
  refine newA_intro fun g1 m2 hg1 e2 hb1 hle2 => ?_
  have hc : cntPs ps ≤ 2 ^ 43 := cntPs_le2 hok1
  refine ⟨_, _, _, cell_of hb1 0, via h83 ⟨(⟨pa, pn, pc⟩ : Sl), ps, k, rfl, dPrs.at_le hle2 hps, hok1, hk0, by omega, _, rfl, ?_⟩⟩
  rw [if_neg (by simp; omega)]
  refine ⟨_, _, _, cell_of hb1 1, via h84 ⟨(⟨ta, tn, tc⟩ : Sl), ts, k + cntPs ps, rfl, dTx.at_le hle2 hts, hok2, by omega, by omega, _, rfl, ?_⟩⟩
  rw [if_neg (by simp; omega)]
  have ev : k + (cntPs ps : Int) + ((ts.length : Nat) : Int) = k + ((cntM (ps, ts) : Nat) : Int) := by unfold cntM; push_cast; omega
  show ret Q (.int .i64 (k + (cntPs ps : Int) + ((ts.length : Nat) : Int))) m2
  rw [ev]
  exact ret_intro hle2 h
end Go.Proofs.Ytcbjdodehjpddaa.Abs
