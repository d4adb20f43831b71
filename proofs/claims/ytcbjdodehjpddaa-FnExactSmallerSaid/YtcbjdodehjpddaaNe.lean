/- Modules: the contracts of the reference's function that says whether an instruction is right. -/
import Derived.Test.YtcbjdodehjpddaaNd
namespace Go.Proofs.Ytcbjdodehjpddaa.Abs
open Go.RowKit
set_option linter.unusedVariables false
set_option linter.unusedSimpArgs false
set_option maxRecDepth 20000

def s92 : Spec := insS
theorem f92 (t : Tab) (h85 : look t 85 = s85) : ∀ args m Q, s92 args m Q → FA Try.prog (look t) kp92 Try.f92 args m Q := by
  rintro args m Q ⟨⟨⟨pa, pn, pc⟩, ⟨ta, tn, tc⟩⟩, ⟨p, s, ⟨ua, un, uc⟩, ⟨ca, cn, cc⟩⟩, ⟨ps, ts⟩, ⟨p0, s0, lu, lc⟩, ⟨op, a⟩, rfl, ⟨hps, hts⟩, ⟨hp, hs, hu, hc⟩, hok, hok', h⟩
  have hs : s = s0 := hs
  subst hs
  have hun : un = lu.length := hu.1
  have hcn : cn = lc.length := hc.1
  have htn : tn = ts.length := hts.1
  have hpn : pn = ps.length := hps.1
  show FA Try.prog (look t) kp92 Try.f92 [.agg #[.slice pa pn pc, .slice ta tn tc], .agg #[.int .i64 p, .int .i64 s, .slice ua un uc, .slice ca cn cc], .agg #[.int .i64 op, .int .i64 a]] m Q
  rw [e92]
  refine newA_intro fun g1 m2 hg1 e2 hb1 hle2 => newA_intro fun g3 m4 hg3 e4 hb3 hle4 => newA_intro fun g5 m6 hg5 e6 hb5 hle6 => ?_
  have b1 := hle6 _ _ (hle4 _ _ hb1)
  have b3 := hle6 _ _ hb3
  have l6 := Mem.le_trans hle2 (Mem.le_trans hle4 hle6)
  refine ⟨_, cell_of hb5 0, ?_⟩
  by_cases c2 : op = 2
  · subst c2
    rw [if_pos (by decide)]
    have h : Q (.bool (decide (0 ≤ a ∧ a ≤ 1))) m := h
    refine ⟨_, cell_of hb5 1, ?_⟩
    by_cases ha0 : a = 0
    · subst ha0
      rw [if_pos (by decide)]
      exact ret_intro l6 h
    · rw [if_neg (by simpa using ha0)]
      have e : (a == 1) = decide (0 ≤ a ∧ a ≤ 1) := decide_eq_decide.2 (by omega)
      refine ⟨_, cell_of hb5 1, ?_⟩
      rw [e]
      exact ret_intro l6 h
  by_cases c3 : op = 3
  · subst c3
    rw [if_neg (by decide)]
    rw [if_pos (by decide)]
    exact ret_intro l6 h
  by_cases c4 : op = 4
  · subst c4
    rw [if_neg (by decide), if_neg (by decide)]
    rw [if_pos (by decide)]
    have h : Q (.bool (decide (0 ≤ a ∧ a ≤ IntKind.i64.wrap ((ts.length : Int) - 1)))) m := h
    rw [← htn] at h
    exact ⟨_, cell_of hb5 1, _, _, _, cell_of b1 1, via h85 ⟨_, _, _, rfl, _, rfl, ret_intro l6 h⟩⟩
  by_cases c5 : op = 5
  · subst c5
    rw [if_neg (by decide), if_neg (by decide), if_neg (by decide)]
    rw [if_pos (by decide)]
    have h : Q (.bool (decide (0 ≤ a ∧ a ≤ IntKind.i64.wrap (s - 1)))) m := h
    exact ⟨_, cell_of hb5 1, _, cell_of b3 1, via h85 ⟨_, _, _, rfl, _, rfl, ret_intro l6 h⟩⟩
  by_cases c6 : op = 6
  · subst c6
    rw [if_neg (by decide), if_neg (by decide), if_neg (by decide), if_neg (by decide)]
    rw [if_pos (by decide)]
    have h : Q (.bool (decide (0 ≤ a ∧ a ≤ IntKind.i64.wrap (s - 1)))) m := h
    exact ⟨_, cell_of hb5 1, _, cell_of b3 1, via h85 ⟨_, _, _, rfl, _, rfl, ret_intro l6 h⟩⟩
  by_cases c8 : op = 8
  · subst c8
    rw [if_neg (by decide), if_neg (by decide), if_neg (by decide), if_neg (by decide), if_neg (by decide)]
    rw [if_pos (by decide)]
    have h : Q (.bool (decide (0 ≤ a ∧ a ≤ IntKind.i64.wrap (s - 1)))) m := h
    exact ⟨_, cell_of hb5 1, _, cell_of b3 1, via h85 ⟨_, _, _, rfl, _, rfl, ret_intro l6 h⟩⟩
  by_cases c9 : op = 9
  · subst c9
    rw [if_neg (by decide), if_neg (by decide), if_neg (by decide), if_neg (by decide), if_neg (by decide), if_neg (by decide)]
    rw [if_pos (by decide)]
    have h : Q (.bool (decide (0 ≤ a ∧ a ≤ IntKind.i64.wrap (s - 1)))) m := h
    exact ⟨_, cell_of hb5 1, _, cell_of b3 1, via h85 ⟨_, _, _, rfl, _, rfl, ret_intro l6 h⟩⟩
  by_cases c11 : op = 11
  · subst c11
    rw [if_neg (by decide), if_neg (by decide), if_neg (by decide), if_neg (by decide), if_neg (by decide), if_neg (by decide), if_neg (by decide)]
    rw [if_pos (by decide)]
    have h : Q (.bool (decide (0 ≤ a ∧ a ≤ IntKind.i64.wrap (s - 1)))) m := h
    exact ⟨_, cell_of hb5 1, _, cell_of b3 1, via h85 ⟨_, _, _, rfl, _, rfl, ret_intro l6 h⟩⟩
  by_cases c7 : op = 7
  · subst c7
    rw [if_neg (by decide), if_neg (by decide), if_neg (by decide), if_neg (by decide), if_neg (by decide), if_neg (by decide), if_neg (by decide), if_neg (by decide)]
    rw [if_pos (by decide)]
    have h : Q (.bool (decide (0 ≤ a ∧ a ≤ IntKind.i64.wrap ((lu.length : Int) - 1)))) m := h
    rw [← hun] at h
    exact ⟨_, cell_of hb5 1, _, _, _, cell_of b3 2, via h85 ⟨_, _, _, rfl, _, rfl, ret_intro l6 h⟩⟩
  by_cases c10 : op = 10
  · subst c10
    rw [if_neg (by decide), if_neg (by decide), if_neg (by decide), if_neg (by decide), if_neg (by decide), if_neg (by decide), if_neg (by decide), if_neg (by decide), if_neg (by decide)]
    rw [if_pos (by decide)]
    have h : Q (.bool (decide (0 ≤ a ∧ a ≤ IntKind.i64.wrap ((lu.length : Int) - 1)))) m := h
    rw [← hun] at h
    exact ⟨_, cell_of hb5 1, _, _, _, cell_of b3 2, via h85 ⟨_, _, _, rfl, _, rfl, ret_intro l6 h⟩⟩
  by_cases c12 : op = 12
  · subst c12
    rw [if_neg (by decide), if_neg (by decide), if_neg (by decide), if_neg (by decide), if_neg (by decide), if_neg (by decide), if_neg (by decide), if_neg (by decide), if_neg (by decide), if_neg (by decide)]
    rw [if_pos (by decide)]
    have h : Q (.bool (decide (0 ≤ a ∧ a ≤ IntKind.i64.wrap ((ps.length : Int) - 1)) && upsB (ps.getD a.toNat (0, 0, [], [])).2.2.1 s lu.length)) m := h
    rw [← hpn] at h
    obtain ⟨_, (hs : List PH), hl, hrd, hat⟩ := hps
    have hl : hs.length = ps.length := hl
    have hlen : ps.length ≤ 2 ^ 20 := hok.1.1
    have hw : IntKind.i64.wrap ((pn : Int) - 1) = (pn : Int) - 1 := w64 (by omega) (by omega)
    refine ⟨_, cell_of hb5 1, _, _, _, cell_of b1 0, via h85 ⟨_, _, _, rfl, _, rfl, ?_⟩⟩
    rw [hw] at h ⊢
    by_cases hr : 0 ≤ a ∧ a ≤ (pn : Int) - 1
    case neg =>
      rw [if_pos (by rw [decide_eq_false hr]; rfl)]
      rw [decide_eq_false hr, Bool.false_and] at h
      exact ret_intro l6 h
    rw [if_neg (by rw [decide_eq_true hr]; decide)]
    have ha : a.toNat < ps.length := by omega
    have ha1 : a.toNat < hs.length := Nat.lt_of_lt_of_eq ha hl.symm
    have hati := hat a.toNat hs[a.toNat] ps[a.toNat] (List.getElem?_eq_getElem ha1) (List.getElem?_eq_getElem ha)
    have eg : ps.getD a.toNat (0, 0, [], []) = ps[a.toNat] := by simp [List.getD_eq_getElem?_getD, ha]
    rw [eg, decide_eq_true hr, Bool.true_and] at h
    have okp := hok.1.2 _ (List.getElem_mem ha)
    refine ⟨_, _, _, cell_of b1 0, _, cell_of hb5 1, idx' (Rd.le (hrd : Rd m pa hs) l6) (hl.trans hpn.symm) hr.1 (by omega) fun ad had hd => ?_⟩
    obtain ⟨S, hS⟩ : ∃ S : Sl, S = hs[a.toNat].2.2.1 := ⟨_, rfl⟩
    refine ⟨S.a, S.n, S.c, hd 2 _ (by rw [hS]; rfl), ?_⟩
    have hU : dUp.At m S ps[a.toNat].2.2.1 := by rw [hS]; exact hati.2.2.1
    clear hati hd hS
    have hlu2 : ps[a.toNat].2.2.1.length ≤ 2 ^ 20 := okp.1
    generalize ps[a.toNat].2.2.1 = us at *
    obtain ⟨A, N, C⟩ := S
    have hN : N = us.length := hU.1
    have hA : Rd m A us := hU.2
    suffices key : ∀ d i, i + d = N → upsB (us.take i) s lu.length = true → L92_22 (look t) (d + 1) Q g3 A N C (i : Int) m6 from ⟨N + 1, key N 0 (by omega) rfl⟩
    intro d
    induction d with
    | zero =>
      intro i hi hpre
      rw [l92_22]
      refine ⟨m6, Mem.le_refl _, ?_⟩
      rw [if_neg (by simp; omega)]
      rw [List.take_of_length_le (by omega)] at hpre
      rw [hpre] at h
      exact ret_intro l6 h
    | succ d ih =>
      intro i hi hpre
      rw [l92_22]
      refine ⟨m6, Mem.le_refl _, ?_⟩
      rw [if_pos (by simp; omega)]
      have hil : i < us.length := by omega
      have htk : us.take (i + 1) = us.take i ++ [us[i]] := List.take_succ_eq_append_getElem hil
      have hmem := List.getElem_mem hil
      have rd : ∀ {K : Addr → Prop}, (∀ ad, (∀ (j : Nat) (v : Value), (Enc.e us[i])[j]? = some v → m6.cell? ((ad.add (i * 2)).add j) = some v) → K ad) → optA A fun ad => 0 ≤ (i : Int) ∧ (i : Int) < (N : Int) ∧ K ad := by
        intro K hK
        refine idx' (hA.le l6) hN.symm (by omega) (by omega) fun ad had hd => hK ad ?_
        simp only [Int.toNat_natCast] at hd
        exact hd
      simp only [Int.toNat_natCast]
      generalize us[i] = x at *
      obtain ⟨b, v⟩ := x
      have fin : ∀ most : Int, most = (if b then s else (lu.length : Int)) → ∀ r : Bool, r = decide (0 ≤ v ∧ v ≤ IntKind.i64.wrap (most - 1)) →
          (if (!r) = true then ret Q (.bool false) m6 else L92_22 (look t) (d + 1) Q g3 A N C (IntKind.i64.wrap ((i : Int) + 1)) m6) := by
        rintro most hm r rfl
        have er : rng v 0 (IntKind.i64.wrap ((if b then s else (lu.length : Int)) - 1)) = decide (0 ≤ v ∧ v ≤ IntKind.i64.wrap (most - 1)) := by rw [hm]; rfl
        by_cases hr : 0 ≤ v ∧ v ≤ IntKind.i64.wrap (most - 1)
        · rw [if_neg (by simp [hr]), wsucc (n := N) (by omega) (by omega)]
          refine ih (i + 1) (by omega) ?_
          unfold upsB at hpre ⊢
          rw [htk, List.all_append, hpre, Bool.true_and, List.all_cons, List.all_nil, Bool.and_true]
          exact er.trans (decide_eq_true hr)
        · rw [if_pos (by simp [hr])]
          have : upsB us s lu.length = false := by
            unfold upsB
            rw [List.all_eq_false]
            refine ⟨(b, v), hmem, ?_⟩
            have := er.trans (decide_eq_false hr)
            simpa using this
          rw [this] at h
          exact ret_intro l6 h
      refine ⟨_, _, _, cell_of b3 2, rd fun ad hd => ⟨_, hd 0 _ rfl, ?_⟩⟩
      cases b with
      | true =>
        rw [if_pos rfl]
        exact ⟨_, cell_of b3 1, rd fun ad hd => ⟨_, hd 1 _ rfl, via h85 ⟨_, _, _, rfl, _, rfl, fin _ rfl _ rfl⟩⟩⟩
      | false =>
        rw [if_neg (by simp)]
        exact rd fun ad hd => ⟨_, hd 1 _ rfl, via h85 ⟨_, _, _, rfl, _, rfl, fin _ (by simp [hun]) _ rfl⟩⟩
  by_cases c16 : op = 16
  · subst c16
    rw [if_neg (by decide), if_neg (by decide), if_neg (by decide), if_neg (by decide), if_neg (by decide), if_neg (by decide), if_neg (by decide), if_neg (by decide), if_neg (by decide), if_neg (by decide), if_neg (by decide)]
    rw [if_pos (by decide)]
    exact ⟨_, cell_of hb5 1, via h85 ⟨_, _, _, rfl, _, rfl, ret_intro l6 h⟩⟩
  by_cases c17 : op = 17
  · subst c17
    rw [if_neg (by decide), if_neg (by decide), if_neg (by decide), if_neg (by decide), if_neg (by decide), if_neg (by decide), if_neg (by decide), if_neg (by decide), if_neg (by decide), if_neg (by decide), if_neg (by decide), if_neg (by decide)]
    rw [if_pos (by decide)]
    exact ⟨_, cell_of hb5 1, via h85 ⟨_, _, _, rfl, _, rfl, ret_intro l6 h⟩⟩
  by_cases c18 : op = 18
  · subst c18
    rw [if_neg (by decide), if_neg (by decide), if_neg (by decide), if_neg (by decide), if_neg (by decide), if_neg (by decide), if_neg (by decide), if_neg (by decide), if_neg (by decide), if_neg (by decide), if_neg (by decide), if_neg (by decide), if_neg (by decide)]
    rw [if_pos (by decide)]
    have h : Q (.bool (decide (0 ≤ a ∧ a ≤ IntKind.i64.wrap ((lc.length : Int) - 1)))) m := h
    rw [← hcn] at h
    exact ⟨_, cell_of hb5 1, _, _, _, cell_of b3 3, via h85 ⟨_, _, _, rfl, _, rfl, ret_intro l6 h⟩⟩
  by_cases c19 : op = 19
  · subst c19
    rw [if_neg (by decide), if_neg (by decide), if_neg (by decide), if_neg (by decide), if_neg (by decide), if_neg (by decide), if_neg (by decide), if_neg (by decide), if_neg (by decide), if_neg (by decide), if_neg (by decide), if_neg (by decide), if_neg (by decide), if_neg (by decide)]
    rw [if_pos (by decide)]
    have h : Q (.bool (decide (0 ≤ a ∧ a ≤ IntKind.i64.wrap ((lc.length : Int) - 1)))) m := h
    rw [← hcn] at h
    exact ⟨_, cell_of hb5 1, _, _, _, cell_of b3 3, via h85 ⟨_, _, _, rfl, _, rfl, ret_intro l6 h⟩⟩
  by_cases c20 : op = 20
  · subst c20
    rw [if_neg (by decide), if_neg (by decide), if_neg (by decide), if_neg (by decide), if_neg (by decide), if_neg (by decide), if_neg (by decide), if_neg (by decide), if_neg (by decide), if_neg (by decide), if_neg (by decide), if_neg (by decide), if_neg (by decide), if_neg (by decide), if_neg (by decide)]
    rw [if_pos (by decide)]
    have h : Q (.bool (decide (0 ≤ a ∧ a ≤ IntKind.i64.wrap ((lc.length : Int) - 1)))) m := h
    rw [← hcn] at h
    exact ⟨_, cell_of hb5 1, _, _, _, cell_of b3 3, via h85 ⟨_, _, _, rfl, _, rfl, ret_intro l6 h⟩⟩
  by_cases c21 : op = 21
  · subst c21
    rw [if_neg (by decide), if_neg (by decide), if_neg (by decide), if_neg (by decide), if_neg (by decide), if_neg (by decide), if_neg (by decide), if_neg (by decide), if_neg (by decide), if_neg (by decide), if_neg (by decide), if_neg (by decide), if_neg (by decide), if_neg (by decide), if_neg (by decide), if_neg (by decide)]
    rw [if_pos (by decide)]
    have h : Q (.bool (decide (0 ≤ a ∧ a ≤ IntKind.i64.wrap ((lc.length : Int) - 1)))) m := h
    rw [← hcn] at h
    exact ⟨_, cell_of hb5 1, _, _, _, cell_of b3 3, via h85 ⟨_, _, _, rfl, _, rfl, ret_intro l6 h⟩⟩
  by_cases c23 : op = 23
  · subst c23
    rw [if_neg (by decide), if_neg (by decide), if_neg (by decide), if_neg (by decide), if_neg (by decide), if_neg (by decide), if_neg (by decide), if_neg (by decide), if_neg (by decide), if_neg (by decide), if_neg (by decide), if_neg (by decide), if_neg (by decide), if_neg (by decide), if_neg (by decide), if_neg (by decide), if_neg (by decide)]
    rw [if_pos (by decide)]
    exact ⟨_, cell_of hb5 1, via h85 ⟨_, _, _, rfl, _, rfl, ret_intro l6 h⟩⟩
  by_cases c27 : op = 27
  · subst c27
    rw [if_neg (by decide), if_neg (by decide), if_neg (by decide), if_neg (by decide), if_neg (by decide), if_neg (by decide), if_neg (by decide), if_neg (by decide), if_neg (by decide), if_neg (by decide), if_neg (by decide), if_neg (by decide), if_neg (by decide), if_neg (by decide), if_neg (by decide), if_neg (by decide), if_neg (by decide), if_neg (by decide)]
    rw [if_pos (by decide)]
    exact ⟨_, cell_of hb5 1, via h85 ⟨_, _, _, rfl, _, rfl, ret_intro l6 h⟩⟩
  rw [if_neg (by simpa using c2), if_neg (by simpa using c3), if_neg (by simpa using c4), if_neg (by simpa using c5), if_neg (by simpa using c6), if_neg (by simpa using c8), if_neg (by simpa using c9), if_neg (by simpa using c11), if_neg (by simpa using c7), if_neg (by simpa using c10), if_neg (by simpa using c12), if_neg (by simpa using c16), if_neg (by simpa using c17), if_neg (by simpa using c18), if_neg (by simpa using c19), if_neg (by simpa using c20), if_neg (by simpa using c21), if_neg (by simpa using c23), if_neg (by simpa using c27)]
  have e : insB (ps, ts) (p0, s, lu, lc) (op, a) = (decide (1 ≤ op ∧ op ≤ 27) && decide (a = 0)) := by
    unfold insB rng
    simp only [c2, c3, c4, c5, c6, c8, c9, c11, c7, c10, c12, c16, c17, c18, c19, c20, c21, c23, c27, if_false]
  rw [e] at h
  refine ⟨_, cell_of hb5 0, via h85 ⟨_, _, _, rfl, _, rfl, ?_⟩⟩
  by_cases hr : 1 ≤ op ∧ op ≤ 27
  · rw [if_pos (decide_eq_true hr)]
    rw [decide_eq_true hr, Bool.true_and] at h
    exact ⟨_, cell_of hb5 1, ret_intro l6 h⟩
  · rw [if_neg (by simpa using hr)]
    rw [decide_eq_false hr, Bool.false_and] at h
    exact ret_intro l6 h

end Go.Proofs.Ytcbjdodehjpddaa.Abs
