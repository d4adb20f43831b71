/- Modules: the reference's function that says whether a module is right. -/
import Derived.Test.YtcbjdodehjpddaaNf
namespace Go.Proofs.Ytcbjdodehjpddaa.Abs
open Go.RowKit
set_option linter.unusedVariables false
set_option linter.unusedSectionVars false
set_option linter.unusedSimpArgs false
set_option maxRecDepth 20000

section
variable (t : Tab) (h85 : look t 85 = s85) (h92 : look t 92 = s92) {m0 : Mem} {Q : Value → Mem → Prop} {g1 : Nat} {hm : Sl × Sl} {ps : List Pr} {ts : List ByteArray}
  (b1 : m0 g1 = some (.cells #[vs hm.1, vs hm.2] 55 (0, 0))) (hM : dMo.At m0 hm (ps, ts)) (hok : okM (ps, ts))
include h85 h92 b1 hM hok

theorem loop71_15 (hqt : ps.all (codeB (ps, ts)) = true → ∀ M, Mem.le m0 M → ret Q (.bool true) M) (hqf' : ps.all (codeB (ps, ts)) = false → ∀ M, Mem.le m0 M → ret Q (.bool false) M) :
    ∀ d i, i + d = ps.length → ∀ M : Mem, Mem.le m0 M → (ps.take i).all (codeB (ps, ts)) = true → L71_15 (look t) (d + 1) Q g1 (i : Int) M := by
  obtain ⟨⟨pa, pn, pc⟩, ⟨ta, tn, tc⟩⟩ := hm
  obtain ⟨hps, hts⟩ := id hM
  obtain ⟨hpn, (hs : List PH), hl, hrd, hat⟩ := hps
  have hpn : pn = ps.length := hpn
  have hl : hs.length = ps.length := hl
  have hrd : Rd m0 pa hs := hrd
  have hlen : ps.length ≤ 2 ^ 20 := hok.1.1
  intro d
  induction d with
  | zero =>
    intro i hi M hle hpre
    rw [l71_15]
    refine ⟨M, Mem.le_refl _, _, _, _, cell_of (hle _ _ b1) 0, ?_⟩
    rw [if_neg (by simp; omega)]
    rw [List.take_of_length_le (by omega)] at hpre
    exact hqt hpre M hle
  | succ d ih =>
    intro i hi M hle hpre
    rw [l71_15]
    refine ⟨M, Mem.le_refl _, _, _, _, cell_of (hle _ _ b1) 0, ?_⟩
    rw [if_pos (by simp; omega)]
    have i1 : i < hs.length := by omega
    have i2 : i < ps.length := by omega
    have hii := hat i hs[i] ps[i] (List.getElem?_eq_getElem i1) (List.getElem?_eq_getElem i2)
    have okp := hok.1.2 _ (List.getElem_mem i2)
    have hst := all_take_succ ps (codeB (ps, ts)) i i2
    have hfl : codeB (ps, ts) ps[i] = false → ps.all (codeB (ps, ts)) = false := all_false_of i2
    refine ⟨pa, pn, pc, cell_of (hle _ _ b1) 0, idx' (hrd.le hle) (hl.trans hpn.symm) (by omega) (by omega) fun ad had hd => ?_⟩
    simp only [Int.toNat_natCast] at hd ⊢
    generalize hs[i] = hh at *
    generalize ps[i] = x at *
    obtain ⟨p, s, ⟨ua, un, uc⟩, ⟨ca, cn, cc⟩⟩ := hh
    refine ⟨_, hd 0 _ rfl, _, hd 1 _ rfl, _, _, _, hd 2 _ rfl, _, _, _, hd 3 _ rfl, newA_intro fun g126 m127 hg e127 hb hle127 => ?_⟩
    refine sto (c := #[.int .i64 0, .int .i64 0, .slice none 0 0, .slice none 0 0]) (t := 38) hb rfl (by simp) fun m128 e128 h128 hne => ?_
    have h128 : m128 g126 = some (.cells #[.int .i64 p, .int .i64 s, .slice ua un uc, .slice ca cn cc] 38 (0, 0)) := h128
    have le128 : Mem.le M m128 := by rw [e128, e127, upd_upd]; exact le_upd hg
    have hcn : cn = x.2.2.2.length := hii.2.2.2.1
    have hcr : Rd m0 ca x.2.2.2 := hii.2.2.2.2
    have hcl : x.2.2.2.length ≤ 2 ^ 20 := okp.2
    have l128 := Mem.le_trans hle le128
    have hwi := wsucc (i := i) (n := ps.length) i2 (by omega)
    suffices key : ∀ e j, j + e = cn → (x.2.2.2.take j).all (insB (ps, ts) x) = true → L71_19 (look t) (d + 1) (e + 1) Q g1 (i : Int) g126 (j : Int) m128 from ⟨cn + 1, key cn 0 (by omega) rfl⟩
    intro e
    induction e with
    | zero =>
      intro j hj hpj
      rw [l71_19]
      refine ⟨m128, Mem.le_refl _, _, _, _, cell_of h128 3, ?_⟩
      rw [if_neg (by simp; omega), hwi]
      rw [List.take_of_length_le (by omega)] at hpj
      exact ih (i + 1) (by omega) m128 l128 (by rw [hst, hpre]; exact hpj)
    | succ e ihe =>
      intro j hj hpj
      rw [l71_19]
      refine ⟨m128, Mem.le_refl _, _, _, _, cell_of h128 3, ?_⟩
      rw [if_pos (by simp; omega)]
      have j2 : j < x.2.2.2.length := by omega
      have b1' := l128 _ _ b1
      refine ⟨Mem.le m128, Mem.le_refl _, _, _, _, held (cell_of b1' 0), _, _, _, held (cell_of b1' 1), _, held (cell_of h128 0), _, held (cell_of h128 1), _, _, _, held (cell_of h128 2), _, _, _, held (cell_of h128 3), _, _, _, held (cell_of h128 3), ?_⟩
      refine idx' (hcr.le l128) hcn.symm (by omega) (by omega) fun ad' had' hd' => ?_
      simp only [Int.toNat_natCast] at hd' ⊢
      refine ⟨_, held (hd' 0 _ rfl), _, held (hd' 1 _ rfl), via h92 ⟨(⟨pa, pn, pc⟩, ⟨ta, tn, tc⟩), (p, s, ⟨ua, un, uc⟩, ⟨ca, cn, cc⟩), (ps, ts), x, x.2.2.2[j], rfl, dMo.at_le l128 hM, dPr.at_le l128 hii, hok, okp, _, rfl, Mem.le_refl _, ?_⟩⟩
      have hsj := all_take_succ x.2.2.2 (insB (ps, ts) x) j j2
      cases hb92 : insB (ps, ts) x x.2.2.2[j] with
      | false =>
        rw [if_pos (show (!false) = true from rfl)]
        exact hqf' (hfl (all_false_of j2 hb92)) m128 l128
      | true =>
        rw [if_neg (by simp), wsucc (n := cn) (by omega) (by omega)]
        exact ihe (j + 1) (by omega) (by rw [hsj, hpj, hb92]; rfl)

theorem loop71_9 (hqt : ps.all hdB = true → ps.all (codeB (ps, ts)) = true → ∀ M, Mem.le m0 M → ret Q (.bool true) M) (hqf' : (ps.all hdB && ps.all (codeB (ps, ts))) = false → ∀ M, Mem.le m0 M → ret Q (.bool false) M) :
    ∀ d i, i + d = ps.length → ∀ M : Mem, Mem.le m0 M → (ps.take i).all hdB = true → L71_9 (look t) (d + 1) Q g1 (i : Int) M := by
  obtain ⟨⟨pa, pn, pc⟩, ⟨ta, tn, tc⟩⟩ := hm
  obtain ⟨hps, hts⟩ := id hM
  obtain ⟨hpn, (hs : List PH), hl, hrd, hat⟩ := hps
  have hpn : pn = ps.length := hpn
  have hl : hs.length = ps.length := hl
  have hrd : Rd m0 pa hs := hrd
  have hlen : ps.length ≤ 2 ^ 20 := hok.1.1
  intro d
  induction d with
  | zero =>
    intro i hi M hle hpre
    rw [l71_9]
    refine ⟨M, Mem.le_refl _, pa, pn, pc, cell_of (hle _ _ b1) 0, ?_⟩
    rw [if_neg (by simp; omega)]
    rw [List.take_of_length_le (by omega)] at hpre
    refine ⟨ps.length + 1, loop71_15 t h85 h92 b1 hM hok (fun h2 => hqt hpre h2) (fun h2 => hqf' (by rw [h2, Bool.and_false])) ps.length 0 (by omega) M hle rfl⟩
  | succ d ih =>
    intro i hi M hle hpre
    rw [l71_9]
    refine ⟨M, Mem.le_refl _, pa, pn, pc, cell_of (hle _ _ b1) 0, ?_⟩
    rw [if_pos (by simp; omega)]
    have i1 : i < hs.length := by omega
    have i2 : i < ps.length := by omega
    have hii := hat i hs[i] ps[i] (List.getElem?_eq_getElem i1) (List.getElem?_eq_getElem i2)
    have okp := hok.1.2 _ (List.getElem_mem i2)
    have hst := all_take_succ ps hdB i i2
    have hfl : hdB ps[i] = false → ∀ M, Mem.le m0 M → ret Q (.bool false) M := fun h2 => hqf' (by rw [all_false_of i2 h2, Bool.false_and])
    refine ⟨pa, pn, pc, cell_of (hle _ _ b1) 0, idx' (hrd.le hle) (hl.trans hpn.symm) (by omega) (by omega) fun ad had hd => ?_⟩
    simp only [Int.toNat_natCast] at hd ⊢
    generalize hs[i] = hh at *
    generalize ps[i] = x at *
    obtain ⟨p, s, ⟨ua, un, uc⟩, ⟨ca, cn, cc⟩⟩ := hh
    obtain ⟨p0, s0, lu, lc⟩ := x
    obtain ⟨hp, hs', hu, hc⟩ := hii
    have hp : p = p0 := hp
    have hs' : s = s0 := hs'
    subst hp hs'
    have hun : un = lu.length := hu.1
    have hcn : cn = lc.length := hc.1
    have hcr : Rd m0 ca lc := hc.2
    have hcl : lc.length ≤ 2 ^ 20 := okp.2
    refine ⟨_, hd 0 _ rfl, _, hd 1 _ rfl, _, _, _, hd 2 _ rfl, _, _, _, hd 3 _ rfl, newA_intro fun g66 m67 hg e67 hb hle67 => ?_⟩
    refine sto (c := #[.int .i64 0, .int .i64 0, .slice none 0 0, .slice none 0 0]) (t := 38) hb rfl (by simp) fun m68 e68 h68 hne => ?_
    have h68 : m68 g66 = some (.cells #[.int .i64 p, .int .i64 s, .slice ua un uc, .slice ca cn cc] 38 (0, 0)) := h68
    have le68 : Mem.le M m68 := by rw [e68, e67, upd_upd]; exact le_upd hg
    have l68 := Mem.le_trans hle le68
    have hH : hdB (p, s, lu, lc) = (decide (0 ≤ s ∧ s ≤ 20) && (decide (0 ≤ p ∧ p ≤ s) && (decide (lu.length ≤ 12) && (decide (1 ≤ (lc.length : Int) ∧ (lc.length : Int) ≤ 4000) && decide ((lc.getD (lc.length - 1) (0, 0)).1 = 24))))) := rfl
    have bad : hdB (p, s, lu, lc) = false → ret Q (.bool false) m68 := fun h2 => hfl h2 m68 l68
    refine ⟨_, cell_of h68 1, via h85 ⟨_, _, _, rfl, _, rfl, ?_⟩⟩
    by_cases c1 : 0 ≤ s ∧ s ≤ 20
    case neg => rw [if_pos (by rw [decide_eq_false c1]; rfl)]; exact bad (by rw [hH, decide_eq_false c1]; rfl)
    rw [if_neg (by rw [decide_eq_true c1]; decide)]
    refine ⟨_, cell_of h68 0, _, cell_of h68 1, via h85 ⟨_, _, _, rfl, _, rfl, ?_⟩⟩
    by_cases c2 : 0 ≤ p ∧ p ≤ s
    case neg => rw [if_pos (by rw [decide_eq_false c2]; rfl)]; exact bad (by rw [hH, decide_eq_false c2]; simp)
    rw [if_neg (by rw [decide_eq_true c2]; decide)]
    refine ⟨_, _, _, cell_of h68 2, ?_⟩
    by_cases c3 : lu.length ≤ 12
    case neg => rw [if_pos (by simp; omega)]; exact bad (by rw [hH, decide_eq_false c3]; simp)
    rw [if_neg (by simp; omega)]
    refine ⟨_, _, _, cell_of h68 3, via h85 ⟨_, _, _, rfl, _, rfl, ?_⟩⟩
    by_cases c4 : 1 ≤ (cn : Int) ∧ (cn : Int) ≤ 4000
    case neg => rw [if_pos (by rw [decide_eq_false c4]; rfl)]; exact bad (by rw [hH, ← hcn, decide_eq_false c4]; simp)
    rw [if_neg (by rw [decide_eq_true c4]; decide)]
    have hw : IntKind.i64.wrap ((cn : Int) - 1) = ((cn - 1 : Nat) : Int) := (w64 (by omega) (by omega)).trans (by omega)
    refine ⟨_, _, _, cell_of h68 3, _, _, _, cell_of h68 3, ?_⟩
    rw [hw]
    have jl : cn - 1 < lc.length := by omega
    refine idx (hcr.le l68) hcn.symm (by omega) (by omega) fun ad' had' hd' => ?_
    simp only [Int.toNat_natCast] at hd' ⊢
    refine ⟨_, hd' 0 _ rfl, ?_⟩
    have eg : (lc.getD (lc.length - 1) (0, 0)) = lc[cn - 1] := by rw [← hcn]; simp [List.getD_eq_getElem?_getD, jl]
    by_cases c5 : lc[cn - 1].1 = 24
    case neg => rw [if_pos (by simpa using c5)]; exact bad (by rw [hH, eg, decide_eq_false c5]; simp)
    rw [if_neg (by simpa using c5), wsucc (n := ps.length) i2 (by omega)]
    refine ih (i + 1) (by omega) m68 l68 ?_
    rw [hst, hpre, hH, eg, decide_eq_true c1, decide_eq_true c2, decide_eq_true c3, decide_eq_true c5, ← hcn, decide_eq_true c4]
    rfl
end
end Go.Proofs.Ytcbjdodehjpddaa.Abs
