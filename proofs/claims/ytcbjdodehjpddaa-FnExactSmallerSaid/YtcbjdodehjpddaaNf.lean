/- Modules: when a module is right; the reference's function that says so. -/
import Derived.Test.YtcbjdodehjpddaaNe
namespace Go.Proofs.Ytcbjdodehjpddaa.Abs
open Go.RowKit
set_option linter.unusedVariables false
set_option linter.unusedSimpArgs false
set_option maxRecDepth 20000

def hdB (p : Pr) : Bool := rng p.2.1 0 20 && (rng p.1 0 p.2.1 && (decide (p.2.2.1.length ≤ 12) && (rng p.2.2.2.length 1 4000 && decide ((p.2.2.2.getD (p.2.2.2.length - 1) (0, 0)).1 = 24))))
def codeB (M : Mo) (p : Pr) : Bool := p.2.2.2.all (insB M p)
def okB (M : Mo) : Bool := rng M.1.length 1 100 && (decide (M.2.length ≤ 255) && (decide ((M.1.getD 0 (0, 0, [], [])).1 = 0) && (decide ((M.1.getD 0 (0, 0, [], [])).2.2.1.length = 0) && (M.2.all (fun t => decide (t.size ≤ 160)) && (M.1.all hdB && M.1.all (codeB M))))))
def s71 : Spec := fun args m Q => ∃ (h : Sl × Sl) (M : Mo), args = [vM h] ∧ dMo.At m h M ∧ okM M ∧ (∀ p ∈ M.2, ByteArray.size p ≤ 9223372036854775807) ∧ Q (.bool (okB M)) m
def s76 : Spec := s71
theorem all_take_succ {α : Type} (l : List α) (f : α → Bool) (i : Nat) (h : i < l.length) : (l.take (i + 1)).all f = ((l.take i).all f && f l[i]) := by
  rw [List.take_succ_eq_append_getElem h, List.all_append]
  simp
theorem all_false_of {α : Type} {l : List α} {f : α → Bool} {i : Nat} (h : i < l.length) (hf : f l[i] = false) : l.all f = false := by
  rw [List.all_eq_false]
  exact ⟨l[i], List.getElem_mem h, by simp [hf]⟩
end Go.Proofs.Ytcbjdodehjpddaa.Abs
/- Modules: the reference's function that says whether a module is right. -/
namespace Go.Proofs.Ytcbjdodehjpddaa.Abs
open Go.RowKit
set_option linter.unusedVariables false
set_option linter.unusedSectionVars false
set_option linter.unusedSimpArgs false
set_option maxRecDepth 20000

section
variable (t : Tab) (h85 : look t 85 = s85) (h92 : look t 92 = s92) {m0 : Mem} {Q : Value → Mem → Prop} {g1 : Nat} {hm : Sl × Sl} {ps : List Pr} {ts : List ByteArray}
  (b1 : m0 g1 = some (.cells #[vs hm.1, vs hm.2] 55 (0, 0))) (hM : dMo.At m0 hm (ps, ts)) (hok : okM (ps, ts))
include h85 h92 b1 hM hok

theorem loop71_15 (hqt : ps.all (codeB (ps, ts)) = true → ∀ M, Mem.le m0 M → ret Q (.bool true) M) (hqf' : ps.all (codeB (ps, ts)) = false → ∀ M, Mem.le m0 M → ret Q (.bool false) M) :
    ∀ d i, i + d = ps.length → ∀ M : Mem, Mem.le m0 M → (ps.take i).all (codeB (ps, ts)) = true → L71_15 (look t) (d + 1) Q g1 (i : Int) M := by
  obtain ⟨⟨pa, pn, pc⟩, ⟨ta, tn, tc⟩⟩ := hm
  obtain ⟨hps, hts⟩ := id hM
  obtain ⟨hpn, (hs : List PH), hl, hrd, hat⟩ := hps
  have hpn : pn = ps.length := hpn
  have hl : hs.length = ps.length := hl
  have hrd : Rd m0 pa hs := hrd
  have hlen : ps.length ≤ 2 ^ 20 := hok.1.1
  intro d
  induction d with
  | zero =>
    intro i hi M hle hpre
    rw [l71_15]
    refine ⟨M, Mem.le_refl _, _, _, _, cell_of (hle _ _ b1) 0, ?_⟩
    rw [if_neg (by simp; omega)]
    rw [List.take_of_length_le (by omega)] at hpre
    exact hqt hpre M hle
  | succ d ih =>
    intro i hi M hle hpre
    rw [l71_15]
    refine ⟨M, Mem.le_refl _, _, _, _, cell_of (hle _ _ b1) 0, ?_⟩
    rw [if_pos (by simp; omega)]
    have i1 : i < hs.length := by omega
    have i2 : i < ps.length := by omega
    have hii := hat i hs[i] ps[i] (List.getElem?_eq_getElem i1) (List.getElem?_eq_getElem i2)
    have okp := hok.1.2 _ (List.getElem_mem i2)
    have hst := all_take_succ ps (codeB (ps, ts)) i i2
    have hfl : codeB (ps, ts) ps[i] = false → ps.all (codeB (ps, ts)) = false := all_false_of i2
    refine ⟨pa, pn, pc, cell_of (hle _ _ b1) 0, idx' (hrd.le hle) (hl.trans hpn.symm) (by omega) (by omega) fun ad had hd => ?_⟩
    simp only [Int.toNat_natCast] at hd ⊢
    generalize hs[i] = hh at *
    generalize ps[i] = x at *
    obtain ⟨p, s, ⟨ua, un, uc⟩, ⟨ca, cn, cc⟩⟩ := hh
    refine ⟨_, hd 0 _ rfl, _, hd 1 _ rfl, _, _, _, hd 2 _ rfl, _, _, _, hd 3 _ rfl, newA_intro fun g126 m127 hg e127 hb hle127 => ?_⟩
    refine sto (c := #[.int .i64 0, .int .i64 0, .slice none 0 0, .slice none 0 0]) (t := 38) hb rfl (by simp) fun m128 e128 h128 hne => ?_
    have h128 : m128 g126 = some (.cells #[.int .i64 p, .int .i64 s, .slice ua un uc, .slice ca cn cc] 38 (0, 0)) := h128
    have le128 : Mem.le M m128 := by rw [e128, e127, upd_upd]; exact le_upd hg
    have hcn : cn = x.2.2.2.length := hii.2.2.2.1
    have hcr : Rd m0 ca x.2.2.2 := hii.2.2.2.2
    have hcl : x.2.2.2.length ≤ 2 ^ 20 := okp.2
    have l128 := Mem.le_trans hle le128
    have hwi := wsucc (i := i) (n := ps.length) i2 (by omega)
    suffices key : ∀ e j, j + e = cn → (x.2.2.2.take j).all (insB (ps, ts) x) = true → L71_19 (look t) (d + 1) (e + 1) Q g1 (i : Int) g126 (j : Int) m128 from ⟨cn + 1, key cn 0 (by omega) rfl⟩
    intro e
    induction e with
    | zero =>
      intro j hj hpj
      rw [l71_19]
      refine ⟨m128, Mem.le_refl _, _, _, _, cell_of h128 3, ?_⟩
      rw [if_neg (by simp; omega), hwi]
      rw [List.take_of_length_le (by omega)] at hpj
      exact ih (i + 1) (by omega) m128 l128 (by rw [hst, hpre]; exact hpj)
    | succ e ihe =>
      intro j hj hpj
      rw [l71_19]
      refine ⟨m128, Mem.le_refl _, _, _, _, cell_of h128 3, ?_⟩
      rw [if_pos (by simp; omega)]
      have j2 : j < x.2.2.2.length := by omega
      have b1' := l128 _ _ b1
      refine ⟨Mem.le m128, Mem.le_refl _, _, _, _, held (cell_of b1' 0), _, _, _, held (cell_of b1' 1), _, held (cell_of h128 0), _, held (cell_of h128 1), _, _, _, held (cell_of h128 2), _, _, _, held (cell_of h128 3), _, _, _, held (cell_of h128 3), ?_⟩
      refine idx' (hcr.le l128) hcn.symm (by omega) (by omega) fun ad' had' hd' => ?_
      simp only [Int.toNat_natCast] at hd' ⊢
      refine ⟨_, held (hd' 0 _ rfl), _, held (hd' 1 _ rfl), via h92 ⟨(⟨pa, pn, pc⟩, ⟨ta, tn, tc⟩), (p, s, ⟨ua, un, uc⟩, ⟨ca, cn, cc⟩), (ps, ts), x, x.2.2.2[j], rfl, dMo.at_le l128 hM, dPr.at_le l128 hii, hok, okp, _, rfl, Mem.le_refl _, ?_⟩⟩
      have hsj := all_take_succ x.2.2.2 (insB (ps, ts) x) j j2
      cases hb92 : insB (ps, ts) x x.2.2.2[j] with
      | false =>
        rw [if_pos (show (!false) = true from rfl)]
        exact hqf' (hfl (all_false_of j2 hb92)) m128 l128
      | true =>
        rw [if_neg (by simp), wsucc (n := cn) (by omega) (by omega)]
        exact ihe (j + 1) (by omega) (by rw [hsj, hpj, hb92]; rfl)

theorem loop71_9 (hqt : ps.all hdB = true → ps.all (codeB (ps, ts)) = true → ∀ M, Mem.le m0 M → ret Q (.bool true) M) (hqf' : (ps.all hdB && ps.all (codeB (ps, ts))) = false → ∀ M, Mem.le m0 M → ret Q (.bool false) M) :
    ∀ d i, i + d = ps.length → ∀ M : Mem, Mem.le m0 M → (ps.take i).all hdB = true → L71_9 (look t) (d + 1) Q g1 (i : Int) M := by
  obtain ⟨⟨pa, pn, pc⟩, ⟨ta, tn, tc⟩⟩ := hm
  obtain ⟨hps, hts⟩ := id hM
  obtain ⟨hpn, (hs : List PH), hl, hrd, hat⟩ := hps
  have hpn : pn = ps.length := hpn
  have hl : hs.length = ps.length := hl
  have hrd : Rd m0 pa hs := hrd
  have hlen : ps.length ≤ 2 ^ 20 := hok.1.1
  intro d
  induction d with
  | zero =>
    intro i hi M hle hpre
    rw [l71_9]
    refine ⟨M, Mem.le_refl _, pa, pn, pc, cell_of (hle _ _ b1) 0, ?_⟩
    rw [if_neg (by simp; omega)]
    rw [List.take_of_length_le (by omega)] at hpre
    refine ⟨ps.length + 1, loop71_15 t h85 h92 b1 hM hok (fun h2 => hqt hpre h2) (fun h2 => hqf' (by rw [h2, Bool.and_false])) ps.length 0 (by omega) M hle rfl⟩
  | succ d ih =>
    intro i hi M hle hpre
    rw [l71_9]
    refine ⟨M, Mem.le_refl _, pa, pn, pc, cell_of (hle _ _ b1) 0, ?_⟩
    rw [if_pos (by simp; omega)]
    have i1 : i < hs.length := by omega
    have i2 : i < ps.length := by omega
    have hii := hat i hs[i] ps[i] (List.getElem?_eq_getElem i1) (List.getElem?_eq_getElem i2)
    have okp := hok.1.2 _ (List.getElem_mem i2)
    have hst := all_take_succ ps hdB i i2
    have hfl : hdB ps[i] = false → ∀ M, Mem.le m0 M → ret Q (.bool false) M := fun h2 => hqf' (by rw [all_false_of i2 h2, Bool.false_and])
    refine ⟨pa, pn, pc, cell_of (hle _ _ b1) 0, idx' (hrd.le hle) (hl.trans hpn.symm) (by omega) (by omega) fun ad had hd => ?_⟩
    simp only [Int.toNat_natCast] at hd ⊢
    generalize hs[i] = hh at *
    generalize ps[i] = x at *
    obtain ⟨p, s, ⟨ua, un, uc⟩, ⟨ca, cn, cc⟩⟩ := hh
    obtain ⟨p0, s0, lu, lc⟩ := x
    obtain ⟨hp, hs', hu, hc⟩ := hii
    have hp : p = p0 := hp
    have hs' : s = s0 := hs'
    subst hp hs'
    have hun : un = lu.length := hu.1
    have hcn : cn = lc.length := hc.1
    have hcr : Rd m0 ca lc := hc.2
    have hcl : lc.length ≤ 2 ^ 20 := okp.2
    refine ⟨_, hd 0 _ rfl, _, hd 1 _ rfl, _, _, _, hd 2 _ rfl, _, _, _, hd 3 _ rfl, newA_intro fun g66 m67 hg e67 hb hle67 => ?_⟩
    refine sto (c := #[.int .i64 0, .int .i64 0, .slice none 0 0, .slice none 0 0]) (t := 38) hb rfl (by simp) fun m68 e68 h68 hne => ?_
    have h68 : m68 g66 = some (.cells #[.int .i64 p, .int .i64 s, .slice ua un uc, .slice ca cn cc] 38 (0, 0)) := h68
    have le68 : Mem.le M m68 := by rw [e68, e67, upd_upd]; exact le_upd hg
    have l68 := Mem.le_trans hle le68
    have hH : hdB (p, s, lu, lc) = (decide (0 ≤ s ∧ s ≤ 20) && (decide (0 ≤ p ∧ p ≤ s) && (decide (lu.length ≤ 12) && (decide (1 ≤ (lc.length : Int) ∧ (lc.length : Int) ≤ 4000) && decide ((lc.getD (lc.length - 1) (0, 0)).1 = 24))))) := rfl
    have bad : hdB (p, s, lu, lc) = false → ret Q (.bool false) m68 := fun h2 => hfl h2 m68 l68
    refine ⟨_, cell_of h68 1, via h85 ⟨_, _, _, rfl, _, rfl, ?_⟩⟩
    by_cases c1 : 0 ≤ s ∧ s ≤ 20
    case neg => rw [if_pos (by rw [decide_eq_false c1]; rfl)]; exact bad (by rw [hH, decide_eq_false c1]; rfl)
    rw [if_neg (by rw [decide_eq_true c1]; decide)]
    refine ⟨_, cell_of h68 0, _, cell_of h68 1, via h85 ⟨_, _, _, rfl, _, rfl, ?_⟩⟩
    by_cases c2 : 0 ≤ p ∧ p ≤ s
    case neg => rw [if_pos (by rw [decide_eq_false c2]; rfl)]; exact bad (by rw [hH, decide_eq_false c2]; simp)
    rw [if_neg (by rw [decide_eq_true c2]; decide)]
    refine ⟨_, _, _, cell_of h68 2, ?_⟩
    by_cases c3 : lu.length ≤ 12
    case neg => rw [if_pos (by simp; omega)]; exact bad (by rw [hH, decide_eq_false c3]; simp)
    rw [if_neg (by simp; omega)]
    refine ⟨_, _, _, cell_of h68 3, via h85 ⟨_, _, _, rfl, _, rfl, ?_⟩⟩
    by_cases c4 : 1 ≤ (cn : Int) ∧ (cn : Int) ≤ 4000
    case neg => rw [if_pos (by rw [decide_eq_false c4]; rfl)]; exact bad (by rw [hH, ← hcn, decide_eq_false c4]; simp)
    rw [if_neg (by rw [decide_eq_true c4]; decide)]
    have hw : IntKind.i64.wrap ((cn : Int) - 1) = ((cn - 1 : Nat) : Int) := (w64 (by omega) (by omega)).trans (by omega)
    refine ⟨_, _, _, cell_of h68 3, _, _, _, cell_of h68 3, ?_⟩
    rw [hw]
    have jl : cn - 1 < lc.length := by omega
    refine idx (hcr.le l68) hcn.symm (by omega) (by omega) fun ad' had' hd' => ?_
    simp only [Int.toNat_natCast] at hd' ⊢
    refine ⟨_, hd' 0 _ rfl, ?_⟩
    have eg : (lc.getD (lc.length - 1) (0, 0)) = lc[cn - 1] := by rw [← hcn]; simp [List.getD_eq_getElem?_getD, jl]
    by_cases c5 : lc[cn - 1].1 = 24
    case neg => rw [if_pos (by simpa using c5)]; exact bad (by rw [hH, eg, decide_eq_false c5]; simp)
    rw [if_neg (by simpa using c5), wsucc (n := ps.length) i2 (by omega)]
    refine ih (i + 1) (by omega) m68 l68 ?_
    rw [hst, hpre, hH, eg, decide_eq_true c1, decide_eq_true c2, decide_eq_true c3, decide_eq_true c5, ← hcn, decide_eq_true c4]
    rfl
end
end Go.Proofs.Ytcbjdodehjpddaa.Abs
/- Modules: the reference's function that says whether a module is right, whole. -/
namespace Go.Proofs.Ytcbjdodehjpddaa.Abs
open Go.RowKit
set_option linter.unusedVariables false
set_option linter.unusedSimpArgs false
set_option linter.unusedSectionVars false
set_option maxRecDepth 20000

theorem f71 (t : Tab) (h85 : look t 85 = s85) (h92 : look t 92 = s92) : ∀ args m Q, s71 args m Q → FA Try.prog (look t) kp71 Try.f71 args m Q := by
  rintro args m Q ⟨⟨⟨pa, pn, pc⟩, ⟨ta, tn, tc⟩⟩, ⟨ps, ts⟩, rfl, hM, hok, hbig, h⟩
  show FA Try.prog (look t) kp71 Try.f71 [.agg #[.slice pa pn pc, .slice ta tn tc]] m Q
  rw [e71]
  refine newA_intro fun g1 m2 hg1 e2 hb1 hle2 => ?_
  have hM2 := dMo.at_le hle2 hM
  obtain ⟨⟨hpn, (hs : List PH), hl, hrd, hat⟩, htn, htr⟩ := id hM2
  have hpn : pn = ps.length := hpn
  have htn : tn = ts.length := htn
  have hl : hs.length = ps.length := hl
  have hrd : Rd m2 pa hs := hrd
  have htr : Rd m2 ta ts := htr
  have hlen : ps.length ≤ 2 ^ 20 := hok.1.1
  have htl : ts.length ≤ 2 ^ 20 := hok.2
  have hO : okB (ps, ts) = (decide (1 ≤ (ps.length : Int) ∧ (ps.length : Int) ≤ 100) && (decide (ts.length ≤ 255) && (decide ((ps.getD 0 (0, 0, [], [])).1 = 0) && (decide ((ps.getD 0 (0, 0, [], [])).2.2.1.length = 0) && (ts.all (fun t => decide (t.size ≤ 160)) && (ps.all hdB && ps.all (codeB (ps, ts)))))))) := rfl
  have fin : ∀ b : Bool, okB (ps, ts) = b → ∀ M, Mem.le m2 M → ret Q (.bool b) M := by
    rintro b rfl M hM'
    exact ret_intro (Mem.le_trans hle2 hM') h
  have finQ : ∀ b : Bool, okB (ps, ts) = b → ∀ M, Mem.le m2 M → ret Q (.bool b) M := fin
  refine ⟨pa, pn, pc, cell_of hb1 0, via h85 ⟨_, _, _, rfl, _, rfl, ?_⟩⟩
  rw [hpn]
  by_cases c1 : 1 ≤ (ps.length : Int) ∧ (ps.length : Int) ≤ 100
  case neg => rw [if_pos (by rw [decide_eq_false c1]; rfl)]; exact fin _ (by rw [hO, decide_eq_false c1]; rfl) m2 (Mem.le_refl _)
  rw [if_neg (by rw [decide_eq_true c1]; decide)]
  refine ⟨ta, tn, tc, cell_of hb1 1, ?_⟩
  by_cases c2 : ts.length ≤ 255
  case neg => rw [if_pos (by simp; omega)]; exact fin _ (by rw [hO, decide_eq_false c2]; simp) m2 (Mem.le_refl _)
  rw [if_neg (by simp; omega)]
  have i1 : 0 < hs.length := by omega
  have i2 : 0 < ps.length := by omega
  have hii := hat 0 hs[0] ps[0] (List.getElem?_eq_getElem i1) (List.getElem?_eq_getElem i2)
  have eg : ps.getD 0 (0, 0, [], []) = ps[0] := by simp [List.getD_eq_getElem?_getD, i2]
  rw [eg] at hO
  have hp0 : hs[0].1 = ps[0].1 := hii.1
  have hu0 : hs[0].2.2.1.n = ps[0].2.2.1.length := hii.2.2.1.1
  refine ⟨pa, ps.length, pc, by rw [cell_of hb1 0, ← hpn]; rfl, idx hrd hl (by omega) (by omega) fun ad had hd => ?_⟩
  refine ⟨_, hd 0 _ rfl, ?_⟩
  by_cases c3 : ps[0].1 = 0
  case neg => rw [if_pos (by simpa [hp0] using c3)]; exact fin _ (by rw [hO, decide_eq_false c3]; simp) m2 (Mem.le_refl _)
  rw [if_neg (by simpa [hp0] using c3)]
  refine ⟨pa, ps.length, pc, by rw [cell_of hb1 0, ← hpn]; rfl, idx' hrd hl (by omega) (by omega) fun ad' had' hd' => ?_⟩
  refine ⟨_, _, _, hd' 2 _ rfl, ?_⟩
  by_cases c4 : ps[0].2.2.1.length = 0
  case neg => rw [if_pos (by simpa [hu0] using c4)]; exact fin _ (by rw [hO, decide_eq_false c4]; simp) m2 (Mem.le_refl _)
  rw [if_neg (by simpa [hu0] using c4)]
  rw [decide_eq_true c1, decide_eq_true c2, decide_eq_true c3, decide_eq_true c4] at hO
  simp only [Bool.true_and] at hO
  suffices key : ∀ d i, i + d = ts.length → (ts.take i).all (fun t => decide (t.size ≤ 160)) = true → ∀ M, Mem.le m2 M → L71_4 (look t) (d + 1) Q g1 (i : Int) M from ⟨ts.length + 1, key ts.length 0 (by omega) rfl m2 (Mem.le_refl _)⟩
  intro d
  induction d with
  | zero =>
    intro i hi hpre M hle
    rw [l71_4]
    refine ⟨M, Mem.le_refl _, ta, tn, tc, cell_of (hle _ _ hb1) 1, ?_⟩
    rw [if_neg (by simp; omega)]
    rw [List.take_of_length_le (by omega)] at hpre
    rw [hpre, Bool.true_and] at hO
    exact ⟨ps.length + 1, loop71_9 t h85 h92 (hm := (⟨pa, pn, pc⟩, ⟨ta, tn, tc⟩)) (ps := ps) (ts := ts) hb1 hM2 hok (fun e1 e2 M' hM' => fin _ (by rw [hO, e1, e2]; rfl) M' hM') (fun e1 M' hM' => fin _ (by rw [hO, e1]) M' hM') ps.length 0 (by omega) M hle rfl⟩
  | succ d ih =>
    intro i hi hpre M hle
    rw [l71_4]
    refine ⟨M, Mem.le_refl _, ta, tn, tc, cell_of (hle _ _ hb1) 1, ?_⟩
    rw [if_pos (by simp; omega)]
    have hil : i < ts.length := by omega
    have hst := all_take_succ ts (fun t => decide (t.size ≤ 160)) i hil
    refine ⟨ta, tn, tc, cell_of (hle _ _ hb1) 1, idx' (htr.le hle) htn.symm (by omega) (by omega) fun ad had hd => ?_⟩
    simp only [Int.toNat_natCast] at hd ⊢
    refine ⟨_, hd 0 _ rfl, ?_⟩
    by_cases c5 : ts[i].size ≤ 160
    case neg =>
      rw [if_pos (by simp; omega)]
      exact fin _ (by rw [hO, all_false_of hil (decide_eq_false c5)]; rfl) M hle
    rw [if_neg (by simp; omega), wsucc (n := ts.length) (by omega) (by omega)]
    exact ih (i + 1) (by omega) (by rw [hst, hpre]; simpa using c5) M hle
end Go.Proofs.Ytcbjdodehjpddaa.Abs
/- Modules: the program's function that says whether a module is right. -/
namespace Go.Proofs.Ytcbjdodehjpddaa.Abs
open Go.RowKit
set_option linter.unusedVariables false
set_option linter.unusedSimpArgs false
set_option linter.unusedSectionVars false
set_option maxRecDepth 20000

section
variable (t : Tab) (h63 : look t 63 = s63) (h93 : look t 93 = s93) {m0 : Mem} {Q : Value → Mem → Prop} {g1 : Nat} {hm : Sl × Sl} {ps : List Pr} {ts : List ByteArray}
  (b1 : m0 g1 = some (.cells #[vs hm.1, vs hm.2] 55 (0, 0))) (hM : dMo.At m0 hm (ps, ts)) (hok : okM (ps, ts))
include h63 h93 b1 hM hok

theorem loop76_10 {pa : Option Addr} {pn pc : Nat} (hpp : hm.1 = ⟨pa, pn, pc⟩) (hqt : (ps.all fun p => hdB p && codeB (ps, ts) p) = true → ∀ M, Mem.le m0 M → ret Q (.bool true) M) (hqf' : (ps.all fun p => hdB p && codeB (ps, ts) p) = false → ∀ M, Mem.le m0 M → ret Q (.bool false) M) :
    ∀ d i, i + d = ps.length → ∀ M : Mem, Mem.le m0 M → ((ps.take i).all fun p => hdB p && codeB (ps, ts) p) = true → L76_10 (look t) (d + 1) Q g1 pa pn pc (pn : Int) (i : Int) M := by
  obtain ⟨⟨pa', pn', pc'⟩, ⟨ta, tn, tc⟩⟩ := hm
  cases hpp
  obtain ⟨hps, hts⟩ := id hM
  obtain ⟨hpn, (hs : List PH), hl, hrd, hat⟩ := hps
  have hpn : pn = ps.length := hpn
  have hl : hs.length = ps.length := hl
  have hrd : Rd m0 pa hs := hrd
  have hlen : ps.length ≤ 2 ^ 20 := hok.1.1
  intro d
  induction d with
  | zero =>
    intro i hi M hle hpre
    rw [l76_10]
    refine ⟨M, Mem.le_refl _, ?_⟩
    rw [if_neg (by simp; omega)]
    rw [List.take_of_length_le (by omega)] at hpre
    exact hqt hpre M hle
  | succ d ih =>
    intro i hi M hle hpre
    rw [l76_10]
    refine ⟨M, Mem.le_refl _, ?_⟩
    rw [if_pos (by simp; omega)]
    have i1 : i < hs.length := by omega
    have i2 : i < ps.length := by omega
    have hii := hat i hs[i] ps[i] (List.getElem?_eq_getElem i1) (List.getElem?_eq_getElem i2)
    have okp := hok.1.2 _ (List.getElem_mem i2)
    have hst := all_take_succ ps (fun p => hdB p && codeB (ps, ts) p) i i2
    have hfl : (hdB ps[i] && codeB (ps, ts) ps[i]) = false → ∀ M, Mem.le m0 M → ret Q (.bool false) M := fun h2 => hqf' (all_false_of i2 h2)
    refine idx' (hrd.le hle) (hl.trans hpn.symm) (by omega) (by omega) fun ad had hd => ?_
    simp only [Int.toNat_natCast] at hd ⊢
    generalize hs[i] = hh at *
    generalize ps[i] = x at *
    obtain ⟨p, s, ⟨ua, un, uc⟩, ⟨ca, cn, cc⟩⟩ := hh
    obtain ⟨p0, s0, lu, lc⟩ := x
    obtain ⟨hp, hs', hu, hc⟩ := id hii
    have hp : p = p0 := hp
    have hs' : s = s0 := hs'
    subst hp hs'
    have hun : un = lu.length := hu.1
    have hcn : cn = lc.length := hc.1
    have hcr : Rd m0 ca lc := hc.2
    have hcl : lc.length ≤ 2 ^ 20 := okp.2
    refine ⟨_, hd 0 _ rfl, _, hd 1 _ rfl, _, _, _, hd 2 _ rfl, _, _, _, hd 3 _ rfl, newA_intro fun g66 m67 hg e67 hb hle67 => ?_⟩
    refine sto (c := #[.int .i64 0, .int .i64 0, .slice none 0 0, .slice none 0 0]) (t := 38) hb rfl (by simp) fun m68 e68 h68 hne => ?_
    have h68 : m68 g66 = some (.cells #[.int .i64 p, .int .i64 s, .slice ua un uc, .slice ca cn cc] 38 (0, 0)) := h68
    have le68 : Mem.le M m68 := by rw [e68, e67, upd_upd]; exact le_upd hg
    have l68 := Mem.le_trans hle le68
    have hH : hdB (p, s, lu, lc) = (decide (0 ≤ s ∧ s ≤ 20) && (decide (0 ≤ p ∧ p ≤ s) && (decide (lu.length ≤ 12) && (decide (1 ≤ (lc.length : Int) ∧ (lc.length : Int) ≤ 4000) && decide ((lc.getD (lc.length - 1) (0, 0)).1 = 24))))) := rfl
    have bad : hdB (p, s, lu, lc) = false → ret Q (.bool false) m68 := fun h2 => hfl (by rw [h2, Bool.false_and]) m68 l68
    refine ⟨_, _, _, cell_of h68 3, _, cell_of h68 1, via h63 ⟨_, _, _, rfl, _, rfl, ?_⟩⟩
    by_cases c1 : 0 ≤ s ∧ s ≤ 20
    case neg => rw [if_pos (by rw [decide_eq_false c1]; rfl)]; exact bad (by rw [hH, decide_eq_false c1]; rfl)
    rw [if_neg (by rw [decide_eq_true c1]; decide)]
    refine ⟨_, cell_of h68 0, _, cell_of h68 1, via h63 ⟨_, _, _, rfl, _, rfl, ?_⟩⟩
    by_cases c2 : 0 ≤ p ∧ p ≤ s
    case neg => rw [if_pos (by rw [decide_eq_false c2]; rfl)]; exact bad (by rw [hH, decide_eq_false c2]; simp)
    rw [if_neg (by rw [decide_eq_true c2]; decide)]
    refine ⟨_, _, _, cell_of h68 2, ?_⟩
    by_cases c3 : lu.length ≤ 12
    case neg => rw [if_pos (by simp; omega)]; exact bad (by rw [hH, decide_eq_false c3]; simp)
    rw [if_neg (by simp; omega)]
    refine via h63 ⟨_, _, _, rfl, _, rfl, ?_⟩
    by_cases c4 : 1 ≤ (cn : Int) ∧ (cn : Int) ≤ 4000
    case neg => rw [if_pos (by rw [decide_eq_false c4]; rfl)]; exact bad (by rw [hH, ← hcn, decide_eq_false c4]; simp)
    rw [if_neg (by rw [decide_eq_true c4]; decide)]
    have hw : IntKind.i64.wrap ((cn : Int) - 1) = ((cn - 1 : Nat) : Int) := (w64 (by omega) (by omega)).trans (by omega)
    refine ⟨_, _, _, cell_of h68 3, ?_⟩
    rw [hw]
    have jl : cn - 1 < lc.length := by omega
    refine idx (hcr.le l68) hcn.symm (by omega) (by omega) fun ad' had' hd' => ?_
    simp only [Int.toNat_natCast] at hd' ⊢
    refine ⟨_, hd' 0 _ rfl, ?_⟩
    have eg : (lc.getD (lc.length - 1) (0, 0)) = lc[cn - 1] := by rw [← hcn]; simp [List.getD_eq_getElem?_getD, jl]
    by_cases c5 : lc[cn - 1].1 = 24
    case neg => rw [if_pos (by simpa using c5)]; exact bad (by rw [hH, eg, decide_eq_false c5]; simp)
    rw [if_neg (by simpa using c5)]
    have hHt : hdB (p, s, lu, lc) = true := by
      rw [hH, eg, decide_eq_true c1, decide_eq_true c2, decide_eq_true c3, decide_eq_true c5, ← hcn, decide_eq_true c4]; rfl
    have hwi := wsucc (i := i) (n := ps.length) i2 (by omega)
    refine ⟨_, _, _, cell_of h68 3, ?_⟩
    suffices key : ∀ e j, j + e = cn → ∀ M' : Mem, Mem.le m68 M' → (lc.take j).all (insB (ps, ts) (p, s, lu, lc)) = true → L76_16 (look t) (d + 1) (e + 1) Q g1 g66 pa pn pc (pn : Int) (i : Int) ca cn cc (cn : Int) (j : Int) M' from ⟨cn + 1, key cn 0 (by omega) m68 (Mem.le_refl _) rfl⟩
    intro e
    induction e with
    | zero =>
      intro j hj M' hM' hpj
      rw [l76_16]
      refine ⟨M', Mem.le_refl _, ?_⟩
      rw [if_neg (by simp; omega), hwi]
      rw [List.take_of_length_le (by omega)] at hpj
      refine ih (i + 1) (by omega) M' (Mem.le_trans l68 hM') ?_
      rw [hst, hpre, hHt]
      exact hpj
    | succ e ihe =>
      intro j hj M' hM' hpj
      rw [l76_16]
      refine ⟨M', Mem.le_refl _, ?_⟩
      rw [if_pos (by simp; omega)]
      have j2 : j < lc.length := by omega
      have l' := Mem.le_trans l68 hM'
      refine idx' (hcr.le l') hcn.symm (by omega) (by omega) fun ad' had' hd' => ?_
      simp only [Int.toNat_natCast] at hd' ⊢
      refine ⟨_, hd' 0 _ rfl, _, hd' 1 _ rfl, newA_intro fun g102 m103 hg e103 hb hle103 => ?_⟩
      refine sto (c := #[.int .i64 0, .int .i64 0]) (t := 73) hb rfl (by simp) fun m104 e104 h104 hne => ?_
      have le104 : Mem.le M' m104 := by rw [e104, e103, upd_upd]; exact le_upd hg
      have h104 : m104 g102 = some (.cells #[.int .i64 lc[j].1, .int .i64 lc[j].2] 73 (0, 0)) := h104
      have l104 := Mem.le_trans l' le104
      have b1' := l104 _ _ b1
      have h68' := le104 _ _ (hM' _ _ h68)
      refine ⟨_, _, _, cell_of b1' 0, _, _, _, cell_of b1' 1, _, cell_of h68' 0, _, cell_of h68' 1, _, _, _, cell_of h68' 2, _, _, _, cell_of h68' 3, _, cell_of h104 0, _, cell_of h104 1, via h93 ⟨(⟨pa, pn, pc⟩, ⟨ta, tn, tc⟩), (p, s, ⟨ua, un, uc⟩, ⟨ca, cn, cc⟩), (ps, ts), (p, s, lu, lc), lc[j], rfl, dMo.at_le l104 hM, dPr.at_le l104 hii, hok, okp, _, rfl, ?_⟩⟩
      have hsj := all_take_succ lc (insB (ps, ts) (p, s, lu, lc)) j j2
      cases hb92 : insB (ps, ts) (p, s, lu, lc) lc[j] with
      | false =>
        rw [if_pos (show (!false) = true from rfl)]
        refine hfl ?_ m104 l104
        have : codeB (ps, ts) (p, s, lu, lc) = false := all_false_of j2 hb92
        rw [this, Bool.and_false]
      | true =>
        rw [if_neg (by simp), wsucc (n := cn) (by omega) (by omega)]
        exact ihe (j + 1) (by omega) m104 (Mem.le_trans hM' le104) (by rw [hsj, hpj, hb92]; rfl)
end
theorem all_and {α : Type} (l : List α) (f g : α → Bool) : (l.all fun p => f p && g p) = (l.all f && l.all g) := by
  induction l with
  | nil => rfl
  | cons x l ih => simp only [List.all_cons, ih]; cases f x <;> cases g x <;> cases l.all f <;> cases l.all g <;> rfl

theorem f76 (t : Tab) (h63 : look t 63 = s63) (h93 : look t 93 = s93) : ∀ args m Q, s76 args m Q → FA Try.prog (look t) kp76 Try.f76 args m Q := by
  rintro args m Q ⟨⟨⟨pa, pn, pc⟩, ⟨ta, tn, tc⟩⟩, ⟨ps, ts⟩, rfl, hM, hok, hbig, h⟩
  show FA Try.prog (look t) kp76 Try.f76 [.agg #[.slice pa pn pc, .slice ta tn tc]] m Q
  rw [e76]
  refine newA_intro fun g1 m2 hg1 e2 hb1 hle2 => ?_
  have hM2 := dMo.at_le hle2 hM
  obtain ⟨⟨hpn, (hs : List PH), hl, hrd, hat⟩, htn, htr⟩ := id hM2
  have hpn : pn = ps.length := hpn
  have htn : tn = ts.length := htn
  have hl : hs.length = ps.length := hl
  have hrd : Rd m2 pa hs := hrd
  have htr : Rd m2 ta ts := htr
  have hlen : ps.length ≤ 2 ^ 20 := hok.1.1
  have htl : ts.length ≤ 2 ^ 20 := hok.2
  have hO : okB (ps, ts) = (decide (1 ≤ (ps.length : Int) ∧ (ps.length : Int) ≤ 100) && (decide (ts.length ≤ 255) && (decide ((ps.getD 0 (0, 0, [], [])).1 = 0) && (decide ((ps.getD 0 (0, 0, [], [])).2.2.1.length = 0) && (ts.all (fun t => decide (t.size ≤ 160)) && (ps.all hdB && ps.all (codeB (ps, ts)))))))) := rfl
  rw [← all_and ps hdB (codeB (ps, ts))] at hO
  have fin : ∀ b : Bool, okB (ps, ts) = b → ∀ M, Mem.le m2 M → ret Q (.bool b) M := by
    rintro b rfl M hM'
    exact ret_intro (Mem.le_trans hle2 hM') h
  refine ⟨pa, pn, pc, cell_of hb1 0, via h63 ⟨_, _, _, rfl, _, rfl, ?_⟩⟩
  rw [hpn]
  by_cases c1 : 1 ≤ (ps.length : Int) ∧ (ps.length : Int) ≤ 100
  case neg => rw [if_pos (by rw [decide_eq_false c1]; rfl)]; exact fin _ (by rw [hO, decide_eq_false c1]; rfl) m2 (Mem.le_refl _)
  rw [if_neg (by rw [decide_eq_true c1]; decide)]
  refine ⟨ta, tn, tc, cell_of hb1 1, ?_⟩
  by_cases c2 : ts.length ≤ 255
  case neg => rw [if_pos (by simp; omega)]; exact fin _ (by rw [hO, decide_eq_false c2]; simp) m2 (Mem.le_refl _)
  rw [if_neg (by simp; omega)]
  have i1 : 0 < hs.length := by omega
  have i2 : 0 < ps.length := by omega
  have hii := hat 0 hs[0] ps[0] (List.getElem?_eq_getElem i1) (List.getElem?_eq_getElem i2)
  have eg : ps.getD 0 (0, 0, [], []) = ps[0] := by simp [List.getD_eq_getElem?_getD, i2]
  rw [eg] at hO
  have hp0 : hs[0].1 = ps[0].1 := hii.1
  have hu0 : hs[0].2.2.1.n = ps[0].2.2.1.length := hii.2.2.1.1
  refine ⟨pa, ps.length, pc, by rw [cell_of hb1 0, ← hpn]; rfl, idx hrd hl (by omega) (by omega) fun ad had hd => ?_⟩
  refine ⟨_, hd 0 _ rfl, ?_⟩
  by_cases c3 : ps[0].1 = 0
  case neg => rw [if_pos (by simpa [hp0] using c3)]; exact fin _ (by rw [hO, decide_eq_false c3]; simp) m2 (Mem.le_refl _)
  rw [if_neg (by simpa [hp0] using c3)]
  refine ⟨pa, ps.length, pc, by rw [cell_of hb1 0, ← hpn]; rfl, idx' hrd hl (by omega) (by omega) fun ad' had' hd' => ?_⟩
  refine ⟨_, _, _, hd' 2 _ rfl, ?_⟩
  by_cases c4 : ps[0].2.2.1.length = 0
  case neg => rw [if_pos (by simp [hu0]; omega)]; exact fin _ (by rw [hO, decide_eq_false c4]; simp) m2 (Mem.le_refl _)
  rw [if_neg (by simpa [hu0] using c4)]
  rw [decide_eq_true c1, decide_eq_true c2, decide_eq_true c3, decide_eq_true c4] at hO
  simp only [Bool.true_and] at hO
  refine ⟨ta, tn, tc, cell_of hb1 1, ?_⟩
  suffices key : ∀ d i, i + d = ts.length → (ts.take i).all (fun t => decide (t.size ≤ 160)) = true → ∀ M, Mem.le m2 M → L76_4 (look t) (d + 1) Q g1 ta tn tc (tn : Int) (i : Int) M from ⟨ts.length + 1, key ts.length 0 (by omega) rfl m2 (Mem.le_refl _)⟩
  intro d
  induction d with
  | zero =>
    intro i hi hpre M hle
    rw [l76_4]
    refine ⟨M, Mem.le_refl _, ?_⟩
    rw [if_neg (by simp; omega)]
    rw [List.take_of_length_le (by omega)] at hpre
    rw [hpre, Bool.true_and] at hO
    exact ⟨pa, pn, pc, cell_of (hle _ _ hb1) 0, ps.length + 1, loop76_10 t h63 h93 (hm := (⟨pa, pn, pc⟩, ⟨ta, tn, tc⟩)) (ps := ps) (ts := ts) hb1 hM2 hok rfl (fun e1 M' hM' => fin _ (by rw [hO, e1]) M' hM') (fun e1 M' hM' => fin _ (by rw [hO, e1]) M' hM') ps.length 0 (by omega) M hle rfl⟩
  | succ d ih =>
    intro i hi hpre M hle
    rw [l76_4]
    refine ⟨M, Mem.le_refl _, ?_⟩
    rw [if_pos (by simp; omega)]
    have hil : i < ts.length := by omega
    have hst := all_take_succ ts (fun t => decide (t.size ≤ 160)) i hil
    refine idx' (htr.le hle) htn.symm (by omega) (by omega) fun ad had hd => ?_
    simp only [Int.toNat_natCast] at hd ⊢
    refine ⟨_, hd 0 _ rfl, ?_⟩
    by_cases c5 : ts[i].size ≤ 160
    case neg =>
      rw [if_pos (by simp; omega)]
      exact fin _ (by rw [hO, all_false_of hil (decide_eq_false c5)]; rfl) M hle
    rw [if_neg (by simp; omega), wsucc (n := ts.length) (by omega) (by omega)]
    exact ih (i + 1) (by omega) (by rw [hst, hpre]; simpa using c5) M hle
end Go.Proofs.Ytcbjdodehjpddaa.Abs
