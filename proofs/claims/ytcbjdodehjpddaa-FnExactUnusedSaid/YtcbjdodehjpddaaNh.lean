/- Modules: the reference's function that says whether a module is right, whole. -/
import Derived.Test.YtcbjdodehjpddaaNg
namespace Go.Proofs.Ytcbjdodehjpddaa.Abs
open Go.RowKit
set_option linter.unusedVariables false
set_option linter.unusedSimpArgs false
set_option linter.unusedSectionVars false
set_option maxRecDepth 20000

theorem f71 (t : Tab) (h85 : look t 85 = s85) (h92 : look t 92 = s92) : ∀ args m Q, s71 args m Q → FA Try.prog (look t) kp71 Try.f71 args m Q := by
  rintro args m Q ⟨⟨⟨pa, pn, pc⟩, ⟨ta, tn, tc⟩⟩, ⟨ps, ts⟩, rfl, hM, hok, hbig, h⟩
  show FA Try.prog (look t) kp71 Try.f71 [.agg #[.slice pa pn pc, .slice ta tn tc]] m Q
  rw [e71]
  refine newA_intro fun g1 m2 hg1 e2 hb1 hle2 => ?_
  have hM2 := dMo.at_le hle2 hM
  obtain ⟨⟨hpn, (hs : List PH), hl, hrd, hat⟩, htn, htr⟩ := id hM2
  have hpn : pn = ps.length := hpn
  have htn : tn = ts.length := htn
  have hl : hs.length = ps.length := hl
  have hrd : Rd m2 pa hs := hrd
  have htr : Rd m2 ta ts := htr
  have hlen : ps.length ≤ 2 ^ 20 := hok.1.1
  have htl : ts.length ≤ 2 ^ 20 := hok.2
  have hO : okB (ps, ts) = (decide (1 ≤ (ps.length : Int) ∧ (ps.length : Int) ≤ 100) && (decide (ts.length ≤ 255) && (decide ((ps.getD 0 (0, 0, [], [])).1 = 0) && (decide ((ps.getD 0 (0, 0, [], [])).2.2.1.length = 0) && (ts.all (fun t => decide (t.size ≤ 160)) && (ps.all hdB && ps.all (codeB (ps, ts)))))))) := rfl
  have fin : ∀ b : Bool, okB (ps, ts) = b → ∀ M, Mem.le m2 M → ret Q (.bool b) M := by
    rintro b rfl M hM'
    exact ret_intro (Mem.le_trans hle2 hM') h
  have finQ : ∀ b : Bool, okB (ps, ts) = b → ∀ M, Mem.le m2 M → ret Q (.bool b) M := fin
  refine ⟨pa, pn, pc, cell_of hb1 0, via h85 ⟨_, _, _, rfl, _, rfl, ?_⟩⟩
  rw [hpn]
  by_cases c1 : 1 ≤ (ps.length : Int) ∧ (ps.length : Int) ≤ 100
  case neg => rw [if_pos (by rw [decide_eq_false c1]; rfl)]; exact fin _ (by rw [hO, decide_eq_false c1]; rfl) m2 (Mem.le_refl _)
  rw [if_neg (by rw [decide_eq_true c1]; decide)]
  refine ⟨ta, tn, tc, cell_of hb1 1, ?_⟩
  by_cases c2 : ts.length ≤ 255
  case neg => rw [if_pos (by simp; omega)]; exact fin _ (by rw [hO, decide_eq_false c2]; simp) m2 (Mem.le_refl _)
  rw [if_neg (by simp; omega)]
  have i1 : 0 < hs.length := by omega
  have i2 : 0 < ps.length := by omega
  have hii := hat 0 hs[0] ps[0] (List.getElem?_eq_getElem i1) (List.getElem?_eq_getElem i2)
  have eg : ps.getD 0 (0, 0, [], []) = ps[0] := by simp [List.getD_eq_getElem?_getD, i2]
  rw [eg] at hO
  have hp0 : hs[0].1 = ps[0].1 := hii.1
  have hu0 : hs[0].2.2.1.n = ps[0].2.2.1.length := hii.2.2.1.1
  refine ⟨pa, ps.length, pc, by rw [cell_of hb1 0, ← hpn]; rfl, idx hrd hl (by omega) (by omega) fun ad had hd => ?_⟩
  refine ⟨_, hd 0 _ rfl, ?_⟩
  by_cases c3 : ps[0].1 = 0
  case neg => rw [if_pos (by simpa [hp0] using c3)]; exact fin _ (by rw [hO, decide_eq_false c3]; simp) m2 (Mem.le_refl _)
  rw [if_neg (by simpa [hp0] using c3)]
  refine ⟨pa, ps.length, pc, by rw [cell_of hb1 0, ← hpn]; rfl, idx' hrd hl (by omega) (by omega) fun ad' had' hd' => ?_⟩
  refine ⟨_, _, _, hd' 2 _ rfl, ?_⟩
  by_cases c4 : ps[0].2.2.1.length = 0
  case neg => rw [if_pos (by simpa [hu0] using c4)]; exact fin _ (by rw [hO, decide_eq_false c4]; simp) m2 (Mem.le_refl _)
  rw [if_neg (by simpa [hu0] using c4)]
  rw [decide_eq_true c1, decide_eq_true c2, decide_eq_true c3, decide_eq_true c4] at hO
  simp only [Bool.true_and] at hO
  suffices key : ∀ d i, i + d = ts.length → (ts.take i).all (fun t => decide (t.size ≤ 160)) = true → ∀ M, Mem.le m2 M → L71_4 (look t) (d + 1) Q g1 (i : Int) M from ⟨ts.length + 1, key ts.length 0 (by omega) rfl m2 (Mem.le_refl _)⟩
  intro d
  induction d with
  | zero =>
    intro i hi hpre M hle
    rw [l71_4]
    refine ⟨M, Mem.le_refl _, ta, tn, tc, cell_of (hle _ _ hb1) 1, ?_⟩
    rw [if_neg (by simp; omega)]
    rw [List.take_of_length_le (by omega)] at hpre
    rw [hpre, Bool.true_and] at hO
    exact ⟨ps.length + 1, loop71_9 t h85 h92 (hm := (⟨pa, pn, pc⟩, ⟨ta, tn, tc⟩)) (ps := ps) (ts := ts) hb1 hM2 hok (fun e1 e2 M' hM' => fin _ (by rw [hO, e1, e2]; rfl) M' hM') (fun e1 M' hM' => fin _ (by rw [hO, e1]) M' hM') ps.length 0 (by omega) M hle rfl⟩
  | succ d ih =>
    intro i hi hpre M hle
    rw [l71_4]
    refine ⟨M, Mem.le_refl _, ta, tn, tc, cell_of (hle _ _ hb1) 1, ?_⟩
    rw [if_pos (by simp; omega)]
    have hil : i < ts.length := by omega
    have hst := all_take_succ ts (fun t => decide (t.size ≤ 160)) i hil
    refine ⟨ta, tn, tc, cell_of (hle _ _ hb1) 1, idx' (htr.le hle) htn.symm (by omega) (by omega) fun ad had hd => ?_⟩
    simp only [Int.toNat_natCast] at hd ⊢
    refine ⟨_, hd 0 _ rfl, ?_⟩
    by_cases c5 : ts[i].size ≤ 160
    case neg =>
      rw [if_pos (by simp; omega)]
      exact fin _ (by rw [hO, all_false_of hil (decide_eq_false c5)]; rfl) M hle
    rw [if_neg (by simp; omega), wsucc (n := ts.length) (by omega) (by omega)]
    exact ih (i + 1) (by omega) (by rw [hst, hpre]; simpa using c5) M hle
end Go.Proofs.Ytcbjdodehjpddaa.Abs
