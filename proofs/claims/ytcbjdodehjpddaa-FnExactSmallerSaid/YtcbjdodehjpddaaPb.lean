/- Modules: when a proto is plain; both functions; jumps are followed; both functions. -/
import Derived.Test.YtcbjdodehjpddaaPa
import Derived.Test.YtcbjdodehjpddaaNb
namespace Go.Proofs.Ytcbjdodehjpddaa.Abs
open Go.RowKit
set_option linter.unusedVariables false
set_option linter.unusedSimpArgs false
set_option linter.unusedSectionVars false
set_option maxRecDepth 20000
set_option maxHeartbeats 400000

def s48 : Spec := fun args m Q => ∃ x : Int, args = [.int .i64 x] ∧ Q (.bool (leadsB x)) m
theorem f48 (t : Tab) : ∀ args m Q, s48 args m Q → FA Try.prog (look t) kp48 Try.f48 args m Q := by
  rintro args m Q ⟨x, rfl, h⟩
  rw [e48]
  unfold leadsB at h
  by_cases c1 : 18 ≤ x
  · rw [if_pos (by simpa using c1)]
    have e : (decide (x ≤ 21)) = decide (18 ≤ x ∧ x ≤ 21) := by simp [c1]
    rw [e]
    exact ret_intro (Mem.le_refl _) h
  · rw [if_neg (by simpa using c1)]
    have e : false = decide (18 ≤ x ∧ x ≤ 21) := by simp [c1]
    rw [e]
    exact ret_intro (Mem.le_refl _) h
def s47 : Spec := fun args m Q => ∃ (h : PH) (p : Pr), args = [vP h] ∧ dPr.At m h p ∧ p.2.2.2.length ≤ 2 ^ 20 ∧ Q (.bool (plainC p.2.2.2)) m
def s52 : Spec := s47
theorem plain_bad {c : List Ins} {i : Nat} (hi : i < c.length) (h : (!leadsB c[i].1 || decide (0 ≤ c[i].2 ∧ c[i].2 ≤ (c.length : Int) - 1)) = false) : plainC c = false := by
  unfold plainC
  rw [all_false_of hi h]
  simp
theorem f47 (t : Tab) (h48 : look t 48 = s48) (h85 : look t 85 = s85) : ∀ args m Q, s47 args m Q → FA Try.prog (look t) kp47 Try.f47 args m Q := by
  rintro args m Q ⟨⟨p, s, ⟨ua, un, uc⟩, ⟨ca, cn, cc⟩⟩, ⟨p0, s0, lu, lc⟩, rfl, ⟨hp, hs, hu, hc⟩, hok, h⟩
  have hcn : cn = lc.length := hc.1
  have hcr : Rd m ca lc := hc.2
  have hok : lc.length ≤ 2 ^ 20 := hok
  have h : Q (.bool (plainC lc)) m := h
  show FA Try.prog (look t) kp47 Try.f47 [.agg #[.int .i64 p, .int .i64 s, .slice ua un uc, .slice ca cn cc]] m Q
  rw [e47]
  refine newA_intro fun g1 m2 hg1 e2 hb1 hle2 => ?_
  have fin : ∀ b : Bool, plainC lc = b → ∀ M, Mem.le m2 M → ret Q (.bool b) M := by
    rintro b rfl M hM; exact ret_intro (Mem.le_trans hle2 hM) h
  refine ⟨_, _, _, cell_of hb1 3, via h85 ⟨_, _, _, rfl, _, rfl, ?_⟩⟩
  by_cases c1 : 1 ≤ (cn : Int) ∧ (cn : Int) ≤ 4000
  case neg => rw [if_pos (by rw [decide_eq_false c1]; rfl)]; exact fin _ (by unfold plainC; rw [← hcn, decide_eq_false c1]; rfl) m2 (Mem.le_refl _)
  rw [if_neg (by rw [decide_eq_true c1]; decide)]
  have hw : IntKind.i64.wrap ((cn : Int) - 1) = (cn : Int) - 1 := w64 (by omega) (by omega)
  refine ⟨_, _, _, cell_of hb1 3, ?_⟩
  rw [hw]
  refine idx (hcr.le hle2) hcn.symm (by omega) (by omega) fun ad had hd => ⟨_, hd 0 _ rfl, ?_⟩
  obtain ⟨hl, eg⟩ := gI_get (c := lc) (p := (cn : Int) - 1) (by omega) (by omega)
  by_cases c2 : lc[((cn : Int) - 1).toNat].1 = 24
  case neg => rw [if_pos (by simpa using c2)]; exact fin _ (by unfold plainC; rw [← hcn, eg, decide_eq_false c2]; simp) m2 (Mem.le_refl _)
  rw [if_neg (by simpa using c2)]
  have hpl : plainC lc = lc.all fun x => !leadsB x.1 || decide (0 ≤ x.2 ∧ x.2 ≤ (lc.length : Int) - 1) := by
    unfold plainC
    rw [← hcn, decide_eq_true c1, eg, decide_eq_true c2]; rfl
  suffices key : ∀ d i, i + d = cn → ((lc.take i).all fun x => !leadsB x.1 || decide (0 ≤ x.2 ∧ x.2 ≤ (lc.length : Int) - 1)) = true → L47_5 (look t) (d + 1) Q g1 (cn : Int) (i : Int) m2 from ⟨cn + 1, key cn 0 (by omega) rfl⟩
  intro d
  induction d with
  | zero =>
    intro i hi hpre
    rw [l47_5]
    refine ⟨m2, Mem.le_refl _, ?_⟩
    rw [if_neg (by simp; omega)]
    rw [List.take_of_length_le (by omega)] at hpre
    exact fin _ (by rw [hpl, hpre]) m2 (Mem.le_refl _)
  | succ d ih =>
    intro i hi hpre
    rw [l47_5]
    refine ⟨m2, Mem.le_refl _, ?_⟩
    rw [if_pos (by simp; omega)]
    have hil : i < lc.length := by omega
    have hst := all_take_succ lc (fun x => !leadsB x.1 || decide (0 ≤ x.2 ∧ x.2 ≤ (lc.length : Int) - 1)) i hil
    have hbad := plain_bad hil
    have wi := wsucc (i := i) (n := cn) (by omega) (by omega)
    have hdx : ∀ K : Addr → Prop, (∀ ad, (∀ (k : Nat) (v : Value), (Enc.e lc[i])[k]? = some v → m2.cell? ((ad.add (i * 2)).add k) = some v) → K ad) → optA ca fun ad => 0 ≤ (i : Int) ∧ (i : Int) < (cn : Int) ∧ K ad := fun K hK => idx' (hcr.le hle2) hcn.symm (by omega) (by omega) fun ad had hd => hK ad hd
    generalize lc[i] = y at *
    refine ⟨_, _, _, cell_of hb1 3, hdx _ fun ad hd => ⟨_, by rw [← hd 0 _ rfl]; simp [Addr.add], via h48 ⟨_, rfl, _, rfl, ?_⟩⟩⟩
    cases hb : leadsB y.1 with
    | false =>
      rw [if_neg (by decide), wi]
      exact ih (i + 1) (by omega) (by rw [hst, hpre, hb]; rfl)
    | true =>
      rw [if_pos rfl]
      refine ⟨_, _, _, cell_of hb1 3, hdx _ fun ad hd => ⟨_, hd 1 _ rfl, via h85 ⟨_, _, _, rfl, _, rfl, ?_⟩⟩⟩
      rw [hw, hcn]
      by_cases c3 : 0 ≤ y.2 ∧ y.2 ≤ (lc.length : Int) - 1
      · rw [if_neg (by rw [decide_eq_true c3]; decide), wi, ← hcn]
        exact ih (i + 1) (by omega) (by rw [hst, hpre, hb, decide_eq_true c3]; rfl)
      · rw [if_pos (by rw [decide_eq_false c3]; decide)]
        exact fin _ (hbad (by rw [hb, decide_eq_false c3]; rfl)) m2 (Mem.le_refl _)
theorem f52 (t : Tab) (h53 : look t 53 = s53) (h63 : look t 63 = s63) : ∀ args m Q, s52 args m Q → FA Try.prog (look t) kp52 Try.f52 args m Q := by
  rintro args m Q ⟨⟨p, s, ⟨ua, un, uc⟩, ⟨ca, cn, cc⟩⟩, ⟨p0, s0, lu, lc⟩, rfl, ⟨hp, hs, hu, hc⟩, hok, h⟩
  have hcn : cn = lc.length := hc.1
  have hcr : Rd m ca lc := hc.2
  have hok : lc.length ≤ 2 ^ 20 := hok
  have h : Q (.bool (plainC lc)) m := h
  show FA Try.prog (look t) kp52 Try.f52 [.agg #[.int .i64 p, .int .i64 s, .slice ua un uc, .slice ca cn cc]] m Q
  rw [e52]
  refine newA_intro fun g1 m2 hg1 e2 hb1 hle2 => ?_
  have fin : ∀ b : Bool, plainC lc = b → ∀ M, Mem.le m2 M → ret Q (.bool b) M := by
    rintro b rfl M hM; exact ret_intro (Mem.le_trans hle2 hM) h
  refine ⟨_, _, _, cell_of hb1 3, via h63 ⟨_, _, _, rfl, _, rfl, ?_⟩⟩
  by_cases c1 : 1 ≤ (cn : Int) ∧ (cn : Int) ≤ 4000
  case neg => rw [if_pos (by rw [decide_eq_false c1]; rfl)]; exact fin _ (by unfold plainC; rw [← hcn, decide_eq_false c1]; rfl) m2 (Mem.le_refl _)
  rw [if_neg (by rw [decide_eq_true c1]; decide)]
  have hw : IntKind.i64.wrap ((cn : Int) - 1) = (cn : Int) - 1 := w64 (by omega) (by omega)
  refine ⟨_, _, _, cell_of hb1 3, ?_⟩
  rw [hw]
  refine idx (hcr.le hle2) hcn.symm (by omega) (by omega) fun ad had hd => ⟨_, hd 0 _ rfl, ?_⟩
  obtain ⟨hl, eg⟩ := gI_get (c := lc) (p := (cn : Int) - 1) (by omega) (by omega)
  by_cases c2 : lc[((cn : Int) - 1).toNat].1 = 24
  case neg => rw [if_pos (by simpa using c2)]; exact fin _ (by unfold plainC; rw [← hcn, eg, decide_eq_false c2]; simp) m2 (Mem.le_refl _)
  rw [if_neg (by simpa using c2)]
  have hpl : plainC lc = lc.all fun x => !leadsB x.1 || decide (0 ≤ x.2 ∧ x.2 ≤ (lc.length : Int) - 1) := by
    unfold plainC
    rw [← hcn, decide_eq_true c1, eg, decide_eq_true c2]; rfl
  refine ⟨_, _, _, cell_of hb1 3, ?_⟩
  suffices key : ∀ d i, i + d = cn → ∀ M, Mem.le m2 M → ((lc.take i).all fun x => !leadsB x.1 || decide (0 ≤ x.2 ∧ x.2 ≤ (lc.length : Int) - 1)) = true → L52_5 (look t) (d + 1) Q (cn : Int) ca cn cc (cn : Int) (i : Int) M from ⟨cn + 1, key cn 0 (by omega) m2 (Mem.le_refl _) rfl⟩
  intro d
  induction d with
  | zero =>
    intro i hi M hM hpre
    rw [l52_5]
    refine ⟨M, Mem.le_refl _, ?_⟩
    rw [if_neg (by simp; omega)]
    rw [List.take_of_length_le (by omega)] at hpre
    exact fin _ (by rw [hpl, hpre]) M hM
  | succ d ih =>
    intro i hi M hM hpre
    rw [l52_5]
    refine ⟨M, Mem.le_refl _, ?_⟩
    rw [if_pos (by simp; omega)]
    have hil : i < lc.length := by omega
    have hst := all_take_succ lc (fun x => !leadsB x.1 || decide (0 ≤ x.2 ∧ x.2 ≤ (lc.length : Int) - 1)) i hil
    have hbad := plain_bad hil
    have wi := wsucc (i := i) (n := cn) (by omega) (by omega)
    refine idx' (hcr.le (Mem.le_trans hle2 hM)) hcn.symm (by omega) (by omega) fun ad had hd => ?_
    simp only [Int.toNat_natCast] at hd ⊢
    generalize lc[i] = y at *
    obtain ⟨op, a⟩ := y
    refine ⟨_, hd 0 _ rfl, _, hd 1 _ rfl, newA_intro fun g28 m29 hg28 e29 hb29 hle29 => ?_⟩
    refine sto (c := #[.int .i64 0, .int .i64 0]) (t := 73) hb29 rfl (by simp) fun m30 e30 h30 hne30 => ?_
    have h30 : m30 g28 = some (.cells #[.int .i64 op, .int .i64 a] 73 (0, 0)) := h30
    have le30 : Mem.le M m30 := by rw [e30, e29, upd_upd]; exact le_upd hg28
    have l30 := Mem.le_trans hM le30
    refine ⟨_, cell_of h30 0, via h53 ⟨_, rfl, _, rfl, ?_⟩⟩
    have hb' : decide (18 ≤ op ∧ op ≤ 21) = leadsB op := rfl
    rw [hb']
    cases hb : leadsB op with
    | false =>
      rw [if_neg (by decide), wi]
      exact ih (i + 1) (by omega) m30 l30 (by rw [hst, hpre]; simp [hb])
    | true =>
      rw [if_pos rfl]
      refine ⟨_, cell_of h30 1, via h63 ⟨_, _, _, rfl, _, rfl, ?_⟩⟩
      rw [hw, hcn]
      by_cases c3 : 0 ≤ a ∧ a ≤ (lc.length : Int) - 1
      · rw [if_neg (by rw [decide_eq_true c3]; decide), wi, ← hcn]
        exact ih (i + 1) (by omega) m30 l30 (by rw [hst, hpre]; simp [hb]; omega)
      · rw [if_pos (by rw [decide_eq_false c3]; decide)]
        exact fin _ (hbad (by simp only [hb, decide_eq_false c3]; rfl)) m30 l30
end Go.Proofs.Ytcbjdodehjpddaa.Abs
