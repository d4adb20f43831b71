/- Modules: the contracts of the functions that copy texts and modules, and that compare them. -/
import Derived.Test.YtcbjdodehjpddaaMo
namespace Go.Proofs.Ytcbjdodehjpddaa.Abs
open Go.RowKit
set_option linter.unusedVariables false
set_option linter.unusedSimpArgs false
set_option maxRecDepth 20000

def s75 : Spec := toS dTx vs vs okR
theorem f75 (t : Tab) : ∀ args m Q, s75 args m Q → FA Try.prog (look t) kp75 Try.f75 args m Q := by
  rintro args m Q ⟨⟨a, n, c⟩, l, rfl, ⟨hn, hrd⟩, hok, h⟩
  have hn : n = l.length := hn
  have hrd : Rd m a l := hrd
  have hok : l.length ≤ 2 ^ 20 := hok
  show FA Try.prog (look t) kp75 Try.f75 [.slice a n c] m Q
  rw [e75]
  refine ⟨by omega, by omega, by omega, by omega, ?_⟩
  refine newA_intro fun g1 m2 hg1 e2 hb2 hle2 => ?_
  simp only [Int.toNat_natCast] at *
  have hz : zeroRow #[.string ByteArray.empty] (n * 1) = (flat Enc.e (List.replicate n ByteArray.empty)).toArray := zeroRow_eq ByteArray.empty n
  rw [hz] at hb2
  suffices key : ∀ d i, i + d = n → ∀ (M : Mem), M g1 = some (.cells (flat Enc.e (l.take i ++ List.replicate (n - i) ByteArray.empty)).toArray 9 (0, 0)) → Mem.le m M → L75_3 (look t) (d + 1) Q a n c (some ⟨g1, 0, none⟩) n n (i : Int) M from
    ⟨n + 1, key n 0 (by omega) m2 (by simpa using hb2) hle2⟩
  intro d
  induction d with
  | zero =>
    intro i hi M hg hle
    rw [l75_3]
    refine ⟨M, Mem.le_refl _, ?_⟩
    rw [if_neg (by simp; omega)]
    have ei : n - i = 0 := by omega
    rw [ei, List.replicate_zero, List.append_nil, List.take_of_length_le (by omega)] at hg
    exact ret_intro (Mem.le_refl _) (h ⟨some ⟨g1, 0, none⟩, n, n⟩ [g1] M hle (by simp [hg1]) (by simp) (ownL_new hn.symm hg))
  | succ d ih =>
    intro i hi M hg hle
    rw [l75_3]
    refine ⟨M, Mem.le_refl _, ?_⟩
    rw [if_pos (by simp; omega)]
    have hil : i < l.length := by omega
    refine idx' (hrd.le hle) hn.symm (by omega) (by omega) fun ad had hd => ?_
    simp only [Int.toNat_natCast] at hd ⊢
    refine ⟨_, hd 0 _ rfl, by omega, by omega, ?_⟩
    refine sto_elem (α := ByteArray) (spare := []) (l := l.take i ++ List.replicate (n - i) ByteArray.empty) (i := i) (x := l[i]) (by rw [List.append_nil]; exact hg) (by rw [add_eq rfl, Nat.zero_add]; rfl) (by simp; omega) ?_
    rw [wsucc (n := n) (by omega) (by omega)]
    refine ih (i + 1) (by omega) _ ?_ (le_upd_fresh hle hg1)
    rw [upd_same, List.append_nil, List.set_append_right _ _ (by simp; omega), List.length_take, Nat.min_eq_left (by omega), Nat.sub_self, show n - i = (n - (i + 1)) + 1 by omega, List.replicate_succ, List.set_cons_zero, List.take_succ_eq_append_getElem hil, List.append_assoc]
    rfl

def s35 : Spec := toS dMo vM vM okM
theorem f35 (t : Tab) (h74 : look t 74 = s74) (h75 : look t 75 = s75) : ∀ args m Q, s35 args m Q → FA Try.prog (look t) kp35 Try.f35 args m Q := by
  rintro args m Q ⟨⟨⟨pa, pn, pc⟩, ⟨ta, tn, tc⟩⟩, ⟨ps, ts⟩, rfl, ⟨hps, hts⟩, ⟨hok1, hok2⟩, h⟩
  show FA Try.prog (look t) kp35 Try.f35 [.agg #[.slice pa pn pc, .slice ta tn tc]] m Q
  rw [e35]
  refine newA_intro fun g1 m2 hg1 e2 hb1 hle2 => newA_intro fun g3 m4 hg3 e4 hb3 hle4 => newA_intro fun g5 m6 hg5 e6 hb5 hle6 => ?_
  have l6 := Mem.le_trans hle2 (Mem.le_trans hle4 hle6)
  refine ⟨_, _, _, cell_of (hle6 _ _ (hle4 _ _ hb1)) 0, via h74 ⟨⟨pa, pn, pc⟩, ps, rfl, dPrs.at_le l6 hps, hok1, fun (hp : Sl) Dp m12 hle12 hfr12 hnd12 how12 => ?_⟩⟩
  obtain ⟨pa', pn', pc'⟩ := hp
  refine ⟨_, _, _, rfl, ?_⟩
  refine sto (c := #[.slice none 0 0, .slice none 0 0]) (t := 55) (hle12 _ _ hb5) rfl (by simp) fun m16 e16 h16 hne16 => ?_
  have h16 : m16 g5 = some (.cells #[.slice pa' pn' pc', .slice none 0 0] 55 (0, 0)) := h16
  have n35 : g3 ≠ g5 := ne_of_none hg5 hb3
  have n15 : g1 ≠ g5 := ne_of_none hg5 (hle4 _ _ hb1)
  have n13 : g1 ≠ g3 := ne_of_none hg3 hb1
  have b1_16 : m16 g1 = some (.cells #[.slice pa pn pc, .slice ta tn tc] 51 (0, 0)) := by rw [hne16 _ n15]; exact hle12 _ _ (hle6 _ _ (hle4 _ _ hb1))
  have b3_16 : m16 g3 = some (.cells #[.slice none 0 0, .slice none 0 0] 55 (0, 0)) := by rw [hne16 _ n35]; exact hle12 _ _ (hle6 _ _ hb3)
  have m5n : m g5 = none := le_none (Mem.le_trans hle2 hle4) hg5
  have m3n : m g3 = none := le_none hle2 hg3
  have l16 : Mem.le m m16 := le_other (Mem.le_trans l6 hle12) m5n hne16
  have o16 : dPrs.Own m16 (⟨pa', pn', pc'⟩ : Sl) ps Dp := dPrs.own_ext how12 fun b hb => hne16 b (by rintro rfl; have := hfr12 _ hb; rw [hb5] at this; cases this)
  refine ⟨_, _, _, cell_of b1_16 1, via h75 ⟨⟨ta, tn, tc⟩, ts, rfl, dTx.at_le l16 hts, hok2, fun (ht : Sl) Dt m22 hle22 hfr22 hnd22 how22 => ?_⟩⟩
  obtain ⟨ta', tn', tc'⟩ := ht
  refine ⟨_, _, _, rfl, ?_⟩
  refine sto (c := #[.slice pa' pn' pc', .slice none 0 0]) (t := 55) (k := 1) (hle22 _ _ h16) rfl (by simp) fun m26 e26 h26 hne26 => ?_
  have h26 : m26 g5 = some (.cells #[.slice pa' pn' pc', .slice ta' tn' tc'] 55 (0, 0)) := h26
  refine ⟨_, _, _, cell_of h26 0, _, _, _, cell_of h26 1, ?_⟩
  have b3_26 : m26 g3 = some (.cells #[.slice none 0 0, .slice none 0 0] 55 (0, 0)) := by rw [hne26 _ n35]; exact hle22 _ _ b3_16
  refine sto (c := #[.slice none 0 0, .slice none 0 0]) (t := 55) b3_26 rfl (by simp) fun m35 e35 h35 hne35 => ?_
  have h35 : m35 g3 = some (.cells #[.slice pa' pn' pc', .slice ta' tn' tc'] 55 (0, 0)) := h35
  refine ⟨_, _, _, cell_of h35 0, _, _, _, cell_of h35 1, ?_⟩
  have l35 : Mem.le m m35 := le_other (le_other (Mem.le_trans l16 hle22) m5n hne26) m3n hne35
  have fp : ∀ b ∈ Dp, m b = none := fun b hb => le_none l6 (hfr12 b hb)
  have ft : ∀ b ∈ Dt, m b = none := fun b hb => le_none l16 (hfr22 b hb)
  have np : ∀ b ∈ Dp, b ≠ g5 ∧ b ≠ g3 := by
    intro b hb
    have := hfr12 _ hb
    exact ⟨(by rintro rfl; rw [hb5] at this; cases this), (by rintro rfl; rw [hle6 _ _ hb3] at this; cases this)⟩
  have nt : ∀ b ∈ Dt, b ≠ g5 ∧ b ≠ g3 := by
    intro b hb
    have := hfr22 _ hb
    exact ⟨(by rintro rfl; rw [h16] at this; cases this), (by rintro rfl; rw [b3_16] at this; cases this)⟩
  refine ret_intro (Mem.le_refl _) (h (⟨pa', pn', pc'⟩, ⟨ta', tn', tc'⟩) (Dp ++ Dt) m35 l35 ?_ ?_ ⟨Dp, Dt, rfl, ?_, ?_⟩)
  · intro b hb
    rcases List.mem_append.1 hb with hb | hb
    · exact fp b hb
    · exact ft b hb
  · refine List.nodup_append.2 ⟨hnd12, hnd22, fun b hb b' hb' e => ?_⟩
    subst e
    obtain ⟨o, ho⟩ := dPrs.live o16 b hb
    rw [hfr22 b hb'] at ho
    cases ho
  · exact dPrs.own_ext (dPrs.own_le hle22 o16) fun b hb => by rw [hne35 b (np b hb).2, hne26 b (np b hb).1]
  · exact dTx.own_ext how22 fun b hb => by rw [hne35 b (nt b hb).2, hne26 b (nt b hb).1]
end Go.Proofs.Ytcbjdodehjpddaa.Abs
