/- Modules: the contracts of the reference's copy of a proto. -/
import Derived.Test.YtcbjdodehjpddaaNa
namespace Go.Proofs.Ytcbjdodehjpddaa.Abs
open Go.RowKit
set_option linter.unusedVariables false
set_option linter.unusedSimpArgs false
set_option maxRecDepth 20000

def s46 : Spec := toS dPr vP vP okP
theorem f46 (t : Tab) : ∀ args m Q, s46 args m Q → FA Try.prog (look t) kp46 Try.f46 args m Q := by
  rintro args m Q ⟨(⟨p, s, ⟨ua, un, uc⟩, ⟨ca, cn, cc⟩⟩ : PH), ⟨p0, s0, lu, lc⟩, rfl, ⟨hp, hs, hu, hc⟩, ⟨hok1, hok2⟩, h⟩
  have hp : p = p0 := hp
  have hs : s = s0 := hs
  subst hp hs
  have hun : un = lu.length := hu.1
  have hcn : cn = lc.length := hc.1
  have hok1 : lu.length ≤ 2 ^ 20 := hok1
  have hok2 : lc.length ≤ 2 ^ 20 := hok2
  show FA Try.prog (look t) kp46 Try.f46 [.agg #[.int .i64 p, .int .i64 s, .slice ua un uc, .slice ca cn cc]] m Q
  rw [e46]
  refine newA_intro fun g1 m2 hg1 e2 hb1 hle2 => newA_intro fun g3 m4 hg3 e4 hb3 hle4 => ?_
  have b1 := hle4 _ _ hb1
  have n13 : g1 ≠ g3 := ne_of_none hg3 hb1
  have l4 := Mem.le_trans hle2 hle4
  have m3n := le_none hle2 hg3
  refine newA_intro fun g5 m6 hg5 e6 hb5 hle6 => ?_
  have b1_6 := hle6 _ _ b1
  have b3_6 := hle6 _ _ hb3
  have l6 := Mem.le_trans l4 hle6
  refine ⟨_, _, _, cell_of b1_6 2, ?_⟩
  refine app_sl (α := Up) (s := ⟨some ⟨g5, 0, none⟩, 0, 0⟩) (l := []) (l2 := lu) (D := [g5]) rfl rfl (by decide) (by decide) (by decide) (ownL_empty hb5) hun.symm ((hu.2 : Rd m ua lu).le l6) (by simp; omega) fun su Du m11 hsu hou hoff hfr hnd => ?_
  have fru : ∀ b ∈ Du, m4 b = none := by
    rcases hfr with e | hfr
    · rw [e]; simpa using hg5
    · exact fun b hb => le_none hle6 (hfr b hb)
  have nu1 : g1 ∉ Du := fun hb => by have := fru _ hb; rw [b1] at this; cases this
  have nu3 : g3 ∉ Du := fun hb => by have := fru _ hb; rw [hb3] at this; cases this
  refine sto (c := #[.int .i64 p, .int .i64 s, .slice ua un uc, .slice ca cn cc]) (t := 38) (by rw [hoff _ nu1]; exact b1_6) rfl (by simp) fun m12 e12 h12 hne12 => ?_
  have h12 : m12 g1 = some (.cells #[.int .i64 p, .int .i64 s, .slice su.a (0 + un) su.c, .slice ca cn cc] 38 (0, 0)) := h12
  have l11 : Mem.le m m11 := le_off l6 (fun b hb => le_none l4 (fru b hb)) hoff
  have l12 : Mem.le m m12 := le_other l11 hg1 hne12
  have ou12 : OwnL m12 su ([] ++ lu) Du := hou.ext fun b hb => hne12 b (by rintro rfl; exact nu1 hb)
  refine newA_intro fun g15 m16 hg15 e16 hb15 hle16 => ?_
  have h16 := hle16 _ _ h12
  have l16 := Mem.le_trans l12 hle16
  refine ⟨_, _, _, cell_of h16 3, ?_⟩
  refine app_sl (α := Ins) (s := ⟨some ⟨g15, 0, none⟩, 0, 0⟩) (l := []) (l2 := lc) (D := [g15]) rfl rfl (by decide) (by decide) (by decide) (ownL_empty hb15) hcn.symm ((hc.2 : Rd m ca lc).le l16) (by simp; omega) fun sc Dc m19 hsc hoc hoff2 hfr2 hnd2 => ?_
  have frc : ∀ b ∈ Dc, m12 b = none := by
    rcases hfr2 with e | hfr
    · rw [e]; simpa using hg15
    · exact fun b hb => le_none hle16 (hfr b hb)
  have ou16 : OwnL m16 su ([] ++ lu) Du := ou12.ext fun b hb => by
    obtain ⟨o, ho⟩ := ou12.live b hb
    rw [ho]
    exact hle16 _ _ ho
  have nc1 : g1 ∉ Dc := fun hb => by have := frc _ hb; rw [h12] at this; cases this
  have b3_12 : m12 g3 = some (.cells #[.int .i64 0, .int .i64 0, .slice none 0 0, .slice none 0 0] 38 (0, 0)) := by rw [hne12 _ (Ne.symm n13), hoff _ nu3]; exact b3_6
  have nc3 : g3 ∉ Dc := fun hb => by have := frc _ hb; rw [b3_12] at this; cases this
  refine sto (c := #[.int .i64 p, .int .i64 s, .slice su.a (0 + un) su.c, .slice ca cn cc]) (t := 38) (by rw [hoff2 _ nc1]; exact h16) rfl (by simp) fun m20 e20 h20 hne20 => ?_
  have h20 : m20 g1 = some (.cells #[.int .i64 p, .int .i64 s, .slice su.a (0 + un) su.c, .slice sc.a (0 + cn) sc.c] 38 (0, 0)) := h20
  refine ⟨_, cell_of h20 0, _, cell_of h20 1, _, _, _, cell_of h20 2, _, _, _, cell_of h20 3, ?_⟩
  refine sto (c := #[.int .i64 0, .int .i64 0, .slice none 0 0, .slice none 0 0]) (t := 38) (by rw [hne20 _ (Ne.symm n13), hoff2 _ nc3]; exact hle16 _ _ b3_12) rfl (by simp) fun m33 e33 h33 hne33 => ?_
  have h33 : m33 g3 = some (.cells #[.int .i64 p, .int .i64 s, .slice su.a (0 + un) su.c, .slice sc.a (0 + cn) sc.c] 38 (0, 0)) := h33
  refine ⟨_, cell_of h33 0, _, cell_of h33 1, _, _, _, cell_of h33 2, _, _, _, cell_of h33 3, ?_⟩
  have l19 : Mem.le m m19 := le_off l16 (fun b hb => le_none l12 (frc b hb)) hoff2
  have l33 : Mem.le m m33 := le_other (le_other l19 hg1 hne20) m3n hne33
  have dis : ∀ b ∈ Du, b ∉ Dc := fun b hb hb' => by
    obtain ⟨o, ho⟩ := ou12.live b hb
    rw [frc b hb'] at ho
    cases ho
  have hsu : su.n = 0 + un := hsu
  have hsc : sc.n = 0 + cn := hsc
  have hq := h (p, s, su, sc) (Du ++ Dc) m33 l33 ?_ ?_ ⟨[], _, rfl, ⟨rfl, rfl⟩, [], _, rfl, ⟨rfl, rfl⟩, Du, Dc, rfl, ?_, ?_⟩
  · rw [← hsu, ← hsc]
    exact ret_intro (Mem.le_refl _) hq
  · intro b hb
    rcases List.mem_append.1 hb with hb | hb
    · exact le_none l4 (fru b hb)
    · exact le_none l12 (frc b hb)
  · exact List.nodup_append.2 ⟨hnd, hnd2, fun b hb b' hb' e => dis b hb (e ▸ hb')⟩
  · exact ou16.ext fun b hb => by rw [hne33 b (by rintro rfl; exact nu3 hb), hne20 b (by rintro rfl; exact nu1 hb), hoff2 b (dis b hb)]
  · exact hoc.ext fun b hb => by rw [hne33 b (by rintro rfl; exact nc3 hb), hne20 b (by rintro rfl; exact nc1 hb)]
end Go.Proofs.Ytcbjdodehjpddaa.Abs
