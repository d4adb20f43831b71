/- Modules: made smaller: the law. -/
import Derived.Test.YtcbjdodehjpddaaPh
namespace Go.Proofs.Ytcbjdodehjpddaa.Abs
open Go.RowKit
set_option linter.unusedVariables false
set_option linter.unusedSimpArgs false
set_option linter.unusedSectionVars false
set_option maxRecDepth 20000
set_option maxHeartbeats 800000

def s9 : Spec := fun args m Q => ∃ (h : dMo.H) (x : Mo), args = [vM h] ∧ dMo.At m h x ∧ bgM x ∧ (∀ M, Mem.le m M → Q (.bool true) M)
theorem f9 (t : Tab) (h33 : look t 33 = s33) (h35 : look t 35 = s35) (h37 : look t 37 = s37) (h38 : look t 38 = s38) (h39 : look t 39 = s39) (h40 : look t 40 = s40) (h41 : look t 41 = s41) : ∀ args m Q, s9 args m Q → FA Try.prog (look t) kp9 Try.f9 args m Q := by
  rintro args m Q ⟨⟨⟨ua, un, uc⟩, ⟨ue, um, ud⟩⟩, x, rfl, hA, hbg, h⟩
  show FA Try.prog (look t) kp9 Try.f9 [.agg #[.slice ua un uc, .slice ue um ud]] m Q
  rw [e9]
  refine newA_intro fun g1 m2 hg1 e2 hb1 hle2 => ?_
  have hA := dMo.at_le hle2 hA
  have h : ∀ M, Mem.le m2 M → Q (.bool true) M := fun M hM => h M (Mem.le_trans hle2 hM)
  clear e2 hle2
  refine ⟨_, _, _, cell_of hb1 0, _, _, _, cell_of hb1 1, via h33 ⟨⟨⟨ua, un, uc⟩, ⟨ue, um, ud⟩⟩, x, _, rfl, hA, hbg, by omega, by omega, fun r hr => ⟨_, rfl, ?_⟩⟩⟩
  by_cases hz : r < 0
  · rw [if_pos (by simpa using hz)]; exact ret_intro (Mem.le_refl _) (h _ (Mem.le_refl _))
  rw [if_neg (by simpa using hz)]
  have hok : okM x := by rcases hr with hr | ⟨_, _, hr⟩; exact absurd hr hz; exact hr
  have hokR : okM (smallM x) := smallM_ok hok
  refine ⟨_, _, _, cell_of hb1 0, _, _, _, cell_of hb1 1, via h35 ⟨⟨⟨ua, un, uc⟩, ⟨ue, um, ud⟩⟩, x, rfl, dMo.at_le (Mem.le_refl _) hA, hok, fun (k1 : dMo.H) D1 M1 le1 fr1 nd1 o1 => ?_⟩⟩
  obtain ⟨⟨ba, bn, bc⟩, ⟨be, bm, bd⟩⟩ := k1
  refine ⟨_, _, _, _, _, _, rfl, via h40 ⟨⟨⟨ba, bn, bc⟩, ⟨be, bm, bd⟩⟩, x, rfl, dMo.own_at o1, hok, hbg, fun (k2 : dMo.H) D2 M2 le2 fr2 nd2 o2 => ?_⟩⟩
  obtain ⟨⟨ca, cn, cc⟩, ⟨ce, cm, cd⟩⟩ := k2
  refine ⟨_, _, _, _, _, _, _, rfl, newA_intro fun gw mgw hgw egw bgw lgw => ?_⟩
  refine sto (c := #[.slice none 0 0, .slice none 0 0]) (t := 55) bgw rfl (by simp) fun M3 fgw qgw ngw => ?_
  have qgw : M3 gw = some (.cells #[.slice ca cn cc, .slice ce cm cd] 55 (0, 0)) := qgw
  have lgw : Mem.le M2 M3 := by rw [fgw, egw, upd_upd]; exact le_upd hgw
  clear fgw egw bgw ngw
  have L3 : Mem.le m2 M3 := (Mem.le_trans (Mem.le_trans le1 le2) lgw)
  have c3 := L3 _ _ hb1
  refine ⟨_, _, _, cell_of c3 0, _, _, _, cell_of c3 1, via h35 ⟨⟨⟨ua, un, uc⟩, ⟨ue, um, ud⟩⟩, x, rfl, dMo.at_le L3 hA, hok, fun (k4 : dMo.H) D4 M4 le4 fr4 nd4 o4 => ?_⟩⟩
  obtain ⟨⟨da, dn, dc⟩, ⟨de, dm, dd⟩⟩ := k4
  refine ⟨_, _, _, _, _, _, rfl, newA_intro fun gx mgx hgx egx bgx lgx => ?_⟩
  refine sto (c := #[.slice none 0 0, .slice none 0 0]) (t := 55) bgx rfl (by simp) fun M5 fgx qgx ngx => ?_
  have qgx : M5 gx = some (.cells #[.slice da dn dc, .slice de dm dd] 55 (0, 0)) := qgx
  have lgx : Mem.le M4 M5 := by rw [fgx, egx, upd_upd]; exact le_upd hgx
  clear fgx egx bgx ngx
  have L5 : Mem.le M3 M5 := Mem.le_trans le4 lgx
  refine ⟨_, _, _, cell_of qgx 0, _, _, _, cell_of qgx 1, via h41 ⟨⟨⟨da, dn, dc⟩, ⟨de, dm, dd⟩⟩, x, rfl, dMo.own_at (dMo.own_le lgx o4), hok, hbg, fun (k6 : dMo.H) D6 M6 le6 fr6 nd6 o6 => ?_⟩⟩
  obtain ⟨⟨ea, en, ec⟩, ⟨ee, em, ed⟩⟩ := k6
  refine ⟨_, _, _, _, _, _, _, rfl, newA_intro fun gg mgg hgg egg bgg lgg => ?_⟩
  refine sto (c := #[.slice none 0 0, .slice none 0 0]) (t := 55) bgg rfl (by simp) fun M7 fgg qgg ngg => ?_
  have qgg : M7 gg = some (.cells #[.slice ea en ec, .slice ee em ed] 55 (0, 0)) := qgg
  have lgg : Mem.le M6 M7 := by rw [fgg, egg, upd_upd]; exact le_upd hgg
  clear fgg egg bgg ngg
  have L7 : Mem.le M5 M7 := Mem.le_trans le6 lgg
  have w7 := dMo.own_le (Mem.le_trans L5 L7) (dMo.own_le lgw o2)
  have x7 := dMo.own_le (Mem.le_trans lgx L7) o4
  have g7 := dMo.own_le lgg o6
  have bw7 := L7 _ _ (L5 _ _ qgw)
  have bx7 := L7 _ _ qgx
  have a7 := L7 _ _ (L5 _ _ c3)
  refine ⟨_, _, _, cell_of qgg 0, _, _, _, cell_of qgg 1, _, _, _, cell_of bw7 0, _, _, _, cell_of bw7 1, via h37 ⟨⟨⟨ea, en, ec⟩, ⟨ee, em, ed⟩⟩, (smallM x), ⟨⟨ca, cn, cc⟩, ⟨ce, cm, cd⟩⟩, (smallM x), rfl, dMo.own_at g7, dMo.own_at w7, hokR, ?_⟩⟩
  refine ⟨_, rfl, ?_⟩
  rw [if_neg (by simp)]
  rw [if_neg (by simp)]
  refine ⟨Mem.le M7, Mem.le_refl _, _, _, _, held (cell_of bx7 0), _, _, _, held (cell_of bx7 1), _, _, _, held (cell_of a7 0), _, _, _, held (cell_of a7 1), via h35 ⟨⟨⟨ua, un, uc⟩, ⟨ue, um, ud⟩⟩, x, rfl, dMo.at_le (Mem.le_trans L3 (Mem.le_trans L5 L7)) hA, hok, fun (k8 : dMo.H) D8 M8 le8 fr8 nd8 o8 => ?_⟩⟩
  obtain ⟨⟨fa, fn, fc⟩, ⟨fe, fm, fd⟩⟩ := k8
  refine ⟨_, _, _, _, _, _, rfl, le8, via h37 ⟨⟨⟨da, dn, dc⟩, ⟨de, dm, dd⟩⟩, x, ⟨⟨fa, fn, fc⟩, ⟨fe, fm, fd⟩⟩, x, rfl, dMo.own_at (dMo.own_le le8 x7), dMo.own_at o8, hok, ?_⟩⟩
  refine ⟨_, rfl, le8, ?_⟩
  rw [if_neg (by simp)]
  have bx8 := le8 _ _ bx7
  have a8 := le8 _ _ a7
  have bw8 := le8 _ _ bw7
  have bg8 := le8 _ _ qgg
  have w8 := dMo.own_le le8 w7
  have g8 := dMo.own_le le8 g7
  have x8 := dMo.own_le le8 x7
  have dis : ∀ {α β : Type} {d : Ds α} {e : Ds β} {h : d.H} {x : α} {h' : e.H} {y : β} {M M' : Mem} {D E : List Nat}, d.Own M h x D → Mem.le M M' → (∀ b ∈ E, M' b = none) → ∀ b ∈ D, b ∉ E := fun o l f b hb hb' => by obtain ⟨ob, ho⟩ := Ds.live _ o b hb; have := l _ _ ho; rw [f b hb'] at this; cases this
  have dbl : ∀ {M M' : Mem} {g : Nat} {ob : Obj} {E : List Nat}, M g = some ob → Mem.le M M' → (∀ b ∈ E, M' b = none) → g ∉ E := fun o l f hb => by have := l _ _ o; rw [f _ hb] at this; cases this
  have dwx : ∀ b ∈ D2, b ∉ D4 := fun b hb hb' => by obtain ⟨ob, ho⟩ := dMo.live o2 b hb; have := lgw _ _ ho; rw [fr4 b hb'] at this; cases this
  have dwg : ∀ b ∈ D2, b ∉ D6 := fun b hb hb' => by obtain ⟨ob, ho⟩ := dMo.live o2 b hb; have := L5 _ _ (lgw _ _ ho); rw [fr6 b hb'] at this; cases this
  have dxg : ∀ b ∈ D4, b ∉ D6 := fun b hb hb' => by obtain ⟨ob, ho⟩ := dMo.live o4 b hb; have := lgx _ _ ho; rw [fr6 b hb'] at this; cases this
  have n1x : g1 ∉ D4 := dbl c3 (Mem.le_refl _) fr4
  have n1g : g1 ∉ D6 := dbl c3 L5 fr6
  have nxx : gx ∉ D4 := fun hb => by obtain ⟨ob, ho⟩ := dMo.live o4 _ hb; rw [hgx] at ho; cases ho
  have nxg : gx ∉ D6 := dbl qgx (Mem.le_refl _) fr6
  have nwx : gw ∉ D4 := dbl qgw (Mem.le_refl _) fr4
  have nwg : gw ∉ D6 := dbl qgw L5 fr6
  have ngx : gg ∉ D4 := fun hb => by obtain ⟨ob, ho⟩ := dMo.live o4 _ hb; have := le6 _ _ (lgx _ _ ho); rw [hgg] at this; cases this
  have ngg : gg ∉ D6 := fun hb => by obtain ⟨ob, ho⟩ := dMo.live o6 _ hb; rw [hgg] at ho; cases ho
  refine ⟨_, _, _, cell_of bx8 0, _, _, _, cell_of bx8 1, via h38 ⟨⟨⟨da, dn, dc⟩, ⟨de, dm, dd⟩⟩, x, D4, 1, rfl, x8, nd4, hok, by omega, by omega, fun M9 off9 o9 => ⟨_, rfl, ?_⟩⟩⟩
  rw [if_neg (by simp; omega)]
  have w9 := dMo.own_ext w8 fun b hb => off9 b (dwx b hb)
  have g9 := dMo.own_ext g8 fun b hb => off9 b (fun h' => dxg b h' hb)
  have a9 : M9 g1 = _ := (off9 _ n1x).trans a8
  have bx9 : M9 gx = _ := (off9 _ nxx).trans bx8
  have bw9 : M9 gw = _ := (off9 _ nwx).trans bw8
  have bg9 : M9 gg = _ := (off9 _ ngx).trans bg8
  refine ⟨_, _, _, cell_of bg9 0, _, _, _, cell_of bg9 1, _, _, _, cell_of bw9 0, _, _, _, cell_of bw9 1, via h37 ⟨⟨⟨ea, en, ec⟩, ⟨ee, em, ed⟩⟩, (smallM x), ⟨⟨ca, cn, cc⟩, ⟨ce, cm, cd⟩⟩, (smallM x), rfl, dMo.own_at g9, dMo.own_at w9, hokR, ?_⟩⟩
  refine ⟨_, rfl, ?_⟩
  rw [if_neg (by simp)]
  rw [if_neg (by simp)]
  refine ⟨_, _, _, cell_of bg9 0, _, _, _, cell_of bg9 1, via h38 ⟨⟨⟨ea, en, ec⟩, ⟨ee, em, ed⟩⟩, (smallM x), D6, 1, rfl, g9, nd6, hokR, by omega, by omega, fun Ma offa oa => ⟨_, rfl, ?_⟩⟩⟩
  have wa := dMo.own_ext w9 fun b hb => offa b (dwg b hb)
  have aa : Ma g1 = _ := (offa _ n1g).trans a9
  have bwa : Ma gw = _ := (offa _ nwg).trans bw9
  have bga : Ma gg = _ := (offa _ ngg).trans bg9
  refine ⟨_, _, _, cell_of bga 0, _, _, _, cell_of bga 1, via h39 ⟨⟨⟨ea, en, ec⟩, ⟨ee, em, ed⟩⟩, (smallM x), 1, rfl, dMo.own_at oa, hokR, by omega, by omega, ⟨_, rfl, ?_⟩⟩⟩
  rw [if_neg (by simp; omega), if_neg (by simp)]
  have La : Mem.le m2 Ma := fun b o ho => by
    have hb4 : b ∉ D4 := fun hb => by have := L3 _ _ ho; rw [fr4 b hb] at this; cases this
    have hb6 : b ∉ D6 := fun hb => by have := L5 _ _ (L3 _ _ ho); rw [fr6 b hb] at this; cases this
    rw [offa b hb6, off9 b hb4]
    exact le8 _ _ (L7 _ _ (L5 _ _ (L3 _ _ ho)))
  refine ⟨_, _, _, cell_of aa 0, _, _, _, cell_of aa 1, via h35 ⟨⟨⟨ua, un, uc⟩, ⟨ue, um, ud⟩⟩, x, rfl, dMo.at_le La hA, hok, fun (kb : dMo.H) Db Mb leb frb ndb ob => ?_⟩⟩
  obtain ⟨⟨ya, yn, yc⟩, ⟨ye, ym, yd⟩⟩ := kb
  refine ⟨_, _, _, _, _, _, rfl, via h41 ⟨⟨⟨ya, yn, yc⟩, ⟨ye, ym, yd⟩⟩, x, rfl, dMo.own_at ob, hok, hbg, fun (kc : dMo.H) Dc Mc lec frc ndc oc => ?_⟩⟩
  obtain ⟨⟨za, zn, zc⟩, ⟨ze, zm, zd⟩⟩ := kc
  refine ⟨_, _, _, _, _, _, _, rfl, newA_intro fun gh mgh hgh egh bgh lgh => ?_⟩
  refine sto (c := #[.slice none 0 0, .slice none 0 0]) (t := 55) bgh rfl (by simp) fun Md fgh qgh ngh => ?_
  have qgh : Md gh = some (.cells #[.slice za zn zc, .slice ze zm zd] 55 (0, 0)) := qgh
  have lgh : Mem.le Mc Md := by rw [fgh, egh, upd_upd]; exact le_upd hgh
  clear fgh egh bgh ngh
  have Ld : Mem.le Ma Md := Mem.le_trans (Mem.le_trans leb lec) lgh
  have bwd := Ld _ _ bwa
  have bgd := Ld _ _ bga
  refine ⟨_, _, _, cell_of qgh 0, _, _, _, cell_of qgh 1, _, _, _, cell_of bwd 0, _, _, _, cell_of bwd 1, via h37 ⟨⟨⟨za, zn, zc⟩, ⟨ze, zm, zd⟩⟩, (smallM x), ⟨⟨ca, cn, cc⟩, ⟨ce, cm, cd⟩⟩, (smallM x), rfl, dMo.own_at (dMo.own_le lgh oc), dMo.own_at (dMo.own_le Ld wa), hokR, ?_⟩⟩
  refine ⟨_, rfl, ?_⟩
  rw [if_neg (by simp)]
  rw [if_neg (by simp)]
  refine ⟨_, _, _, cell_of bgd 0, _, _, _, cell_of bgd 1, via h39 ⟨⟨⟨ea, en, ec⟩, ⟨ee, em, ed⟩⟩, (smallM x), 1, rfl, dMo.own_at (dMo.own_le Ld oa), hokR, by omega, by omega, ⟨_, rfl, ?_⟩⟩⟩
  rw [if_neg (by simp; omega), if_neg (by simp)]
  exact ret_intro (Mem.le_refl _) (h _ (Mem.le_trans La Ld))
end Go.Proofs.Ytcbjdodehjpddaa.Abs
