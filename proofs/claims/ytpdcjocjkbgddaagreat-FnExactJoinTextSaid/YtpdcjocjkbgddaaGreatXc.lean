/- The law FnExactJoinText: its function. -/
import Derived.Test.YtpdcjocjkbgddaaGreatXb
namespace Go.Proofs.YtpdcjocjkbgddaaGreat.Abs
open Go.RowKit
set_option linter.unusedVariables false
set_option linter.unusedSimpArgs false
set_option linter.unusedSectionVars false
set_option maxRecDepth 20000
set_option maxHeartbeats 2000000
def s4 : Spec := fun args m Q => ∃ (h : dAr.H) (x : ArT) (ri : Int) (si : Int) (fi : Int), args = [vAr h, .int .i64 ri, .int .i64 si, .int .i64 fi] ∧ dAr.At m h x ∧ bgAr x ∧ (∀ M, Mem.le m M → Q (.bool true) M)
theorem f4 (t : Tab) (h7 : look t 7 = s7) (h9 : look t 9 = s9) (h11 : look t 11 = s11) (h12 : look t 12 = s12) (h13 : look t 13 = s13) (h14 : look t 14 = s14') (h15 : look t 15 = s15') : ∀ args m Q, s4 args m Q → FA Tryz.prog (look t) kp4 Tryz.f4 args m Q := by
  rintro args m Q ⟨(⟨⟨uwa, uwn, uwc⟩, use, uto, utp, ucy, usc, uol, uco, usr, ⟨ura, urn, urc⟩⟩ : ArH), x, ri, si, fi, rfl, hA, hbg, h⟩
  show FA Tryz.prog (look t) kp4 Tryz.f4 [.agg #[.slice uwa uwn uwc, .int .i64 use, .int .i64 uto, .int .i64 utp, .bool ucy, .int .i64 usc, .int .i64 uol, .int .i64 uco, .int .i64 usr, .slice ura urn urc], .int .i64 ri, .int .i64 si, .int .i64 fi] m Q
  rw [e4]
  refine newA_intro fun g1 m2 hg1 e2 hb1 hle2 => ?_
  have hA := dAr.at_le hle2 hA
  have h : ∀ M, Mem.le m2 M → Q (.bool true) M := fun M hM => h M (Mem.le_trans hle2 hM)
  clear e2 hle2
  refine ⟨_, _, _, cell_of hb1 0, _, cell_of hb1 1, _, cell_of hb1 2, _, cell_of hb1 3, _, cell_of hb1 4, _, cell_of hb1 5, _, cell_of hb1 6, _, cell_of hb1 7, _, cell_of hb1 8, _, _, _, cell_of hb1 9, via h7 ⟨(⟨⟨uwa, uwn, uwc⟩, use, uto, utp, ucy, usc, uol, uco, usr, ⟨ura, urn, urc⟩⟩ : ArH), x, _, rfl, hA, hbg, by omega, by omega, fun r hr => ⟨_, rfl, ?_⟩⟩⟩
  by_cases hz : r < 0
  · rw [if_pos (by simpa using hz)]; exact ret_intro (Mem.le_refl _) (h _ (Mem.le_refl _))
  rw [if_neg (by simpa using hz)]
  have hok : okAr x := by rcases hr with hr | ⟨_, _, hr⟩; exact absurd hr hz; exact hr
  have hokR : okAr (jtM x ri si fi) := jtM_ok hok hbg.2.2
  refine ⟨_, _, _, cell_of hb1 0, _, cell_of hb1 1, _, cell_of hb1 2, _, cell_of hb1 3, _, cell_of hb1 4, _, cell_of hb1 5, _, cell_of hb1 6, _, cell_of hb1 7, _, cell_of hb1 8, _, _, _, cell_of hb1 9, via h9 ⟨(⟨⟨uwa, uwn, uwc⟩, use, uto, utp, ucy, usc, uol, uco, usr, ⟨ura, urn, urc⟩⟩ : ArH), x, rfl, dAr.at_le (Mem.le_refl _) hA, hok, fun (k1 : dAr.H) D1 M1 le1 fr1 nd1 o1 => ?_⟩⟩
  obtain (⟨⟨bwa, bwn, bwc⟩, bse, bto, btp, bcy, bsc, bol, bco, bsr, ⟨bra, brn, brc⟩⟩ : ArH) := k1
  refine ⟨_, _, _, _, _, _, _, _, _, _, _, _, _, _, rfl, via h14 ⟨(⟨⟨bwa, bwn, bwc⟩, bse, bto, btp, bcy, bsc, bol, bco, bsr, ⟨bra, brn, brc⟩⟩ : ArH), x, ri, si, fi, rfl, own_atC o1, hok, hbg, fun (k2 : dAr.H) D2 M2 le2 fr2 nd2 o2 => ?_⟩⟩
  obtain (⟨⟨cwa, cwn, cwc⟩, cse, cto, ctp, ccy, csc, col, cco, csr, ⟨cra, crn, crc⟩⟩ : ArH) := k2
  refine ⟨_, _, _, _, _, _, _, _, _, _, _, _, _, _, _, rfl, newA_intro fun gw mgw hgw egw bgw lgw => ?_⟩
  refine sto_ar bgw fun M3 fgw qgw ngw => ?_
  have qgw : M3 gw = some (.cells #[.slice cwa cwn cwc, .int .i64 cse, .int .i64 cto, .int .i64 ctp, .bool ccy, .int .i64 csc, .int .i64 col, .int .i64 cco, .int .i64 csr, .slice cra crn crc] 29 (0, 0)) := qgw
  have lgw : Mem.le M2 M3 := by rw [fgw, egw, upd_upd]; exact le_upd hgw
  clear fgw egw bgw ngw
  have L3 : Mem.le m2 M3 := (Mem.le_trans (Mem.le_trans le1 le2) lgw)
  have c3 := L3 _ _ hb1
  refine ⟨_, _, _, cell_of c3 0, _, cell_of c3 1, _, cell_of c3 2, _, cell_of c3 3, _, cell_of c3 4, _, cell_of c3 5, _, cell_of c3 6, _, cell_of c3 7, _, cell_of c3 8, _, _, _, cell_of c3 9, via h9 ⟨(⟨⟨uwa, uwn, uwc⟩, use, uto, utp, ucy, usc, uol, uco, usr, ⟨ura, urn, urc⟩⟩ : ArH), x, rfl, dAr.at_le L3 hA, hok, fun (k4 : dAr.H) D4 M4 le4 fr4 nd4 o4 => ?_⟩⟩
  obtain (⟨⟨dwa, dwn, dwc⟩, dse, dto, dtp, dcy, dsc, dol, dco, dsr, ⟨dra, drn, drc⟩⟩ : ArH) := k4
  refine ⟨_, _, _, _, _, _, _, _, _, _, _, _, _, _, rfl, newA_intro fun gx mgx hgx egx bgx lgx => ?_⟩
  refine sto_ar bgx fun M5 fgx qgx ngx => ?_
  have qgx : M5 gx = some (.cells #[.slice dwa dwn dwc, .int .i64 dse, .int .i64 dto, .int .i64 dtp, .bool dcy, .int .i64 dsc, .int .i64 dol, .int .i64 dco, .int .i64 dsr, .slice dra drn drc] 29 (0, 0)) := qgx
  have lgx : Mem.le M4 M5 := by rw [fgx, egx, upd_upd]; exact le_upd hgx
  clear fgx egx bgx ngx
  have L5 : Mem.le M3 M5 := Mem.le_trans le4 lgx
  refine ⟨_, _, _, cell_of qgx 0, _, cell_of qgx 1, _, cell_of qgx 2, _, cell_of qgx 3, _, cell_of qgx 4, _, cell_of qgx 5, _, cell_of qgx 6, _, cell_of qgx 7, _, cell_of qgx 8, _, _, _, cell_of qgx 9, via h15 ⟨(⟨⟨dwa, dwn, dwc⟩, dse, dto, dtp, dcy, dsc, dol, dco, dsr, ⟨dra, drn, drc⟩⟩ : ArH), x, ri, si, fi, rfl, own_atC (dAr.own_le lgx o4), hok, hbg, fun (k6 : dAr.H) D6 M6 le6 fr6 nd6 o6 => ?_⟩⟩
  obtain (⟨⟨ewa, ewn, ewc⟩, ese, eto, etp, ecy, esc, eol, eco, esr, ⟨era, ern, erc⟩⟩ : ArH) := k6
  refine ⟨_, _, _, _, _, _, _, _, _, _, _, _, _, _, _, rfl, newA_intro fun gg mgg hgg egg bgg lgg => ?_⟩
  refine sto_ar bgg fun M7 fgg qgg ngg => ?_
  have qgg : M7 gg = some (.cells #[.slice ewa ewn ewc, .int .i64 ese, .int .i64 eto, .int .i64 etp, .bool ecy, .int .i64 esc, .int .i64 eol, .int .i64 eco, .int .i64 esr, .slice era ern erc] 29 (0, 0)) := qgg
  have lgg : Mem.le M6 M7 := by rw [fgg, egg, upd_upd]; exact le_upd hgg
  clear fgg egg bgg ngg
  have L7 : Mem.le M5 M7 := Mem.le_trans le6 lgg
  have w7 := dAr.own_le (Mem.le_trans L5 L7) (dAr.own_le lgw o2)
  have x7 := dAr.own_le (Mem.le_trans lgx L7) o4
  have g7 := dAr.own_le lgg o6
  have bw7 := L7 _ _ (L5 _ _ qgw)
  have bx7 := L7 _ _ qgx
  have a7 := L7 _ _ (L5 _ _ c3)
  refine ⟨_, _, _, cell_of qgg 0, _, cell_of qgg 1, _, cell_of qgg 2, _, cell_of qgg 3, _, cell_of qgg 4, _, cell_of qgg 5, _, cell_of qgg 6, _, cell_of qgg 7, _, cell_of qgg 8, _, _, _, cell_of qgg 9, _, _, _, cell_of bw7 0, _, cell_of bw7 1, _, cell_of bw7 2, _, cell_of bw7 3, _, cell_of bw7 4, _, cell_of bw7 5, _, cell_of bw7 6, _, cell_of bw7 7, _, cell_of bw7 8, _, _, _, cell_of bw7 9, via h11 ⟨(⟨⟨ewa, ewn, ewc⟩, ese, eto, etp, ecy, esc, eol, eco, esr, ⟨era, ern, erc⟩⟩ : ArH), (jtM x ri si fi), (⟨⟨cwa, cwn, cwc⟩, cse, cto, ctp, ccy, csc, col, cco, csr, ⟨cra, crn, crc⟩⟩ : ArH), (jtM x ri si fi), rfl, dAr.own_at g7, dAr.own_at w7, hokR, ?_⟩⟩
  refine ⟨_, rfl, ?_⟩
  rw [if_neg (by simp)]
  rw [if_neg (by simp)]
  refine ⟨Mem.le M7, Mem.le_refl _, _, _, _, held (cell_of bx7 0), _, held (cell_of bx7 1), _, held (cell_of bx7 2), _, held (cell_of bx7 3), _, held (cell_of bx7 4), _, held (cell_of bx7 5), _, held (cell_of bx7 6), _, held (cell_of bx7 7), _, held (cell_of bx7 8), _, _, _, held (cell_of bx7 9), _, _, _, held (cell_of a7 0), _, held (cell_of a7 1), _, held (cell_of a7 2), _, held (cell_of a7 3), _, held (cell_of a7 4), _, held (cell_of a7 5), _, held (cell_of a7 6), _, held (cell_of a7 7), _, held (cell_of a7 8), _, _, _, held (cell_of a7 9), via h9 ⟨(⟨⟨uwa, uwn, uwc⟩, use, uto, utp, ucy, usc, uol, uco, usr, ⟨ura, urn, urc⟩⟩ : ArH), x, rfl, dAr.at_le (Mem.le_trans L3 (Mem.le_trans L5 L7)) hA, hok, fun (k8 : dAr.H) D8 M8 le8 fr8 nd8 o8 => ?_⟩⟩
  obtain (⟨⟨fwa, fwn, fwc⟩, fse, fto, ftp, fcy, fsc, fol, fco, fsr, ⟨fra, frn, frc⟩⟩ : ArH) := k8
  refine ⟨_, _, _, _, _, _, _, _, _, _, _, _, _, _, rfl, le8, via h11 ⟨(⟨⟨dwa, dwn, dwc⟩, dse, dto, dtp, dcy, dsc, dol, dco, dsr, ⟨dra, drn, drc⟩⟩ : ArH), x, (⟨⟨fwa, fwn, fwc⟩, fse, fto, ftp, fcy, fsc, fol, fco, fsr, ⟨fra, frn, frc⟩⟩ : ArH), x, rfl, dAr.own_at (dAr.own_le le8 x7), dAr.own_at o8, hok, ?_⟩⟩
  refine ⟨_, rfl, le8, ?_⟩
  rw [if_neg (by simp)]
  have bx8 := le8 _ _ bx7
  have a8 := le8 _ _ a7
  have bw8 := le8 _ _ bw7
  have bg8 := le8 _ _ qgg
  have w8 := dAr.own_le le8 w7
  have g8 := dAr.own_le le8 g7
  have x8 := dAr.own_le le8 x7
  have dis : ∀ {α β : Type} {d : Ds α} {e : Ds β} {h : d.H} {x : α} {h' : e.H} {y : β} {M M' : Mem} {D E : List Nat}, d.Own M h x D → Mem.le M M' → (∀ b ∈ E, M' b = none) → ∀ b ∈ D, b ∉ E := fun o l f b hb hb' => by obtain ⟨ob, ho⟩ := Ds.live _ o b hb; have := l _ _ ho; rw [f b hb'] at this; cases this
  have dbl : ∀ {M M' : Mem} {g : Nat} {ob : Obj} {E : List Nat}, M g = some ob → Mem.le M M' → (∀ b ∈ E, M' b = none) → g ∉ E := fun o l f hb => by have := l _ _ o; rw [f _ hb] at this; cases this
  have dwx : ∀ b ∈ D2, b ∉ D4 := fun b hb hb' => by obtain ⟨ob, ho⟩ := dAr.live o2 b hb; have := lgw _ _ ho; rw [fr4 b hb'] at this; cases this
  have dwg : ∀ b ∈ D2, b ∉ D6 := fun b hb hb' => by obtain ⟨ob, ho⟩ := dAr.live o2 b hb; have := L5 _ _ (lgw _ _ ho); rw [fr6 b hb'] at this; cases this
  have dxg : ∀ b ∈ D4, b ∉ D6 := fun b hb hb' => by obtain ⟨ob, ho⟩ := dAr.live o4 b hb; have := lgx _ _ ho; rw [fr6 b hb'] at this; cases this
  have n1x : g1 ∉ D4 := dbl c3 (Mem.le_refl _) fr4
  have n1g : g1 ∉ D6 := dbl c3 L5 fr6
  have nxx : gx ∉ D4 := fun hb => by obtain ⟨ob, ho⟩ := dAr.live o4 _ hb; rw [hgx] at ho; cases ho
  have nxg : gx ∉ D6 := dbl qgx (Mem.le_refl _) fr6
  have nwx : gw ∉ D4 := dbl qgw (Mem.le_refl _) fr4
  have nwg : gw ∉ D6 := dbl qgw L5 fr6
  have ngx : gg ∉ D4 := fun hb => by obtain ⟨ob, ho⟩ := dAr.live o4 _ hb; have := le6 _ _ (lgx _ _ ho); rw [hgg] at this; cases this
  have ngg : gg ∉ D6 := fun hb => by obtain ⟨ob, ho⟩ := dAr.live o6 _ hb; rw [hgg] at ho; cases ho
  refine ⟨_, _, _, cell_of bx8 0, _, cell_of bx8 1, _, cell_of bx8 2, _, cell_of bx8 3, _, cell_of bx8 4, _, cell_of bx8 5, _, cell_of bx8 6, _, cell_of bx8 7, _, cell_of bx8 8, _, _, _, cell_of bx8 9, via h12 ⟨(⟨⟨dwa, dwn, dwc⟩, dse, dto, dtp, dcy, dsc, dol, dco, dsr, ⟨dra, drn, drc⟩⟩ : ArH), x, D4, 1, rfl, x8, nd4, hok, by omega, by omega, fun M9 off9 o9 => ⟨_, rfl, ?_⟩⟩⟩
  rw [if_neg (by simp; omega)]
  have w9 := dAr.own_ext w8 fun b hb => off9 b (dwx b hb)
  have g9 := dAr.own_ext g8 fun b hb => off9 b (fun h' => dxg b h' hb)
  have a9 : M9 g1 = _ := (off9 _ n1x).trans a8
  have bx9 : M9 gx = _ := (off9 _ nxx).trans bx8
  have bw9 : M9 gw = _ := (off9 _ nwx).trans bw8
  have bg9 : M9 gg = _ := (off9 _ ngx).trans bg8
  refine ⟨_, _, _, cell_of bg9 0, _, cell_of bg9 1, _, cell_of bg9 2, _, cell_of bg9 3, _, cell_of bg9 4, _, cell_of bg9 5, _, cell_of bg9 6, _, cell_of bg9 7, _, cell_of bg9 8, _, _, _, cell_of bg9 9, _, _, _, cell_of bw9 0, _, cell_of bw9 1, _, cell_of bw9 2, _, cell_of bw9 3, _, cell_of bw9 4, _, cell_of bw9 5, _, cell_of bw9 6, _, cell_of bw9 7, _, cell_of bw9 8, _, _, _, cell_of bw9 9, via h11 ⟨(⟨⟨ewa, ewn, ewc⟩, ese, eto, etp, ecy, esc, eol, eco, esr, ⟨era, ern, erc⟩⟩ : ArH), (jtM x ri si fi), (⟨⟨cwa, cwn, cwc⟩, cse, cto, ctp, ccy, csc, col, cco, csr, ⟨cra, crn, crc⟩⟩ : ArH), (jtM x ri si fi), rfl, dAr.own_at g9, dAr.own_at w9, hokR, ?_⟩⟩
  refine ⟨_, rfl, ?_⟩
  rw [if_neg (by simp)]
  rw [if_neg (by simp)]
  refine ⟨_, _, _, cell_of bg9 0, _, cell_of bg9 1, _, cell_of bg9 2, _, cell_of bg9 3, _, cell_of bg9 4, _, cell_of bg9 5, _, cell_of bg9 6, _, cell_of bg9 7, _, cell_of bg9 8, _, _, _, cell_of bg9 9, via h12 ⟨(⟨⟨ewa, ewn, ewc⟩, ese, eto, etp, ecy, esc, eol, eco, esr, ⟨era, ern, erc⟩⟩ : ArH), (jtM x ri si fi), D6, 1, rfl, g9, nd6, hokR, by omega, by omega, fun Ma offa oa => ⟨_, rfl, ?_⟩⟩⟩
  have wa := dAr.own_ext w9 fun b hb => offa b (dwg b hb)
  have aa : Ma g1 = _ := (offa _ n1g).trans a9
  have bwa : Ma gw = _ := (offa _ nwg).trans bw9
  have bga : Ma gg = _ := (offa _ ngg).trans bg9
  refine ⟨_, _, _, cell_of bga 0, _, cell_of bga 1, _, cell_of bga 2, _, cell_of bga 3, _, cell_of bga 4, _, cell_of bga 5, _, cell_of bga 6, _, cell_of bga 7, _, cell_of bga 8, _, _, _, cell_of bga 9, via h13 ⟨(⟨⟨ewa, ewn, ewc⟩, ese, eto, etp, ecy, esc, eol, eco, esr, ⟨era, ern, erc⟩⟩ : ArH), (jtM x ri si fi), 1, rfl, dAr.own_at oa, hokR, by omega, by omega, ⟨_, rfl, ?_⟩⟩⟩
  rw [if_neg (by simp; omega), if_neg (by simp)]
  have La : Mem.le m2 Ma := fun b o ho => by
    have hb4 : b ∉ D4 := fun hb => by have := L3 _ _ ho; rw [fr4 b hb] at this; cases this
    have hb6 : b ∉ D6 := fun hb => by have := L5 _ _ (L3 _ _ ho); rw [fr6 b hb] at this; cases this
    rw [offa b hb6, off9 b hb4]
    exact le8 _ _ (L7 _ _ (L5 _ _ (L3 _ _ ho)))
  refine ⟨_, _, _, cell_of aa 0, _, cell_of aa 1, _, cell_of aa 2, _, cell_of aa 3, _, cell_of aa 4, _, cell_of aa 5, _, cell_of aa 6, _, cell_of aa 7, _, cell_of aa 8, _, _, _, cell_of aa 9, via h9 ⟨(⟨⟨uwa, uwn, uwc⟩, use, uto, utp, ucy, usc, uol, uco, usr, ⟨ura, urn, urc⟩⟩ : ArH), x, rfl, dAr.at_le La hA, hok, fun (kb : dAr.H) Db Mb leb frb ndb ob => ?_⟩⟩
  obtain (⟨⟨ywa, ywn, ywc⟩, yse, yto, ytp, ycy, ysc, yol, yco, ysr, ⟨yra, yrn, yrc⟩⟩ : ArH) := kb
  refine ⟨_, _, _, _, _, _, _, _, _, _, _, _, _, _, rfl, via h15 ⟨(⟨⟨ywa, ywn, ywc⟩, yse, yto, ytp, ycy, ysc, yol, yco, ysr, ⟨yra, yrn, yrc⟩⟩ : ArH), x, ri, si, fi, rfl, own_atC ob, hok, hbg, fun (kc : dAr.H) Dc Mc lec frc ndc oc => ?_⟩⟩
  obtain (⟨⟨zwa, zwn, zwc⟩, zse, zto, ztp, zcy, zsc, zol, zco, zsr, ⟨zra, zrn, zrc⟩⟩ : ArH) := kc
  refine ⟨_, _, _, _, _, _, _, _, _, _, _, _, _, _, _, rfl, newA_intro fun gh mgh hgh egh bgh lgh => ?_⟩
  refine sto_ar bgh fun Md fgh qgh ngh => ?_
  have qgh : Md gh = some (.cells #[.slice zwa zwn zwc, .int .i64 zse, .int .i64 zto, .int .i64 ztp, .bool zcy, .int .i64 zsc, .int .i64 zol, .int .i64 zco, .int .i64 zsr, .slice zra zrn zrc] 29 (0, 0)) := qgh
  have lgh : Mem.le Mc Md := by rw [fgh, egh, upd_upd]; exact le_upd hgh
  clear fgh egh bgh ngh
  have Ld : Mem.le Ma Md := Mem.le_trans (Mem.le_trans leb lec) lgh
  have bwd := Ld _ _ bwa
  have bgd := Ld _ _ bga
  refine ⟨_, _, _, cell_of qgh 0, _, cell_of qgh 1, _, cell_of qgh 2, _, cell_of qgh 3, _, cell_of qgh 4, _, cell_of qgh 5, _, cell_of qgh 6, _, cell_of qgh 7, _, cell_of qgh 8, _, _, _, cell_of qgh 9, _, _, _, cell_of bwd 0, _, cell_of bwd 1, _, cell_of bwd 2, _, cell_of bwd 3, _, cell_of bwd 4, _, cell_of bwd 5, _, cell_of bwd 6, _, cell_of bwd 7, _, cell_of bwd 8, _, _, _, cell_of bwd 9, via h11 ⟨(⟨⟨zwa, zwn, zwc⟩, zse, zto, ztp, zcy, zsc, zol, zco, zsr, ⟨zra, zrn, zrc⟩⟩ : ArH), (jtM x ri si fi), (⟨⟨cwa, cwn, cwc⟩, cse, cto, ctp, ccy, csc, col, cco, csr, ⟨cra, crn, crc⟩⟩ : ArH), (jtM x ri si fi), rfl, dAr.own_at (dAr.own_le lgh oc), dAr.own_at (dAr.own_le Ld wa), hokR, ?_⟩⟩
  refine ⟨_, rfl, ?_⟩
  rw [if_neg (by simp)]
  rw [if_neg (by simp)]
  refine ⟨_, _, _, cell_of bgd 0, _, cell_of bgd 1, _, cell_of bgd 2, _, cell_of bgd 3, _, cell_of bgd 4, _, cell_of bgd 5, _, cell_of bgd 6, _, cell_of bgd 7, _, cell_of bgd 8, _, _, _, cell_of bgd 9, via h13 ⟨(⟨⟨ewa, ewn, ewc⟩, ese, eto, etp, ecy, esc, eol, eco, esr, ⟨era, ern, erc⟩⟩ : ArH), (jtM x ri si fi), 1, rfl, dAr.own_at (dAr.own_le Ld oa), hokR, by omega, by omega, ⟨_, rfl, ?_⟩⟩⟩
  rw [if_neg (by simp; omega), if_neg (by simp)]
  exact ret_intro (Mem.le_refl _) (h _ (Mem.le_trans La Ld))
end Go.Proofs.YtpdcjocjkbgddaaGreat.Abs
