/- The law FnExactNewFun: its function. -/
import Derived.Test.YtpdcjocjkbgddaaGreatWb
namespace Go.Proofs.YtpdcjocjkbgddaaGreat.Abs
open Go.RowKit
set_option linter.unusedVariables false
set_option linter.unusedSimpArgs false
set_option linter.unusedSectionVars false
set_option maxRecDepth 20000
set_option maxHeartbeats 2000000
def s5 : Spec := fun args m Q => ∃ (h : dAr.H) (x : ArT) (pr : Int) (q : Sl) (cl : List Int) (fi : Int), args = [vAr h, .int .i64 pr, vs q, .int .i64 fi] ∧ dAr.At m h x ∧ bgAr x ∧ (Ds.rows Int).At m q cl ∧ (∀ M, Mem.le m M → Q (.bool true) M)
theorem f5 (t : Tab) (h7 : look t 7 = s7) (h9 : look t 9 = s9) (h11 : look t 11 = s11) (h12 : look t 12 = s12) (h13 : look t 13 = s13) (h16 : look t 16 = s16') (h17 : look t 17 = s17) (h18 : look t 18 = s18') (h19 : look t 19 = s19) (h20 : look t 20 = s20) : ∀ args m Q, s5 args m Q → FA Tryz.prog (look t) kp5 Tryz.f5 args m Q := by
  rintro args m Q ⟨(⟨⟨uwa, uwn, uwc⟩, use, uto, utp, ucy, usc, uol, uco, usr, ⟨ura, urn, urc⟩⟩ : ArH), x, pr, ⟨qa, qn, qc⟩, cl, fi, rfl, hA, hbg, hqA, h⟩
  show FA Tryz.prog (look t) kp5 Tryz.f5 [.agg #[.slice uwa uwn uwc, .int .i64 use, .int .i64 uto, .int .i64 utp, .bool ucy, .int .i64 usc, .int .i64 uol, .int .i64 uco, .int .i64 usr, .slice ura urn urc], .int .i64 pr, .slice qa qn qc, .int .i64 fi] m Q
  rw [e5]
  refine newA_intro fun g1 m2 hg1 e2 hb1 hle2 => ?_
  have hA := dAr.at_le hle2 hA
  have hqA := (Ds.rows Int).at_le hle2 hqA
  have h : ∀ M, Mem.le m2 M → Q (.bool true) M := fun M hM => h M (Mem.le_trans hle2 hM)
  clear e2 hle2
  by_cases hs0 : (qn : Int) > 1048576
  · rw [if_pos (by simpa using hs0)]; exact ret_intro (Mem.le_refl _) (h _ (Mem.le_refl _))
  rw [if_neg (by simpa using hs0)]
  have hqn : qn = cl.length := hqA.1
  have hokq : okR cl := by show cl.length ≤ _; omega
  have hlq : cl.length ≤ 2 ^ 20 := hokq
  refine ⟨_, _, _, cell_of hb1 0, _, cell_of hb1 1, _, cell_of hb1 2, _, cell_of hb1 3, _, cell_of hb1 4, _, cell_of hb1 5, _, cell_of hb1 6, _, cell_of hb1 7, _, cell_of hb1 8, _, _, _, cell_of hb1 9, via h7 ⟨(⟨⟨uwa, uwn, uwc⟩, use, uto, utp, ucy, usc, uol, uco, usr, ⟨ura, urn, urc⟩⟩ : ArH), x, _, rfl, hA, hbg, by omega, by omega, fun r hr => ⟨_, rfl, ?_⟩⟩⟩
  by_cases hz : r < 0
  · rw [if_pos (by simpa using hz)]; exact ret_intro (Mem.le_refl _) (h _ (Mem.le_refl _))
  rw [if_neg (by simpa using hz)]
  have hok : okAr x := by rcases hr with hr | ⟨_, _, hr⟩; exact absurd hr hz; exact hr
  have hok1 : x.1.length ≤ 2 ^ 20 := hok.1
  have hok2 : x.2.2.2.2.2.2.2.2.2.length ≤ 2 ^ 20 := hok.2
  have hcnt : cntAr x ≤ 2 ^ 22 := by unfold cntAr; omega
  have hokR : okAr (nfM x pr cl fi) := nfM_ok hok hbg.2.2
  refine ⟨_, _, _, cell_of hb1 0, _, cell_of hb1 1, _, cell_of hb1 2, _, cell_of hb1 3, _, cell_of hb1 4, _, cell_of hb1 5, _, cell_of hb1 6, _, cell_of hb1 7, _, cell_of hb1 8, _, _, _, cell_of hb1 9, via h9 ⟨(⟨⟨uwa, uwn, uwc⟩, use, uto, utp, ucy, usc, uol, uco, usr, ⟨ura, urn, urc⟩⟩ : ArH), x, rfl, dAr.at_le (Mem.le_refl _) hA, hok, fun (k1 : dAr.H) D1 M1 le1 fr1 nd1 o1 => ?_⟩⟩
  obtain (⟨⟨bwa, bwn, bwc⟩, bse, bto, btp, bcy, bsc, bol, bco, bsr, ⟨bra, brn, brc⟩⟩ : ArH) := k1
  refine ⟨_, _, _, _, _, _, _, _, _, _, _, _, _, _, rfl, via h17 ⟨(⟨qa, qn, qc⟩ : Sl), cl, rfl, (Ds.rows Int).at_le le1 hqA, hokq, fun (js1 : (Ds.rows Int).H) Es1 Ns1 lfs1 fqs1 nqs1 ps1 => ?_⟩⟩
  obtain (⟨js1a, js1n, js1c⟩ : Sl) := js1
  refine ⟨_, _, _, rfl, via h16 ⟨(⟨⟨bwa, bwn, bwc⟩, bse, bto, btp, bcy, bsc, bol, bco, bsr, ⟨bra, brn, brc⟩⟩ : ArH), x, pr, (⟨js1a, js1n, js1c⟩ : Sl), cl, fi, rfl, own_atC (dAr.own_le lfs1 o1), hok, hbg, (Ds.rows Int).own_at ps1, hokq, fun (k2 : dAr.H) D2 M2 le2 fr2 nd2 o2 => ?_⟩⟩
  obtain (⟨⟨cwa, cwn, cwc⟩, cse, cto, ctp, ccy, csc, col, cco, csr, ⟨cra, crn, crc⟩⟩ : ArH) := k2
  refine ⟨_, _, _, _, _, _, _, _, _, _, _, _, _, _, _, rfl, newA_intro fun gw mgw hgw egw bgw lgw => ?_⟩
  refine sto_ar bgw fun M3 fgw qgw ngw => ?_
  have qgw : M3 gw = some (.cells #[.slice cwa cwn cwc, .int .i64 cse, .int .i64 cto, .int .i64 ctp, .bool ccy, .int .i64 csc, .int .i64 col, .int .i64 cco, .int .i64 csr, .slice cra crn crc] 29 (0, 0)) := qgw
  have lgw : Mem.le M2 M3 := by rw [fgw, egw, upd_upd]; exact le_upd hgw
  clear fgw egw bgw ngw
  have L3 : Mem.le m2 M3 := Mem.le_trans (Mem.le_trans (Mem.le_trans le1 lfs1) le2) lgw
  have c3 := L3 _ _ hb1
  refine ⟨_, _, _, cell_of c3 0, _, cell_of c3 1, _, cell_of c3 2, _, cell_of c3 3, _, cell_of c3 4, _, cell_of c3 5, _, cell_of c3 6, _, cell_of c3 7, _, cell_of c3 8, _, _, _, cell_of c3 9, via h9 ⟨(⟨⟨uwa, uwn, uwc⟩, use, uto, utp, ucy, usc, uol, uco, usr, ⟨ura, urn, urc⟩⟩ : ArH), x, rfl, dAr.at_le L3 hA, hok, fun (k4 : dAr.H) D4 M4 le4 fr4 nd4 o4 => ?_⟩⟩
  obtain (⟨⟨dwa, dwn, dwc⟩, dse, dto, dtp, dcy, dsc, dol, dco, dsr, ⟨dra, drn, drc⟩⟩ : ArH) := k4
  refine ⟨_, _, _, _, _, _, _, _, _, _, _, _, _, _, rfl, newA_intro fun gx mgx hgx egx bgx lgx => ?_⟩
  refine sto_ar bgx fun M5 fgx qgx ngx => ?_
  have qgx : M5 gx = some (.cells #[.slice dwa dwn dwc, .int .i64 dse, .int .i64 dto, .int .i64 dtp, .bool dcy, .int .i64 dsc, .int .i64 dol, .int .i64 dco, .int .i64 dsr, .slice dra drn drc] 29 (0, 0)) := qgx
  have lgx : Mem.le M4 M5 := by rw [fgx, egx, upd_upd]; exact le_upd hgx
  clear fgx egx bgx ngx
  have L45 := Mem.le_trans le4 lgx
  refine via h17 ⟨(⟨qa, qn, qc⟩ : Sl), cl, rfl, (Ds.rows Int).at_le (Mem.le_trans L3 L45) hqA, hokq, fun (js4 : (Ds.rows Int).H) Es4 Ns4 lfs4 fqs4 nqs4 ps4 => ?_⟩
  obtain (⟨js4a, js4n, js4c⟩ : Sl) := js4
  have qgx4 := lfs4 _ _ qgx
  refine ⟨_, _, _, rfl, _, _, _, cell_of qgx4 0, _, cell_of qgx4 1, _, cell_of qgx4 2, _, cell_of qgx4 3, _, cell_of qgx4 4, _, cell_of qgx4 5, _, cell_of qgx4 6, _, cell_of qgx4 7, _, cell_of qgx4 8, _, _, _, cell_of qgx4 9, via h18 ⟨(⟨⟨dwa, dwn, dwc⟩, dse, dto, dtp, dcy, dsc, dol, dco, dsr, ⟨dra, drn, drc⟩⟩ : ArH), x, pr, (⟨js4a, js4n, js4c⟩ : Sl), cl, fi, rfl, own_atC (dAr.own_le (Mem.le_trans lgx lfs4) o4), hok, hbg, (Ds.rows Int).own_at ps4, hokq, fun (k6 : dAr.H) D6 M6 le6 fr6 nd6 o6 => ?_⟩⟩
  obtain (⟨⟨ewa, ewn, ewc⟩, ese, eto, etp, ecy, esc, eol, eco, esr, ⟨era, ern, erc⟩⟩ : ArH) := k6
  refine ⟨_, _, _, _, _, _, _, _, _, _, _, _, _, _, _, rfl, newA_intro fun gg mgg hgg egg bgg lgg => ?_⟩
  refine sto_ar bgg fun M7 fgg qgg ngg => ?_
  have qgg : M7 gg = some (.cells #[.slice ewa ewn ewc, .int .i64 ese, .int .i64 eto, .int .i64 etp, .bool ecy, .int .i64 esc, .int .i64 eol, .int .i64 eco, .int .i64 esr, .slice era ern erc] 29 (0, 0)) := qgg
  have lgg : Mem.le M6 M7 := by rw [fgg, egg, upd_upd]; exact le_upd hgg
  clear fgg egg bgg ngg
  have L5 : Mem.le M3 Ns4 := Mem.le_trans L45 lfs4
  have L7 : Mem.le Ns4 M7 := Mem.le_trans le6 lgg
  have w7 := dAr.own_le (Mem.le_trans L5 L7) (dAr.own_le lgw o2)
  have x7 := dAr.own_le (Mem.le_trans (Mem.le_trans lgx lfs4) L7) o4
  have g7 := dAr.own_le lgg o6
  have z7 := (Ds.rows Int).own_le L7 ps4
  have bw7 := L7 _ _ (L5 _ _ qgw)
  have bx7 := L7 _ _ qgx4
  have a7 := L7 _ _ (L5 _ _ c3)
  refine ⟨_, _, _, cell_of qgg 0, _, cell_of qgg 1, _, cell_of qgg 2, _, cell_of qgg 3, _, cell_of qgg 4, _, cell_of qgg 5, _, cell_of qgg 6, _, cell_of qgg 7, _, cell_of qgg 8, _, _, _, cell_of qgg 9, _, _, _, cell_of bw7 0, _, cell_of bw7 1, _, cell_of bw7 2, _, cell_of bw7 3, _, cell_of bw7 4, _, cell_of bw7 5, _, cell_of bw7 6, _, cell_of bw7 7, _, cell_of bw7 8, _, _, _, cell_of bw7 9, via h11 ⟨(⟨⟨ewa, ewn, ewc⟩, ese, eto, etp, ecy, esc, eol, eco, esr, ⟨era, ern, erc⟩⟩ : ArH), (nfM x pr cl fi), (⟨⟨cwa, cwn, cwc⟩, cse, cto, ctp, ccy, csc, col, cco, csr, ⟨cra, crn, crc⟩⟩ : ArH), (nfM x pr cl fi), rfl, dAr.own_at g7, dAr.own_at w7, hokR, ?_⟩⟩
  refine ⟨_, rfl, ?_⟩
  rw [if_neg (by simp)]
  rw [if_neg (by simp)]
  refine ⟨Mem.le M7, Mem.le_refl _, _, _, _, held (cell_of bx7 0), _, held (cell_of bx7 1), _, held (cell_of bx7 2), _, held (cell_of bx7 3), _, held (cell_of bx7 4), _, held (cell_of bx7 5), _, held (cell_of bx7 6), _, held (cell_of bx7 7), _, held (cell_of bx7 8), _, _, _, held (cell_of bx7 9), _, _, _, held (cell_of a7 0), _, held (cell_of a7 1), _, held (cell_of a7 2), _, held (cell_of a7 3), _, held (cell_of a7 4), _, held (cell_of a7 5), _, held (cell_of a7 6), _, held (cell_of a7 7), _, held (cell_of a7 8), _, _, _, held (cell_of a7 9), via h9 ⟨(⟨⟨uwa, uwn, uwc⟩, use, uto, utp, ucy, usc, uol, uco, usr, ⟨ura, urn, urc⟩⟩ : ArH), x, rfl, dAr.at_le (Mem.le_trans L3 (Mem.le_trans L5 L7)) hA, hok, fun (k8 : dAr.H) D8 M8 le8 fr8 nd8 o8 => ?_⟩⟩
  obtain (⟨⟨fwa, fwn, fwc⟩, fse, fto, ftp, fcy, fsc, fol, fco, fsr, ⟨fra, frn, frc⟩⟩ : ArH) := k8
  refine ⟨_, _, _, _, _, _, _, _, _, _, _, _, _, _, rfl, le8, via h11 ⟨(⟨⟨dwa, dwn, dwc⟩, dse, dto, dtp, dcy, dsc, dol, dco, dsr, ⟨dra, drn, drc⟩⟩ : ArH), x, (⟨⟨fwa, fwn, fwc⟩, fse, fto, ftp, fcy, fsc, fol, fco, fsr, ⟨fra, frn, frc⟩⟩ : ArH), x, rfl, dAr.own_at (dAr.own_le le8 x7), dAr.own_at o8, hok, ?_⟩⟩
  refine ⟨_, rfl, le8, ?_⟩
  rw [if_neg (by simp)]
  refine via h17 ⟨(⟨qa, qn, qc⟩ : Sl), cl, rfl, (Ds.rows Int).at_le (Mem.le_trans (Mem.le_trans L3 (Mem.le_trans L5 L7)) le8) hqA, hokq, fun (js8 : (Ds.rows Int).H) Es8 Ns8 lfs8 fqs8 nqs8 ps8 => ?_⟩
  obtain (⟨js8a, js8n, js8c⟩ : Sl) := js8
  have l78 := Mem.le_trans le8 lfs8
  have z8 := (Ds.rows Int).own_le l78 z7
  refine ⟨_, _, _, rfl, via h19 ⟨(⟨js4a, js4n, js4c⟩ : Sl), cl, (⟨js8a, js8n, js8c⟩ : Sl), cl, rfl, (Ds.rows Int).own_at z8, (Ds.rows Int).own_at ps8, hokq, ?_⟩⟩
  refine ⟨_, rfl, ?_⟩
  rw [if_neg (by simp)]
  have bx8 := l78 _ _ bx7
  have a8 := l78 _ _ a7
  have bw8 := l78 _ _ bw7
  have bg8 := l78 _ _ qgg
  have w8 := dAr.own_le l78 w7
  have g8 := dAr.own_le l78 g7
  have x8 := dAr.own_le l78 x7
  have dbl : ∀ {M M' : Mem} {g : Nat} {ob : Obj} {E : List Nat}, M g = some ob → Mem.le M M' → (∀ b ∈ E, M' b = none) → g ∉ E := fun o l f hb => by have := l _ _ o; rw [f _ hb] at this; cases this
  have dwx : ∀ b ∈ D2, b ∉ D4 := fun b hb => by obtain ⟨ob, ho⟩ := dAr.live o2 b hb; exact dbl ho lgw fr4
  have dwg : ∀ b ∈ D2, b ∉ D6 := fun b hb => by obtain ⟨ob, ho⟩ := dAr.live o2 b hb; exact dbl ho (Mem.le_trans lgw L5) fr6
  have dws : ∀ b ∈ D2, b ∉ Es4 := fun b hb => by obtain ⟨ob, ho⟩ := dAr.live o2 b hb; exact dbl ho (Mem.le_trans lgw L45) fqs4
  have dxg : ∀ b ∈ D4, b ∉ D6 := fun b hb => by obtain ⟨ob, ho⟩ := dAr.live o4 b hb; exact dbl ho (Mem.le_trans lgx lfs4) fr6
  have dxs : ∀ b ∈ D4, b ∉ Es4 := fun b hb => by obtain ⟨ob, ho⟩ := dAr.live o4 b hb; exact dbl ho lgx fqs4
  have dsg : ∀ b ∈ Es4, b ∉ D6 := fun b hb => by obtain ⟨ob, ho⟩ := (Ds.rows Int).live ps4 b hb; exact dbl ho (Mem.le_refl _) fr6
  have n1x : g1 ∉ D4 := dbl c3 (Mem.le_refl _) fr4
  have n1g : g1 ∉ D6 := dbl c3 L5 fr6
  have n1s : g1 ∉ Es4 := dbl c3 L45 fqs4
  have nwx : gw ∉ D4 := dbl qgw (Mem.le_refl _) fr4
  have nwg : gw ∉ D6 := dbl qgw L5 fr6
  have nws : gw ∉ Es4 := dbl qgw L45 fqs4
  have ngx : gg ∉ D4 := fun hb => by obtain ⟨ob, ho⟩ := dAr.live o4 _ hb; have := le6 _ _ (lfs4 _ _ (lgx _ _ ho)); rw [hgg] at this; cases this
  have ngg : gg ∉ D6 := fun hb => by obtain ⟨ob, ho⟩ := dAr.live o6 _ hb; rw [hgg] at ho; cases ho
  have ngs : gg ∉ Es4 := fun hb => by obtain ⟨ob, ho⟩ := (Ds.rows Int).live ps4 _ hb; have := le6 _ _ ho; rw [hgg] at this; cases this
  refine ⟨_, _, _, cell_of bx8 0, _, cell_of bx8 1, _, cell_of bx8 2, _, cell_of bx8 3, _, cell_of bx8 4, _, cell_of bx8 5, _, cell_of bx8 6, _, cell_of bx8 7, _, cell_of bx8 8, _, _, _, cell_of bx8 9, via h12 ⟨(⟨⟨dwa, dwn, dwc⟩, dse, dto, dtp, dcy, dsc, dol, dco, dsr, ⟨dra, drn, drc⟩⟩ : ArH), x, D4, 1, rfl, x8, nd4, hok, by omega, by omega, fun Mk offk ok' => ⟨_, rfl, ?_⟩⟩⟩
  have zk := (Ds.rows Int).own_ext z8 fun b hb => offk b fun h' => dxs b h' hb
  refine via h20 ⟨(⟨js4a, js4n, js4c⟩ : Sl), cl, Es4, _, rfl, zk, nqs4, hokq, by omega, by omega, fun M9 offs zs => ⟨_, rfl, ?_⟩⟩
  rw [if_neg (by simp; omega)]
  have off9 : ∀ b, b ∉ D4 → b ∉ Es4 → M9 b = Ns8 b := fun b h1 h2 => (offs b h2).trans (offk b h1)
  have w9 := dAr.own_ext w8 fun b hb => off9 b (dwx b hb) (dws b hb)
  have g9 := dAr.own_ext g8 fun b hb => off9 b (fun h' => dxg b h' hb) (fun h' => dsg b h' hb)
  have a9 : M9 g1 = _ := (off9 _ n1x n1s).trans a8
  have bw9 : M9 gw = _ := (off9 _ nwx nws).trans bw8
  have bg9 : M9 gg = _ := (off9 _ ngx ngs).trans bg8
  refine ⟨_, _, _, cell_of bg9 0, _, cell_of bg9 1, _, cell_of bg9 2, _, cell_of bg9 3, _, cell_of bg9 4, _, cell_of bg9 5, _, cell_of bg9 6, _, cell_of bg9 7, _, cell_of bg9 8, _, _, _, cell_of bg9 9, _, _, _, cell_of bw9 0, _, cell_of bw9 1, _, cell_of bw9 2, _, cell_of bw9 3, _, cell_of bw9 4, _, cell_of bw9 5, _, cell_of bw9 6, _, cell_of bw9 7, _, cell_of bw9 8, _, _, _, cell_of bw9 9, via h11 ⟨(⟨⟨ewa, ewn, ewc⟩, ese, eto, etp, ecy, esc, eol, eco, esr, ⟨era, ern, erc⟩⟩ : ArH), (nfM x pr cl fi), (⟨⟨cwa, cwn, cwc⟩, cse, cto, ctp, ccy, csc, col, cco, csr, ⟨cra, crn, crc⟩⟩ : ArH), (nfM x pr cl fi), rfl, dAr.own_at g9, dAr.own_at w9, hokR, ?_⟩⟩
  refine ⟨_, rfl, ?_⟩
  rw [if_neg (by simp)]
  rw [if_neg (by simp)]
  refine ⟨_, _, _, cell_of bg9 0, _, cell_of bg9 1, _, cell_of bg9 2, _, cell_of bg9 3, _, cell_of bg9 4, _, cell_of bg9 5, _, cell_of bg9 6, _, cell_of bg9 7, _, cell_of bg9 8, _, _, _, cell_of bg9 9, via h12 ⟨(⟨⟨ewa, ewn, ewc⟩, ese, eto, etp, ecy, esc, eol, eco, esr, ⟨era, ern, erc⟩⟩ : ArH), (nfM x pr cl fi), D6, 1, rfl, g9, nd6, hokR, by omega, by omega, fun Ma offa oa => ⟨_, rfl, ?_⟩⟩⟩
  have wa := dAr.own_ext w9 fun b hb => offa b (dwg b hb)
  have aa : Ma g1 = _ := (offa _ n1g).trans a9
  have bwa : Ma gw = _ := (offa _ nwg).trans bw9
  have bga : Ma gg = _ := (offa _ ngg).trans bg9
  refine ⟨_, _, _, cell_of bga 0, _, cell_of bga 1, _, cell_of bga 2, _, cell_of bga 3, _, cell_of bga 4, _, cell_of bga 5, _, cell_of bga 6, _, cell_of bga 7, _, cell_of bga 8, _, _, _, cell_of bga 9, via h13 ⟨(⟨⟨ewa, ewn, ewc⟩, ese, eto, etp, ecy, esc, eol, eco, esr, ⟨era, ern, erc⟩⟩ : ArH), (nfM x pr cl fi), 1, rfl, dAr.own_at oa, hokR, by omega, by omega, ⟨_, rfl, ?_⟩⟩⟩
  rw [if_neg (by simp; omega), if_neg (by simp)]
  have La : Mem.le m2 Ma := fun b o ho => by
    have hb3 := L3 _ _ ho
    have hb4 : b ∉ D4 := dbl hb3 (Mem.le_refl _) fr4
    have hbs : b ∉ Es4 := dbl hb3 L45 fqs4
    have hb6 : b ∉ D6 := dbl hb3 L5 fr6
    rw [offa b hb6, off9 b hb4 hbs]
    exact l78 _ _ (L7 _ _ (L5 _ _ hb3))
  refine ⟨_, _, _, cell_of aa 0, _, cell_of aa 1, _, cell_of aa 2, _, cell_of aa 3, _, cell_of aa 4, _, cell_of aa 5, _, cell_of aa 6, _, cell_of aa 7, _, cell_of aa 8, _, _, _, cell_of aa 9, via h9 ⟨(⟨⟨uwa, uwn, uwc⟩, use, uto, utp, ucy, usc, uol, uco, usr, ⟨ura, urn, urc⟩⟩ : ArH), x, rfl, dAr.at_le La hA, hok, fun (kb : dAr.H) Db Mb leb frb ndb ob => ?_⟩⟩
  obtain (⟨⟨ywa, ywn, ywc⟩, yse, yto, ytp, ycy, ysc, yol, yco, ysr, ⟨yra, yrn, yrc⟩⟩ : ArH) := kb
  refine ⟨_, _, _, _, _, _, _, _, _, _, _, _, _, _, rfl, via h17 ⟨(⟨qa, qn, qc⟩ : Sl), cl, rfl, (Ds.rows Int).at_le (Mem.le_trans La leb) hqA, hokq, fun (jsb : (Ds.rows Int).H) Esb Nsb lfsb fqsb nqsb psb => ?_⟩⟩
  obtain (⟨jsba, jsbn, jsbc⟩ : Sl) := jsb
  refine ⟨_, _, _, rfl, via h18 ⟨(⟨⟨ywa, ywn, ywc⟩, yse, yto, ytp, ycy, ysc, yol, yco, ysr, ⟨yra, yrn, yrc⟩⟩ : ArH), x, pr, (⟨jsba, jsbn, jsbc⟩ : Sl), cl, fi, rfl, own_atC (dAr.own_le lfsb ob), hok, hbg, (Ds.rows Int).own_at psb, hokq, fun (kc : dAr.H) Dc Mc lec frc ndc oc => ?_⟩⟩
  obtain (⟨⟨zwa, zwn, zwc⟩, zse, zto, ztp, zcy, zsc, zol, zco, zsr, ⟨zra, zrn, zrc⟩⟩ : ArH) := kc
  refine ⟨_, _, _, _, _, _, _, _, _, _, _, _, _, _, _, rfl, newA_intro fun gh mgh hgh egh bgh lgh => ?_⟩
  refine sto_ar bgh fun Md fgh qgh ngh => ?_
  have qgh : Md gh = some (.cells #[.slice zwa zwn zwc, .int .i64 zse, .int .i64 zto, .int .i64 ztp, .bool zcy, .int .i64 zsc, .int .i64 zol, .int .i64 zco, .int .i64 zsr, .slice zra zrn zrc] 29 (0, 0)) := qgh
  have lgh : Mem.le Mc Md := by rw [fgh, egh, upd_upd]; exact le_upd hgh
  clear fgh egh bgh ngh
  have Ld : Mem.le Ma Md := Mem.le_trans (Mem.le_trans (Mem.le_trans leb lfsb) lec) lgh
  have bwd := Ld _ _ bwa
  have bgd := Ld _ _ bga
  refine ⟨_, _, _, cell_of qgh 0, _, cell_of qgh 1, _, cell_of qgh 2, _, cell_of qgh 3, _, cell_of qgh 4, _, cell_of qgh 5, _, cell_of qgh 6, _, cell_of qgh 7, _, cell_of qgh 8, _, _, _, cell_of qgh 9, _, _, _, cell_of bwd 0, _, cell_of bwd 1, _, cell_of bwd 2, _, cell_of bwd 3, _, cell_of bwd 4, _, cell_of bwd 5, _, cell_of bwd 6, _, cell_of bwd 7, _, cell_of bwd 8, _, _, _, cell_of bwd 9, via h11 ⟨(⟨⟨zwa, zwn, zwc⟩, zse, zto, ztp, zcy, zsc, zol, zco, zsr, ⟨zra, zrn, zrc⟩⟩ : ArH), (nfM x pr cl fi), (⟨⟨cwa, cwn, cwc⟩, cse, cto, ctp, ccy, csc, col, cco, csr, ⟨cra, crn, crc⟩⟩ : ArH), (nfM x pr cl fi), rfl, dAr.own_at (dAr.own_le lgh oc), dAr.own_at (dAr.own_le Ld wa), hokR, ?_⟩⟩
  refine ⟨_, rfl, ?_⟩
  rw [if_neg (by simp)]
  rw [if_neg (by simp)]
  refine ⟨_, _, _, cell_of bgd 0, _, cell_of bgd 1, _, cell_of bgd 2, _, cell_of bgd 3, _, cell_of bgd 4, _, cell_of bgd 5, _, cell_of bgd 6, _, cell_of bgd 7, _, cell_of bgd 8, _, _, _, cell_of bgd 9, via h13 ⟨(⟨⟨ewa, ewn, ewc⟩, ese, eto, etp, ecy, esc, eol, eco, esr, ⟨era, ern, erc⟩⟩ : ArH), (nfM x pr cl fi), 1, rfl, dAr.own_at (dAr.own_le Ld oa), hokR, by omega, by omega, ⟨_, rfl, ?_⟩⟩⟩
  rw [if_neg (by simp; omega), if_neg (by simp)]
  exact ret_intro (Mem.le_refl _) (h _ (Mem.le_trans La Ld))
end Go.Proofs.YtpdcjocjkbgddaaGreat.Abs
