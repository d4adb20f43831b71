/- Modules: the contracts of the copies of a module. -/
import Derived.Test.YtcbjdodehjpddaaNj
import Derived.Test.YtcbjdodehjpddaaNf
namespace Go.Proofs.Ytcbjdodehjpddaa.Abs
open Go.RowKit
set_option linter.unusedVariables false
set_option linter.unusedSimpArgs false
set_option linter.unusedSectionVars false
set_option maxRecDepth 20000

def s77 : Spec := toS dMo vM vM okM
def s72 : Spec := toS dMo vM vM okM

structure CpInv (m M : Mem) (g3 g12 : Nat) (ps : List Pr) (ts : List ByteArray) (s st : Sl) (D Dt : List Nat) : Prop where
  le : Mem.le m M
  b3 : M g3 = some (.cells #[.slice none 0 0, .slice none 0 0] 55 (0, 0))
  b12 : M g12 = some (.cells #[vs s, vs st] 55 (0, 0))
  n3 : m g3 = none
  n12 : m g12 = none
  ne : g3 ≠ g12
  o : dPrs.Own M s ps D
  ot : dTx.Own M st ts Dt
  nd : (D ++ Dt).Nodup
  fr : ∀ b ∈ D ++ Dt, m b = none
  k3 : g3 ∉ D ++ Dt
  k12 : g12 ∉ D ++ Dt

/-- The end of both: the result is handed over. -/
theorem cp_end {m M : Mem} {g3 g12 : Nat} {ps : List Pr} {ts : List ByteArray} {s st : Sl} {D Dt : List Nat} {Q : Value → Mem → Prop} (I : CpInv m M g3 g12 ps ts s st D Dt)
    (h : ∀ (h' : dMo.H) (D : List Nat) (m' : Mem), Mem.le m m' → (∀ b ∈ D, m b = none) → D.Nodup → dMo.Own m' h' (ps, ts) D → Q (vM h') m') :
    stoA M ⟨g3, 0, none⟩ [vs s, vs st] fun m83 => (∃ (ra84 : Option Addr) (rn85 rc86 : Nat), (Mem.cell? m83 ⟨g3, 0, none⟩ = some (.slice ra84 rn85 rc86) ∧ (∃ (ra88 : Option Addr) (rn89 rc90 : Nat), (Mem.cell? m83 ⟨g3, 1, none⟩ = some (.slice ra88 rn89 rc90) ∧ (ret Q (.agg #[(.slice ra84 rn85 rc86), (.slice ra88 rn89 rc90)]) m83))))) := by
  refine sto (c := #[.slice none 0 0, .slice none 0 0]) (t := 55) I.b3 rfl (by simp) fun m83 e83 h83 hne => ?_
  have h83 : m83 g3 = some (.cells #[vs s, vs st] 55 (0, 0)) := h83
  refine ⟨_, _, _, cell_of h83 0, _, _, _, cell_of h83 1, ret_intro (Mem.le_refl _) (h (s, st) (D ++ Dt) m83 (le_other I.le I.n3 hne) I.fr I.nd ⟨D, Dt, rfl, ?_, ?_⟩)⟩
  · exact dPrs.own_ext I.o fun b hb => hne b (by rintro rfl; exact I.k3 (by simp [hb]))
  · exact dTx.own_ext I.ot fun b hb => hne b (by rintro rfl; exact I.k3 (by simp [hb]))

/-- The end of a round: a copied proto is put behind the others. -/
theorem cp_push {m M0 M : Mem} {g3 g12 g69 : Nat} {ps : List Pr} {ts : List ByteArray} {s st : Sl} {D Dt E : List Nat} {x : Pr} {h' : PH} {K : Mem → Prop} (I : CpInv m M0 g3 g12 ps ts s st D Dt)
    (hle : Mem.le M0 M) (hE : dPr.Own M h' x E) (hEn : E.Nodup) (hfr : ∀ b ∈ E, M0 b = none) (hx : M g69 = some (.cells #[.int .i64 h'.1, .int .i64 h'.2.1, vs h'.2.2.1, vs h'.2.2.2] 38 (0, 0))) (hg69 : M0 g69 = none) (hl : ps.length + 1 ≤ 2 ^ 40)
    (hK : ∀ (M' : Mem) (s' : Sl) (D' : List Nat), CpInv m M' g3 g12 (ps ++ [x]) ts s' st D' Dt → (∀ b o, M0 b = some o → b ≠ g12 → b ∉ D → M' b = some o ∧ b ∉ D') → K M') :
    appR M s.a s.n s.c (some ⟨g69, 0, none⟩) 1 4 64 #[.int .i64 0, .int .i64 0, .slice none 0 0, .slice none 0 0] 38 fun ra rc m73 => stoA m73 ⟨g12, 0, none⟩ [.slice ra (s.n + 1) rc] K := by
  have hdis : ∀ b ∈ E, b ∉ D := fun b hb hb' => by
    obtain ⟨o, ho⟩ := dPrs.live I.o b hb'
    rw [hfr b hb] at ho
    cases ho
  have oM := dPrs.own_le hle I.o
  refine dPr.list_push (D := D) (E := E) (x := x) (h' := h') rfl rfl (by decide) (by decide) (by decide) oM (List.nodup_append.1 I.nd).1 hE hEn hdis hx hl fun s' D' m' hsn ho hnd hin hout hoff => ?_
  have fr' : ∀ b ∈ D', b ∈ D ∨ M0 b = none := fun b hb => by
    rcases hin b hb with h | h | h
    · exact .inl h
    · exact .inr (hfr b h)
    · exact .inr (le_none hle h)
  have k12 : g12 ∉ D' := fun hb => by
    rcases fr' _ hb with h | h
    · exact I.k12 (by simp [h])
    · rw [I.b12] at h; cases h
  have k3 : g3 ∉ D' := fun hb => by
    rcases fr' _ hb with h | h
    · exact I.k3 (by simp [h])
    · rw [I.b3] at h; cases h
  have dt : ∀ b ∈ D', b ∉ Dt := fun b hb hb' => by
    rcases fr' _ hb with h | h
    · exact (List.nodup_append.1 I.nd).2.2 b h b hb' rfl
    · obtain ⟨o, ho⟩ := dTx.live I.ot b hb'
      rw [h] at ho
      cases ho
  refine sto (c := #[vs s, vs st]) (t := 55) (by rw [hoff _ k12]; exact hle _ _ I.b12) rfl (by simp) fun M' e hM' hne => ?_
  have hM' : M' g12 = some (.cells #[.slice s'.a (s.n + 1) s'.c, vs st] 55 (0, 0)) := hM'
  rw [← hsn] at hM'
  have fm : ∀ b ∈ D', m b = none := fun b hb => by
    rcases fr' _ hb with h | h
    · exact I.fr b (by simp [h])
    · exact le_none I.le h
  refine hK M' s' D' ⟨?_, ?_, hM', I.n3, I.n12, I.ne, ?_, ?_, ?_, ?_, ?_, ?_⟩ fun b o ho hb hbD => ?_
  rotate_right
  · have hd' : b ∉ D' := fun h => by
      rcases fr' _ h with h | h
      · exact hbD h
      · rw [ho] at h; cases h
    exact ⟨by rw [hne _ hb, hoff _ hd']; exact hle _ _ ho, hd'⟩
  · exact le_other (le_off (Mem.le_trans I.le hle) fm hoff) I.n12 hne
  · rw [hne _ I.ne, hoff _ k3]; exact hle _ _ I.b3
  · exact dPrs.own_ext ho fun b hb => hne b (by rintro rfl; exact k12 hb)
  · exact dTx.own_ext (dTx.own_le hle I.ot) fun b hb => by rw [hne b (by rintro rfl; exact I.k12 (by simp [hb])), hoff b (fun h => dt b h hb)]
  · exact List.nodup_append.2 ⟨hnd, (List.nodup_append.1 I.nd).2.1, fun b hb b' hb' e => dt b hb (e ▸ hb')⟩
  · intro b hb
    rcases List.mem_append.1 hb with hb | hb
    · exact fm b hb
    · exact I.fr b (by simp [hb])
  · intro hb
    rcases List.mem_append.1 hb with hb | hb
    · exact k3 hb
    · exact I.k3 (by simp [hb])
  · intro hb
    rcases List.mem_append.1 hb with hb | hb
    · exact k12 hb
    · exact I.k12 (by simp [hb])

theorem f77 (t : Tab) : ∀ args m Q, s77 args m Q → FA Try.prog (look t) kp77 Try.f77 args m Q := by
  rintro args m Q ⟨⟨⟨pa, pn, pc⟩, ⟨ta, tn, tc⟩⟩, ⟨ps, ts⟩, rfl, ⟨⟨hpn, (hs : List PH), hl, hrd, hat⟩, hts⟩, ⟨hok1, hok2⟩, h⟩
  have hpn : pn = ps.length := hpn
  have hl : hs.length = ps.length := hl
  have hrd : Rd m pa hs := hrd
  have hlen : ps.length ≤ 2 ^ 20 := hok1.1
  have htn : tn = ts.length := hts.1
  have htr : Rd m ta ts := hts.2
  have htl : ts.length ≤ 2 ^ 20 := hok2
  show FA Try.prog (look t) kp77 Try.f77 [.agg #[.slice pa pn pc, .slice ta tn tc]] m Q
  rw [e77]
  refine newA_intro fun g1 m2 hg1 e2 hb1 hle2 => newA_intro fun g3 m4 hg3 e4 hb3 hle4 => ?_
  have l4 := Mem.le_trans hle2 hle4
  refine ⟨_, _, _, cell_of (hle4 _ _ hb1) 1, ?_⟩
  refine app_sl (α := ByteArray) (s := ⟨none, 0, 0⟩) (l := []) (l2 := ts) (D := []) rfl rfl (by decide) (by decide) (by decide) (ownL_nil m4) htn.symm (htr.le l4) (by simp; omega) fun st Dt m11 hst hot hoff hfr hnd => ?_
  have frt : ∀ b ∈ Dt, m4 b = none := by
    rcases hfr with e | hfr
    · rw [e]; simp
    · exact hfr
  have nt1 : g1 ∉ Dt := fun hb => by have := frt _ hb; rw [hle4 _ _ hb1] at this; cases this
  have nt3 : g3 ∉ Dt := fun hb => by have := frt _ hb; rw [hb3] at this; cases this
  have l11 : Mem.le m m11 := le_off l4 (fun b hb => le_none l4 (frt b hb)) hoff
  have b3_11 : m11 g3 = some (.cells #[.slice none 0 0, .slice none 0 0] 55 (0, 0)) := by rw [hoff _ nt3]; exact hb3
  have b1_11 : m11 g1 = some (.cells #[.slice pa pn pc, .slice ta tn tc] 55 (0, 0)) := by rw [hoff _ nt1]; exact hle4 _ _ hb1
  refine newA_intro fun g12 m13 hg12 e13 hb12 hle13 => ?_
  have n312 : g3 ≠ g12 := ne_of_none hg12 b3_11
  have nt12 : g12 ∉ Dt := fun hb => by
    obtain ⟨o, ho⟩ := dTx.live (hot : dTx.Own m11 st ([] ++ ts) Dt) _ hb
    rw [hg12] at ho; cases ho
  refine sto (c := #[.slice none 0 0, .slice none 0 0]) (t := 55) hb12 rfl (by simp) fun m14 e14 h14 hne14 => ?_
  have hst : st.n = 0 + tn := hst
  have h14 : m14 g12 = some (.cells #[vs ⟨none, 0, 0⟩, .slice st.a (0 + tn) st.c] 55 (0, 0)) := h14
  rw [← hst] at h14
  have le14 : Mem.le m11 m14 := by rw [e14, e13, upd_upd]; exact le_upd hg12
  have l14 := Mem.le_trans l11 le14
  have I0 : CpInv m m14 g3 g12 [] ts ⟨none, 0, 0⟩ st [] Dt := by
    refine ⟨l14, le14 _ _ b3_11, h14, le_none hle2 hg3, le_none l11 hg12, n312, dPr.list_nil m14, dTx.own_le le14 hot, hnd, fun b hb => le_none l4 (frt b hb), nt3, nt12⟩
  refine ⟨_, _, _, cell_of (le14 _ _ b1_11) 0, ?_⟩
  suffices key : ∀ d i, i + d = pn → ∀ (M : Mem) (s : Sl) (D : List Nat), CpInv m M g3 g12 (ps.take i) ts s st D Dt → L77_3 (look t) (d + 1) Q g3 g12 pa pn pc (pn : Int) (i : Int) M from ⟨pn + 1, key pn 0 (by omega) m14 _ _ I0⟩
  clear I0 l14 le14 h14 e14 hne14 b1_11 b3_11 hle13 hb12 e13 l11 nt1 hoff hfr
  intro d
  induction d with
  | zero =>
    intro i hi M s D I
    rw [l77_3]
    refine ⟨M, Mem.le_refl _, ?_⟩
    rw [if_neg (by simp; omega)]
    rw [List.take_of_length_le (by omega)] at I
    exact ⟨_, _, _, cell_of I.b12 0, _, _, _, cell_of I.b12 1, cp_end I h⟩
  | succ d ih =>
    intro i hi M s D I
    rw [l77_3]
    refine ⟨M, Mem.le_refl _, ?_⟩
    rw [if_pos (by simp; omega)]
    have i1 : i < hs.length := by omega
    have i2 : i < ps.length := by omega
    have hii := dPr.at_le I.le (hat i hs[i] ps[i] (List.getElem?_eq_getElem i1) (List.getElem?_eq_getElem i2))
    have okp := hok1.2 _ (List.getElem_mem i2)
    have htk : ps.take (i + 1) = ps.take i ++ [ps[i]] := List.take_succ_eq_append_getElem i2
    refine idx' (hrd.le I.le) (hl.trans hpn.symm) (by omega) (by omega) fun ad had hd => ?_
    simp only [Int.toNat_natCast] at hd ⊢
    generalize hs[i] = hh at *
    generalize ps[i] = x at *
    obtain ⟨p, s0, ⟨ua, un, uc⟩, ⟨ca, cn, cc⟩⟩ := hh
    obtain ⟨p', s', lu, lc⟩ := x
    obtain ⟨hp, hs', hu, hc⟩ := hii
    have hp : p = p' := hp
    have hs' : s0 = s' := hs'
    subst hp hs'
    have hun : un = lu.length := hu.1
    have hcn : cn = lc.length := hc.1
    have hok1 : lu.length ≤ 2 ^ 20 := okp.1
    have hok2 : lc.length ≤ 2 ^ 20 := okp.2
    refine ⟨_, hd 0 _ rfl, _, hd 1 _ rfl, _, _, _, hd 2 _ rfl, _, _, _, hd 3 _ rfl, newA_intro fun g34 m35 hg34 e35 hb34 hle35 => ?_⟩
    refine sto (c := #[.int .i64 0, .int .i64 0, .slice none 0 0, .slice none 0 0]) (t := 38) hb34 rfl (by simp) fun m36 e36 h36 hne36 => ?_
    have h36 : m36 g34 = some (.cells #[.int .i64 p, .int .i64 s0, .slice ua un uc, .slice ca cn cc] 38 (0, 0)) := h36
    have le36 : Mem.le M m36 := by rw [e36, e35, upd_upd]; exact le_upd hg34
    refine ⟨_, _, _, cell_of h36 2, ?_⟩
    refine app_sl (α := Up) (s := ⟨none, 0, 0⟩) (l := []) (l2 := lu) (D := []) rfl rfl (by decide) (by decide) (by decide) (ownL_nil m36) hun.symm ((hu.2 : Rd M ua lu).le le36) (by simp; omega) fun su Du m43 hsu hou hoff hfr hnd => ?_
    have fru : ∀ b ∈ Du, m36 b = none := by
      rcases hfr with e | hfr
      · rw [e]; simp
      · exact hfr
    have nu : g34 ∉ Du := fun hb => by have := fru _ hb; rw [h36] at this; cases this
    refine sto (c := #[.int .i64 p, .int .i64 s0, .slice ua un uc, .slice ca cn cc]) (t := 38) (by rw [hoff _ nu]; exact h36) rfl (by simp) fun m44 e44 h44 hne44 => ?_
    have h44 : m44 g34 = some (.cells #[.int .i64 p, .int .i64 s0, .slice su.a (0 + un) su.c, .slice ca cn cc] 38 (0, 0)) := h44
    have l44 : Mem.le M m44 := le_other (le_off le36 (fun b hb => le_none le36 (fru b hb)) hoff) hg34 hne44
    have ou44 : OwnL m44 su ([] ++ lu) Du := hou.ext fun b hb => hne44 b (by rintro rfl; exact nu hb)
    refine ⟨_, _, _, cell_of h44 3, ?_⟩
    refine app_sl (α := Ins) (s := ⟨none, 0, 0⟩) (l := []) (l2 := lc) (D := []) rfl rfl (by decide) (by decide) (by decide) (ownL_nil m44) hcn.symm ((hc.2 : Rd M ca lc).le l44) (by simp; omega) fun sc Dc m51 hsc hoc hoff2 hfr2 hnd2 => ?_
    have frc : ∀ b ∈ Dc, m44 b = none := by
      rcases hfr2 with e | hfr
      · rw [e]; simp
      · exact hfr
    have nc : g34 ∉ Dc := fun hb => by have := frc _ hb; rw [h44] at this; cases this
    refine sto (c := #[.int .i64 p, .int .i64 s0, .slice su.a (0 + un) su.c, .slice ca cn cc]) (t := 38) (by rw [hoff2 _ nc]; exact h44) rfl (by simp) fun m52 e52 h52 hne52 => ?_
    have h52 : m52 g34 = some (.cells #[.int .i64 p, .int .i64 s0, .slice su.a (0 + un) su.c, .slice sc.a (0 + cn) sc.c] 38 (0, 0)) := h52
    have l52 : Mem.le M m52 := le_other (le_off l44 (fun b hb => le_none l44 (frc b hb)) hoff2) hg34 hne52
    have b12 := l52 _ _ I.b12
    refine ⟨_, _, _, cell_of b12 0, _, cell_of h52 0, _, cell_of h52 1, _, _, _, cell_of h52 2, _, _, _, cell_of h52 3, newA_intro fun g69 m70 hg69 e70 hb69 hle70 => ?_⟩
    have hsu : su.n = 0 + un := hsu
    have hsc : sc.n = 0 + cn := hsc
    rw [← hsu, ← hsc] at hb69
    have dis : ∀ b ∈ Du, b ∉ Dc := fun b hb hb' => by
      obtain ⟨o, ho⟩ := ou44.live b hb
      rw [frc b hb'] at ho
      cases ho
    have frE : ∀ b ∈ Du ++ Dc, M b = none := by
      intro b hb
      rcases List.mem_append.1 hb with hb | hb
      · exact le_none le36 (fru b hb)
      · exact le_none l44 (frc b hb)
    refine cp_push (x := (p, s0, lu, lc)) (h' := (p, s0, su, sc)) (E := Du ++ Dc) I (Mem.le_trans l52 hle70) ⟨[], _, rfl, ⟨rfl, rfl⟩, [], _, rfl, ⟨rfl, rfl⟩, Du, Dc, rfl, ?_, ?_⟩ ?_ frE hb69 (le_none l52 hg69) (by simp; omega) fun M' s' D' I' kb => ?_
    · exact dUp.own_le hle70 ((ou44.ext fun b hb => by rw [hne52 b (by rintro rfl; exact nu hb), hoff2 b (dis b hb)]) : OwnL m52 su lu Du)
    · exact dIns.own_le hle70 ((hoc.ext fun b hb => hne52 b (by rintro rfl; exact nc hb)) : OwnL m52 sc lc Dc)
    · exact List.nodup_append.2 ⟨hnd, hnd2, fun b hb b' hb' e => dis b hb (e ▸ hb')⟩
    · rw [wsucc (n := pn) (by omega) (by omega)]
      exact ih (i + 1) (by omega) M' s' D' (by rw [htk]; exact I')

theorem f72 (t : Tab) : ∀ args m Q, s72 args m Q → FA Try.prog (look t) kp72 Try.f72 args m Q := by
  rintro args m Q ⟨⟨⟨pa, pn, pc⟩, ⟨ta, tn, tc⟩⟩, ⟨ps, ts⟩, rfl, ⟨⟨hpn, (hs : List PH), hl, hrd, hat⟩, hts⟩, ⟨hok1, hok2⟩, h⟩
  have hpn : pn = ps.length := hpn
  have hl : hs.length = ps.length := hl
  have hrd : Rd m pa hs := hrd
  have hlen : ps.length ≤ 2 ^ 20 := hok1.1
  have htn : tn = ts.length := hts.1
  have htr : Rd m ta ts := hts.2
  have htl : ts.length ≤ 2 ^ 20 := hok2
  show FA Try.prog (look t) kp72 Try.f72 [.agg #[.slice pa pn pc, .slice ta tn tc]] m Q
  rw [e72]
  refine newA_intro fun g1 m2 hg1 e2 hb1 hle2 => newA_intro fun g3 m4 hg3 e4 hb3 hle4 => newA_intro fun g5 m6 hg5 e6 hb5 hle6 => ?_
  have l4 := Mem.le_trans hle2 hle4
  have l6 := Mem.le_trans l4 hle6
  refine ⟨_, _, _, cell_of (hle6 _ _ (hle4 _ _ hb1)) 1, ?_⟩
  refine app_sl (α := ByteArray) (s := ⟨some ⟨g5, 0, none⟩, 0, 0⟩) (l := []) (l2 := ts) (D := [g5]) rfl rfl (by decide) (by decide) (by decide) (ownL_empty hb5) htn.symm (htr.le l6) (by simp; omega) fun st Dt m11 hst hot hoff hfr hnd => ?_
  have frt : ∀ b ∈ Dt, m4 b = none := by
    rcases hfr with e | hfr
    · rw [e]; simpa using hg5
    · exact fun b hb => le_none hle6 (hfr b hb)
  have nt1 : g1 ∉ Dt := fun hb => by have := frt _ hb; rw [hle4 _ _ hb1] at this; cases this
  have nt3 : g3 ∉ Dt := fun hb => by have := frt _ hb; rw [hb3] at this; cases this
  have l11 : Mem.le m m11 := le_off l6 (fun b hb => le_none l4 (frt b hb)) hoff
  have b3_11 : m11 g3 = some (.cells #[.slice none 0 0, .slice none 0 0] 55 (0, 0)) := by rw [hoff _ nt3]; exact hle6 _ _ hb3
  have b1_11 : m11 g1 = some (.cells #[.slice pa pn pc, .slice ta tn tc] 55 (0, 0)) := by rw [hoff _ nt1]; exact hle6 _ _ (hle4 _ _ hb1)
  refine newA_intro fun g12 m13 hg12 e13 hb12 hle13 => ?_
  have n312 : g3 ≠ g12 := ne_of_none hg12 b3_11
  have n112 : g1 ≠ g12 := ne_of_none hg12 b1_11
  have nt12 : g12 ∉ Dt := fun hb => by
    obtain ⟨o, ho⟩ := dTx.live (hot : dTx.Own m11 st ([] ++ ts) Dt) _ hb
    rw [hg12] at ho; cases ho
  refine sto (c := #[.slice none 0 0, .slice none 0 0]) (t := 55) hb12 rfl (by simp) fun m14 e14 h14 hne14 => ?_
  have hst : st.n = 0 + tn := hst
  have h14 : m14 g12 = some (.cells #[vs ⟨none, 0, 0⟩, .slice st.a (0 + tn) st.c] 55 (0, 0)) := h14
  rw [← hst] at h14
  have le14 : Mem.le m11 m14 := by rw [e14, e13, upd_upd]; exact le_upd hg12
  have l14 := Mem.le_trans l11 le14
  have I0 : CpInv m m14 g3 g12 [] ts ⟨none, 0, 0⟩ st [] Dt := by
    refine ⟨l14, le14 _ _ b3_11, h14, le_none hle2 hg3, le_none l11 hg12, n312, dPr.list_nil m14, dTx.own_le le14 hot, hnd, fun b hb => le_none l4 (frt b hb), nt3, nt12⟩
  have c1 := le14 _ _ b1_11
  have m1n : m g1 = none := hg1
  suffices key : ∀ d i, i + d = pn → ∀ (M : Mem) (s : Sl) (D : List Nat), M g1 = some (.cells #[.slice pa pn pc, .slice ta tn tc] 55 (0, 0)) → g1 ∉ D → CpInv m M g3 g12 (ps.take i) ts s st D Dt → L72_3 (look t) (d + 1) Q g1 g3 g12 (i : Int) M from ⟨pn + 1, key pn 0 (by omega) m14 _ _ c1 (by simp) I0⟩
  clear I0 l14 le14 h14 e14 hne14 b1_11 b3_11 hle13 hb12 e13 l11 nt1 hoff hfr c1
  intro d
  induction d with
  | zero =>
    intro i hi M s D c1 k1 I
    rw [l72_3]
    refine ⟨M, Mem.le_refl _, _, _, _, cell_of c1 0, ?_⟩
    rw [if_neg (by simp; omega)]
    rw [List.take_of_length_le (by omega)] at I
    exact ⟨_, _, _, cell_of I.b12 0, _, _, _, cell_of I.b12 1, cp_end I h⟩
  | succ d ih =>
    intro i hi M s D c1 k1 I
    rw [l72_3]
    refine ⟨M, Mem.le_refl _, _, _, _, cell_of c1 0, ?_⟩
    rw [if_pos (by simp; omega)]
    have i1 : i < hs.length := by omega
    have i2 : i < ps.length := by omega
    have hii := dPr.at_le I.le (hat i hs[i] ps[i] (List.getElem?_eq_getElem i1) (List.getElem?_eq_getElem i2))
    have okp := hok1.2 _ (List.getElem_mem i2)
    have htk : ps.take (i + 1) = ps.take i ++ [ps[i]] := List.take_succ_eq_append_getElem i2
    refine ⟨_, _, _, cell_of c1 0, idx' (hrd.le I.le) (hl.trans hpn.symm) (by omega) (by omega) fun ad had hd => ?_⟩
    simp only [Int.toNat_natCast] at hd ⊢
    generalize hs[i] = hh at *
    generalize ps[i] = x at *
    obtain ⟨p, s0, ⟨ua, un, uc⟩, ⟨ca, cn, cc⟩⟩ := hh
    obtain ⟨p', s', lu, lc⟩ := x
    obtain ⟨hp, hs', hu, hc⟩ := hii
    have hp : p = p' := hp
    have hs' : s0 = s' := hs'
    subst hp hs'
    have hun : un = lu.length := hu.1
    have hcn : cn = lc.length := hc.1
    have hok1 : lu.length ≤ 2 ^ 20 := okp.1
    have hok2 : lc.length ≤ 2 ^ 20 := okp.2
    refine ⟨_, hd 0 _ rfl, _, hd 1 _ rfl, _, _, _, hd 2 _ rfl, _, _, _, hd 3 _ rfl, newA_intro fun g34 m35 hg34 e35 hb34 hle35 => ?_⟩
    refine sto (c := #[.int .i64 0, .int .i64 0, .slice none 0 0, .slice none 0 0]) (t := 38) hb34 rfl (by simp) fun m36 e36 h36 hne36 => ?_
    have h36 : m36 g34 = some (.cells #[.int .i64 p, .int .i64 s0, .slice ua un uc, .slice ca cn cc] 38 (0, 0)) := h36
    have le36 : Mem.le M m36 := by rw [e36, e35, upd_upd]; exact le_upd hg34
    refine newA_intro fun g43 m37 hg43 e37 hb43 hle37 => ?_
    have h37 := hle37 _ _ h36
    have le37 := Mem.le_trans le36 hle37
    refine ⟨_, _, _, cell_of h37 2, ?_⟩
    refine app_sl (α := Up) (s := ⟨some ⟨g43, 0, none⟩, 0, 0⟩) (l := []) (l2 := lu) (D := [g43]) rfl rfl (by decide) (by decide) (by decide) (ownL_empty hb43) hun.symm ((hu.2 : Rd M ua lu).le le37) (by simp; omega) fun su Du m43 hsu hou hoff hfr hnd => ?_
    have fru : ∀ b ∈ Du, m36 b = none := by
      rcases hfr with e | hfr
      · rw [e]; simpa using hg43
      · exact fun b hb => le_none hle37 (hfr b hb)
    have nu : g34 ∉ Du := fun hb => by have := fru _ hb; rw [h36] at this; cases this
    refine sto (c := #[.int .i64 p, .int .i64 s0, .slice ua un uc, .slice ca cn cc]) (t := 38) (by rw [hoff _ nu]; exact h37) rfl (by simp) fun m44 e44 h44 hne44 => ?_
    have h44 : m44 g34 = some (.cells #[.int .i64 p, .int .i64 s0, .slice su.a (0 + un) su.c, .slice ca cn cc] 38 (0, 0)) := h44
    have l44 : Mem.le M m44 := le_other (le_off le37 (fun b hb => le_none le36 (fru b hb)) hoff) hg34 hne44
    have ou44 : OwnL m44 su ([] ++ lu) Du := hou.ext fun b hb => hne44 b (by rintro rfl; exact nu hb)
    refine newA_intro fun g53 m54 hg53 e54 hb53 hle54 => ?_
    have h54 := hle54 _ _ h44
    have l54 := Mem.le_trans l44 hle54
    refine ⟨_, _, _, cell_of h54 3, ?_⟩
    refine app_sl (α := Ins) (s := ⟨some ⟨g53, 0, none⟩, 0, 0⟩) (l := []) (l2 := lc) (D := [g53]) rfl rfl (by decide) (by decide) (by decide) (ownL_empty hb53) hcn.symm ((hc.2 : Rd M ca lc).le l54) (by simp; omega) fun sc Dc m51 hsc hoc hoff2 hfr2 hnd2 => ?_
    have frc : ∀ b ∈ Dc, m44 b = none := by
      rcases hfr2 with e | hfr
      · rw [e]; simpa using hg53
      · exact fun b hb => le_none hle54 (hfr b hb)
    have nc : g34 ∉ Dc := fun hb => by have := frc _ hb; rw [h44] at this; cases this
    refine sto (c := #[.int .i64 p, .int .i64 s0, .slice su.a (0 + un) su.c, .slice ca cn cc]) (t := 38) (by rw [hoff2 _ nc]; exact h54) rfl (by simp) fun m52 e52 h52 hne52 => ?_
    have h52 : m52 g34 = some (.cells #[.int .i64 p, .int .i64 s0, .slice su.a (0 + un) su.c, .slice sc.a (0 + cn) sc.c] 38 (0, 0)) := h52
    have l52 : Mem.le M m52 := le_other (le_off l54 (fun b hb => le_none l44 (frc b hb)) hoff2) hg34 hne52
    have b12 := l52 _ _ I.b12
    refine ⟨_, _, _, cell_of b12 0, _, cell_of h52 0, _, cell_of h52 1, _, _, _, cell_of h52 2, _, _, _, cell_of h52 3, newA_intro fun g69 m70 hg69 e70 hb69 hle70 => ?_⟩
    have hsu : su.n = 0 + un := hsu
    have hsc : sc.n = 0 + cn := hsc
    rw [← hsu, ← hsc] at hb69
    have dis : ∀ b ∈ Du, b ∉ Dc := fun b hb hb' => by
      obtain ⟨o, ho⟩ := ou44.live b hb
      rw [frc b hb'] at ho
      cases ho
    have frE : ∀ b ∈ Du ++ Dc, M b = none := by
      intro b hb
      rcases List.mem_append.1 hb with hb | hb
      · exact le_none le36 (fru b hb)
      · exact le_none l44 (frc b hb)
    have ou54 : OwnL m54 su ([] ++ lu) Du := ou44.ext fun b hb => by
      obtain ⟨o, ho⟩ := ou44.live b hb
      rw [ho]
      exact hle54 _ _ ho
    refine cp_push (x := (p, s0, lu, lc)) (h' := (p, s0, su, sc)) (E := Du ++ Dc) I (Mem.le_trans l52 hle70) ⟨[], _, rfl, ⟨rfl, rfl⟩, [], _, rfl, ⟨rfl, rfl⟩, Du, Dc, rfl, ?_, ?_⟩ ?_ frE hb69 (le_none l52 hg69) (by simp; omega) fun M' s' D' I' kb => ?_
    · exact dUp.own_le hle70 ((ou54.ext fun b hb => by rw [hne52 b (by rintro rfl; exact nu hb), hoff2 b (dis b hb)]) : OwnL m52 su lu Du)
    · exact dIns.own_le hle70 ((hoc.ext fun b hb => hne52 b (by rintro rfl; exact nc hb)) : OwnL m52 sc lc Dc)
    · exact List.nodup_append.2 ⟨hnd, hnd2, fun b hb b' hb' e => dis b hb (e ▸ hb')⟩
    · rw [wsucc (n := pn) (by omega) (by omega)]
      exact ih (i + 1) (by omega) M' s' D' (kb _ _ c1 n112 k1).1 (kb _ _ c1 n112 k1).2 (by rw [htk]; exact I')
end Go.Proofs.Ytcbjdodehjpddaa.Abs
