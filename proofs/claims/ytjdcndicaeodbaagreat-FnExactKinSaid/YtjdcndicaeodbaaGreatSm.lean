/- Arenas: what can be reached: the reference's function. -/
import Derived.Test.YtjdcndicaeodbaaGreatSl
namespace Go.Proofs.YtjdcndicaeodbaaGreat.Abs
open Go.RowKit
set_option linter.unusedVariables false
set_option linter.unusedSimpArgs false
set_option maxRecDepth 20000
def stp3 (e : Stp) : Int × Int × Int := (e.p, e.frm, e.slot)
/-- What stands in memory while one goes over what can be reached. -/
structure StR (m0 M : Mem) (gd n : Nat) (ls : Sl) (D : List Nat) (seen : List Int) (S : List Stp) : Prop where
  le : Mem.le m0 M
  l : ∃ row, M gd = some (rowB row 4) ∧ RLed n row seen
  o : OwnL M ls (S.map stp3) D
  fr : ∀ b ∈ D, m0 b = none
  nd : gd ∉ D
  g0 : m0 gd = none
theorem StR.mono {m0 M M' : Mem} {gd n : Nat} {ls : Sl} {D : List Nat} {seen : List Int} {S : List Stp} (h : StR m0 M gd n ls D seen S) (hl : Mem.le M M') : StR m0 M' gd n ls D seen S := by
  obtain ⟨row, k1, k2⟩ := h.l
  exact ⟨Mem.le_trans h.le hl, ⟨row, hl _ _ k1, k2⟩, (Ds.rows (Int × Int × Int)).own_le hl h.o, h.fr, h.nd, h.g0⟩
theorem StR.mark {m0 M M' : Mem} {gd n : Nat} {ls : Sl} {D : List Nat} {seen seen' : List Int} {S : List Stp} {row : List Bool} (h : StR m0 M gd n ls D seen S) (k : M' gd = some (rowB row 4)) (hr : RLed n row seen') (he : ∀ b, b ≠ gd → M' b = M b) : StR m0 M' gd n ls D seen' S :=
  ⟨le_put h.le h.g0 he, ⟨row, k, hr⟩, h.o.ext fun b hb => he b fun e => h.nd (e ▸ hb), h.fr, h.nd, h.g0⟩
theorem StR.app {m0 M : Mem} {gd n : Nat} {ls : Sl} {D : List Nat} {seen : List Int} {S : List Stp} (h : StR m0 M gd n ls D seen S) {p frm slot : Int} {way : List Int} {g : Nat} {ty : TypeId} {K : Option Addr → Nat → Mem → Prop} (hb : M g = some (.cells #[.int .i64 p, .int .i64 frm, .int .i64 slot] ty (0, 0))) (hl : S.length ≤ 2 ^ 30)
    (hK : ∀ (ls' : Sl) (M' : Mem) (D' : List Nat), ls'.n = ls.n + 1 → StR m0 M' gd n ls' D' seen (S ++ [⟨p, frm, slot, way⟩]) → (∀ b o, b ∉ D → M b = some o → M' b = some o) → K ls'.a ls'.c M') :
    appR M ls.a ls.n ls.c (some ⟨g, 0, none⟩) 1 3 24 #[.int .i64 0, .int .i64 0, .int .i64 0] 87 K := by
  refine app_sl (α := Int × Int × Int) (l := S.map stp3) (l2 := [(p, frm, slot)]) (D := D) rfl rfl (by decide) (by decide) (by decide) h.o rfl (Rd.of_block (spare := []) hb (by rfl)) (by rw [List.length_map]; omega) fun s' D' M' hsn hO' hoff hfr hnd' => ?_
  have hD' : ∀ b ∈ D', m0 b = none := by
    rcases hfr with rfl | hfr
    · exact h.fr
    · exact fun b hb' => le_none h.le (hfr b hb')
  have frame : ∀ b o, b ∉ D → M b = some o → M' b = some o := fun b o hb ho => by
    have : b ∉ D' := by
      rcases hfr with rfl | hfr
      · exact hb
      · exact fun hb' => by rw [hfr b hb'] at ho; cases ho
    rw [hoff b this]; exact ho
  obtain ⟨row, k1, k2⟩ := h.l
  have hgd' : gd ∉ D' := by
    rcases hfr with rfl | hfr
    · exact h.nd
    · exact fun hb' => by rw [hfr _ hb'] at k1; cases k1
  refine hK s' M' D' hsn ⟨le_off h.le hD' hoff, ⟨row, frame _ _ h.nd k1, k2⟩, ?_, hD', hgd', h.g0⟩ frame
  rw [List.map_append]
  exact hO'
theorem stp_get {m : Mem} {ls : Sl} {S : List Stp} {i : Nat} {e : Stp} {K : Addr → Prop} (hn : ls.n = S.length) (hR : Rd m ls.a (S.map stp3)) (he : S[i]? = some e) (hK : ∀ ad, (∀ q : Mem, Mem.le m q → q.cell? (ad.add (i * 3)) = some (.int .i64 e.p) ∧ q.cell? ((ad.add (i * 3)).add 1) = some (.int .i64 e.frm) ∧ q.cell? ((ad.add (i * 3)).add 2) = some (.int .i64 e.slot)) → K ad) :
    optA ls.a fun ad => 0 ≤ (i : Int) ∧ (i : Int) < (ls.n : Int) ∧ K ad := by
  have hlt := (List.getElem?_eq_some_iff.1 he).1
  refine idx' (i := (i : Int)) hR (by rw [List.length_map, hn]) (by omega) (by omega) fun ad had hd => hK ad fun q hq => ?_
  simp only [Int.toNat_natCast, List.getElem_map] at hd
  have e1 : S[i] = e := (List.getElem?_eq_some_iff.1 he).2
  rw [e1] at hd
  exact ⟨cell_le hq (hd 0 (.int .i64 e.p) rfl), cell_le hq (hd 1 (.int .i64 e.frm) rfl), cell_le hq (hd 2 (.int .i64 e.slot) rfl)⟩
theorem slots_loop (t : Tab) (h122 : look t 122 = s122) (h120 : look t 120 = s120) (h123 : look t 123 = s123) {Q : Value → Mem → Prop} {s r sl : Sl} {a : Ar} {mk : List Int} {m0 : Mem} {g gd nf iN : Nat} {p : Int} {way : List Int} (hw : a.wf) (hk : OkM a mk) (hP : Ptr m0 g s r a) (hA0 : ArAt m0 s r a)
    (hsn : sl.n = slotN a.ws p) (hsR : Rd m0 sl.a (slotsL (kdW a.ws p) (szW a.ws p))) (p0 : 0 ≤ p) (p1 : p < a.ws.length) (hp : hdM mk p) {st1 : List Int × List Stp}
    (hQ : ∀ (ls' : Sl) (M' : Mem) (D' : List Nat), StR m0 M' gd a.ws.length ls' D' st1.1 st1.2 → L54_11 (look t) nf Q g (some ⟨gd, 0, none⟩) a.ws.length a.ws.length ls'.a ls'.n ls'.c (IntKind.i64.wrap ((iN : Int) + 1)) M') :
    ∀ (d k : Nat) (st : List Int × List Stp) (ls : Sl) (D : List Nat) (M : Mem), k + d = slotN a.ws p → comeS a.ws p (iN : Int) way d k st = st1 → BI a mk st → (∃ e, st.2[iN]? = some e ∧ e.p = p ∧ e.way = way) → StR m0 M gd a.ws.length ls D st.1 st.2 →
      L54_16 (look t) nf (d + 1) Q g (some ⟨gd, 0, none⟩) a.ws.length a.ws.length ls.a ls.n ls.c (iN : Int) sl.a sl.n sl.c (k : Int) M := by
  have hN := hw.n
  have hsl : slotN a.ws p = (slotsL (kdW a.ws p) (szW a.ws p)).length := rfl
  have hT0 := tile_ok hw hk.N hk.t
  have bp := look_b hw p
  have hsb : slotN a.ws p ≤ 65536 := by
    unfold slotN slotsL
    rw [everyK_len]
    have hH := hT0.head p0 (by have := hT0.n; omega) hp
    obtain ⟨e1, e2, e3, e4⟩ := hH.look hw
    have := kinds e2
    unfold numK fromK
    unfold kdW at *
    unfold szW at *
    rcases this with h | h | h | h | h | h <;> rw [h] <;> simp <;> omega
  intro d
  induction d with
  | zero =>
    intro k st ls D M hkd hc hI he hT
    rw [l54_16]
    refine ⟨M, Mem.le_refl _, ?_⟩
    rw [if_neg (by simp; omega)]
    have hc : st = st1 := hc
    subst hc
    exact hQ ls M D hT
  | succ d ih =>
    intro k st ls D M hkd hc hI he hT
    obtain ⟨e, he, hep, hew⟩ := he
    unfold comeS at hc
    have hkl : k < slotN a.ws p := by omega
    obtain ⟨hv, x1, x2, x3⟩ := slot_vok hw hk p0 p1 hp hkl
    obtain ⟨v, hvd⟩ : ∃ v, v = valW a.ws (p + slotAt a.ws p k) := ⟨_, rfl⟩
    rw [← hvd] at hv hc
    have hf : frmOk st.2 (iN : Int) way := .inr ⟨iN, e, rfl, he, hew.symm⟩
    have hI2 := hI.come (slot := (k : Int)) hv hf
    have nx : ∀ (ls' : Sl) (M' : Mem) (D' : List Nat), StR m0 M' gd a.ws.length ls' D' (come a.ws st v (iN : Int) (k : Int) way).1 (come a.ws st v (iN : Int) (k : Int) way).2 → L54_16 (look t) nf (d + 1) Q g (some ⟨gd, 0, none⟩) a.ws.length a.ws.length ls'.a ls'.n ls'.c (iN : Int) sl.a sl.n sl.c (IntKind.i64.wrap ((k : Int) + 1)) M' := by
      intro ls' M' D' hT'
      rw [wsucc (n := 65536) (by omega) (by decide)]
      exact ih (k + 1) _ ls' D' M' (by omega) (by rw [← hc]; rfl) hI2 ⟨e, pre_get (come_pre ..) he, hep, hew⟩ hT'
    have hb1 := hT.le _ _ hP
    have hA := hA0.le hT.le
    have hn := hA0.n
    have er : readV a.ws (p + slotAt a.ws p k) = (v, true) := by unfold readV; rw [← hvd, hv.ok]; rfl
    generalize hi : (iN : Int) = i at *
    rw [l54_16]
    refine ⟨M, Mem.le_refl _, ?_⟩
    rw [if_pos (by simp; omega)]
    have hSn : ls.n = st.2.length := by have := hT.o.1; rwa [List.length_map] at this
    refine ⟨Mem.le M, Mem.le_refl _, _, _, _, held (cell_of hb1 0), ?_⟩
    rw [← hi]
    refine stp_get hSn hT.o.rd he fun ad had => ⟨_, fun q hq => (had q hq).1, ?_⟩
    rw [hep]
    refine li (hsR.le hT.le) (by omega) (by omega) (by omega) fun ad' had' hd' => ⟨_, hd', ?_⟩
    have eg : gi (slotsL (kdW a.ws p) (szW a.ws p)) (k : Int) = slotAt a.ws p k := rfl
    rw [eg, w64 (x := p + slotAt a.ws p k) (by omega) (by omega), hi]
    constructor
    · refine via h122 ⟨s, a.ws, _, rfl, hn, hA.w, hw.w, hN, by omega, by omega, _, _, _, rfl, Mem.le_refl _, newA_intro fun g2 m2 hg2 e2 hb2 hle2 => ⟨hle2, sto (c := #[.int .i64 0, .int .i64 0]) (t := 52) hb2 rfl (by simp) fun m3 e3 h3 hne3 => ?_⟩⟩
      rw [er] at h3
      have h3 : m3 g2 = some (.cells #[.int .i64 v.1, .int .i64 v.2] 52 (0, 0)) := h3
      have l3 : Mem.le M m3 := fun b o hb => by
        have : b ≠ g2 := fun e => by rw [e, hg2] at hb; cases hb
        rw [hne3 b this]; exact hle2 _ _ hb
      have T3 := hT.mono l3
      refine ⟨l3, _, cell_of h3 0, _, cell_of h3 1, via h120 ⟨v, rfl, _, rfl, ?_⟩⟩
      have hb1 := T3.le _ _ hP
      unfold Abs.come at nx
      cases hr : isRefB v with
      | false =>
        rw [if_pos (by decide)]
        rw [hr, if_neg (fun h => by cases h.1)] at nx
        exact nx _ _ _ T3
      | true =>
      rw [if_neg (by decide)]
      obtain ⟨r1, r2, r3, r4, r5, r6⟩ := hv.r hr
      refine ⟨_, _, _, cell_of hb1 0, _, cell_of hb1 1, _, cell_of hb1 2, _, cell_of hb1 3, _, cell_of hb1 4, _, cell_of hb1 5, _, cell_of hb1 6, _, cell_of hb1 7, _, cell_of hb1 8, _, _, _, cell_of hb1 9, _, cell_of h3 1, via h123 ⟨s, r, a, _, rfl, ⟨hA0.le T3.le, hw, by omega, r2⟩, _, rfl, ?_⟩⟩
      obtain ⟨row, k1, k2⟩ := T3.l
      refine rl (Rd.of_block (spare := []) k1 (by simp)) k2.1 r3 r4 fun ad had hd => ⟨_, hd _ (Mem.le_refl _), ?_⟩
      have hbi := k2.2 _ r3 r4
      by_cases c : whereW a.ws v.2 ∈ st.1
      · rw [hbi.2 c, if_neg (by decide)]
        rw [if_neg (fun h => h.2 c)] at nx
        exact nx _ _ _ T3
      · have hf : row.getD (whereW a.ws v.2).toNat false = false := by
          cases e : row.getD (whereW a.ws v.2).toNat false with
          | true => exact absurd (hbi.1 e) c
          | false => rfl
        rw [hf, if_pos (by decide)]
        rw [if_pos ⟨hr, c⟩] at nx
        refine set_led k1 r3 (by have := k2.1; omega) k2.1 fun M4 k4 e4 => newA_intro fun g5 m5 hg5 e5 hb5 hle5 => ?_
        have T4 := (T3.mark k4 (k2.put r3 r4) e4).mono hle5
        refine T4.app (frm := i) (slot := (k : Int)) (way := way ++ [(k : Int)]) hb5 (by have := hI.len; omega) fun ls' M' D' hsn hT' _ => ?_
        rw [← hsn]
        exact nx ls' M' D' hT'
    · refine newA_intro fun g2 m2 hg2 e2 hb2 hle2 => ⟨hle2, via h122 ⟨s, a.ws, _, rfl, hn, hA.w.le hle2, hw.w, hN, by omega, by omega, _, _, _, rfl, hle2, sto (c := #[.int .i64 0, .int .i64 0]) (t := 52) hb2 rfl (by simp) fun m3 e3 h3 hne3 => ?_⟩⟩
      rw [er] at h3
      have h3 : m3 g2 = some (.cells #[.int .i64 v.1, .int .i64 v.2] 52 (0, 0)) := h3
      have l3 : Mem.le M m3 := fun b o hb => by
        have : b ≠ g2 := fun e => by rw [e, hg2] at hb; cases hb
        rw [hne3 b this]; exact hle2 _ _ hb
      have T3 := hT.mono l3
      refine ⟨l3, _, cell_of h3 0, _, cell_of h3 1, via h120 ⟨v, rfl, _, rfl, ?_⟩⟩
      have hb1 := T3.le _ _ hP
      unfold Abs.come at nx
      cases hr : isRefB v with
      | false =>
        rw [if_pos (by decide)]
        rw [hr, if_neg (fun h => by cases h.1)] at nx
        exact nx _ _ _ T3
      | true =>
      rw [if_neg (by decide)]
      obtain ⟨r1, r2, r3, r4, r5, r6⟩ := hv.r hr
      refine ⟨_, _, _, cell_of hb1 0, _, cell_of hb1 1, _, cell_of hb1 2, _, cell_of hb1 3, _, cell_of hb1 4, _, cell_of hb1 5, _, cell_of hb1 6, _, cell_of hb1 7, _, cell_of hb1 8, _, _, _, cell_of hb1 9, _, cell_of h3 1, via h123 ⟨s, r, a, _, rfl, ⟨hA0.le T3.le, hw, by omega, r2⟩, _, rfl, ?_⟩⟩
      obtain ⟨row, k1, k2⟩ := T3.l
      refine rl (Rd.of_block (spare := []) k1 (by simp)) k2.1 r3 r4 fun ad had hd => ⟨_, hd _ (Mem.le_refl _), ?_⟩
      have hbi := k2.2 _ r3 r4
      by_cases c : whereW a.ws v.2 ∈ st.1
      · rw [hbi.2 c, if_neg (by decide)]
        rw [if_neg (fun h => h.2 c)] at nx
        exact nx _ _ _ T3
      · have hf : row.getD (whereW a.ws v.2).toNat false = false := by
          cases e : row.getD (whereW a.ws v.2).toNat false with
          | true => exact absurd (hbi.1 e) c
          | false => rfl
        rw [hf, if_pos (by decide)]
        rw [if_pos ⟨hr, c⟩] at nx
        refine set_led k1 r3 (by have := k2.1; omega) k2.1 fun M4 k4 e4 => newA_intro fun g5 m5 hg5 e5 hb5 hle5 => ?_
        have T4 := (T3.mark k4 (k2.put r3 r4) e4).mono hle5
        refine T4.app (frm := i) (slot := (k : Int)) (way := way ++ [(k : Int)]) hb5 (by have := hI.len; omega) fun ls' M' D' hsn hT' _ => ?_
        rw [← hsn]
        exact nx ls' M' D' hT'
end Go.Proofs.YtjdcndicaeodbaaGreat.Abs
