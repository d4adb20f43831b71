/- Modules: the reference's function that lays what is used of a module; its middle parts. -/
import Derived.Test.YtcbjdodehjpddaaOg
namespace Go.Proofs.Ytcbjdodehjpddaa.Abs
open Go.RowKit
set_option linter.unusedVariables false
set_option linter.unusedSimpArgs false
set_option linter.unusedSectionVars false
set_option maxRecDepth 20000
set_option maxHeartbeats 400000

section
variable (t : Tab) (h46 : look t 46 = s46) {m0 mb : Mem} {Q : Value → Mem → Prop} {g1 g3 gk gt go ga gb np nt : Nat} {R : US} {ps : List Pr} {ts : List ByteArray} {hm : Sl × Sl}
  (h0 : Mem.le m0 mb) (h1 : mb g1 = some (.cells #[vs hm.1, vs hm.2] 55 (0, 0))) (h3 : mb g3 = some (.cells #[.slice none 0 0, .slice none 0 0] 55 (0, 0))) (hg3 : m0 g3 = none) (hM : dMo.At mb hm (ps, ts))
  (hk : mb gk = some (.cells (flat Enc.e R.1).toArray 4 (0, 0))) (ht : mb gt = some (.cells (flat Enc.e R.2.1).toArray 4 (0, 0)))
  (I : UI np nt R) (hnp : np = ps.length) (hnt : nt = ts.length) (hcl : ∀ (i : Nat) (p : Pr), R.1[i]? = some true → ps[i]? = some p → ∀ x ∈ p.2.2.2, clX R x) (hoX : okPsX ps ts.length) (hok : okM (ps, ts))
  (hq : ∀ (h' : dMo.H) (D : List Nat) (m' : Mem), Mem.le m0 m' → (∀ b ∈ D, m0 b = none) → D.Nodup → dMo.Own m' h' ((sel R.1 ps).map (unP R), sel R.2.1 ts) D → Q (vM h') m')
include h46 h0 h1 h3 hg3 hM hk I hnp hnt hcl hoX hok hq

theorem loop73_26 : ∀ d i, i + d = ps.length → ∀ (M : Mem) (D Dt : List Nat) (s st : Sl), Ou mb M go ga gb (rkV R.1 i) (rkV R.2.1 R.2.1.length) (sel (R.1.take i) (ps.take i)) (sel R.2.1 ts) s st D Dt →
    L73_26 (look t) (d + 1) Q g1 g3 (some ⟨gk, 0, none⟩) np np go (some ⟨ga, 0, none⟩) np np (some ⟨gb, 0, none⟩) nt nt (i : Int) M := by
  obtain ⟨⟨pa, pn, pc⟩, ⟨ta, tn, tc⟩⟩ := hm
  obtain ⟨⟨hpn, (hs : List PH), hl, hrd, hat⟩, htx⟩ := id hM
  have hpn : pn = ps.length := hpn
  have hl : hs.length = ps.length := hl
  have hrd : Rd mb pa hs := hrd
  have hlen : ps.length ≤ 2 ^ 20 := hok.1.1
  have hRk : R.1.length = ps.length := I.lk.trans hnp
  intro d
  induction d with
  | zero =>
    intro i hi M D Dt s st O
    rw [l73_26]
    refine ⟨M, Mem.le_refl _, ?_⟩
    rw [if_neg (by simp; omega)]
    rw [List.take_of_length_le (by omega), List.take_of_length_le (by omega), show i = R.1.length by omega] at O
    have hsl := sel_length_le R.1 ps
    have hPm : ∀ p ∈ sel R.1 ps, (∀ x ∈ p.2.2.2, clX R x ∧ okX np nt x) ∧ p.2.2.2.length ≤ 2 ^ 20 := by
      intro p hp
      obtain ⟨k, hk1, hk2⟩ := sel_mem _ _ _ hp
      have hmem := List.mem_of_getElem? hk2
      refine ⟨fun x hx => ⟨hcl k p hk1 hk2 x hx, ?_⟩, (hok.1.2 p hmem).2⟩
      rw [hnp, hnt]
      exact hoX p hmem x hx
    have hsn : s.n = (sel R.1 ps).length := by
      obtain ⟨hs', Es, D0, h1', h2', _, h3', _⟩ := O.o
      exact h3'.1.trans h1'
    exact ⟨(sel R.1 ps).length + 1, loop73_32 t (m0 := m0) (mb := mb) (Q := Q) (g3 := g3) (go := go) (ga := ga) (gb := gb) (np := np) (nt := nt) (R := R) (P := sel R.1 ps) (T := sel R.2.1 ts) h0 h3 hg3 I (fun p hp => (hPm p hp).1) (by omega) (fun p hp => (hPm p hp).2) hq hsn (sel R.1 ps).length 0 (by omega) M D Dt st (by rw [psA_zero]; exact O)⟩
  | succ d ih =>
    intro i hi M D Dt s st O
    rw [l73_26]
    refine ⟨M, Mem.le_refl _, ?_⟩
    rw [if_pos (by simp; omega)]
    have i1 : i < hs.length := by omega
    have i2 : i < ps.length := by omega
    have i3 : i < R.1.length := by omega
    have hii := hat i hs[i] ps[i] (List.getElem?_eq_getElem i1) (List.getElem?_eq_getElem i2)
    have okp := hok.1.2 _ (List.getElem_mem i2)
    have hsel := sel_take_succ R.1 ps i i2 i3
    have hstep := rkV_step R.1 i i3
    have hrk := sel_take_length hRk i
    have hkg : R.1[i]? = some R.1[i] := List.getElem?_eq_getElem i3
    have wi := wsucc (i := i) (n := ps.length) i2 (by omega)
    have hsn : s.n = (sel (R.1.take i) (ps.take i)).length := by
      obtain ⟨hs', Es, D0, h1', h2', _, h3', _⟩ := O.o
      exact h3'.1.trans h1'
    refine ⟨_, _, _, cell_of O.bo 0, by omega, by omega, ?_⟩
    refine O.setA (i := i) (x := (s.n : Int)) (by rw [add_eq rfl, Nat.zero_add]; simp) (by rw [rkV_len _ _ (by omega)]; exact i3) fun m132 O2 ho2 => ?_
    rw [hsn, hrk, hstep] at O2
    refine ⟨by omega, by omega, _, rowAt1 (α := Bool) (O2.le _ _ hk) hkg rfl, ?_⟩
    have hdx : ∀ K : Addr → Prop, (∀ ad, (∀ (j : Nat) (v : Value), (Enc.e hs[i])[j]? = some v → mb.cell? ((ad.add (i * 4)).add j) = some v) → K ad) → optA pa fun ad => 0 ≤ (i : Int) ∧ (i : Int) < (pn : Int) ∧ K ad := by
      intro K hK
      exact idx' hrd (hl.trans hpn.symm) (by omega) (by omega) fun ad had hd => hK ad hd
    generalize hs[i] = hh at *
    generalize ps[i] = x at *
    generalize R.1[i] = b at *
    obtain ⟨p, s0, ⟨ua, un, uc⟩, ⟨ca, cn, cc⟩⟩ := hh
    cases b with
    | false =>
      rw [if_neg (by decide), wi]
      rw [if_neg (by decide), List.append_nil] at hsel
      exact ih (i + 1) (by omega) m132 D Dt s st (by rw [hsel]; exact O2)
    | true =>
      rw [if_pos rfl]
      rw [if_pos rfl] at hsel
      refine ⟨fun q => Mem.le mb q ∧ q go = some (.cells #[vs s, vs st] 55 (0, 0)), ⟨O2.le, O2.bo⟩, _, _, _, fun q hq => cell_of hq.2 0, _, _, _, fun q hq => cell_of (hq.1 _ _ h1) 0, ?_⟩
      refine hdx _ fun ad hd => ?_
      simp only [Int.toNat_natCast]
      refine ⟨_, fun q hq => cell_le hq.1 (by rw [← hd 0 _ rfl]; simp [Addr.add]), _, fun q hq => cell_le hq.1 (hd 1 _ rfl), _, _, _, fun q hq => cell_le hq.1 (hd 2 _ rfl), _, _, _, fun q hq => cell_le hq.1 (hd 3 _ rfl), ?_⟩
      refine via h46 ⟨(p, s0, ⟨ua, un, uc⟩, ⟨ca, cn, cc⟩), x, rfl, dPr.at_le O2.le hii, okp, fun (h' : PH) E m159 hle159 hfrE hEn hEo => ?_⟩
      obtain ⟨p', s', ⟨ua', un', uc'⟩, ⟨ca', cn', cc'⟩⟩ := h'
      refine ⟨_, _, _, _, _, _, _, _, rfl, ⟨Mem.le_trans O2.le hle159, hle159 _ _ O2.bo⟩, newA_intro fun g168 m169 hg168 e169 hb169 hle169 => ⟨⟨Mem.le_trans O2.le (Mem.le_trans hle159 hle169), hle169 _ _ (hle159 _ _ O2.bo)⟩, ?_⟩⟩
      have l169 := Mem.le_trans hle159 hle169
      have O3 := O2.mono l169
      have hfr' : ∀ b ∈ E, mb b = none ∧ b ∉ go :: ga :: gb :: (D ++ Dt) := fun b hb => by
        refine ⟨le_none O2.le (hfrE b hb), fun h => ?_⟩
        have hn := hfrE b hb
        simp only [List.mem_cons, List.mem_append] at h
        rcases h with rfl | rfl | rfl | h | h
        · rw [O2.bo] at hn; cases hn
        · rw [O2.ba] at hn; cases hn
        · rw [O2.bb] at hn; cases hn
        · obtain ⟨o, ho⟩ := dPrs.live O2.o b h; rw [ho] at hn; cases hn
        · obtain ⟨o, ho⟩ := dTx.live O2.ot b h; rw [ho] at hn; cases hn
      have hsl := sel_length_le (R.1.take i) (ps.take i)
      have htl : (ps.take i).length ≤ ps.length := by rw [List.length_take]; omega
      refine O3.pushP (h' := (p', s', ⟨ua', un', uc'⟩, ⟨ca', cn', cc'⟩)) (x := x) (E := E) (M0 := m159) hb169 (by omega) (dPr.own_le hle169 hEo) hEn hfr' fun s1 D1 M1 hoff1 hk1 hgo1 hfin => ?_
      have leM1 : Mem.le mb M1 := by
        intro b o ho
        have hb1 : b ∉ D := fun h => by have := O.fr b (by simp [h]); rw [ho] at this; cases this
        have hb2 : b ∉ E := fun h => by have := (hfr' b h).1; rw [ho] at this; cases this
        exact hk1 b o (O3.le _ _ ho) hb1 hb2
      refine ⟨⟨leM1, hgo1⟩, ?_⟩
      refine sto (c := #[vs s, vs st]) (t := 55) hgo1 rfl (by simp) fun m173 e173 h173 hne173 => ?_
      have h173 : m173 go = some (.cells #[.slice s1.a (s.n + 1) s1.c, vs st] 55 (0, 0)) := h173
      rw [wi]
      exact ih (i + 1) (by omega) m173 D1 Dt s1 st (by rw [hsel]; exact hfin m173 h173 hne173)

include ht
theorem loop73_20 : ∀ d i, i + d = ts.length → ∀ (M : Mem) (Dt : List Nat) (st : Sl), Ou mb M go ga gb (rkV R.1 0) (rkV R.2.1 i) [] (sel (R.2.1.take i) (ts.take i)) ⟨none, 0, 0⟩ st [] Dt →
    L73_20 (look t) (d + 1) Q g1 g3 (some ⟨gk, 0, none⟩) np np (some ⟨gt, 0, none⟩) nt nt go (some ⟨ga, 0, none⟩) np np (some ⟨gb, 0, none⟩) nt nt (i : Int) M := by
  have L26 := loop73_26 t h46 h0 h1 h3 hg3 hM hk I hnp hnt hcl hoX hok hq (go := go) (ga := ga) (gb := gb)
  obtain ⟨⟨pa, pn, pc⟩, ⟨ta, tn, tc⟩⟩ := hm
  obtain ⟨_, htn, htr⟩ := id hM
  have htn : tn = ts.length := htn
  have htr : Rd mb ta ts := htr
  have hlen : ts.length ≤ 2 ^ 20 := hok.2
  have hRt : R.2.1.length = ts.length := I.lt.trans hnt
  intro d
  induction d with
  | zero =>
    intro i hi M Dt st O
    rw [l73_20]
    refine ⟨M, Mem.le_refl _, ?_⟩
    rw [if_neg (by simp; omega)]
    rw [List.take_of_length_le (by omega), List.take_of_length_le (by omega), show i = R.2.1.length by omega] at O
    exact ⟨ps.length + 1, L26 ps.length 0 (by omega) M [] Dt ⟨none, 0, 0⟩ st O⟩
  | succ d ih =>
    intro i hi M Dt st O
    rw [l73_20]
    refine ⟨M, Mem.le_refl _, ?_⟩
    rw [if_pos (by simp; omega)]
    have i2 : i < ts.length := by omega
    have i3 : i < R.2.1.length := by omega
    have hsel := sel_take_succ R.2.1 ts i i2 i3
    have hstep := rkV_step R.2.1 i i3
    have hrk := sel_take_length hRt i
    have hkg : R.2.1[i]? = some R.2.1[i] := List.getElem?_eq_getElem i3
    have wi := wsucc (i := i) (n := ts.length) i2 (by omega)
    have hsn : st.n = (sel (R.2.1.take i) (ts.take i)).length := O.ot.1
    refine ⟨_, _, _, cell_of O.bo 1, by omega, by omega, ?_⟩
    refine O.setB (i := i) (x := (st.n : Int)) (by rw [add_eq rfl, Nat.zero_add]; simp) (by rw [rkV_len _ _ (by omega)]; exact i3) fun m103 O2 ho2 => ?_
    rw [hsn, hrk, hstep] at O2
    refine ⟨by omega, by omega, _, rowAt1 (α := Bool) (O2.le _ _ ht) hkg rfl, ?_⟩
    have hdx : ∀ K : Addr → Prop, (∀ ad, (∀ (j : Nat) (v : Value), (Enc.e ts[i])[j]? = some v → mb.cell? ((ad.add (i * 1)).add j) = some v) → K ad) → optA ta fun ad => 0 ≤ (i : Int) ∧ (i : Int) < (tn : Int) ∧ K ad := by
      intro K hK
      exact idx' htr htn.symm (by omega) (by omega) fun ad had hd => hK ad hd
    generalize ts[i] = x at *
    generalize R.2.1[i] = b at *
    cases b with
    | false =>
      rw [if_neg (by decide), wi]
      rw [if_neg (by decide), List.append_nil] at hsel
      exact ih (i + 1) (by omega) m103 Dt st (by rw [hsel]; exact O2)
    | true =>
      rw [if_pos rfl]
      rw [if_pos rfl] at hsel
      refine ⟨fun q => Mem.le mb q ∧ q go = some (.cells #[vs ⟨none, 0, 0⟩, vs st] 55 (0, 0)), ⟨O2.le, O2.bo⟩, _, _, _, fun q hq => cell_of hq.2 1, _, _, _, fun q hq => cell_of (hq.1 _ _ h1) 1, ?_⟩
      refine hdx _ fun ad hd => ?_
      simp only [Int.toNat_natCast]
      refine ⟨_, fun q hq => cell_le hq.1 (by rw [← hd 0 _ rfl]; simp [Addr.add]), newA_intro fun g119 m120 hg119 e120 hb120 hle120 => ⟨⟨Mem.le_trans O2.le hle120, hle120 _ _ O2.bo⟩, ?_⟩⟩
      have O3 := O2.mono hle120
      have hsl := sel_length_le (R.2.1.take i) (ts.take i)
      have htl : (ts.take i).length ≤ ts.length := by rw [List.length_take]; omega
      refine O3.pushT hb120 (by omega) fun s1 D1 M1 hoff1 hk1 hgo1 hfin => ?_
      have leM1 : Mem.le mb M1 := by
        intro b o ho
        have hb1 : b ∉ Dt := fun h => by have := O.fr b (by simp [h]); rw [ho] at this; cases this
        exact hk1 b o (O3.le _ _ ho) hb1
      refine ⟨⟨leM1, hgo1⟩, ?_⟩
      refine sto (c := #[vs ⟨none, 0, 0⟩, vs st]) (t := 55) (k := 1) hgo1 rfl (by simp) fun m124 e124 h124 hne124 => ?_
      have h124 : m124 go = some (.cells #[vs ⟨none, 0, 0⟩, .slice s1.a (st.n + 1) s1.c] 55 (0, 0)) := h124
      rw [wi]
      exact ih (i + 1) (by omega) m124 D1 s1 (by rw [hsel]; exact hfin m124 h124 hne124)
end
end Go.Proofs.Ytcbjdodehjpddaa.Abs
