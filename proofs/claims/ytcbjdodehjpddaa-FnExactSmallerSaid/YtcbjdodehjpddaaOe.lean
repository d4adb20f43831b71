/- Modules: the program's function that lays what is used of a module; its middle parts. -/
import Derived.Test.YtcbjdodehjpddaaOd
namespace Go.Proofs.Ytcbjdodehjpddaa.Abs
open Go.RowKit
set_option linter.unusedVariables false
set_option linter.unusedSimpArgs false
set_option linter.unusedSectionVars false
set_option maxRecDepth 20000
set_option maxHeartbeats 400000

section
variable (t : Tab) (h51 : look t 51 = s51) {m0 mb : Mem} {Q : Value → Mem → Prop} {g1 g3 go ga gb np nt : Nat} {R : US} {ps : List Pr} {ts : List ByteArray} {hm : Sl × Sl}
  (h0 : Mem.le m0 mb) (h1 : mb g1 = some (.cells #[vs hm.1, vs hm.2] 55 (0, 0))) (h3 : mb g3 = some (.cells #[.slice none 0 0, .slice none 0 0] 55 (0, 0))) (hg3 : m0 g3 = none) (hM : dMo.At mb hm (ps, ts))
  (I : UI np nt R) (hnp : np = ps.length) (hnt : nt = ts.length) (hcl : ∀ (i : Nat) (p : Pr), R.1[i]? = some true → ps[i]? = some p → ∀ x ∈ p.2.2.2, clX R x) (hoX : okPsX ps ts.length) (hok : okM (ps, ts))
  (hq : ∀ (h' : dMo.H) (D : List Nat) (m' : Mem), Mem.le m0 m' → (∀ b ∈ D, m0 b = none) → D.Nodup → dMo.Own m' h' ((sel R.1 ps).map (unP R), sel R.2.1 ts) D → Q (vM h') m')
include h51 h0 h1 h3 hg3 hM I hnp hnt hcl hoX hok hq

theorem loop78_26 : ∀ d i, i + d = ps.length → ∀ (M : Mem) (D Dt : List Nat) (s st : Sl), Ou mb M go ga gb (mix R.1 i) (numV R.2.1) (sel (R.1.take i) (ps.take i)) (sel R.2.1 ts) s st D Dt →
    L78_26 (look t) (d + 1) Q g3 (some ⟨ga, 0, none⟩) np np (some ⟨gb, 0, none⟩) nt nt go hm.1.a hm.1.n hm.1.c (hm.1.n : Int) (i : Int) M := by
  obtain ⟨⟨pa, pn, pc⟩, ⟨ta, tn, tc⟩⟩ := hm
  obtain ⟨⟨hpn, (hs : List PH), hl, hrd, hat⟩, htx⟩ := id hM
  have hpn : pn = ps.length := hpn
  have hl : hs.length = ps.length := hl
  have hrd : Rd mb pa hs := hrd
  have hlen : ps.length ≤ 2 ^ 20 := hok.1.1
  have hRk : R.1.length = ps.length := I.lk.trans hnp
  dsimp only
  intro d
  induction d with
  | zero =>
    intro i hi M D Dt s st O
    rw [l78_26]
    refine ⟨M, Mem.le_refl _, ?_⟩
    rw [if_neg (by simp; omega)]
    rw [show i = R.1.length by omega, mix_end, List.take_of_length_le (Nat.le_refl _), List.take_of_length_le (by omega)] at O
    have hsl := sel_length_le R.1 ps
    have hPm : ∀ p ∈ sel R.1 ps, (∀ x ∈ p.2.2.2, clX R x ∧ okX np nt x) ∧ p.2.2.2.length ≤ 2 ^ 20 := by
      intro p hp
      obtain ⟨k, hk1, hk2⟩ := sel_mem _ _ _ hp
      have hmem := List.mem_of_getElem? hk2
      refine ⟨fun x hx => ⟨hcl k p hk1 hk2 x hx, ?_⟩, (hok.1.2 p hmem).2⟩
      rw [hnp, hnt]
      exact hoX p hmem x hx
    refine ⟨_, _, _, cell_of O.bo 0, s.n + 1, ?_⟩
    have hsn : s.n = (sel R.1 ps).length := by
      obtain ⟨hs', Es, D0, h1', h2', _, h3', _⟩ := O.o
      exact h3'.1.trans h1'
    rw [hsn]
    have := loop78_33 t (m0 := m0) (mb := mb) (Q := Q) (g3 := g3) (go := go) (ga := ga) (gb := gb) (np := np) (nt := nt) (R := R) (P := sel R.1 ps) (T := sel R.2.1 ts) h0 h3 hg3 I (fun p hp => (hPm p hp).1) (by omega) (fun p hp => (hPm p hp).2) hq hsn (sel R.1 ps).length 0 (by omega) M D Dt st (by rw [psA_zero]; exact O)
    rw [hsn] at this
    exact this
  | succ d ih =>
    intro i hi M D Dt s st O
    rw [l78_26]
    refine ⟨M, Mem.le_refl _, ?_⟩
    rw [if_pos (by simp; omega)]
    have i1 : i < hs.length := by omega
    have i2 : i < ps.length := by omega
    have i3 : i < R.1.length := by omega
    have hii := hat i hs[i] ps[i] (List.getElem?_eq_getElem i1) (List.getElem?_eq_getElem i2)
    have okp := hok.1.2 _ (List.getElem_mem i2)
    have hsel := sel_take_succ R.1 ps i i2 i3
    have hmx := mix_get i3
    have hstep := mix_step i3
    have hsame := mix_same i3
    have hrk := sel_take_length hRk i
    refine idx' (hrd.le O.le) (hl.trans hpn.symm) (by omega) (by omega) fun ad had hd => ?_
    simp only [Int.toNat_natCast] at hd ⊢
    generalize hs[i] = hh at *
    generalize ps[i] = x at *
    generalize R.1[i] = b at *
    obtain ⟨p, s0, ⟨ua, un, uc⟩, ⟨ca, cn, cc⟩⟩ := hh
    refine ⟨_, hd 0 _ rfl, _, hd 1 _ rfl, _, _, _, hd 2 _ rfl, _, _, _, hd 3 _ rfl, newA_intro fun g119 m120 hg119 e120 hb120 hle120 => ?_⟩
    refine sto (c := #[.int .i64 0, .int .i64 0, .slice none 0 0, .slice none 0 0]) (t := 38) hb120 rfl (by simp) fun m121 e121 h121 hne121 => ?_
    have h121 : m121 g119 = some (.cells #[.int .i64 p, .int .i64 s0, .slice ua un uc, .slice ca cn cc] 38 (0, 0)) := h121
    have le121 : Mem.le M m121 := by rw [e121, e120, upd_upd]; exact le_upd hg119
    clear e121 e120 hne121 hb120 hle120
    have O1 := O.mono le121
    have N := O.ne
    have wi := wsucc (i := i) (n := ps.length) i2 (by omega)
    refine ⟨by omega, by omega, _, rowAt1 (α := Int) O1.ba hmx rfl, ?_⟩
    cases b with
    | false =>
      rw [if_neg (by decide), wi]
      rw [if_neg (by decide), List.append_nil] at hsel
      exact ih (i + 1) (by omega) m121 D Dt s st (by rw [hsame rfl, hsel]; exact O1)
    | true =>
      rw [if_pos (by decide)]
      rw [if_pos rfl] at hsel
      have hsn : s.n = (sel (R.1.take i) (ps.take i)).length := by
        obtain ⟨hs', Es, D0, h1', h2', _, h3', _⟩ := O.o
        exact h3'.1.trans h1'
      refine ⟨_, _, _, cell_of O1.bo 0, by omega, by omega, ?_⟩
      refine O1.setA (i := i) (x := (s.n : Int)) (by rw [add_eq rfl, Nat.zero_add]) (by rw [mix_len _ _ (by omega)]; exact i3) fun m130 O2 ho2 => ?_
      rw [hstep _ (by rw [if_pos rfl, hsn, hrk])] at O2
      have n119 : g119 ≠ ga := fun e => by rw [e, O.ba] at hg119; cases hg119
      have h130 : m130 g119 = some (.cells #[.int .i64 p, .int .i64 s0, .slice ua un uc, .slice ca cn cc] 38 (0, 0)) := by rw [ho2 _ n119]; exact h121
      have o119 : g119 ≠ go := fun e => by rw [e, O.bo] at hg119; cases hg119
      have d119 : g119 ∉ D := fun h => by obtain ⟨o, ho⟩ := dPrs.live O.o _ h; rw [hg119] at ho; cases ho
      -- what is held: the struct that is laid and the copy
      refine ⟨fun q => q go = some (.cells #[vs s, vs st] 55 (0, 0)) ∧ q g119 = some (.cells #[.int .i64 p, .int .i64 s0, .slice ua un uc, .slice ca cn cc] 38 (0, 0)), ⟨O2.bo, h130⟩, _, _, _, fun q hq => cell_of hq.1 0, _, fun q hq => cell_of hq.2 0, _, fun q hq => cell_of hq.2 1, _, _, _, fun q hq => cell_of hq.2 2, _, _, _, fun q hq => cell_of hq.2 3, ?_⟩
      refine via h51 ⟨(p, s0, ⟨ua, un, uc⟩, ⟨ca, cn, cc⟩), x, rfl, dPr.at_le O2.le hii, okp, fun (h' : PH) E m149 hle149 hfrE hEn hEo => ?_⟩
      obtain ⟨p', s', ⟨ua', un', uc'⟩, ⟨ca', cn', cc'⟩⟩ := h'
      refine ⟨_, _, _, _, _, _, _, _, rfl, ⟨hle149 _ _ O2.bo, hle149 _ _ h130⟩, newA_intro fun g158 m159 hg158 e159 hb159 hle159 => ⟨⟨hle159 _ _ (hle149 _ _ O2.bo), hle159 _ _ (hle149 _ _ h130)⟩, ?_⟩⟩
      have l159 := Mem.le_trans hle149 hle159
      have O3 := O2.mono l159
      have hfr' : ∀ b ∈ E, mb b = none ∧ b ∉ go :: ga :: gb :: (D ++ Dt) := fun b hb => by
        refine ⟨le_none O2.le (hfrE b hb), fun h => ?_⟩
        have hn := hfrE b hb
        simp only [List.mem_cons, List.mem_append] at h
        rcases h with rfl | rfl | rfl | h | h
        · rw [O2.bo] at hn; cases hn
        · rw [O2.ba] at hn; cases hn
        · rw [O2.bb] at hn; cases hn
        · obtain ⟨o, ho⟩ := dPrs.live O2.o b h; rw [ho] at hn; cases hn
        · obtain ⟨o, ho⟩ := dTx.live O2.ot b h; rw [ho] at hn; cases hn
      have hsl := sel_length_le (R.1.take i) (ps.take i)
      have htl : (ps.take i).length ≤ ps.length := by rw [List.length_take]; omega
      refine O3.pushP (h' := (p', s', ⟨ua', un', uc'⟩, ⟨ca', cn', cc'⟩)) (x := x) (E := E) (M0 := m149) hb159 (by omega) (dPr.own_le hle159 hEo) hEn hfr' fun s1 D1 M1 hoff1 hk1 hgo1 hfin => ?_
      refine ⟨⟨hgo1, hk1 _ _ (hle159 _ _ (hle149 _ _ h130)) d119 fun h => by have := hfrE _ h; rw [h130] at this; cases this⟩, ?_⟩
      refine sto (c := #[vs s, vs st]) (t := 55) hgo1 rfl (by simp) fun m163 e163 h163 hne163 => ?_
      have h163 : m163 go = some (.cells #[.slice s1.a (s.n + 1) s1.c, vs st] 55 (0, 0)) := h163
      rw [wi]
      exact ih (i + 1) (by omega) m163 D1 Dt s1 st (by rw [hsel]; exact hfin m163 h163 hne163)

theorem loop78_19 : ∀ d i, i + d = ts.length → ∀ (M : Mem) (Dt : List Nat) (st : Sl), Ou mb M go ga gb (e01 R.1) (mix R.2.1 i) [] (sel (R.2.1.take i) (ts.take i)) ⟨none, 0, 0⟩ st [] Dt →
    L78_19 (look t) (d + 1) Q g1 g3 (some ⟨ga, 0, none⟩) np np (some ⟨gb, 0, none⟩) nt nt go hm.2.a hm.2.n hm.2.c (hm.2.n : Int) (i : Int) M := by
  have L26 := loop78_26 t h51 h0 h1 h3 hg3 hM I hnp hnt hcl hoX hok hq (go := go) (ga := ga) (gb := gb)
  obtain ⟨⟨pa, pn, pc⟩, ⟨ta, tn, tc⟩⟩ := hm
  obtain ⟨_, htn, htr⟩ := id hM
  have htn : tn = ts.length := htn
  have htr : Rd mb ta ts := htr
  have hlen : ts.length ≤ 2 ^ 20 := hok.2
  have hRt : R.2.1.length = ts.length := I.lt.trans hnt
  dsimp only
  intro d
  induction d with
  | zero =>
    intro i hi M Dt st O
    rw [l78_19]
    refine ⟨M, Mem.le_refl _, ?_⟩
    rw [if_neg (by simp; omega)]
    rw [show i = R.2.1.length by omega, mix_end, List.take_of_length_le (Nat.le_refl _), List.take_of_length_le (by omega)] at O
    refine ⟨_, _, _, cell_of (O.le _ _ h1) 0, ps.length + 1, ?_⟩
    exact L26 ps.length 0 (by omega) M [] Dt ⟨none, 0, 0⟩ st (by rw [mix_zero]; exact O)
  | succ d ih =>
    intro i hi M Dt st O
    rw [l78_19]
    refine ⟨M, Mem.le_refl _, ?_⟩
    rw [if_pos (by simp; omega)]
    have i2 : i < ts.length := by omega
    have i3 : i < R.2.1.length := by omega
    have hsel := sel_take_succ R.2.1 ts i i2 i3
    have hmx := mix_get i3
    have hstep := mix_step i3
    have hsame := mix_same i3
    have hrk := sel_take_length hRt i
    refine idx' (htr.le O.le) htn.symm (by omega) (by omega) fun ad had hd => ?_
    simp only [Int.toNat_natCast] at hd ⊢
    generalize ts[i] = x at *
    generalize R.2.1[i] = b at *
    have N := O.ne
    have wi := wsucc (i := i) (n := ts.length) i2 (by omega)
    refine ⟨_, hd 0 _ rfl, ?_⟩
    refine ⟨by omega, by omega, _, rowAt1 (α := Int) O.bb hmx rfl, ?_⟩
    cases b with
    | false =>
      rw [if_neg (by decide), wi]
      rw [if_neg (by decide), List.append_nil] at hsel
      exact ih (i + 1) (by omega) M Dt st (by rw [hsame rfl, hsel]; exact O)
    | true =>
      rw [if_pos (by decide)]
      rw [if_pos rfl] at hsel
      have hsn : st.n = (sel (R.2.1.take i) (ts.take i)).length := O.ot.1
      refine ⟨_, _, _, cell_of O.bo 1, by omega, by omega, ?_⟩
      refine O.setB (i := i) (x := (st.n : Int)) (by rw [add_eq rfl, Nat.zero_add]) (by rw [mix_len _ _ (by omega)]; exact i3) fun m89 O2 ho2 => ?_
      rw [hstep _ (by rw [if_pos rfl, hsn, hrk])] at O2
      refine ⟨_, _, _, cell_of O2.bo 1, newA_intro fun g94 m95 hg94 e95 hb95 hle95 => ?_⟩
      have O3 := O2.mono hle95
      have hsl := sel_length_le (R.2.1.take i) (ts.take i)
      have htl : (ts.take i).length ≤ ts.length := by rw [List.length_take]; omega
      refine O3.pushT hb95 (by omega) fun s1 D1 M1 hoff1 hk1 hgo1 hfin => ?_
      refine sto (c := #[vs ⟨none, 0, 0⟩, vs st]) (t := 55) (k := 1) hgo1 rfl (by simp) fun m99 e99 h99 hne99 => ?_
      have h99 : m99 go = some (.cells #[vs ⟨none, 0, 0⟩, .slice s1.a (st.n + 1) s1.c] 55 (0, 0)) := h99
      rw [wi]
      exact ih (i + 1) (by omega) m99 D1 s1 (by rw [hsel]; exact hfin m99 h99 hne99)
end
end Go.Proofs.Ytcbjdodehjpddaa.Abs
