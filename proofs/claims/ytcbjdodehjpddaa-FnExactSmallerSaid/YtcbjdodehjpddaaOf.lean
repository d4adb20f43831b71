/- Modules: the program's function that lays what is used of a module, whole. -/
import Derived.Test.YtcbjdodehjpddaaOe
namespace Go.Proofs.Ytcbjdodehjpddaa.Abs
open Go.RowKit
set_option linter.unusedVariables false
set_option linter.unusedSimpArgs false
set_option linter.unusedSectionVars false
set_option maxRecDepth 20000
set_option maxHeartbeats 400000

theorem runU_stop {ps : List Pr} {d i : Nat} {st : US} (h : ¬ i < st.2.2.length) : runU ps d i st = st := by
  cases d with
  | zero => rfl
  | succ d => unfold runU; rw [if_neg h]
theorem runU_go {ps : List Pr} {d i : Nat} {st : US} (h : i < st.2.2.length) (hp : (st.2.2[i]).toNat < ps.length) : runU ps (d + 1) i st = runU ps d (i + 1) ((ps[(st.2.2[i]).toNat]).2.2.2.foldl stU st) := by
  conv => lhs; unfold runU
  rw [if_pos h]
  have e1 : st.2.2.getD i 0 = st.2.2[i] := by simp [List.getD_eq_getElem?_getD, h]
  have e2 : ps.getD (st.2.2[i]).toNat zPr = ps[(st.2.2[i]).toNat] := by simp [List.getD_eq_getElem?_getD, hp]
  rw [e1, e2]

section
variable (t : Tab) (h51 : look t 51 = s51) {m0 mb : Mem} {Q : Value → Mem → Prop} {g1 g3 ga gb np nt : Nat} {R : US} {ps : List Pr} {ts : List ByteArray} {hm : Sl × Sl}
  (h0 : Mem.le m0 mb) (h1 : mb g1 = some (.cells #[vs hm.1, vs hm.2] 55 (0, 0))) (h3 : mb g3 = some (.cells #[.slice none 0 0, .slice none 0 0] 55 (0, 0))) (hg3 : m0 g3 = none) (hM : dMo.At mb hm (ps, ts))
  (I : UI np nt R) (hnp : np = ps.length) (hnt : nt = ts.length) (hcl : ∀ (i : Nat) (p : Pr), R.1[i]? = some true → ps[i]? = some p → ∀ x ∈ p.2.2.2, clX R x) (hoX : okPsX ps ts.length) (hok : okM (ps, ts))
  (hq : ∀ (h' : dMo.H) (D : List Nat) (m' : Mem), Mem.le m0 m' → (∀ b ∈ D, m0 b = none) → D.Nodup → dMo.Own m' h' ((sel R.1 ps).map (unP R), sel R.2.1 ts) D → Q (vM h') m')
include h51 h0 h1 h3 hg3 hM I hnp hnt hcl hoX hok hq

theorem loop78_6 : ∀ d i, i + d = ps.length → ∀ (M : Mem) (D : List Nat) (s : Sl) (st : US), Un 3 mb M ga gb (e01 st.1) (e01 st.2.1) s st.2.2 D → UI np nt st → runU ps d i st = R →
    L78_6 (look t) (d + 1) Q g1 g3 (some ⟨ga, 0, none⟩) np np (some ⟨gb, 0, none⟩) nt nt s.a s.n s.c (i : Int) M := by
  have L19 := fun go => loop78_19 t h51 h0 h1 h3 hg3 hM I hnp hnt hcl hoX hok hq (go := go) (ga := ga) (gb := gb)
  obtain ⟨⟨pa, pn, pc⟩, ⟨ta, tn, tc⟩⟩ := hm
  obtain ⟨⟨hpn, (hs : List PH), hl, hrd, hat⟩, htx⟩ := id hM
  have hpn : pn = ps.length := hpn
  have hl : hs.length = ps.length := hl
  have hrd : Rd mb pa hs := hrd
  have hlen : ps.length ≤ 2 ^ 20 := hok.1.1
  intro d
  induction d using Nat.strongRecOn with
  | ind d ih =>
    intro i hi M D s st U J hR
    rw [l78_6]
    refine ⟨M, Mem.le_refl _, ?_⟩
    have hsn : s.n = st.2.2.length := U.q.1
    have hcnt := J.cnt
    by_cases hlt : i < st.2.2.length
    case neg =>
      rw [if_neg (by simp; omega)]
      rw [runU_stop hlt] at hR
      subst hR
      obtain ⟨n1, n2, n3, n4⟩ := U.ne
      refine newA_intro fun g36 m37 hg36 e37 hb37 hle37 => ?_
      refine sto (c := #[.slice none 0 0, .slice none 0 0]) (t := 55) hb37 rfl (by simp) fun m38 e38 h38 hne38 => ?_
      have h38 : m38 g36 = some (.cells #[vs ⟨none, 0, 0⟩, vs ⟨none, 0, 0⟩] 55 (0, 0)) := h38
      have le38 : Mem.le M m38 := by rw [e38, e37, upd_upd]; exact le_upd hg36
      have U1 := U.mono le38
      have ka : g36 ≠ ga := fun e => by rw [e, U.bk] at hg36; cases hg36
      have kb : g36 ≠ gb := fun e => by rw [e, U.bt] at hg36; cases hg36
      refine ⟨_, _, _, cell_of (U1.le _ _ h1) 1, ts.length + 1, ?_⟩
      refine L19 g36 ts.length 0 (by omega) m38 [] ⟨none, 0, 0⟩ ⟨U1.le, h38, U1.bk, by rw [mix_zero]; exact U1.bt, dPr.list_nil m38, ⟨rfl, .inl ⟨rfl, rfl, by simp [sel], rfl⟩⟩, ouNe.2 ⟨ka, kb, n1, by simp, by simp, by simp, by simp, by simp, by simp, by simp, by simp, by simp⟩, ?_⟩
      intro b hb
      simp only [List.append_nil, List.mem_cons, List.not_mem_nil, or_false] at hb
      rcases hb with rfl | rfl | rfl
      · exact le_none U.le hg36
      · exact U.fr _ (by simp)
      · exact U.fr _ (by simp)
    case pos =>
      obtain ⟨d', rfl⟩ : ∃ d', d = d' + 1 := ⟨d - 1, by omega⟩
      rw [if_pos (by simp; omega)]
      have hv := J.mem _ (List.getElem_mem hlt)
      have hvp : (st.2.2[i]).toNat < ps.length := by omega
      have hvh : (st.2.2[i]).toNat < hs.length := by omega
      rw [runU_go hlt hvp] at hR
      have hii := hat (st.2.2[i]).toNat _ _ (List.getElem?_eq_getElem hvh) (List.getElem?_eq_getElem hvp)
      have hmem := List.getElem_mem hvp
      have okp := hok.1.2 _ hmem
      have hox := hoX _ hmem
      have hqr := U.q.rd
      refine ⟨Mem.le M, Mem.le_refl _, _, _, _, held (cell_of (U.le _ _ h1) 0), ?_⟩
      refine idx' hqr hsn.symm (by omega) (by omega) fun ad had hd => ?_
      simp only [Int.toNat_natCast] at hd ⊢
      refine ⟨_, held (hd 0 _ rfl), ?_⟩
      refine idx' (hrd.le U.le) (hl.trans hpn.symm) (by omega) (by omega) fun ad' had' hd' => ?_
      generalize hs[(st.2.2[i]).toNat] = hh at *
      generalize ps[(st.2.2[i]).toNat] = x at *
      obtain ⟨p, s0, ⟨ua, un, uc⟩, ⟨ca, cn, cc⟩⟩ := hh
      obtain ⟨p', s', lu, lc⟩ := x
      have hcn : cn = lc.length := hii.2.2.2.1
      have hcr : Rd mb ca lc := hii.2.2.2.2
      have hcl' : lc.length ≤ 2 ^ 20 := okp.2
      have hox : ∀ x ∈ lc, okX np nt x := by rw [hnp, hnt]; exact hox
      have hR : runU ps d' (i + 1) (lc.foldl stU st) = R := hR
      refine ⟨_, _, _, held (hd' 3 _ rfl), ?_⟩
      have wi := wsucc (i := i) (n := ps.length) (by omega) (by omega)
      suffices key : ∀ e j, j + e = cn → ∀ (M : Mem) (D : List Nat) (s : Sl) (sj : US), Un 3 mb M ga gb (e01 sj.1) (e01 sj.2.1) s sj.2.2 D → UI np nt sj → sj = (lc.take j).foldl stU st →
          L78_9 (look t) (d' + 1) (e + 1) Q g1 g3 (some ⟨ga, 0, none⟩) np np (some ⟨gb, 0, none⟩) nt nt s.a s.n s.c (i : Int) ca cn cc (cn : Int) (j : Int) M from
        ⟨cn + 1, key cn 0 (by omega) M D s st U J rfl⟩
      clear hd hd' had had' U hsn J hqr hcnt
      intro e
      induction e with
      | zero =>
        intro j hj M D s sj U J hsj
        rw [l78_9]
        refine ⟨M, Mem.le_refl _, ?_⟩
        rw [if_neg (by simp; omega), wi]
        rw [List.take_of_length_le (by omega)] at hsj
        exact ih d' (by omega) (i + 1) (by omega) M D s sj U J (by rw [hsj]; exact hR)
      | succ e ihe =>
        intro j hj M D s sj U J hsj
        rw [l78_9]
        refine ⟨M, Mem.le_refl _, ?_⟩
        rw [if_pos (by simp; omega)]
        have hjl : j < lc.length := by omega
        have htk : (lc.take (j + 1)).foldl stU st = stU sj lc[j] := by rw [List.take_succ_eq_append_getElem hjl, List.foldl_append, ← hsj]; rfl
        have hxo := hox _ (List.getElem_mem hjl)
        have wj := wsucc (i := j) (n := cn) (by omega) (by omega)
        obtain ⟨n1, n2, n3, n4⟩ := U.ne
        refine idx' (hcr.le U.le) hcn.symm (by omega) (by omega) fun ad had hd => ?_
        simp only [Int.toNat_natCast] at hd ⊢
        generalize lc[j] = y at *
        obtain ⟨op, a⟩ := y
        refine ⟨_, hd 0 _ rfl, _, hd 1 _ rfl, newA_intro fun g50 m51 hg50 e51 hb51 hle51 => ?_⟩
        refine sto (c := #[.int .i64 0, .int .i64 0]) (t := 73) hb51 rfl (by simp) fun m52 e52 h52 hne52 => ?_
        have h52 : m52 g50 = some (.cells #[.int .i64 op, .int .i64 a] 73 (0, 0)) := h52
        have le52 : Mem.le M m52 := by rw [e52, e51, upd_upd]; exact le_upd hg50
        have U1 := U.mono le52
        have na : g50 ≠ ga := fun e => by rw [e, U.bk] at hg50; cases hg50
        have nb : g50 ≠ gb := fun e => by rw [e, U.bt] at hg50; cases hg50
        refine ⟨_, cell_of h52 0, ?_⟩
        obtain ⟨J2, _, _⟩ := stU_ok J hxo
        by_cases c4 : op = 4
        · subst c4
          rw [if_pos (by decide)]
          obtain ⟨ha0, hat⟩ := hxo.2 rfl
          have ha0 : 0 ≤ a := ha0
          have hat : a < (nt : Int) := hat
          refine ⟨_, cell_of h52 1, ha0, hat, ?_⟩
          have hlt' : a.toNat < (e01 sj.2.1).length := by rw [e01_len, J.lt]; omega
          refine U1.setT (i := a.toNat) (x := (1 : Int)) (by rw [add_eq rfl, Nat.zero_add]; rfl) hlt' fun m58 U2 ho2 => ?_
          rw [wj]
          have est : stU sj (4, a) = (sj.1, sj.2.1.set a.toNat true, sj.2.2) := by unfold stU; rw [if_neg (show ¬ (4 : Int) = 12 by decide), if_pos rfl]
          rw [est] at htk J2
          rw [e01_set] at U2
          exact ihe (j + 1) (by omega) m58 D s (sj.1, sj.2.1.set a.toNat true, sj.2.2) U2 J2 htk.symm
        · rw [if_neg (by simpa using c4)]
          refine ⟨_, cell_of h52 0, ?_⟩
          by_cases c12 : op = 12
          · subst c12
            rw [if_pos (by decide)]
            obtain ⟨ha0, hat⟩ := hxo.1 rfl
            have ha0 : 0 ≤ a := ha0
            have hat : a < (np : Int) := hat
            have hk' : a.toNat < sj.1.length := by rw [J.lk]; omega
            have hk : a.toNat < (e01 sj.1).length := by rw [e01_len]; exact hk'
            refine ⟨_, cell_of h52 1, ha0, hat, _, rowAt1 (α := Int) U1.bk (List.getElem?_eq_getElem hk) rfl, ?_⟩
            rw [e01_get hk]
            cases hb : sj.1[a.toNat] with
            | true =>
              rw [if_neg (by decide), wj]
              have est : stU sj (12, a) = sj := by unfold stU; rw [if_pos rfl, if_pos (by simp [List.getD_eq_getElem?_getD, hk', hb])]
              rw [est] at htk J2
              exact ihe (j + 1) (by omega) m52 D s sj U1 J2 htk.symm
            | false =>
              rw [if_pos (by decide)]
              refine ⟨_, cell_of h52 1, ha0, hat, ?_⟩
              refine U1.setK (i := a.toNat) (x := (1 : Int)) (by rw [add_eq rfl, Nat.zero_add]; rfl) hk fun m69 U2 ho2 => ?_
              have h69 : m69 g50 = some (.cells #[.int .i64 12, .int .i64 a] 73 (0, 0)) := by rw [ho2 _ na]; exact h52
              refine ⟨_, cell_of h69 1, newA_intro fun g72 m73 hg72 e73 hb73 hle73 => ?_⟩
              have hcnt := J.cnt
              refine (U2.mono hle73).push hb73 (by omega) fun s1 D1 m76 hs1 U3 _ => ?_
              rw [← hs1, wj]
              have est : stU sj (12, a) = (sj.1.set a.toNat true, sj.2.1, sj.2.2 ++ [a]) := by unfold stU; rw [if_pos rfl, if_neg (by simp [List.getD_eq_getElem?_getD, hk', hb])]
              rw [est] at htk J2
              rw [e01_set] at U3
              exact ihe (j + 1) (by omega) m76 D1 s1 (sj.1.set a.toNat true, sj.2.1, sj.2.2 ++ [a]) U3 J2 htk.symm
          · rw [if_neg (by simpa using c12), wj]
            have est : stU sj (op, a) = sj := by unfold stU; rw [if_neg c12, if_neg c4]
            rw [est] at htk J2
            exact ihe (j + 1) (by omega) m52 D s sj U1 J2 htk.symm
end

theorem f78 (t : Tab) (h51 : look t 51 = s51) : ∀ args m Q, s78 args m Q → FA Try.prog (look t) kp78 Try.f78 args m Q := by
  rintro args m Q ⟨⟨⟨pa, pn, pc⟩, ⟨ta, tn, tc⟩⟩, ⟨ps, ts⟩, rfl, hM, hok, ⟨hoX, hpos⟩, hq⟩
  show FA Try.prog (look t) kp78 Try.f78 [.agg #[.slice pa pn pc, .slice ta tn tc]] m Q
  rw [e78]
  have hoX : okPsX ps ts.length := hoX
  have hpos : 0 < ps.length := hpos
  obtain ⟨I, hcl⟩ := reach_closed (M := (ps, ts)) hpos hoX
  have hpn : pn = ps.length := hM.1.1
  have htn : tn = ts.length := hM.2.1
  have hlen : ps.length ≤ 2 ^ 20 := hok.1.1
  have htl : ts.length ≤ 2 ^ 20 := hok.2
  refine newA_intro fun g1 m2 hg1 e2 hb1 hle2 => newA_intro fun g3 m4 hg3 e4 hb3 hle4 => ?_
  have b1 := hle4 _ _ hb1
  have l4 := Mem.le_trans hle2 hle4
  refine ⟨pa, pn, pc, cell_of b1 0, by omega, by omega, by omega, by omega, newA_intro fun g9 m10 hg9 e10 hb9 hle10 => ?_⟩
  refine ⟨ta, tn, tc, cell_of (hle10 _ _ b1) 1, by omega, by omega, by omega, by omega, newA_intro fun g15 m16 hg15 e16 hb15 hle16 => ?_⟩
  simp only [Int.toNat_natCast] at hb9 hb15 ⊢
  have z1 : zeroRow #[.int .i64 (0 : Int)] (pn * 1) = (flat Enc.e (List.replicate pn (0 : Int))).toArray := zeroRow_eq (0 : Int) pn
  have z2 : zeroRow #[.int .i64 (0 : Int)] (tn * 1) = (flat Enc.e (List.replicate tn (0 : Int))).toArray := zeroRow_eq (0 : Int) tn
  rw [z1] at hb9
  rw [z2] at hb15
  have n915 : g9 ≠ g15 := ne_of_none hg15 hb9
  refine ⟨by omega, by omega, ?_⟩
  have hb9' := hle16 _ _ hb9
  refine sto_elem (α := Int) (x := 1) (spare := []) (i := 0) (by rw [List.append_nil]; exact hb9') (by rw [add_eq rfl]; rfl) (by simp; omega) ?_
  have h17 : ∃ M : Mem, M = m16.upd g9 (.cells (flat Enc.e ((List.replicate pn (0 : Int)).set 0 1) ++ []).toArray 3 (0, 0)) := ⟨_, rfl⟩
  obtain ⟨M17, hM17⟩ := h17
  rw [← hM17]
  have k9 : M17 g9 = some (.cells (flat Enc.e (e01 (st0 pn tn).1)).toArray 3 (0, 0)) := by
    rw [hM17, upd_same, List.append_nil, ← e01_rep, e01_set]; rfl
  have k15 : M17 g15 = some (.cells (flat Enc.e (e01 (st0 pn tn).2.1)).toArray 3 (0, 0)) := by
    rw [hM17, upd_ne (Ne.symm n915), hb15, ← e01_rep]; rfl
  have l17 : Mem.le m4 M17 := by rw [hM17]; exact le_upd_fresh (Mem.le_trans hle10 hle16) hg9
  refine newA_intro fun g18 m19 hg18 e19 hb18 hle19 => ?_
  have n18a : g9 ≠ g18 := ne_of_none hg18 k9
  have n18b : g15 ≠ g18 := ne_of_none hg18 k15
  have U : Un 3 m4 m19 g9 g15 (e01 (st0 pn tn).1) (e01 (st0 pn tn).2.1) ⟨some ⟨g18, 0, none⟩, 1, 1⟩ (st0 pn tn).2.2 [g18] := by
    refine ⟨Mem.le_trans l17 hle19, hle19 _ _ k9, hle19 _ _ k15, ⟨rfl, .inr ⟨g18, 3, [], rfl, rfl, hb18, rfl⟩⟩, by simp [n915, n18a, n18b], ?_⟩
    intro b hb
    simp only [List.mem_cons, List.not_mem_nil, or_false] at hb
    rcases hb with rfl | rfl | rfl
    · exact hg9
    · exact le_none hle10 hg15
    · exact le_none l17 hg18
  refine ⟨pn + 1, ?_⟩
  have hq' : ∀ (h' : dMo.H) (D : List Nat) (m' : Mem), Mem.le m m' → (∀ b ∈ D, m b = none) → D.Nodup → dMo.Own m' h' ((sel (reachU (ps, ts)).1 ps).map (unP (reachU (ps, ts))), sel (reachU (ps, ts)).2.1 ts) D → Q (vM h') m' := hq
  have := loop78_6 t h51 (hm := (⟨pa, pn, pc⟩, ⟨ta, tn, tc⟩)) (ps := ps) (ts := ts) (np := pn) (nt := tn) (g1 := g1) (ga := g9) (gb := g15) l4 b1 hb3 (le_none hle2 hg3) (dMo.at_le l4 hM) (by rw [hpn, htn]; exact I) hpn htn hcl hoX hok hq' ps.length 0 (by omega) m19 [g18] ⟨some ⟨g18, 0, none⟩, 1, 1⟩ (st0 pn tn) U (st0_ok (by omega)) (by rw [hpn, htn]; rfl)
  rw [← hpn] at this
  exact this
end Go.Proofs.Ytcbjdodehjpddaa.Abs
