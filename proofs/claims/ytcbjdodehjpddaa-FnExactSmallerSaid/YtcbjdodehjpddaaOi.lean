/- Modules: the reference's function that lays what is used of a module, whole. -/
import Derived.Test.YtcbjdodehjpddaaOh
namespace Go.Proofs.Ytcbjdodehjpddaa.Abs
open Go.RowKit
set_option linter.unusedVariables false
set_option linter.unusedSimpArgs false
set_option linter.unusedSectionVars false
set_option maxRecDepth 20000
set_option maxHeartbeats 400000

section
variable (t : Tab) (h46 : look t 46 = s46) {m0 mb : Mem} {Q : Value → Mem → Prop} {g1 g3 gk gt np nt : Nat} {R : US} {ps : List Pr} {ts : List ByteArray} {hm : Sl × Sl}
  (h0 : Mem.le m0 mb) (h1 : mb g1 = some (.cells #[vs hm.1, vs hm.2] 55 (0, 0))) (h3 : mb g3 = some (.cells #[.slice none 0 0, .slice none 0 0] 55 (0, 0))) (hg3 : m0 g3 = none) (hM : dMo.At mb hm (ps, ts))
  (I : UI np nt R) (hnp : np = ps.length) (hnt : nt = ts.length) (hcl : ∀ (i : Nat) (p : Pr), R.1[i]? = some true → ps[i]? = some p → ∀ x ∈ p.2.2.2, clX R x) (hoX : okPsX ps ts.length) (hok : okM (ps, ts))
  (hq : ∀ (h' : dMo.H) (D : List Nat) (m' : Mem), Mem.le m0 m' → (∀ b ∈ D, m0 b = none) → D.Nodup → dMo.Own m' h' ((sel R.1 ps).map (unP R), sel R.2.1 ts) D → Q (vM h') m')
include h46 h0 h1 h3 hg3 hM I hnp hnt hcl hoX hok hq

theorem loop73_6 : ∀ d i, i + d = ps.length → ∀ (M : Mem) (D : List Nat) (s : Sl) (st : US), Un 4 mb M gk gt st.1 st.2.1 s st.2.2 D → UI np nt st → runU ps d i st = R →
    L73_6 (look t) (d + 1) Q g1 g3 (some ⟨gk, 0, none⟩) np np (some ⟨gt, 0, none⟩) nt nt s.a s.n s.c (i : Int) M := by
  obtain ⟨⟨pa, pn, pc⟩, ⟨ta, tn, tc⟩⟩ := hm
  obtain ⟨⟨hpn, (hs : List PH), hl, hrd, hat⟩, htx⟩ := id hM
  have hpn : pn = ps.length := hpn
  have hl : hs.length = ps.length := hl
  have hrd : Rd mb pa hs := hrd
  have hlen : ps.length ≤ 2 ^ 20 := hok.1.1
  have htlen : ts.length ≤ 2 ^ 20 := hok.2
  intro d
  induction d using Nat.strongRecOn with
  | ind d ih =>
    intro i hi M D s st U J hR
    rw [l73_6]
    refine ⟨M, Mem.le_refl _, ?_⟩
    have hsn : s.n = st.2.2.length := U.q.1
    have hcnt := J.cnt
    by_cases hlt : i < st.2.2.length
    case neg =>
      rw [if_neg (by simp; omega)]
      rw [runU_stop hlt] at hR
      subst hR
      refine newA_intro fun g36 m37 hg36 e37 hb37 hle37 => ?_
      refine sto (c := #[.slice none 0 0, .slice none 0 0]) (t := 55) hb37 rfl (by simp) fun m38 e38 h38 hne38 => ?_
      have h38 : m38 g36 = some (.cells #[vs ⟨none, 0, 0⟩, vs ⟨none, 0, 0⟩] 55 (0, 0)) := h38
      have le38 : Mem.le M m38 := by rw [e38, e37, upd_upd]; exact le_upd hg36
      have L20 := fun go ga gb => loop73_20 t h46 (mb := M) (gk := gk) (gt := gt) (go := go) (ga := ga) (gb := gb) (hm := (⟨pa, pn, pc⟩, ⟨ta, tn, tc⟩)) (Mem.le_trans h0 U.le) (U.le _ _ h1) (U.le _ _ h3) hg3 (dMo.at_le U.le hM) U.bk U.bt I hnp hnt hcl hoX hok hq ts.length 0 (by omega)
      have fin : ∀ (ga gb : Nat) (M' : Mem), Mem.le m38 M' → M ga = none → M gb = none → g36 ≠ ga → g36 ≠ gb → ga ≠ gb → M' ga = some (.cells (flat Enc.e (List.replicate np (0 : Int))).toArray 3 (0, 0)) → M' gb = some (.cells (flat Enc.e (List.replicate nt (0 : Int))).toArray 3 (0, 0)) →
          L73_20 (look t) (ts.length + 1) Q g1 g3 (some ⟨gk, 0, none⟩) np np (some ⟨gt, 0, none⟩) nt nt g36 (some ⟨ga, 0, none⟩) np np (some ⟨gb, 0, none⟩) nt nt ((0 : Nat) : Int) M' := by
        intro ga gb M' hle a1 a2 n1 n2 n3 ha hb
        refine L20 g36 ga gb M' [] ⟨none, 0, 0⟩ ⟨Mem.le_trans le38 hle, hle _ _ h38, by rw [rkV_zero, I.lk]; exact ha, by rw [rkV_zero, I.lt]; exact hb, dPr.list_nil M', ⟨rfl, .inl ⟨rfl, rfl, by simp [sel], rfl⟩⟩, ouNe.2 ⟨n1, n2, n3, by simp, by simp, by simp, by simp, by simp, by simp, by simp, by simp, by simp⟩, ?_⟩
        intro b hb
        simp only [List.append_nil, List.mem_cons, List.not_mem_nil, or_false] at hb
        rcases hb with rfl | rfl | rfl
        · exact hg36
        · exact a1
        · exact a2
      have z1 : zeroRow #[.int .i64 (0 : Int)] (np * 1) = (flat Enc.e (List.replicate np (0 : Int))).toArray := zeroRow_eq (0 : Int) np
      have z2 : zeroRow #[.int .i64 (0 : Int)] (nt * 1) = (flat Enc.e (List.replicate nt (0 : Int))).toArray := zeroRow_eq (0 : Int) nt
      simp only [Int.toNat_natCast]
      refine ⟨Mem.le m38, Mem.le_refl _, ⟨by omega, by omega, by omega, by omega, newA_intro fun g40 m41 hg40 e41 hb41 hle41 => ⟨hle41, by omega, by omega, by omega, by omega, newA_intro fun g42 m43 hg42 e43 hb43 hle43 => ⟨Mem.le_trans hle41 hle43, ts.length + 1, ?_⟩⟩⟩, ⟨by omega, by omega, by omega, by omega, newA_intro fun g45 m46 hg45 e46 hb46 hle46 => ⟨hle46, by omega, by omega, by omega, by omega, newA_intro fun g47 m48 hg47 e48 hb48 hle48 => ⟨Mem.le_trans hle46 hle48, ts.length + 1, ?_⟩⟩⟩⟩
      · rw [z1] at hb41
        rw [z2] at hb43
        exact fin g40 g42 m43 (Mem.le_trans hle41 hle43) (le_none le38 hg40) (le_none (Mem.le_trans le38 hle41) hg42) (ne_of_none hg40 h38) (ne_of_none hg42 (hle41 _ _ h38)) (ne_of_none hg42 hb41) (hle43 _ _ hb41) hb43
      · rw [z2] at hb46
        rw [z1] at hb48
        exact fin g47 g45 m48 (Mem.le_trans hle46 hle48) (le_none (Mem.le_trans le38 hle46) hg47) (le_none le38 hg45) (ne_of_none hg47 (hle46 _ _ h38)) (ne_of_none hg45 h38) (Ne.symm (ne_of_none hg47 hb46)) hb48 (hle48 _ _ hb46)
    case pos =>
      obtain ⟨d', rfl⟩ : ∃ d', d = d' + 1 := ⟨d - 1, by omega⟩
      rw [if_pos (by simp; omega)]
      have hv := J.mem _ (List.getElem_mem hlt)
      have hvp : (st.2.2[i]).toNat < ps.length := by omega
      have hvh : (st.2.2[i]).toNat < hs.length := by omega
      rw [runU_go hlt hvp] at hR
      have hii := hat (st.2.2[i]).toNat _ _ (List.getElem?_eq_getElem hvh) (List.getElem?_eq_getElem hvp)
      have hmem := List.getElem_mem hvp
      have okp := hok.1.2 _ hmem
      have hox := hoX _ hmem
      have hqr := U.q.rd
      refine ⟨Mem.le M, Mem.le_refl _, _, _, _, held (cell_of (U.le _ _ h1) 0), ?_⟩
      refine idx' hqr hsn.symm (by omega) (by omega) fun ad had hd => ?_
      simp only [Int.toNat_natCast] at hd ⊢
      refine ⟨_, held (hd 0 _ rfl), ?_⟩
      refine idx' (hrd.le U.le) (hl.trans hpn.symm) (by omega) (by omega) fun ad' had' hd' => ?_
      generalize hs[(st.2.2[i]).toNat] = hh at *
      generalize ps[(st.2.2[i]).toNat] = x at *
      obtain ⟨p, s0, ⟨ua, un, uc⟩, ⟨ca, cn, cc⟩⟩ := hh
      obtain ⟨p', s', lu, lc⟩ := x
      have hcn : cn = lc.length := hii.2.2.2.1
      have hcr : Rd mb ca lc := hii.2.2.2.2
      have hcl' : lc.length ≤ 2 ^ 20 := okp.2
      have hox : ∀ x ∈ lc, okX np nt x := by rw [hnp, hnt]; exact hox
      have hR : runU ps d' (i + 1) (lc.foldl stU st) = R := hR
      refine ⟨_, _, _, held (hd' 3 _ rfl), ?_⟩
      have wi := wsucc (i := i) (n := ps.length) (by omega) (by omega)
      suffices key : ∀ e j, j + e = cn → ∀ (M : Mem) (D : List Nat) (s : Sl) (sj : US), Un 4 mb M gk gt sj.1 sj.2.1 s sj.2.2 D → UI np nt sj → sj = (lc.take j).foldl stU st →
          L73_10 (look t) (d' + 1) (e + 1) Q g1 g3 (some ⟨gk, 0, none⟩) np np (some ⟨gt, 0, none⟩) nt nt s.a s.n s.c (i : Int) ca cn cc (j : Int) M from
        ⟨cn + 1, key cn 0 (by omega) M D s st U J rfl⟩
      clear hd hd' had had' U hsn J hqr hcnt
      intro e
      induction e with
      | zero =>
        intro j hj M D s sj U J hsj
        rw [l73_10]
        refine ⟨M, Mem.le_refl _, ?_⟩
        rw [if_neg (by simp; omega), wi]
        rw [List.take_of_length_le (by omega)] at hsj
        exact ih d' (by omega) (i + 1) (by omega) M D s sj U J (by rw [hsj]; exact hR)
      | succ e ihe =>
        intro j hj M D s sj U J hsj
        rw [l73_10]
        refine ⟨M, Mem.le_refl _, ?_⟩
        rw [if_pos (by simp; omega)]
        have hjl : j < lc.length := by omega
        have htk : (lc.take (j + 1)).foldl stU st = stU sj lc[j] := by rw [List.take_succ_eq_append_getElem hjl, List.foldl_append, ← hsj]; rfl
        have hxo := hox _ (List.getElem_mem hjl)
        have wj := wsucc (i := j) (n := cn) (by omega) (by omega)
        have hdx : ∀ K : Addr → Prop, (∀ ad, (∀ (k : Nat) (v : Value), (Enc.e lc[j])[k]? = some v → mb.cell? ((ad.add (j * 2)).add k) = some v) → K ad) → optA ca fun ad => 0 ≤ (j : Int) ∧ (j : Int) < (cn : Int) ∧ K ad := by
          intro K hK
          exact idx' hcr hcn.symm (by omega) (by omega) fun ad had hd => hK ad hd
        obtain ⟨J2, _, _⟩ := stU_ok J hxo
        generalize lc[j] = y at *
        obtain ⟨op, a⟩ := y
        simp only [Int.toNat_natCast]
        have r0 : ∀ {ad : Addr} {M' : Mem}, (∀ (k : Nat) (v : Value), (Enc.e (op, a))[k]? = some v → mb.cell? ((ad.add (j * 2)).add k) = some v) → Mem.le mb M' → M'.cell? (ad.add (j * 2)) = some (.int .i64 op) := fun hd hle => cell_le hle (by rw [← hd 0 _ rfl]; simp [Addr.add])
        have r1 : ∀ {ad : Addr} {M' : Mem}, (∀ (k : Nat) (v : Value), (Enc.e (op, a))[k]? = some v → mb.cell? ((ad.add (j * 2)).add k) = some v) → Mem.le mb M' → M'.cell? ((ad.add (j * 2)).add 1) = some (.int .i64 a) := fun hd hle => cell_le hle (hd 1 _ rfl)
        refine hdx _ fun ad hd => ⟨_, r0 hd U.le, ?_⟩
        by_cases c12 : op = 12
        · subst c12
          rw [if_pos (by decide)]
          obtain ⟨ha0, hat⟩ := hxo.1 rfl
          have ha0 : 0 ≤ a := ha0
          have hat : a < (np : Int) := hat
          have hk' : a.toNat < sj.1.length := by rw [J.lk]; omega
          refine hdx _ fun ad hd => ⟨_, r1 hd U.le, ha0, hat, _, rowAt1 (α := Bool) U.bk (List.getElem?_eq_getElem hk') rfl, ?_⟩
          cases hb : sj.1[a.toNat] with
          | true =>
            rw [if_neg (by decide)]
            refine hdx _ fun ad hd => ⟨_, r0 hd U.le, ?_⟩
            rw [if_neg (by decide), wj]
            have est : stU sj (12, a) = sj := by unfold stU; rw [if_pos rfl, if_pos (by simp [List.getD_eq_getElem?_getD, hk', hb])]
            rw [est] at htk J2
            exact ihe (j + 1) (by omega) M D s sj U J2 htk.symm
          | false =>
            rw [if_pos (by decide)]
            refine hdx _ fun ad hd => ⟨_, r1 hd U.le, ha0, hat, ?_⟩
            refine U.setK (i := a.toNat) (x := true) (by rw [add_eq rfl, Nat.zero_add]; rfl) hk' fun m64 U2 ho2 => ?_
            refine hdx _ fun ad hd => ⟨_, r1 hd U2.le, newA_intro fun g68 m69 hg68 e69 hb69 hle69 => ?_⟩
            have hcnt := J.cnt
            refine (U2.mono hle69).push hb69 (by omega) fun s1 D1 m72 hs1 U3 _ => ?_
            rw [← hs1]
            refine hdx _ fun ad hd => ⟨_, r0 hd U3.le, ?_⟩
            rw [if_neg (by decide), wj]
            have est : stU sj (12, a) = (sj.1.set a.toNat true, sj.2.1, sj.2.2 ++ [a]) := by unfold stU; rw [if_pos rfl, if_neg (by simp [List.getD_eq_getElem?_getD, hk', hb])]
            rw [est] at htk J2
            exact ihe (j + 1) (by omega) m72 D1 s1 (sj.1.set a.toNat true, sj.2.1, sj.2.2 ++ [a]) U3 J2 htk.symm
        · rw [if_neg (by simpa using c12)]
          refine hdx _ fun ad hd => ⟨_, r0 hd U.le, ?_⟩
          by_cases c4 : op = 4
          · subst c4
            rw [if_pos (by decide)]
            obtain ⟨ha0, hat⟩ := hxo.2 rfl
            have ha0 : 0 ≤ a := ha0
            have hat : a < (nt : Int) := hat
            have hlt' : a.toNat < sj.2.1.length := by rw [J.lt]; omega
            refine hdx _ fun ad hd => ⟨_, r1 hd U.le, ha0, hat, ?_⟩
            refine U.setT (i := a.toNat) (x := true) (by rw [add_eq rfl, Nat.zero_add]; rfl) hlt' fun m96 U2 ho2 => ?_
            rw [wj]
            have est : stU sj (4, a) = (sj.1, sj.2.1.set a.toNat true, sj.2.2) := by unfold stU; rw [if_neg (show ¬ (4 : Int) = 12 by decide), if_pos rfl]
            rw [est] at htk J2
            exact ihe (j + 1) (by omega) m96 D s (sj.1, sj.2.1.set a.toNat true, sj.2.2) U2 J2 htk.symm
          · rw [if_neg (by simpa using c4), wj]
            have est : stU sj (op, a) = sj := by unfold stU; rw [if_neg c12, if_neg c4]
            rw [est] at htk J2
            exact ihe (j + 1) (by omega) M D s sj U J2 htk.symm
end

theorem f73 (t : Tab) (h46 : look t 46 = s46) : ∀ args m Q, s73 args m Q → FA Try.prog (look t) kp73 Try.f73 args m Q := by
  rintro args m Q ⟨⟨⟨pa, pn, pc⟩, ⟨ta, tn, tc⟩⟩, ⟨ps, ts⟩, rfl, hM, hok, ⟨hoX, hpos⟩, hq⟩
  show FA Try.prog (look t) kp73 Try.f73 [.agg #[.slice pa pn pc, .slice ta tn tc]] m Q
  rw [e73]
  have hoX : okPsX ps ts.length := hoX
  have hpos : 0 < ps.length := hpos
  obtain ⟨I, hcl⟩ := reach_closed (M := (ps, ts)) hpos hoX
  have hpn : pn = ps.length := hM.1.1
  have htn : tn = ts.length := hM.2.1
  have hlen : ps.length ≤ 2 ^ 20 := hok.1.1
  have htl : ts.length ≤ 2 ^ 20 := hok.2
  refine newA_intro fun g1 m2 hg1 e2 hb1 hle2 => newA_intro fun g3 m4 hg3 e4 hb3 hle4 => ?_
  have b1 := hle4 _ _ hb1
  have l4 := Mem.le_trans hle2 hle4
  refine ⟨pa, pn, pc, cell_of b1 0, by omega, by omega, by omega, by omega, newA_intro fun g9 m10 hg9 e10 hb9 hle10 => ?_⟩
  refine ⟨ta, tn, tc, cell_of (hle10 _ _ b1) 1, by omega, by omega, by omega, by omega, newA_intro fun g15 m16 hg15 e16 hb15 hle16 => newA_intro fun g18 m19 hg18 e19 hb18 hle19 => ?_⟩
  simp only [Int.toNat_natCast] at hb9 hb15 ⊢
  have z1 : zeroRow #[.bool false] (pn * 1) = (flat Enc.e (List.replicate pn false)).toArray := zeroRow_eq false pn
  have z2 : zeroRow #[.bool false] (tn * 1) = (flat Enc.e (List.replicate tn false)).toArray := zeroRow_eq false tn
  rw [z1] at hb9
  rw [z2] at hb15
  have n915 : g9 ≠ g15 := ne_of_none hg15 hb9
  have n18a : g9 ≠ g18 := ne_of_none hg18 (hle16 _ _ hb9)
  have n18b : g15 ≠ g18 := ne_of_none hg18 hb15
  refine ⟨by omega, by omega, ?_⟩
  have l19 : Mem.le m4 m19 := Mem.le_trans (Mem.le_trans hle10 hle16) hle19
  have U0 : Un 4 m4 m19 g9 g15 (List.replicate pn false) (List.replicate tn false) ⟨some ⟨g18, 0, none⟩, 1, 1⟩ [0] [g18] := by
    refine ⟨l19, hle19 _ _ (hle16 _ _ hb9), hle19 _ _ hb15, ⟨rfl, .inr ⟨g18, 3, [], rfl, rfl, hb18, rfl⟩⟩, by simp [n915, n18a, n18b], ?_⟩
    intro b hb
    simp only [List.mem_cons, List.not_mem_nil, or_false] at hb
    rcases hb with rfl | rfl | rfl
    · exact hg9
    · exact le_none hle10 hg15
    · exact le_none (Mem.le_trans hle10 hle16) hg18
  refine U0.setK (i := 0) (x := true) (by rw [add_eq rfl]; rfl) (by simp; omega) fun m20 U _ => ⟨pn + 1, ?_⟩
  have hq' : ∀ (h' : dMo.H) (D : List Nat) (m' : Mem), Mem.le m m' → (∀ b ∈ D, m b = none) → D.Nodup → dMo.Own m' h' ((sel (reachU (ps, ts)).1 ps).map (unP (reachU (ps, ts))), sel (reachU (ps, ts)).2.1 ts) D → Q (vM h') m' := hq
  have := loop73_6 t h46 (hm := (⟨pa, pn, pc⟩, ⟨ta, tn, tc⟩)) (ps := ps) (ts := ts) (np := pn) (nt := tn) (g1 := g1) (gk := g9) (gt := g15) l4 b1 hb3 (le_none hle2 hg3) (dMo.at_le l4 hM) (by rw [hpn, htn]; exact I) hpn htn hcl hoX hok hq' ps.length 0 (by omega) m20 [g18] ⟨some ⟨g18, 0, none⟩, 1, 1⟩ (st0 pn tn) U (st0_ok (by omega)) (by rw [hpn, htn]; rfl)
  rw [← hpn] at this
  exact this
end Go.Proofs.Ytcbjdodehjpddaa.Abs
