/- Modules: code that is not come to is taken out; the program's function. -/
import Derived.Test.YtcbjdodehjpddaaPf
namespace Go.Proofs.Ytcbjdodehjpddaa.Abs
open Go.RowKit
set_option linter.unusedVariables false
set_option linter.unusedSimpArgs false
set_option linter.unusedSectionVars false
set_option maxRecDepth 20000
set_option maxHeartbeats 800000

theorem f30 (t : Tab) (h51 : look t 51 = s51) (h52 : look t 52 = s52) (h53 : look t 53 = s53) (h66 : look t 66 = s66) : ∀ args m Q, s30 args m Q → FA Try.prog (look t) kp30 Try.f30 args m Q := by
  rintro args m Q ⟨(⟨p, s, ⟨ua, un, uc⟩, ⟨ca, cn, cc⟩⟩ : PH), ⟨p0, s0, lu, lc⟩, rfl, hA, hok, hq⟩
  obtain ⟨hp, hs, hu, hc⟩ := id hA
  have hcn : cn = lc.length := hc.1
  have hcr : Rd m ca lc := hc.2
  have hcl : lc.length ≤ 2 ^ 20 := hok.2
  show FA Try.prog (look t) kp30 Try.f30 [.agg #[.int .i64 p, .int .i64 s, .slice ua un uc, .slice ca cn cc]] m Q
  rw [e30]
  refine newA_intro fun g1 m2 hg1 e2 hb1 hle2 => newA_intro fun g3 m4 hg3 e4 hb3 hle4 => ?_
  have b1 := hle4 _ _ hb1
  have l4 := Mem.le_trans hle2 hle4
  refine ⟨_, cell_of b1 0, _, cell_of b1 1, _, _, _, cell_of b1 2, _, _, _, cell_of b1 3, via h51 ⟨(p, s, ⟨ua, un, uc⟩, ⟨ca, cn, cc⟩), (p0, s0, lu, lc), rfl, dPr.at_le l4 hA, hok, fun (k1 : PH) D m18 le18 hfr hnd ho => ?_⟩⟩
  obtain ⟨p', s', ⟨ua', un', uc'⟩, ⟨ca', cn', cc'⟩⟩ := k1
  obtain ⟨Du, Dc, rfl, rfl, rfl, hou, hoc, hdis⟩ := pr_parts ho hnd
  refine ⟨_, _, _, _, _, _, _, _, rfl, newA_intro fun g27 m28 hg27 e28 hb28 hle28 => ?_⟩
  refine sto (c := prZ) (t := 38) hb28 rfl (by simp [prZ]) fun m29 e29 h29 hne29 => ?_
  have h29 : m29 g27 = some (.cells (prC (p', s', ⟨ua', un', uc'⟩, ⟨ca', cn', cc'⟩)) 38 (0, 0)) := h29
  have le29 : Mem.le m18 m29 := by rw [e29, e28, upd_upd]; exact le_upd hg27
  have l29 := Mem.le_trans le18 le29
  have c1 := l29 _ _ b1
  have n27 : g27 ∉ Du ++ Dc := fun hb => by obtain ⟨o, e⟩ := dPr.live ho _ hb; rw [hg27] at e; cases e
  have hou29 : OwnL m29 ⟨ua', un', uc'⟩ lu Du := dUp.own_le le29 hou
  have hoc29 : OwnL m29 ⟨ca', cn', cc'⟩ lc Dc := dIns.own_le le29 hoc
  have m3n : m g3 = none := le_none hle2 hg3
  have hA29 := dPr.at_le (Mem.le_trans l4 l29) hA
  have hDu : ∀ b ∈ Du, ∃ o, m29 b = some o := fun b hb => hou29.live b hb
  have n27u : g27 ∉ Du := fun hb => n27 (by simp [hb])
  have l4n : m4 g27 = none := le_none le18 hg27
  refine ⟨_, cell_of c1 0, _, cell_of c1 1, _, _, _, cell_of c1 2, _, _, _, cell_of c1 3, via h52 ⟨(p, s, ⟨ua, un, uc⟩, ⟨ca, cn, cc⟩), (p', s', lu, lc), rfl, hA29, hcl, _, rfl, ?_⟩⟩
  show (if (!plainC lc) = true then _ else _)
  cases hpl : plainC lc with
  | false =>
    rw [if_pos (by decide)]
    exact pr_end (m := m) (mb := m4) (M := m29) (g3 := g3) (gx := g27) (h' := (p', s', ⟨ua', un', uc'⟩, ⟨ca', cn', cc'⟩)) (y := (p', s', lu, lc)) (D := Du ++ Dc) (Q := Q) l4 hb3 m3n l29 h29 (pr_join hou29 hoc29) hfr hnd (by
      have e : stripP (p', s', lu, lc) = (p', s', lu, lc) := by show (p', s', lu, stripC lc) = _; unfold stripC; rw [hpl]; rfl
      rw [← e]; exact hq)
  | true =>
    rw [if_neg (by decide)]
    obtain ⟨hp1, hp2, hp3, hp4⟩ := plain_out hpl
    refine ⟨_, _, _, cell_of c1 3, by omega, by omega, by omega, by omega, newA_intro fun g74 m75 hg74 e75 hb75 hle75 => newA_intro fun g76 m77 hg76 e77 hb77 hle77 => ?_⟩
    simp only [Int.toNat_natCast] at hb75 ⊢
    have z1 : zeroRow #[.bool false] (cn * 1) = (flat Enc.e (List.replicate cn false)).toArray := zeroRow_eq false cn
    rw [z1] at hb75
    refine sto (c := #[.slice none 0 0]) (t := 87) hb77 rfl (by simp) fun m78 e78 h78 hne78 => newA_intro fun g79 m80 hg79 e80 hb80 hle80 => newA_intro fun g81 m82 hg81 e82 hb82 hle82 => ?_
    have h78 : m78 g76 = some (.cells #[.slice (some ⟨g74, 0, none⟩) cn cn] 87 (0, 0)) := h78
    refine sto (c := #[.slice none 0 0]) (t := 44) hb82 rfl (by simp) fun m83 e83 h83 hne83 => ?_
    have h83 : m83 g81 = some (.cells #[vs ⟨some ⟨g79, 0, none⟩, 0, 0⟩] 44 (0, 0)) := h83
    have le78 : Mem.le m75 m78 := by rw [e78, e77, upd_upd]; exact le_upd hg76
    have le83 : Mem.le m80 m83 := by rw [e83, e82, upd_upd]; exact le_upd hg81
    have n7476 : g76 ≠ g74 := fun e => by rw [e, hb75] at hg76; cases hg76
    have n7479 : g74 ≠ g79 := ne_of_none hg79 (le78 _ _ hb75)
    have n7679 : g76 ≠ g79 := ne_of_none hg79 h78
    have h80 := hle80 _ _ h78
    have n81a : g76 ≠ g81 := ne_of_none hg81 h80
    have n81b : g74 ≠ g81 := ne_of_none hg81 (hle80 _ _ (le78 _ _ hb75))
    have n81c : g79 ≠ g81 := ne_of_none hg81 hb80
    have C0 : CI m29 m83 g76 g81 g74 cn (List.replicate cn false, []) ⟨some ⟨g79, 0, none⟩, 0, 0⟩ [g79] := by
      refine ⟨⟨Mem.le_trans (Mem.le_trans hle75 le78) (Mem.le_trans hle80 le83), le83 _ _ (hle80 _ _ (le78 _ _ hb75)), ?_, by simp [n7479], ?_⟩, le83 _ _ h80, h83, ⟨by simp [n7476, n7679], by simp [Ne.symm n81b, Ne.symm n81c], n81a⟩, le_none hle75 hg76, le_none (Mem.le_trans hle75 (Mem.le_trans le78 hle80)) hg81⟩
      · exact ⟨rfl, .inr ⟨g79, 3, [], rfl, rfl, by simpa [Abs.flat] using le83 _ _ hb80, by simp⟩⟩
      · intro b hb
        simp only [List.mem_cons, List.not_mem_nil, or_false] at hb
        rcases hb with rfl | rfl
        · exact hg74
        · exact le_none (Mem.le_trans hle75 le78) hg79
    have J0 : RI cn (List.replicate cn false, []) := ⟨by simp, by simp, by simp⟩
    refine via h66 ⟨m29, g76, g81, g74, cn, _, _, _, 0, rfl, C0, J0, by omega, by omega, fun s1 D1 m85 C1 _ => ⟨rfl, lc.length + 1, ?_⟩⟩
    have e0 : comeM (List.replicate cn false, []) 0 = ((List.replicate cn false).set 0 true, [0]) := comeM_pos (st := (List.replicate cn false, [])) (p := 0) (by simp; omega) (by simp; omega) (by simp)
    rw [e0] at C1
    clear C0 J0 h83 hb82 h80 h78 hb77 le83 le78 hle80 hle82 hb80 e83 e82 e80 e78 e77 e75 hne83 hne78 hle75 hle77 hb75
    -- the last loop: where each jump leads
    have loop27 : ∀ (R : List Bool) (sc : Sl) (D : List Nat) (B M0 : Mem) (g166 : Nat), R.length = lc.length → stripC lc = (sel R lc).map (ledTo R) → Mem.le m4 B → (∀ b ∈ Du, B b = m29 b) → PI B M0 g27 p' s' ⟨ua', un', uc'⟩ sc (sel R lc) D →
        M0 g166 = some (.cells (flat Enc.e (rkV R R.length)).toArray 3 (0, 0)) → g166 ∉ D →
        ∀ d j, j + d = (sel R lc).length → ∀ M1, OwnL M1 sc (partF (ledTo R) (sel R lc) j) D → (∀ b, b ∉ D → M1 b = M0 b) → ∀ Mx, Mem.le M1 Mx →
        L30_27 (look t) (d + 1) Q g3 g27 (some ⟨g166, 0, none⟩) lc.length lc.length sc.a sc.n sc.c (sc.n : Int) (j : Int) Mx := by
      intro R sc D B M0 g166 hRl hst hB4 hBu I hg166 hn166 d
      have hscn : sc.n = (sel R lc).length := I.o.1
      have hsl := sel_length_le R lc
      have n27D : g27 ∉ D := (List.nodup_cons.1 I.nd).1
      induction d with
      | zero =>
        intro j hj M1 hO hoff Mx hMx
        rw [l30_27]
        refine ⟨M1, hMx, ?_⟩
        rw [if_neg (by simp; omega)]
        rw [show j = (sel R lc).length by omega, partF_end] at hO
        have dd : ∀ b ∈ Du, b ∉ D := fun b hb hb' => by
          obtain ⟨o, ho'⟩ := hDu b hb
          have := I.fr b (by simp [hb'])
          rw [hBu b hb, ho'] at this
          cases this
        have lB1 : Mem.le B M1 := fun b o e => by
          rw [hoff b fun hb => by have := I.fr b (by simp [hb]); rw [e] at this; cases this]
          exact I.le _ _ e
        refine pr_end (m := m) (mb := m4) (M := M1) (g3 := g3) (gx := g27) (h' := (p', s', ⟨ua', un', uc'⟩, sc)) (y := (p', s', lu, (sel R lc).map (ledTo R))) (D := Du ++ D) (Q := Q) l4 hb3 m3n (Mem.le_trans hB4 lB1) (by rw [hoff _ n27D]; exact I.bx) (pr_join (hou29.ext fun b hb => ?_) hO) (fun b hb => ?_) ?_ ?_
        · obtain ⟨o, ho'⟩ := hDu b hb
          rw [ho']
          exact lB1 _ _ (by rw [hBu b hb]; exact ho')
        · rcases List.mem_append.1 hb with hb | hb
          · exact hfr b (by simp [hb])
          · exact le_none hB4 (I.fr b (by simp [hb]))
        · exact List.nodup_append.2 ⟨(List.nodup_append.1 hnd).1, (List.nodup_cons.1 I.nd).2, fun b hb b' hb' e => dd b hb (e ▸ hb')⟩
        · have e : stripP (p', s', lu, lc) = (p', s', lu, (sel R lc).map (ledTo R)) := by show (p', s', lu, stripC lc) = _; rw [hst]
          rw [← e]; exact hq
      | succ d ih =>
        intro j hj M1 hO hoff Mx hMx
        rw [l30_27]
        refine ⟨M1, hMx, ?_⟩
        rw [if_pos (by simp; omega)]
        have hjl : j < (sel R lc).length := by omega
        have hjp : j < (partF (ledTo R) (sel R lc) j).length := by rw [partF_len _ _ _ (by omega)]; exact hjl
        have epj := partF_get (ledTo R) (sel R lc) j hjl hjp
        have wj := wsucc (i := j) (n := sc.n) (by omega) (by omega)
        have hsame := partF_same (ledTo R) (sel R lc) j hjl
        have hstep := partF_step (ledTo R) (sel R lc) j hjl
        have hx4 : leadsB (sel R lc)[j].1 = true → 0 ≤ (sel R lc)[j].2 ∧ (sel R lc)[j].2 < (lc.length : Int) := by
          obtain ⟨k, _, hk⟩ := sel_mem R lc _ (List.getElem_mem hjl)
          exact hp4 _ (List.mem_of_getElem? hk)
        refine idx' hO.rd (by rw [partF_len _ _ _ (by omega)]; exact hscn.symm) (by omega) (by omega) fun ad had hd => ?_
        simp only [Int.toNat_natCast] at hd ⊢
        rw [epj] at hd
        generalize (sel R lc)[j] = y at *
        obtain ⟨op, a⟩ := y
        refine ⟨_, hd 0 _ rfl, _, hd 1 _ rfl, newA_intro fun g221 m222 hg221 e222 hb222 hle222 => ?_⟩
        refine sto (c := #[.int .i64 0, .int .i64 0]) (t := 73) hb222 rfl (by simp) fun m223 e223 h223 hne223 => ?_
        have h223 : m223 g221 = some (.cells #[.int .i64 op, .int .i64 a] 73 (0, 0)) := h223
        have le223 : Mem.le M1 m223 := by rw [e223, e222, upd_upd]; exact le_upd hg221
        refine ⟨_, cell_of h223 0, via h53 ⟨_, rfl, _, rfl, ?_⟩⟩
        have hb' : decide (18 ≤ op ∧ op ≤ 21) = leadsB op := rfl
        rw [hb']
        cases hb : leadsB op with
        | false =>
          rw [if_neg (by decide), wj]
          refine ih (j + 1) (by omega) M1 ?_ hoff m223 le223
          rw [hsame (by unfold ledTo; rw [if_neg (by simp [hb])])]
          exact hO
        | true =>
          rw [if_pos rfl]
          obtain ⟨a0, a1⟩ := hx4 hb
          have a0 : 0 ≤ a := a0
          have a1 : a < (lc.length : Int) := a1
          have har : a.toNat < R.length := by omega
          have n221 : g221 ∉ D := fun h => by obtain ⟨o, ho'⟩ := hO.live _ h; rw [hg221] at ho'; cases ho'
          have b27 : m223 g27 = some (.cells (prC (p', s', ⟨ua', un', uc'⟩, sc)) 38 (0, 0)) := le223 _ _ (by rw [hoff _ n27D]; exact I.bx)
          have b166 : m223 g166 = some (.cells (flat Enc.e (rkV R R.length)).toArray 3 (0, 0)) := le223 _ _ (by rw [hoff _ hn166]; exact hg166)
          have H27 : (hide m223 D) g27 = some (.cells (prC (p', s', ⟨ua', un', uc'⟩, sc)) 38 (0, 0)) := by rw [hide_off n27D]; exact b27
          have H166 : (hide m223 D) g166 = some (.cells (flat Enc.e (rkV R R.length)).toArray 3 (0, 0)) := by rw [hide_off hn166]; exact b166
          have H221 : (hide m223 D) g221 = some (.cells #[.int .i64 op, .int .i64 a] 73 (0, 0)) := by rw [hide_off n221]; exact h223
          refine ⟨Mem.le (hide m223 D), hide_le _ _, _, _, _, held (cell_of H27 3), _, held (cell_of H221 1), a0, by omega, _, held (rowAt1 (α := Int) H166 (rkV_get har) rfl), ?_⟩
          obtain ⟨ad2, ha2, hk⟩ := (dIns.own_le le223 hO : OwnL m223 sc _ D).setI hjp (rank R a.toNat : Int)
          show optA sc.a _
          rw [ha2]
          refine ⟨by omega, by show (j : Int) < (sc.n : Int); omega, ?_⟩
          refine hk _ fun M2 hM2 hoff2 => ⟨?_, ?_⟩
          · intro b o hbo
            by_cases hbD : b ∈ D
            · rw [hide_none hbD] at hbo; cases hbo
            · rw [hide_off hbD] at hbo; rw [hoff2 b hbD]; exact hbo
          · rw [wj]
            rw [epj, hstep _ (by unfold ledTo; rw [if_pos hb])] at hM2
            have hwl : Mem.le (weld M0 M2 D) M2 := weld_le fun b hbD o hbo => by rw [hoff2 b hbD]; exact le223 _ _ (by rw [hoff b hbD]; exact hbo)
            have := ih (j + 1) (by omega) (weld M0 M2 D) (hM2.ext fun b hb => weld_in hb) (fun b hb => weld_off hb) M2 hwl
            rw [ha2] at this
            exact this
    -- the loop before it: the instructions that stay are laid
    have loop20 : ∀ (R : List Bool) (B : Mem) (g166 : Nat), R.length = lc.length → stripC lc = (sel R lc).map (ledTo R) → Mem.le m4 B → (∀ b ∈ Du, B b = m29 b) → B g74 = some (.cells (flat Enc.e R).toArray 4 (0, 0)) → B g76 = some (.cells #[.slice (some ⟨g74, 0, none⟩) cn cn] 87 (0, 0)) → B g166 = none → g27 ≠ g166 →
        ∀ d i, i + d = lc.length → ∀ (M : Mem) (sc : Sl) (D : List Nat), PI B M g27 p' s' ⟨ua', un', uc'⟩ sc (sel (R.take i) (lc.take i)) D → M g166 = some (.cells (flat Enc.e (rkV R i)).toArray 3 (0, 0)) → g166 ∉ D →
        L30_20 (look t) (d + 1) Q g3 g27 g76 (some ⟨g166, 0, none⟩) lc.length lc.length ca cn cc (cn : Int) (i : Int) M := by
      intro R B g166 hRl hst hB4 hBu hBs hB76 hB166 n27166 d
      have hRdB : Rd B ca lc := hcr.le (Mem.le_trans l4 hB4)
      induction d with
      | zero =>
        intro i hi M sc D I hg hnD
        rw [l30_20]
        refine ⟨M, Mem.le_refl _, ?_⟩
        rw [if_neg (by simp; omega)]
        rw [List.take_of_length_le (by omega), List.take_of_length_le (by omega)] at I
        rw [show i = R.length by omega] at hg
        refine ⟨_, _, _, cell_of I.bx 3, (sel R lc).length + 1, ?_⟩
        exact loop27 R sc D B M g166 hRl hst hB4 hBu I hg hnD (sel R lc).length 0 (by omega) M (by rw [partF_zero]; exact I.o) (fun _ _ => rfl) M (Mem.le_refl _)
      | succ d ih =>
        intro i hi M sc D I hg hnD
        have hil : i < lc.length := by omega
        have hir : i < R.length := by omega
        have wi := wsucc (i := i) (n := lc.length) hil (by omega)
        have hsel := sel_take_succ R lc i hil hir
        have hrk := sel_take_length hRl i
        have hRg : R[i]? = some R[i] := List.getElem?_eq_getElem hir
        have n27D : g27 ∉ D := (List.nodup_cons.1 I.nd).1
        rw [l30_20]
        refine ⟨M, Mem.le_refl _, ?_⟩
        rw [if_pos (by simp; omega)]
        refine idx' (hRdB.le I.le) hcn.symm (by omega) (by omega) fun ad had hd => ?_
        simp only [Int.toNat_natCast] at hd ⊢
        generalize lc[i] = y at *
        generalize R[i] = b at *
        obtain ⟨op, a⟩ := y
        refine ⟨_, hd 0 _ rfl, _, hd 1 _ rfl, newA_intro fun g180 m181 hg180 e181 hb181 hle181 => ?_⟩
        refine sto (c := #[.int .i64 0, .int .i64 0]) (t := 73) hb181 rfl (by simp) fun m182 e182 h182 hne182 => ?_
        have h182 : m182 g180 = some (.cells #[.int .i64 op, .int .i64 a] 73 (0, 0)) := h182
        have le182 : Mem.le M m182 := by rw [e182, e181, upd_upd]; exact le_upd hg180
        have I1 := I.mono le182
        have n180 : g180 ≠ g166 := fun e => by rw [e, hg] at hg180; cases hg180
        have n180D : g180 ∉ D := fun h => by obtain ⟨o, ho'⟩ := I.o.live _ h; rw [hg180] at ho'; cases ho'
        have n18027 : g180 ≠ g27 := fun e => by rw [e, I.bx] at hg180; cases hg180
        have hscn : sc.n = (sel (R.take i) (lc.take i)).length := I.o.1
        refine ⟨_, _, _, cell_of I1.bx 3, by omega, by omega, ?_⟩
        refine sto_elem (α := Int) (x := (sc.n : Int)) (spare := []) (i := i) (by rw [List.append_nil]; exact le182 _ _ hg) (by rw [add_eq rfl, Nat.zero_add]; rfl) (by rw [rkV_len _ _ (by omega)]; exact hir) ?_
        have h188 : ∃ M' : Mem, M' = m182.upd g166 (.cells (flat Enc.e ((rkV R i).set i (sc.n : Int)) ++ []).toArray 3 (0, 0)) := ⟨_, rfl⟩
        obtain ⟨m188, hm188⟩ := h188
        rw [← hm188]
        have hg188 : m188 g166 = some (.cells (flat Enc.e (rkV R (i + 1))).toArray 3 (0, 0)) := by rw [hm188, upd_same, List.append_nil, hscn, hrk, rkV_step _ _ hir]
        have off188 : ∀ b, b ≠ g166 → m188 b = m182 b := fun b hb => by rw [hm188, upd_ne hb]
        have I2 : PI B m188 g27 p' s' ⟨ua', un', uc'⟩ sc (sel (R.take i) (lc.take i)) D :=
          ⟨le_other I1.le hB166 off188, by rw [off188 _ n27166]; exact I1.bx, I1.o.ext fun b hb => off188 b (by rintro rfl; exact hnD hb), I1.nd, I1.fr⟩
        have hg180' : m188 g180 = some (.cells #[.int .i64 op, .int .i64 a] 73 (0, 0)) := by rw [off188 _ n180]; exact h182
        refine ⟨_, _, _, cell_of (I2.le _ _ hB76) 0, by omega, by omega, _, rowAt1 (α := Bool) (I2.le _ _ hBs) hRg rfl, ?_⟩
        cases b with
        | false =>
          rw [if_neg (by decide), wi]
          rw [if_neg (by decide), List.append_nil] at hsel
          exact ih (i + 1) (by omega) m188 sc D (by rw [hsel]; exact I2) hg188 hnD
        | true =>
          rw [if_pos rfl]
          rw [if_pos rfl] at hsel
          have hlen : (sel (R.take i) (lc.take i)).length ≤ 2 ^ 30 := by
            have := sel_length_le (R.take i) (lc.take i)
            rw [List.length_take] at this
            omega
          refine ⟨_, _, _, cell_of I2.bx 3, _, cell_of hg180' 0, _, cell_of hg180' 1, newA_intro fun g204 m205 hg204 e205 hb205 hle205 => ?_⟩
          refine (I2.mono hle205).push (x := (op, a)) hb205 hlen fun sc' D' M' I' hk' => ?_
          obtain ⟨q1, q2⟩ := hk' _ _ (hle205 _ _ hg188) (Ne.symm n27166) hnD
          rw [wi]
          exact ih (i + 1) (by omega) M' sc' D' (by rw [hsel]; exact I') q1 q2
    -- the first loop: what is come to
    suffices loop9 : ∀ d i, i + d = lc.length → ∀ M s1 (st : RS) D, CI m29 M g76 g81 g74 cn st s1 D → RI lc.length st → runM lc d i st = runM lc lc.length 0 ((List.replicate lc.length false).set 0 true, [0]) → L30_9 (look t) (d + 1) Q g1 g3 g27 g76 g81 g76 g81 (i : Int) M from
      loop9 lc.length 0 (by omega) m85 s1 _ D1 C1 (by rw [hcn]; exact ri0 hp1) (by rw [hcn])
    have hdM : ∀ (q : Int), 0 ≤ q → q < (cn : Int) → ∀ K : Addr → Prop, (∀ ad, (∀ M, Mem.le m29 M → M.cell? (ad.add (q.toNat * 2)) = some (.int .i64 (gI lc q).1)) → (∀ M, Mem.le m29 M → M.cell? ((ad.add (q.toNat * 2)).add 1) = some (.int .i64 (gI lc q).2)) → K ad) → optA ca fun ad => 0 ≤ q ∧ q < (cn : Int) ∧ K ad := by
      intro q q0 q1 K hK
      obtain ⟨hl, eg⟩ := gI_get (c := lc) q0 (by omega)
      exact idx' (hcr.le (Mem.le_trans l4 l29)) hcn.symm q0 q1 fun ad had hd => hK ad (fun M hM => cell_le hM (by have e0 := hd 0 _ rfl; rw [add_add, Nat.add_zero] at e0; rw [eg]; exact e0)) (fun M hM => cell_le hM (by rw [eg]; exact hd 1 _ rfl))
    intro d
    induction d using Nat.strongRecOn with
    | ind d ih =>
      intro i hi M s1 st D C J hR
      rw [l30_9]
      refine ⟨M, Mem.le_refl _, _, _, _, cell_of C.b1 0, ?_⟩
      have hsn : s1.n = st.2.length := C.u.q.1
      have hcnt := J.cnt
      by_cases hlt : i < st.2.length
      case neg =>
        rw [if_neg (by simp; omega)]
        rw [runM_stop hlt] at hR
        have hw : IntKind.i64.wrap ((cn : Int) - 1) = ((lc.length - 1 : Nat) : Int) := (w64 (by omega) (by omega)).trans (by omega)
        refine ⟨_, _, _, cell_of C.b0 0, _, _, _, cell_of C.b0 0, ?_⟩
        show optA (some (⟨g74, 0, none⟩ : Addr)) fun d160 => (0 ≤ (IntKind.i64.wrap ((cn : Int) - 1)) ∧ (IntKind.i64.wrap ((cn : Int) - 1)) < (cn : Int) ∧ _)
        rw [hw]
        refine ⟨by omega, by omega, ?_⟩
        simp only [Int.toNat_natCast]
        refine C.u.setK (i := lc.length - 1) (x := true) (by rw [add_eq rfl, Nat.zero_add]) (by rw [J.len]; omega) fun m161 U ho161 => ?_
        have hRe : st.1.set (lc.length - 1) true = reachM lc := by unfold reachM; rw [← hR]
        rw [hRe] at U
        have hRl := reachM_len hpl
        have hst : stripC lc = (sel (reachM lc) lc).map (ledTo (reachM lc)) := by unfold stripC; rw [hpl]; rfl
        generalize reachM lc = R at *
        obtain ⟨n0, n1, n01⟩ := C.nd
        have k0 : g76 ≠ g74 := fun e => n0 (by simp [e])
        have b0 : m161 g76 = some (.cells #[.slice (some ⟨g74, 0, none⟩) cn cn] 87 (0, 0)) := by rw [ho161 _ k0]; exact C.b0
        refine ⟨_, _, _, cell_of b0 0, by omega, by omega, by omega, by omega, newA_intro fun g166 m167 hg166 e167 hb167 hle167 => ?_⟩
        have z2 : zeroRow #[.int .i64 (0 : Int)] (cn * 1) = (flat Enc.e (List.replicate cn (0 : Int))).toArray := zeroRow_eq (0 : Int) cn
        rw [z2] at hb167
        have h27 : m167 g27 = some (.cells (prC (p', s', ⟨ua', un', uc'⟩, ⟨ca', cn', cc'⟩)) 38 (0, 0)) := hle167 _ _ (U.le _ _ h29)
        refine sto (c := prC (p', s', ⟨ua', un', uc'⟩, ⟨ca', cn', cc'⟩)) (t := 38) h27 rfl (by simp [prC]) fun m168 e168 h168 hne168 => ?_
        have h168 : m168 g27 = some (.cells (prC (p', s', ⟨ua', un', uc'⟩, ⟨none, 0, 0⟩)) 38 (0, 0)) := h168
        have n27166 : g27 ≠ g166 := ne_of_none hg166 (U.le _ _ h29)
        have n127 : g1 ≠ g27 := fun e => by rw [← e, b1] at l4n; cases l4n
        have n27d : g27 ≠ g74 := fun e => by have := C.u.fr g74 (by simp); rw [← e, h29] at this; cases this
        have n27e : g27 ≠ g76 := fun e => by have := C.fr.1; rw [← e, h29] at this; cases this
        have n16674 : g166 ≠ g74 := fun e => by rw [e, U.bk] at hg166; cases hg166
        have n16676 : g166 ≠ g76 := fun e => by rw [e, b0] at hg166; cases hg166
        have c168 : m168 g1 = some (.cells #[.int .i64 p, .int .i64 s, .slice ua un uc, .slice ca cn cc] 38 (0, 0)) := by rw [hne168 _ n127]; exact hle167 _ _ (U.le _ _ c1)
        refine ⟨_, _, _, cell_of c168 3, cn + 1, ?_⟩
        have lBM : Mem.le (hide m167 [g27, g166]) m168 := fun b o e => by
          by_cases hb : b ∈ [g27, g166]
          · rw [hide_none hb] at e; cases e
          · rw [hide_off hb] at e; rw [hne168 _ (fun e2 => hb (by simp [e2]))]; exact e
        have := loop20 R (hide m167 [g27, g166]) g166 hRl hst ?_ ?_ ?_ ?_ (hide_none (by simp)) n27166 lc.length 0 (by omega) m168 ⟨none, 0, 0⟩ [] ⟨lBM, h168, ⟨by simp [sel], .inl ⟨rfl, rfl, by simp [sel], rfl⟩⟩, by simp, ?_⟩ ?_ (by simp)
        · rw [← hcn] at this
          exact this
        · refine le_hide (Mem.le_trans l29 (Mem.le_trans U.le hle167)) fun b hb => ?_
          simp only [List.mem_cons, List.not_mem_nil, or_false] at hb
          rcases hb with rfl | rfl
          · exact l4n
          · exact le_none (Mem.le_trans l29 U.le) hg166
        · intro b hb
          obtain ⟨o, ho'⟩ := hDu b hb
          have hb1 : m161 b = some o := U.le _ _ ho'
          rw [hide_off (by
            simp only [List.mem_cons, List.not_mem_nil, or_false, not_or]
            exact ⟨by rintro rfl; exact n27u hb, by rintro rfl; rw [hg166] at hb1; cases hb1⟩), ho']
          exact hle167 _ _ hb1
        · rw [hide_off (by simp [Ne.symm n27d, Ne.symm n16674])]; exact hle167 _ _ U.bk
        · rw [hide_off (by simp [Ne.symm n27e, Ne.symm n16676])]; exact hle167 _ _ b0
        · intro b hb
          simp only [List.mem_cons, List.not_mem_nil, or_false] at hb
          subst hb
          exact hide_none (by simp)
        · rw [hne168 _ (Ne.symm n27166), rkV_zero, hRl, ← hcn]; exact hb167
      case pos =>
        obtain ⟨d', rfl⟩ : ∃ d', d = d' + 1 := ⟨d - 1, by omega⟩
        rw [if_pos (by simp; omega)]
        rw [runM_go hlt] at hR
        have hv := J.mem _ (List.getElem_mem hlt)
        have wi := wsucc (i := i) (n := lc.length) (by omega) (by omega)
        refine ⟨Mem.le M, Mem.le_refl _, _, _, _, held (cell_of (C.u.le _ _ c1) 3), _, _, _, held (cell_of C.b1 0), ?_⟩
        have hqx : ∀ (M1 : Mem), Rd M1 s1.a st.2 → ∀ K : Addr → Prop, (∀ ad, M1.cell? (ad.add (i * 1)) = some (.int .i64 st.2[i]) → K ad) → optA s1.a fun ad => 0 ≤ (i : Int) ∧ (i : Int) < (s1.n : Int) ∧ K ad := by
          intro M1 hr K hK
          exact idx' hr hsn.symm (by omega) (by omega) fun ad had hd => hK ad (by have e0 := hd 0 _ rfl; rw [add_add, Nat.add_zero] at e0; exact e0)
        generalize st.2[i] = y at *
        refine hqx M C.u.q.rd _ fun ad r => ⟨_, held r, ?_⟩
        refine hdM y (by omega) (by omega) _ fun ad2 r0 r1 => ⟨_, fun q hq' => r0 q (Mem.le_trans C.u.le hq'), _, fun q hq' => r1 q (Mem.le_trans C.u.le hq'), newA_intro fun g109 m110 hg109 e110 hb110 hle110 => ⟨hle110, ?_⟩⟩
        have hgm := fun (h : leadsB (gI lc y).1 = true) => hp4 _ (gI_mem (c := lc) (p := y) (by omega) (by omega)) h
        have hst : stepM lc st y = (let st1 := if (gI lc y).1 = 18 ∨ (gI lc y).1 = 24 then st else comeM st (y + 1); if leadsB (gI lc y).1 then comeM st1 (gI lc y).2 else st1) := rfl
        generalize gI lc y = z at *
        obtain ⟨op, a⟩ := z
        refine sto (c := #[.int .i64 0, .int .i64 0]) (t := 73) hb110 rfl (by simp) fun m111 e111 h111 hne111 => ?_
        have h111 : m111 g109 = some (.cells #[.int .i64 op, .int .i64 a] 73 (0, 0)) := h111
        have le111 : Mem.le M m111 := by rw [e111, e110, upd_upd]; exact le_upd hg109
        have C2 := C.mono le111
        have ka : g109 ≠ g81 := fun e => by rw [e, C.b1] at hg109; cases hg109
        have kb : g109 ≠ g74 := fun e => by rw [e, C.u.bk] at hg109; cases hg109
        have kc : g109 ∉ D := fun h => by obtain ⟨o, ho'⟩ := C.u.q.live _ h; rw [hg109] at ho'; cases ho'
        -- the second half: where the instruction leads
        have second : ∀ (st1 : RS) (s2 : Sl) (D2 : List Nat) (M1 : Mem), CI m29 M1 g76 g81 g74 cn st1 s2 D2 → RI lc.length st1 → M1 g109 = some (.cells #[.int .i64 op, .int .i64 a] 73 (0, 0)) → g109 ∉ D2 → (if leadsB op then comeM st1 a else st1) = stepM lc st y →
            (∃ y134 : Int, (Mem.cell? M1 ⟨g109, 0, none⟩ = some (.int .i64 y134) ∧ (look t 53 [(.int .i64 y134)] M1 fun v136 m137 => (∃ b138 : Bool, (v136 = (.bool b138) ∧ (if b138 = true then (∃ y139 : Int, (Mem.cell? m137 ⟨g109, 1, none⟩ = some (.int .i64 y139) ∧ (look t 66 [(.int .i64 y139), (.pointer (some ⟨g76, 0, none⟩)), (.pointer (some ⟨g81, 0, none⟩))] m137 fun v141 m142 => (v141 = (.tuple #[]) ∧ L30_9 (look t) (d' + 1) Q g1 g3 g27 g76 g81 g76 g81 (IntKind.i64.wrap ((i : Int) + (1 : Int))) m142)))) else L30_9 (look t) (d' + 1) Q g1 g3 g27 g76 g81 g76 g81 (IntKind.i64.wrap ((i : Int) + (1 : Int))) m137)))))) := by
          intro st1 s2 D2 M1 C3 J3 hg hgD he
          refine ⟨_, cell_of hg 0, via h53 ⟨_, rfl, _, rfl, ?_⟩⟩
          have hb' : decide (18 ≤ op ∧ op ≤ 21) = leadsB op := rfl
          rw [hb', wi]
          cases hb : leadsB op with
          | false =>
            rw [if_neg (by decide)]
            rw [hb, if_neg (by decide)] at he
            exact ih d' (by omega) (i + 1) (by omega) M1 s2 st1 D2 C3 J3 (by rw [he]; exact hR)
          | true =>
            rw [if_pos rfl]
            rw [hb, if_pos rfl] at he
            obtain ⟨a0, a1⟩ := hgm hb
            have a0 : 0 ≤ a := a0
            refine ⟨_, cell_of hg 1, via h66 ⟨m29, g76, g81, g74, cn, st1, s2, D2, a, rfl, C3, by rw [hcn]; exact J3, by omega, a0, fun s4 D4 M4 C4 _ => ⟨rfl, ?_⟩⟩⟩
            exact ih d' (by omega) (i + 1) (by omega) M4 s4 _ D4 C4 (comeM_ok J3 a0) (by rw [he]; exact hR)
        refine ⟨_, cell_of h111 0, ?_⟩
        by_cases c18 : op = 18
        · rw [if_neg (by simpa using c18)]
          exact second st s1 D m111 C2 J h111 kc (by rw [hst]; simp [c18])
        · rw [if_pos (by simpa using c18)]
          refine ⟨_, cell_of h111 0, ?_⟩
          by_cases c24 : op = 24
          · rw [if_neg (by simpa using c24)]
            exact second st s1 D m111 C2 J h111 kc (by rw [hst]; simp [c24])
          · rw [if_pos (by simpa using c24)]
            have wy : IntKind.i64.wrap (y + 1) = y + 1 := w64 (by omega) (by omega)
            refine ⟨_, _, _, cell_of C2.b1 0, hqx m111 C2.u.q.rd _ fun ad r => ⟨_, r, ?_⟩⟩
            rw [wy]
            refine via h66 ⟨m29, g76, g81, g74, cn, st, s1, D, y + 1, rfl, C2, by rw [hcn]; exact J, by omega, by omega, fun s4 D4 M4 C4 hk4 => ⟨rfl, ?_⟩⟩
            obtain ⟨q1, q2⟩ := hk4 _ _ h111 ka kb kc
            exact second (comeM st (y + 1)) s4 D4 M4 C4 (comeM_ok J (by omega)) q1 q2 (by rw [hst]; simp [c18, c24])
end Go.Proofs.Ytcbjdodehjpddaa.Abs
