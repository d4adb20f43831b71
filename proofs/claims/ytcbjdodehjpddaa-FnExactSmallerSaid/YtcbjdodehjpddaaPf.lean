/- Modules: code that is not come to is taken out; the reference's function. -/
import Derived.Test.YtcbjdodehjpddaaPe
namespace Go.Proofs.Ytcbjdodehjpddaa.Abs
open Go.RowKit
set_option linter.unusedVariables false
set_option linter.unusedSimpArgs false
set_option linter.unusedSectionVars false
set_option maxRecDepth 20000
set_option maxHeartbeats 400000

theorem rank_succ (bl : List Bool) (i : Nat) (h : i < bl.length) : rank bl (i + 1) = rank bl i + (if bl[i] then 1 else 0) := by
  unfold rank
  rw [List.take_succ_eq_append_getElem h, List.count_append]
  cases bl[i] <;> rfl
theorem rank_le (bl : List Bool) (i : Nat) : rank bl i ≤ i := by
  unfold rank
  exact Nat.le_trans List.count_le_length (by rw [List.length_take]; omega)
/-- A proto in the making: its struct and its code. -/
structure PI (B M : Mem) (gx : Nat) (p s : Int) (su sc : Sl) (l : List Ins) (D : List Nat) : Prop where
  le : Mem.le B M
  bx : M gx = some (.cells (prC (p, s, su, sc)) 38 (0, 0))
  o : OwnL M sc l D
  nd : (gx :: D).Nodup
  fr : ∀ b ∈ gx :: D, B b = none
theorem PI.mono {B M M' : Mem} {gx : Nat} {p s : Int} {su sc : Sl} {l : List Ins} {D : List Nat} (I : PI B M gx p s su sc l D) (h : Mem.le M M') : PI B M' gx p s su sc l D :=
  ⟨Mem.le_trans I.le h, h _ _ I.bx, dIns.own_le h I.o, I.nd, I.fr⟩
theorem PI.push {B M : Mem} {gx : Nat} {p s : Int} {su sc : Sl} {l : List Ins} {D : List Nat} (I : PI B M gx p s su sc l D) {gs : Nat} {x : Ins} {K : Mem → Prop} (hx : M gs = some (.cells #[.int .i64 x.1, .int .i64 x.2] 73 (0, 0))) (hl : l.length ≤ 2 ^ 30)
    (hK : ∀ (sc' : Sl) (D' : List Nat) (M' : Mem), PI B M' gx p s su sc' (l ++ [x]) D' → (∀ b o, M b = some o → b ≠ gx → b ∉ D → M' b = some o ∧ b ∉ D') → K M') :
    appR M sc.a sc.n sc.c (some ⟨gs, 0, none⟩) 1 2 16 #[.int .i64 0, .int .i64 0] 73 fun ra rc m1 => stoA m1 ⟨gx, 3, none⟩ [.slice ra (sc.n + 1) rc] K := by
  have h2 : gx ∉ D := (List.nodup_cons.1 I.nd).1
  refine app_sl (α := Ins) (l := l) (l2 := [x]) (D := D) rfl rfl (by decide) (by decide) (by decide) I.o rfl (Rd.of_block (spare := []) hx (by rfl)) (by simp; omega) fun s' D' M' hsn hO' hoff hfr hnd' => ?_
  have fr' : ∀ b ∈ D', b ∈ D ∨ M b = none := fun b hb => by
    rcases hfr with e | hfr
    · exact .inl (e ▸ hb)
    · exact .inr (hfr b hb)
  have nx : gx ∉ D' := fun h => by
    rcases fr' _ h with h | h
    · exact h2 h
    · rw [I.bx] at h; cases h
  have fm : ∀ b ∈ D', B b = none := fun b hb => by
    rcases fr' _ hb with h | h
    · exact I.fr b (by simp [h])
    · exact le_none I.le h
  refine sto (c := prC (p, s, su, sc)) (t := 38) (by rw [hoff _ nx]; exact I.bx) rfl (by simp [prC]) fun M2 e2 h2' hne2 => ?_
  have h2' : M2 gx = some (.cells #[.int .i64 p, .int .i64 s, vs su, .slice s'.a (sc.n + 1) s'.c] 38 (0, 0)) := h2'
  have hsn : s'.n = sc.n + 1 := hsn
  rw [← hsn] at h2'
  refine hK s' D' M2 ⟨le_other (le_off I.le fm hoff) (I.fr gx (by simp)) hne2, h2', hO'.ext fun b hb => hne2 b (by rintro rfl; exact nx hb), List.nodup_cons.2 ⟨nx, hnd'⟩, fun b hb => ?_⟩ fun b o ho h1 h3 => ?_
  rcases List.mem_cons.1 hb with rfl | hb
  · exact I.fr _ (by simp)
  · exact fm b hb
  have hd' : b ∉ D' := fun h => by
    rcases fr' _ h with h | h
    · exact h3 h
    · rw [ho] at h; cases h
  exact ⟨by rw [hne2 _ h1, hoff _ hd']; exact ho, hd'⟩
def s29 : Spec := fun args m Q => ∃ (h : dPr.H) (x : Pr), args = [vP h] ∧ dPr.At m h x ∧ okP x ∧ ∀ (h' : dPr.H) (D : List Nat) (m' : Mem), Mem.le m m' → (∀ b ∈ D, m b = none) → D.Nodup → dPr.Own m' h' (stripP x) D → Q (vP h') m'
def s30 : Spec := s29

theorem f29 (t : Tab) (h46 : look t 46 = s46) (h47 : look t 47 = s47) (h48 : look t 48 = s48) (h65 : look t 65 = s65) : ∀ args m Q, s29 args m Q → FA Try.prog (look t) kp29 Try.f29 args m Q := by
  rintro args m Q ⟨(⟨p, s, ⟨ua, un, uc⟩, ⟨ca, cn, cc⟩⟩ : PH), ⟨p0, s0, lu, lc⟩, rfl, hA, hok, hq⟩
  obtain ⟨hp, hs, hu, hc⟩ := id hA
  have hcn : cn = lc.length := hc.1
  have hcr : Rd m ca lc := hc.2
  have hcl : lc.length ≤ 2 ^ 20 := hok.2
  show FA Try.prog (look t) kp29 Try.f29 [.agg #[.int .i64 p, .int .i64 s, .slice ua un uc, .slice ca cn cc]] m Q
  rw [e29]
  refine newA_intro fun g1 m2 hg1 e2 hb1 hle2 => newA_intro fun g3 m4 hg3 e4 hb3 hle4 => ?_
  have b1 := hle4 _ _ hb1
  have l4 := Mem.le_trans hle2 hle4
  refine ⟨_, cell_of b1 0, _, cell_of b1 1, _, _, _, cell_of b1 2, _, _, _, cell_of b1 3, via h46 ⟨(p, s, ⟨ua, un, uc⟩, ⟨ca, cn, cc⟩), (p0, s0, lu, lc), rfl, dPr.at_le l4 hA, hok, fun (k1 : PH) D m18 le18 hfr hnd ho => ?_⟩⟩
  obtain ⟨p', s', ⟨ua', un', uc'⟩, ⟨ca', cn', cc'⟩⟩ := k1
  obtain ⟨Du, Dc, rfl, rfl, rfl, hou, hoc, hdis⟩ := pr_parts ho hnd
  refine ⟨_, _, _, _, _, _, _, _, rfl, newA_intro fun g27 m28 hg27 e28 hb28 hle28 => ?_⟩
  refine sto (c := prZ) (t := 38) hb28 rfl (by simp [prZ]) fun m29 e29 h29 hne29 => ?_
  have h29 : m29 g27 = some (.cells (prC (p', s', ⟨ua', un', uc'⟩, ⟨ca', cn', cc'⟩)) 38 (0, 0)) := h29
  have le29 : Mem.le m18 m29 := by rw [e29, e28, upd_upd]; exact le_upd hg27
  have l29 := Mem.le_trans le18 le29
  have c1 := l29 _ _ b1
  have n27 : g27 ∉ Du ++ Dc := fun hb => by obtain ⟨o, e⟩ := dPr.live ho _ hb; rw [hg27] at e; cases e
  have hou29 : OwnL m29 ⟨ua', un', uc'⟩ lu Du := dUp.own_le le29 hou
  have hoc29 : OwnL m29 ⟨ca', cn', cc'⟩ lc Dc := dIns.own_le le29 hoc
  have hcr29 : Rd m29 ca lc := hcr.le (Mem.le_trans l4 l29)
  have m3n : m g3 = none := le_none hle2 hg3
  have hA29 := dPr.at_le (Mem.le_trans l4 l29) hA
  refine ⟨_, cell_of c1 0, _, cell_of c1 1, _, _, _, cell_of c1 2, _, _, _, cell_of c1 3, via h47 ⟨(p, s, ⟨ua, un, uc⟩, ⟨ca, cn, cc⟩), (p', s', lu, lc), rfl, hA29, hcl, _, rfl, ?_⟩⟩
  show (if (!plainC lc) = true then _ else _)
  cases hpl : plainC lc with
  | false =>
    rw [if_pos (by decide)]
    exact pr_end (m := m) (mb := m4) (M := m29) (g3 := g3) (gx := g27) (h' := (p', s', ⟨ua', un', uc'⟩, ⟨ca', cn', cc'⟩)) (y := (p', s', lu, lc)) (D := Du ++ Dc) (Q := Q) l4 hb3 m3n l29 h29 (pr_join hou29 hoc29) hfr hnd (by
      have e : stripP (p', s', lu, lc) = (p', s', lu, lc) := by show (p', s', lu, stripC lc) = _; unfold stripC; rw [hpl]; rfl
      rw [← e]; exact hq)
  | true =>
    rw [if_neg (by decide)]
    obtain ⟨hp1, hp2, hp3, hp4⟩ := plain_out hpl
    refine ⟨_, cell_of c1 0, _, cell_of c1 1, _, _, _, cell_of c1 2, _, _, _, cell_of c1 3, via h65 ⟨(p, s, ⟨ua, un, uc⟩, ⟨ca, cn, cc⟩), (p', s', lu, lc), rfl, hA29, hpl, fun gs m83 le83 hgs hbs => ?_⟩⟩
    have hbs : m83 gs = some (.cells (flat Enc.e (runM lc lc.length 0 ((List.replicate lc.length false).set 0 true, [0])).1).toArray 4 (0, 0)) := hbs
    have hrl := (runM_len hpl lc.length 0 _ (ri0 hp1)).len
    refine ⟨_, _, _, rfl, ?_⟩
    have hw : IntKind.i64.wrap ((lc.length : Int) - 1) = ((lc.length - 1 : Nat) : Int) := (w64 (by omega) (by omega)).trans (by omega)
    show optA (some (⟨gs, 0, none⟩ : Addr)) fun d87 => (0 ≤ (IntKind.i64.wrap ((lc.length : Int) - 1)) ∧ (IntKind.i64.wrap ((lc.length : Int) - 1)) < (lc.length : Int) ∧ _)
    rw [hw]
    refine ⟨by omega, by omega, ?_⟩
    simp only [Int.toNat_natCast]
    refine sto_elem (α := Bool) (x := true) (spare := []) (i := lc.length - 1) (by rw [List.append_nil]; exact hbs) (by rw [add_eq rfl, Nat.zero_add]; rfl) (by rw [hrl]; omega) ?_
    have h88 : ∃ M : Mem, M = m83.upd gs (.cells (flat Enc.e ((runM lc lc.length 0 ((List.replicate lc.length false).set 0 true, [0])).1.set (lc.length - 1) true) ++ []).toArray 4 (0, 0)) := ⟨_, rfl⟩
    obtain ⟨m88, hm88⟩ := h88
    rw [← hm88]
    have bs88 : m88 gs = some (.cells (flat Enc.e (reachM lc)).toArray 4 (0, 0)) := by rw [hm88, upd_same, List.append_nil]; rfl
    have l88 : Mem.le m29 m88 := by rw [hm88]; exact le_upd_fresh le83 hgs
    have hRl := reachM_len hpl
    clear hm88 hbs
    have hst : stripC lc = (sel (reachM lc) lc).map (ledTo (reachM lc)) := by unfold stripC; rw [hpl]; rfl
    generalize reachM lc = R at *
    refine ⟨by omega, by omega, by omega, by omega, newA_intro fun g89 m90 hg89 e90 hb90 hle90 => ⟨lc.length + 1, ?_⟩⟩
    have z1 : zeroRow #[.int .i64 (0 : Int)] (lc.length * 1) = (flat Enc.e (List.replicate lc.length (0 : Int))).toArray := zeroRow_eq (0 : Int) lc.length
    rw [z1] at hb90
    have n27s : g27 ≠ gs := fun e => by rw [e, hgs] at h29; cases h29
    have n2789 : g27 ≠ g89 := fun e => by have := l88 _ _ h29; rw [e, hg89] at this; cases this
    have l4n : m4 g27 = none := le_none le18 hg27
    have mn27 : m g27 = none := le_none l4 l4n
    have hDu : ∀ b ∈ Du, ∃ o, m29 b = some o := fun b hb => hou29.live b hb
    have n27u : g27 ∉ Du := fun hb => n27 (by simp [hb])
    -- the second loop: the instructions that stay are laid
    have loop16 : ∀ B : Mem, Mem.le m4 B → (∀ b ∈ Du, B b = m29 b) → B g1 = m29 g1 → B gs = some (.cells (flat Enc.e R).toArray 4 (0, 0)) → B g89 = some (.cells (flat Enc.e (rkV R R.length)).toArray 3 (0, 0)) →
        ∀ d i, i + d = lc.length → ∀ (M : Mem) (sc : Sl) (D : List Nat), PI B M g27 p' s' ⟨ua', un', uc'⟩ sc ((sel (R.take i) (lc.take i)).map (ledTo R)) D →
        L29_16 (look t) (d + 1) Q g1 g3 g27 (some ⟨gs, 0, none⟩) lc.length lc.length (some ⟨g89, 0, none⟩) lc.length lc.length (i : Int) M := by
      intro B hB4 hBu hB1 hBs hBp d
      have hB1 : B g1 = some (.cells #[.int .i64 p, .int .i64 s, .slice ua un uc, .slice ca cn cc] 38 (0, 0)) := hB1.trans c1
      have hRdB : Rd B ca lc := hcr.le (Mem.le_trans l4 hB4)
      induction d with
      | zero =>
        intro i hi M sc D I
        rw [l29_16]
        refine ⟨M, Mem.le_refl _, ?_⟩
        rw [if_neg (by simp; omega)]
        rw [List.take_of_length_le (by omega), List.take_of_length_le (by omega)] at I
        have dd : ∀ b ∈ Du, b ∉ D := fun b hb hb' => by
          obtain ⟨o, ho'⟩ := hDu b hb
          have := I.fr b (by simp [hb'])
          rw [hBu b hb, ho'] at this
          cases this
        refine pr_end (m := m) (mb := m4) (M := M) (g3 := g3) (gx := g27) (h' := (p', s', ⟨ua', un', uc'⟩, sc)) (y := (p', s', lu, (sel R lc).map (ledTo R))) (D := Du ++ D) (Q := Q) l4 hb3 m3n (Mem.le_trans hB4 I.le) I.bx (pr_join (hou29.ext fun b hb => ?_) I.o) (fun b hb => ?_) ?_ ?_
        · obtain ⟨o, ho'⟩ := hDu b hb
          rw [ho']
          exact I.le _ _ (by rw [hBu b hb]; exact ho')
        · rcases List.mem_append.1 hb with hb | hb
          · exact hfr b (by simp [hb])
          · exact le_none hB4 (I.fr b (by simp [hb]))
        · exact List.nodup_append.2 ⟨(List.nodup_append.1 hnd).1, (List.nodup_cons.1 I.nd).2, fun b hb b' hb' e => dd b hb (e ▸ hb')⟩
        · have e : stripP (p', s', lu, lc) = (p', s', lu, (sel R lc).map (ledTo R)) := by show (p', s', lu, stripC lc) = _; rw [hst]
          rw [← e]; exact hq
      | succ d ih =>
        intro i hi M sc D I
        have hil : i < lc.length := by omega
        have hir : i < R.length := by omega
        have wi := wsucc (i := i) (n := lc.length) hil (by omega)
        have hsel := sel_take_succ R lc i hil hir
        have hRg : R[i]? = some R[i] := List.getElem?_eq_getElem hir
        rw [l29_16]
        refine ⟨M, Mem.le_refl _, ?_⟩
        rw [if_pos (by simp; omega)]
        refine ⟨by omega, by omega, _, rowAt1 (α := Bool) (I.le _ _ hBs) hRg rfl, ?_⟩
        have hx4 := hp4 _ (List.getElem_mem hil)
        have hdx : ∀ K : Addr → Prop, (∀ ad, (∀ (k : Nat) (v : Value), (Enc.e lc[i])[k]? = some v → M.cell? ((ad.add (i * 2)).add k) = some v) → K ad) → optA ca fun ad => 0 ≤ (i : Int) ∧ (i : Int) < (cn : Int) ∧ K ad := fun K hK => idx' (hRdB.le I.le) hcn.symm (by omega) (by omega) fun ad had hd => hK ad hd
        generalize R[i] = b at *
        generalize lc[i] = y at *
        cases b with
        | false =>
          rw [if_pos (by decide), wi]
          rw [if_neg (by decide), List.append_nil] at hsel
          exact ih (i + 1) (by omega) M sc D (by rw [hsel]; exact I)
        | true =>
          rw [if_neg (by decide)]
          rw [if_pos rfl] at hsel
          obtain ⟨op, a⟩ := y
          simp only [Int.toNat_natCast]
          refine ⟨_, _, _, cell_of (I.le _ _ hB1) 3, hdx _ fun ad hd => ⟨_, by have e0 := hd 0 _ rfl; rw [add_add, Nat.add_zero] at e0; exact e0, _, hd 1 _ rfl, newA_intro fun g115 m116 hg115 e116 hb116 hle116 => ?_⟩⟩
          refine sto (c := #[.int .i64 0, .int .i64 0]) (t := 73) hb116 rfl (by simp) fun m117 e117 h117 hne117 => ?_
          have h117 : m117 g115 = some (.cells #[.int .i64 op, .int .i64 a] 73 (0, 0)) := h117
          have le117 : Mem.le M m117 := by rw [e117, e116, upd_upd]; exact le_upd hg115
          have I1 := I.mono le117
          refine ⟨_, cell_of h117 0, via h48 ⟨_, rfl, _, rfl, ?_⟩⟩
          have hlen : ((sel (R.take i) (lc.take i)).map (ledTo R)).length ≤ 2 ^ 30 := by
            rw [List.length_map]
            have := sel_length_le (R.take i) (lc.take i)
            rw [List.length_take] at this
            omega
          have fin : ∀ (v : Int) (M1 : Mem), (op, v) = ledTo R (op, a) → PI B M1 g27 p' s' ⟨ua', un', uc'⟩ sc ((sel (R.take i) (lc.take i)).map (ledTo R)) D → M1 g115 = some (.cells #[.int .i64 op, .int .i64 v] 73 (0, 0)) →
              (∃ (ra129 : Option Addr) (rn130 rc131 : Nat), (Mem.cell? M1 ⟨g27, 3, none⟩ = some (.slice ra129 rn130 rc131) ∧ (∃ y133 : Int, (Mem.cell? M1 ⟨g115, 0, none⟩ = some (.int .i64 y133) ∧ (∃ y135 : Int, (Mem.cell? M1 ⟨g115, 1, none⟩ = some (.int .i64 y135) ∧ (newA M1 (.cells #[(.int .i64 y133), (.int .i64 y135)] 73 (0, 0)) fun g137 m138 => (appR m138 ra129 rn130 rc131 (some ⟨g137, 0, none⟩) 1 2 16 #[(.int .i64 (0 : Int)), (.int .i64 (0 : Int))] 73 fun ra139 rc140 m141 => (stoA m141 ⟨g27, 3, none⟩ [(.slice ra139 (rn130 + 1) rc140)] fun m142 => L29_16 (look t) (d + 1) Q g1 g3 g27 (some ⟨gs, 0, none⟩) lc.length lc.length (some ⟨g89, 0, none⟩) lc.length lc.length (IntKind.i64.wrap ((i : Int) + (1 : Int))) m142))))))))) := by
            intro v M1 hv I1 hg
            refine ⟨_, _, _, cell_of I1.bx 3, _, cell_of hg 0, _, cell_of hg 1, newA_intro fun g137 m138 hg137 e138 hb138 hle138 => ?_⟩
            refine (I1.mono hle138).push (x := (op, v)) hb138 hlen fun sc' D' M' I' _ => ?_
            rw [wi]
            refine ih (i + 1) (by omega) M' sc' D' ?_
            rw [hsel, List.map_append]
            show PI B M' g27 p' s' ⟨ua', un', uc'⟩ sc' (_ ++ [ledTo R (op, a)]) D'
            rw [← hv]
            exact I'
          cases hb : leadsB op with
          | false =>
            rw [if_neg (by decide)]
            exact fin a m117 (by unfold ledTo; rw [if_neg (by simp [hb])]) I1 h117
          | true =>
            rw [if_pos rfl]
            obtain ⟨a0, a1⟩ := hx4 hb
            have a0 : 0 ≤ a := a0
            have a1 : a < (lc.length : Int) := a1
            have har : a.toNat < R.length := by omega
            refine ⟨_, cell_of h117 1, a0, by omega, _, rowAt1 (α := Int) (I1.le _ _ hBp) (rkV_get har) rfl, ?_⟩
            refine sto (c := #[.int .i64 op, .int .i64 a]) (t := 73) (k := 1) h117 rfl (by simp) fun m128 e128 h128 hne128 => ?_
            have n115 : g27 ≠ g115 := fun e => by rw [← e, I.bx] at hg115; cases hg115
            have n115D : g115 ∉ D := fun h => by obtain ⟨o, ho'⟩ := I.o.live _ h; rw [hg115] at ho'; cases ho'
            refine fin _ m128 (by unfold ledTo; rw [if_pos hb]) ⟨le_other I1.le (le_none I.le hg115) hne128, by rw [hne128 _ n115]; exact I1.bx, I1.o.ext fun b hb => hne128 b (by rintro rfl; exact n115D hb), I1.nd, I1.fr⟩ h128
    -- the first loop: where each instruction comes to lie
    suffices loop9 : ∀ d i, i + d = lc.length → ∀ M : Mem, Mem.le m88 M → M g89 = some (.cells (flat Enc.e (rkV R i)).toArray 3 (0, 0)) → L29_9 (look t) (d + 1) Q g1 g3 g27 (some ⟨gs, 0, none⟩) lc.length lc.length (some ⟨g89, 0, none⟩) lc.length lc.length (rank R i : Int) (i : Int) M from
      loop9 lc.length 0 (by omega) m90 hle90 (by rw [rkV_zero, hRl]; exact hb90)
    intro d
    induction d with
    | zero =>
      intro i hi M hM hg
      rw [l29_9]
      refine ⟨M, Mem.le_refl _, ?_⟩
      rw [if_neg (by simp; omega)]
      rw [show i = R.length by omega] at hg
      refine newA_intro fun g98 m99 hg98 e99 hb99 hle99 => ?_
      have h27M : M g27 = some (.cells (prC (p', s', ⟨ua', un', uc'⟩, ⟨ca', cn', cc'⟩)) 38 (0, 0)) := hM _ _ (l88 _ _ h29)
      refine sto (c := prC (p', s', ⟨ua', un', uc'⟩, ⟨ca', cn', cc'⟩)) (t := 38) (hle99 _ _ h27M) rfl (by simp [prC]) fun m100 e100 h100 hne100 => ⟨lc.length + 1, ?_⟩
      have h100 : m100 g27 = some (.cells (prC (p', s', ⟨ua', un', uc'⟩, ⟨some ⟨g98, 0, none⟩, 0, 0⟩)) 38 (0, 0)) := h100
      have n98 : g27 ≠ g98 := ne_of_none hg98 h27M
      have lHM : Mem.le (hide M [g27]) m100 := fun b o e => by
        by_cases hb : b = g27
        · rw [hb, hide_none (by simp)] at e; cases e
        · rw [hide_off (by simpa using hb)] at e; rw [hne100 _ hb]; exact hle99 _ _ e
      refine loop16 (hide M [g27]) (le_hide (Mem.le_trans l29 (Mem.le_trans l88 hM)) (by simpa using l4n)) (fun b hb => ?_) ?_ ?_ ?_ lc.length 0 (by omega) m100 ⟨some ⟨g98, 0, none⟩, 0, 0⟩ [g98] ⟨lHM, h100, ?_, by simp [n98], ?_⟩
      · rw [hide_off (by simp; rintro rfl; exact n27u hb)]
        obtain ⟨o, ho'⟩ := hDu b hb
        rw [ho']
        exact hM _ _ (l88 _ _ ho')
      · have : g1 ≠ g27 := fun e => by rw [← e, b1] at l4n; cases l4n
        rw [hide_off (by simpa using this), c1]
        exact hM _ _ (l88 _ _ c1)
      · rw [hide_off (by simpa using Ne.symm n27s)]; exact hM _ _ bs88
      · rw [hide_off (by simpa using Ne.symm n2789)]; exact hg
      · refine ⟨by simp [sel], .inr ⟨g98, 73, [], rfl, rfl, ?_, by simp [sel]⟩⟩
        rw [hne100 _ (Ne.symm n98)]
        simpa [sel, Abs.flat] using hb99
      · intro b hb
        simp only [List.mem_cons, List.not_mem_nil, or_false] at hb
        rcases hb with rfl | rfl
        · exact hide_none (by simp)
        · rw [hide_off (by simpa using Ne.symm n98)]; exact hg98
    | succ d ih =>
      intro i hi M hM hg
      have hil : i < lc.length := by omega
      have hir : i < R.length := by omega
      have wi := wsucc (i := i) (n := lc.length) hil (by omega)
      have hRg : R[i]? = some R[i] := List.getElem?_eq_getElem hir
      have hrs := rank_succ R i hir
      have hrl' := rank_le R i
      rw [l29_9]
      refine ⟨M, Mem.le_refl _, ?_⟩
      rw [if_pos (by simp; omega)]
      refine ⟨by omega, by omega, ?_⟩
      refine sto_elem (α := Int) (x := (rank R i : Int)) (spare := []) (i := i) (by rw [List.append_nil]; exact hg) (by rw [add_eq rfl, Nat.zero_add]; rfl) (by rw [rkV_len _ _ (by omega)]; exact hir) ?_
      have h94 : ∃ M' : Mem, M' = M.upd g89 (.cells (flat Enc.e ((rkV R i).set i (rank R i : Int)) ++ []).toArray 3 (0, 0)) := ⟨_, rfl⟩
      obtain ⟨m94, hm94⟩ := h94
      rw [← hm94]
      have hg94 : m94 g89 = some (.cells (flat Enc.e (rkV R (i + 1))).toArray 3 (0, 0)) := by rw [hm94, upd_same, List.append_nil, rkV_step _ _ hir]
      have l94 : Mem.le m88 m94 := by rw [hm94]; exact le_upd_fresh hM hg89
      refine ⟨by omega, by omega, _, rowAt1 (α := Bool) (l94 _ _ bs88) hRg rfl, ?_⟩
      cases hb : R[i] with
      | false =>
        rw [if_neg (by decide), wi]
        rw [hb] at hrs
        have := ih (i + 1) (by omega) m94 l94 hg94
        rw [hrs] at this
        exact this
      | true =>
        rw [if_pos rfl, wi, wsucc (i := rank R i) (n := lc.length) (by omega) (by omega)]
        rw [hb, if_pos rfl] at hrs
        have := ih (i + 1) (by omega) m94 l94 hg94
        rw [hrs] at this
        exact this
end Go.Proofs.Ytcbjdodehjpddaa.Abs
