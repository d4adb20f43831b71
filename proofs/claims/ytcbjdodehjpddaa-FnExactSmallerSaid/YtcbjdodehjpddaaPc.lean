/- Modules: jumps are followed; both functions. -/
import Derived.Test.YtcbjdodehjpddaaPb
namespace Go.Proofs.Ytcbjdodehjpddaa.Abs
open Go.RowKit
set_option linter.unusedVariables false
set_option linter.unusedSimpArgs false
set_option linter.unusedSectionVars false
set_option maxRecDepth 20000
set_option maxHeartbeats 400000

def prC (h : PH) : Array Value := #[.int .i64 h.1, .int .i64 h.2.1, vs h.2.2.1, vs h.2.2.2]
def prZ : Array Value := #[.int .i64 0, .int .i64 0, .slice none 0 0, .slice none 0 0]
/-- A proto is handed back through the slot g3. -/
theorem pr_end {m mb M : Mem} {g3 gx : Nat} {h' : PH} {y : Pr} {D : List Nat} {Q : Value → Mem → Prop} (h0 : Mem.le m mb) (h3 : mb g3 = some (.cells prZ 38 (0, 0))) (hm3 : m g3 = none) (hle : Mem.le mb M)
    (hg : M gx = some (.cells (prC h') 38 (0, 0))) (ho : dPr.Own M h' y D) (hfr : ∀ b ∈ D, mb b = none) (hnd : D.Nodup)
    (hq : ∀ (h' : dPr.H) (D : List Nat) (m' : Mem), Mem.le m m' → (∀ b ∈ D, m b = none) → D.Nodup → dPr.Own m' h' y D → Q (vP h') m') :
    (∃ y45 : Int, (Mem.cell? M ⟨gx, 0, none⟩ = some (.int .i64 y45) ∧ (∃ y47 : Int, (Mem.cell? M ⟨gx, 1, none⟩ = some (.int .i64 y47) ∧ (∃ (ra49 : Option Addr) (rn50 rc51 : Nat), (Mem.cell? M ⟨gx, 2, none⟩ = some (.slice ra49 rn50 rc51) ∧ (∃ (ra53 : Option Addr) (rn54 rc55 : Nat), (Mem.cell? M ⟨gx, 3, none⟩ = some (.slice ra53 rn54 rc55) ∧
      (stoA M ⟨g3, 0, none⟩ [(.int .i64 y45), (.int .i64 y47), (.slice ra49 rn50 rc51), (.slice ra53 rn54 rc55)] fun m57 => (∃ y58 : Int, (Mem.cell? m57 ⟨g3, 0, none⟩ = some (.int .i64 y58) ∧ (∃ y60 : Int, (Mem.cell? m57 ⟨g3, 1, none⟩ = some (.int .i64 y60) ∧ (∃ (ra62 : Option Addr) (rn63 rc64 : Nat), (Mem.cell? m57 ⟨g3, 2, none⟩ = some (.slice ra62 rn63 rc64) ∧ (∃ (ra66 : Option Addr) (rn67 rc68 : Nat), (Mem.cell? m57 ⟨g3, 3, none⟩ = some (.slice ra66 rn67 rc68) ∧
        (ret Q (.agg #[(.int .i64 y58), (.int .i64 y60), (.slice ra62 rn63 rc64), (.slice ra66 rn67 rc68)]) m57)))))))))))))))))) := by
  refine ⟨_, cell_of hg 0, _, cell_of hg 1, _, _, _, cell_of hg 2, _, _, _, cell_of hg 3, ?_⟩
  refine sto (c := prZ) (t := 38) (hle _ _ h3) rfl (by simp [prZ]) fun m57 e57 h57 hne => ?_
  have h57 : m57 g3 = some (.cells (prC h') 38 (0, 0)) := h57
  have n3 : g3 ∉ D := fun hb => by have := hfr _ hb; rw [h3] at this; cases this
  exact ⟨_, cell_of h57 0, _, cell_of h57 1, _, _, _, cell_of h57 2, _, _, _, cell_of h57 3, ret_intro (Mem.le_refl _) (hq h' D m57 (le_other (Mem.le_trans h0 hle) hm3 hne) (fun b hb => le_none h0 (hfr b hb)) hnd (dPr.own_ext ho fun b hb => hne b (by rintro rfl; exact n3 hb)))⟩
/-- What a proto of one's own is made of. -/
theorem pr_parts {M : Mem} {p s : Int} {su sc : Sl} {x : Pr} {D : List Nat} (ho : dPr.Own M ((p, s, su, sc) : PH) x D) (hnd : D.Nodup) : ∃ Du Dc, D = Du ++ Dc ∧ p = x.1 ∧ s = x.2.1 ∧ OwnL M su x.2.2.1 Du ∧ OwnL M sc x.2.2.2 Dc ∧ (∀ b ∈ Du, b ∉ Dc) := by
  obtain ⟨E1, E2, hE, ⟨hp, rfl⟩, E3, E4, hE2, ⟨hsl, rfl⟩, Du, Dc, hE4, hu, hc⟩ := ho
  have e : D = Du ++ Dc := by rw [hE, hE2, hE4]; rfl
  exact ⟨Du, Dc, e, hp, hsl, hu, hc, fun b hb hb' => (List.nodup_append.1 (e ▸ hnd)).2.2 b hb b hb' rfl⟩
theorem pr_join {M : Mem} {p s : Int} {su sc : Sl} {lu : List Up} {lc : List Ins} {Du Dc : List Nat} (hu : OwnL M su lu Du) (hc : OwnL M sc lc Dc) : dPr.Own M ((p, s, su, sc) : PH) (p, s, lu, lc) (Du ++ Dc) :=
  ⟨[], _, rfl, ⟨rfl, rfl⟩, [], _, rfl, ⟨rfl, rfl⟩, Du, Dc, rfl, hu, hc⟩

def s18 : Spec := fun args m Q => ∃ (h : dPr.H) (x : Pr), args = [vP h] ∧ dPr.At m h x ∧ okP x ∧ ∀ (h' : dPr.H) (D : List Nat) (m' : Mem), Mem.le m m' → (∀ b ∈ D, m b = none) → D.Nodup → dPr.Own m' h' (threadP x) D → Q (vP h') m'
def s20 : Spec := s18
theorem thr_id {c : List Ins} {m : Nat} {x : Ins} (h : leadsB x.1 = false) : thr c m x = x := by unfold thr; rw [if_neg (by rw [h]; simp)]

theorem f18 (t : Tab) (h46 : look t 46 = s46) (h47 : look t 47 = s47) (h48 : look t 48 = s48) : ∀ args m Q, s18 args m Q → FA Try.prog (look t) kp18 Try.f18 args m Q := by
  rintro args m Q ⟨(⟨p, s, ⟨ua, un, uc⟩, ⟨ca, cn, cc⟩⟩ : PH), ⟨p0, s0, lu, lc⟩, rfl, hA, hok, hq⟩
  obtain ⟨hp, hs, hu, hc⟩ := id hA
  have hcn : cn = lc.length := hc.1
  have hcr : Rd m ca lc := hc.2
  have hcl : lc.length ≤ 2 ^ 20 := hok.2
  show FA Try.prog (look t) kp18 Try.f18 [.agg #[.int .i64 p, .int .i64 s, .slice ua un uc, .slice ca cn cc]] m Q
  rw [e18]
  refine newA_intro fun g1 m2 hg1 e2 hb1 hle2 => newA_intro fun g3 m4 hg3 e4 hb3 hle4 => ?_
  have b1 := hle4 _ _ hb1
  have l4 := Mem.le_trans hle2 hle4
  refine ⟨_, cell_of b1 0, _, cell_of b1 1, _, _, _, cell_of b1 2, _, _, _, cell_of b1 3, via h46 ⟨(p, s, ⟨ua, un, uc⟩, ⟨ca, cn, cc⟩), (p0, s0, lu, lc), rfl, dPr.at_le l4 hA, hok, fun (k1 : PH) D m18 le18 hfr hnd ho => ?_⟩⟩
  obtain ⟨p', s', ⟨ua', un', uc'⟩, ⟨ca', cn', cc'⟩⟩ := k1
  obtain ⟨Du, Dc, rfl, rfl, rfl, hou, hoc, hdis⟩ := pr_parts ho hnd
  refine ⟨_, _, _, _, _, _, _, _, rfl, newA_intro fun g27 m28 hg27 e28 hb28 hle28 => ?_⟩
  refine sto (c := prZ) (t := 38) hb28 rfl (by simp [prZ]) fun m29 e29 h29 hne29 => ?_
  have h29 : m29 g27 = some (.cells (prC (p', s', ⟨ua', un', uc'⟩, ⟨ca', cn', cc'⟩)) 38 (0, 0)) := h29
  have le29 : Mem.le m18 m29 := by rw [e29, e28, upd_upd]; exact le_upd hg27
  have l29 := Mem.le_trans le18 le29
  have c1 := l29 _ _ b1
  have n27 : g27 ∉ Du ++ Dc := fun hb => by obtain ⟨o, e⟩ := dPr.live ho _ hb; rw [hg27] at e; cases e
  have hou29 : OwnL m29 ⟨ua', un', uc'⟩ lu Du := dUp.own_le le29 hou
  have hoc29 : OwnL m29 ⟨ca', cn', cc'⟩ lc Dc := dIns.own_le le29 hoc
  have hcn' : cn' = lc.length := hoc.1
  have hcr29 : Rd m29 ca lc := hcr.le (Mem.le_trans l4 l29)
  have m3n : m g3 = none := le_none hle2 hg3
  refine ⟨_, cell_of c1 0, _, cell_of c1 1, _, _, _, cell_of c1 2, _, _, _, cell_of c1 3, via h47 ⟨(p, s, ⟨ua, un, uc⟩, ⟨ca, cn, cc⟩), (p', s', lu, lc), rfl, dPr.at_le (Mem.le_trans l4 l29) hA, hcl, _, rfl, ?_⟩⟩
  show (if (!plainC lc) = true then _ else _)
  have fin : ∀ (lc' : List Ins) (M : Mem), thrC lc = lc' → OwnL M ⟨ca', cn', cc'⟩ lc' Dc → (∀ b, b ∉ Dc → M b = m29 b) → _ := fun lc' M e hoM hoff => pr_end (m := m) (mb := m4) (M := M) (g3 := g3) (gx := g27) (h' := (p', s', ⟨ua', un', uc'⟩, ⟨ca', cn', cc'⟩)) (y := (p', s', lu, lc')) (D := Du ++ Dc) (Q := Q) l4 hb3 m3n
    (fun b o ho' => by rw [hoff b fun hb => by have := hfr b (by simp [hb]); rw [ho'] at this; cases this]; exact l29 _ _ ho') (by rw [hoff _ fun hb => n27 (by simp [hb])]; exact h29) (pr_join (hou29.ext fun b hb => hoff b (hdis b hb)) hoM) hfr hnd (by rw [← e]; exact hq)
  cases hpl : plainC lc with
  | false =>
    rw [if_pos (by decide)]
    exact fin lc m29 (by unfold thrC; rw [hpl]; rfl) hoc29 fun _ _ => rfl
  | true =>
    rw [if_neg (by decide)]
    obtain ⟨hp1, hp2, hp3, hp4⟩ := plain_out hpl
    have hdx : ∀ (q : Int), 0 ≤ q → q < (cn : Int) → ∀ M : Mem, Mem.le m29 M → ∀ K : Addr → Prop, (∀ ad, M.cell? (ad.add (q.toNat * 2)) = some (.int .i64 (gI lc q).1) → M.cell? ((ad.add (q.toNat * 2)).add 1) = some (.int .i64 (gI lc q).2) → K ad) → optA ca fun ad => 0 ≤ q ∧ q < (cn : Int) ∧ K ad := by
      intro q q0 q1 M hM K hK
      obtain ⟨hl, eg⟩ := gI_get (c := lc) q0 (by omega)
      exact idx' (hcr29.le hM) hcn.symm q0 q1 fun ad had hd => hK ad (by have e0 := hd 0 _ rfl; rw [add_add, Nat.add_zero] at e0; rw [eg]; exact e0) (by rw [eg]; exact hd 1 _ rfl)
    suffices key : ∀ d i, i + d = lc.length → ∀ M, OwnL M ⟨ca', cn', cc'⟩ (partF (thr lc lc.length) lc i) Dc → (∀ b, b ∉ Dc → M b = m29 b) → L18_5 (look t) (d + 1) Q g1 g3 g27 (i : Int) M from
      ⟨lc.length + 1, key lc.length 0 (by omega) m29 (by rw [partF_zero]; exact hoc29) fun _ _ => rfl⟩
    intro d
    induction d with
    | zero =>
      intro i hi M hoM hoff
      have lM : Mem.le (hide m29 Dc) M := fun b o e => by
        by_cases hb : b ∈ Dc
        · rw [hide_none hb] at e; cases e
        · rw [hide_off hb] at e; rw [hoff b hb]; exact e
      have n1 : g1 ∉ Dc := fun hb => by have := hfr g1 (by simp [hb]); rw [b1] at this; cases this
      rw [l18_5]
      have cM1 : M g1 = some (.cells #[.int .i64 p, .int .i64 s, .slice ua un uc, .slice ca cn cc] 38 (0, 0)) := by rw [hoff _ n1]; exact c1
      refine ⟨M, Mem.le_refl _, _, _, _, cell_of cM1 3, ?_⟩
      rw [if_neg (by simp; omega)]
      rw [show i = lc.length by omega, partF_end] at hoM
      exact fin (lc.map (thr lc lc.length)) M (by unfold thrC; rw [hpl]; rfl) hoM hoff
    | succ d ih =>
      intro i hi M hoM hoff
      have hil : i < lc.length := by omega
      have n1 : g1 ∉ Dc := fun hb => by have := hfr g1 (by simp [hb]); rw [b1] at this; cases this
      have n27c : g27 ∉ Dc := fun hb => n27 (by simp [hb])
      have cM1 : M g1 = some (.cells #[.int .i64 p, .int .i64 s, .slice ua un uc, .slice ca cn cc] 38 (0, 0)) := by rw [hoff _ n1]; exact c1
      have cM27 : M g27 = some (.cells (prC (p', s', ⟨ua', un', uc'⟩, ⟨ca', cn', cc'⟩)) 38 (0, 0)) := by rw [hoff _ n27c]; exact h29
      have wi := wsucc (i := i) (n := lc.length) hil (by omega)
      -- the code that is read lies elsewhere
      have hRdM : Rd M ca lc := by
        have hl4 : Mem.le m4 M := fun b o ho' => by rw [hoff b fun hb => by have := hfr b (by simp [hb]); rw [ho'] at this; cases this]; exact l29 _ _ ho'
        exact hcr.le (Mem.le_trans l4 hl4)
      have hdM : ∀ (q : Int), 0 ≤ q → q < (cn : Int) → ∀ K : Addr → Prop, (∀ ad, M.cell? (ad.add (q.toNat * 2)) = some (.int .i64 (gI lc q).1) → M.cell? ((ad.add (q.toNat * 2)).add 1) = some (.int .i64 (gI lc q).2) → K ad) → optA ca fun ad => 0 ≤ q ∧ q < (cn : Int) ∧ K ad := by
        intro q q0 q1 K hK
        obtain ⟨hl, eg⟩ := gI_get (c := lc) q0 (by omega)
        exact idx' hRdM hcn.symm q0 q1 fun ad had hd => hK ad (by have e0 := hd 0 _ rfl; rw [add_add, Nat.add_zero] at e0; rw [eg]; exact e0) (by rw [eg]; exact hd 1 _ rfl)
      have egi : gI lc (i : Int) = lc[i] := by obtain ⟨hl, eg⟩ := gI_get (c := lc) (p := (i : Int)) (by omega) (by omega); exact eg
      rw [l18_5]
      refine ⟨M, Mem.le_refl _, _, _, _, cell_of cM1 3, ?_⟩
      rw [if_pos (by simp; omega)]
      refine ⟨_, _, _, cell_of cM1 3, hdM _ (by omega) (by omega) _ fun ad r0 r1 => ⟨_, r0, via h48 ⟨_, rfl, _, rfl, ?_⟩⟩⟩
      rw [egi]
      cases hb : leadsB lc[i].1 with
      | false =>
        rw [if_pos (by decide), wi]
        refine ih (i + 1) (by omega) M ?_ hoff
        rw [partF_same _ _ _ hil (thr_id hb)]
        exact hoM
      | true =>
        rw [if_neg (by decide)]
        refine ⟨_, _, _, cell_of cM1 3, hdM _ (by omega) (by omega) _ fun ad r0 r1 => ⟨_, r1, lc.length + 1, ?_⟩⟩
        rw [egi]
        have hr := hp4 _ (List.getElem_mem hil) hb
        -- what happens with the place that was come to
        have store : ∀ at_ : Int, at_ = chase lc lc.length lc[i].2 → 0 ≤ at_ → at_ < (cn : Int) →
            (∃ (ra138 : Option Addr) (rn139 rc140 : Nat), (Mem.cell? M ⟨g1, 3, none⟩ = some (.slice ra138 rn139 rc140) ∧ (optA ra138 fun d142 => (0 ≤ at_ ∧ at_ < (rn139 : Int) ∧ (∃ y143 : Int, (Mem.cell? M (d142.add (Int.toNat at_ * 2)) = some (.int .i64 y143) ∧ (if (y143 != (18 : Int)) = true then (∃ (ra145 : Option Addr) (rn146 rc147 : Nat), (Mem.cell? M ⟨g27, 3, none⟩ = some (.slice ra145 rn146 rc147) ∧ (optA ra145 fun d149 => (0 ≤ (i : Int) ∧ (i : Int) < (rn146 : Int) ∧ (stoA M ((d149.add (Int.toNat (i : Int) * 2)).add 1) [(.int .i64 at_)] fun m150 => L18_5 (look t) (d + 1) Q g1 g3 g27 (IntKind.i64.wrap ((i : Int) + (1 : Int))) m150))))) else L18_5 (look t) (d + 1) Q g1 g3 g27 (IntKind.i64.wrap ((i : Int) + (1 : Int))) M))))))) := by
          intro at_ hat a0 a1
          refine ⟨_, _, _, cell_of cM1 3, hdM _ a0 a1 _ fun ad r0 r1 => ⟨_, r0, ?_⟩⟩
          by_cases h18 : (gI lc at_).1 = 18
          · rw [if_neg (by simpa using h18), wi]
            refine ih (i + 1) (by omega) M ?_ hoff
            rw [partF_same _ _ _ hil (by unfold thr; rw [if_pos hb, ← hat, if_pos h18])]
            exact hoM
          · rw [if_pos (by simpa using h18)]
            refine ⟨_, _, _, cell_of cM27 3, ?_⟩
            have hip : i < (partF (thr lc lc.length) lc i).length := by rw [partF_len _ _ _ (by omega)]; exact hil
            have epi := partF_get (thr lc lc.length) lc i hil hip
            obtain ⟨ad2, ha2, hk⟩ := hoM.setI hip at_
            have ha2 : ca' = some ad2 := ha2
            show optA ca' _
            rw [ha2]
            refine ⟨by omega, by show (i : Int) < (cn' : Int); omega, ?_⟩
            simp only [Int.toNat_natCast]
            refine hk _ fun M2 hM2 hoff2 => ?_
            rw [wi]
            rw [epi, partF_step _ _ _ hil _ (by unfold thr; rw [if_pos hb, ← hat, if_neg h18])] at hM2
            exact ih (i + 1) (by omega) M2 hM2 fun b hb => by rw [hoff2 b hb, hoff b hb]
        suffices inner : ∀ e j (at_ : Int), j + e = lc.length → 0 ≤ at_ → at_ < (cn : Int) → chase lc e at_ = chase lc lc.length lc[i].2 → L18_10 (look t) (d + 1) (e + 1) Q g1 g3 g27 (i : Int) at_ (j : Int) M from
          inner lc.length 0 _ (by omega) (by omega) (by omega) rfl
        intro e
        induction e with
        | zero =>
          intro j at_ hj a0 a1 hch
          rw [l18_10]
          refine ⟨M, Mem.le_refl _, _, _, _, cell_of cM1 3, ?_⟩
          rw [if_neg (by simp; omega)]
          exact store at_ hch a0 a1
        | succ e ihe =>
          intro j at_ hj a0 a1 hch
          rw [l18_10]
          refine ⟨M, Mem.le_refl _, _, _, _, cell_of cM1 3, ?_⟩
          rw [if_pos (by simp; omega)]
          refine ⟨_, _, _, cell_of cM1 3, hdM _ a0 a1 _ fun ad r0 r1 => ⟨_, r0, ?_⟩⟩
          by_cases h18 : (gI lc at_).1 = 18
          · rw [if_pos (by simpa using h18)]
            refine ⟨_, _, _, cell_of cM1 3, hdM _ a0 a1 _ fun ad r0 r1 => ⟨_, r1, ?_⟩⟩
            have h2 := hp4 _ (gI_mem a0 (by omega)) (by rw [h18]; rfl)
            rw [wsucc (i := j) (n := lc.length) (by omega) (by omega)]
            exact ihe (j + 1) _ (by omega) h2.1 (by omega) (by rw [← hch, chase_go _ _ _ h18])
          · rw [if_neg (by simpa using h18)]
            exact store at_ (by rw [← hch, chase_stop _ _ _ h18]) a0 a1
end Go.Proofs.Ytcbjdodehjpddaa.Abs
/- Modules: jumps are followed; the program's function. -/
namespace Go.Proofs.Ytcbjdodehjpddaa.Abs
open Go.RowKit
set_option linter.unusedVariables false
set_option linter.unusedSimpArgs false
set_option linter.unusedSectionVars false
set_option maxRecDepth 20000
set_option maxHeartbeats 400000

theorem f20 (t : Tab) (h51 : look t 51 = s51) (h52 : look t 52 = s52) (h53 : look t 53 = s53) : ∀ args m Q, s20 args m Q → FA Try.prog (look t) kp20 Try.f20 args m Q := by
  rintro args m Q ⟨(⟨p, s, ⟨ua, un, uc⟩, ⟨ca, cn, cc⟩⟩ : PH), ⟨p0, s0, lu, lc⟩, rfl, hA, hok, hq⟩
  obtain ⟨hp, hs, hu, hc⟩ := id hA
  have hcn : cn = lc.length := hc.1
  have hcr : Rd m ca lc := hc.2
  have hcl : lc.length ≤ 2 ^ 20 := hok.2
  show FA Try.prog (look t) kp20 Try.f20 [.agg #[.int .i64 p, .int .i64 s, .slice ua un uc, .slice ca cn cc]] m Q
  rw [e20]
  refine newA_intro fun g1 m2 hg1 e2 hb1 hle2 => newA_intro fun g3 m4 hg3 e4 hb3 hle4 => ?_
  have b1 := hle4 _ _ hb1
  have l4 := Mem.le_trans hle2 hle4
  refine ⟨_, cell_of b1 0, _, cell_of b1 1, _, _, _, cell_of b1 2, _, _, _, cell_of b1 3, via h51 ⟨(p, s, ⟨ua, un, uc⟩, ⟨ca, cn, cc⟩), (p0, s0, lu, lc), rfl, dPr.at_le l4 hA, hok, fun (k1 : PH) D m18 le18 hfr hnd ho => ?_⟩⟩
  obtain ⟨p', s', ⟨ua', un', uc'⟩, ⟨ca', cn', cc'⟩⟩ := k1
  obtain ⟨Du, Dc, rfl, rfl, rfl, hou, hoc, hdis⟩ := pr_parts ho hnd
  refine ⟨_, _, _, _, _, _, _, _, rfl, newA_intro fun g27 m28 hg27 e28 hb28 hle28 => ?_⟩
  refine sto (c := prZ) (t := 38) hb28 rfl (by simp [prZ]) fun m29 e29 h29 hne29 => ?_
  have h29 : m29 g27 = some (.cells (prC (p', s', ⟨ua', un', uc'⟩, ⟨ca', cn', cc'⟩)) 38 (0, 0)) := h29
  have le29 : Mem.le m18 m29 := by rw [e29, e28, upd_upd]; exact le_upd hg27
  have l29 := Mem.le_trans le18 le29
  have c1 := l29 _ _ b1
  have n27 : g27 ∉ Du ++ Dc := fun hb => by obtain ⟨o, e⟩ := dPr.live ho _ hb; rw [hg27] at e; cases e
  have hou29 : OwnL m29 ⟨ua', un', uc'⟩ lu Du := dUp.own_le le29 hou
  have hoc29 : OwnL m29 ⟨ca', cn', cc'⟩ lc Dc := dIns.own_le le29 hoc
  have hcn' : cn' = lc.length := hoc.1
  have hcr29 : Rd m29 ca lc := hcr.le (Mem.le_trans l4 l29)
  have m3n : m g3 = none := le_none hle2 hg3
  refine ⟨_, cell_of c1 0, _, cell_of c1 1, _, _, _, cell_of c1 2, _, _, _, cell_of c1 3, via h52 ⟨(p, s, ⟨ua, un, uc⟩, ⟨ca, cn, cc⟩), (p', s', lu, lc), rfl, dPr.at_le (Mem.le_trans l4 l29) hA, hcl, _, rfl, ?_⟩⟩
  show (if (!plainC lc) = true then _ else _)
  have fin : ∀ (lc' : List Ins) (M : Mem), thrC lc = lc' → OwnL M ⟨ca', cn', cc'⟩ lc' Dc → (∀ b, b ∉ Dc → M b = m29 b) → _ := fun lc' M e hoM hoff => pr_end (m := m) (mb := m4) (M := M) (g3 := g3) (gx := g27) (h' := (p', s', ⟨ua', un', uc'⟩, ⟨ca', cn', cc'⟩)) (y := (p', s', lu, lc')) (D := Du ++ Dc) (Q := Q) l4 hb3 m3n
    (fun b o ho' => by rw [hoff b fun hb => by have := hfr b (by simp [hb]); rw [ho'] at this; cases this]; exact l29 _ _ ho') (by rw [hoff _ fun hb => n27 (by simp [hb])]; exact h29) (pr_join (hou29.ext fun b hb => hoff b (hdis b hb)) hoM) hfr hnd (by rw [← e]; exact hq)
  cases hpl : plainC lc with
  | false =>
    rw [if_pos (by decide)]
    exact fin lc m29 (by unfold thrC; rw [hpl]; rfl) hoc29 fun _ _ => rfl
  | true =>
    rw [if_neg (by decide)]
    obtain ⟨hp1, hp2, hp3, hp4⟩ := plain_out hpl
    refine ⟨_, _, _, cell_of c1 3, ?_⟩
    suffices key : ∀ d i, i + d = lc.length → ∀ M, OwnL M ⟨ca', cn', cc'⟩ (partF (thr lc (lc.length + 1)) lc i) Dc → (∀ b, b ∉ Dc → M b = m29 b) → ∀ Mx, Mem.le M Mx → L20_5 (look t) (d + 1) Q g1 g3 g27 ca cn cc (cn : Int) (i : Int) Mx from
      ⟨lc.length + 1, key lc.length 0 (by omega) m29 (by rw [partF_zero]; exact hoc29) (fun _ _ => rfl) m29 (Mem.le_refl _)⟩
    intro d
    induction d with
    | zero =>
      intro i hi M hoM hoff Mx hMx
      rw [l20_5]
      refine ⟨M, hMx, ?_⟩
      rw [if_neg (by simp; omega)]
      rw [show i = lc.length by omega, partF_end] at hoM
      have em : lc.map (thr lc (lc.length + 1)) = lc.map (thr lc lc.length) := List.map_congr_left fun x hx => thr_same hpl hx
      rw [em] at hoM
      exact fin (lc.map (thr lc lc.length)) M (by unfold thrC; rw [hpl]; rfl) hoM hoff
    | succ d ih =>
      intro i hi M hoM hoff Mx hMx
      have hil : i < lc.length := by omega
      have n1 : g1 ∉ Dc := fun hb => by have := hfr g1 (by simp [hb]); rw [b1] at this; cases this
      have n27c : g27 ∉ Dc := fun hb => n27 (by simp [hb])
      have cM1 : M g1 = some (.cells #[.int .i64 p, .int .i64 s, .slice ua un uc, .slice ca cn cc] 38 (0, 0)) := by rw [hoff _ n1]; exact c1
      have cM27 : M g27 = some (.cells (prC (p', s', ⟨ua', un', uc'⟩, ⟨ca', cn', cc'⟩)) 38 (0, 0)) := by rw [hoff _ n27c]; exact h29
      have wi := wsucc (i := i) (n := lc.length) hil (by omega)
      have hRdM : Rd M ca lc := by
        have hl4 : Mem.le m4 M := fun b o ho' => by rw [hoff b fun hb => by have := hfr b (by simp [hb]); rw [ho'] at this; cases this]; exact l29 _ _ ho'
        exact hcr.le (Mem.le_trans l4 hl4)
      have hdM : ∀ (q : Int), 0 ≤ q → q < (cn : Int) → ∀ K : Addr → Prop, (∀ ad, M.cell? (ad.add (q.toNat * 2)) = some (.int .i64 (gI lc q).1) → M.cell? ((ad.add (q.toNat * 2)).add 1) = some (.int .i64 (gI lc q).2) → K ad) → optA ca fun ad => 0 ≤ q ∧ q < (cn : Int) ∧ K ad := by
        intro q q0 q1 K hK
        obtain ⟨hl, eg⟩ := gI_get (c := lc) q0 (by omega)
        exact idx' hRdM hcn.symm q0 q1 fun ad had hd => hK ad (by have e0 := hd 0 _ rfl; rw [add_add, Nat.add_zero] at e0; rw [eg]; exact e0) (by rw [eg]; exact hd 1 _ rfl)
      have egi : gI lc (i : Int) = lc[i] := by obtain ⟨hl, eg⟩ := gI_get (c := lc) (p := (i : Int)) (by omega) (by omega); exact eg
      rw [l20_5]
      refine ⟨M, hMx, ?_⟩
      rw [if_pos (by simp; omega)]
      refine hdM _ (by omega) (by omega) _ fun ad r0 r1 => ⟨_, r0, _, r1, newA_intro fun g81 m82 hg81 e82 hb82 hle82 => ?_⟩
      rw [egi]
      have hr := hp4 _ (List.getElem_mem hil)
      have hsame := partF_same (thr lc (lc.length + 1)) lc i hil
      have hstep := partF_step (thr lc (lc.length + 1)) lc i hil
      have hip : i < (partF (thr lc (lc.length + 1)) lc i).length := by rw [partF_len _ _ _ (by omega)]; exact hil
      have epi := partF_get (thr lc (lc.length + 1)) lc i hil hip
      have hsI := fun v => hoM.setI hip v
      rw [epi] at hsI
      generalize lc[i] = y at *
      obtain ⟨op, a⟩ := y
      refine sto (c := #[.int .i64 0, .int .i64 0]) (t := 73) hb82 rfl (by simp) fun m83 e83 h83 hne83 => ?_
      have h83 : m83 g81 = some (.cells #[.int .i64 op, .int .i64 a] 73 (0, 0)) := h83
      have le83 : Mem.le M m83 := by rw [e83, e82, upd_upd]; exact le_upd hg81
      refine ⟨_, cell_of h83 0, via h53 ⟨_, rfl, _, rfl, ?_⟩⟩
      have hb' : decide (18 ≤ op ∧ op ≤ 21) = leadsB op := rfl
      rw [hb']
      cases hb : leadsB op with
      | false =>
        rw [if_pos (by decide), wi]
        refine ih (i + 1) (by omega) M ?_ hoff m83 le83
        rw [hsame (thr_id hb)]
        exact hoM
      | true =>
        rw [if_neg (by decide)]
        refine ⟨_, cell_of h83 1, lc.length + 2, ?_⟩
        have hr := hr hb
        have hr0 : 0 ≤ a := hr.1
        have hr1 : a < (lc.length : Int) := hr.2
        -- what happens with the place that was come to
        have store : ∀ at_ : Int, at_ = chase lc (lc.length + 1) a → 0 ≤ at_ → at_ < (cn : Int) →
            (∃ (ra138 : Option Addr) (rn139 rc140 : Nat), (Mem.cell? M ⟨g1, 3, none⟩ = some (.slice ra138 rn139 rc140) ∧ (optA ra138 fun d142 => (0 ≤ at_ ∧ at_ < (rn139 : Int) ∧ (∃ y143 : Int, (Mem.cell? M (d142.add (Int.toNat at_ * 2)) = some (.int .i64 y143) ∧ (if (y143 != (18 : Int)) = true then (∃ (ra145 : Option Addr) (rn146 rc147 : Nat), (Mem.cell? M ⟨g27, 3, none⟩ = some (.slice ra145 rn146 rc147) ∧ (optA ra145 fun d149 => (0 ≤ (i : Int) ∧ (i : Int) < (rn146 : Int) ∧ (stoA M ((d149.add (Int.toNat (i : Int) * 2)).add 1) [(.int .i64 at_)] fun m150 => L20_5 (look t) (d + 1) Q g1 g3 g27 ca cn cc (cn : Int) (IntKind.i64.wrap ((i : Int) + (1 : Int))) m150))))) else L20_5 (look t) (d + 1) Q g1 g3 g27 ca cn cc (cn : Int) (IntKind.i64.wrap ((i : Int) + (1 : Int))) M))))))) := by
          intro at_ hat a0 a1
          refine ⟨_, _, _, cell_of cM1 3, hdM _ a0 a1 _ fun ad r0 r1 => ⟨_, r0, ?_⟩⟩
          by_cases h18 : (gI lc at_).1 = 18
          · rw [if_neg (by simpa using h18), wi]
            refine ih (i + 1) (by omega) M ?_ hoff M (Mem.le_refl _)
            rw [hsame (by unfold thr; rw [if_pos hb]; show (if (gI lc (chase lc (lc.length + 1) a)).1 = 18 then _ else _) = _; rw [← hat, if_pos h18])]
            exact hoM
          · rw [if_pos (by simpa using h18)]
            refine ⟨_, _, _, cell_of cM27 3, ?_⟩
            obtain ⟨ad2, ha2, hk⟩ := hsI at_
            have ha2 : ca' = some ad2 := ha2
            show optA ca' _
            rw [ha2]
            refine ⟨by omega, by show (i : Int) < (cn' : Int); omega, ?_⟩
            simp only [Int.toNat_natCast]
            refine hk _ fun M2 hM2 hoff2 => ?_
            rw [wi]
            rw [hstep _ (by unfold thr; rw [if_pos hb]; show _ = (if (gI lc (chase lc (lc.length + 1) a)).1 = 18 then _ else _); rw [← hat, if_neg h18])] at hM2
            exact ih (i + 1) (by omega) M2 hM2 (fun b hb => by rw [hoff2 b hb, hoff b hb]) M2 (Mem.le_refl _)
        suffices inner : ∀ e j (at_ : Int), j + e = lc.length + 1 → 0 ≤ at_ → at_ < (cn : Int) → chase lc e at_ = chase lc (lc.length + 1) a → ∀ Mx, Mem.le M Mx → L20_10 (look t) (d + 1) (e + 1) Q g1 g3 g27 (i : Int) at_ (j : Int) ca cn cc (cn : Int) (i : Int) Mx from
          inner (lc.length + 1) 0 _ (by omega) (by omega) (by omega) rfl m83 le83
        intro e
        induction e with
        | zero =>
          intro j at_ hj a0 a1 hch Mx hMx
          rw [l20_10]
          refine ⟨M, hMx, _, _, _, cell_of cM1 3, hdM _ a0 a1 _ fun ad r0 r1 => ⟨_, r0, ?_⟩⟩
          by_cases h18 : (gI lc at_).1 = 18
          · rw [if_pos (by simpa using h18)]
            refine ⟨_, _, _, cell_of cM1 3, ?_⟩
            rw [if_neg (by simp; omega)]
            exact store at_ hch a0 a1
          · rw [if_neg (by simpa using h18)]
            exact store at_ hch a0 a1
        | succ e ihe =>
          intro j at_ hj a0 a1 hch Mx hMx
          rw [l20_10]
          refine ⟨M, hMx, _, _, _, cell_of cM1 3, hdM _ a0 a1 _ fun ad r0 r1 => ⟨_, r0, ?_⟩⟩
          by_cases h18 : (gI lc at_).1 = 18
          · rw [if_pos (by simpa using h18)]
            refine ⟨_, _, _, cell_of cM1 3, ?_⟩
            rw [if_pos (by simp; omega)]
            refine ⟨_, _, _, cell_of cM1 3, hdM _ a0 a1 _ fun ad r0 r1 => ⟨_, r1, ?_⟩⟩
            have h2 := hp4 _ (gI_mem a0 (by omega)) (by rw [h18]; rfl)
            rw [wsucc (i := j) (n := lc.length + 1) (by omega) (by omega)]
            exact ihe (j + 1) _ (by omega) h2.1 (by omega) (by rw [← hch, chase_go _ _ _ h18]) M (Mem.le_refl _)
          · rw [if_neg (by simpa using h18)]
            exact store at_ (by rw [← hch, chase_stop _ _ _ h18]) a0 a1
end Go.Proofs.Ytcbjdodehjpddaa.Abs
