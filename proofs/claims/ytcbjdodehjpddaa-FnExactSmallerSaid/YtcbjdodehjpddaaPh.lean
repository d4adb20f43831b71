/- Modules: made smaller; both functions. -/
import Derived.Test.YtcbjdodehjpddaaPg
import Derived.Test.YtcbjdodehjpddaaOj
namespace Go.Proofs.Ytcbjdodehjpddaa.Abs
open Go.RowKit
set_option linter.unusedVariables false
set_option linter.unusedSimpArgs false
set_option linter.unusedSectionVars false
set_option maxRecDepth 20000
set_option maxHeartbeats 400000

/-- One thing of a row of things with memory is put in another's place. -/
theorem Ds.list_put {α : Type} (d : Ds α) {M : Mem} {s : Sl} {l : List α} {D E : List Nat} {i : Nat} {x : α} {h' : d.H} (hO : (Ds.list d).Own M s l D) (hnd : D.Nodup) (hi : i < l.length) (hE : d.Own M h' x E) (hEn : E.Nodup) (hdis : ∀ b ∈ E, b ∉ D) :
    ∃ ad : Addr, s.a = some ad ∧ ∀ K : Mem → Prop, (∀ (M' : Mem) (D' : List Nat), (Ds.list d).Own M' s (l.set i x) D' → D'.Nodup → (∀ b ∈ D', b ∈ D ∨ b ∈ E) → (∀ b, b ∉ D → M' b = M b) → K M') → stoA M (ad.add (i * Enc.s d.H)) (Enc.e h') K := by
  obtain ⟨hs, Es, D0, h1, h2, hD, h3, h4⟩ := hO
  have hDn : (D0 ++ Es.flatten).Nodup := hD ▸ hnd
  obtain ⟨hn0, hnF, hn0F⟩ := List.nodup_append.1 hDn
  have hil : i < hs.length := by rw [h1]; exact hi
  have hie : i < Es.length := by rw [h2]; exact hi
  obtain ⟨ad, ha, hk⟩ := h3.setE hil h'
  refine ⟨ad, ha, fun K hK => hk K fun M' hM' hoff => ?_⟩
  have hmem : ∀ b, b ∈ (Es.set i E).flatten → b ∈ Es.flatten ∨ b ∈ E := by
    intro b hb
    obtain ⟨A, hA, hb2⟩ := List.mem_flatten.1 hb
    rcases List.mem_or_eq_of_mem_set hA with hA | e
    · exact .inl (List.mem_flatten.2 ⟨A, hA, hb2⟩)
    · exact .inr (e ▸ hb2)
  have hE0 : ∀ b ∈ E, b ∉ D0 := fun b hb h => hdis b hb (by rw [hD]; simp [h])
  refine hK M' (D0 ++ (Es.set i E).flatten) ⟨hs.set i h', Es.set i E, D0, by simp [h1], by simp [h2], rfl, hM', fun j h y A e1 e2 e3 => ?_⟩ ?_ (fun b hb => ?_) (fun b hb => hoff b fun h => hb (by rw [hD]; simp [h]))
  · by_cases hj : i = j
    · subst hj
      rw [List.getElem?_set_self hil] at e1
      rw [List.getElem?_set_self hi] at e2
      rw [List.getElem?_set_self hie] at e3
      have e1 := Option.some.inj e1
      have e2 := Option.some.inj e2
      have e3 := Option.some.inj e3
      rw [← e1, ← e2, ← e3]
      exact d.own_ext hE fun b hb => hoff b (hE0 b hb)
    · rw [List.getElem?_set_ne hj] at e1 e2 e3
      exact d.own_ext (h4 j h y A e1 e2 e3) fun b hb => hoff b fun h => hn0F b h b (List.mem_flatten.2 ⟨A, List.mem_of_getElem? e3, hb⟩) rfl
  · refine List.nodup_append.2 ⟨hn0, ?_, fun b hb b' hb' e => ?_⟩
    · have hp := List.pairwise_flatten.1 hnF
      refine List.pairwise_flatten.2 ⟨fun A hA => ?_, ?_⟩
      · rcases List.mem_or_eq_of_mem_set hA with hA | rfl
        · exact hp.1 A hA
        · exact hEn
      · rw [List.pairwise_iff_getElem]
        intro a b ha hb hab x hx y hy e
        subst e
        simp only [List.length_set] at ha hb
        rw [List.getElem_set] at hx hy
        by_cases c1 : i = a
        · rw [if_pos c1] at hx
          rw [if_neg (by omega)] at hy
          exact hdis x hx (by rw [hD]; exact List.mem_append.2 (.inr (List.mem_flatten.2 ⟨_, List.getElem_mem hb, hy⟩)))
        · rw [if_neg c1] at hx
          by_cases c2 : i = b
          · rw [if_pos c2] at hy
            exact hdis x hy (by rw [hD]; exact List.mem_append.2 (.inr (List.mem_flatten.2 ⟨_, List.getElem_mem ha, hx⟩)))
          · rw [if_neg c2] at hy
            exact (List.pairwise_iff_getElem.1 hp.2) a b ha hb hab x hx x hy rfl
    · subst e
      rcases hmem _ hb' with h | h
      · exact hn0F b hb b h rfl
      · exact hE0 b h hb
  · rcases List.mem_append.1 hb with hb | hb
    · exact .inl (by rw [hD]; simp [hb])
    · rcases hmem _ hb with h | h
      · exact .inl (by rw [hD]; simp [h])
      · exact .inr h

def smP (p : Pr) : Pr := stripP (threadP p)
def smallM (x : Mo) : Mo := if okB x then unM (x.1.map smP, x.2) else x
theorem thrC_okX {np nt : Nat} {c : List Ins} (h : ∀ x ∈ c, okX np nt x) : ∀ x ∈ thrC c, okX np nt x := by
  intro x hx
  unfold thrC at hx
  split at hx
  · obtain ⟨y, hy, rfl⟩ := List.mem_map.1 hx
    unfold thr
    by_cases hl : leadsB y.1 = true
    · rw [if_pos hl]
      have h1 : 18 ≤ y.1 ∧ y.1 ≤ 21 := of_decide_eq_true hl
      split
      · exact h y hy
      · exact ⟨fun e => by have e : y.1 = 12 := e; omega, fun e => by have e : y.1 = 4 := e; omega⟩
    · rw [if_neg hl]; exact h y hy
  · exact h x hx
theorem stripC_okX {np nt : Nat} {c : List Ins} (h : ∀ x ∈ c, okX np nt x) : ∀ x ∈ stripC c, okX np nt x := by
  intro x hx
  unfold stripC at hx
  split at hx
  · obtain ⟨y, hy, rfl⟩ := List.mem_map.1 hx
    obtain ⟨k, _, hk⟩ := sel_mem _ _ _ hy
    unfold ledTo
    by_cases hl : leadsB y.1 = true
    · rw [if_pos hl]
      have h1 : 18 ≤ y.1 ∧ y.1 ≤ 21 := of_decide_eq_true hl
      exact ⟨fun e => by have e : y.1 = 12 := e; omega, fun e => by have e : y.1 = 4 := e; omega⟩
    · rw [if_neg hl]; exact h y (List.mem_of_getElem? hk)
  · exact h x hx
theorem okP_smP {p : Pr} (h : okP p) : okP (threadP p) ∧ okP (smP p) := by
  have e1 := thrC_len p.2.2.2
  have e2 := stripC_len (thrC p.2.2.2)
  have h2 := h.2
  exact ⟨⟨h.1, by show (thrC p.2.2.2).length ≤ _; omega⟩, h.1, by show (stripC (thrC p.2.2.2)).length ≤ _; omega⟩
theorem okM_sm {x : Mo} (h : okM x) : okM (x.1.map smP, x.2) := by
  refine ⟨⟨by simpa using h.1.1, fun p hp => ?_⟩, h.2⟩
  obtain ⟨q, hq, rfl⟩ := List.mem_map.1 hp
  exact (okP_smP (h.1.2 q hq)).2
theorem smallM_ok {x : Mo} (h : okM x) : okM (smallM x) := by
  unfold smallM
  split
  · exact unM_ok (okM_sm h)
  · exact h
theorem sm_okPsX {x : Mo} (h : okPsX x.1 x.2.length ∧ 0 < x.1.length) : okPsX (x.1.map smP) x.2.length ∧ 0 < (x.1.map smP).length := by
  refine ⟨fun p hp y hy => ?_, by simpa using h.2⟩
  obtain ⟨q, hq, rfl⟩ := List.mem_map.1 hp
  rw [List.length_map]
  exact stripC_okX (thrC_okX (h.1 q hq)) y hy
def s40 : Spec := fun args m Q => ∃ (h : dMo.H) (x : Mo), args = [vM h] ∧ dMo.At m h x ∧ okM x ∧ bgM x ∧ ∀ (h' : dMo.H) (D : List Nat) (m' : Mem), Mem.le m m' → (∀ b ∈ D, m b = none) → D.Nodup → dMo.Own m' h' (smallM x) D → Q (.tuple #[vM h', .bool (okB x)]) m'
def s41 : Spec := s40

/-- The result is handed back through the slot g3. -/
theorem sm_end {m mb M : Mem} {g3 : Nat} {h' : dMo.H} {y : Mo} {D : List Nat} {b : Bool} {Q : Value → Mem → Prop} (h0 : Mem.le m mb) (h3 : mb g3 = some (.cells #[.slice none 0 0, .slice none 0 0] 55 (0, 0))) (hm3 : m g3 = none) (hle : Mem.le mb M)
    (ho : dMo.Own M h' y D) (hfr : ∀ b ∈ D, mb b = none) (hnd : D.Nodup)
    (hq : ∀ (h' : dMo.H) (D : List Nat) (m' : Mem), Mem.le m m' → (∀ b ∈ D, m b = none) → D.Nodup → dMo.Own m' h' y D → Q (.tuple #[vM h', .bool b]) m') :
    (stoA M ⟨g3, 0, none⟩ [vs h'.1, vs h'.2] fun m43 => (∃ (ra44 : Option Addr) (rn45 rc46 : Nat), (Mem.cell? m43 ⟨g3, 0, none⟩ = some (.slice ra44 rn45 rc46) ∧ (∃ (ra48 : Option Addr) (rn49 rc50 : Nat), (Mem.cell? m43 ⟨g3, 1, none⟩ = some (.slice ra48 rn49 rc50) ∧ (ret Q (.tuple #[(.agg #[(.slice ra44 rn45 rc46), (.slice ra48 rn49 rc50)]), (.bool b)]) m43)))))) := by
  refine sto (c := #[.slice none 0 0, .slice none 0 0]) (t := 55) (hle _ _ h3) rfl (by simp) fun m43 e h hne => ?_
  have h : m43 g3 = some (.cells #[vs h'.1, vs h'.2] 55 (0, 0)) := h
  exact ⟨_, _, _, cell_of h 0, _, _, _, cell_of h 1, ret_intro (Mem.le_refl _) (hq h' D m43 (le_other (Mem.le_trans h0 hle) hm3 hne) (fun b hb => le_none h0 (hfr b hb)) hnd (dMo.own_ext ho fun b hb => hne b (by rintro rfl; have := hfr _ hb; rw [h3] at this; cases this)))⟩
theorem f40 (t : Tab) (h18 : look t 18 = s18) (h29 : look t 29 = s29) (h71 : look t 71 = s71) (h72 : look t 72 = s72) (h73 : look t 73 = s73) : ∀ args m Q, s40 args m Q → FA Try.prog (look t) kp40 Try.f40 args m Q := by
  rintro args m Q ⟨⟨⟨pa, pn, pc⟩, ⟨ta, tn, tc⟩⟩, ⟨ps, ts⟩, rfl, hM, hok, hbg, hq⟩
  show FA Try.prog (look t) kp40 Try.f40 [.agg #[.slice pa pn pc, .slice ta tn tc]] m Q
  rw [e40]
  refine newA_intro fun g1 m2 hg1 e2 hb1 hle2 => newA_intro fun g3 m4 hg3 e4 hb3 hle4 => ?_
  have b1 := hle4 _ _ hb1
  have l4 := Mem.le_trans hle2 hle4
  have m3n := le_none hle2 hg3
  have hM4 := dMo.at_le l4 hM
  refine ⟨_, _, _, cell_of b1 0, _, _, _, cell_of b1 1, via h72 ⟨(⟨pa, pn, pc⟩, ⟨ta, tn, tc⟩), (ps, ts), rfl, hM4, hok, fun (k1 : dMo.H) D m14 le14 hfr hnd ho => ?_⟩⟩
  obtain ⟨⟨a1, n1, c1⟩, ⟨a2, n2, c2⟩⟩ := k1
  refine ⟨_, _, _, _, _, _, rfl, newA_intro fun g21 m22 hg21 e22 hb22 hle22 => ?_⟩
  refine sto (c := #[.slice none 0 0, .slice none 0 0]) (t := 55) hb22 rfl (by simp) fun m23 e23 h23 hne23 => ?_
  have h23 : m23 g21 = some (.cells #[.slice a1 n1 c1, .slice a2 n2 c2] 55 (0, 0)) := h23
  have le23 : Mem.le m14 m23 := by rw [e23, e22, upd_upd]; exact le_upd hg21
  have l23 := Mem.le_trans le14 le23
  have ho23 := dMo.own_le le23 ho
  have b1' := l23 _ _ b1
  refine ⟨_, _, _, cell_of b1' 0, _, _, _, cell_of b1' 1, via h71 ⟨(⟨pa, pn, pc⟩, ⟨ta, tn, tc⟩), (ps, ts), rfl, dMo.at_le l23 hM4, hok, hbg.2.2, _, rfl, ?_⟩⟩
  cases hB : okB (ps, ts) with
  | false =>
    rw [if_pos (by decide)]
    have e : smallM (ps, ts) = (ps, ts) := by unfold smallM; rw [hB]; rfl
    rw [hB, e] at hq
    exact ⟨_, _, _, cell_of h23 0, _, _, _, cell_of h23 1, sm_end (h' := (⟨a1, n1, c1⟩, ⟨a2, n2, c2⟩)) l4 hb3 m3n l23 ho23 hfr hnd hq⟩
  | true =>
    rw [if_neg (by decide)]
    have e : smallM (ps, ts) = unM (ps.map smP, ts) := by unfold smallM; rw [hB]; rfl
    rw [hB, e] at hq
    obtain ⟨hoX, hpos⟩ := sm_okPsX (okPsX_of hB hok)
    have hokS := okM_sm hok
    obtain ⟨Dp, Dt, rfl, hop, hot⟩ := ho23
    have hop : dPrs.Own m23 (⟨a1, n1, c1⟩ : Sl) ps Dp := hop
    have hot : dTx.Own m23 (⟨a2, n2, c2⟩ : Sl) ts Dt := hot
    obtain ⟨hndp, hndt, hdpt⟩ := List.nodup_append.1 hnd
    have hn1 : n1 = ps.length := (dPrs.own_at hop).1
    have hlen : ps.length ≤ 2 ^ 20 := hok.1.1
    have kd : g21 ∉ Dp ++ Dt := fun hb => by obtain ⟨o, ho'⟩ := dMo.live ho _ hb; rw [hg21] at ho'; cases ho'
    suffices key : ∀ d i, i + d = ps.length → ∀ (M : Mem) (D : List Nat), Mem.le m4 M → M g21 = some (.cells #[.slice a1 n1 c1, .slice a2 n2 c2] 55 (0, 0)) → dPrs.Own M (⟨a1, n1, c1⟩ : Sl) (partF smP ps i) D → dTx.Own M (⟨a2, n2, c2⟩ : Sl) ts Dt → D.Nodup → (∀ b ∈ D, m4 b = none ∧ b ≠ g21 ∧ b ∉ Dt) →
        L40_5 (look t) (d + 1) Q g3 g21 (i : Int) M from
      ⟨ps.length + 1, key ps.length 0 (by omega) m23 Dp l23 h23 (by rw [partF_zero]; exact hop) hot hndp fun b hb => ⟨hfr b (by simp [hb]), by rintro rfl; exact kd (by simp [hb]), fun h => hdpt b hb b h rfl⟩⟩
    intro d
    induction d with
    | zero =>
      intro i hi M D hl hg hO hT hnD hfD
      rw [l40_5]
      refine ⟨M, Mem.le_refl _, _, _, _, cell_of hg 0, ?_⟩
      rw [if_neg (by simp; omega)]
      rw [show i = ps.length by omega, partF_end] at hO
      refine ⟨_, _, _, cell_of hg 0, _, _, _, cell_of hg 1, via h73 ⟨(⟨a1, n1, c1⟩, ⟨a2, n2, c2⟩), (ps.map smP, ts), rfl, ⟨dPrs.own_at hO, dTx.own_at hT⟩, hokS, ⟨hoX, hpos⟩, fun (h' : dMo.H) D' m' hle' hfr' hnd' ho' => ?_⟩⟩
      obtain ⟨⟨x1, x2, x3⟩, ⟨y1, y2, y3⟩⟩ := h'
      exact ⟨_, _, _, _, _, _, rfl, sm_end (h' := (⟨x1, x2, x3⟩, ⟨y1, y2, y3⟩)) l4 hb3 m3n (Mem.le_trans hl hle') ho' (fun b hb => le_none hl (hfr' b hb)) hnd' hq⟩
    | succ d ih =>
      intro i hi M D hl hg hO hT hnD hfD
      have hil : i < ps.length := by omega
      have hip : i < (partF smP ps i).length := by rw [partF_len _ _ _ (by omega)]; exact hil
      have wi := wsucc (i := i) (n := ps.length) hil (by omega)
      rw [l40_5]
      refine ⟨M, Mem.le_refl _, _, _, _, cell_of hg 0, ?_⟩
      rw [if_pos (by simp; omega)]
      obtain ⟨_, (hs : List PH), hls, hrd, hat⟩ := dPrs.own_at hO
      have hls : hs.length = (partF smP ps i).length := hls
      have hrd : Rd M a1 hs := hrd
      have hih : i < hs.length := by rw [hls]; exact hip
      have hati := hat i hs[i] _ (List.getElem?_eq_getElem hih) (List.getElem?_eq_getElem hip)
      rw [partF_get _ _ _ hil hip] at hati
      have okp := hok.1.2 _ (List.getElem_mem hil)
      have hstep := partF_step smP ps i hil _ rfl
      have hdx : ∀ K : Addr → Prop, (∀ ad, (∀ (k : Nat) (v : Value), (Enc.e hs[i])[k]? = some v → M.cell? ((ad.add (i * 4)).add k) = some v) → K ad) → optA a1 fun ad => 0 ≤ (i : Int) ∧ (i : Int) < (n1 : Int) ∧ K ad := fun K hK => idx' hrd (by rw [hls, partF_len _ _ _ (by omega)]; exact hn1.symm) (by omega) (by omega) fun ad had hd => hK ad hd
      generalize hs[i] = hh at *
      generalize ps[i] = x at *
      obtain ⟨p, s0, ⟨ua, un, uc⟩, ⟨ca, cn, cc⟩⟩ := hh
      refine ⟨Mem.le M, Mem.le_refl _, _, _, _, held (cell_of hg 0), _, _, _, held (cell_of hg 0), ?_⟩
      refine hdx _ fun ad hd => ?_
      simp only [Int.toNat_natCast]
      refine ⟨_, held (by have e0 := hd 0 _ rfl; rw [add_add, Nat.add_zero] at e0; exact e0), _, held (hd 1 _ rfl), _, _, _, held (hd 2 _ rfl), _, _, _, held (hd 3 _ rfl), ?_⟩
      refine via h18 ⟨(p, s0, ⟨ua, un, uc⟩, ⟨ca, cn, cc⟩), x, rfl, hati, okp, fun (k2 : PH) E2 M2 le2 fr2 nd2 o2 => ?_⟩
      obtain ⟨p2, s2, ⟨ua2, un2, uc2⟩, ⟨ca2, cn2, cc2⟩⟩ := k2
      refine ⟨_, _, _, _, _, _, _, _, rfl, le2, via h29 ⟨(p2, s2, ⟨ua2, un2, uc2⟩, ⟨ca2, cn2, cc2⟩), threadP x, rfl, dPr.own_at o2, (okP_smP okp).1, fun (k3 : PH) E3 M3 le3 fr3 nd3 o3 => ?_⟩⟩
      obtain ⟨p3, s3, ⟨ua3, un3, uc3⟩, ⟨ca3, cn3, cc3⟩⟩ := k3
      have l3 := Mem.le_trans le2 le3
      refine ⟨_, _, _, _, _, _, _, _, rfl, l3, ?_⟩
      have hO3 := dPrs.own_le l3 hO
      have fr3' : ∀ b ∈ E3, M b = none := fun b hb => le_none le2 (fr3 b hb)
      have hdis : ∀ b ∈ E3, b ∉ D := fun b hb hb' => by
        obtain ⟨o, ho'⟩ := dPrs.live hO b hb'
        rw [fr3' b hb] at ho'
        cases ho'
      obtain ⟨ad2, ha2, hk⟩ := dPr.list_put (x := smP x) (h' := ((p3, s3, ⟨ua3, un3, uc3⟩, ⟨ca3, cn3, cc3⟩) : PH)) hO3 hnD hip o3 nd3 hdis
      have ha2 : a1 = some ad2 := ha2
      subst ha2
      refine ⟨by omega, by omega, ?_⟩
      refine hk _ fun M' D' ho' hnd' hin hoff => ?_
      rw [wi]
      rw [hstep] at ho'
      have k21 : g21 ∉ D := fun h => (hfD _ h).2.1 rfl
      refine ih (i + 1) (by omega) M' D' ?_ ?_ ho' ?_ hnd' fun b hb => ?_
      · exact le_off (Mem.le_trans hl l3) (fun b hb => (hfD b hb).1) hoff
      · rw [hoff _ k21]; exact l3 _ _ hg
      · exact dTx.own_ext (dTx.own_le l3 hT) fun b hb => hoff b fun h => (hfD b h).2.2 hb
      · rcases hin b hb with h | h
        · exact hfD b h
        · refine ⟨le_none hl (fr3' b h), ?_, fun hb' => ?_⟩
          · rintro rfl
            have := fr3' _ h
            rw [hg] at this
            cases this
          · obtain ⟨o, ho2⟩ := dTx.live hT b hb'
            rw [fr3' b h] at ho2
            cases ho2
theorem f41 (t : Tab) (h20 : look t 20 = s20) (h30 : look t 30 = s30) (h76 : look t 76 = s76) (h77 : look t 77 = s77) (h78 : look t 78 = s78) : ∀ args m Q, s41 args m Q → FA Try.prog (look t) kp41 Try.f41 args m Q := by
  rintro args m Q ⟨⟨⟨pa, pn, pc⟩, ⟨ta, tn, tc⟩⟩, ⟨ps, ts⟩, rfl, hM, hok, hbg, hq⟩
  show FA Try.prog (look t) kp41 Try.f41 [.agg #[.slice pa pn pc, .slice ta tn tc]] m Q
  rw [e41]
  refine newA_intro fun g1 m2 hg1 e2 hb1 hle2 => newA_intro fun g3 m4 hg3 e4 hb3 hle4 => ?_
  have b1 := hle4 _ _ hb1
  have l4 := Mem.le_trans hle2 hle4
  have m3n := le_none hle2 hg3
  have hM4 := dMo.at_le l4 hM
  refine ⟨_, _, _, cell_of b1 0, _, _, _, cell_of b1 1, via h77 ⟨(⟨pa, pn, pc⟩, ⟨ta, tn, tc⟩), (ps, ts), rfl, hM4, hok, fun (k1 : dMo.H) D m14 le14 hfr hnd ho => ?_⟩⟩
  obtain ⟨⟨a1, n1, c1⟩, ⟨a2, n2, c2⟩⟩ := k1
  refine ⟨_, _, _, _, _, _, rfl, newA_intro fun g21 m22 hg21 e22 hb22 hle22 => ?_⟩
  refine sto (c := #[.slice none 0 0, .slice none 0 0]) (t := 55) hb22 rfl (by simp) fun m23 e23 h23 hne23 => ?_
  have h23 : m23 g21 = some (.cells #[.slice a1 n1 c1, .slice a2 n2 c2] 55 (0, 0)) := h23
  have le23 : Mem.le m14 m23 := by rw [e23, e22, upd_upd]; exact le_upd hg21
  have l23 := Mem.le_trans le14 le23
  have ho23 := dMo.own_le le23 ho
  have b1' := l23 _ _ b1
  refine ⟨_, _, _, cell_of b1' 0, _, _, _, cell_of b1' 1, via h76 ⟨(⟨pa, pn, pc⟩, ⟨ta, tn, tc⟩), (ps, ts), rfl, dMo.at_le l23 hM4, hok, hbg.2.2, _, rfl, ?_⟩⟩
  cases hB : okB (ps, ts) with
  | false =>
    rw [if_pos (by decide)]
    have e : smallM (ps, ts) = (ps, ts) := by unfold smallM; rw [hB]; rfl
    rw [hB, e] at hq
    exact ⟨_, _, _, cell_of h23 0, _, _, _, cell_of h23 1, sm_end (h' := (⟨a1, n1, c1⟩, ⟨a2, n2, c2⟩)) l4 hb3 m3n l23 ho23 hfr hnd hq⟩
  | true =>
    rw [if_neg (by decide)]
    have e : smallM (ps, ts) = unM (ps.map smP, ts) := by unfold smallM; rw [hB]; rfl
    rw [hB, e] at hq
    obtain ⟨hoX, hpos⟩ := sm_okPsX (okPsX_of hB hok)
    have hokS := okM_sm hok
    obtain ⟨Dp, Dt, rfl, hop, hot⟩ := ho23
    have hop : dPrs.Own m23 (⟨a1, n1, c1⟩ : Sl) ps Dp := hop
    have hot : dTx.Own m23 (⟨a2, n2, c2⟩ : Sl) ts Dt := hot
    obtain ⟨hndp, hndt, hdpt⟩ := List.nodup_append.1 hnd
    have hn1 : n1 = ps.length := (dPrs.own_at hop).1
    have hlen : ps.length ≤ 2 ^ 20 := hok.1.1
    have kd : g21 ∉ Dp ++ Dt := fun hb => by obtain ⟨o, ho'⟩ := dMo.live ho _ hb; rw [hg21] at ho'; cases ho'
    suffices key : ∀ d i, i + d = ps.length → ∀ (M : Mem) (D : List Nat), Mem.le m4 M → M g21 = some (.cells #[.slice a1 n1 c1, .slice a2 n2 c2] 55 (0, 0)) → dPrs.Own M (⟨a1, n1, c1⟩ : Sl) (partF smP ps i) D → dTx.Own M (⟨a2, n2, c2⟩ : Sl) ts Dt → D.Nodup → (∀ b ∈ D, m4 b = none ∧ b ≠ g21 ∧ b ∉ Dt) →
        L41_5 (look t) (d + 1) Q g3 g21 a1 n1 c1 (n1 : Int) (i : Int) M from
      ⟨_, _, _, cell_of h23 0, ps.length + 1, key ps.length 0 (by omega) m23 Dp l23 h23 (by rw [partF_zero]; exact hop) hot hndp fun b hb => ⟨hfr b (by simp [hb]), by rintro rfl; exact kd (by simp [hb]), fun h => hdpt b hb b h rfl⟩⟩
    intro d
    induction d with
    | zero =>
      intro i hi M D hl hg hO hT hnD hfD
      rw [l41_5]
      refine ⟨M, Mem.le_refl _, ?_⟩
      rw [if_neg (by simp; omega)]
      rw [show i = ps.length by omega, partF_end] at hO
      refine ⟨_, _, _, cell_of hg 0, _, _, _, cell_of hg 1, via h78 ⟨(⟨a1, n1, c1⟩, ⟨a2, n2, c2⟩), (ps.map smP, ts), rfl, ⟨dPrs.own_at hO, dTx.own_at hT⟩, hokS, ⟨hoX, hpos⟩, fun (h' : dMo.H) D' m' hle' hfr' hnd' ho' => ?_⟩⟩
      obtain ⟨⟨x1, x2, x3⟩, ⟨y1, y2, y3⟩⟩ := h'
      exact ⟨_, _, _, _, _, _, rfl, sm_end (h' := (⟨x1, x2, x3⟩, ⟨y1, y2, y3⟩)) l4 hb3 m3n (Mem.le_trans hl hle') ho' (fun b hb => le_none hl (hfr' b hb)) hnd' hq⟩
    | succ d ih =>
      intro i hi M D hl hg hO hT hnD hfD
      have hil : i < ps.length := by omega
      have hip : i < (partF smP ps i).length := by rw [partF_len _ _ _ (by omega)]; exact hil
      have wi := wsucc (i := i) (n := ps.length) hil (by omega)
      rw [l41_5]
      refine ⟨M, Mem.le_refl _, ?_⟩
      rw [if_pos (by simp; omega)]
      obtain ⟨_, (hs : List PH), hls, hrd, hat⟩ := dPrs.own_at hO
      have hls : hs.length = (partF smP ps i).length := hls
      have hrd : Rd M a1 hs := hrd
      have hih : i < hs.length := by rw [hls]; exact hip
      have hati := hat i hs[i] _ (List.getElem?_eq_getElem hih) (List.getElem?_eq_getElem hip)
      rw [partF_get _ _ _ hil hip] at hati
      have okp := hok.1.2 _ (List.getElem_mem hil)
      have hstep := partF_step smP ps i hil _ rfl
      have hdx : ∀ K : Addr → Prop, (∀ ad, (∀ (k : Nat) (v : Value), (Enc.e hs[i])[k]? = some v → M.cell? ((ad.add (i * 4)).add k) = some v) → K ad) → optA a1 fun ad => 0 ≤ (i : Int) ∧ (i : Int) < (n1 : Int) ∧ K ad := fun K hK => idx' hrd (by rw [hls, partF_len _ _ _ (by omega)]; exact hn1.symm) (by omega) (by omega) fun ad had hd => hK ad hd
      generalize hs[i] = hh at *
      generalize ps[i] = x at *
      obtain ⟨p, s0, ⟨ua, un, uc⟩, ⟨ca, cn, cc⟩⟩ := hh
      refine hdx _ fun ad hd => ?_
      simp only [Int.toNat_natCast]
      refine ⟨_, by have e0 := hd 0 _ rfl; rw [add_add, Nat.add_zero] at e0; exact e0, _, hd 1 _ rfl, _, _, _, hd 2 _ rfl, _, _, _, hd 3 _ rfl, newA_intro fun g71 m72 hg71 e72 hb72 hle72 => ?_⟩
      refine sto (c := #[.int .i64 0, .int .i64 0, .slice none 0 0, .slice none 0 0]) (t := 38) hb72 rfl (by simp) fun m73 e73 h73 hne73 => ?_
      have h73 : m73 g71 = some (.cells #[.int .i64 p, .int .i64 s0, .slice ua un uc, .slice ca cn cc] 38 (0, 0)) := h73
      have le73 : Mem.le M m73 := by rw [e73, e72, upd_upd]; exact le_upd hg71
      refine ⟨Mem.le m73, Mem.le_refl _, _, _, _, held (cell_of (le73 _ _ hg) 0), _, held (cell_of h73 0), _, held (cell_of h73 1), _, _, _, held (cell_of h73 2), _, _, _, held (cell_of h73 3), ?_⟩
      refine via h20 ⟨(p, s0, ⟨ua, un, uc⟩, ⟨ca, cn, cc⟩), x, rfl, dPr.at_le le73 hati, okp, fun (k2 : PH) E2 M2 le2 fr2 nd2 o2 => ?_⟩
      obtain ⟨p2, s2, ⟨ua2, un2, uc2⟩, ⟨ca2, cn2, cc2⟩⟩ := k2
      refine ⟨_, _, _, _, _, _, _, _, rfl, le2, via h30 ⟨(p2, s2, ⟨ua2, un2, uc2⟩, ⟨ca2, cn2, cc2⟩), threadP x, rfl, dPr.own_at o2, (okP_smP okp).1, fun (k3 : PH) E3 M3 le3 fr3 nd3 o3 => ?_⟩⟩
      obtain ⟨p3, s3, ⟨ua3, un3, uc3⟩, ⟨ca3, cn3, cc3⟩⟩ := k3
      refine ⟨_, _, _, _, _, _, _, _, rfl, Mem.le_trans le2 le3, ?_⟩
      have l3 := Mem.le_trans le73 (Mem.le_trans le2 le3)
      have hO3 := dPrs.own_le l3 hO
      have fr3' : ∀ b ∈ E3, M b = none := fun b hb => le_none le73 (le_none le2 (fr3 b hb))
      have hdis : ∀ b ∈ E3, b ∉ D := fun b hb hb' => by
        obtain ⟨o, ho'⟩ := dPrs.live hO b hb'
        rw [fr3' b hb] at ho'
        cases ho'
      obtain ⟨ad2, ha2, hk⟩ := dPr.list_put (x := smP x) (h' := ((p3, s3, ⟨ua3, un3, uc3⟩, ⟨ca3, cn3, cc3⟩) : PH)) hO3 hnD hip o3 nd3 hdis
      have ha2 : a1 = some ad2 := ha2
      subst ha2
      refine ⟨by omega, by omega, ?_⟩
      refine hk _ fun M' D' ho' hnd' hin hoff => ?_
      rw [wi]
      rw [hstep] at ho'
      have k21 : g21 ∉ D := fun h => (hfD _ h).2.1 rfl
      refine ih (i + 1) (by omega) M' D' ?_ ?_ ho' ?_ hnd' fun b hb => ?_
      · exact le_off (Mem.le_trans hl l3) (fun b hb => (hfD b hb).1) hoff
      · rw [hoff _ k21]; exact l3 _ _ hg
      · exact dTx.own_ext (dTx.own_le l3 hT) fun b hb => hoff b fun h => (hfD b h).2.2 hb
      · rcases hin b hb with h | h
        · exact hfD b h
        · refine ⟨le_none hl (fr3' b h), ?_, fun hb' => ?_⟩
          · rintro rfl
            have := fr3' _ h
            rw [hg] at this
            cases this
          · obtain ⟨o, ho2⟩ := dTx.live hT b hb'
            rw [fr3' b h] at ho2
            cases ho2
end Go.Proofs.Ytcbjdodehjpddaa.Abs
