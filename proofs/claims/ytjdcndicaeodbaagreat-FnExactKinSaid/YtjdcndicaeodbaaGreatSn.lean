/- Arenas: what can be reached: the reference's function, the loops around. -/
import Derived.Test.YtjdcndicaeodbaaGreatSm
namespace Go.Proofs.YtjdcndicaeodbaaGreat.Abs
open Go.RowKit
set_option linter.unusedVariables false
set_option linter.unusedSimpArgs false
set_option maxRecDepth 20000

theorem reach_loop (t : Tab) (h122 : look t 122 = s122) (h120 : look t 120 = s120) (h123 : look t 123 = s123) (h55 : look t 55 = s55) (h121 : look t 121 = s121) {Q : Value → Mem → Prop} {s r : Sl} {a : Ar} {mk : List Int} {m0 : Mem} {g gd : Nat} {Sf : List Stp} (hw : a.wf) (hk : OkM a mk) (hP : Ptr m0 g s r a) (hA0 : ArAt m0 s r a)
    (hQ : ∀ (ls' : Sl) (M' : Mem) (D' : List Nat), Mem.le m0 M' → OwnL M' ls' (Sf.map stp3) D' → (∀ b ∈ D', m0 b = none) → ret Q (vs ls') M') :
    ∀ (f i : Nat) (st : List Int × List Stp) (ls : Sl) (D : List Nat) (M : Mem), a.ws.length ≤ f + i → bfs a.ws f i st = Sf → BI a mk st → StR m0 M gd a.ws.length ls D st.1 st.2 →
      L54_11 (look t) (f + 1) Q g (some ⟨gd, 0, none⟩) a.ws.length a.ws.length ls.a ls.n ls.c (i : Int) M := by
  have hN := hw.n
  have hT0 := tile_ok hw hk.N hk.t
  have hn := hA0.n
  intro f
  induction f with
  | zero =>
    intro i st ls D M hf hB hI hT
    have hSn : ls.n = st.2.length := by have := hT.o.1; rwa [List.length_map] at this
    have hl := hI.len
    rw [l54_11]
    refine ⟨M, Mem.le_refl _, ?_⟩
    rw [if_neg (by simp; omega)]
    have hB : st.2 = Sf := hB
    exact hQ ls M D hT.le (hB ▸ hT.o) hT.fr
  | succ f ih =>
    intro i st ls D M hf hB hI hT
    have hSn : ls.n = st.2.length := by have := hT.o.1; rwa [List.length_map] at this
    have hl := hI.len
    unfold bfs at hB
    rw [l54_11]
    refine ⟨M, Mem.le_refl _, ?_⟩
    cases hse : st.2[i]? with
    | none =>
      have := List.getElem?_eq_none_iff.1 hse
      rw [if_neg (by simp; omega)]
      rw [hse] at hB
      have hB : st.2 = Sf := hB
      exact hQ ls M D hT.le (hB ▸ hT.o) hT.fr
    | some e =>
    have hlt := (List.getElem?_eq_some_iff.1 hse).1
    rw [if_pos (by simp; omega)]
    rw [hse] at hB
    have hB : bfs a.ws f (i + 1) (comeS a.ws e.p (i : Int) e.way (slotN a.ws e.p) 0 st) = Sf := hB
    obtain ⟨e0, e1, ehd⟩ := hI.hd e (List.mem_of_getElem? hse)
    have hH := hT0.head e0 (by have := hT0.n; omega) ehd
    obtain ⟨_, he2, _, _⟩ := hH.look hw
    have bp := look_b hw e.p
    have hb1 := hT.le _ _ hP
    have hA := hA0.le hT.le
    refine ⟨Mem.le M, Mem.le_refl _, _, _, _, held (cell_of hb1 0), _, held (cell_of hb1 1), _, held (cell_of hb1 2), _, held (cell_of hb1 3), _, held (cell_of hb1 4), _, held (cell_of hb1 5), _, held (cell_of hb1 6), _, held (cell_of hb1 7), _, held (cell_of hb1 8), _, _, _, held (cell_of hb1 9), ?_⟩
    refine stp_get hSn hT.o.rd hse fun ad had => ⟨_, fun q hq => (had q hq).1, ?_⟩
    constructor
    · refine via h55 ⟨s, r, a, e.p, rfl, ⟨hA, hw, e0, e1⟩, _, _, _, rfl, Mem.le_refl _, newA_intro fun g2 m2 hg2 e2 hb2 hle2 => ⟨hle2, sto (c := #[.int .i64 0, .int .i64 0, .int .i64 0]) (t := 70) hb2 rfl (by simp) fun m3 e3 h3 hne3 => ?_⟩⟩
      have h3 : m3 g2 = some (.cells #[.int .i64 (kdW a.ws e.p), .int .i64 (szW a.ws e.p), .int .i64 (serW a.ws e.p)] 70 (0, 0)) := h3
      have l3 : Mem.le M m3 := fun b o hb => by
        have : b ≠ g2 := fun e => by rw [e, hg2] at hb; cases hb
        rw [hne3 b this]; exact hle2 _ _ hb
      have T3 := hT.mono l3
      refine ⟨_, cell_of h3 0, _, cell_of h3 1, via h121 ⟨_, _, rfl, bp.1, bp.2.1, he2, fun sl M2 D2 hle2' hO2 hD2 => ⟨_, _, _, rfl, slotN a.ws e.p + 1, ?_⟩⟩⟩
      have T2 := T3.mono hle2'
      obtain ⟨m1, hm1⟩ : ∃ m1 : Mem, m1 = fun b => if b = gd ∨ b ∈ D then none else M2 b := ⟨_, rfl⟩
      have q1 : ∀ b, b = gd ∨ b ∈ D → m1 b = none := fun b hb => by rw [hm1]; exact if_pos hb
      have q2 : ∀ b, ¬ (b = gd ∨ b ∈ D) → m1 b = M2 b := fun b hb => by rw [hm1]; exact if_neg hb
      clear hm1
      have l01 : Mem.le m0 m1 := fun b o hb => by
        have : ¬ (b = gd ∨ b ∈ D) := by
          rintro (h | h)
          · rw [h, hT.g0] at hb; cases hb
          · rw [hT.fr b h] at hb; cases hb
        rw [q2 b this]; exact T2.le _ _ hb
      have l1M : Mem.le m1 M2 := fun b o hb => by
        by_cases c : b = gd ∨ b ∈ D
        · rw [q1 b c] at hb; cases hb
        · rw [← q2 b c]; exact hb
      have T1 : StR m1 M2 gd a.ws.length ls D st.1 st.2 := ⟨l1M, T2.l, T2.o, fun b hb => q1 b (.inr hb), T2.nd, q1 gd (.inl rfl)⟩
      have hO1 : OwnL m1 sl (slotsL (kdW a.ws e.p) (szW a.ws e.p)) D2 := hO2.ext fun b hb => q2 b (by
        rintro (h | h)
        · obtain ⟨row, k1, _⟩ := T3.l
          have := hD2 b hb
          rw [h, k1] at this; cases this
        · obtain ⟨o, ho⟩ := T3.o.live b h
          rw [hD2 b hb] at ho; cases ho)
      refine slots_loop t h122 h120 h123 (m0 := m1) (p := e.p) (way := e.way) (st1 := comeS a.ws e.p (i : Int) e.way (slotN a.ws e.p) 0 st) hw hk (l01 _ _ hP) (hA0.le l01) hO1.1 hO1.rd e0 e1 ehd (fun ls' M' D' hT' => ?_) (slotN a.ws e.p) 0 st ls D M2 (by omega) rfl hI ⟨e, hse, rfl, rfl⟩ T1
      rw [wsucc (n := 2 ^ 21) (by omega) (by decide)]
      refine ih (i + 1) _ ls' D' M' (by omega) hB (BI.comeS hw hk e0 e1 ehd _ 0 st (by omega) hI (.inr ⟨i, e, rfl, hse, rfl⟩)) ⟨Mem.le_trans l01 hT'.le, hT'.l, hT'.o, fun b hb => le_none l01 (hT'.fr b hb), hT'.nd, hT.g0⟩
    · refine newA_intro fun g2 m2 hg2 e2 hb2 hle2 => ⟨hle2, via h55 ⟨s, r, a, e.p, rfl, ⟨hA.le hle2, hw, e0, e1⟩, _, _, _, rfl, hle2, sto (c := #[.int .i64 0, .int .i64 0, .int .i64 0]) (t := 70) hb2 rfl (by simp) fun m3 e3 h3 hne3 => ?_⟩⟩
      have h3 : m3 g2 = some (.cells #[.int .i64 (kdW a.ws e.p), .int .i64 (szW a.ws e.p), .int .i64 (serW a.ws e.p)] 70 (0, 0)) := h3
      have l3 : Mem.le M m3 := fun b o hb => by
        have : b ≠ g2 := fun e => by rw [e, hg2] at hb; cases hb
        rw [hne3 b this]; exact hle2 _ _ hb
      have T3 := hT.mono l3
      refine ⟨_, cell_of h3 0, _, cell_of h3 1, via h121 ⟨_, _, rfl, bp.1, bp.2.1, he2, fun sl M2 D2 hle2' hO2 hD2 => ⟨_, _, _, rfl, slotN a.ws e.p + 1, ?_⟩⟩⟩
      have T2 := T3.mono hle2'
      obtain ⟨m1, hm1⟩ : ∃ m1 : Mem, m1 = fun b => if b = gd ∨ b ∈ D then none else M2 b := ⟨_, rfl⟩
      have q1 : ∀ b, b = gd ∨ b ∈ D → m1 b = none := fun b hb => by rw [hm1]; exact if_pos hb
      have q2 : ∀ b, ¬ (b = gd ∨ b ∈ D) → m1 b = M2 b := fun b hb => by rw [hm1]; exact if_neg hb
      clear hm1
      have l01 : Mem.le m0 m1 := fun b o hb => by
        have : ¬ (b = gd ∨ b ∈ D) := by
          rintro (h | h)
          · rw [h, hT.g0] at hb; cases hb
          · rw [hT.fr b h] at hb; cases hb
        rw [q2 b this]; exact T2.le _ _ hb
      have l1M : Mem.le m1 M2 := fun b o hb => by
        by_cases c : b = gd ∨ b ∈ D
        · rw [q1 b c] at hb; cases hb
        · rw [← q2 b c]; exact hb
      have T1 : StR m1 M2 gd a.ws.length ls D st.1 st.2 := ⟨l1M, T2.l, T2.o, fun b hb => q1 b (.inr hb), T2.nd, q1 gd (.inl rfl)⟩
      have hO1 : OwnL m1 sl (slotsL (kdW a.ws e.p) (szW a.ws e.p)) D2 := hO2.ext fun b hb => q2 b (by
        rintro (h | h)
        · obtain ⟨row, k1, _⟩ := T3.l
          have := hD2 b hb
          rw [h, k1] at this; cases this
        · obtain ⟨o, ho⟩ := T3.o.live b h
          rw [hD2 b hb] at ho; cases ho)
      refine slots_loop t h122 h120 h123 (m0 := m1) (p := e.p) (way := e.way) (st1 := comeS a.ws e.p (i : Int) e.way (slotN a.ws e.p) 0 st) hw hk (l01 _ _ hP) (hA0.le l01) hO1.1 hO1.rd e0 e1 ehd (fun ls' M' D' hT' => ?_) (slotN a.ws e.p) 0 st ls D M2 (by omega) rfl hI ⟨e, hse, rfl, rfl⟩ T1
      rw [wsucc (n := 2 ^ 21) (by omega) (by decide)]
      refine ih (i + 1) _ ls' D' M' (by omega) hB (BI.comeS hw hk e0 e1 ehd _ 0 st (by omega) hI (.inr ⟨i, e, rfl, hse, rfl⟩)) ⟨Mem.le_trans l01 hT'.le, hT'.l, hT'.o, fun b hb => le_none l01 (hT'.fr b hb), hT'.nd, hT.g0⟩
theorem rts_come (t : Tab) (h120 : look t 120 = s120) {Q : Value → Mem → Prop} {s r rt : Sl} {a : Ar} {mk : List Int} {m0 : Mem} {g gd : Nat} {roots : List Int} {st1 : List Int × List Stp} (hw : a.wf) (hk : OkM a mk) (hP : Ptr m0 g s r a) (hA0 : ArAt m0 s r a)
    (hrn : rt.n = roots.length) (hrR : Rd m0 rt.a roots) (hri : ∀ x ∈ roots, 0 ≤ x ∧ x < a.rs.length) (hrl : roots.length ≤ 2 ^ 20)
    (hQ : ∀ (ls' : Sl) (M' : Mem) (D' : List Nat), StR m0 M' gd a.ws.length ls' D' st1.1 st1.2 → ∃ k, L54_11 (look t) k Q g (some ⟨gd, 0, none⟩) a.ws.length a.ws.length ls'.a ls'.n ls'.c 0 M') :
    ∀ (d i : Nat) (st : List Int × List Stp) (ls : Sl) (D : List Nat) (M : Mem), i + d = roots.length → comeR a (roots.drop i) st = st1 → BI a mk st → StR m0 M gd a.ws.length ls D st.1 st.2 →
      L54_4 (look t) (d + 1) Q rt.a rt.n rt.c g (some ⟨gd, 0, none⟩) a.ws.length a.ws.length ls.a ls.n ls.c (i : Int) M := by
  have hN := hw.n
  have hk2 := hA0.k
  intro d
  induction d with
  | zero =>
    intro i st ls D M hi hB hI hT
    rw [l54_4]
    refine ⟨M, Mem.le_refl _, ?_⟩
    rw [if_neg (by simp; omega)]
    rw [List.drop_eq_nil_of_le (by omega)] at hB
    have hB : st = st1 := hB
    subst hB
    exact hQ ls M D hT
  | succ d ih =>
    intro i st ls D M hi hB hI hT
    have hlt : i < roots.length := by omega
    obtain ⟨x, hx⟩ : ∃ x, x = roots[i] := ⟨_, rfl⟩
    rw [List.drop_eq_getElem_cons hlt, ← hx] at hB
    unfold comeR at hB
    obtain ⟨x0, x1⟩ := hri x (by rw [hx]; exact List.getElem_mem _)
    have hxl : x.toNat < a.rs.length := by omega
    obtain ⟨v, hvd⟩ : ∃ v, v = a.rs[x.toNat] := ⟨_, rfl⟩
    have egd : a.rs.getD x.toNat (0, 0) = v := by rw [List.getD_eq_getElem?_getD, List.getElem?_eq_getElem hxl, hvd]; rfl
    rw [egd] at hB
    obtain ⟨hv, hwv⟩ := root_vok hw hk (v := v) (by rw [hvd]; exact List.getElem_mem _)
    have hI2 := hI.come (frm := -1) (slot := x) (way := []) hv (.inl ⟨rfl, rfl⟩)
    have nx : ∀ (ls' : Sl) (M' : Mem) (D' : List Nat), StR m0 M' gd a.ws.length ls' D' (come a.ws st v (-1) x []).1 (come a.ws st v (-1) x []).2 → L54_4 (look t) (d + 1) Q rt.a rt.n rt.c g (some ⟨gd, 0, none⟩) a.ws.length a.ws.length ls'.a ls'.n ls'.c (IntKind.i64.wrap ((i : Int) + 1)) M' := by
      intro ls' M' D' hT'
      rw [wsucc (n := 2 ^ 20) (by omega) (by decide)]
      exact ih (i + 1) _ ls' D' M' (by omega) hB hI2 hT'
    unfold Abs.come at nx
    have eg : gi roots (i : Int) = x := by rw [gi_mem hlt, hx]
    rw [l54_4]
    refine ⟨M, Mem.le_refl _, ?_⟩
    rw [if_pos (by simp; omega)]
    refine ⟨Mem.le m0, hT.le, _, _, _, held (cell_of hP 9), li hrR hrn.symm (by omega) (by omega) fun ad had hd => ⟨_, hd, ?_⟩⟩
    rw [eg]
    refine idx' (i := x) hA0.r hk2 x0 (by omega) fun ad2 had2 hd2 => ?_
    rw [← hvd] at hd2
    refine ⟨_, held (hd2 0 (.int .i64 v.1) rfl), _, held (hd2 1 (.int .i64 v.2) rfl), newA_intro fun g2 m2 hg2 e2 hb2 hle2 => ⟨Mem.le_trans hT.le hle2, sto (c := #[.int .i64 0, .int .i64 0]) (t := 52) hb2 rfl (by simp) fun m3 e3 h3 hne3 => ?_⟩⟩
    have h3 : m3 g2 = some (.cells #[.int .i64 v.1, .int .i64 v.2] 52 (0, 0)) := h3
    have l3 : Mem.le M m3 := le_other hle2 hg2 hne3
    have T3 := hT.mono l3
    have hg2D : g2 ∉ D := fun h => by obtain ⟨o, ho⟩ := hT.o.live _ h; rw [hg2] at ho; cases ho
    have hg2d : g2 ≠ gd := fun e => by obtain ⟨row, k1, _⟩ := hT.l; rw [e, k1] at hg2; cases hg2
    refine ⟨_, cell_of h3 0, _, cell_of h3 1, via h120 ⟨v, rfl, _, rfl, ?_⟩⟩
    cases hr : isRefB v with
    | false =>
      rw [if_neg (by decide)]
      rw [hr, if_neg (fun h => by cases h.1)] at nx
      exact nx _ _ _ T3
    | true =>
    rw [if_pos (by decide)]
    obtain ⟨r1, r2, r3, r4, r5, r6⟩ := hv.r hr
    rw [hwv hr] at r3 r4 r5 r6 nx
    obtain ⟨row, k1, k2⟩ := T3.l
    refine ⟨_, cell_of h3 1, rl (Rd.of_block (spare := []) k1 (by simp)) k2.1 r3 r4 fun ad had hd => ⟨_, hd _ (Mem.le_refl _), ?_⟩⟩
    have hbi := k2.2 _ r3 r4
    by_cases c : v.2 ∈ st.1
    · rw [hbi.2 c, if_neg (by decide)]
      rw [if_neg (fun h => h.2 c)] at nx
      exact nx _ _ _ T3
    · have hf : row.getD v.2.toNat false = false := by
        cases e : row.getD v.2.toNat false with
        | true => exact absurd (hbi.1 e) c
        | false => rfl
      rw [hf, if_pos (by decide)]
      rw [if_pos ⟨hr, c⟩] at nx
      refine ⟨_, cell_of h3 1, set_led k1 r3 (by have := k2.1; omega) k2.1 fun M4 k4 e4 => ?_⟩
      have T4 := T3.mark k4 (k2.put r3 r4) e4
      have h4 := (e4 g2 hg2d).trans h3
      refine ⟨fun q => Mem.le m0 q ∧ q g2 = some (.cells #[.int .i64 v.1, .int .i64 v.2] 52 (0, 0)), ⟨T4.le, h4⟩, _, fun q hq => cell_of hq.2 1, li hrR hrn.symm (by omega) (by omega) fun ad had hd => ⟨_, fun q hq => hd q hq.1, ?_⟩⟩
      rw [eg]
      refine newA_intro fun g5 m5 hg5 e5 hb5 hle5 => ⟨⟨Mem.le_trans T4.le hle5, hle5 _ _ h4⟩, ?_⟩
      refine (T4.mono hle5).app (frm := -1) (slot := x) (way := [] ++ [x]) hb5 (by have := hI.len; omega) fun ls' M' D' hsn hT' hfr => ⟨⟨hT'.le, hfr _ _ hg2D (hle5 _ _ h4)⟩, ?_⟩
      rw [← hsn]
      exact nx ls' M' D' hT'
def s54 : Spec := fun args m Q => ∃ (s r rt : Sl) (a : Ar) (mk : List Int) (roots : List Int), args = [vA s r a, vs rt] ∧ ArAt m s r a ∧ a.wf ∧ OkM a mk ∧ rt.n = roots.length ∧ Rd m rt.a roots ∧ (∀ x ∈ roots, 0 ≤ x ∧ x < a.rs.length) ∧ roots.length ≤ 2 ^ 20 ∧
  ∀ (s' : Sl) (M : Mem) (D : List Nat), Mem.le m M → OwnL M s' ((reachL a roots).map stp3) D → (∀ b ∈ D, m b = none) → Q (vs s') M
theorem f54 (t : Tab) (h122 : look t 122 = s122) (h120 : look t 120 = s120) (h123 : look t 123 = s123) (h55 : look t 55 = s55) (h121 : look t 121 = s121) : ∀ args m Q, s54 args m Q → FA Tryz.prog (look t) kp54 Tryz.f54 args m Q := by
  rintro args m Q ⟨s, r, rt, a, mk, roots, rfl, hA, hw, hk, hrn, hrR, hri, hrl, hQ⟩
  show FA Tryz.prog (look t) kp54 Tryz.f54 [.agg #[.slice s.a s.n s.c, .int .i64 a.semi, .int .i64 a.to, .int .i64 a.top, .bool a.cyc, .int .i64 a.scan, .int .i64 a.old, .int .i64 a.cop, .int .i64 a.ser, .slice r.a r.n r.c], .slice rt.a rt.n rt.c] m Q
  rw [e54]
  have hn := hA.n
  have hN := hw.n
  refine newA_intro fun g m2 hg1 e2 hb1 hle2 => ⟨_, _, _, cell_of hb1 0, ?_⟩
  rw [← hn]
  refine ⟨by omega, Int.le_refl _, by omega, by omega, newA_intro fun gd m3 hgd e3 hb3 hle3 => newA_intro fun gl m4 hgl e4 hb4 hle4 => ⟨roots.length + 1, ?_⟩⟩
  have hb3 : m3 gd = some (rowB (List.replicate a.ws.length false) 4) := by
    rw [hb3]
    unfold rowB
    rw [List.append_nil, ← zeroRow_eq]
    rfl
  have hne : gd ≠ gl := fun e => by rw [← e, hb3] at hgl; cases hgl
  have hT : StR m2 m4 gd a.ws.length ⟨some ⟨gl, 0, none⟩, 0, 0⟩ [gl] [] [] := ⟨Mem.le_trans hle3 hle4, ⟨_, hle4 _ _ hb3, rled0 _⟩, ⟨rfl, .inr ⟨gl, 87, [], rfl, rfl, by rw [hb4]; rfl, rfl⟩⟩, fun b hb => by rw [List.mem_singleton] at hb; rw [hb]; exact le_none hle3 hgl, fun h => hne (by rwa [List.mem_singleton] at h), hgd⟩
  have hI1 := BI.comeR hw hk roots ([], []) hri (BI.nil a mk)
  exact rts_come t h120 (st1 := comeR a roots ([], [])) hw hk hb1 (hA.le hle2) hrn (hrR.le hle2) hri hrl (fun ls' M' D' hT' => ⟨a.ws.length + 2, reach_loop t h122 h120 h123 h55 h121 (Sf := reachL a roots) hw hk hb1 (hA.le hle2) (fun ls2 M2 D2 q1 q2 q3 => ret_intro (Mem.le_refl _) (hQ ls2 M2 D2 (Mem.le_trans hle2 q1) q2 fun b hb => le_none hle2 (q3 b hb))) (a.ws.length + 1) 0 _ ls' D' M' (by omega) rfl hI1 hT'⟩) roots.length 0 ([], []) ⟨some ⟨gl, 0, none⟩, 0, 0⟩ [gl] m4 (by omega) rfl (BI.nil a mk) hT
end Go.Proofs.YtjdcndicaeodbaaGreat.Abs
