/- Kin: what can be reached: the program's function. -/
import Derived.Test.YtjdcndicaeodbaaGreatTk
import Derived.Test.YtjdcndicaeodbaaGreatEqK
namespace Go.Proofs.YtjdcndicaeodbaaGreat.Abs
open Go.RowKit
set_option linter.unusedVariables false
set_option linter.unusedSimpArgs false
set_option maxRecDepth 20000
/-- An arena with other Roots. -/
abbrev Ar.wr (a : Ar) (rs : List Vl) : Ar := { a with rs := rs }
structure StP (m0 M : Mem) (gd gq n : Nat) (tq : TypeId) (ls : Sl) (L : List Int) (D : List Nat) : Prop where
  le : Mem.le m0 M
  l : ∃ row, M gd = some (rowB row 4) ∧ RLed n row L
  q : M gq = some (.cells #[vs ls] tq (0, 0))
  o : OwnL M ls L D
  fr : ∀ b ∈ D, m0 b = none
  nd : gd ∉ D
  nq : gq ∉ D
  d0 : m0 gd = none
  q0 : m0 gq = none
  dq : gd ≠ gq
theorem StP.mono {m0 M M' : Mem} {gd gq n : Nat} {tq : TypeId} {ls : Sl} {L : List Int} {D : List Nat} (h : StP m0 M gd gq n tq ls L D) (hl : Mem.le M M') : StP m0 M' gd gq n tq ls L D := by
  obtain ⟨row, k1, k2⟩ := h.l
  exact ⟨Mem.le_trans h.le hl, ⟨row, hl _ _ k1, k2⟩, hl _ _ h.q, (Ds.rows Int).own_le hl h.o, h.fr, h.nd, h.nq, h.d0, h.q0, h.dq⟩
def s125 : Spec := fun args m Q => ∃ (s r ls : Sl) (a : Ar) (rs : List Vl) (mk : List Int) (v : Vl) (L : List Int) (D : List Nat) (g g1 g12 gd gq : Nat) (t1 t12 tq : TypeId) (m0 : Mem), args = [vVl v, .pointer (some ⟨g1, 0, none⟩), .pointer (some ⟨g12, 0, none⟩), .pointer (some ⟨gq, 0, none⟩)] ∧
  a.wf ∧ NumP a ∧ (a.wr rs).wf ∧ Ptr m0 g s r (a.wr rs) ∧ ArAt m0 s r (a.wr rs) ∧ m0 g1 = some (.cells #[.pointer (some ⟨g, 0, none⟩)] t1 (0, 0)) ∧ m0 g12 = some (.cells #[.slice (some ⟨gd, 0, none⟩) a.ws.length a.ws.length] t12 (0, 0)) ∧ VOk a mk v ∧ StP m0 m gd gq a.ws.length tq ls L D ∧ L.length ≤ 2 ^ 30 ∧
  ∀ (M' : Mem) (ls' : Sl) (D' : List Nat), StP m0 M' gd gq a.ws.length tq ls' (comeP a.ws L v) D' → Q (.tuple #[]) M'
theorem f125 (t : Tab) (h126 : look t 126 = s126) (h127 : look t 127 = s127) : ∀ args m Q, s125 args m Q → FA Tryz.prog (look t) kp125 Tryz.f125 args m Q := by
  rintro args m Q ⟨s, r, ls, a, rs, mk, v, L, D, g, g1, g12, gd, gq, t1, t12, tq, m0, rfl, hw, hN, hwr, hP, hA, hc1, hc2, hv, hT, hLl, hQ⟩
  show FA Tryz.prog (look t) kp125 Tryz.f125 [.agg #[.int .i64 v.1, .int .i64 v.2], .pointer (some ⟨g1, 0, none⟩), .pointer (some ⟨g12, 0, none⟩), .pointer (some ⟨gq, 0, none⟩)] m Q
  rw [e125]
  refine newA_intro fun gv m2 hgv e2 hb1 hle2 => ⟨_, cell_of hb1 0, _, cell_of hb1 1, via h126 ⟨v, rfl, _, rfl, ?_⟩⟩
  have T2 := hT.mono hle2
  have l2 := T2.le
  unfold Abs.comeP at hQ
  cases hr : isRefB v with
  | false =>
    rw [if_pos (by decide)]
    rw [hr, if_neg (fun h => by cases h.1)] at hQ
    exact ret_intro (Mem.le_refl _) (hQ m2 ls D T2)
  | true =>
  rw [if_neg (by decide)]
  obtain ⟨r1, r2, r3, r4, r5, r6⟩ := hv.r hr
  have sm' : (a.wr rs).sm := ⟨hN.sm.s0, hN.sm.s1, hN.sm.t0, hN.sm.t1, hN.sm.l⟩
  refine ⟨_, cell_of (l2 _ _ hc1) 0, _, cell_of hb1 0, _, cell_of hb1 1, via h127 ⟨g, s, r, a.wr rs, v, rfl, l2 _ _ hP, hA.le l2, sm', hwr, _, rfl, ?_⟩⟩
  have r6' : placeA (a.wr rs) v.2 = whereW a.ws v.2 := r6
  rw [r6']
  obtain ⟨row, k1, k2⟩ := T2.l
  refine ⟨_, _, _, cell_of (l2 _ _ hc2) 0, rl (Rd.of_block (spare := []) k1 (by simp)) k2.1 r3 r4 fun ad had hd => ⟨_, hd _ (Mem.le_refl _), ?_⟩⟩
  have hbi := k2.2 _ r3 r4
  by_cases c : whereW a.ws v.2 ∈ L
  · rw [hbi.2 c, if_neg (by decide)]
    rw [if_neg (fun h => h.2 c)] at hQ
    exact ret_intro (Mem.le_refl _) (hQ m2 ls D T2)
  have hf : row.getD (whereW a.ws v.2).toNat false = false := by
    cases e : row.getD (whereW a.ws v.2).toNat false with
    | true => exact absurd (hbi.1 e) c
    | false => rfl
  rw [hf, if_pos (by decide)]
  rw [if_pos ⟨hr, c⟩] at hQ
  refine ⟨_, _, _, cell_of (l2 _ _ hc2) 0, set_led k1 r3 (by have := k2.1; omega) k2.1 fun M4 k4 e4 => ?_⟩
  have q4 : M4 gq = some (.cells #[vs ls] tq (0, 0)) := (e4 gq T2.dq.symm).trans T2.q
  have o4 : OwnL M4 ls L D := T2.o.ext fun b hb => e4 b fun e => T2.nd (e ▸ hb)
  have l4 : Mem.le m0 M4 := le_put l2 T2.d0 e4
  refine ⟨_, _, _, cell_of q4 0, newA_intro fun gx m5 hgx e5 hb5 hle5 => ?_⟩
  have o5 := (Ds.rows Int).own_le hle5 o4
  refine app_sl (s := ls) (α := Int) (l := L) (l2 := [whereW a.ws v.2]) (D := D) rfl rfl (by decide) (by decide) (by decide) o5 rfl (Rd.of_block (spare := []) hb5 (by rfl)) (by show L.length + 1 ≤ 2 ^ 40; omega) fun ls' D' m6 hsn hO' hoff hfr hnd' => ?_
  have frame : ∀ b o, b ∉ D → m5 b = some o → m6 b = some o := fun b o hb ho => by
    have : b ∉ D' := by
      rcases hfr with rfl | hfr
      · exact hb
      · exact fun hb' => by rw [hfr b hb'] at ho; cases ho
    rw [hoff b this]; exact ho
  have hgdD' : gd ∉ D' := by
    rcases hfr with rfl | hfr
    · exact T2.nd
    · exact fun hb' => by have := hle5 _ _ k4; rw [hfr _ hb'] at this; cases this
  have hgqD' : gq ∉ D' := by
    rcases hfr with rfl | hfr
    · exact T2.nq
    · exact fun hb' => by have := hle5 _ _ q4; rw [hfr _ hb'] at this; cases this
  have q6 : m6 gq = _ := frame _ _ T2.nq (hle5 _ _ q4)
  refine sto (c := #[vs ls]) (t := tq) q6 rfl (by simp) fun m7 e7 h7 hne7 => ret_intro (Mem.le_refl _) (hQ m7 ls' D' ?_)
  have hsn : ls'.n = ls.n + 1 := hsn
  have h7 : m7 gq = some (.cells #[vs ls'] tq (0, 0)) := by rw [h7, ← hsn]; rfl
  have hD' : ∀ b ∈ D', m0 b = none := by
    rcases hfr with rfl | hfr
    · exact T2.fr
    · exact fun b hb' => le_none (Mem.le_trans l4 hle5) (hfr b hb')
  have l6 : Mem.le m0 m6 := le_off (Mem.le_trans l4 hle5) hD' hoff
  have hrl := k2.put r3 r4
  refine ⟨le_put l6 T2.q0 hne7, ⟨_, (hne7 gd T2.dq).trans (frame _ _ T2.nd (hle5 _ _ k4)), hrl.1, fun x x0 x1 => ?_⟩, h7, hO'.ext fun b hb => hne7 b fun e => hgqD' (e ▸ hb), hD', hgdD', hgqD', T2.d0, T2.q0, T2.dq⟩
  rw [hrl.2 x x0 x1, List.mem_cons, List.mem_append, List.mem_singleton]
  exact Or.comm
theorem slotsP_loop (t : Tab) (h125 : look t 125 = s125) (h129 : look t 129 = s129) {Q : Value → Mem → Prop} {s r sl : Sl} {a : Ar} {rs : List Vl} {mk : List Int} {m0 : Mem} {g g1 g12 gd gq nf iN : Nat} {t1 t12 tq : TypeId} {p : Int} (hw : a.wf) (hk : OkM a mk) (hP : Ptr m0 g s r (a.wr rs)) (hA0 : ArAt m0 s r (a.wr rs)) (hwr : (a.wr rs).wf) (hc1 : m0 g1 = some (.cells #[.pointer (some ⟨g, 0, none⟩)] t1 (0, 0))) (hc2 : m0 g12 = some (.cells #[.slice (some ⟨gd, 0, none⟩) a.ws.length a.ws.length] t12 (0, 0)))
    (hsn : sl.n = slotN a.ws p) (hsR : Rd m0 sl.a (slotsL (kdW a.ws p) (szW a.ws p))) (p0 : 0 ≤ p) (p1 : p < a.ws.length) (hp : hdM mk p) {L1 : List Int}
    (hQ : ∀ (ls' : Sl) (M' : Mem) (D' : List Nat), StP m0 M' gd gq a.ws.length tq ls' L1 D' → L59_10 (look t) nf Q g1 gq g1 g12 gq (IntKind.i64.wrap ((iN : Int) + 1)) M') :
    ∀ (d k : Nat) (L : List Int) (ls : Sl) (D : List Nat) (M : Mem), k + d = slotN a.ws p → comeSP a.ws p d k L = L1 → BP a mk L → L[iN]? = some p → StP m0 M gd gq a.ws.length tq ls L D →
      L59_14 (look t) nf (d + 1) Q g1 gq g1 g12 gq (iN : Int) sl.a sl.n sl.c (sl.n : Int) (k : Int) M := by
  have hN := hw.n
  have hsl : slotN a.ws p = (slotsL (kdW a.ws p) (szW a.ws p)).length := rfl
  have hT0 := tile_ok hw hk.N hk.t
  have bp := look_b hw p
  have hsb : slotN a.ws p ≤ 65536 := by
    unfold slotN slotsL
    rw [everyK_len]
    have hH := hT0.head p0 (by have := hT0.n; omega) hp
    obtain ⟨e1, e2, e3, e4⟩ := hH.look hw
    have := kinds e2
    unfold numK fromK
    unfold kdW at *
    unfold szW at *
    rcases this with h | h | h | h | h | h <;> rw [h] <;> simp <;> omega
  intro d
  induction d with
  | zero =>
    intro k L ls D M hkd hc hI he hT
    rw [l59_14]
    refine ⟨M, Mem.le_refl _, ?_⟩
    rw [if_neg (by simp; omega)]
    have hc : L = L1 := hc
    subst hc
    exact hQ ls M D hT
  | succ d ih =>
    intro k L ls D M hkd hc hI he hT
    unfold comeSP at hc
    have hkl : k < slotN a.ws p := by omega
    obtain ⟨hv, x1, x2, x3⟩ := slot_vok hw hk p0 p1 hp hkl
    have hlt := (List.getElem?_eq_some_iff.1 he).1
    have hgp : gi L (iN : Int) = p := by rw [gi_mem hlt]; exact (List.getElem?_eq_some_iff.1 he).2
    have hln := hT.o.1
    have hle := hT.le
    rw [l59_14]
    refine ⟨M, Mem.le_refl _, ?_⟩
    rw [if_pos (by simp; omega)]
    refine li (hsR.le hle) (by omega) (by omega) (by omega) fun ad' had' hd' => ⟨_, hd' _ (Mem.le_refl _), ?_⟩
    have eg : gi (slotsL (kdW a.ws p) (szW a.ws p)) (k : Int) = slotAt a.ws p k := rfl
    rw [eg]
    refine ⟨Mem.le M, Mem.le_refl _, _, held (cell_of (hle _ _ hc1) 0), _, _, _, held (cell_of hT.q 0), li hT.o.rd hln.symm (by omega) (by omega) fun ad had hd => ⟨_, hd, ?_⟩⟩
    rw [hgp, w64 (x := p + slotAt a.ws p k) (by omega) (by omega)]
    refine via h129 ⟨g, s, r, a.wr rs, _, rfl, ⟨hle _ _ hP, hA0.le hle, hwr, by omega, by show p + slotAt a.ws p k < (a.ws.length : Int); omega⟩, by show p + slotAt a.ws p k + 1 < (a.ws.length : Int); omega, _, _, rfl, Mem.le_refl _, via h125 ⟨s, r, ls, a, rs, mk, valW a.ws (p + slotAt a.ws p k), L, D, g, g1, g12, gd, gq, t1, t12, tq, m0, rfl, hw, hk.N, hwr, hP, hA0, hc1, hc2, hv, hT, by have := hI.len; omega, fun M' ls' D' hE => ⟨rfl, ?_⟩⟩⟩
    rw [wsucc (n := 65536) (by omega) (by decide)]
    refine ih (k + 1) _ ls' D' M' (by omega) (by rw [← hc]; rfl) (hI.come hv) ?_ hE
    have := comeP_pre a.ws L (valW a.ws (p + slotAt a.ws p k))
    obtain ⟨R, hR⟩ := this
    rw [← hR, List.getElem?_append_left hlt]
    exact he
theorem queueP_loop (t : Tab) (h125 : look t 125 = s125) (h129 : look t 129 = s129) (h60 : look t 60 = s60) (h128 : look t 128 = s128) {Q : Value → Mem → Prop} {s r : Sl} {a : Ar} {rs : List Vl} {mk : List Int} {m0 : Mem} {g g1 g12 gd gq : Nat} {t1 t12 tq : TypeId} {Lf : List Int} (hw : a.wf) (hk : OkM a mk) (hP : Ptr m0 g s r (a.wr rs)) (hA0 : ArAt m0 s r (a.wr rs)) (hwr : (a.wr rs).wf) (hc1 : m0 g1 = some (.cells #[.pointer (some ⟨g, 0, none⟩)] t1 (0, 0))) (hc2 : m0 g12 = some (.cells #[.slice (some ⟨gd, 0, none⟩) a.ws.length a.ws.length] t12 (0, 0)))
    (hQ : ∀ (s' : Sl) (M' : Mem) (D' : List Nat), Mem.le m0 M' → OwnL M' s' Lf D' → (∀ b ∈ D', m0 b = none) → ret Q (vs s') M') :
    ∀ (f i : Nat) (L : List Int) (ls : Sl) (D : List Nat) (M : Mem), a.ws.length ≤ f + i → bfsP a.ws f i L = Lf → BP a mk L → StP m0 M gd gq a.ws.length tq ls L D →
      L59_10 (look t) (f + 1) Q g1 gq g1 g12 gq (i : Int) M := by
  have hN := hw.n
  have hT0 := tile_ok hw hk.N hk.t
  have endc : ∀ (f i : Nat) (L : List Int) (ls : Sl) (D : List Nat) (M : Mem), L.length ≤ i → L = Lf → StP m0 M gd gq a.ws.length tq ls L D → L59_10 (look t) (f + 1) Q g1 gq g1 g12 gq (i : Int) M := by
    intro f i L ls D M hi hB hT
    have hn := hT.o.1
    rw [l59_10]
    refine ⟨M, Mem.le_refl _, _, _, _, cell_of hT.q 0, ?_⟩
    rw [if_neg (by simp; omega)]
    exact ⟨_, _, _, cell_of hT.q 0, hQ ls M D hT.le (hB ▸ hT.o) hT.fr⟩
  intro f
  induction f with
  | zero =>
    intro i L ls D M hf hB hI hT
    exact endc 0 i L ls D M (by have := hI.len; omega) hB hT
  | succ f ih =>
    intro i L ls D M hf hB hI hT
    have hl := hI.len
    unfold bfsP at hB
    cases hse : L[i]? with
    | none =>
      rw [hse] at hB
      exact endc (f + 1) i L ls D M (List.getElem?_eq_none_iff.1 hse) hB hT
    | some p =>
    rw [hse] at hB
    have hB : bfsP a.ws f (i + 1) (comeSP a.ws p (slotN a.ws p) 0 L) = Lf := hB
    have hlt := (List.getElem?_eq_some_iff.1 hse).1
    obtain ⟨p0, p1, hp⟩ := hI.rg p (List.mem_of_getElem? hse)
    have hgp : gi L (i : Int) = p := by rw [gi_mem hlt]; exact (List.getElem?_eq_some_iff.1 hse).2
    have hH := hT0.head p0 (by have := hT0.n; omega) hp
    obtain ⟨_, he2, _, _⟩ := hH.look hw
    have bp := look_b hw p
    have hn := hT.o.1
    have hle := hT.le
    rw [l59_10]
    refine ⟨M, Mem.le_refl _, _, _, _, cell_of hT.q 0, ?_⟩
    rw [if_pos (by simp; omega)]
    refine ⟨Mem.le M, Mem.le_refl _, _, held (cell_of (hle _ _ hc1) 0), _, _, _, held (cell_of hT.q 0), li hT.o.rd hn.symm (by omega) (by omega) fun ad had hd => ⟨_, hd, ?_⟩⟩
    rw [hgp]
    constructor
    · refine via h60 ⟨g, s, r, a.wr rs, p, rfl, ⟨hle _ _ hP, hA0.le hle, hwr, p0, p1⟩, _, _, _, rfl, Mem.le_refl _, newA_intro fun g4 m4 hg4 e4 hb4 hle4 => ⟨hle4, sto (c := #[.int .i64 0, .int .i64 0, .int .i64 0]) (t := 70) hb4 rfl (by simp) fun m6 e6 h6 hne6 => ?_⟩⟩
      have h6 : m6 g4 = some (.cells #[.int .i64 (kdW a.ws p), .int .i64 (szW a.ws p), .int .i64 (serW a.ws p)] 70 (0, 0)) := h6
      have l6 : Mem.le M m6 := fun b o hb => by
        have : b ≠ g4 := fun e => by rw [e, hg4] at hb; cases hb
        rw [hne6 b this]; exact hle4 _ _ hb
      have T6 := hT.mono l6
      refine ⟨_, cell_of h6 0, _, cell_of h6 1, via h128 ⟨_, _, rfl, bp.1, bp.2.1, he2, fun sl M2 D2 hle2 hO2 hD2 => ⟨_, _, _, rfl, slotN a.ws p + 1, ?_⟩⟩⟩
      have T2 := T6.mono hle2
      obtain ⟨lo', hlo⟩ : ∃ lo' : Mem, lo' = fun b => if b = gd ∨ b = gq ∨ b ∈ D then none else M2 b := ⟨_, rfl⟩
      have q1 : ∀ b, b = gd ∨ b = gq ∨ b ∈ D → lo' b = none := fun b hb => by rw [hlo]; exact if_pos hb
      have q2 : ∀ b, ¬ (b = gd ∨ b = gq ∨ b ∈ D) → lo' b = M2 b := fun b hb => by rw [hlo]; exact if_neg hb
      clear hlo
      have b2 : Mem.le lo' M2 := fun b o hb => by
        by_cases c : b = gd ∨ b = gq ∨ b ∈ D
        · rw [q1 b c] at hb; cases hb
        · rw [← q2 b c]; exact hb
      have ll : Mem.le m0 lo' := fun b o hb => by
        have : ¬ (b = gd ∨ b = gq ∨ b ∈ D) := by
          rintro (c | c | c)
          · rw [c, hT.d0] at hb; cases hb
          · rw [c, hT.q0] at hb; cases hb
          · rw [hT.fr b c] at hb; cases hb
        rw [q2 b this]; exact T2.le _ _ hb
      have b4 : StP lo' M2 gd gq a.ws.length tq ls L D := ⟨b2, T2.l, T2.q, T2.o, fun b hb => q1 b (.inr (.inr hb)), T2.nd, T2.nq, q1 gd (.inl rfl), q1 gq (.inr (.inl rfl)), T2.dq⟩
      have hO1 : OwnL lo' sl (slotsL (kdW a.ws p) (szW a.ws p)) D2 := hO2.ext fun b hb => q2 b (by
        rintro (c | c | c)
        · obtain ⟨row, k1, _⟩ := T6.l
          have := hD2 b hb; rw [c, k1] at this; cases this
        · have := hD2 b hb; rw [c, T6.q] at this; cases this
        · obtain ⟨o, ho⟩ := T6.o.live b c
          rw [hD2 b hb] at ho; cases ho)
      refine slotsP_loop t h125 h129 (m0 := lo') (L1 := comeSP a.ws p (slotN a.ws p) 0 L) hw hk (ll _ _ hP) (hA0.le ll) hwr (ll _ _ hc1) (ll _ _ hc2) hO1.1 hO1.rd p0 p1 hp (fun ls' M' D' hE => ?_) (slotN a.ws p) 0 L ls D M2 (by omega) rfl hI hse b4
      rw [wsucc (n := 2 ^ 21) (by omega) (by decide)]
      exact ih (i + 1) _ ls' D' M' (by omega) hB (BP.comeS hw hk p0 p1 hp _ 0 L (by omega) hI) ⟨Mem.le_trans ll hE.le, hE.l, hE.q, hE.o, fun b hb => le_none ll (hE.fr b hb), hE.nd, hE.nq, hT.d0, hT.q0, hE.dq⟩
    · refine newA_intro fun g4 m4 hg4 e4 hb4 hle4 => ⟨hle4, via h60 ⟨g, s, r, a.wr rs, p, rfl, ⟨(Mem.le_trans hle hle4) _ _ hP, hA0.le (Mem.le_trans hle hle4), hwr, p0, p1⟩, _, _, _, rfl, hle4, sto (c := #[.int .i64 0, .int .i64 0, .int .i64 0]) (t := 70) hb4 rfl (by simp) fun m6 e6 h6 hne6 => ?_⟩⟩
      have h6 : m6 g4 = some (.cells #[.int .i64 (kdW a.ws p), .int .i64 (szW a.ws p), .int .i64 (serW a.ws p)] 70 (0, 0)) := h6
      have l6 : Mem.le M m6 := fun b o hb => by
        have : b ≠ g4 := fun e => by rw [e, hg4] at hb; cases hb
        rw [hne6 b this]; exact hle4 _ _ hb
      have T6 := hT.mono l6
      refine ⟨_, cell_of h6 0, _, cell_of h6 1, via h128 ⟨_, _, rfl, bp.1, bp.2.1, he2, fun sl M2 D2 hle2 hO2 hD2 => ⟨_, _, _, rfl, slotN a.ws p + 1, ?_⟩⟩⟩
      have T2 := T6.mono hle2
      obtain ⟨lo', hlo⟩ : ∃ lo' : Mem, lo' = fun b => if b = gd ∨ b = gq ∨ b ∈ D then none else M2 b := ⟨_, rfl⟩
      have q1 : ∀ b, b = gd ∨ b = gq ∨ b ∈ D → lo' b = none := fun b hb => by rw [hlo]; exact if_pos hb
      have q2 : ∀ b, ¬ (b = gd ∨ b = gq ∨ b ∈ D) → lo' b = M2 b := fun b hb => by rw [hlo]; exact if_neg hb
      clear hlo
      have b2 : Mem.le lo' M2 := fun b o hb => by
        by_cases c : b = gd ∨ b = gq ∨ b ∈ D
        · rw [q1 b c] at hb; cases hb
        · rw [← q2 b c]; exact hb
      have ll : Mem.le m0 lo' := fun b o hb => by
        have : ¬ (b = gd ∨ b = gq ∨ b ∈ D) := by
          rintro (c | c | c)
          · rw [c, hT.d0] at hb; cases hb
          · rw [c, hT.q0] at hb; cases hb
          · rw [hT.fr b c] at hb; cases hb
        rw [q2 b this]; exact T2.le _ _ hb
      have b4 : StP lo' M2 gd gq a.ws.length tq ls L D := ⟨b2, T2.l, T2.q, T2.o, fun b hb => q1 b (.inr (.inr hb)), T2.nd, T2.nq, q1 gd (.inl rfl), q1 gq (.inr (.inl rfl)), T2.dq⟩
      have hO1 : OwnL lo' sl (slotsL (kdW a.ws p) (szW a.ws p)) D2 := hO2.ext fun b hb => q2 b (by
        rintro (c | c | c)
        · obtain ⟨row, k1, _⟩ := T6.l
          have := hD2 b hb; rw [c, k1] at this; cases this
        · have := hD2 b hb; rw [c, T6.q] at this; cases this
        · obtain ⟨o, ho⟩ := T6.o.live b c
          rw [hD2 b hb] at ho; cases ho)
      refine slotsP_loop t h125 h129 (m0 := lo') (L1 := comeSP a.ws p (slotN a.ws p) 0 L) hw hk (ll _ _ hP) (hA0.le ll) hwr (ll _ _ hc1) (ll _ _ hc2) hO1.1 hO1.rd p0 p1 hp (fun ls' M' D' hE => ?_) (slotN a.ws p) 0 L ls D M2 (by omega) rfl hI hse b4
      rw [wsucc (n := 2 ^ 21) (by omega) (by decide)]
      exact ih (i + 1) _ ls' D' M' (by omega) hB (BP.comeS hw hk p0 p1 hp _ 0 L (by omega) hI) ⟨Mem.le_trans ll hE.le, hE.l, hE.q, hE.o, fun b hb => le_none ll (hE.fr b hb), hE.nd, hE.nq, hT.d0, hT.q0, hE.dq⟩
theorem rootsP_loop (t : Tab) (h125 : look t 125 = s125) {Q : Value → Mem → Prop} {s r : Sl} {a : Ar} {rs : List Vl} {mk : List Int} {m0 : Mem} {g g1 g12 gd gq : Nat} {t1 t12 tq : TypeId} {L1 : List Int} (hw : a.wf) (hk : OkM a mk) (hP : Ptr m0 g s r (a.wr rs)) (hA0 : ArAt m0 s r (a.wr rs)) (hwr : (a.wr rs).wf) (hc1 : m0 g1 = some (.cells #[.pointer (some ⟨g, 0, none⟩)] t1 (0, 0))) (hc2 : m0 g12 = some (.cells #[.slice (some ⟨gd, 0, none⟩) a.ws.length a.ws.length] t12 (0, 0)))
    (hv : ∀ v ∈ rs, VOk a mk v) (hQ : ∀ (ls' : Sl) (M' : Mem) (D' : List Nat), StP m0 M' gd gq a.ws.length tq ls' L1 D' → ∃ k, L59_10 (look t) k Q g1 gq g1 g12 gq 0 M') :
    ∀ (d i : Nat) (L : List Int) (ls : Sl) (D : List Nat) (M : Mem), i + d = rs.length → comeRP a.ws (rs.drop i) L = L1 → BP a mk L → StP m0 M gd gq a.ws.length tq ls L D →
      L59_5 (look t) (d + 1) Q g1 gq g1 g12 gq r.a r.n r.c (r.n : Int) (i : Int) M := by
  have hkn : rs.length = r.n := hA0.k
  have hrR : Rd m0 r.a rs := hA0.r
  have hR : rs.length ≤ 2 ^ 20 := hwr.r
  have hN := hw.n
  intro d
  induction d with
  | zero =>
    intro i L ls D M hi hB hI hT
    rw [l59_5]
    refine ⟨M, Mem.le_refl _, ?_⟩
    rw [if_neg (by simp; omega)]
    rw [List.drop_eq_nil_of_le (by omega)] at hB
    have hB : L = L1 := hB
    subst hB
    exact hQ ls M D hT
  | succ d ih =>
    intro i L ls D M hi hB hI hT
    have hxl : i < rs.length := by omega
    obtain ⟨v, hvd⟩ : ∃ v, v = rs[i] := ⟨_, rfl⟩
    rw [List.drop_eq_getElem_cons hxl, ← hvd] at hB
    unfold comeRP at hB
    have hvv := hv v (by rw [hvd]; exact List.getElem_mem _)
    rw [l59_5]
    refine ⟨M, Mem.le_refl _, ?_⟩
    rw [if_pos (by simp; omega), wsucc (n := 2 ^ 20) (by omega) (by decide)]
    refine idx' (i := (i : Int)) (hrR.le hT.le) hkn (by omega) (by omega) fun ad had hd => ?_
    have hd : ∀ (j : Nat) (x : Value), (Enc.e v)[j]? = some x → M.cell? ((ad.add (Int.toNat (i : Int) * 2)).add j) = some x := by rw [hvd]; exact hd
    refine ⟨_, hd 0 (.int .i64 v.1) rfl, _, hd 1 (.int .i64 v.2) rfl, newA_intro fun gv m1 hg1 q1 hb1 hle1 => sto (c := #[.int .i64 0, .int .i64 0]) (t := 52) hb1 rfl (by simp) fun m3 q3 h3 hne3 => ?_⟩
    have h3 : m3 gv = some (.cells #[.int .i64 v.1, .int .i64 v.2] 52 (0, 0)) := h3
    have l3 : Mem.le M m3 := le_other hle1 hg1 hne3
    refine ⟨_, cell_of h3 0, _, cell_of h3 1, via h125 ⟨s, r, ls, a, rs, mk, v, L, D, g, g1, g12, gd, gq, t1, t12, tq, m0, rfl, hw, hk.N, hwr, hP, hA0, hc1, hc2, hvv, hT.mono l3, by have := hI.len; omega, fun M' ls' D' hE => ⟨rfl, ?_⟩⟩⟩
    exact ih (i + 1) _ ls' D' M' (by omega) hB (hI.come hvv) hE
def s59 : Spec := fun args m Q => ∃ (g : Nat) (s r : Sl) (a : Ar) (rs : List Vl) (mk : List Int), args = [.pointer (some ⟨g, 0, none⟩)] ∧ Ptr m g s r (a.wr rs) ∧ ArAt m s r (a.wr rs) ∧ (a.wr rs).wf ∧ a.wf ∧ OkM a mk ∧ (∀ v ∈ rs, VOk a mk v) ∧ ∀ (s' : Sl) (M : Mem) (D : List Nat), Mem.le m M → OwnL M s' (reachP a.ws rs) D → (∀ b ∈ D, m b = none) → Q (vs s') M
theorem f59 (t : Tab) (h125 : look t 125 = s125) (h129 : look t 129 = s129) (h60 : look t 60 = s60) (h128 : look t 128 = s128) : ∀ args m Q, s59 args m Q → FA Tryz.prog (look t) kp59 Tryz.f59 args m Q := by
  rintro args m Q ⟨g, s, r, a, rs, mk, rfl, hP, hA, hwr, hw, hk, hv, hQ⟩
  rw [e59]
  have hn : a.ws.length = s.n := hA.n
  have hN := hw.n
  refine newA_intro fun g1 m2 hg1 e2 hb1 hle2 => ⟨_, cell_of hb1 0, po ⟨_, _, _, cell_of (hle2 _ _ hP) 0, ?_⟩⟩
  rw [← hn]
  refine ⟨by omega, Int.le_refl _, by omega, by omega, newA_intro fun gd m3 hgd q3 hb3 hle3 => newA_intro fun g12 m4 hg12 q4 hb4 hle4 => sto (c := #[.slice none 0 0]) (t := 131) hb4 rfl (by simp) fun m5 q5 h5 hne5 => newA_intro fun g15 m6 hg15 q6 hb6 hle6 => newA_intro fun gq m7 hgq q7 hb7 hle7 => sto (c := #[.slice none 0 0]) (t := 27) hb7 rfl (by simp) fun m8 q8 h8 hne8 => ?_⟩
  have hb3 : m3 gd = some (rowB (List.replicate a.ws.length false) 4) := by
    rw [hb3]
    unfold rowB
    rw [List.append_nil, ← zeroRow_eq]
    rfl
  have h5 : m5 g12 = some (.cells #[.slice (some ⟨gd, 0, none⟩) a.ws.length a.ws.length] 131 (0, 0)) := h5
  have h8 : m8 gq = some (.cells #[vs ⟨some ⟨g15, 0, none⟩, 0, 0⟩] 27 (0, 0)) := h8
  have l5 : Mem.le m3 m5 := le_other hle4 hg12 hne5
  have l8 : Mem.le m6 m8 := le_other hle7 hgq hne8
  have l58 : Mem.le m5 m8 := Mem.le_trans hle6 l8
  have l38 : Mem.le m3 m8 := Mem.le_trans l5 l58
  have d1 : gd ≠ g12 := fun e => by rw [← e, hb3] at hg12; cases hg12
  have d2 : gd ≠ g15 := fun e => by rw [← e, l5 _ _ hb3] at hg15; cases hg15
  have d3 : gd ≠ gq := fun e => by rw [← e, hle6 _ _ (l5 _ _ hb3)] at hgq; cases hgq
  have d4 : g12 ≠ g15 := fun e => by rw [← e, h5] at hg15; cases hg15
  have d5 : g12 ≠ gq := fun e => by rw [← e, hle6 _ _ h5] at hgq; cases hgq
  have d6 : g15 ≠ gq := fun e => by rw [← e, hb6] at hgq; cases hgq
  obtain ⟨lo, hlo⟩ : ∃ lo : Mem, lo = fun b => if b = gd ∨ b = gq ∨ b = g15 then none else m8 b := ⟨_, rfl⟩
  have z1 : ∀ b, b = gd ∨ b = gq ∨ b = g15 → lo b = none := fun b hb => by rw [hlo]; exact if_pos hb
  have z2 : ∀ b, ¬ (b = gd ∨ b = gq ∨ b = g15) → lo b = m8 b := fun b hb => by rw [hlo]; exact if_neg hb
  clear hlo
  have lM : Mem.le lo m8 := fun b o hb => by
    by_cases c : b = gd ∨ b = gq ∨ b = g15
    · rw [z1 b c] at hb; cases hb
    · rw [← z2 b c]; exact hb
  have l2lo : Mem.le m2 lo := fun b o hb => by
    have : ¬ (b = gd ∨ b = gq ∨ b = g15) := by
      rintro (c | c | c)
      · rw [c, hgd] at hb; cases hb
      · have := (Mem.le_trans (Mem.le_trans hle3 l5) hle6) _ _ hb; rw [c, hgq] at this; cases this
      · have := (Mem.le_trans hle3 l5) _ _ hb; rw [c, hg15] at this; cases this
    rw [z2 b this]; exact l38 _ _ (hle3 _ _ hb)
  have hc2 : lo g12 = _ := (z2 g12 (by rintro (c | c | c); exact d1 c.symm; exact d5 c; exact d4 c)).trans (l58 _ _ h5)
  have l0 := Mem.le_trans hle2 l2lo
  have hE : StP lo m8 gd gq a.ws.length 27 ⟨some ⟨g15, 0, none⟩, 0, 0⟩ [] [g15] :=
    ⟨lM, ⟨_, l38 _ _ hb3, rled0 _⟩, h8, ⟨rfl, .inr ⟨g15, 3, [], rfl, rfl, by rw [l8 _ _ hb6]; rfl, rfl⟩⟩, fun b hb => by rw [List.mem_singleton] at hb; rw [hb]; exact z1 g15 (.inr (.inr rfl)), by rw [List.mem_singleton]; exact d2, by rw [List.mem_singleton]; exact d6.symm, z1 gd (.inl rfl), z1 gq (.inr (.inl rfl)), d3⟩
  refine ⟨_, cell_of ((Mem.le_trans hle3 l38) _ _ hb1) 0, po ⟨_, _, _, cell_of ((Mem.le_trans hle2 (Mem.le_trans hle3 l38)) _ _ hP) 9, rs.length + 1, ?_⟩⟩
  refine rootsP_loop t h125 (m0 := lo) (L1 := comeRP a.ws rs []) hw hk (l0 _ _ hP) (hA.le l0) hwr (l2lo _ _ hb1) hc2 hv (fun ls' M' D' hE' => ⟨a.ws.length + 2, ?_⟩) rs.length 0 [] ⟨some ⟨g15, 0, none⟩, 0, 0⟩ [g15] m8 (by omega) rfl (BP.nil a mk) hE
  exact queueP_loop t h125 h129 h60 h128 (Lf := reachP a.ws rs) hw hk (l0 _ _ hP) (hA.le l0) hwr (l2lo _ _ hb1) hc2 (fun s' M2 D2 q1 q2 q3 => ret_intro (Mem.le_refl _) (hQ s' M2 D2 (Mem.le_trans l0 q1) q2 fun b hb => le_none l0 (q3 b hb))) (a.ws.length + 1) 0 _ ls' D' M' (by omega) rfl (BP.comeR rs [] hv (BP.nil a mk)) hE'
end Go.Proofs.YtjdcndicaeodbaaGreat.Abs
