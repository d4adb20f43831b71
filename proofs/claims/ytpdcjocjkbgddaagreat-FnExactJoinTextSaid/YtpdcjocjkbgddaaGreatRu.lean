/- Arenas: is an arena right? The reference's function. -/
import Derived.Test.YtpdcjocjkbgddaaGreatRt
namespace Go.Proofs.YtpdcjocjkbgddaaGreat.Abs
open Go.RowKit
set_option linter.unusedVariables false
set_option linter.unusedSimpArgs false
set_option maxRecDepth 20000
theorem roots_loop (t : Tab) (h58 : look t 58 = s58) (h59 : look t 59 = s59) {Q : Value → Mem → Prop} {s r mkS : Sl} {a : Ar} {mk : List Int} {m : Mem} {g : Nat} (hw : a.wf) (hP : Ptr m g s r a) (hA : ArAt m s r a) (hmn : mkS.n = mk.length) (hM : Rd m mkS.a mk) (hO : MkOk a mk)
    (no : (¬ ∀ v ∈ a.rs, rootP a mk v) → ∀ M, Mem.le m M → ret Q (.bool false) M) (yes : (∀ v ∈ a.rs, rootP a mk v) → ∀ M, Mem.le m M → ret Q (.bool true) M) :
    ∀ (d i : Nat), i + d = a.rs.length → (∀ j : Nat, (h : j < a.rs.length) → j < i → rootP a mk a.rs[j]) → ∀ M : Mem, Mem.le m M → L25_18 (look t) (d + 1) Q g mkS.a mkS.n mkS.c (i : Int) M := by
  intro d
  have hk := hA.k
  have hR := hw.r
  induction d with
  | zero =>
    intro i hi hz M hle
    have hb1 := hle _ _ hP
    rw [l25_18]
    refine ⟨M, Mem.le_refl _, _, _, _, cell_of hb1 9, ?_⟩
    rw [if_neg (by simp; omega)]
    refine yes (fun v hv => ?_) M hle
    obtain ⟨j, hj, e⟩ := List.mem_iff_getElem.1 hv
    rw [← e]
    exact hz j hj (by omega)
  | succ d ih =>
    intro i hi hz M hle
    have hb1 := hle _ _ hP
    have hA := hA.le hle
    have hM := hM.le hle
    have hlt : i < a.rs.length := by omega
    obtain ⟨v, hv⟩ : ∃ v, v = a.rs[i] := ⟨_, rfl⟩
    have hmem : v ∈ a.rs := by rw [hv]; exact List.getElem_mem _
    rw [l25_18]
    refine ⟨M, Mem.le_refl _, _, _, _, cell_of hb1 9, ?_⟩
    rw [if_pos (by simp; omega), wsucc (n := 2 ^ 20) (by omega) (by decide)]
    refine ⟨_, _, _, cell_of hb1 9, idx' hA.r hk (by omega) (by omega) fun ad had hd => ?_⟩
    have hd : ∀ (j : Nat) (w : Value), (Enc.e v)[j]? = some w → M.cell? ((ad.add (Int.toNat (i : Int) * 2)).add j) = some w := by rw [hv]; exact hd
    refine ⟨_, hd 0 (.int .i64 v.1) rfl, _, hd 1 (.int .i64 v.2) rfl, newA_intro fun g2 m2 hg2 e2 hb2 hle2 => sto (c := #[.int .i64 0, .int .i64 0]) (t := 58) hb2 rfl (by simp) fun m3 e3 h3 hne3 => ?_⟩
    have h3 : m3 g2 = some (.cells #[.int .i64 v.1, .int .i64 v.2] 58 (0, 0)) := h3
    have l3 : Mem.le M m3 := le_other hle2 hg2 hne3
    have L3 := Mem.le_trans hle l3
    have hb1 := l3 _ _ hb1
    have bad : ¬ rootP a mk v → ret Q (.bool false) m3 := fun h => no (fun hh => h (hh v hmem)) m3 L3
    refine ⟨_, cell_of h3 0, _, cell_of h3 1, via h58 ⟨v, rfl, _, rfl, ?_⟩⟩
    cases c1 : valOkB v with
    | false => rw [if_pos (by decide)]; exact bad fun h => by rw [h.1] at c1; cases c1
    | true =>
    rw [if_neg (by decide)]
    refine ⟨_, cell_of h3 0, ?_⟩
    by_cases c2 : v.1 = 8
    · rw [if_pos (by simpa using c2)]; exact bad fun h => h.2.1 c2
    rw [if_neg (by simpa using c2)]
    refine ⟨_, _, _, cell_of hb1 0, _, cell_of hb1 1, _, cell_of hb1 2, _, cell_of hb1 3, _, cell_of hb1 4, _, cell_of hb1 5, _, cell_of hb1 6, _, cell_of hb1 7, _, cell_of hb1 8, _, _, _, cell_of hb1 9, _, cell_of h3 0, _, cell_of h3 1, via h59 ⟨s, r, mkS, a, mk, v, 1, rfl, hA.le l3, hw, hmn, hM.le l3, hO, c1, _, rfl, ?_⟩⟩
    cases c3 : leadsB a mk v 1 with
    | false => rw [if_pos (by decide)]; exact bad fun h => by rw [h.2.2] at c3; cases c3
    | true =>
    rw [if_neg (by decide)]
    refine ih (i + 1) (by omega) (fun j hj hj2 => ?_) m3 L3
    by_cases e : j = i
    · subst e; rw [← hv]; exact ⟨c1, c2, c3⟩
    · exact hz j hj (by omega)
theorem tabs_loop (t : Tab) (h56 : look t 56 = s56) (h57 : look t 57 = s57) {Q : Value → Mem → Prop} {s r mkS ls : Sl} {a : Ar} {mk : List Int} {m0 : Mem} {g gd : Nat} {td : TypeId} (hw : a.wf) (hP : Ptr m0 g s r a) (hA0 : ArAt m0 s r a) (hmn : mkS.n = mk.length) (hM : Rd m0 mkS.a mk) (hN : NumP a) (hT : TileOk a mk) (ho : ∀ p : Int, 0 ≤ p → p < mk.length → hdM mk p → objP a mk p)
    (hla : ls.a = some ⟨gd, 0, none⟩) (hln : ls.n = a.ws.length) (hg0 : m0 gd = none)
    (no : ¬ tabsP a mk a.ws.length 0 [] → ∀ M, Mem.le m0 M → ret Q (.bool false) M) (yes : tabsP a mk a.ws.length 0 [] → ∀ M, Mem.le m0 M → ∃ k, L25_18 (look t) k Q g mkS.a mkS.n mkS.c 0 M) :
    ∀ (d p : Nat), p + d = a.ws.length → ∀ (had : List Int) (row : List Bool) (M : Mem), (tabsP a mk a.ws.length 0 [] ↔ tabsP a mk d p had) → Mem.le m0 M → M gd = some (rowB row td) → RLed a.ws.length row had → L25_13 (look t) (d + 1) Q g mkS.a mkS.n mkS.c ls.a ls.n ls.c (p : Int) M := by
  intro d
  have hNn := hw.n
  have hmk := hT.n
  induction d with
  | zero =>
    intro p hp had row M he hle hgd hrl
    rw [l25_13]
    refine ⟨M, Mem.le_refl _, ?_⟩
    rw [if_neg (by simp; omega)]
    exact yes (he.2 trivial) M hle
  | succ d ih =>
    intro p hp had row M he hle hgd hrl
    have hb1 := hle _ _ hP
    have hA := hA0.le hle
    have hM2 := hM.le hle
    have p0 : (0 : Int) ≤ p := by omega
    have p1 : (p : Int) < a.ws.length := by omega
    have skip : ¬ (hdM mk p ∧ kdW a.ws p = 2) → L25_13 (look t) (d + 1) Q g mkS.a mkS.n mkS.c ls.a ls.n ls.c (IntKind.i64.wrap ((p : Int) + 1)) M := by
      intro h
      rw [wsucc (n := 2 ^ 20) (by omega) (by decide)]
      refine ih (p + 1) (by omega) had row M ?_ hle hgd hrl
      rw [he]
      conv => lhs; unfold tabsP
      rw [if_neg h]
      rfl
    have fin : hdM mk p → kdW a.ws p = 2 → ∀ (M' : Mem) (row' : List Bool), (∀ b o, b ≠ gd → M b = some o → M' b = some o) → M' gd = some (.cells (flat Enc.e row' ++ []).toArray td (0, 0)) → (tabP a.ws p had → RLed a.ws.length row' (hadN a.ws p had)) →
        if (!pB (tabP a.ws p had)) = true then ret Q (.bool false) M' else L25_13 (look t) (d + 1) Q g mkS.a mkS.n mkS.c ls.a ls.n ls.c (IntKind.i64.wrap ((p : Int) + 1)) M' := by
      intro h1 h2 M' row' fr k' hR
      have hle' : Mem.le m0 M' := fun b o hb => fr b o (fun e => by rw [e, hg0] at hb; cases hb) (hle _ _ hb)
      have he2 : tabsP a mk a.ws.length 0 [] ↔ tabP a.ws p had ∧ tabsP a mk d ((p : Int) + 1) (hadN a.ws p had) := by
        rw [he]
        conv => lhs; unfold tabsP
        rw [if_pos ⟨h1, h2⟩]
      by_cases c : tabP a.ws p had
      · rw [pB_yes c, if_neg (by decide), wsucc (n := 2 ^ 20) (by omega) (by decide)]
        exact ih (p + 1) (by omega) _ row' M' (he2.trans ⟨fun h => h.2, fun h => ⟨c, h⟩⟩) hle' k' (hR c)
      · rw [pB_no c, if_pos (by decide)]
        exact no (fun h => c (he2.1 h).1) M' hle'
    rw [l25_13]
    refine ⟨M, Mem.le_refl _, ?_⟩
    rw [if_pos (by simp; omega)]
    refine ri hM2 hmn.symm p0 (by omega) fun ad had_ hd => ⟨_, hd _ (Mem.le_refl _), ?_⟩
    by_cases c1 : gi mk p = 1
    · rw [if_pos (by simpa using c1)]
      have hhd : hdM mk p := .inl c1
      (refine ⟨_, _, _, cell_of hb1 0, _, cell_of hb1 1, _, cell_of hb1 2, _, cell_of hb1 3, _, cell_of hb1 4, _, cell_of hb1 5, _, cell_of hb1 6, _, cell_of hb1 7, _, cell_of hb1 8, _, _, _, cell_of hb1 9, via h56 ⟨s, r, a, _, rfl, ⟨hA, hw, p0, p1⟩, _, _, _, rfl, ?_⟩⟩; by_cases ck : kdW a.ws p = 2; rw [if_pos (by unfold kdW at ck; simpa using ck)]; exact ⟨_, _, _, cell_of hb1 0, _, cell_of hb1 1, _, cell_of hb1 2, _, cell_of hb1 3, _, cell_of hb1 4, _, cell_of hb1 5, _, cell_of hb1 6, _, cell_of hb1 7, _, cell_of hb1 8, _, _, _, cell_of hb1 9, via h57 ⟨s, r, ls, a, p, row, had, gd, td, m0, rfl, hla, by rw [hln, hrl.1], hgd, hle, hg0, hA0, hw, tab_at hw hN hT ho p0 (by omega) hhd ck, hrl, fun M' row' fr k' hR => ⟨_, rfl, fin hhd ck M' row' fr k' hR⟩⟩⟩; rw [if_neg (by unfold kdW at ck; simpa using ck)]; exact skip fun h => ck h.2)
    · rw [if_neg (by simpa using c1)]
      refine ri hM2 hmn.symm p0 (by omega) fun ad had_ hd => ⟨_, hd _ (Mem.le_refl _), ?_⟩
      by_cases c2 : gi mk p = 2
      · rw [if_pos (by simpa using c2)]
        have hhd : hdM mk p := .inr c2
        (refine ⟨_, _, _, cell_of hb1 0, _, cell_of hb1 1, _, cell_of hb1 2, _, cell_of hb1 3, _, cell_of hb1 4, _, cell_of hb1 5, _, cell_of hb1 6, _, cell_of hb1 7, _, cell_of hb1 8, _, _, _, cell_of hb1 9, via h56 ⟨s, r, a, _, rfl, ⟨hA, hw, p0, p1⟩, _, _, _, rfl, ?_⟩⟩; by_cases ck : kdW a.ws p = 2; rw [if_pos (by unfold kdW at ck; simpa using ck)]; exact ⟨_, _, _, cell_of hb1 0, _, cell_of hb1 1, _, cell_of hb1 2, _, cell_of hb1 3, _, cell_of hb1 4, _, cell_of hb1 5, _, cell_of hb1 6, _, cell_of hb1 7, _, cell_of hb1 8, _, _, _, cell_of hb1 9, via h57 ⟨s, r, ls, a, p, row, had, gd, td, m0, rfl, hla, by rw [hln, hrl.1], hgd, hle, hg0, hA0, hw, tab_at hw hN hT ho p0 (by omega) hhd ck, hrl, fun M' row' fr k' hR => ⟨_, rfl, fin hhd ck M' row' fr k' hR⟩⟩⟩; rw [if_neg (by unfold kdW at ck; simpa using ck)]; exact skip fun h => ck h.2)
      · rw [if_neg (by simpa using c2)]
        exact skip fun h => by have := h.1; unfold hdM at this; omega
theorem objs_loop (t : Tab) (h55 : look t 55 = s55) {Q : Value → Mem → Prop} {s r mkS : Sl} {a : Ar} {mk : List Int} {m0 : Mem} {g : Nat} (hw : a.wf) (hP : Ptr m0 g s r a) (hA0 : ArAt m0 s r a) (hmn : mkS.n = mk.length) (hM : Rd m0 mkS.a mk) (hN : NumP a) (hT : TileOk a mk)
    (no : (¬ ∀ p : Int, 0 ≤ p → p < mk.length → hdM mk p → objP a mk p) → ∀ M, Mem.le m0 M → ret Q (.bool false) M)
    (yes : (∀ p : Int, 0 ≤ p → p < mk.length → hdM mk p → objP a mk p) → ∀ M gd, m0 gd = none → Mem.le m0 M → M gd = some (rowB (List.replicate a.ws.length false) 4) → ∃ k, L25_13 (look t) k Q g mkS.a mkS.n mkS.c (some ⟨gd, 0, none⟩) a.ws.length a.ws.length 0 M) :
    ∀ (d p : Nat), p + d = a.ws.length → (∀ q : Int, 0 ≤ q → q < p → hdM mk q → objP a mk q) → ∀ M : Mem, Mem.le m0 M → L25_7 (look t) (d + 1) Q g mkS.a mkS.n mkS.c (p : Int) M := by
  intro d
  have hNn := hw.n
  have hmk := hT.n
  have hn := hA0.n
  induction d with
  | zero =>
    intro p hp hz M hle
    have hb1 := hle _ _ hP
    rw [l25_7]
    refine ⟨M, Mem.le_refl _, ?_⟩
    rw [if_neg (by simp; omega)]
    refine ⟨_, _, _, cell_of hb1 0, ?_⟩
    rw [← hn]
    refine ⟨by omega, Int.le_refl _, by omega, by omega, newA_intro fun gd m2 hgd e2 hb2 hle2 => ?_⟩
    have hb2 : m2 gd = some (rowB (List.replicate a.ws.length false) 4) := by
      rw [hb2]
      unfold rowB
      rw [List.append_nil, ← zeroRow_eq]
      rfl
    exact yes (fun q q0 q1 hq => hz q q0 (by omega) hq) m2 gd (le_none hle hgd) (Mem.le_trans hle hle2) hb2
  | succ d ih =>
    intro p hp hz M hle
    have hb1 := hle _ _ hP
    have hA := hA0.le hle
    have hM2 := hM.le hle
    have p0 : (0 : Int) ≤ p := by omega
    have p1 : (p : Int) < a.ws.length := by omega
    have nx : (hdM mk p → objP a mk p) → L25_7 (look t) (d + 1) Q g mkS.a mkS.n mkS.c (IntKind.i64.wrap ((p : Int) + 1)) M := by
      intro h
      rw [wsucc (n := 2 ^ 20) (by omega) (by decide)]
      refine ih (p + 1) (by omega) (fun q q0 q1 hq => ?_) M hle
      by_cases e : q = p
      · rw [e] at hq ⊢; exact h hq
      · exact hz q q0 (by omega) hq
    have fin : hdM mk p → if (!pB (objP a mk p)) = true then ret Q (.bool false) M else L25_7 (look t) (d + 1) Q g mkS.a mkS.n mkS.c (IntKind.i64.wrap ((p : Int) + 1)) M := by
      intro hq
      by_cases c : objP a mk p
      · rw [pB_yes c, if_neg (by decide)]; exact nx fun _ => c
      · rw [pB_no c, if_pos (by decide)]; exact no (fun h => c (h p p0 (by omega) hq)) M hle
    rw [l25_7]
    refine ⟨M, Mem.le_refl _, ?_⟩
    rw [if_pos (by simp; omega)]
    refine ri hM2 hmn.symm p0 (by omega) fun ad had_ hd => ⟨_, hd _ (Mem.le_refl _), ?_⟩
    by_cases c1 : gi mk p = 1
    · rw [if_pos (by simpa using c1)]
      exact ⟨_, _, _, cell_of hb1 0, _, cell_of hb1 1, _, cell_of hb1 2, _, cell_of hb1 3, _, cell_of hb1 4, _, cell_of hb1 5, _, cell_of hb1 6, _, cell_of hb1 7, _, cell_of hb1 8, _, _, _, cell_of hb1 9, via h55 ⟨s, r, mkS, a, mk, p, rfl, hA, hw, hmn, hM2, hT.mkOk hw hN, hT.head p0 (by omega) (.inl c1), .inl c1, _, rfl, fin (.inl c1)⟩⟩
    · rw [if_neg (by simpa using c1)]
      refine ri hM2 hmn.symm p0 (by omega) fun ad had_ hd => ⟨_, hd _ (Mem.le_refl _), ?_⟩
      by_cases c2 : gi mk p = 2
      · rw [if_pos (by simpa using c2)]
        exact ⟨_, _, _, cell_of hb1 0, _, cell_of hb1 1, _, cell_of hb1 2, _, cell_of hb1 3, _, cell_of hb1 4, _, cell_of hb1 5, _, cell_of hb1 6, _, cell_of hb1 7, _, cell_of hb1 8, _, _, _, cell_of hb1 9, via h55 ⟨s, r, mkS, a, mk, p, rfl, hA, hw, hmn, hM2, hT.mkOk hw hN, hT.head p0 (by omega) (.inr c2), .inr c2, _, rfl, fin (.inr c2)⟩⟩
      · rw [if_neg (by simpa using c2)]
        exact nx fun h => by unfold hdM at h; omega
def s25 : Spec := fun args m Q => ∃ (s r : Sl) (a : Ar), args = [vA s r a] ∧ ArAt m s r a ∧ a.wf ∧ Q (.bool (pB (okP a))) m
theorem f25 (t : Tab) (h52 : look t 52 = s52) (h53 : look t 53 = s53) (h54 : look t 54 = s54) (h55 : look t 55 = s55) (h56 : look t 56 = s56) (h57 : look t 57 = s57) (h58 : look t 58 = s58) (h59 : look t 59 = s59) : ∀ args m Q, s25 args m Q → FA Tryz.prog (look t) kp25 Tryz.f25 args m Q := by
  rintro args m Q ⟨s, r, a, rfl, hA, hw, hQ⟩
  show FA Tryz.prog (look t) kp25 Tryz.f25 [.agg #[.slice s.a s.n s.c, .int .i64 a.semi, .int .i64 a.to, .int .i64 a.top, .bool a.cyc, .int .i64 a.scan, .int .i64 a.old, .int .i64 a.cop, .int .i64 a.ser, .slice r.a r.n r.c]] m Q
  rw [e25]
  have hn := hA.n
  have hNn := hw.n
  have bad : ∀ M, Mem.le m M → ¬ okP a → ret Q (.bool false) M := fun M hM h => ret_intro hM (pB_no h ▸ hQ)
  have good : ∀ M, Mem.le m M → okP a → ret Q (.bool true) M := fun M hM h => ret_intro hM (pB_yes h ▸ hQ)
  refine newA_intro fun g m2 hg1 e2 hb1 hle2 => ?_
  have hP : Ptr m2 g s r a := hb1
  have hA2 := hA.le hle2
  refine ⟨_, _, _, cell_of hb1 0, _, cell_of hb1 1, _, cell_of hb1 2, _, cell_of hb1 3, _, cell_of hb1 4, _, cell_of hb1 5, _, cell_of hb1 6, _, cell_of hb1 7, _, cell_of hb1 8, _, _, _, cell_of hb1 9, via h52 ⟨s, r, a, rfl, hA2, hw, _, rfl, ?_⟩⟩
  by_cases hN : NumP a
  case neg => rw [numB_false hN, if_pos (by decide)]; exact bad m2 hle2 fun ⟨mk, h⟩ => hN h.N
  rw [numB_true hN, if_neg (by decide)]
  refine ⟨_, _, _, cell_of hb1 0, ?_⟩
  rw [← hn]
  refine ⟨by omega, Int.le_refl _, by omega, by omega, newA_intro fun gl m3 hgl e3 hb3 hle3 => ?_⟩
  have hb3 : m3 gl = some (rowI (zeroA a) 3) := by
    rw [hb3]
    unfold rowI zeroA
    rw [List.append_nil, ← zeroRow_eq]
    rfl
  have hb1 := hle3 _ _ hb1
  refine ⟨_, _, _, cell_of hb1 0, _, cell_of hb1 1, _, cell_of hb1 2, _, cell_of hb1 3, _, cell_of hb1 4, _, cell_of hb1 5, _, cell_of hb1 6, _, cell_of hb1 7, _, cell_of hb1 8, _, _, _, cell_of hb1 9, via h53 ⟨s, r, ⟨some ⟨gl, 0, none⟩, a.ws.length, a.ws.length⟩, a, gl, _, m2, rfl, rfl, rfl, hb3, hle3, hgl, hA2, hw, hN, fun M mk hle hM he => ⟨_, rfl, ?_⟩⟩⟩
  have LM := Mem.le_trans hle2 hle
  cases ht : tileO a with
  | none =>
    rw [if_pos (by decide)]
    exact bad M LM fun ⟨mk', h⟩ => by have := h.t; rw [ht] at this; cases this
  | some mk2 =>
  have e := he mk2 ht
  subst e
  rw [if_neg (by simp)]
  have hT := tile_ok hw hN ht
  have hPM : Ptr M g s r a := hle _ _ hP
  have hAM := hA.le LM
  have hb1 : M g = _ := hPM
  have hRd : Rd M (some ⟨gl, 0, none⟩) mk := Rd.of_block (spare := []) hM (by simp)
  have hun : ∀ mk', OkM a mk' → mk' = mk := fun mk' h => by have := h.t; rw [ht] at this; cases this; rfl
  refine ⟨_, _, _, cell_of hb1 0, _, cell_of hb1 1, _, cell_of hb1 2, _, cell_of hb1 3, _, cell_of hb1 4, _, cell_of hb1 5, _, cell_of hb1 6, _, cell_of hb1 7, _, cell_of hb1 8, _, _, _, cell_of hb1 9, via h54 ⟨s, r, ⟨some ⟨gl, 0, none⟩, a.ws.length, a.ws.length⟩, a, mk, rfl, hAM, hw, hT.n.symm, hRd, hT.n, _, rfl, ?_⟩⟩
  by_cases hS : serR a mk
  case neg => rw [pB_no hS, if_pos (by decide)]; exact bad M LM fun ⟨mk', h⟩ => hS (hun mk' h ▸ h.s)
  rw [pB_yes hS, if_neg (by decide)]
  refine ⟨a.ws.length + 1, objs_loop t h55 (mkS := ⟨some ⟨gl, 0, none⟩, a.ws.length, a.ws.length⟩) (m0 := M) hw hPM hAM hT.n.symm hRd hN hT (fun h M' hM' => bad M' (Mem.le_trans LM hM') fun ⟨mk', h'⟩ => h (hun mk' h' ▸ h'.o)) (fun ho M' gd hgd hM' hb' => ?_) a.ws.length 0 (by omega) (fun q q0 q1 => by omega) M (Mem.le_refl _)⟩
  refine ⟨a.ws.length + 1, tabs_loop t h56 h57 (mkS := ⟨some ⟨gl, 0, none⟩, a.ws.length, a.ws.length⟩) (ls := ⟨some ⟨gd, 0, none⟩, a.ws.length, a.ws.length⟩) (m0 := M) hw hPM hAM hT.n.symm hRd hN hT ho rfl rfl hgd (fun h M2 hM2 => bad M2 (Mem.le_trans LM hM2) fun ⟨mk', h'⟩ => h (hun mk' h' ▸ h'.b)) (fun hb M2 hM2 => ?_) a.ws.length 0 (by omega) [] _ M' Iff.rfl hM' hb' (rled0 _)⟩
  exact ⟨a.rs.length + 1, roots_loop t h58 h59 (mkS := ⟨some ⟨gl, 0, none⟩, a.ws.length, a.ws.length⟩) (m := M) hw hPM hAM hT.n.symm hRd (hT.mkOk hw hN) (fun h M3 hM3 => bad M3 (Mem.le_trans LM hM3) fun ⟨mk', h'⟩ => h (hun mk' h' ▸ h'.r)) (fun h M3 hM3 => good M3 (Mem.le_trans LM hM3) ⟨mk, hN, ht, hS, ho, hb, h⟩) a.rs.length 0 (by omega) (fun j _ hj => by omega) M2 hM2⟩
end Go.Proofs.YtpdcjocjkbgddaaGreat.Abs
