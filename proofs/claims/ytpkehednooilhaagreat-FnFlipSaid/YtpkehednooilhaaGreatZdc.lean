/- Texts of the claim, merged: rules, contracts and plain laws. No condition. -/
import Derived.Test.YtpkehednooilhaaGreatZdb
import Derived.Test.YtpkehednooilhaaGreatZdEqN
import Derived.KernelRfl
set_option linter.unusedVariables false
set_option linter.unusedSimpArgs false
set_option linter.unusedSectionVars false
set_option maxRecDepth 20000
set_option maxHeartbeats 2000000
namespace Go.Proofs.YtpkehednooilhaaGreat.Abs
open Go.RowKit
theorem roots_loop (t : Tab) (h92 : look t 92 = s92) (h93 : look t 93 = s93) {Q : Value → Mem → Prop} {s r mkS : Sl} {a : Ar} {mk : List Int} {m : Mem} {g : Nat} (hw : a.wf) (hP : Ptr m g s r a) (hA : ArAt m s r a) (hmn : mkS.n = mk.length) (hM : Rd m mkS.a mk) (hO : MkOk a mk)
  (no : (¬ ∀ v ∈ a.rs, rootP a mk v) → ∀ M, Mem.le m M → ret Q (.bool false) M) (yes : (∀ v ∈ a.rs, rootP a mk v) → ∀ M, Mem.le m M → ret Q (.bool true) M) :
  ∀ (d i : Nat), i + d = a.rs.length → (∀ j : Nat, (h : j < a.rs.length) → j < i → rootP a mk a.rs[j]) → ∀ M : Mem, Mem.le m M → L20_18 (look t) (d + 1) Q g mkS.a mkS.n mkS.c (i : Int) M := by
 intro d
 have hk := hA.k
 have hR := hw.r
 induction d with
 | zero =>
  intro i hi hz M hle
  have hb1 := hle _ _ hP
  rw [l20_18]
  refine ⟨M, Mem.le_refl _, _, _, _, cO hb1 9, ?_⟩
  rw [if_neg (by simp; omega)]
  refine yes (fun v hv => ?_) M hle
  obtain ⟨j, hj, e⟩ := List.mem_iff_getElem.1 hv
  rw [← e]
  exact hz j hj (by omega)
 | succ d ih =>
  intro i hi hz M hle
  have hb1 := hle _ _ hP
  have hA := hA.le hle
  have hM := hM.le hle
  have hlt : i < a.rs.length := by omega
  obtain ⟨v, hv⟩ : ∃ v, v = a.rs[i] := ⟨_, rfl⟩
  have hmem : v ∈ a.rs := by rw [hv]; exact List.getElem_mem _
  rw [l20_18]
  refine ⟨M, Mem.le_refl _, _, _, _, cO hb1 9, ?_⟩
  rw [if_pos (by simp; omega), wsucc (n := 2 ^ 20) (by omega) (by decide)]
  refine ⟨_, _, _, cO hb1 9, idx' hA.r hk (by omega) (by omega) fun ad had hd => ?_⟩
  have hd : ∀ (j : Nat) (w : Value), (Enc.e v)[j]? = some w → M.cell? ((ad.add (Int.toNat (i : Int) * 2)).add j) = some w := by rw [hv]; exact hd
  refine ⟨_, hd 0 (.int .i64 v.1) rfl, _, hd 1 (.int .i64 v.2) rfl, newA_intro fun g2 m2 hg2 e2 hb2 hle2 => sto (c := #[.int .i64 0, .int .i64 0]) (t := 75) hb2 rfl (by simp) fun m3 e3 h3 hne3 => ?_⟩
  have h3 : m3 g2 = some (.cells #[.int .i64 v.1, .int .i64 v.2] 75 (0, 0)) := h3
  have l3 : Mem.le M m3 := le_other hle2 hg2 hne3
  have L3 := Mem.le_trans hle l3
  have hb1 := l3 _ _ hb1
  have bad : ¬ rootP a mk v → ret Q (.bool false) m3 := fun h => no (fun hh => h (hh v hmem)) m3 L3
  refine ⟨_, cO h3 0, _, cO h3 1, via h92 ⟨v, rfl, _, rfl, ?_⟩⟩
  cases c1 : valOkB v with
  | false => rw [if_pos (by decide)]; exact bad fun h => by rw [h.1] at c1; cases c1
  | true =>
  rw [if_neg (by decide)]
  refine ⟨_, cO h3 0, ?_⟩
  by_cases c2 : v.1 = 8
  ·rw [if_pos (by simpa using c2)]; exact bad fun h => h.2.1 c2
  rw [if_neg (by simpa using c2)]
  refine ⟨_, _, _, cO hb1 0, _, cO hb1 1, _, cO hb1 2, _, cO hb1 3, _, cO hb1 4, _, cO hb1 5, _, cO hb1 6, _, cO hb1 7, _, cO hb1 8, _, _, _, cO hb1 9, _, cO h3 0, _, cO h3 1, via h93 ⟨s, r, mkS, a, mk, v, 1, rfl, hA.le l3, hw, hmn, hM.le l3, hO, c1, _, rfl, ?_⟩⟩
  cases c3 : leadsB a mk v 1 with
  | false => rw [if_pos (by decide)]; exact bad fun h => by rw [h.2.2] at c3; cases c3
  | true =>
  rw [if_neg (by decide)]
  refine ih (i + 1) (by omega) (fun j hj hj2 => ?_) m3 L3
  by_cases e : j = i
  ·subst e; rw [← hv]; exact ⟨c1, c2, c3⟩
  ·exact hz j hj (by omega)
theorem tabs_loop (t : Tab) (h90 : look t 90 = s90) (h91 : look t 91 = s91) {Q : Value → Mem → Prop} {s r mkS ls : Sl} {a : Ar} {mk : List Int} {m0 : Mem} {g gd : Nat} {td : TypeId} (hw : a.wf) (hP : Ptr m0 g s r a) (hA0 : ArAt m0 s r a) (hmn : mkS.n = mk.length) (hM : Rd m0 mkS.a mk) (hN : NumP a) (hT : TileOk a mk) (ho : ∀ p : Int, 0 ≤ p → p < mk.length → hdM mk p → objP a mk p)
  (hla : ls.a = some ⟨gd, 0, none⟩) (hln : ls.n = a.ws.length) (hg0 : m0 gd = none)
  (no : ¬ tabsP a mk a.ws.length 0 [] → ∀ M, Mem.le m0 M → ret Q (.bool false) M) (yes : tabsP a mk a.ws.length 0 [] → ∀ M, Mem.le m0 M → ∃ k, L20_18 (look t) k Q g mkS.a mkS.n mkS.c 0 M) :
  ∀ (d p : Nat), p + d = a.ws.length → ∀ (had : List Int) (row : List Bool) (M : Mem), (tabsP a mk a.ws.length 0 [] ↔ tabsP a mk d p had) → Mem.le m0 M → M gd = some (rowB row td) → RLed a.ws.length row had → L20_13 (look t) (d + 1) Q g mkS.a mkS.n mkS.c ls.a ls.n ls.c (p : Int) M := by
 intro d
 have hNn := hw.n
 have hmk := hT.n
 induction d with
 | zero =>
  intro p hp had row M he hle hgd hrl
  rw [l20_13]
  refine ⟨M, Mem.le_refl _, ?_⟩
  rw [if_neg (by simp; omega)]
  exact yes (he.2 trivial) M hle
 | succ d ih =>
  intro p hp had row M he hle hgd hrl
  have hb1 := hle _ _ hP
  have hA := hA0.le hle
  have hM2 := hM.le hle
  have p0 : (0 : Int) ≤ p := by omega
  have p1 : (p : Int) < a.ws.length := by omega
  have skip : ¬ (hdM mk p ∧ kdW a.ws p = 2) → L20_13 (look t) (d + 1) Q g mkS.a mkS.n mkS.c ls.a ls.n ls.c (IntKind.i64.wrap ((p : Int) + 1)) M := by
   intro h
   rw [wsucc (n := 2 ^ 20) (by omega) (by decide)]
   refine ih (p + 1) (by omega) had row M ?_ hle hgd hrl
   rw [he]
   conv => lhs; unfold tabsP
   rw [if_neg h]
   rfl
  have fin : hdM mk p → kdW a.ws p = 2 → ∀ (M' : Mem) (row' : List Bool), (∀ b o, b ≠ gd → M b = some o → M' b = some o) → M' gd = some (.cells (flat Enc.e row' ++ []).toArray td (0, 0)) → (tabP a.ws p had → RLed a.ws.length row' (hadN a.ws p had)) →
    if (!pB (tabP a.ws p had)) = true then ret Q (.bool false) M' else L20_13 (look t) (d + 1) Q g mkS.a mkS.n mkS.c ls.a ls.n ls.c (IntKind.i64.wrap ((p : Int) + 1)) M' := by
   intro h1 h2 M' row' fr k' hR
   have hle' : Mem.le m0 M' := fun b o hb => fr b o (fun e => by rw [e, hg0] at hb; cases hb) (hle _ _ hb)
   have he2 : tabsP a mk a.ws.length 0 [] ↔ tabP a.ws p had ∧ tabsP a mk d ((p : Int) + 1) (hadN a.ws p had) := by
    rw [he]
    conv => lhs; unfold tabsP
    rw [if_pos ⟨h1, h2⟩]
   by_cases c : tabP a.ws p had
   ·rw [pB_yes c, if_neg (by decide), wsucc (n := 2 ^ 20) (by omega) (by decide)]
    exact ih (p + 1) (by omega) _ row' M' (he2.trans ⟨fun h => h.2, fun h => ⟨c, h⟩⟩) hle' k' (hR c)
   ·rw [pB_no c, if_pos (by decide)]
    exact no (fun h => c (he2.1 h).1) M' hle'
  rw [l20_13]
  refine ⟨M, Mem.le_refl _, ?_⟩
  rw [if_pos (by simp; omega)]
  refine ri hM2 hmn.symm p0 (by omega) fun ad had_ hd => ⟨_, hd _ (Mem.le_refl _), ?_⟩
  by_cases c1 : gi mk p = 1
  ·rw [if_pos (by simpa using c1)]
   have hhd : hdM mk p := .inl c1
   (refine ⟨_, _, _, cO hb1 0, _, cO hb1 1, _, cO hb1 2, _, cO hb1 3, _, cO hb1 4, _, cO hb1 5, _, cO hb1 6, _, cO hb1 7, _, cO hb1 8, _, _, _, cO hb1 9, via h90 ⟨s, r, a, _, rfl, ⟨hA, hw, p0, p1⟩, _, _, _, rfl, ?_⟩⟩; by_cases ck : kdW a.ws p = 2; rw [if_pos (by unfold kdW at ck; simpa using ck)]; exact ⟨_, _, _, cO hb1 0, _, cO hb1 1, _, cO hb1 2, _, cO hb1 3, _, cO hb1 4, _, cO hb1 5, _, cO hb1 6, _, cO hb1 7, _, cO hb1 8, _, _, _, cO hb1 9, via h91 ⟨s, r, ls, a, p, row, had, gd, td, m0, rfl, hla, by rw [hln, hrl.1], hgd, hle, hg0, hA0, hw, tab_at hw hN hT ho p0 (by omega) hhd ck, hrl, fun M' row' fr k' hR => ⟨_, rfl, fin hhd ck M' row' fr k' hR⟩⟩⟩; rw [if_neg (by unfold kdW at ck; simpa using ck)]; exact skip fun h => ck h.2)
  ·rw [if_neg (by simpa using c1)]
   refine ri hM2 hmn.symm p0 (by omega) fun ad had_ hd => ⟨_, hd _ (Mem.le_refl _), ?_⟩
   by_cases c2 : gi mk p = 2
   ·rw [if_pos (by simpa using c2)]
    have hhd : hdM mk p := .inr c2
    (refine ⟨_, _, _, cO hb1 0, _, cO hb1 1, _, cO hb1 2, _, cO hb1 3, _, cO hb1 4, _, cO hb1 5, _, cO hb1 6, _, cO hb1 7, _, cO hb1 8, _, _, _, cO hb1 9, via h90 ⟨s, r, a, _, rfl, ⟨hA, hw, p0, p1⟩, _, _, _, rfl, ?_⟩⟩; by_cases ck : kdW a.ws p = 2; rw [if_pos (by unfold kdW at ck; simpa using ck)]; exact ⟨_, _, _, cO hb1 0, _, cO hb1 1, _, cO hb1 2, _, cO hb1 3, _, cO hb1 4, _, cO hb1 5, _, cO hb1 6, _, cO hb1 7, _, cO hb1 8, _, _, _, cO hb1 9, via h91 ⟨s, r, ls, a, p, row, had, gd, td, m0, rfl, hla, by rw [hln, hrl.1], hgd, hle, hg0, hA0, hw, tab_at hw hN hT ho p0 (by omega) hhd ck, hrl, fun M' row' fr k' hR => ⟨_, rfl, fin hhd ck M' row' fr k' hR⟩⟩⟩; rw [if_neg (by unfold kdW at ck; simpa using ck)]; exact skip fun h => ck h.2)
   ·rw [if_neg (by simpa using c2)]
    exact skip fun h => by have := h.1; unfold hdM at this; omega
theorem objs_loop (t : Tab) (h89 : look t 89 = s89) {Q : Value → Mem → Prop} {s r mkS : Sl} {a : Ar} {mk : List Int} {m0 : Mem} {g : Nat} (hw : a.wf) (hP : Ptr m0 g s r a) (hA0 : ArAt m0 s r a) (hmn : mkS.n = mk.length) (hM : Rd m0 mkS.a mk) (hN : NumP a) (hT : TileOk a mk)
  (no : (¬ ∀ p : Int, 0 ≤ p → p < mk.length → hdM mk p → objP a mk p) → ∀ M, Mem.le m0 M → ret Q (.bool false) M)
  (yes : (∀ p : Int, 0 ≤ p → p < mk.length → hdM mk p → objP a mk p) → ∀ M gd, m0 gd = none → Mem.le m0 M → M gd = some (rowB (List.replicate a.ws.length false) 4) → ∃ k, L20_13 (look t) k Q g mkS.a mkS.n mkS.c (some ⟨gd, 0, none⟩) a.ws.length a.ws.length 0 M) :
  ∀ (d p : Nat), p + d = a.ws.length → (∀ q : Int, 0 ≤ q → q < p → hdM mk q → objP a mk q) → ∀ M : Mem, Mem.le m0 M → L20_7 (look t) (d + 1) Q g mkS.a mkS.n mkS.c (p : Int) M := by
 intro d
 have hNn := hw.n
 have hmk := hT.n
 have hn := hA0.n
 induction d with
 | zero =>
  intro p hp hz M hle
  have hb1 := hle _ _ hP
  rw [l20_7]
  refine ⟨M, Mem.le_refl _, ?_⟩
  rw [if_neg (by simp; omega)]
  refine ⟨_, _, _, cO hb1 0, ?_⟩
  rw [← hn]
  refine ⟨by omega, Int.le_refl _, by omega, by omega, newA_intro fun gd m2 hgd e2 hb2 hle2 => ?_⟩
  have hb2 : m2 gd = some (rowB (List.replicate a.ws.length false) 4) := by
   rw [hb2]
   unfold rowB
   rw [List.append_nil, ← zeroRow_eq]
   rfl
  exact yes (fun q q0 q1 hq => hz q q0 (by omega) hq) m2 gd (le_none hle hgd) (Mem.le_trans hle hle2) hb2
 | succ d ih =>
  intro p hp hz M hle
  have hb1 := hle _ _ hP
  have hA := hA0.le hle
  have hM2 := hM.le hle
  have p0 : (0 : Int) ≤ p := by omega
  have p1 : (p : Int) < a.ws.length := by omega
  have nx : (hdM mk p → objP a mk p) → L20_7 (look t) (d + 1) Q g mkS.a mkS.n mkS.c (IntKind.i64.wrap ((p : Int) + 1)) M := by
   intro h
   rw [wsucc (n := 2 ^ 20) (by omega) (by decide)]
   refine ih (p + 1) (by omega) (fun q q0 q1 hq => ?_) M hle
   by_cases e : q = p
   ·rw [e] at hq ⊢; exact h hq
   ·exact hz q q0 (by omega) hq
  have fin : hdM mk p → if (!pB (objP a mk p)) = true then ret Q (.bool false) M else L20_7 (look t) (d + 1) Q g mkS.a mkS.n mkS.c (IntKind.i64.wrap ((p : Int) + 1)) M := by
   intro hq
   by_cases c : objP a mk p
   ·rw [pB_yes c, if_neg (by decide)]; exact nx fun _ => c
   ·rw [pB_no c, if_pos (by decide)]; exact no (fun h => c (h p p0 (by omega) hq)) M hle
  rw [l20_7]
  refine ⟨M, Mem.le_refl _, ?_⟩
  rw [if_pos (by simp; omega)]
  refine ri hM2 hmn.symm p0 (by omega) fun ad had_ hd => ⟨_, hd _ (Mem.le_refl _), ?_⟩
  by_cases c1 : gi mk p = 1
  ·rw [if_pos (by simpa using c1)]
   exact ⟨_, _, _, cO hb1 0, _, cO hb1 1, _, cO hb1 2, _, cO hb1 3, _, cO hb1 4, _, cO hb1 5, _, cO hb1 6, _, cO hb1 7, _, cO hb1 8, _, _, _, cO hb1 9, via h89 ⟨s, r, mkS, a, mk, p, rfl, hA, hw, hmn, hM2, hT.mkOk hw hN, hT.head p0 (by omega) (.inl c1), .inl c1, _, rfl, fin (.inl c1)⟩⟩
  ·rw [if_neg (by simpa using c1)]
   refine ri hM2 hmn.symm p0 (by omega) fun ad had_ hd => ⟨_, hd _ (Mem.le_refl _), ?_⟩
   by_cases c2 : gi mk p = 2
   ·rw [if_pos (by simpa using c2)]
    exact ⟨_, _, _, cO hb1 0, _, cO hb1 1, _, cO hb1 2, _, cO hb1 3, _, cO hb1 4, _, cO hb1 5, _, cO hb1 6, _, cO hb1 7, _, cO hb1 8, _, _, _, cO hb1 9, via h89 ⟨s, r, mkS, a, mk, p, rfl, hA, hw, hmn, hM2, hT.mkOk hw hN, hT.head p0 (by omega) (.inr c2), .inr c2, _, rfl, fin (.inr c2)⟩⟩
   ·rw [if_neg (by simpa using c2)]
    exact nx fun h => by unfold hdM at h; omega
def s20 : Spec := fun args m Q => ∃ (s r : Sl) (a : Ar), args = [vA s r a] ∧ ArAt m s r a ∧ a.wf ∧ Q (.bool (pB (okP a))) m
theorem f20 (t : Tab) (h86 : look t 86 = s86) (h87 : look t 87 = s87) (h88 : look t 88 = s88) (h89 : look t 89 = s89) (h90 : look t 90 = s90) (h91 : look t 91 = s91) (h92 : look t 92 = s92) (h93 : look t 93 = s93) : Mt t s20 kp20 Tryz.f20 := by
 rintro args m Q ⟨s, r, a, rfl, hA, hw, hQ⟩
 show FA _ _ _ _ [aG s r a] m Q
 rw [e20]
 have hn := hA.n
 have hNn := hw.n
 have bad : ∀ M, Mem.le m M → ¬ okP a → ret Q (.bool false) M := fun M hM h => ret_intro hM (pB_no h ▸ hQ)
 have good : ∀ M, Mem.le m M → okP a → ret Q (.bool true) M := fun M hM h => ret_intro hM (pB_yes h ▸ hQ)
 refine newA_intro fun g m2 hg1 e2 hb1 hle2 => ?_
 have hP : Ptr m2 g s r a := hb1
 have hA2 := hA.le hle2
 refine ⟨_, _, _, cO hb1 0, _, cO hb1 1, _, cO hb1 2, _, cO hb1 3, _, cO hb1 4, _, cO hb1 5, _, cO hb1 6, _, cO hb1 7, _, cO hb1 8, _, _, _, cO hb1 9, via h86 ⟨s, r, a, rfl, hA2, hw, _, rfl, ?_⟩⟩
 by_cases hN : NumP a
 case neg => rw [numB_false hN, if_pos (by decide)]; exact bad m2 hle2 fun ⟨mk, h⟩ => hN h.N
 rw [numB_true hN, if_neg (by decide)]
 refine ⟨_, _, _, cO hb1 0, ?_⟩
 rw [← hn]
 refine ⟨by omega, Int.le_refl _, by omega, by omega, newA_intro fun gl m3 hgl e3 hb3 hle3 => ?_⟩
 have hb3 : m3 gl = some (rowI (zeroA a) 3) := by
  rw [hb3]
  unfold rowI zeroA
  rw [List.append_nil, ← zeroRow_eq]
  rfl
 have hb1 := hle3 _ _ hb1
 refine ⟨_, _, _, cO hb1 0, _, cO hb1 1, _, cO hb1 2, _, cO hb1 3, _, cO hb1 4, _, cO hb1 5, _, cO hb1 6, _, cO hb1 7, _, cO hb1 8, _, _, _, cO hb1 9, via h87 ⟨s, r, ⟨some ⟨gl, 0, none⟩, a.ws.length, a.ws.length⟩, a, gl, _, m2, rfl, rfl, rfl, hb3, hle3, hgl, hA2, hw, hN, fun M mk hle hM he => ⟨_, rfl, ?_⟩⟩⟩
 have LM := Mem.le_trans hle2 hle
 cases ht : tileO a with
 | none =>
  rw [if_pos (by decide)]
  exact bad M LM fun ⟨mk', h⟩ => by have := h.t; rw [ht] at this; cases this
 | some mk2 =>
 have e := he mk2 ht
 subst e
 rw [if_neg (by simp)]
 have hT := tile_ok hw hN ht
 have hPM : Ptr M g s r a := hle _ _ hP
 have hAM := hA.le LM
 have hb1 : M g = _ := hPM
 have hRd : Rd M (some ⟨gl, 0, none⟩) mk := Rd.of_block (spare := []) hM (by simp)
 have hun : ∀ mk', OkM a mk' → mk' = mk := fun mk' h => by have := h.t; rw [ht] at this; cases this; rfl
 refine ⟨_, _, _, cO hb1 0, _, cO hb1 1, _, cO hb1 2, _, cO hb1 3, _, cO hb1 4, _, cO hb1 5, _, cO hb1 6, _, cO hb1 7, _, cO hb1 8, _, _, _, cO hb1 9, via h88 ⟨s, r, ⟨some ⟨gl, 0, none⟩, a.ws.length, a.ws.length⟩, a, mk, rfl, hAM, hw, hT.n.symm, hRd, hT.n, _, rfl, ?_⟩⟩
 by_cases hS : serR a mk
 case neg => rw [pB_no hS, if_pos (by decide)]; exact bad M LM fun ⟨mk', h⟩ => hS (hun mk' h ▸ h.s)
 rw [pB_yes hS, if_neg (by decide)]
 refine ⟨a.ws.length + 1, objs_loop t h89 (mkS := ⟨some ⟨gl, 0, none⟩, a.ws.length, a.ws.length⟩) (m0 := M) hw hPM hAM hT.n.symm hRd hN hT (fun h M' hM' => bad M' (Mem.le_trans LM hM') fun ⟨mk', h'⟩ => h (hun mk' h' ▸ h'.o)) (fun ho M' gd hgd hM' hb' => ?_) a.ws.length 0 (by omega) (fun q q0 q1 => by omega) M (Mem.le_refl _)⟩
 refine ⟨a.ws.length + 1, tabs_loop t h90 h91 (mkS := ⟨some ⟨gl, 0, none⟩, a.ws.length, a.ws.length⟩) (ls := ⟨some ⟨gd, 0, none⟩, a.ws.length, a.ws.length⟩) (m0 := M) hw hPM hAM hT.n.symm hRd hN hT ho rfl rfl hgd (fun h M2 hM2 => bad M2 (Mem.le_trans LM hM2) fun ⟨mk', h'⟩ => h (hun mk' h' ▸ h'.b)) (fun hb M2 hM2 => ?_) a.ws.length 0 (by omega) [] _ M' Iff.rfl hM' hb' (rled0 _)⟩
 exact ⟨a.rs.length + 1, roots_loop t h92 h93 (mkS := ⟨some ⟨gl, 0, none⟩, a.ws.length, a.ws.length⟩) (m := M) hw hPM hAM hT.n.symm hRd (hT.mkOk hw hN) (fun h M3 hM3 => bad M3 (Mem.le_trans LM hM3) fun ⟨mk', h'⟩ => h (hun mk' h' ▸ h'.r)) (fun h M3 hM3 => good M3 (Mem.le_trans LM hM3) ⟨mk, hN, ht, hS, ho, hb, h⟩) a.rs.length 0 (by omega) (fun j _ hj => by omega) M2 hM2⟩
theorem map_get {M : Mem} {gm : Nat} {had : List Int} {x : Int} {K : Bool → Prop} (h : HasS M gm had) (hK : K (decide (x ∈ had))) :
  ∃ (mr : Nat) (es : Array MapEntry) (cl : Nat) (ML : List (Int × Value)), (some gm : Option Nat) = some mr ∧ M mr = some (.map es cl) ∧ MapIs .i64 es ML ∧ (∃ b : Bool, Option.getD (getM ML x) (.bool false) = .bool b ∧ K b) := by
 obtain ⟨es, cl, L, h1, h2, h3⟩ := h
 exact ⟨gm, es, cl, L, rfl, h1, h2, _, h3 x, hK⟩
theorem hasS_nil {M : Mem} {gm : Nat} (h : M gm = some (.map #[] 0)) : HasS M gm [] := ⟨#[], 0, [], h, rfl, fun i => rfl⟩
def rowM (mk : List Int) (tl : TypeId) : Obj := .cells (flat Enc.e (u8s mk) ++ []).toArray tl (0, 0)
theorem u8s_set (mk : List Int) (p k : Int) : (u8s mk).set p.toNat ⟨k⟩ = u8s (setI mk p k) := by unfold u8s setI; rw [List.map_set]
theorem u8s_len (mk : List Int) : (u8s mk).length = mk.length := by unfold u8s; rw [List.length_map]
theorem set_markM {m : Mem} {gl : Nat} {tl : TypeId} {mk : List Int} {p k : Int} {n : Nat} {K : Mem → Prop} (h : m gl = some (rowM mk tl)) (p0 : 0 ≤ p) (p1 : p < mk.length) (hn : mk.length = n) (hK : ∀ M : Mem, M gl = some (rowM (setI mk p k) tl) → (∀ b, b ≠ gl → M b = m b) → K M) :
  optA (some (⟨gl, 0, none⟩ : Addr)) fun (ad : Addr) => 0 ≤ p ∧ p < (n : Int) ∧ stoA m (ad.add (p.toNat * 1)) [.int .u8 k] K :=
 po ⟨p0, by omega, sto_elem (x := (⟨k⟩ : U8)) (i := p.toNat) h (by rw [add_eq rfl, Nat.zero_add]; rfl) (by rw [u8s_len]; omega) (hK _ (by rw [upd_same, u8s_set]; rfl) fun b hb => upd_ne hb)⟩
def HadR (a : Ar) (mk had : List Int) : Prop := ∀ x, x ∈ had ↔ ∃ q : Int, 0 ≤ q ∧ q < mk.length ∧ hdM mk q ∧ serW a.ws q = x
theorem HadR.put {a : Ar} {mk had : List Int} (h : HadR a mk had) {p k : Int} (p0 : 0 ≤ p) (p1 : p < mk.length) (hz : gi mk p = 0) (hk : k = 1 ∨ k = 2) : HadR a (setI mk p k) (serW a.ws p :: had) := by
 intro x
 rw [List.mem_cons, h x, setI_len]
 constructor
 ·rintro (rfl | ⟨q, q0, q1, q2, q3⟩)
  ·exact ⟨p, p0, p1, by unfold hdM; rw [gi_set p0 p1 p0, if_pos rfl]; exact hk, rfl⟩
  ·refine ⟨q, q0, q1, ?_, q3⟩
   unfold hdM at q2 ⊢
   rw [gi_set p0 p1 q0, if_neg (by rintro rfl; omega)]
   exact q2
 ·rintro ⟨q, q0, q1, q2, q3⟩
  by_cases e : q = p
  ·left; rw [← q3, e]
  ·right
   refine ⟨q, q0, q1, ?_, q3⟩
   unfold hdM at q2 ⊢
   rw [gi_set p0 p1 q0, if_neg e] at q2
   exact q2
theorem hdM_3 {mk : List Int} {p q : Int} (p0 : 0 ≤ p) (p1 : p < mk.length) (hz : gi mk p = 0) (q0 : 0 ≤ q) : hdM (setI mk p 3) q ↔ hdM mk q := by
 unfold hdM
 rw [gi_set p0 p1 q0]
 by_cases e : q = p
 ·rw [if_pos e, e]; omega
 ·rw [if_neg e]
theorem HadR.gone {a : Ar} {mk had : List Int} (h : HadR a mk had) {p : Int} (p0 : 0 ≤ p) (p1 : p < mk.length) (hz : gi mk p = 0) : HadR a (setI mk p 3) had := by
 intro x
 rw [h x, setI_len]
 constructor
 ·rintro ⟨q, q0, q1, q2, q3⟩; exact ⟨q, q0, q1, (hdM_3 p0 p1 hz q0).2 q2, q3⟩
 ·rintro ⟨q, q0, q1, q2, q3⟩; exact ⟨q, q0, q1, (hdM_3 p0 p1 hz q0).1 q2, q3⟩
theorem serR_gone {a : Ar} {mk : List Int} (h : serR a mk) {p : Int} (p0 : 0 ≤ p) (p1 : p < mk.length) (hz : gi mk p = 0) : serR a (setI mk p 3) := by
 intro x y x0 xy y1 hx hy hs
 rw [setI_len] at y1
 exact h x y x0 xy y1 ((hdM_3 p0 p1 hz x0).1 hx) ((hdM_3 p0 p1 hz (by omega)).1 hy) hs
theorem serR_put {a : Ar} {mk had : List Int} (h : serR a mk) (hH : HadR a mk had) {p k : Int} (p0 : 0 ≤ p) (p1 : p < mk.length) (hz : gi mk p = 0) (hn : serW a.ws p = 0 ∨ serW a.ws p ∉ had) : serR a (setI mk p k) := by
 intro x y x0 xy y1 hx hy hs e
 rw [setI_len] at y1
 unfold hdM at hx hy
 rw [gi_set p0 p1 x0] at hx
 rw [gi_set p0 p1 (by omega)] at hy
 by_cases ex : x = p
 ·rw [if_neg (by omega)] at hy
  subst ex
  exact hn.elim hs fun hn => hn ((hH _).2 ⟨y, by omega, y1, hy, e.symm⟩)
 ·rw [if_neg ex] at hx
  by_cases ey : y = p
  ·subst ey
   exact hn.elim (fun h => hs (e.trans h)) fun hn => hn ((hH _).2 ⟨x, x0, by omega, hx, e⟩)
  ·rw [if_neg ey] at hy
   exact h x y x0 xy y1 hx hy hs e
theorem serR_dup {a : Ar} {mk mk2 had : List Int} (hH : HadR a mk had) {p k to_ p' : Int} {s s' : Int} (hA : After a k p' to_ (setI mk p k) mk2 s s') (hp : p < p') (hpt : p < to_) (p0 : 0 ≤ p) (p1 : p < mk.length) (hz : ∀ q, p ≤ q → q < to_ → gi mk q = 0) (hk : k = 1 ∨ k = 2) (h0 : serW a.ws p ≠ 0) (hd : serW a.ws p ∈ had) : ¬ serR a mk2 := by
 intro h
 obtain ⟨q, q0, q1, q2, q3⟩ := (hH _).1 hd
 have hq : q < p ∨ to_ ≤ q := by
  by_cases c : q < p ∨ to_ ≤ q
  ·exact c
  ·have := hz q (by omega) (by omega)
   unfold hdM at q2
   omega
 have e1 := hA.o p p0 (.inl hp)
 rw [gi_set p0 p1 p0, if_pos rfl] at e1
 have e2 := hA.o q q0 (by omega)
 rw [gi_set p0 p1 q0, if_neg (by omega)] at e2
 have hn := hA.n
 rw [setI_len] at hn
 have d1 : hdM mk2 p := by unfold hdM; rw [e1]; exact hk
 have d2 : hdM mk2 q := by unfold hdM at q2 ⊢; rw [e2]; exact q2
 by_cases c : q < p
 ·exact h q p q0 c (by omega) d2 d1 (by rw [q3]; exact h0) q3
 ·exact h p q p0 (by omega) (by omega) d1 d2 h0 q3.symm
structure StH (m0 M : Mem) (gl gm : Nat) (tl : TypeId) (mk0 mk had : List Int) (frm to_ : Int) : Prop where
 le : Mem.le m0 M
 l : M gl = some (rowM mk tl)
 n : mk.length = mk0.length
 o : ∀ q, 0 ≤ q → q < frm ∨ to_ ≤ q → gi mk q = gi mk0 q
 h : HasS M gm had
theorem heads_loop (t : Tab) (h181 : look t 181 = s181) (h182 : look t 182 = s182) (h102 : look t 102 = s102) {Q : Value → Mem → Prop} {s r : Sl} {a : Ar} {gs g gl gm gc lc : Nat} {mb : Option Nat} {tl : TypeId} {m0 : Mem} {mk0 : List Int} {k frm to_ : Int} (hw : a.wf) (hk : k = 1 ∨ k = 2) (hP : Ptr m0 g s r a) (hA : ArAt m0 s r a)
  (hS : m0 gs = some (.cells #[.pointer (some ⟨g, 0, none⟩), .slice (some ⟨gl, 0, none⟩) a.ws.length lc, .map (some gm), .map mb] 101 (0, 0))) (hg : m0 gl = none) (hgm : m0 gm = none) (hgc : m0 gc = none) (hlm : gl ≠ gm) (hlc : gl ≠ gc) (hmc : gm ≠ gc)
  (hto : to_ ≤ a.ws.length) (hzs : a.ser ≤ 1000000000) (hn0 : mk0.length = a.ws.length)
  {R : Option (List Int × Int)}
  (no : (¬ ∃ mk2 s2, R = some (mk2, s2) ∧ serR a mk2 ∧ (k = 2 → s2 = a.cop)) → ∀ M mk had, StH m0 M gl gm tl mk0 mk had frm to_ → ret Q (.bool false) M)
  (yes : ∀ mk2 s2, R = some (mk2, s2) → serR a mk2 → (k = 2 → s2 = a.cop) → ∀ M had, StH m0 M gl gm tl mk0 mk2 had frm to_ → HadR a mk2 had → ret Q (.bool true) M) :
  ∀ (d : Nat) (p : Int) (mk had led : List Int) (sum : Int) (M : Mem), to_ - p ≤ d → 0 ≤ p → frm ≤ p → p ≤ to_ → 0 ≤ sum → sum ≤ p → wk a to_ k (d + 1) p mk led sum = R → StH m0 M gl gm tl mk0 mk had frm to_ → HasS M gc led → HadR a mk had → serR a mk → (∀ q, p ≤ q → q < to_ → gi mk q = 0) →
   L97_4 (look t) (d + 1) Q gs to_ k sum (some gc) p M := by
 have hn := hA.n
 have hNn := hw.n
 intro d
 have endc : ∀ (d : Nat) (mk had : List Int) (sum : Int) (M : Mem), some (mk, sum) = R → StH m0 M gl gm tl mk0 mk had frm to_ → HadR a mk had → serR a mk → L97_4 (look t) (d + 1) Q gs to_ k sum (some gc) to_ M := by
  intro d mk had sum M hR hT hH hs
  have hP := hT.le _ _ hP
  rw [l97_4]
  refine ⟨M, Mem.le_refl _, ?_⟩
  rw [if_neg (by simp)]
  rcases hk with k1 | k2
  ·rw [if_pos (by rw [k1]; decide)]
   exact yes mk sum hR.symm hs (fun h => by omega) M had hT hH
  ·rw [if_neg (by rw [k2]; decide)]
   refine ⟨_, cO (hT.le _ _ hS) 0, po ⟨_, cO hP 7, ?_⟩⟩
   by_cases c : sum = a.cop
   ·rw [show (sum == a.cop) = true from by simpa using c]
    exact yes mk sum hR.symm hs (fun _ => c) M had hT hH
   ·rw [show (sum == a.cop) = false from by simpa using c]
    refine no ?_ M mk had hT
    rintro ⟨mk2, s2, e, _, e2⟩
    rw [← hR] at e
    cases e
    exact c (e2 k2)
 induction d with
 | zero =>
  intro p mk had led sum M hd p0 pf p1 s0 s1 hR hT hC hH hs hz
  have hp : p = to_ := by omega
  unfold wk at hR
  rw [if_pos hp] at hR
  rw [hp]
  exact endc 0 mk had sum M hR hT hH hs
 | succ d ih =>
  intro p mk had led sum M hd p0 pf p1 s0 s1 hR hT hC hH hs hz
  by_cases hp : p = to_
  ·unfold wk at hR
   rw [if_pos hp] at hR
   rw [hp]
   exact endc (d + 1) mk had sum M hR hT hH hs
  unfold wk at hR
  rw [if_neg hp] at hR
  have hle := hT.le
  have hP1 : Ptr M g s r a := hle _ _ hP
  have hA1 := hA.le hle
  have hS1 := hle _ _ hS
  have hmk : mk.length = a.ws.length := hT.n.trans hn0
  have pn : p < mk.length := by omega
  have zp := hz p (Int.le_refl _) (by omega)
  have bp := look_b hw p
  have bad : R = none → ∀ M' mk' had', StH m0 M' gl gm tl mk0 mk' had' frm to_ → ret Q (.bool false) M' := fun h => no (by rintro ⟨mk2, s2, e, _⟩; rw [h] at e; cases e)
  have er : (readH (gw a.ws p)).2 = okW (gw a.ws p) := by unfold readH; split <;> simp_all
  have setO : ∀ x, ∀ q, 0 ≤ q → q < frm ∨ to_ ≤ q → gi (setI mk p x) q = gi mk0 q := fun x q q0 hq => by rw [gi_set p0 pn q0, if_neg (by omega)]; exact hT.o q q0 hq
  rw [l97_4]
  refine ⟨M, Mem.le_refl _, ?_⟩
  rw [if_pos (by simp; omega)]
  refine ⟨_, cO hS1 0, po ⟨_, _, _, cO hP1 0, wd hA1.w hn p0 (by omega) fun ad had_ hdd => ⟨_, hdd _ (Mem.le_refl _), via h181 ⟨_, rfl, gw_in hw.w p, _, _, rfl, ?_⟩⟩⟩⟩
  have fb := fwd_b (gw a.ws p)
  have ft : (fwd (gw a.ws p)).1 = toW a.ws p := rfl
  rw [ft] at fb ⊢
  cases cf : (fwd (gw a.ws p)).2 with
  | true =>
   have cok : ¬ okW (gw a.ws p) = true := fun h => by rw [ok_fwd (gw_in hw.w p) h] at cf; cases cf
   rw [if_pos rfl]
   rw [if_neg cok] at hR
   by_cases k2 : k = 2
   case neg =>
    rw [if_neg (fun h => k2 h.1)] at hR
    rw [if_neg (by simpa using k2)]
    refine ⟨_, cO hS1 0, po ⟨_, _, _, cO hP1 0, wd hA1.w hn p0 (by omega) fun ad had_ hdd => ⟨_, hdd _ (Mem.le_refl _), via h182 ⟨_, rfl, gw_in hw.w p, _, _, _, _, rfl, newA_intro fun g2 m2 hg2 e2 hb2 hle2 => sto (c := #[.int .i64 0, .int .i64 0, .int .i64 0]) (t := 33) hb2 rfl (by simp) fun m3 e3 h3 hne3 => ?_⟩⟩⟩⟩
    have l3 : Mem.le M m3 := le_other hle2 hg2 hne3
    rw [er]
    rw [Bool.not_eq_true] at cok
    rw [cok]
    refine ⟨Mem.le m3, Mem.le_refl _, ?_⟩
    rw [if_pos (by decide)]
    exact bad hR.symm m3 mk had ⟨Mem.le_trans hle l3, l3 _ _ hT.l, hT.n, hT.o, hT.h.at fun o h => l3 _ _ h⟩
   rw [if_pos (by simpa using k2)]
   refine ⟨_, _, _, cO hS1 1, ?_⟩
   by_cases c3 : toW a.ws p < a.ws.length
   case neg =>
    rw [if_neg (fun h => c3 h.2.2.1)] at hR
    rw [if_pos (by simp; omega)]
    exact bad hR.symm _ _ _ hT
   rw [if_neg (by simp; omega)]
   refine ⟨_, _, _, cO hS1 1, ru (Rd.of_block (spare := []) hT.l (by rfl)) hmk fb.1 c3 fun ad had_ hdd => ⟨_, hdd _ (Mem.le_refl _), ?_⟩⟩
   by_cases c4 : gi mk (toW a.ws p) = 1
   case neg =>
    rw [if_neg (fun h => c4 h.2.2.2.1)] at hR
    rw [if_pos (by simpa using c4)]
    exact bad hR.symm _ _ _ hT
   rw [if_neg (by simpa using c4)]
   refine map_get hC ?_
   by_cases c5 : toW a.ws p ∈ led
   ·rw [decide_eq_true c5, if_pos rfl]
    rw [if_neg (fun h => h.2.2.2.2.1 c5)] at hR
    exact bad hR.symm _ _ _ hT
   rw [decide_eq_false c5, if_neg (by decide)]
   obtain ⟨es, cl, L, q1, q2, q3⟩ := hC
   refine ⟨gc, es, cl, L, rfl, q1, q2, fun es' cl' hmi => ?_⟩
   have hC3 : HasS (M.upd gc (.map es' cl')) gc (toW a.ws p :: led) := ⟨es', cl', _, upd_same _ _ _, hmi, hasS_put q3 _⟩
   have e3 : ∀ b, b ≠ gc → (M.upd gc (.map es' cl')) b = M b := fun b hb => upd_ne hb
   generalize M.upd gc (.map es' cl') = M3 at hC3 e3 ⊢
   have L3 : Mem.le m0 M3 := le_put hle hgc e3
   have hS3 := L3 _ _ hS
   refine ⟨_, _, _, cO hS3 1, set_markM (k := 3) ((e3 gl hlc).trans hT.l) p0 pn hmk fun M4 l4 e4 => ?_⟩
   have L4 : Mem.le m0 M4 := le_put L3 hg e4
   have hH4 : HasS M4 gm had := hT.h.at fun o h => (e4 gm hlm.symm).trans ((e3 gm hmc).trans h)
   have hC4 : HasS M4 gc (toW a.ws p :: led) := hC3.at fun o h => (e4 gc hlc.symm).trans h
   have T4 : StH m0 M4 gl gm tl mk0 (setI mk p 3) had frm to_ := ⟨L4, l4, by rw [setI_len]; exact hT.n, setO 3, hH4⟩
   refine ⟨_, cO (L4 _ _ hS) 0, via h102 ⟨g, s, r, a, _, rfl, ⟨L4 _ _ hP, hA.le L4, hw, fb.1, c3⟩, _, _, _, rfl, ?_⟩⟩
   have ez : (lookW a.ws (toW a.ws p)).2.1 = szW a.ws (toW a.ws p) := rfl
   have bq := look_b hw (toW a.ws p)
   rw [ez, w64 (x := p + szW a.ws (toW a.ws p)) (by omega) (by omega), w64 (x := p + szW a.ws (toW a.ws p) + 1) (by omega) (by omega), w64 (x := sum + szW a.ws (toW a.ws p)) (by omega) (by omega), w64 (x := sum + szW a.ws (toW a.ws p) + 1) (by omega) (by omega)]
   by_cases c6 : p + szW a.ws (toW a.ws p) + 1 ≤ to_
   case neg =>
    rw [if_neg (fun h => c6 h.2.2.2.2.2)] at hR
    rw [if_pos (by simp; omega)]
    exact bad hR.symm _ _ _ T4
   rw [if_neg (by simp; omega)]
   rw [if_pos ⟨k2, cf, c3, c4, c5, c6⟩] at hR
   exact ih _ _ _ _ _ M4 (by omega) (by omega) (by omega) c6 (by omega) (by omega) hR T4 hC4 (hH.gone p0 pn zp) (serR_gone hs p0 pn zp) fun q q0 q1 => by rw [gi_set p0 pn (by omega), if_neg (by omega)]; exact hz q (by omega) q1
  | false =>
   rw [if_neg (by decide)]
   refine ⟨_, cO hS1 0, po ⟨_, _, _, cO hP1 0, wd hA1.w hn p0 (by omega) fun ad had_ hdd => ⟨_, hdd _ (Mem.le_refl _), via h182 ⟨_, rfl, gw_in hw.w p, _, _, _, _, rfl, newA_intro fun g2 m2 hg2 e2 hb2 hle2 => sto (c := #[.int .i64 0, .int .i64 0, .int .i64 0]) (t := 33) hb2 rfl (by simp) fun m3 e3 h3 hne3 => ?_⟩⟩⟩⟩
   have h3 : m3 g2 = some (.cells #[.int .i64 (lookW a.ws p).1, .int .i64 (szW a.ws p), .int .i64 (serW a.ws p)] 33 (0, 0)) := h3
   have l3 : Mem.le M m3 := le_other hle2 hg2 hne3
   have L3 := Mem.le_trans hle l3
   have hS3 := l3 _ _ hS1
   have hP3 := l3 _ _ hP1
   have T3 : StH m0 m3 gl gm tl mk0 mk had frm to_ := ⟨L3, l3 _ _ hT.l, hT.n, hT.o, hT.h.at fun o h => l3 _ _ h⟩
   have hC3 : HasS m3 gc led := hC.at fun o h => l3 _ _ h
   have hg2l : g2 ≠ gl := fun e => by rw [e] at hg2; rw [hT.l] at hg2; cases hg2
   have hg2m : g2 ≠ gm := fun e => by obtain ⟨es, cl, L, q1, _⟩ := hT.h; rw [e, q1] at hg2; cases hg2
   rw [er]
   refine ⟨Mem.le m3, Mem.le_refl _, ?_⟩
   by_cases c1 : okW (gw a.ws p) = true
   case neg =>
    rw [if_neg c1, if_neg (fun h => by have := h.2.1; rw [cf] at this; cases this)] at hR
    rw [Bool.not_eq_true] at c1
    rw [c1, if_pos (by decide)]
    exact bad hR.symm _ _ _ T3
   rw [if_pos c1] at hR
   rw [c1, if_neg (by decide)]
   refine ⟨_, held (cO h3 2), _, held (cO hS3 0), po ⟨_, held (cO hP3 8), ?_⟩⟩
   by_cases c2 : serW a.ws p < a.ser
   case neg =>
    rw [if_neg (fun h => c2 h.1)] at hR
    rw [if_pos (by simp; omega)]
    exact bad hR.symm _ _ _ T3
   rw [if_neg (by simp; omega)]
   have go : (serW a.ws p = 0 ∨ serW a.ws p ∉ had) → ∃ S : Mem → Prop, S m3 ∧ (∃ r0 : Option Nat, (∀ q : Mem, S q → q.cell? ⟨gs, 2, none⟩ = some (.map r0)) ∧ (∃ y : Int, (∀ q : Mem, S q → q.cell? ⟨g2, 2, none⟩ = some (.int .i64 y)) ∧
     (∃ (mr : Nat) (es : Array MapEntry) (cl : Nat) (ML : List (Int × Value)), r0 = some mr ∧ m3 mr = some (.map es cl) ∧ MapIs .i64 es ML ∧ ∀ (es' : Array MapEntry) (cl' : Nat), MapIs .i64 es' (putM ML y (.bool true)) →
      (∃ (ra : Option Addr) (rn rc : Nat), Mem.cell? (Mem.upd m3 mr (.map es' cl')) ⟨gs, 1, none⟩ = some (.slice ra rn rc) ∧
       optA ra fun ad => 0 ≤ p ∧ p < (rn : Int) ∧ stoA (Mem.upd m3 mr (.map es' cl')) (ad.add (p.toNat * 1)) [.int .u8 k] fun m5 => ∃ z : Int, m5.cell? ⟨g2, 1, none⟩ = some (.int .i64 z) ∧
        if (decide (IntKind.i64.wrap (IntKind.i64.wrap (p + z) + 1) > to_)) = true then ret Q (.bool false) m5 else L97_4 (look t) (d + 1) Q gs to_ k sum (some gc) (IntKind.i64.wrap (IntKind.i64.wrap (p + z) + 1)) m5)))) := by
    intro hnd
    obtain ⟨es, cl, L, q1, q2, q3⟩ := T3.h
    refine ⟨Mem.le m3, Mem.le_refl _, _, held (cO hS3 2), _, held (cO h3 2), gm, es, cl, L, rfl, q1, q2, fun es' cl' hmi => ?_⟩
    have hH4 : HasS (m3.upd gm (.map es' cl')) gm (serW a.ws p :: had) := ⟨es', cl', _, upd_same _ _ _, hmi, hasS_put q3 _⟩
    have e4 : ∀ b, b ≠ gm → (m3.upd gm (.map es' cl')) b = m3 b := fun b hb => upd_ne hb
    generalize m3.upd gm (.map es' cl') = M4 at hH4 e4 ⊢
    have L4 : Mem.le m0 M4 := le_put L3 hgm e4
    refine ⟨_, _, _, cO (L4 _ _ hS) 1, set_markM (k := k) ((e4 gl hlm).trans T3.l) p0 pn hmk fun M5 l5 e5 => ?_⟩
    have L5 : Mem.le m0 M5 := le_put L4 hg e5
    have T5 : StH m0 M5 gl gm tl mk0 (setI mk p k) (serW a.ws p :: had) frm to_ := ⟨L5, l5, by rw [setI_len]; exact hT.n, setO k, hH4.at fun o h => (e5 gm hlm.symm).trans h⟩
    have hC5 : HasS M5 gc led := hC3.at fun o h => (e5 gc hlc.symm).trans ((e4 gc hmc.symm).trans h)
    refine ⟨_, cO ((e5 g2 hg2l).trans ((e4 g2 hg2m).trans h3)) 1, ?_⟩
    rw [w64 (x := p + szW a.ws p) (by omega) (by omega), w64 (x := p + szW a.ws p + 1) (by omega) (by omega)]
    by_cases c6 : p + szW a.ws p + 1 ≤ to_
    case neg =>
     rw [if_neg (fun h => c6 h.2)] at hR
     rw [if_pos (by simp; omega)]
     exact bad hR.symm _ _ _ T5
    rw [if_neg (by simp; omega)]
    rw [if_pos ⟨c2, c6⟩] at hR
    exact ih _ _ _ _ _ M5 (by omega) (by omega) (by omega) c6 s0 (by omega) hR T5 hC5 (hH.put p0 pn zp hk) (serR_put hs hH p0 pn zp hnd) fun q q0 q1 => by rw [gi_set p0 pn (by omega), if_neg (by omega)]; exact hz q (by omega) q1
   refine ⟨_, held (cO h3 2), ?_⟩
   by_cases c7 : serW a.ws p > 0
   ·rw [if_pos (by simpa using c7)]
    refine ⟨_, held (cO hS3 2), _, held (cO h3 2), map_get T3.h ⟨Mem.le_refl _, ?_⟩⟩
    by_cases c8 : serW a.ws p ∈ had
    ·rw [decide_eq_true c8, if_pos rfl]
     refine no ?_ _ _ _ T3
     rintro ⟨mk2, s2, e, e2, _⟩
     by_cases c6 : p + szW a.ws p + 1 ≤ to_
     ·rw [if_pos ⟨c2, c6⟩, e] at hR
      exact serR_dup hH (wk_ok hw _ _ _ _ _ _ _ (by omega) c6 (by rw [setI_len]; omega) hR) (by omega) (by omega) p0 pn hz hk (by omega) c8 e2
     ·rw [if_neg (fun h => c6 h.2), e] at hR
      cases hR
    ·rw [decide_eq_false c8, if_neg (by decide)]
     exact go (.inr c8)
   ·rw [if_neg (by simpa using c7)]
    exact go (.inl (by omega))
def s97 : Spec := fun args m Q => ∃ (gs g gl gm lc : Nat) (mb : Option Nat) (s r : Sl) (a : Ar) (tl : TypeId) (mk had : List Int) (frm to_ k : Int) (m0 : Mem), args = [.pointer (some ⟨gs, 0, none⟩), .int .i64 frm, .int .i64 to_, .int .u8 k] ∧ (k = 1 ∨ k = 2) ∧ a.wf ∧ Ptr m0 g s r a ∧ ArAt m0 s r a ∧
 m0 gs = some (.cells #[.pointer (some ⟨g, 0, none⟩), .slice (some ⟨gl, 0, none⟩) a.ws.length lc, .map (some gm), .map mb] 101 (0, 0)) ∧ m0 gl = none ∧ m0 gm = none ∧ gl ≠ gm ∧ 0 ≤ frm ∧ frm ≤ to_ ∧ to_ ≤ a.ws.length ∧ a.ser ≤ 1000000000 ∧ mk.length = a.ws.length ∧
 Mem.le m0 m ∧ m gl = some (rowM mk tl) ∧ HasS m gm had ∧ HadR a mk had ∧ serR a mk ∧ (∀ q, frm ≤ q → q < to_ → gi mk q = 0) ∧
 (∀ M mk' had', StH m0 M gl gm tl mk mk' had' frm to_ → (¬ ∃ mk2 s2, wk a to_ k (a.ws.length + 1) frm mk [] 0 = some (mk2, s2) ∧ serR a mk2 ∧ (k = 2 → s2 = a.cop)) → Q (.bool false) M) ∧
 (∀ M mk2 s2 had', StH m0 M gl gm tl mk mk2 had' frm to_ → wk a to_ k (a.ws.length + 1) frm mk [] 0 = some (mk2, s2) → serR a mk2 → HadR a mk2 had' → (k = 2 → s2 = a.cop) → Q (.bool true) M)
theorem f97 (t : Tab) (h181 : look t 181 = s181) (h182 : look t 182 = s182) (h102 : look t 102 = s102) : Mt t s97 kp97 Tryz.f97 := by
 rintro args m Q ⟨gs, g, gl, gm, lc, mb, s, r, a, tl, mk, had, frm, to_, k, m0, rfl, hk, hw, hP, hA, hS, hg, hgm, hlm, f0, f1, f2, hzs, hn0, hle, hgl, hH, hHR, hsR, hz, hno, hyes⟩
 rw [e97]
 refine newA_intro fun gc m2 hgc e2 hb2 hle2 => ⟨a.ws.length + 1, ?_⟩
 have L2 := Mem.le_trans hle hle2
 have hlc : gl ≠ gc := fun e => by rw [← e, hgl] at hgc; cases hgc
 have hmc : gm ≠ gc := fun e => by obtain ⟨es, cl, L, q1, _⟩ := hH; rw [← e, q1] at hgc; cases hgc
 exact heads_loop t h181 h182 h102 hw hk hP hA hS hg hgm (le_none hle hgc) hlm hlc hmc f2 hzs hn0 (fun h M mk' had' hT => ret_intro (Mem.le_refl _) (hno M mk' had' hT h)) (fun mk2 s2 h1 h2 h3 M had' hT hHR' => ret_intro (Mem.le_refl _) (hyes M mk2 s2 had' hT h1 h2 hHR' h3))
  a.ws.length frm mk had [] 0 m2 (by omega) f0 (Int.le_refl _) f1 (Int.le_refl _) f0 rfl ⟨L2, hle2 _ _ hgl, rfl, fun _ _ _ => rfl, hH.at fun o h => hle2 _ _ h⟩ (hasS_nil hb2) hHR hsR hz
def s186 : Spec := fun args m Q => ∃ (gs g g1 : Nat) (s r is : Sl) (ms mb : Option Nat) (a : Ar) (mk : List Int) (v : Vl) (ty : TypeId), args = [vVl v, .pointer (some ⟨g1, 0, none⟩)] ∧ m g1 = some (.cells #[.pointer (some ⟨gs, 0, none⟩)] ty (0, 0)) ∧ Svy m gs g s r is ms mb a mk ∧ a.sm ∧ a.wf ∧ MkOk a mk ∧ Q (.bool (!pB (rootP a mk v))) m
theorem f186 (t : Tab) (h187 : look t 187 = s187) (h188 : look t 188 = s188) : Mt t s186 kp186 Tryz.f186 := by
 rintro args m Q ⟨gs, g, g1, s, r, is, ms, mb, a, mk, v, ty, rfl, hc, hS, hsm, hw, hO, hQ⟩
 show FA _ _ _ _ [.agg #[.int .i64 v.1, .int .i64 v.2], .pointer (some ⟨g1, 0, none⟩)] m Q
 rw [e186]
 refine newA_intro fun g2 m2 hg2 e2 hb2 hle2 => ⟨_, cO hb2 0, _, cO hb2 1, via h187 ⟨v, rfl, _, rfl, ?_⟩⟩
 have bad : ¬ rootP a mk v → ret Q (.bool true) m2 := fun h => by rw [pB_no h] at hQ; exact ret_intro hle2 hQ
 cases c1 : valOkB v with
 | false => rw [if_pos (by decide)]; exact bad fun h => by rw [h.1] at c1; cases c1
 | true =>
 rw [if_neg (by decide)]
 refine ⟨_, cO hb2 0, ?_⟩
 by_cases c2 : v.1 = 8
 ·rw [if_pos (by simpa using c2)]; exact bad fun h => h.2.1 c2
 rw [if_neg (by simpa using c2)]
 refine ⟨_, cO (hle2 _ _ hc) 0, _, cO hb2 0, _, cO hb2 1, via h188 ⟨gs, g, s, r, is, ms, mb, a, mk, v, -1, rfl, hS.le hle2, hsm, hw, hO, c1, .inl (by decide), _, rfl, ?_⟩⟩
 have ef : frmA a mk (-1) = 1 := by unfold frmA; exact if_pos (by decide)
 rw [ef]
 cases c3 : leadsB a mk v 1 with
 | false => exact bad fun h => by rw [h.2.2] at c3; cases c3
 | true =>
  rw [pB_yes ⟨c1, c2, c3⟩] at hQ
  exact ret_intro hle2 hQ
def s225 : Spec := fun args m Q => ∃ (gs g g1 : Nat) (s r is : Sl) (ms mb : Option Nat) (a : Ar) (mk : List Int) (ty : TypeId), args = [vs r, .func (.func 186) #[] #[.pointer (some ⟨g1, 0, none⟩)]] ∧ m g1 = some (.cells #[.pointer (some ⟨gs, 0, none⟩)] ty (0, 0)) ∧ Svy m gs g s r is ms mb a mk ∧ a.sm ∧ a.wf ∧ MkOk a mk ∧ ∀ y : Int, (0 ≤ y ↔ ¬ ∀ v ∈ a.rs, rootP a mk v) → Q (.int .i64 y) m
theorem f225 (t : Tab) (h186 : look t 186 = s186) : Mt t s225 kp225 Tryz.f225 := by
 rintro args m Q ⟨gs, g, g1, s, ⟨ra, rn, rc⟩, is, ms, mb, a, mk, ty, rfl, hc, hS, hsm, hw, hO, hQ⟩
 show FA _ _ _ _ [.slice ra rn rc, .func (.func 186) #[] #[.pointer (some ⟨g1, 0, none⟩)]] m Q
 rw [e225]
 have hk : a.rs.length = rn := hS.a.k
 have hR : Rd m ra a.rs := hS.a.r
 have hB := hw.r
 suffices key : ∀ (d i : Nat), i + d = a.rs.length → (∀ j : Nat, (h : j < a.rs.length) → j < i → rootP a mk a.rs[j]) → L225_2 (look t) (d + 1) Q ra rn rc g1 (rn : Int) (i : Int) m from ⟨a.rs.length + 1, key a.rs.length 0 (by omega) fun j _ hj => by omega⟩
 intro d
 induction d with
 | zero =>
  intro i hi hz
  rw [l225_2]
  refine ⟨m, Mem.le_refl _, ?_⟩
  rw [if_neg (by simp; omega)]
  refine ret_intro (Mem.le_refl _) (hQ (-1) ⟨fun h => by omega, fun h => absurd (fun v hv => ?_) h⟩)
  obtain ⟨j, hj, e⟩ := List.mem_iff_getElem.1 hv
  rw [← e]
  exact hz j hj (by omega)
 | succ d ih =>
  intro i hi hz
  have hlt : i < a.rs.length := by omega
  obtain ⟨v, hv⟩ : ∃ v, v = a.rs[i] := ⟨_, rfl⟩
  have hmem : v ∈ a.rs := by rw [hv]; exact List.getElem_mem _
  rw [l225_2]
  refine ⟨m, Mem.le_refl _, ?_⟩
  rw [if_pos (by simp; omega), wsucc (n := 2 ^ 20) (by omega) (by decide)]
  refine idx' hR hk (by omega) (by omega) fun ad had hd => ?_
  have hd : ∀ (j : Nat) (w : Value), (Enc.e v)[j]? = some w → m.cell? ((ad.add (Int.toNat (i : Int) * 2)).add j) = some w := by rw [hv]; exact hd
  refine ⟨_, hd 0 (.int .i64 v.1) rfl, _, hd 1 (.int .i64 v.2) rfl, via h186 ⟨gs, g, g1, s, ⟨ra, rn, rc⟩, is, ms, mb, a, mk, v, ty, rfl, hc, hS, hsm, hw, hO, _, rfl, ?_⟩⟩
  by_cases c : rootP a mk v
  ·rw [pB_yes c, if_neg (by decide)]
   refine ih (i + 1) (by omega) fun j hj hj2 => ?_
   by_cases e : j = i
   ·subst e; rw [← hv]; exact c
   ·exact hz j hj (by omega)
  ·rw [pB_no c, if_pos (by decide)]
   exact ret_intro (Mem.le_refl _) (hQ i ⟨fun _ h => c (h v hmem), fun _ => by omega⟩)
def s185 : Spec := fun args m Q => ∃ (gs g g1 : Nat) (s r is : Sl) (ms mb : Option Nat) (a : Ar) (mk : List Int) (ty : TypeId), args = [vs r, .func (.func 186) #[] #[.pointer (some ⟨g1, 0, none⟩)]] ∧ m g1 = some (.cells #[.pointer (some ⟨gs, 0, none⟩)] ty (0, 0)) ∧ Svy m gs g s r is ms mb a mk ∧ a.sm ∧ a.wf ∧ MkOk a mk ∧ Q (.bool (pB (¬ ∀ v ∈ a.rs, rootP a mk v))) m
theorem f185 (t : Tab) (h225 : look t 225 = s225) : Mt t s185 kp185 Tryz.f185 := by
 rintro args m Q ⟨gs, g, g1, s, ⟨ra, rn, rc⟩, is, ms, mb, a, mk, ty, rfl, hc, hS, hsm, hw, hO, hQ⟩
 show FA _ _ _ _ [.slice ra rn rc, .func (.func 186) #[] #[.pointer (some ⟨g1, 0, none⟩)]] m Q
 rw [e185]
 refine via h225 ⟨gs, g, g1, s, ⟨ra, rn, rc⟩, is, ms, mb, a, mk, ty, rfl, hc, hS, hsm, hw, hO, fun y hy => ⟨_, rfl, ?_⟩⟩
 by_cases c : ∀ v ∈ a.rs, rootP a mk v
 ·rw [pB_no (fun h => h c)] at hQ
  exact ret_bool (Mem.le_refl _) hQ (by rw [decide_eq_false_iff_not]; intro h; exact hy.1 h c)
 ·rw [pB_yes c] at hQ
  exact ret_bool (Mem.le_refl _) hQ (by rw [decide_eq_true_eq]; exact hy.2 c)
def cntP (a : Ar) (mk : List Int) : Prop := (∀ p : Int, 0 ≤ p → p < mk.length → hdM mk p → objQ a mk p) ∧ tabsP a mk a.ws.length 0 [] ∧ ∀ v ∈ a.rs, rootP a mk v
theorem objQ_tag {a : Ar} {mk : List Int} {p : Int} (hw : a.wf) (hH : HeadAt a p) (h : objQ a mk p) (k : kdW a.ws p = 2) : (valW a.ws (p + 2)).1 = 0 ∨ (valW a.ws (p + 2)).1 = 8 := by
 obtain ⟨e1, e2, e3, e4⟩ := hH.look hw
 have k : (lookW a.ws p).1 = 2 := k
 have hs : (lookW a.ws p).2.1 = 3 := by
  rw [k] at e2
  unfold sizeB at e2
  simpa using e2
 obtain ⟨h1, h2, h3⟩ := h.1 2 (by rw [k, hs]; decide)
 unfold ruleI at h3
 rw [k] at h3
 generalize (valW a.ws (p + 2)).1 = x at h3 ⊢
 by_cases c0 : x = 0
 ·exact .inl c0
 ·by_cases c8 : x = 8
  ·exact .inr c8
  ·simp [c0, c8] at h3
theorem tabsI_loop (t : Tab) (h102 : look t 102 = s102) (h184 : look t 184 = s184) (h185 : look t 185 = s185) {Q : Value → Mem → Prop} {s r is : Sl} {ms : Option Nat} {a : Ar} {mk : List Int} {m0 : Mem} {gs g gb g1 : Nat} {ty : TypeId} (hw : a.wf) (hN : NumP a) (ht : tileO a = some mk) (hS : Svy m0 gs g s r is ms (some gb) a mk) (hb0 : m0 gb = none) (hg1 : m0 g1 = some (.cells #[.pointer (some ⟨gs, 0, none⟩)] ty (0, 0))) (hoQ : ∀ p : Int, 0 ≤ p → p < mk.length → hdM mk p → objQ a mk p)
  (no : ¬ cntP a mk → ∀ M, Mem.le m0 M → ret Q (.bool false) M) (yes : cntP a mk → ∀ M, Mem.le m0 M → ret Q (.bool true) M) :
  ∀ (d p : Nat), p + d = a.ws.length → ∀ (had : List Int) (M : Mem), (tabsP a mk a.ws.length 0 [] ↔ tabsP a mk d p had) → Mem.le m0 M → HasS M gb had → L100_8 (look t) (d + 1) Q g1 is.a is.n is.c (is.n : Int) (p : Int) M := by
 have hT := tile_ok hw hN ht
 have ho : ∀ p : Int, 0 ≤ p → p < mk.length → hdM mk p → objP a mk p := fun p p0 p1 hp => objQ_P (hoQ p p0 p1 hp)
 intro d
 have hNn := hw.n
 have hmk := hT.n
 have hin := hS.n
 induction d with
 | zero =>
  intro p hp had M he hle hH
  have hS1 := hS.le hle
  rw [l100_8]
  refine ⟨M, Mem.le_refl _, ?_⟩
  rw [if_neg (by simp; omega)]
  refine ⟨_, cO (hle _ _ hg1) 0, po ⟨_, cO hS1.b 0, po ⟨_, _, _, cO hS1.p 9, via h185 ⟨gs, g, g1, s, r, is, ms, some gb, a, mk, ty, rfl, hle _ _ hg1, hS1, hN.sm, hw, hT.mkOk hw hN, _, rfl, ?_⟩⟩⟩⟩
  by_cases c : ∀ v ∈ a.rs, rootP a mk v
  ·rw [pB_no (fun h => h c)]
   exact yes ⟨hoQ, he.2 trivial, c⟩ M hle
  ·rw [pB_yes c]
   exact no (fun h => c h.2.2) M hle
 | succ d ih =>
  intro p hp had M he hle hH
  have hS1 := hS.le hle
  have p0 : (0 : Int) ≤ p := by omega
  have p1 : (p : Int) < a.ws.length := by omega
  have hd1 := hle _ _ hg1
  have skip : ¬ (hdM mk p ∧ kdW a.ws p = 2) → L100_8 (look t) (d + 1) Q g1 is.a is.n is.c (is.n : Int) (IntKind.i64.wrap ((p : Int) + 1)) M := by
   intro h
   rw [wsucc (n := 2 ^ 20) (by omega) (by decide)]
   refine ih (p + 1) (by omega) had M ?_ hle hH
   rw [he]
   conv => lhs; unfold tabsP
   rw [if_neg h]
   rfl
  have fin : hdM mk p → kdW a.ws p = 2 → ∀ (M' : Mem) (had' : List Int), (∀ b o, b ≠ gb → M b = some o → M' b = some o) → HasS M' gb had' → (tabP a.ws p had → had' = hadN a.ws p had) →
    if (!pB (tabP a.ws p had)) = true then ret Q (.bool false) M' else L100_8 (look t) (d + 1) Q g1 is.a is.n is.c (is.n : Int) (IntKind.i64.wrap ((p : Int) + 1)) M' := by
   intro h1 h2 M' had' fr k' hR
   have hle' : Mem.le m0 M' := fun b o hb => fr b o (fun e => by rw [e, hb0] at hb; cases hb) (hle _ _ hb)
   have he2 : tabsP a mk a.ws.length 0 [] ↔ tabP a.ws p had ∧ tabsP a mk d ((p : Int) + 1) (hadN a.ws p had) := by
    rw [he]
    conv => lhs; unfold tabsP
    rw [if_pos ⟨h1, h2⟩]
   by_cases c : tabP a.ws p had
   ·rw [pB_yes c, if_neg (by decide), wsucc (n := 2 ^ 20) (by omega) (by decide)]
    exact ih (p + 1) (by omega) _ M' (he2.trans ⟨fun h => h.2, fun h => ⟨c, h⟩⟩) hle' (hR c ▸ k')
   ·rw [pB_no c, if_pos (by decide)]
    exact no (fun h => c (he2.1 h.2.1).1) M' hle'
  have body : hdM mk p → ∀ v : Value, v = vHd (lookW a.ws p) → ∃ y1 y2 y3 : Int, v = .agg #[.int .i64 y1, .int .i64 y2, .int .i64 y3] ∧ (if (y1 == 2) = true then ∃ p0 : Option Addr, M.cell? ⟨g1, 0, none⟩ = some (.pointer p0) ∧ look t 184 [.pointer p0, .int .i64 (p : Int)] M (fun v' M' => ∃ b : Bool, v' = .bool b ∧ if (!b) = true then ret Q (.bool false) M' else L100_8 (look t) (d + 1) Q g1 is.a is.n is.c (is.n : Int) (IntKind.i64.wrap ((p : Int) + 1)) M')
    else L100_8 (look t) (d + 1) Q g1 is.a is.n is.c (is.n : Int) (IntKind.i64.wrap ((p : Int) + 1)) M) := by
   rintro hhd v rfl
   refine ⟨_, _, _, rfl, ?_⟩
   by_cases ck : kdW a.ws p = 2
   ·rw [if_pos (by unfold kdW at ck; simpa using ck)]
    exact ⟨_, cO hd1 0, via h184 ⟨gs, g, gb, s, r, is, ms, a, mk, p, had, m0, rfl, hH, hle, hb0, hS, hN.sm, hw, tab_at hw hN hT ho p0 (by omega) hhd ck, objQ_tag hw (hT.head p0 (by omega) hhd) (hoQ p p0 (by omega) hhd) ck, fun M' had' fr k' hR => ⟨_, rfl, fin hhd ck M' had' fr k' hR⟩⟩⟩
   ·rw [if_neg (by unfold kdW at ck; simpa using ck)]
    exact skip fun h => ck h.2
  rw [l100_8]
  refine ⟨M, Mem.le_refl _, ?_⟩
  rw [if_pos (by simp; omega)]
  refine ru hS1.r hin p0 (by omega) fun ad had_ hd => ⟨_, hd _ (Mem.le_refl _), ?_⟩
  by_cases c1 : gi mk p = 1
  ·rw [if_pos (by simpa using c1)]
   exact ⟨_, cO hd1 0, po ⟨_, cO hS1.b 0, via h102 ⟨g, s, r, a, p, rfl, ⟨hS1.p, hS1.a, hw, p0, p1⟩, body (.inl c1) _ rfl⟩⟩⟩
  ·rw [if_neg (by simpa using c1)]
   by_cases c2 : gi mk p = 2
   ·rw [if_pos (by simpa using c2)]
    exact ⟨_, cO hd1 0, po ⟨_, cO hS1.b 0, via h102 ⟨g, s, r, a, p, rfl, ⟨hS1.p, hS1.a, hw, p0, p1⟩, body (.inr c2) _ rfl⟩⟩⟩
   ·rw [if_neg (by simpa using c2)]
    exact skip fun h => by have := h.1; unfold hdM at this; omega
theorem objsI_loop (t : Tab) (h183 : look t 183 = s183) {Q : Value → Mem → Prop} {s r is : Sl} {ms mb : Option Nat} {a : Ar} {mk : List Int} {m0 : Mem} {gs g g1 : Nat} {ty : TypeId} (hw : a.wf) (hN : NumP a) (ht : tileO a = some mk) (hS : Svy m0 gs g s r is ms mb a mk) (hg1 : m0 g1 = some (.cells #[.pointer (some ⟨gs, 0, none⟩)] ty (0, 0)))
  (no : ¬ cntP a mk → ∀ M, Mem.le m0 M → ret Q (.bool false) M) (yes : (∀ p : Int, 0 ≤ p → p < mk.length → hdM mk p → objQ a mk p) → ∀ M, Mem.le m0 M → ∃ k, L100_8 (look t) k Q g1 is.a is.n is.c (is.n : Int) 0 M) :
  ∀ (d p : Nat), p + d = a.ws.length → (∀ q : Int, 0 ≤ q → q < p → hdM mk q → objQ a mk q) → ∀ M : Mem, Mem.le m0 M → L100_2 (look t) (d + 1) Q g1 is.a is.n is.c (is.n : Int) (p : Int) M := by
 have hT := tile_ok hw hN ht
 intro d
 have hNn := hw.n
 have hmk := hT.n
 have hin := hS.n
 induction d with
 | zero =>
  intro p hp hz M hle
  have hS1 := hS.le hle
  rw [l100_2]
  refine ⟨M, Mem.le_refl _, ?_⟩
  rw [if_neg (by simp; omega)]
  exact ⟨_, cO (hle _ _ hg1) 0, po ⟨_, _, _, cO hS1.b 1, yes (fun q q0 q1 hq => hz q q0 (by omega) hq) M hle⟩⟩
 | succ d ih =>
  intro p hp hz M hle
  have hS1 := hS.le hle
  have p0 : (0 : Int) ≤ p := by omega
  have p1 : (p : Int) < a.ws.length := by omega
  have hd1 := hle _ _ hg1
  have nx : (hdM mk p → objQ a mk p) → L100_2 (look t) (d + 1) Q g1 is.a is.n is.c (is.n : Int) (IntKind.i64.wrap ((p : Int) + 1)) M := by
   intro h
   rw [wsucc (n := 2 ^ 20) (by omega) (by decide)]
   refine ih (p + 1) (by omega) (fun q q0 q1 hq => ?_) M hle
   by_cases e : q = p
   ·rw [e] at hq ⊢; exact h hq
   ·exact hz q q0 (by omega) hq
  have fin : hdM mk p → if (!pB (objQ a mk p)) = true then ret Q (.bool false) M else L100_2 (look t) (d + 1) Q g1 is.a is.n is.c (is.n : Int) (IntKind.i64.wrap ((p : Int) + 1)) M := by
   intro hq
   by_cases c : objQ a mk p
   ·rw [pB_yes c, if_neg (by decide)]; exact nx fun _ => c
   ·rw [pB_no c, if_pos (by decide)]; exact no (fun h => c (h.1 p p0 (by omega) hq)) M hle
  rw [l100_2]
  refine ⟨M, Mem.le_refl _, ?_⟩
  rw [if_pos (by simp; omega)]
  refine ru hS1.r hin p0 (by omega) fun ad had_ hd => ⟨_, hd _ (Mem.le_refl _), ?_⟩
  by_cases c1 : gi mk p = 1
  ·rw [if_pos (by simpa using c1)]
   exact ⟨_, cO hd1 0, via h183 ⟨gs, g, s, r, is, ms, mb, a, mk, p, rfl, hS1, hN.sm, hw, hT.mkOk hw hN, hT.head p0 (by omega) (.inl c1), .inl c1, _, rfl, fin (.inl c1)⟩⟩
  ·rw [if_neg (by simpa using c1)]
   by_cases c2 : gi mk p = 2
   ·rw [if_pos (by simpa using c2)]
    exact ⟨_, cO hd1 0, via h183 ⟨gs, g, s, r, is, ms, mb, a, mk, p, rfl, hS1, hN.sm, hw, hT.mkOk hw hN, hT.head p0 (by omega) (.inr c2), .inr c2, _, rfl, fin (.inr c2)⟩⟩
   ·rw [if_neg (by simpa using c2)]
    exact nx fun h => by unfold hdM at h; omega
def s100 : Spec := fun args m Q => ∃ (gs g gb : Nat) (s r is : Sl) (ms : Option Nat) (a : Ar) (mk : List Int) (m0 : Mem), args = [.pointer (some ⟨gs, 0, none⟩)] ∧ Svy m0 gs g s r is ms (some gb) a mk ∧ m0 gb = none ∧ Mem.le m0 m ∧ HasS m gb [] ∧ a.wf ∧ NumP a ∧ tileO a = some mk ∧ ∀ M, Mem.le m0 M → Q (.bool (pB (cntP a mk))) M
theorem f100 (t : Tab) (h183 : look t 183 = s183) (h102 : look t 102 = s102) (h184 : look t 184 = s184) (h185 : look t 185 = s185) : Mt t s100 kp100 Tryz.f100 := by
 rintro args m Q ⟨gs, g, gb, s, r, is, ms, a, mk, m0, rfl, hS, hb0, hle, hH, hw, hN, ht, hQ⟩
 rw [e100]
 have hT := tile_ok hw hN ht
 refine newA_intro fun g1 m2 hg1 e2 hb2 hle2 => ?_
 have hbg : gb ≠ g1 := fun e => by obtain ⟨es, cl, L, q1, _⟩ := hH; rw [← e, q1] at hg1; cases hg1
 obtain ⟨m1, hm1⟩ : ∃ m1 : Mem, m1 = fun b => if b = gb then none else m2 b := ⟨_, rfl⟩
 have q1 : m1 gb = none := by rw [hm1]; exact if_pos rfl
 have q2 : ∀ b, b ≠ gb → m1 b = m2 b := fun b hb => by rw [hm1]; exact if_neg hb
 clear hm1
 have l01 : Mem.le m0 m1 := fun b o hb => by
  by_cases e : b = gb
  ·rw [e, hb0] at hb; cases hb
  ·rw [q2 b e]; exact hle2 _ _ (hle _ _ hb)
 have l12 : Mem.le m1 m2 := fun b o hb => by
  by_cases e : b = gb
  ·rw [e, q1] at hb; cases hb
  ·rw [← q2 b e]; exact hb
 have hS1 := hS.le l01
 have hk1 : m1 g1 = _ := (q2 g1 hbg.symm).trans hb2
 have hS2 := hS1.le l12
 have bad : ¬ cntP a mk → ∀ M, Mem.le m1 M → ret Q (.bool false) M := fun h M hM => ret_intro (Mem.le_refl _) (pB_no h ▸ hQ M (Mem.le_trans l01 hM))
 refine ⟨_, cO hb2 0, po ⟨_, _, _, cO hS2.b 1, a.ws.length + 1, ?_⟩⟩
 exact objsI_loop t h183 hw hN ht hS2 hb2 (fun h M hM => bad h M (Mem.le_trans l12 hM)) (fun ho M hM => ⟨a.ws.length + 1, tabsI_loop t h102 h184 h185 hw hN ht hS1 q1 hk1 ho bad (fun h M hM => ret_intro (Mem.le_refl _) (pB_yes h ▸ hQ M (Mem.le_trans l01 hM))) a.ws.length 0 (by omega) [] M Iff.rfl (Mem.le_trans l12 hM) (hH.at fun o h => hM _ _ (hle2 _ _ h))⟩) a.ws.length 0 (by omega) (fun q q0 q1 => by omega) m2 (Mem.le_refl _)
theorem halves0 {a : Ar} (hsm : a.sm) (h0 : startA a a.to ≤ a.top) (h1 : a.top ≤ endA a a.to) : endA a a.to ≤ a.ws.length ∧ 1 ≤ startA a a.to ∧ 1 ≤ startA a (1 - a.to) ∧ endA a (1 - a.to) ≤ a.ws.length ∧ (endA a a.to < startA a (1 - a.to) ∨ endA a (1 - a.to) < startA a a.to) := by
 have e1 := startA_eq (a := a) hsm.t0 hsm.t1
 have e2 := startA_eq (a := a) (h := 1 - a.to) (by have := hsm.t1; omega) (by have := hsm.t0; omega)
 have e3 := endA_eq (a := a) hsm.t0 hsm.t1
 have e4 := endA_eq (a := a) (h := 1 - a.to) (by have := hsm.t1; omega) (by have := hsm.t0; omega)
 have := hsm.t0
 have := hsm.t1
 have := hsm.s0
 have := hsm.s1
 have := hsm.l
 rw [e1] at h0
 rw [e3] at h1
 rw [e1, e2, e3, e4]
 split <;> split <;> omega
theorem tile1_ok0 {a : Ar} (hw : a.wf) (hsm : a.sm) (h0 : startA a a.to ≤ a.top) (h1 : a.top ≤ endA a a.to) {mk : List Int} {x : Int} (ht : tile1 a = some (mk, x)) : mk.length = a.ws.length ∧ ∀ p : Int, 0 ≤ p → gi mk p = 0 ∨ gi mk p = 1 ∧ startA a a.to ≤ p ∧ headI a a.top p := by
 have hh := halves0 hsm h0 h1
 have hz : (zeroA a).length = a.ws.length := by unfold zeroA; rw [List.length_replicate]
 have r := wk_ok hw _ _ _ _ _ _ _ (by omega) (by omega) (by omega) ht
 refine ⟨by rw [r.n, hz], fun p p0 => ?_⟩
 have e0 : gi (zeroA a) p = 0 := gi_zero _ _
 by_cases c : startA a a.to ≤ p ∧ p < a.top
 ·rcases r.i p c.1 c.2 with t | t | t
  ·exact .inl (by rw [t, e0])
  ·exact .inr ⟨t.1, c.1, t.2⟩
  ·omega
 ·exact .inl (by rw [r.o p p0 (by omega), e0])
theorem tileO_c {a : Ar} {mk mk2 : List Int} {x : Int} (h : tile1 a = some (mk, x)) (hc : a.cyc = true) (ht : tileO a = some mk2) : tile2 a mk = some (mk2, a.cop) ∧ scanP a mk2 := by
 by_cases c : ∃ mk2, tile2 a mk = some (mk2, a.cop) ∧ scanP a mk2
 ·obtain ⟨mk3, c1, c2⟩ := c
  have := tileO_t h hc c1 c2
  rw [ht] at this
  cases this
  exact ⟨c1, c2⟩
 ·rw [tileO_x h hc c] at ht
  cases ht
theorem okP_iff {a : Ar} {mk : List Int} (hw : a.wf) (hN : NumP a) (ht : tileO a = some mk) (hs : serR a mk) : okP a ↔ cntP a mk := by
 constructor
 ·rintro ⟨mk', h⟩
  have e := h.t
  rw [ht] at e
  cases e
  have := (okQ hw hN ht).1 ⟨h.o, h.b⟩
  exact ⟨this.1, this.2, h.r⟩
 ·rintro ⟨h1, h2, h3⟩
  have := (okQ hw hN ht).2 ⟨h1, h2⟩
  exact ⟨mk, hN, ht, hs, this.1, this.2, h3⟩
theorem serR_mono {a : Ar} {mk mk2 : List Int} (hl : mk.length = mk2.length) (h : ∀ p : Int, 0 ≤ p → hdM mk p → hdM mk2 p) (hs : serR a mk2) : serR a mk := fun p q p0 pq q1 hp hq => hs p q p0 pq (by omega) (h p p0 hp) (h q (by omega) hq)
theorem okM_tile1 {a : Ar} (hw : a.wf) {mk : List Int} (h : OkM a mk) : ∃ mk1 x, tile1 a = some (mk1, x) ∧ serR a mk1 := by
 cases e : tile1 a with
 | none => have := h.t; rw [tileO_n e] at this; cases this
 | some y =>
  obtain ⟨mk1, x⟩ := y
  refine ⟨mk1, x, rfl, ?_⟩
  obtain ⟨n1, t1⟩ := tile1_ok hw h.N e
  cases hc : a.cyc with
  | false =>
   have := h.t
   rw [tileO_f e hc] at this
   cases this
   exact h.s
  | true =>
   obtain ⟨x1, x2⟩ := tileO_c e hc h.t
   obtain ⟨n2, _, _, t2⟩ := tile2_ok hw h.N hc e x1
   refine serR_mono (n1.trans n2.symm) (fun p p0 hp => ?_) h.s
   unfold hdM at hp ⊢
   rcases t2 p p0 with z | z
   ·rw [z.1]; exact hp
   ·omega
theorem cell_M {M : Mem} {gl : Nat} {mk : List Int} {tl : TypeId} {p : Int} (h : M gl = some (rowM mk tl)) (p0 : 0 ≤ p) (p1 : p < mk.length) : M.cell? ((⟨gl, 0, none⟩ : Addr).add (p.toNat * 1)) = some (.int .u8 (gi mk p)) := by
 have : optA (some (⟨gl, 0, none⟩ : Addr)) fun (ad : Addr) => 0 ≤ p ∧ p < (mk.length : Int) ∧ M.cell? (ad.add (p.toNat * 1)) = some (.int .u8 (gi mk p)) := ru (n := mk.length) (Rd.of_block (spare := []) h (by rfl)) rfl p0 p1 fun ad had hd => hd M (Mem.le_refl _)
 exact this.2.2
def s21 : Spec := fun args m Q => ∃ (s r : Sl) (a : Ar), args = [vA s r a] ∧ ArAt m s r a ∧ a.wf ∧ Q (.bool (pB (okP a))) m
theorem f21 (t : Tab) (h94 : look t 94 = s94) (h95 : look t 95 = s95) (h96 : look t 96 = s96) (h98 : look t 98 = s98) (h99 : look t 99 = s99) (h97 : look t 97 = s97) (h100 : look t 100 = s100) : Mt t s21 kp21 Tryz.f21 := by
 rintro args m Q ⟨s, r, a, rfl, hA, hw, hQ⟩
 show FA _ _ _ _ [aG s r a] m Q
 rw [e21]
 have hn := hA.n
 have hk := hA.k
 have hNn := hw.n
 have bad : ∀ M, Mem.le m M → ¬ okP a → ret Q (.bool false) M := fun M hM h => ret_intro hM (pB_no h ▸ hQ)
 refine newA_intro fun g m2 hg1 e2 hb1 hle2 => ?_
 have hP : Ptr m2 g s r a := hb1
 refine ⟨Mem.le m2, Mem.le_refl _, _, held (cO hb1 1), via h94 ⟨_, _, _, rfl, _, rfl, Mem.le_refl _, ?_⟩⟩
 by_cases c1 : 256 ≤ a.semi ∧ a.semi ≤ 4000
 case neg => rw [decide_eq_false c1, if_pos (by decide)]; exact bad m2 hle2 fun ⟨mk, h⟩ => c1 ⟨h.N.sm.s0, h.N.sm.s1⟩
 rw [decide_eq_true c1, if_neg (by decide)]
 obtain ⟨c1, c1'⟩ := c1
 refine ⟨_, _, _, held (cO hb1 0), _, held (cO hb1 1), ?_⟩
 rw [w64 (x := 2 * a.semi) (by omega) (by omega)]
 by_cases c2 : (s.n : Int) = 2 * a.semi
 case neg => rw [if_pos (by simpa using c2)]; exact bad m2 hle2 fun ⟨mk, h⟩ => c2 (by have := h.N.sm.l; omega)
 rw [if_neg (by simpa using c2)]
 refine ⟨_, held (cO hb1 2), via h94 ⟨_, _, _, rfl, _, rfl, Mem.le_refl _, ?_⟩⟩
 by_cases c3 : 0 ≤ a.to ∧ a.to ≤ 1
 case neg => rw [decide_eq_false c3, if_pos (by decide)]; exact bad m2 hle2 fun ⟨mk, h⟩ => c3 ⟨h.N.sm.t0, h.N.sm.t1⟩
 rw [decide_eq_true c3, if_neg (by decide)]
 obtain ⟨t0, t1⟩ := c3
 refine ⟨_, held (cO hb1 3), _, held (cO hb1 2), _, held (cO hb1 2), via h95 ⟨g, s, r, a, _, rfl, hP, t0, t1, by omega, c1', _, rfl, Mem.le_refl _, via h96 ⟨g, s, r, a, _, rfl, hP, t0, t1, by omega, c1', _, rfl, Mem.le_refl _, via h94 ⟨_, _, _, rfl, _, rfl, Mem.le_refl _, ?_⟩⟩⟩⟩
 by_cases c6 : startA a a.to ≤ a.top ∧ a.top ≤ endA a a.to
 case neg => rw [decide_eq_false c6, if_pos (by decide)]; exact bad m2 hle2 fun ⟨mk, h⟩ => c6 ⟨h.N.p0, h.N.p1⟩
 rw [decide_eq_true c6, if_neg (by decide)]
 obtain ⟨c6, c6'⟩ := c6
 refine ⟨_, held (cO hb1 8), via h94 ⟨_, _, _, rfl, _, rfl, Mem.le_refl _, ?_⟩⟩
 by_cases c4 : 1 ≤ a.ser ∧ a.ser ≤ 1000000000
 case neg => rw [decide_eq_false c4, if_pos (by decide)]; exact bad m2 hle2 fun ⟨mk, h⟩ => c4 ⟨h.N.z0, h.N.z1⟩
 rw [decide_eq_true c4, if_neg (by decide)]
 refine ⟨_, _, _, held (cO hb1 9), ?_⟩
 by_cases c5 : (r.n : Int) > 24
 case pos => rw [if_pos (by simpa using c5)]; exact bad m2 hle2 fun ⟨mk, h⟩ => by have := h.N.r; omega
 rw [if_neg (by simpa using c5)]
 have sm : a.sm := ⟨c1, c1', t0, t1, by omega⟩
 have hh := halves0 sm c6 c6'
 refine ⟨_, _, _, cO hb1 0, ?_⟩
 rw [← hn]
 refine ⟨by omega, Int.le_refl _, by omega, by omega, newA_intro fun gl m3 hgl e3 hb3 hle3 => newA_intro fun gm m4 hgm e4 hb4 hle4 => newA_intro fun gb m5 hgb e5 hb5 hle5 => newA_intro fun gs m6 hgs e6 hb6 hle6 => ?_⟩
 have k3 : m3 gl = some (rowM (zeroA a) 5) := by
  rw [hb3]
  unfold rowM u8s zeroA
  rw [List.append_nil, List.map_replicate, ← zeroRow_eq]
  rfl
 have L23 := hle3
 have L24 := Mem.le_trans L23 hle4
 have L25 := Mem.le_trans L24 hle5
 have L26 := Mem.le_trans L25 hle6
 have hlm : gl ≠ gm := fun e => by rw [← e, hb3] at hgm; cases hgm
 have hlb : gl ≠ gb := fun e => by rw [← e, hle4 _ _ hb3] at hgb; cases hgb
 have hls : gl ≠ gs := fun e => by rw [← e, hle5 _ _ (hle4 _ _ hb3)] at hgs; cases hgs
 have hmb : gm ≠ gb := fun e => by rw [← e, hb4] at hgb; cases hgb
 have hms : gm ≠ gs := fun e => by rw [← e, hle5 _ _ hb4] at hgs; cases hgs
 have hbs : gb ≠ gs := fun e => by rw [← e, hb5] at hgs; cases hgs
 have l6 : m6 gl = some (rowM (zeroA a) 5) := hle6 _ _ (hle5 _ _ (hle4 _ _ k3))
 have q6 : m6 gm = some (.map #[] 0) := hle6 _ _ (hle5 _ _ hb4)
 obtain ⟨m0, hm0d⟩ : ∃ m0 : Mem, m0 = fun b => if b = gl ∨ b = gm then none else m6 b := ⟨_, rfl⟩
 have hl0 : m0 gl = none := by rw [hm0d]; exact if_pos (.inl rfl)
 have hm0 : m0 gm = none := by rw [hm0d]; exact if_pos (.inr rfl)
 have ne0 : ∀ b, b ≠ gl → b ≠ gm → m0 b = m6 b := fun b h1 h2 => by rw [hm0d]; exact if_neg (by rintro (h | h); exact h1 h; exact h2 h)
 clear hm0d
 have l06 : Mem.le m0 m6 := fun b o hb => by
  by_cases e1 : b = gl
  ·rw [e1, hl0] at hb; cases hb
  ·by_cases e2 : b = gm
   ·rw [e2, hm0] at hb; cases hb
   ·rw [← ne0 b e1 e2]; exact hb
 have l200 : Mem.le m2 m0 := fun b o hb => by
  have h1 : b ≠ gl := fun e => by rw [e, hgl] at hb; cases hb
  have h2 : b ≠ gm := fun e => by have := hle3 _ _ hb; rw [e, hgm] at this; cases this
  rw [ne0 b h1 h2]; exact L26 _ _ hb
 have l20 : Mem.le m m0 := Mem.le_trans hle2 l200
 have hP0 : Ptr m0 g s r a := l200 _ _ hP
 have hA0 : ArAt m0 s r a := hA.le l20
 have hS0 : m0 gs = _ := (ne0 gs hls.symm hms.symm).trans hb6
 have hB0 : m0 gb = some (.map #[] 0) := (ne0 gb hlb.symm hmb.symm).trans (hle6 _ _ hb5)
 have last : ∀ (M : Mem) (mk : List Int), Mem.le m0 M → M gl = some (rowM mk 5) → mk.length = a.ws.length → NumP a → tileO a = some mk → serR a mk → look t 100 [.pointer (some ⟨gs, 0, none⟩)] M (fun v M' => ∃ b : Bool, v = .bool b ∧ ret Q (.bool b) M') := by
  intro M mk hle hl hmk hN ht hs
  obtain ⟨m1, hm1⟩ : ∃ m1 : Mem, m1 = fun b => if b = gb then none else M b := ⟨_, rfl⟩
  have q1 : m1 gb = none := by rw [hm1]; exact if_pos rfl
  have q2 : ∀ b, b ≠ gb → m1 b = M b := fun b hb => by rw [hm1]; exact if_neg hb
  clear hm1
  have l1M : Mem.le m1 M := fun b o hb => by
   by_cases e : b = gb
   ·rw [e, q1] at hb; cases hb
   ·rw [← q2 b e]; exact hb
  have lm1 : Mem.le m m1 := fun b o hb => by
   have : b ≠ gb := fun e => by have := L24 _ _ (hle2 _ _ hb); rw [e, hgb] at this; cases this
   rw [q2 b this]; exact hle _ _ (l20 _ _ hb)
  have hgb2 : g ≠ gb := fun e => by have := L24 _ _ hb1; rw [e, hgb] at this; cases this
  refine via h100 ⟨gs, g, gb, s, r, ⟨some ⟨gl, 0, none⟩, a.ws.length, a.ws.length⟩, some gm, a, mk, m1, rfl, ⟨(q2 gs hbs.symm).trans (hle _ _ hS0), (q2 g hgb2).trans (hle _ _ hP0), hA.le lm1, hmk, Rd.of_block (spare := []) ((q2 gl hlb).trans hl) (by rfl)⟩, q1, l1M, hasS_nil (hle _ _ hB0), hw, hN, ht, fun M' hM' => ⟨_, rfl, ?_⟩⟩
  refine ret_bool (Mem.le_trans lm1 hM') hQ ?_
  have := okP_iff hw hN ht hs
  by_cases c : cntP a mk
  ·rw [pB_yes c, pB_yes (this.2 c)]
  ·rw [pB_no c, pB_no fun h => c (this.1 h)]
 have zl : (zeroA a).length = a.ws.length := by unfold zeroA; rw [List.length_replicate]
 refine ⟨Mem.le m2, L26, _, held (cO hb1 2), _, held (cO hb1 3), via h95 ⟨g, s, r, a, _, rfl, L26 _ _ hb1, t0, t1, by omega, c1', _, rfl, L26, ?_⟩⟩
 refine via h97 ⟨gs, g, gl, gm, a.ws.length, some gb, s, r, a, 5, zeroA a, [], startA a a.to, a.top, 1, m0, rfl, .inl rfl, hw, hP0, hA0, hS0, hl0, hm0, hlm, by omega, c6, by omega, c4.2, zl, l06, l6, hasS_nil q6, fun x => ⟨fun h => (by cases h), fun ⟨q, q0, q1, q2, _⟩ => by unfold hdM zeroA at q2; rw [gi_zero] at q2; omega⟩, fun p q p0 pq q1 hp => by unfold hdM zeroA at hp; rw [gi_zero] at hp; omega, fun q _ _ => gi_zero _ _, fun M1 mk' had' hT h => ?_, fun M1 mk1 s1 had1 hT1 e1 hsR1 hHR1 _ => ?_⟩
 ·refine ⟨_, rfl, Mem.le_trans l200 hT.le, ?_⟩
  rw [if_pos (by decide)]
  refine bad M1 (Mem.le_trans l20 hT.le) fun ⟨mk, hk⟩ => h ?_
  obtain ⟨mk1, x, e, es⟩ := okM_tile1 hw hk
  exact ⟨mk1, x, e, es, fun h => by cases h⟩
 refine ⟨_, rfl, Mem.le_trans l200 hT1.le, ?_⟩
 rw [if_neg (by decide)]
 have e1 : tile1 a = some (mk1, s1) := e1
 obtain ⟨n1, tt1⟩ := tile1_ok0 hw sm c6 c6' e1
 have LM : Mem.le m M1 := Mem.le_trans l20 hT1.le
 have hPM : Ptr M1 g s r a := hT1.le _ _ hP0
 have hb1 : M1 g = _ := hPM
 refine ⟨_, cO hb1 4, ?_⟩
 cases hc : a.cyc with
 | false =>
  rw [if_pos (by decide)]
  have nof : ∀ P : Prop, (freeP a → P) → okP a → P := fun P h ⟨mk, hk⟩ => h hk.N.f
  have ef : freeP a = (a.scan = 0 ∧ a.old = 0 ∧ a.cop = 0) := by unfold freeP; rw [hc]; rfl
  refine ⟨_, cO hb1 5, ?_⟩
  by_cases d1 : a.scan = 0
  case neg => rw [if_pos (by simpa using d1)]; exact bad M1 LM fun h => d1 (nof _ (fun h => (ef ▸ h).1) h)
  rw [if_neg (by simpa using d1)]
  refine ⟨_, cO hb1 6, ?_⟩
  by_cases d2 : a.old = 0
  case neg => rw [if_pos (by simpa using d2)]; exact bad M1 LM fun h => d2 (nof _ (fun h => (ef ▸ h).2.1) h)
  rw [if_neg (by simpa using d2)]
  refine ⟨_, cO hb1 7, ?_⟩
  by_cases d3 : a.cop = 0
  case neg => rw [if_pos (by simpa using d3)]; exact bad M1 LM fun h => d3 (nof _ (fun h => (ef ▸ h).2.2) h)
  rw [if_neg (by simpa using d3)]
  exact last M1 mk1 hT1.le hT1.l n1 ⟨sm, c4.1, c4.2, by omega, c6, c6', ef ▸ ⟨d1, d2, d3⟩⟩ (tileO_f e1 hc) hsR1
 | true =>
  rw [if_neg (by decide)]
  refine via h98 ⟨g, s, r, a, rfl, hPM, t0, t1, _, rfl, via h95 ⟨g, s, r, a, _, rfl, hPM, by omega, by omega, by omega, c1', _, rfl, ?_⟩⟩
  obtain ⟨S84, h84⟩ : ∃ S84 : Mem → Prop, S84 = fun M => Mem.le m0 M ∧ ∃ mk', M gl = some (rowM mk' 5) ∧ mk'.length = a.ws.length ∧ (0 ≤ a.scan → gi mk' a.scan = gi mk1 a.scan) := ⟨_, rfl⟩
  refine ⟨S84, ?_⟩
  have hS84 : S84 M1 := by rw [h84]; exact ⟨hT1.le, mk1, hT1.l, n1, fun _ => rfl⟩
  subst h84
  refine ⟨hS84, _, fun q hq => cO (hq.1 _ _ hP0) 5, _, fun q hq => cO (hq.1 _ _ hP0) 3, via h94 ⟨_, _, _, rfl, _, rfl, hS84, ?_⟩⟩
  have inS : ∀ mk, OkM a mk → a.scan = a.top ∨ 0 ≤ a.scan ∧ a.scan < a.ws.length ∧ startA a a.to ≤ a.scan ∧ a.scan < a.top ∧ gi mk1 a.scan = 1 := fun mk h => by
   obtain ⟨x1, x2⟩ := tileO_c e1 hc h.t
   obtain ⟨n2, _, _, tt2⟩ := tile2_ok hw h.N hc e1 x1
   rcases x2 with z | ⟨z1, z2, z3⟩
   ·exact .inl z
   ·have hg1 : gi mk1 a.scan = 1 := by
     rcases tt2 a.scan z1 with u | u
     ·rw [← u.1]; exact z3
     ·omega
    rcases tt1 a.scan z1 with v | ⟨v, v1, v2⟩
    ·omega
    ·have := v2.2.2
     have := (look_b hw a.scan).1
     exact .inr ⟨z1, z2, v1, by omega, hg1⟩
  by_cases c7 : 1 ≤ a.scan ∧ a.scan ≤ a.top
  case neg =>
   rw [decide_eq_false c7, if_pos (by decide)]
   exact bad M1 LM fun ⟨mk, h⟩ => by have := inS mk h; omega
  rw [decide_eq_true c7, if_neg (by decide)]
  refine ⟨_, fun q hq => cO (hq.1 _ _ hP0) 5, _, fun q hq => cO (hq.1 _ _ hP0) 3, ?_⟩
  by_cases c8 : a.scan = a.top
  ·rw [if_neg (by simpa using c8)]
   have hscan : a.scan = a.top ∨ gi mk1 a.scan = 1 := .inl c8
   refine ⟨_, fun q hq => cO (hq.1 _ _ hP0) 6, via h98 ⟨g, s, r, a, rfl, hPM, t0, t1, _, rfl, hS84, via h96 ⟨g, s, r, a, _, rfl, hPM, by omega, by omega, by omega, c1', _, rfl, hS84, via h94 ⟨_, _, _, rfl, _, rfl, hS84, ?_⟩⟩⟩⟩
   by_cases d1 : startA a (1 - a.to) ≤ a.old ∧ a.old ≤ endA a (1 - a.to)
   case neg => rw [decide_eq_false d1, if_pos (by decide)]; exact bad M1 LM fun ⟨mk', h⟩ => by have := h.N.f; unfold freeP at this; rw [if_pos hc] at this; exact d1 ⟨this.1, this.2.1⟩
   rw [decide_eq_true d1, if_neg (by decide)]
   obtain ⟨d1, d1'⟩ := d1
   have far : ∀ q : Int, 0 ≤ q → gi mk1 q = 1 → q < startA a (1 - a.to) ∨ a.old ≤ q := fun q q0 hq => by
    rcases tt1 q q0 with z | ⟨z, z1, z2⟩
    ·omega
    ·have := z2.2.2
     have := (look_b hw q).1
     omega
   have zer : ∀ q : Int, startA a (1 - a.to) ≤ q → q < a.old → gi mk1 q = 0 := fun q z1 z2 => by
    rcases tt1 q (by omega) with z | ⟨z, _⟩
    ·exact z
    ·have := far q (by omega) z
     omega
   have keepS : ∀ M mk' had', StH m0 M gl gm 5 mk1 mk' had' (startA a (1 - a.to)) a.old → (Mem.le m0 M ∧ ∃ mk', M gl = some (rowM mk' 5) ∧ mk'.length = a.ws.length ∧ (0 ≤ a.scan → gi mk' a.scan = gi mk1 a.scan)) := fun M mk' had' hT => ⟨hT.le, mk', hT.l, by rw [hT.n]; exact n1, fun q0 => by
    rcases hscan with z | z
    ·exact hT.o _ q0 (by omega)
    ·exact hT.o _ q0 (far _ q0 z)⟩
   refine ⟨_, fun q hq => cO (hq.1 _ _ hP0) 6, via h97 ⟨gs, g, gl, gm, a.ws.length, some gb, s, r, a, 5, mk1, had1, startA a (1 - a.to), a.old, 2, m0, rfl, .inr rfl, hw, hP0, hA0, hS0, hl0, hm0, hlm, by omega, d1, by omega, c4.2, n1, hT1.le, hT1.l, hT1.h, hHR1, hsR1, zer, fun M mk' had' hT h => ?_, fun M mk2 s2 had' hT h1 h2 h3 h4 => ?_⟩⟩
   ·refine ⟨_, rfl, keepS _ _ _ hT, ?_⟩
    rw [if_pos (by decide)]
    refine bad M (Mem.le_trans l20 hT.le) fun ⟨mk', h'⟩ => h ?_
    have ht := h'.t
    have hx := tileO_c e1 hc ht
    exact ⟨mk', a.cop, hx.1, h'.s, fun _ => rfl⟩
   refine ⟨_, rfl, keepS _ _ _ hT, ?_⟩
   rw [if_neg (by decide)]
   have h4 := h4 rfl
   subst h4
   have bs := (wk_ok hw _ _ _ _ _ _ _ (by omega) d1 (by omega) h1).s
   have n2 : mk2.length = a.ws.length := hT.n.trans n1
   have hPM2 : Ptr M g s r a := hT.le _ _ hP0
   have LM2 : Mem.le m M := Mem.le_trans l20 hT.le
   refine ⟨_, fun q hq => cO (hq.1 _ _ hP0) 3, _, fun q hq => cO (hq.1 _ _ hP0) 2, via h99 ⟨g, s, r, a, rfl, hPM2, sm, fun _ => by omega, _, rfl, keepS _ _ _ hT, via h96 ⟨g, s, r, a, _, rfl, hPM2, t0, t1, by omega, c1', _, rfl, keepS _ _ _ hT, ?_⟩⟩⟩
   have el : leftA a = a.old - startA a (1 - a.to) - a.cop := by unfold leftA; rw [if_pos hc]
   rw [el, w64 (by omega) (by omega)]
   by_cases d2 : a.top + (a.old - startA a (1 - a.to) - a.cop) ≤ endA a a.to
   case neg => rw [if_pos (by simp; omega)]; exact bad M LM2 fun ⟨mk', h⟩ => by have := h.N.f; unfold freeP at this; rw [if_pos hc] at this; omega
   rw [if_neg (by simp; omega)]
   have hN : NumP a := ⟨sm, c4.1, c4.2, by omega, c6, c6', by unfold freeP; rw [if_pos hc]; omega⟩
   have hsp : scanP a mk2 := by
    rcases hscan with z | z
    ·exact .inl z
    ·have lt : a.scan < a.top := by
      rcases tt1 a.scan (by omega) with y | ⟨y, y1, y2⟩
      ·omega
      ·have := y2.2.2
       have := (look_b hw a.scan).1
       omega
     exact .inr ⟨by omega, by omega, by rw [hT.o _ (by omega) (far _ (by omega) z)]; exact z⟩
   have ht := tileO_t e1 hc h1 hsp
   exact last M mk2 hT.le hT.l n2 hN ht h2
  ·rw [if_pos (by simpa using c8)]
   refine ⟨_, _, _, fun q hq => cO (hq.1 _ _ hS0) 1, _, fun q hq => cO (hq.1 _ _ hP0) 5, po ⟨by omega, by omega, _, fun q ⟨_, mk', z1, z2, z3⟩ => by rw [cell_M z1 (by omega) (by omega), z3 (by omega)], ?_⟩⟩
   by_cases c9 : gi mk1 a.scan = 1
   case neg => rw [if_pos (by simpa using c9)]; exact bad M1 LM fun ⟨mk, h⟩ => by have := inS mk h; omega
   rw [if_neg (by simpa using c9)]
   have hscan : a.scan = a.top ∨ gi mk1 a.scan = 1 := .inr c9
   refine ⟨_, fun q hq => cO (hq.1 _ _ hP0) 6, via h98 ⟨g, s, r, a, rfl, hPM, t0, t1, _, rfl, hS84, via h96 ⟨g, s, r, a, _, rfl, hPM, by omega, by omega, by omega, c1', _, rfl, hS84, via h94 ⟨_, _, _, rfl, _, rfl, hS84, ?_⟩⟩⟩⟩
   by_cases d1 : startA a (1 - a.to) ≤ a.old ∧ a.old ≤ endA a (1 - a.to)
   case neg => rw [decide_eq_false d1, if_pos (by decide)]; exact bad M1 LM fun ⟨mk', h⟩ => by have := h.N.f; unfold freeP at this; rw [if_pos hc] at this; exact d1 ⟨this.1, this.2.1⟩
   rw [decide_eq_true d1, if_neg (by decide)]
   obtain ⟨d1, d1'⟩ := d1
   have far : ∀ q : Int, 0 ≤ q → gi mk1 q = 1 → q < startA a (1 - a.to) ∨ a.old ≤ q := fun q q0 hq => by
    rcases tt1 q q0 with z | ⟨z, z1, z2⟩
    ·omega
    ·have := z2.2.2
     have := (look_b hw q).1
     omega
   have zer : ∀ q : Int, startA a (1 - a.to) ≤ q → q < a.old → gi mk1 q = 0 := fun q z1 z2 => by
    rcases tt1 q (by omega) with z | ⟨z, _⟩
    ·exact z
    ·have := far q (by omega) z
     omega
   have keepS : ∀ M mk' had', StH m0 M gl gm 5 mk1 mk' had' (startA a (1 - a.to)) a.old → (Mem.le m0 M ∧ ∃ mk', M gl = some (rowM mk' 5) ∧ mk'.length = a.ws.length ∧ (0 ≤ a.scan → gi mk' a.scan = gi mk1 a.scan)) := fun M mk' had' hT => ⟨hT.le, mk', hT.l, by rw [hT.n]; exact n1, fun q0 => by
    rcases hscan with z | z
    ·exact hT.o _ q0 (by omega)
    ·exact hT.o _ q0 (far _ q0 z)⟩
   refine ⟨_, fun q hq => cO (hq.1 _ _ hP0) 6, via h97 ⟨gs, g, gl, gm, a.ws.length, some gb, s, r, a, 5, mk1, had1, startA a (1 - a.to), a.old, 2, m0, rfl, .inr rfl, hw, hP0, hA0, hS0, hl0, hm0, hlm, by omega, d1, by omega, c4.2, n1, hT1.le, hT1.l, hT1.h, hHR1, hsR1, zer, fun M mk' had' hT h => ?_, fun M mk2 s2 had' hT h1 h2 h3 h4 => ?_⟩⟩
   ·refine ⟨_, rfl, keepS _ _ _ hT, ?_⟩
    rw [if_pos (by decide)]
    refine bad M (Mem.le_trans l20 hT.le) fun ⟨mk', h'⟩ => h ?_
    have ht := h'.t
    have hx := tileO_c e1 hc ht
    exact ⟨mk', a.cop, hx.1, h'.s, fun _ => rfl⟩
   refine ⟨_, rfl, keepS _ _ _ hT, ?_⟩
   rw [if_neg (by decide)]
   have h4 := h4 rfl
   subst h4
   have bs := (wk_ok hw _ _ _ _ _ _ _ (by omega) d1 (by omega) h1).s
   have n2 : mk2.length = a.ws.length := hT.n.trans n1
   have hPM2 : Ptr M g s r a := hT.le _ _ hP0
   have LM2 : Mem.le m M := Mem.le_trans l20 hT.le
   refine ⟨_, fun q hq => cO (hq.1 _ _ hP0) 3, _, fun q hq => cO (hq.1 _ _ hP0) 2, via h99 ⟨g, s, r, a, rfl, hPM2, sm, fun _ => by omega, _, rfl, keepS _ _ _ hT, via h96 ⟨g, s, r, a, _, rfl, hPM2, t0, t1, by omega, c1', _, rfl, keepS _ _ _ hT, ?_⟩⟩⟩
   have el : leftA a = a.old - startA a (1 - a.to) - a.cop := by unfold leftA; rw [if_pos hc]
   rw [el, w64 (by omega) (by omega)]
   by_cases d2 : a.top + (a.old - startA a (1 - a.to) - a.cop) ≤ endA a a.to
   case neg => rw [if_pos (by simp; omega)]; exact bad M LM2 fun ⟨mk', h⟩ => by have := h.N.f; unfold freeP at this; rw [if_pos hc] at this; omega
   rw [if_neg (by simp; omega)]
   have hN : NumP a := ⟨sm, c4.1, c4.2, by omega, c6, c6', by unfold freeP; rw [if_pos hc]; omega⟩
   have hsp : scanP a mk2 := by
    rcases hscan with z | z
    ·exact .inl z
    ·have lt : a.scan < a.top := by
      rcases tt1 a.scan (by omega) with y | ⟨y, y1, y2⟩
      ·omega
      ·have := y2.2.2
       have := (look_b hw a.scan).1
       omega
     exact .inr ⟨by omega, by omega, by rw [hT.o _ (by omega) (far _ (by omega) z)]; exact z⟩
   have ht := tileO_t e1 hc h1 hsp
   exact last M mk2 hT.le hT.l n2 hN ht h2
theorem own_nd {α : Type} [Enc α] {m : Mem} {s : Sl} {l : List α} {D : List Nat} (h : OwnL m s l D) : D.Nodup := by
 obtain ⟨_, ⟨_, _, _, h⟩ | ⟨g, t, spare, _, h, _⟩⟩ := h
 ·rw [h]; exact List.nodup_nil
 ·rw [h]; simp
theorem app_int {m M : Mem} {s : Sl} {l : List Int} {D : List Nat} {x : Int} {K : Option Addr → Nat → Mem → Prop} (hle : Mem.le m M) (hO : OwnL M s l D) (hD : ∀ b ∈ D, m b = none) (hl : l.length ≤ 2 ^ 30)
  (hK : ∀ (s' : Sl) (M' : Mem) (D' : List Nat), s'.n = s.n + 1 → Mem.le m M' → OwnL M' s' (l ++ [x]) D' → (∀ b ∈ D', m b = none) → K s'.a s'.c M') :
  newA M (.cells #[.int .i64 x] 3 (0, 0)) fun g17 m18 => appR m18 s.a s.n s.c (some ⟨g17, 0, none⟩) 1 1 8 #[.int .i64 0] 3 K := by
 refine newA_intro fun g m2 hg e hb hle2 => ?_
 refine app_sl (α := Int) (l := l) (l2 := [x]) (D := D) rfl rfl (by decide) (by decide) (by decide) (hO.ext fun b hb' => ?_) rfl (Rd.of_block (spare := []) hb (by rfl)) (by show l.length + 1 ≤ 2 ^ 40; omega) fun s' D' M' hsn hO' hoff hfr hnd' => ?_
 ·obtain ⟨o, ho⟩ := hO.live b hb'
  rw [ho, hle2 _ _ ho]
 ·have hD' : ∀ b ∈ D', m b = none := by
   rcases hfr with rfl | hfr
   ·exact hD
   ·exact fun b hb' => le_none (Mem.le_trans hle hle2) (hfr b hb')
  exact hK s' M' D' hsn (le_off (Mem.le_trans hle hle2) hD' hoff) hO' hD'
theorem objs_loopS (t : Tab) (h90 : look t 90 = s90) {Q : Value → Mem → Prop} {s r : Sl} {a : Ar} {m : Mem} {g : Nat} (hw : a.wf) (hP : Ptr m g s r a) (hA : ArAt m s r a) (htop : a.top ≤ a.ws.length) {R : List Int} (hQ : ∀ (s' : Sl) (M : Mem) (D : List Nat), Mem.le m M → OwnL M s' R D → (∀ b ∈ D, m b = none) → ret Q (vs s') M) :
  ∀ (f : Nat) (p : Int) (acc : List Int) (hs : Sl) (D : List Nat) (M : Mem), 0 ≤ p → a.top - p ≤ f → acc.length ≤ p → acc ++ objsF a (f + 1) p = R → Mem.le m M → OwnL M hs acc D → (∀ b ∈ D, m b = none) → p ≤ 2 ^ 22 → L27_5 (look t) (f + 1) Q g hs.a hs.n hs.c p M := by
 intro f
 have hN := hw.n
 induction f with
 | zero =>
  intro p acc hs D M p0 hf hl hR hle hO hD hp
  have hb1 := hle _ _ hP
  unfold objsF at hR
  rw [l27_5]
  refine ⟨M, Mem.le_refl _, _, cO hb1 3, ?_⟩
  rw [if_neg (by simp; omega)]
  rw [if_neg (by omega), List.append_nil] at hR
  exact hQ hs M D hle (hR ▸ hO) hD
 | succ f ih =>
  intro p acc hs D M p0 hf hl hR hle hO hD hp
  have hb1 := hle _ _ hP
  unfold objsF at hR
  rw [l27_5]
  refine ⟨M, Mem.le_refl _, _, cO hb1 3, ?_⟩
  by_cases c : p < a.top
  ·rw [if_pos (by simpa using c)]
   rw [if_pos c] at hR
   have b := look_b hw p
   refine app_int hle hO hD (by omega) fun s' M' D' hsn hle' hO' hD' => ?_
   have hb1 := hle' _ _ hP
   refine ⟨_, _, _, cO hb1 0, _, cO hb1 1, _, cO hb1 2, _, cO hb1 3, _, cO hb1 4, _, cO hb1 5, _, cO hb1 6, _, cO hb1 7, _, cO hb1 8, _, _, _, cO hb1 9, via h90 ⟨s, r, a, p, rfl, ⟨hA.le hle', hw, p0, by omega⟩, _, _, _, rfl, ?_⟩⟩
   have e : (lookW a.ws p).2.1 = szW a.ws p := rfl
   rw [e, w64 (x := p + szW a.ws p) (by omega) (by omega), w64 (x := p + szW a.ws p + 1) (by omega) (by omega), ← hsn]
   exact ih _ _ s' D' M' (by omega) (by omega) (by rw [List.length_append]; show ((acc.length + 1 : Nat) : Int) ≤ _; omega) (by rw [List.append_assoc]; exact hR) hle' hO' hD' (by omega)
  ·rw [if_neg (by simpa using c)]
   rw [if_neg c, List.append_nil] at hR
   exact hQ hs M D hle (hR ▸ hO) hD
open Classical in
noncomputable def objsA (a : Ar) : List Int := if okP a then objsL a else []
def s27 : Spec := fun args m Q => ∃ (s r : Sl) (a : Ar), args = [vA s r a] ∧ ArAt m s r a ∧ a.wf ∧ ∀ (s' : Sl) (M : Mem) (D : List Nat), Mem.le m M → OwnL M s' (objsA a) D → (∀ b ∈ D, m b = none) → Q (vs s') M
theorem f27 (t : Tab) (h20 : look t 20 = s20) (h105 : look t 105 = s105) (h90 : look t 90 = s90) : Mt t s27 kp27 Tryz.f27 := by
 rintro args m Q ⟨s, r, a, rfl, hA, hw, hQ⟩
 show FA _ _ _ _ [aG s r a] m Q
 rw [e27]
 have hN := hw.n
 refine newA_intro fun g m2 hg1 e2 hb1 hle2 => newA_intro fun g3 m4 hg3 e4 hb3 hle4 => ?_
 have hP : Ptr m2 g s r a := hb1
 have hb1 := hle4 _ _ hb1
 have l4 := Mem.le_trans hle2 hle4
 have ho : OwnL m4 ⟨some ⟨g3, 0, none⟩, 0, 0⟩ ([] : List Int) [g3] := ⟨rfl, .inr ⟨g3, 3, [], rfl, rfl, hb3, rfl⟩⟩
 have hf3 : ∀ b ∈ [g3], m2 b = none := fun b hb => by rw [List.mem_singleton] at hb; rw [hb]; exact hg3
 refine ⟨_, _, _, cO hb1 0, _, cO hb1 1, _, cO hb1 2, _, cO hb1 3, _, cO hb1 4, _, cO hb1 5, _, cO hb1 6, _, cO hb1 7, _, cO hb1 8, _, _, _, cO hb1 9, via h20 ⟨s, r, a, rfl, hA.le l4, hw, _, rfl, ?_⟩⟩
 by_cases hk : okP a
 case neg =>
  rw [pB_no hk, if_pos (by decide)]
  have e : objsA a = [] := by unfold objsA; rw [if_neg hk]
  exact ret_intro (Mem.le_refl _) (hQ ⟨some ⟨g3, 0, none⟩, 0, 0⟩ m4 [g3] l4 (e ▸ ho) fun b hb => le_none hle2 (hf3 b hb))
 rw [pB_yes hk, if_neg (by decide)]
 have e : objsA a = objsL a := by unfold objsA; rw [if_pos hk]
 obtain ⟨mk, hk⟩ := hk
 have hh := halves hk.N
 have hsm := hk.N.sm
 have := hsm.t0
 have := hsm.t1
 have := hsm.s0
 refine ⟨_, _, _, cO hb1 0, _, cO hb1 1, _, cO hb1 2, _, cO hb1 3, _, cO hb1 4, _, cO hb1 5, _, cO hb1 6, _, cO hb1 7, _, cO hb1 8, _, _, _, cO hb1 9, _, cO hb1 2, via h105 ⟨s, r, a, _, rfl, by omega, by omega, by omega, hsm.s1, _, rfl, a.ws.length + 1, ?_⟩⟩
 exact objs_loopS t h90 hw hP (hA.le hle2) (by omega) (R := objsA a) (fun s' M D hle hO hD => ret_intro (Mem.le_refl _) (hQ s' M D (Mem.le_trans hle2 hle) hO fun b hb => le_none hle2 (hD b hb))) a.ws.length _ [] ⟨some ⟨g3, 0, none⟩, 0, 0⟩ [g3] m4 (by omega) (by omega) (by show ((0 : Nat) : Int) ≤ _; omega) (by rw [e]; rfl) hle4 ho hf3 (by omega)
def setW (ws : List U64) (i x : Int) : List U64 := ws.set i.toNat ⟨x⟩
theorem setW_len (ws : List U64) (i x : Int) : (setW ws i x).length = ws.length := by unfold setW; rw [List.length_set]
theorem gw_set {ws : List U64} {i x j : Int} (i0 : 0 ≤ i) (i1 : i < ws.length) (j0 : 0 ≤ j) : gw (setW ws i x) j = if j = i then x else gw ws j := by
 unfold gw setW
 rw [List.getD_eq_getElem?_getD, List.getElem?_set]
 by_cases c : j = i
 ·subst c
  rw [if_pos rfl, if_pos (by omega), if_pos rfl]; rfl
 ·rw [if_neg (by omega), if_neg c, ← List.getD_eq_getElem?_getD]
theorem gw_ext {ws ws' : List U64} (hl : ws.length = ws'.length) (h : ∀ j : Int, 0 ≤ j → j < ws.length → gw ws j = gw ws' j) : ws = ws' := by
 apply List.ext_getElem hl
 intro i h1 h2
 have := h i (by omega) (by omega)
 unfold gw at this
 rw [Int.toNat_natCast, List.getD_eq_getElem?_getD, List.getD_eq_getElem?_getD, List.getElem?_eq_getElem h1, List.getElem?_eq_getElem h2] at this
 have e : ws[i].v = ws'[i].v := this
 cases hx : ws[i]
 cases hy : ws'[i]
 rw [hx, hy] at e
 simp at e
 rw [e]
theorem setW_same {ws : List U64} {i x : Int} (i0 : 0 ≤ i) (i1 : i < ws.length) (h : gw ws i = x) : setW ws i x = ws := by
 refine gw_ext (setW_len _ _ _) fun j j0 j1 => ?_
 rw [gw_set i0 i1 j0]
 split
 ·rename_i e; rw [e, h]
 ·rfl
def copyW (ws : List U64) (q p : Int) : Nat → List U64
 | 0 => ws
 | n + 1 => setW (copyW ws q p n) (q + n) (gw (copyW ws q p n) (p + n))
theorem copyW_len (ws : List U64) (q p : Int) : ∀ n : Nat, (copyW ws q p n).length = ws.length
 | 0 => rfl
 | n + 1 => by unfold copyW; rw [setW_len, copyW_len ws q p n]
theorem gw_copy {ws : List U64} {q p : Int} (q0 : 0 ≤ q) (p0 : 0 ≤ p) : ∀ (n : Nat), q + n ≤ ws.length → (p + n ≤ q ∨ q + n ≤ p) → ∀ j : Int, 0 ≤ j → gw (copyW ws q p n) j = if q ≤ j ∧ j < q + n then gw ws (p + (j - q)) else gw ws j
 | 0, _, _, j, j0 => by rw [if_neg (by omega)]; rfl
 | n + 1, hn, hd, j, j0 => by
  have ih := gw_copy (ws := ws) q0 p0 n (by omega) (by omega)
  unfold copyW
  rw [gw_set (by omega) (by rw [copyW_len]; omega) j0]
  by_cases c : j = q + n
  ·rw [if_pos c, if_pos (by omega), ih _ (by omega), if_neg (by omega)]
   congr 1
   omega
  ·rw [if_neg c, ih j j0]
   by_cases c2 : q ≤ j ∧ j < q + n
   ·rw [if_pos c2, if_pos (by omega)]
   ·rw [if_neg c2, if_neg (by omega)]
theorem inW_set {ws : List U64} (h : ∀ x ∈ ws, inW x.v) {i x : Int} (hx : inW x) : ∀ y ∈ setW ws i x, inW y.v := by
 intro y hy
 unfold setW at hy
 rcases List.mem_or_eq_of_mem_set hy with h1 | h1
 ·exact h y h1
 ·rw [h1]; exact hx
theorem inW_copy {ws : List U64} (h : ∀ x ∈ ws, inW x.v) (q p : Int) : ∀ n : Nat, ∀ y ∈ copyW ws q p n, inW y.v
 | 0 => h
 | n + 1 => by
  unfold copyW
  exact inW_set (inW_copy h q p n) (gw_in (inW_copy h q p n) _)
def Chain (szf : Int → Int) : Int → Int → List Int → Prop
 | s, e, [] => s = e
 | s, e, p :: T => p = s ∧ 0 ≤ szf p ∧ p + szf p + 1 ≤ e ∧ Chain szf (p + szf p + 1) e T
theorem Chain.le {szf : Int → Int} : ∀ {T : List Int} {s e : Int}, Chain szf s e T → s ≤ e
 | [], s, e, h => by have h : s = e := h; omega
 | p :: T, s, e, ⟨h1, h2, h3, h4⟩ => by have := Chain.le h4; omega
theorem Chain.mem {szf : Int → Int} : ∀ {T : List Int} {s e : Int}, Chain szf s e T → ∀ p ∈ T, s ≤ p ∧ 0 ≤ szf p ∧ p + szf p + 1 ≤ e
 | [], s, e, h, p, hp => by cases hp
 | q :: T, s, e, ⟨h1, h2, h3, h4⟩, p, hp => by
  rcases List.mem_cons.1 hp with rfl | hp
  ·exact ⟨by omega, h2, h3⟩
  ·have := Chain.mem h4 p hp
   exact ⟨by omega, this.2⟩
theorem Chain.apart {szf : Int → Int} : ∀ {T : List Int} {s e : Int}, Chain szf s e T → ∀ p ∈ T, ∀ q ∈ T, p < q → p + szf p + 1 ≤ q
 | [], s, e, h, p, hp, q, hq, hpq => by cases hp
 | x :: T, s, e, ⟨h1, h2, h3, h4⟩, p, hp, q, hq, hpq => by
  rcases List.mem_cons.1 hp with e1 | hp2
  ·rcases List.mem_cons.1 hq with e2 | hq2
   ·omega
   ·rw [e1] at hpq ⊢
    exact (Chain.mem h4 q hq2).1
  ·rcases List.mem_cons.1 hq with e2 | hq2
   ·have := (Chain.mem h4 p hp2).1; omega
   ·exact Chain.apart h4 p hp2 q hq2 hpq
theorem Chain.push {szf : Int → Int} : ∀ {T : List Int} {s e z : Int}, Chain szf s e T → 0 ≤ szf e → z = e + szf e + 1 → Chain szf s z (T ++ [e])
 | [], s, e, z, h, h0, hz => by
  have h : s = e := h
  exact ⟨h.symm, h0, by omega, hz.symm⟩
 | p :: T, s, e, z, ⟨h1, h2, h3, h4⟩, h0, hz => ⟨h1, h2, by omega, Chain.push h4 h0 hz⟩
theorem Chain.congr {f g : Int → Int} : ∀ {T : List Int} {s e : Int}, Chain f s e T → (∀ p ∈ T, g p = f p) → Chain g s e T
 | [], s, e, h, _ => h
 | p :: T, s, e, ⟨h1, h2, h3, h4⟩, hc => by
  have e1 := hc p (by simp)
  refine ⟨h1, by rw [e1]; exact h2, by rw [e1]; exact h3, ?_⟩
  rw [e1]
  exact Chain.congr h4 fun q hq => hc q (by simp [hq])
theorem Chain.next {szf : Int → Int} : ∀ {T : List Int} {s e : Int}, Chain szf s e T → ∀ p ∈ T, p + szf p + 1 = e ∨ p + szf p + 1 ∈ T
 | [], s, e, h, p, hp => by cases hp
 | q :: T, s, e, ⟨h1, h2, h3, h4⟩, p, hp => by
  rcases List.mem_cons.1 hp with rfl | hp
  ·cases T with
   | nil => left; exact h4
   | cons x T => right; rw [← h4.1]; simp
  ·rcases Chain.next h4 p hp with h | h
   ·exact .inl h
   ·exact .inr (by simp [h])
theorem Chain.first {szf : Int → Int} {T : List Int} {s e : Int} (h : Chain szf s e T) : s = e ∨ s ∈ T := by
 cases T with
 | nil => exact .inl h
 | cons p T => right; rw [← h.1]; simp
def szC (ws : List U64) (p : Int) : Int := if okW (gw ws p) = true then szW ws p else szW ws (toW ws p)
def sumC (ws : List U64) : List Int → Int
 | [] => 0
 | p :: T => (if okW (gw ws p) = true then szW ws p + 1 else 0) + sumC ws T
theorem szW_0 {ws : List U64} (h : ∀ x ∈ ws, inW x.v) (p : Int) : 0 ≤ szW ws p ∧ szW ws p ≤ 65535 := by
 have := hdW_b (gw_in h p)
 unfold szW lookW readH
 split
 ·exact ⟨this.1, this.2.1⟩
 ·exact ⟨by decide, by decide⟩
theorem sumC_0 {ws : List U64} (h : ∀ x ∈ ws, inW x.v) : ∀ T : List Int, 0 ≤ sumC ws T
 | [] => Int.le_refl _
 | p :: T => by
  have := sumC_0 h T
  have := szW_0 h p
  unfold sumC
  split <;> omega
theorem sumC_mem {ws : List U64} (h : ∀ x ∈ ws, inW x.v) : ∀ {T : List Int} {p : Int}, p ∈ T → okW (gw ws p) = true → szW ws p + 1 ≤ sumC ws T
 | q :: T, p, hp, ho => by
  unfold sumC
  have b0 := sumC_0 h T
  have b1 := szW_0 h q
  rcases List.mem_cons.1 hp with e | hp
  ·rw [← e, if_pos ho]; omega
  ·have := sumC_mem h hp ho
   split <;> omega
theorem look_c {ws ws' : List U64} {p q : Int} (h : gw ws' p = gw ws q) : lookW ws' p = lookW ws q := by unfold lookW; rw [h]
theorem sz_c {ws ws' : List U64} {p q : Int} (h : gw ws' p = gw ws q) : szW ws' p = szW ws q := by unfold szW; rw [look_c h]
theorem kd_c {ws ws' : List U64} {p q : Int} (h : gw ws' p = gw ws q) : kdW ws' p = kdW ws q := by unfold kdW; rw [look_c h]
theorem to_c {ws ws' : List U64} {p q : Int} (h : gw ws' p = gw ws q) : toW ws' p = toW ws q := by unfold toW; rw [h]
theorem val_c {ws ws' : List U64} {i j : Int} (h : gw ws' i = gw ws j) (h1 : gw ws' (i + 1) = gw ws (j + 1)) : valW ws' i = valW ws j := by unfold valW; rw [h, h1]
theorem sumC_c {ws ws' : List U64} : ∀ {T : List Int}, (∀ q ∈ T, gw ws' q = gw ws q) → sumC ws' T = sumC ws T
 | [], _ => rfl
 | q :: T, h => by
  have e := h q (by simp)
  unfold sumC
  rw [e, sz_c e, sumC_c fun x hx => h x (by simp [hx])]
theorem sumC_out {ws ws' : List U64} {szf : Int → Int} : ∀ {T : List Int} {s e p : Int}, Chain szf s e T → p ∈ T → (∀ q ∈ T, q ≠ p → gw ws' q = gw ws q) → okW (gw ws p) = true → okW (gw ws' p) = false → sumC ws' T = sumC ws T - (szW ws p + 1)
 | q :: T, s, e, p, ⟨h1, h2, h3, h4⟩, hp, hc, ho, hn => by
  unfold sumC
  by_cases c : q = p
  ·subst c
   have : sumC ws' T = sumC ws T := sumC_c fun x hx => hc x (by simp [hx]) (by have := (Chain.mem h4 x hx).1; omega)
   rw [if_pos ho, hn, if_neg (by decide), this]
   omega
  ·have hp2 : p ∈ T := by
    rcases List.mem_cons.1 hp with e | h
    ·exact absurd e.symm c
    ·exact h
   have := sumC_out h4 hp2 (fun x hx hne => hc x (by simp [hx]) hne) ho hn
   have e := hc q (by simp) c
   rw [this, e, sz_c e]
   omega
structure C0 (a : Ar) (T1 T2 : List Int) : Prop where
 wf : a.wf
 N : NumP a
 cy : a.cyc = true
 c1 : Chain (szW a.ws) (startA a a.to) a.top T1
 h1 : ∀ p ∈ T1, okW (gw a.ws p) = true
 c2 : Chain (szC a.ws) (startA a (1 - a.to)) a.old T2
 h2 : ∀ p ∈ T2, okW (gw a.ws p) = true ∨ (fwd (gw a.ws p)).2 = true ∧ toW a.ws p ∈ T1
 s2 : a.old - startA a (1 - a.to) - a.cop = sumC a.ws T2
 v1 : ∀ p ∈ T1, ∀ x ∈ slotsL (kdW a.ws p) (szW a.ws p), valOkB (valW a.ws (p + x)) = true ∧ (isRefB (valW a.ws (p + x)) = true → (valW a.ws (p + x)).2 ∈ T1 ∨ (valW a.ws (p + x)).2 ∈ T2)
 v2 : ∀ p ∈ T2, okW (gw a.ws p) = true → ∀ x ∈ slotsL (kdW a.ws p) (szW a.ws p), valOkB (valW a.ws (p + x)) = true ∧ (isRefB (valW a.ws (p + x)) = true → (valW a.ws (p + x)).2 ∈ T2)
theorem size_ok {a : Ar} (hw : a.wf) {p : Int} (h : okW (gw a.ws p) = true) : sizeB (kdW a.ws p) (szW a.ws p) = true ∧ 1 ≤ szW a.ws p := by
 have e : lookW a.ws p = hdW (gw a.ws p) := by unfold lookW readH; rw [h]; rfl
 unfold okW hdOk at h
 rw [Bool.and_eq_true] at h
 have k1 := h.1
 unfold kdW szW
 rw [e]
 refine ⟨k1, ?_⟩
 show 1 ≤ gw a.ws p / 16 % 65536
 unfold sizeB at k1
 repeat' split at k1
 all_goals first | omega | (simp only [decide_eq_true_eq] at k1; omega) | (simp at k1; done)
theorem C0.nums {a : Ar} {T1 T2 : List Int} (h : C0 a T1 T2) : 1 ≤ startA a a.to ∧ startA a a.to ≤ a.top ∧ 1 ≤ startA a (1 - a.to) ∧ startA a (1 - a.to) ≤ a.old ∧ a.old ≤ endA a (1 - a.to) ∧ 0 ≤ a.cop ∧ a.top + sumC a.ws T2 ≤ endA a a.to ∧ 0 ≤ sumC a.ws T2 ∧ endA a a.to ≤ a.ws.length ∧ endA a (1 - a.to) ≤ a.ws.length ∧ (endA a a.to < startA a (1 - a.to) ∨ endA a (1 - a.to) < startA a a.to) ∧ a.ws.length ≤ 8000 := by
 have hh := halves h.N
 have hf := h.N.f
 unfold freeP at hf
 rw [if_pos h.cy] at hf
 have := sumC_0 h.wf.w T2
 have hs := h.s2
 have h1 := h.N.sm.s1
 have hl := h.N.sm.l
 omega
theorem C0.in1 {a : Ar} {T1 T2 : List Int} (h : C0 a T1 T2) {p : Int} (hp : p ∈ T1) : startA a a.to ≤ p ∧ p + szW a.ws p + 1 ≤ a.top ∧ 1 ≤ szW a.ws p := by
 have := h.c1.mem p hp
 exact ⟨this.1, this.2.2, (size_ok h.wf (h.h1 p hp)).2⟩
theorem C0.in2 {a : Ar} {T1 T2 : List Int} (h : C0 a T1 T2) {p : Int} (hp : p ∈ T2) : startA a (1 - a.to) ≤ p ∧ p < a.old ∧ p + szC a.ws p + 1 ≤ a.old := by
 have := h.c2.mem p hp
 exact ⟨this.1, by omega, this.2.2⟩
def fwdW (a : Ar) (p : Int) : Ar := { a with ws := setW (copyW a.ws a.top p (szW a.ws p + 1).toNat) p (9223372036854775808 + a.top), top := a.top + (szW a.ws p + 1), cop := a.cop + (szW a.ws p + 1) }
theorem gw_fwd {a : Ar} {T1 T2 : List Int} (h : C0 a T1 T2) {p : Int} (hp : p ∈ T2) (ho : okW (gw a.ws p) = true) {j : Int} (j0 : 0 ≤ j) :
  gw (fwdW a p).ws j = if j = p then 9223372036854775808 + a.top else if a.top ≤ j ∧ j < a.top + (szW a.ws p + 1) then gw a.ws (p + (j - a.top)) else gw a.ws j := by
 have n := h.nums
 have i2 := h.in2 hp
 have b := szW_0 h.wf.w p
 have hm := sumC_mem h.wf.w hp ho
 have ez : szC a.ws p = szW a.ws p := if_pos ho
 show gw (setW (copyW a.ws a.top p (szW a.ws p + 1).toNat) p (9223372036854775808 + a.top)) j = _
 rw [gw_set (by omega) (by rw [copyW_len]; omega) j0]
 by_cases c : j = p
 ·rw [if_pos c, if_pos c]
 ·rw [if_neg c, if_neg c, gw_copy (by omega) (by omega) _ (by omega) (by omega) j j0, show ((szW a.ws p + 1).toNat : Int) = szW a.ws p + 1 by omega]
theorem fwd_top {t : Int} (t0 : 0 ≤ t) (t1 : t ≤ 8000) : fwd (9223372036854775808 + t) = (t, true) := by
 unfold fwd
 rw [if_neg (by omega)]
 congr 1
 omega
theorem C0.fwd {a : Ar} {T1 T2 : List Int} (h : C0 a T1 T2) {p : Int} (hp : p ∈ T2) (ho : okW (gw a.ws p) = true) : C0 (fwdW a p) (T1 ++ [a.top]) T2 := by
 have n := h.nums
 have i2 := h.in2 hp
 have b := szW_0 h.wf.w p
 have hm := sumC_mem h.wf.w hp ho
 have ez : szC a.ws p = szW a.ws p := if_pos ho
 have G : ∀ {j : Int}, 0 ≤ j → gw (fwdW a p).ws j = if j = p then 9223372036854775808 + a.top else if a.top ≤ j ∧ j < a.top + (szW a.ws p + 1) then gw a.ws (p + (j - a.top)) else gw a.ws j := fun j0 => gw_fwd h hp ho j0
 have Gp : gw (fwdW a p).ws p = 9223372036854775808 + a.top := by rw [G (by omega), if_pos rfl]
 have Gt : ∀ x : Int, 0 ≤ x → x ≤ szW a.ws p → gw (fwdW a p).ws (a.top + x) = gw a.ws (p + x) := fun x x0 x1 => by
  rw [G (by omega), if_neg (by omega), if_pos (by omega)]
  congr 1
  omega
 have Gt0 : gw (fwdW a p).ws a.top = gw a.ws p := by have := Gt 0 (by omega) b.1; rwa [Int.add_zero, Int.add_zero] at this
 have G1 : ∀ q ∈ T1, ∀ x : Int, 0 ≤ x → x ≤ szW a.ws q → gw (fwdW a p).ws (q + x) = gw a.ws (q + x) := fun q hq x x0 x1 => by
  have := h.in1 hq
  rw [G (by omega), if_neg (by omega), if_neg (by omega)]
 have G10 : ∀ q ∈ T1, gw (fwdW a p).ws q = gw a.ws q := fun q hq => by have := G1 q hq 0 (by omega) (szW_0 h.wf.w q).1; rwa [Int.add_zero] at this
 have G2 : ∀ q ∈ T2, q ≠ p → ∀ x : Int, 0 ≤ x → x ≤ szC a.ws q → gw (fwdW a p).ws (q + x) = gw a.ws (q + x) := fun q hq hne x x0 x1 => by
  have i3 := h.in2 hq
  have ap : q < p → q + szC a.ws q + 1 ≤ p := fun hl => h.c2.apart q hq p hp hl
  rw [G (by omega), if_neg (by omega), if_neg (by omega)]
 have G20 : ∀ q ∈ T2, q ≠ p → gw (fwdW a p).ws q = gw a.ws q := fun q hq hne => by have := G2 q hq hne 0 (by omega) (h.c2.mem q hq).2.1; rwa [Int.add_zero] at this
 have fT : Abs.fwd (gw (fwdW a p).ws p) = (a.top, true) := by rw [Gp]; exact fwd_top (by omega) (by omega)
 have oT : okW (gw (fwdW a p).ws p) = false := by
  cases e : okW (gw (fwdW a p).ws p) with
  | false => rfl
  | true =>
   have := ok_fwd (w := gw (fwdW a p).ws p) (by rw [Gp]; exact ⟨by omega, by omega⟩) e
   rw [fT] at this
   cases this
 have tT : toW (fwdW a p).ws p = a.top := by unfold toW; rw [fT]
 have hl : (fwdW a p).ws.length = a.ws.length := by show (setW _ _ _).length = _; rw [setW_len, copyW_len]
 have hN := h.N
 have hf := hN.f
 unfold freeP at hf
 rw [if_pos h.cy] at hf
 refine ⟨⟨?_, by rw [hl]; exact h.wf.n, h.wf.r⟩, ⟨⟨hN.sm.s0, hN.sm.s1, hN.sm.t0, hN.sm.t1, by rw [hl]; exact hN.sm.l⟩, hN.z0, hN.z1, hN.r, ?_, ?_, ?_⟩, h.cy, ?_, ?_, ?_, ?_, ?_, ?_, ?_⟩
 ·exact inW_set (inW_copy h.wf.w _ _ _) ⟨by omega, by omega⟩
 ·show startA a a.to ≤ a.top + (szW a.ws p + 1); omega
 ·show a.top + (szW a.ws p + 1) ≤ endA a a.to; omega
 ·unfold freeP
  rw [if_pos (show (fwdW a p).cyc = true from h.cy)]
  show startA a (1 - a.to) ≤ a.old ∧ a.old ≤ endA a (1 - a.to) ∧ 0 ≤ a.cop + (szW a.ws p + 1) ∧ a.cop + (szW a.ws p + 1) ≤ a.old - startA a (1 - a.to) ∧ a.top + (szW a.ws p + 1) + a.old - startA a (1 - a.to) - (a.cop + (szW a.ws p + 1)) ≤ endA a a.to
  have := h.s2
  omega
 ·refine Chain.push (h.c1.congr fun q hq => sz_c (G10 q hq)) ?_ ?_
  ·rw [sz_c Gt0]; exact b.1
  ·show a.top + (szW a.ws p + 1) = _
   rw [sz_c Gt0]; omega
 ·intro q hq
  rcases List.mem_append.1 hq with hq | hq
  ·rw [G10 q hq]; exact h.h1 q hq
  ·rw [List.mem_singleton] at hq
   rw [hq, Gt0]; exact ho
 ·refine h.c2.congr fun q hq => ?_
  by_cases e : q = p
  ·subst e
   unfold szC
   rw [oT, if_neg (by decide), tT, sz_c Gt0, if_pos ho]
  ·have e1 := G20 q hq e
   unfold szC
   rw [e1, sz_c e1, to_c e1]
   split
   ·rfl
   ·rename_i no
    exact sz_c (G10 _ ((h.h2 q hq).resolve_left no).2)
 ·intro q hq
  by_cases e : q = p
  ·subst e
   right
   rw [fT, tT]
   exact ⟨rfl, by simp⟩
  ·have e1 := G20 q hq e
   rw [e1, to_c e1]
   rcases h.h2 q hq with k | k
   ·exact .inl k
   ·exact .inr ⟨k.1, by simp [k.2]⟩
 ·show a.old - startA a (1 - a.to) - (a.cop + (szW a.ws p + 1)) = _
  rw [sumC_out h.c2 hp G20 ho oT]
  have := h.s2
  omega
 ·intro q hq x hx
  rcases List.mem_append.1 hq with hq | hq
  ·have e1 := G10 q hq
   rw [kd_c e1, sz_c e1] at hx
   have sb := slots_in (size_ok h.wf (h.h1 q hq)).1 hx
   have ev : valW (fwdW a p).ws (q + x) = valW a.ws (q + x) := val_c (G1 q hq x (by omega) (by omega)) (by have := G1 q hq (x + 1) (by omega) (by omega); rwa [← Int.add_assoc] at this)
   rw [ev]
   obtain ⟨k1, k2⟩ := h.v1 q hq x hx
   exact ⟨k1, fun hr => (k2 hr).imp (fun z => by simp [z]) id⟩
  ·rw [List.mem_singleton] at hq
   subst hq
   rw [kd_c Gt0, sz_c Gt0] at hx
   have sb := slots_in (size_ok h.wf ho).1 hx
   have ev : valW (fwdW a p).ws (a.top + x) = valW a.ws (p + x) := val_c (Gt x (by omega) (by omega)) (by have := Gt (x + 1) (by omega) (by omega); rwa [← Int.add_assoc, ← Int.add_assoc] at this)
   rw [ev]
   obtain ⟨k1, k2⟩ := h.v2 p hp ho x hx
   exact ⟨k1, fun hr => .inr (k2 hr)⟩
 ·intro q hq hoq x hx
  have e : q ≠ p := by
   rintro rfl
   rw [oT] at hoq; cases hoq
  have e1 := G20 q hq e
  rw [e1] at hoq
  rw [kd_c e1, sz_c e1] at hx
  have sb := slots_in (size_ok h.wf hoq).1 hx
  have ezq : szC a.ws q = szW a.ws q := if_pos hoq
  have ev : valW (fwdW a p).ws (q + x) = valW a.ws (q + x) := val_c (G2 q hq e x (by omega) (by omega)) (by have := G2 q hq e (x + 1) (by omega) (by omega); rwa [← Int.add_assoc] at this)
  rw [ev]
  exact h.v2 q hq hoq x hx
def fwdA (a : Ar) (v : Vl) : Ar × Vl :=
 if isRefB v = true ∧ otherA a v.2 = true then (if (fwd (gw a.ws v.2)).2 = true then (a, (v.1, toW a.ws v.2)) else (fwdW a v.2, (v.1, a.top))) else (a, v)
structure SameF (a a' : Ar) : Prop where
 semi : a'.semi = a.semi
 to : a'.to = a.to
 cyc : a'.cyc = a.cyc
 scan : a'.scan = a.scan
 old : a'.old = a.old
 ser : a'.ser = a.ser
 rs : a'.rs = a.rs
 len : a'.ws.length = a.ws.length
theorem SameF.refl (a : Ar) : SameF a a := ⟨rfl, rfl, rfl, rfl, rfl, rfl, rfl, rfl⟩
theorem SameF.trans {a b c : Ar} (h : SameF a b) (g : SameF b c) : SameF a c := ⟨g.semi.trans h.semi, g.to.trans h.to, g.cyc.trans h.cyc, g.scan.trans h.scan, g.old.trans h.old, g.ser.trans h.ser, g.rs.trans h.rs, g.len.trans h.len⟩
theorem SameF.start {a a' : Ar} (h : SameF a a') (x : Int) : startA a' x = startA a x := by unfold startA; rw [h.semi]
theorem C0.other1 {a : Ar} {T1 T2 : List Int} (h : C0 a T1 T2) {p : Int} (hp : p ∈ T1) : otherA a p = false := by
 have n := h.nums
 have i := h.in1 hp
 unfold otherA
 rw [decide_eq_false_iff_not]
 omega
theorem C0.other2 {a : Ar} {T1 T2 : List Int} (h : C0 a T1 T2) {p : Int} (hp : p ∈ T2) : otherA a p = true := by
 have n := h.nums
 have i := h.in2 hp
 have := (h.c2.mem p hp).2.1
 have hs := (h.c2.mem p hp).2.2
 unfold otherA
 rw [decide_eq_true_eq]
 omega
theorem ref_t {t n n' : Int} : isRefB (t, n') = isRefB (t, n) := rfl
theorem ref_tags {v : Vl} (h : isRefB v = true) : v.1 = 3 ∨ v.1 = 4 ∨ v.1 = 5 ∨ v.1 = 6 ∨ v.1 = 8 ∨ v.1 = 9 := by
 unfold isRefB kindT at h
 by_cases c3 : v.1 = 3
 ·omega
 by_cases c4 : v.1 = 4
 ·omega
 by_cases c5 : v.1 = 5
 ·omega
 by_cases c6 : v.1 = 6
 ·omega
 by_cases c8 : v.1 = 8
 ·omega
 by_cases c9 : v.1 = 9
 ·omega
 ·simp [c3, c4, c5, c6, c8, c9] at h
theorem valOk_ref {t n : Int} (hr : isRefB (t, n) = true) (h : 0 < n) : valOkB (t, n) = true := by
 have ht : t = 3 ∨ t = 4 ∨ t = 5 ∨ t = 6 ∨ t = 8 ∨ t = 9 := ref_tags hr
 unfold valOkB
 have e : (isRefB (t, n) && decide ((t, n).2 > 0)) = true := by rw [hr]; simpa using h
 rw [e, if_neg (by show ¬ t = 0; omega), if_neg (by show ¬ t = 1; omega), if_neg (by show ¬ t = 2; omega), if_neg (by show ¬ t = 7; omega)]
structure FwdOk (a : Ar) (T1 T2 : List Int) (v : Vl) (a' : Ar) (v' : Vl) (T1' : List Int) : Prop where
 c : C0 a' T1' T2
 sub : ∀ p ∈ T1, p ∈ T1'
 new : ∀ p ∈ T1', p ∈ T1 ∨ a.top ≤ p
 f : SameF a a'
 top : a.top ≤ a'.top
 tag : v'.1 = v.1
 ok : valOkB v' = true
 r : isRefB v' = true → v'.2 ∈ T1'
 nr : isRefB v = false → v' = v
 keep : ∀ q ∈ T1, ∀ x : Int, 0 ≤ x → x ≤ szW a.ws q → gw a'.ws (q + x) = gw a.ws (q + x)
theorem fwd_ok {a : Ar} {T1 T2 : List Int} (h : C0 a T1 T2) {v : Vl} (hv : valOkB v = true) (hr : isRefB v = true → v.2 ∈ T1 ∨ v.2 ∈ T2) : ∃ T1', FwdOk a T1 T2 v (fwdA a v).1 (fwdA a v).2 T1' := by
 have n := h.nums
 unfold fwdA
 by_cases c : isRefB v = true ∧ otherA a v.2 = true
 case neg =>
  rw [if_neg c]
  refine ⟨T1, h, fun p hp => hp, fun p hp => .inl hp, SameF.refl a, Int.le_refl _, rfl, hv, fun hr' => ?_, fun _ => rfl, fun q _ x _ _ => rfl⟩
  rcases hr hr' with k | k
  ·exact k
  ·exact absurd ⟨hr', h.other2 k⟩ c
 rw [if_pos c]
 have h2 : v.2 ∈ T2 := by
  rcases hr c.1 with k | k
  ·have := h.other1 k
   rw [c.2] at this; cases this
  ·exact k
 by_cases f : (fwd (gw a.ws v.2)).2 = true
 ·rw [if_pos f]
  have nok : ¬ okW (gw a.ws v.2) = true := fun e => by rw [ok_fwd (gw_in h.wf.w v.2) e] at f; cases f
  have ht := ((h.h2 _ h2).resolve_left nok).2
  have i := h.in1 ht
  exact ⟨T1, h, fun p hp => hp, fun p hp => .inl hp, SameF.refl a, Int.le_refl _, rfl, valOk_ref (ref_t.trans c.1) (by omega), fun _ => ht, fun e => (by rw [c.1] at e; cases e), fun q _ x _ _ => rfl⟩
 ·rw [if_neg f]
  have ok : okW (gw a.ws v.2) = true := by
   rcases h.h2 _ h2 with k | k
   ·exact k
   ·exact absurd k.1 f
  have b := szW_0 h.wf.w v.2
  have i2 := h.in2 h2
  refine ⟨T1 ++ [a.top], h.fwd h2 ok, fun p hp => by simp [hp], fun p hp => ?_, ⟨rfl, rfl, rfl, rfl, rfl, rfl, rfl, ?_⟩, ?_, rfl, valOk_ref (ref_t.trans c.1) (by show 0 < a.top; omega), fun _ => by simp, fun e => (by rw [c.1] at e; cases e), fun q hq x x0 x1 => ?_⟩
  ·rcases List.mem_append.1 hp with hp | hp
   ·exact .inl hp
   ·rw [List.mem_singleton] at hp; right; omega
  ·show (setW _ _ _).length = _; rw [setW_len, copyW_len]
  ·show a.top ≤ a.top + (szW a.ws v.2 + 1); omega
  ·have := h.in1 hq
   rw [gw_fwd h h2 ok (by omega), if_neg (by omega), if_neg (by omega)]
def uW (x : Int) : Int := IntKind.u64.wrap x
def putV (a : Ar) (i : Int) (v : Vl) : Ar := { a with ws := setW (setW a.ws i (uW v.1)) (i + 1) (uW v.2) }
theorem uW_in (x : Int) : inW (uW x) := by
 unfold uW IntKind.wrap inW
 simp [IntKind.bits, IntKind.signed] <;> omega
theorem uW_id {x : Int} (h0 : 0 ≤ x) (h1 : x < 18446744073709551616) : uW x = x := u64w h0 h1
theorem wrap_uW (x : Int) : IntKind.i64.wrap (uW x) = IntKind.i64.wrap x := by
 unfold uW IntKind.wrap
 simp [IntKind.bits, IntKind.signed] <;> omega
theorem gw_put {a : Ar} {i : Int} {v : Vl} (i0 : 0 ≤ i) (i1 : i + 1 < a.ws.length) {j : Int} (j0 : 0 ≤ j) : gw (putV a i v).ws j = if j = i then uW v.1 else if j = i + 1 then uW v.2 else gw a.ws j := by
 show gw (setW (setW a.ws i (uW v.1)) (i + 1) (uW v.2)) j = _
 rw [gw_set (by omega) (by rw [setW_len]; omega) j0]
 by_cases c : j = i + 1
 ·rw [if_pos c, if_neg (by omega), if_pos c]
 ·rw [if_neg c, gw_set i0 (by omega) j0]
  by_cases c2 : j = i
  ·rw [if_pos c2, if_pos c2]
  ·rw [if_neg c2, if_neg c2, if_neg c]
theorem put_len (a : Ar) (i : Int) (v : Vl) : (putV a i v).ws.length = a.ws.length := by
 show (setW (setW _ _ _) _ _).length = _
 rw [setW_len, setW_len]
theorem putV_same (a : Ar) (i : Int) (v : Vl) : SameF a (putV a i v) := ⟨rfl, rfl, rfl, rfl, rfl, rfl, rfl, put_len a i v⟩
def norm (v : Vl) : Vl := (v.1, IntKind.i64.wrap v.2)
theorem norm_ok {v : Vl} {lim : Int} (h : valOkB v = true) (hr : isRefB v = true → v.2 < 9223372036854775808) : valOkB (norm v) = true ∧ isRefB (norm v) = isRefB v ∧ (isRefB v = true → (norm v).2 = v.2) := by
 obtain ⟨t, n⟩ := v
 refine ⟨?_, rfl, fun e => ?_⟩
 ·by_cases c : isRefB (t, n) = true
  ·have p := ref_pos h c
   have p2 := hr c
   have p : 0 < n := p
   have p2 : n < 9223372036854775808 := p2
   unfold norm
   rw [show IntKind.i64.wrap (t, n).2 = n from w64 (by omega) (by omega)]
   exact h
  ·unfold norm
   unfold valOkB at h ⊢
   show (if t = 0 then decide (IntKind.i64.wrap n = 0) else _) = true
   by_cases t0 : t = 0
   ·rw [if_pos t0] at h ⊢
    have h : n = 0 := by simpa using h
    rw [h]; rfl
   rw [if_neg t0] at h ⊢
   by_cases t1 : t = 1
   ·rw [if_pos t1] at h ⊢
    have h : 0 ≤ n ∧ n ≤ 1 := by simpa using h
    rw [show IntKind.i64.wrap (t, n).2 = n from w64 (by omega) (by omega)]
    simpa using h
   rw [if_neg t1] at h ⊢
   by_cases t2 : t = 2
   ·rw [if_pos t2]
   rw [if_neg t2] at h ⊢
   by_cases t7 : t = 7
   ·rw [if_pos t7] at h ⊢
    have h : 1 ≤ n ∧ n ≤ 20 := by simpa using h
    rw [show IntKind.i64.wrap (t, n).2 = n from w64 (by omega) (by omega)]
    simpa using h
   ·rw [if_neg t7] at h
    rw [Bool.and_eq_true] at h
    exact absurd h.1 c
 ·have p := ref_pos h e
  have p2 := hr e
  exact w64 (by omega) (by omega)
theorem slots_far {k s x y : Int} (hx : x ∈ slotsL k s) (hy : y ∈ slotsL k s) (h : x ≠ y) : x + 2 ≤ y ∨ y + 2 ≤ x := by
 unfold slotsL everyK at hx hy
 obtain ⟨i, _, rfl⟩ := List.mem_map.1 hx
 obtain ⟨j, _, rfl⟩ := List.mem_map.1 hy
 omega
theorem slots_nodup (k s : Int) : (slotsL k s).Nodup := by
 unfold slotsL everyK
 rw [List.nodup_iff_pairwise_ne, List.pairwise_map]
 exact List.nodup_range.imp fun h e => h (by omega)
structure PutOk (a : Ar) (p x : Int) (v : Vl) (a' : Ar) (T1 T2 : List Int) : Prop where
 c : C0 a' T1 T2
 f : SameF a a'
 top : a'.top = a.top
 head : ∀ q ∈ T1, gw a'.ws q = gw a.ws q
 val : valW a'.ws (p + x) = norm v
 other : ∀ y ∈ slotsL (kdW a.ws p) (szW a.ws p), y ≠ x → valW a'.ws (p + y) = valW a.ws (p + y)
 keep : ∀ q ∈ T1, q ≠ p → ∀ y : Int, 0 ≤ y → y ≤ szW a.ws q → gw a'.ws (q + y) = gw a.ws (q + y)
theorem put_ok {a : Ar} {T1 T2 : List Int} (h : C0 a T1 T2) {p x : Int} {v : Vl} (hp : p ∈ T1) (hx : x ∈ slotsL (kdW a.ws p) (szW a.ws p)) (hv : valOkB v = true) (hr : isRefB v = true → v.2 ∈ T1) : PutOk a p x v (putV a (p + x) v) T1 T2 := by
 have n := h.nums
 have ip := h.in1 hp
 have sx := slots_in (size_ok h.wf (h.h1 p hp)).1 hx
 have G : ∀ {j : Int}, 0 ≤ j → gw (putV a (p + x) v).ws j = if j = p + x then uW v.1 else if j = p + x + 1 then uW v.2 else gw a.ws j := fun j0 => gw_put (by omega) (by omega) j0
 have N : ∀ {j : Int}, 0 ≤ j → j ≠ p + x → j ≠ p + x + 1 → gw (putV a (p + x) v).ws j = gw a.ws j := fun j0 h1 h2 => by rw [G j0, if_neg h1, if_neg h2]
 have H1 : ∀ q ∈ T1, q ≠ p → ∀ y : Int, 0 ≤ y → y ≤ szW a.ws q → gw (putV a (p + x) v).ws (q + y) = gw a.ws (q + y) := fun q hq hne y y0 y1 => by
  have iq := h.in1 hq
  have a1 : q < p → q + szW a.ws q + 1 ≤ p := fun hl => h.c1.apart q hq p hp hl
  have a2 : p < q → p + szW a.ws p + 1 ≤ q := fun hl => h.c1.apart p hp q hq hl
  exact N (by omega) (by omega) (by omega)
 have H10 : ∀ q ∈ T1, gw (putV a (p + x) v).ws q = gw a.ws q := fun q hq => by
  by_cases e : q = p
  ·subst e; exact N (by omega) (by omega) (by omega)
  ·have := H1 q hq e 0 (by omega) (szW_0 h.wf.w q).1
   rwa [Int.add_zero] at this
 have H2 : ∀ q ∈ T2, ∀ y : Int, 0 ≤ y → y ≤ szC a.ws q → gw (putV a (p + x) v).ws (q + y) = gw a.ws (q + y) := fun q hq y y0 y1 => by
  have iq := h.in2 hq
  exact N (by omega) (by omega) (by omega)
 have H20 : ∀ q ∈ T2, gw (putV a (p + x) v).ws q = gw a.ws q := fun q hq => by
  have := H2 q hq 0 (by omega) (h.c2.mem q hq).2.1
  rwa [Int.add_zero] at this
 have tv := valOk_tag hv
 have hval : valW (putV a (p + x) v).ws (p + x) = norm v := by
  unfold valW norm
  rw [G (by omega), if_pos rfl, G (by omega), if_neg (by omega), if_pos rfl, wrap_uW, wrap_uW, w64 (x := v.1) (by omega) (by omega)]
 have hoth : ∀ y ∈ slotsL (kdW a.ws p) (szW a.ws p), y ≠ x → valW (putV a (p + x) v).ws (p + y) = valW a.ws (p + y) := fun y hy hne => by
  have sy := slots_in (size_ok h.wf (h.h1 p hp)).1 hy
  have far := slots_far hy hx hne
  exact val_c (N (by omega) (by omega) (by omega)) (N (by omega) (by omega) (by omega))
 have nv := norm_ok (lim := 0) hv fun e => by have := h.in1 (hr e); omega
 have hl := put_len a (p + x) v
 have hN := h.N
 have hf := hN.f
 unfold freeP at hf
 rw [if_pos h.cy] at hf
 refine ⟨⟨⟨inW_set (inW_set h.wf.w (uW_in _)) (uW_in _), by rw [hl]; exact h.wf.n, h.wf.r⟩, ⟨⟨hN.sm.s0, hN.sm.s1, hN.sm.t0, hN.sm.t1, by rw [hl]; exact hN.sm.l⟩, hN.z0, hN.z1, hN.r, hN.p0, hN.p1, ?_⟩, h.cy, ?_, ?_, ?_, ?_, ?_, ?_, ?_⟩, putV_same _ _ _, rfl, H10, hval, hoth, H1⟩
 ·unfold freeP
  rw [if_pos (show (putV a (p + x) v).cyc = true from h.cy)]
  exact hf
 ·exact h.c1.congr fun q hq => sz_c (H10 q hq)
 ·intro q hq; rw [H10 q hq]; exact h.h1 q hq
 ·refine h.c2.congr fun q hq => ?_
  have e1 := H20 q hq
  unfold szC
  rw [e1, sz_c e1, to_c e1]
  split
  ·rfl
  ·rename_i no
   exact sz_c (H10 _ ((h.h2 q hq).resolve_left no).2)
 ·intro q hq
  have e1 := H20 q hq
  rw [e1, to_c e1]
  exact h.h2 q hq
 ·show a.old - startA a (1 - a.to) - a.cop = _
  rw [sumC_c H20]
  exact h.s2
 ·intro q hq y hy
  have e1 := H10 q hq
  rw [kd_c e1, sz_c e1] at hy
  by_cases e : q = p
  ·subst e
   by_cases ey : y = x
   ·subst ey
    rw [hval]
    refine ⟨nv.1, fun hr' => .inl ?_⟩
    rw [nv.2.1] at hr'
    rw [nv.2.2 hr']
    exact hr hr'
   ·rw [hoth y hy ey]
    exact h.v1 q hq y hy
  ·have sy := slots_in (size_ok h.wf (h.h1 q hq)).1 hy
   have ev : valW (putV a (p + x) v).ws (q + y) = valW a.ws (q + y) := val_c (H1 q hq e y (by omega) (by omega)) (by have := H1 q hq e (y + 1) (by omega) (by omega); rwa [← Int.add_assoc] at this)
   rw [ev]
   exact h.v1 q hq y hy
 ·intro q hq hoq y hy
  have e1 := H20 q hq
  rw [e1] at hoq
  rw [kd_c e1, sz_c e1] at hy
  have sy := slots_in (size_ok h.wf hoq).1 hy
  have ez : szC a.ws q = szW a.ws q := if_pos hoq
  have ev : valW (putV a (p + x) v).ws (q + y) = valW a.ws (q + y) := val_c (H2 q hq y (by omega) (by omega)) (by have := H2 q hq (y + 1) (by omega) (by omega); rwa [← Int.add_assoc] at this)
  rw [ev]
  exact h.v2 q hq hoq y hy
def scS (p : Int) : List Int → Ar → Ar
 | [], a => a
 | x :: xs, a => scS p xs (putV (fwdA a (valW a.ws (p + x))).1 (p + x) (fwdA a (valW a.ws (p + x))).2)
structure ScanOk (a : Ar) (T1 T2 : List Int) (p : Int) (xs : List Int) (a' : Ar) (T1' : List Int) : Prop where
 c : C0 a' T1' T2
 sub : ∀ q ∈ T1, q ∈ T1'
 new : ∀ q ∈ T1', q ∈ T1 ∨ a.top ≤ q
 f : SameF a a'
 top : a.top ≤ a'.top
 head : ∀ q ∈ T1, gw a'.ws q = gw a.ws q
 keep : ∀ q ∈ T1, q ≠ p → ∀ y : Int, 0 ≤ y → y ≤ szW a.ws q → gw a'.ws (q + y) = gw a.ws (q + y)
 done : ∀ x ∈ xs, isRefB (valW a'.ws (p + x)) = true → (valW a'.ws (p + x)).2 ∈ T1'
 other : ∀ y ∈ slotsL (kdW a.ws p) (szW a.ws p), y ∉ xs → valW a'.ws (p + y) = valW a.ws (p + y)
theorem scan_ok {p : Int} {T2 : List Int} : ∀ (xs : List Int) (a : Ar) (T1 : List Int), C0 a T1 T2 → p ∈ T1 → xs.Nodup → (∀ x ∈ xs, x ∈ slotsL (kdW a.ws p) (szW a.ws p)) → ∃ T1', ScanOk a T1 T2 p xs (scS p xs a) T1'
 | [], a, T1, h, hp, _, _ => ⟨T1, h, fun q hq => hq, fun q hq => .inl hq, SameF.refl a, Int.le_refl _, fun q _ => rfl, fun q _ _ y _ _ => rfl, fun x hx => (by cases hx), fun y _ _ => rfl⟩
 | x :: xs, a, T1, h, hp, hnd, hxs => by
  obtain ⟨hnx, hnd⟩ := List.nodup_cons.1 hnd
  have hx := hxs x (by simp)
  obtain ⟨v1, v2⟩ := h.v1 p hp x hx
  obtain ⟨Ta, F⟩ := fwd_ok h v1 v2
  unfold scS
  generalize hf : fwdA a (valW a.ws (p + x)) = fr at F ⊢
  obtain ⟨a1, w⟩ := fr
  have F : FwdOk a T1 T2 (valW a.ws (p + x)) a1 w Ta := F
  have K0 : ∀ q ∈ T1, gw a1.ws q = gw a.ws q := fun q hq => by have := F.keep q hq 0 (by omega) (szW_0 h.wf.w q).1; rwa [Int.add_zero] at this
  have e1 := K0 p hp
  have hx1 : x ∈ slotsL (kdW a1.ws p) (szW a1.ws p) := by rw [kd_c e1, sz_c e1]; exact hx
  have P := put_ok F.c (F.sub p hp) hx1 F.ok F.r
  generalize hb : putV a1 (p + x) w = a2 at P ⊢
  have e2 := P.head p (F.sub p hp)
  have hxs2 : ∀ y ∈ xs, y ∈ slotsL (kdW a2.ws p) (szW a2.ws p) := fun y hy => by rw [kd_c e2, sz_c e2, kd_c e1, sz_c e1]; exact hxs y (by simp [hy])
  obtain ⟨T', S⟩ := scan_ok xs a2 Ta P.c (F.sub p hp) hnd hxs2
  have nw := norm_ok (lim := 0) F.ok fun e => by have := F.c.in1 (F.r e); have := F.c.nums; omega
  refine ⟨T', S.c, fun q hq => S.sub q (F.sub q hq), fun q hq => ?_, F.f.trans (P.f.trans S.f), ?_, fun q hq => ?_, fun q hq hne y y0 y1 => ?_, fun y hy => ?_, fun y hy hny => ?_⟩
  ·rcases S.new q hq with k | k
   ·exact F.new q k
   ·right; have := F.top; have := P.top; omega
  ·have := F.top; have := P.top; have := S.top; omega
  ·rw [S.head q (F.sub q hq), P.head q (F.sub q hq), K0 q hq]
  ·have z1 := sz_c (K0 q hq)
   have z2 := sz_c (P.head q (F.sub q hq))
   rw [S.keep q (F.sub q hq) hne y y0 (by omega), P.keep q (F.sub q hq) hne y y0 (by omega), F.keep q hq y y0 y1]
  ·rcases List.mem_cons.1 hy with e | hy
   ·subst e
    have : valW (scS p xs a2).ws (p + y) = valW a2.ws (p + y) := S.other y (by rw [kd_c e2, sz_c e2, kd_c e1, sz_c e1]; exact hx) hnx
    rw [this, P.val]
    intro hr
    rw [nw.2.1] at hr
    rw [nw.2.2 hr]
    exact S.sub _ (F.r hr)
   ·exact S.done y hy
  ·have hny1 : y ≠ x := fun e => hny (by simp [e])
   have hny2 : y ∉ xs := fun e => hny (by simp [e])
   have sy := slots_in (size_ok h.wf (h.h1 p hp)).1 hy
   rw [S.other y (by rw [kd_c e2, sz_c e2, kd_c e1, sz_c e1]; exact hy) hny2, P.other y (by rw [kd_c e1, sz_c e1]; exact hy) hny1]
   exact val_c (F.keep p hp y (by omega) (by omega)) (by have := F.keep p hp (y + 1) (by omega) (by omega); rwa [← Int.add_assoc] at this)
def overA (a : Ar) : Ar := if a.cyc = true ∧ a.scan = a.top then { a with cyc := false, scan := 0, old := 0, cop := 0 } else a
def scanA (a : Ar) : Ar := { scS a.scan (slotsL (kdW a.ws a.scan) (szW a.ws a.scan)) a with scan := a.scan + szW a.ws a.scan + 1 }
def stepsA : Nat → Ar → Ar
 | 0, a => a
 | n + 1, a => if a.cyc = true then stepsA n (overA (scanA a)) else a
def cntA : Nat → Ar → Nat
 | 0, _ => 0
 | n + 1, a => if a.cyc = true then 1 + cntA n (overA (scanA a)) else 0
theorem cnt_idle : ∀ (n : Nat) {a : Ar}, a.cyc = false → cntA n a = 0
 | 0, _, _ => rfl
 | n + 1, a, h => by unfold cntA; rw [h]; rfl
theorem cnt_more : ∀ (n k : Nat) {a : Ar}, (stepsA n a).cyc = false → cntA (n + k) a = cntA n a
 | 0, k, a, h => cnt_idle _ h
 | n + 1, k, a, h => by
  rw [show n + 1 + k = n + k + 1 by omega]
  unfold cntA
  by_cases c : a.cyc = true
  ·rw [if_pos c, if_pos c]
   unfold stepsA at h
   rw [if_pos c] at h
   rw [cnt_more n k h]
  ·rw [if_neg c, if_neg c]
structure C1 (a : Ar) (T1 T2 : List Int) : Prop where
 c : C0 a T1 T2
 sc : a.scan = a.top ∨ a.scan ∈ T1
 w1 : ∀ q ∈ T1, q < a.scan → ∀ x ∈ slotsL (kdW a.ws q) (szW a.ws q), isRefB (valW a.ws (q + x)) = true → (valW a.ws (q + x)).2 ∈ T1
 r : ∀ v ∈ a.rs, valOkB v = true ∧ (isRefB v = true → v.2 ∈ T1)
structure I0 (a : Ar) (T1 : List Int) : Prop where
 wf : a.wf
 N : NumP a
 cy : a.cyc = false
 c1 : Chain (szW a.ws) (startA a a.to) a.top T1
 h1 : ∀ p ∈ T1, okW (gw a.ws p) = true
 v : ∀ p ∈ T1, ∀ x ∈ slotsL (kdW a.ws p) (szW a.ws p), valOkB (valW a.ws (p + x)) = true ∧ (isRefB (valW a.ws (p + x)) = true → (valW a.ws (p + x)).2 ∈ T1)
 r : ∀ v ∈ a.rs, valOkB v = true ∧ (isRefB v = true → v.2 ∈ T1)
def Gd (a : Ar) : Prop := (∃ T1, I0 a T1) ∨ ∃ T1 T2, C1 a T1 T2 ∧ a.scan ≠ a.top
structure Sz (a a' : Ar) : Prop where
 semi : a'.semi = a.semi
 ser : a'.ser = a.ser
 len : a'.ws.length = a.ws.length
 rl : a'.rs.length = a.rs.length
theorem Sz.refl (a : Ar) : Sz a a := ⟨rfl, rfl, rfl, rfl⟩
theorem Sz.trans {a b c : Ar} (h : Sz a b) (g : Sz b c) : Sz a c := ⟨g.semi.trans h.semi, g.ser.trans h.ser, g.len.trans h.len, g.rl.trans h.rl⟩
theorem C0.put_scan {a : Ar} {T1 T2 : List Int} (h : C0 a T1 T2) (z : Int) : C0 { a with scan := z } T1 T2 := by
 have hN := h.N
 have hf := hN.f
 unfold freeP at hf
 rw [if_pos h.cy] at hf
 refine ⟨⟨h.wf.w, h.wf.n, h.wf.r⟩, ⟨⟨hN.sm.s0, hN.sm.s1, hN.sm.t0, hN.sm.t1, hN.sm.l⟩, hN.z0, hN.z1, hN.r, hN.p0, hN.p1, ?_⟩, h.cy, h.c1, h.h1, h.c2, h.h2, h.s2, h.v1, h.v2⟩
 unfold freeP
 rw [if_pos (show ({ a with scan := z } : Ar).cyc = true from h.cy)]
 exact hf
theorem C0.put_rs {a : Ar} {T1 T2 : List Int} (h : C0 a T1 T2) {rs : List Vl} (hl : rs.length = a.rs.length) : C0 { a with rs := rs } T1 T2 := by
 have hN := h.N
 have hf := hN.f
 unfold freeP at hf
 rw [if_pos h.cy] at hf
 refine ⟨⟨h.wf.w, h.wf.n, by show rs.length ≤ _; rw [hl]; exact h.wf.r⟩, ⟨⟨hN.sm.s0, hN.sm.s1, hN.sm.t0, hN.sm.t1, hN.sm.l⟩, hN.z0, hN.z1, by show rs.length ≤ _; rw [hl]; exact hN.r, hN.p0, hN.p1, ?_⟩, h.cy, h.c1, h.h1, h.c2, h.h2, h.s2, h.v1, h.v2⟩
 unfold freeP
 rw [if_pos (show ({ a with rs := rs } : Ar).cyc = true from h.cy)]
 exact hf
theorem C1.over {a : Ar} {T1 T2 : List Int} (h : C1 a T1 T2) : Gd (overA a) ∧ Sz a (overA a) ∧ (overA a).to = a.to ∧ ((overA a).cyc = true → overA a = a) := by
 unfold overA
 by_cases c : a.cyc = true ∧ a.scan = a.top
 ·rw [if_pos c]
  have hN := h.c.N
  refine ⟨.inl ⟨T1, ⟨h.c.wf.w, h.c.wf.n, h.c.wf.r⟩, ⟨⟨hN.sm.s0, hN.sm.s1, hN.sm.t0, hN.sm.t1, hN.sm.l⟩, hN.z0, hN.z1, hN.r, hN.p0, hN.p1, ?_⟩, rfl, h.c.c1, h.c.h1, fun p hp x hx => ?_, h.r⟩, ⟨rfl, rfl, rfl, rfl⟩, rfl, fun e => by cases e⟩
  ·unfold freeP
   rw [if_neg (fun e => by cases e)]
   exact ⟨rfl, rfl, rfl⟩
  ·have := h.c.in1 hp
   have := (szW_0 h.c.wf.w p).1
   exact ⟨(h.c.v1 p hp x hx).1, h.w1 p hp (by omega) x hx⟩
 ·rw [if_neg c]
  exact ⟨.inr ⟨T1, T2, h, fun e => c ⟨h.c.cy, e⟩⟩, Sz.refl a, rfl, fun _ => rfl⟩
theorem C1.scan {a : Ar} {T1 T2 : List Int} (h : C1 a T1 T2) (hne : a.scan ≠ a.top) : ∃ T1', C1 (scanA a) T1' T2 ∧ a.scan + 2 ≤ (scanA a).scan ∧ Sz a (scanA a) ∧ (scanA a).to = a.to := by
 have hp : a.scan ∈ T1 := h.sc.resolve_left hne
 obtain ⟨T1', S⟩ := scan_ok (p := a.scan) (T2 := T2) (slotsL (kdW a.ws a.scan) (szW a.ws a.scan)) a T1 h.c hp (slots_nodup _ _) fun x hx => hx
 unfold scanA
 generalize hb : scS a.scan (slotsL (kdW a.ws a.scan) (szW a.ws a.scan)) a = b at S ⊢
 have ip := h.c.in1 hp
 have e0 := S.head a.scan hp
 have es := sz_c e0
 refine ⟨T1', ⟨S.c.put_scan _, ?_, fun q hq hlt x hx => ?_, fun v hv => ?_⟩, by show a.scan + 2 ≤ a.scan + szW a.ws a.scan + 1; omega, ⟨S.f.semi, S.f.ser, S.f.len, by show b.rs.length = _; rw [S.f.rs]⟩, S.f.to⟩
 ·have := S.c.c1.next a.scan (S.sub _ hp)
  rw [es] at this
  exact this
 ·have hlt : q < a.scan + szW a.ws a.scan + 1 := hlt
  have hx : x ∈ slotsL (kdW b.ws q) (szW b.ws q) := hx
  have hq1 : q ∈ T1 := by
   rcases S.new q hq with k | k
   ·exact k
   ·omega
  have eq := S.head q hq1
  rw [kd_c eq, sz_c eq] at hx
  by_cases e : q = a.scan
  ·subst e
   exact S.done x hx
  ·have hlt2 : q < a.scan := by
    rcases Int.lt_or_gt_of_ne e with k | k
    ·exact k
    ·have := h.c.c1.apart a.scan hp q hq1 k
     omega
   have sx := slots_in (size_ok h.c.wf (h.c.h1 q hq1)).1 hx
   have ev : valW b.ws (q + x) = valW a.ws (q + x) := val_c (S.keep q hq1 e x (by omega) (by omega)) (by have := S.keep q hq1 e (x + 1) (by omega) (by omega); rwa [← Int.add_assoc] at this)
   show isRefB (valW b.ws (q + x)) = true → (valW b.ws (q + x)).2 ∈ T1'
   rw [ev]
   exact fun hr => S.sub _ (h.w1 q hq1 hlt2 x hx hr)
 ·have hv : v ∈ b.rs := hv
  rw [S.f.rs] at hv
  exact ⟨(h.r v hv).1, fun hr => S.sub _ ((h.r v hv).2 hr)⟩
theorem steps_idle : ∀ (n : Nat) {a : Ar}, a.cyc = false → stepsA n a = a
 | 0, _, _ => rfl
 | n + 1, a, h => by unfold stepsA; rw [h]; rfl
theorem steps_more : ∀ (n k : Nat) {a : Ar}, (stepsA n a).cyc = false → stepsA (n + k) a = stepsA n a
 | 0, k, a, h => by rw [Nat.zero_add]; exact steps_idle k h
 | n + 1, k, a, h => by
  rw [Nat.add_right_comm]
  unfold stepsA at h ⊢
  by_cases c : a.cyc = true
  ·rw [if_pos c] at h ⊢
   rw [if_pos c]
   exact steps_more n k h
  ·rw [if_neg c, if_neg c]
theorem steps_gd : ∀ (n : Nat) (a : Ar), Gd a → Gd (stepsA n a) ∧ Sz a (stepsA n a) ∧ (stepsA n a).to = a.to ∧ (endA a a.to - a.scan ≤ 2 * n → (stepsA n a).cyc = false)
 | 0, a, h => by
  refine ⟨h, Sz.refl a, rfl, fun hn => ?_⟩
  rcases h with ⟨T1, h⟩ | ⟨T1, T2, h, hne⟩
  ·exact h.cy
  ·exfalso
   have := h.c.in1 (h.sc.resolve_left hne)
   have := h.c.nums
   omega
 | n + 1, a, h => by
  unfold stepsA
  rcases h with ⟨T1, h⟩ | ⟨T1, T2, h, hne⟩
  ·have hc := h.cy
   rw [hc, if_neg (by decide)]
   exact ⟨.inl ⟨T1, h⟩, Sz.refl a, rfl, fun _ => hc⟩
  ·rw [if_pos h.c.cy]
   obtain ⟨T1', k1, k2, k3, k4⟩ := h.scan hne
   obtain ⟨o1, o2, o3, o4⟩ := k1.over
   obtain ⟨i1, i2, i3, i4⟩ := steps_gd n _ o1
   refine ⟨i1, k3.trans (o2.trans i2), i3.trans (o3.trans k4), fun hn => ?_⟩
   cases hc : (overA (scanA a)).cyc with
   | false => rw [steps_idle n hc]; exact hc
   | true =>
    refine i4 ?_
    have e := o4 hc
    rw [e] at o2 o3 ⊢
    have e2 : endA (scanA a) (scanA a).to = endA a a.to := by unfold endA; rw [k3.semi, k4]
    rw [e2]
    omega
def finA (a : Ar) : Ar := stepsA 8000 (overA a)
theorem Gd.over {a : Ar} (h : Gd a) : overA a = a := by
 unfold overA
 rcases h with ⟨T1, h⟩ | ⟨T1, T2, h, hne⟩
 ·rw [if_neg (fun c => by rw [h.cy] at c; cases c.1)]
 ·rw [if_neg (fun c => hne c.2)]
theorem Gd.semi {a : Ar} (h : Gd a) : 256 ≤ a.semi ∧ a.semi ≤ 4000 ∧ 0 ≤ a.to ∧ a.to ≤ 1 ∧ (a.ws.length : Int) = 2 * a.semi := by
 rcases h with ⟨T1, h⟩ | ⟨T1, T2, h, hne⟩
 ·have s := h.N.sm; exact ⟨s.s0, s.s1, s.t0, s.t1, s.l⟩
 ·have s := h.c.N.sm; exact ⟨s.s0, s.s1, s.t0, s.t1, s.l⟩
theorem Gd.room {a : Ar} (h : Gd a) : endA a a.to - a.scan ≤ 2 * a.semi := by
 obtain ⟨s0, s1, t0, t1, l⟩ := h.semi
 have e := end_b (a := a) (h := a.to) t0 t1 s0 s1
 rcases h with ⟨T1, h⟩ | ⟨T1, T2, h, hne⟩
 ·have hf := h.N.f
  unfold freeP at hf
  rw [h.cy, if_neg (by decide)] at hf
  omega
 ·have := h.c.in1 (h.sc.resolve_left hne)
  have := h.c.nums
  omega
theorem fin_gd {a : Ar} (h : Gd a) : (∃ T1, I0 (finA a) T1) ∧ Sz a (finA a) ∧ (finA a).to = a.to ∧ ∀ n : Nat, a.semi ≤ n → stepsA n (overA a) = finA a := by
 obtain ⟨s0, s1, t0, t1, l⟩ := h.semi
 have hr := h.room
 unfold finA
 rw [h.over]
 obtain ⟨g1, g2, g3, g4⟩ := steps_gd 8000 a h
 have c := g4 (by omega)
 refine ⟨?_, g2, g3, fun n hn => ?_⟩
 ·rcases g1 with k | ⟨T1, T2, k, _⟩
  ·exact k
  ·rw [k.c.cy] at c; cases c
 ·have cn := (steps_gd n a h).2.2.2 (by omega)
  rcases Nat.le_total n 8000 with k | k
  ·obtain ⟨j, ej⟩ := Nat.exists_eq_add_of_le k
   have := steps_more n j cn
   rw [← this, ← ej]
  ·obtain ⟨j, rfl⟩ := Nat.exists_eq_add_of_le k
   exact steps_more 8000 j c
def flR : Nat → Nat → Ar → Ar
 | 0, _, a => a
 | d + 1, i, a => flR d (i + 1) { (fwdA a (a.rs.getD i (0, 0))).1 with rs := (fwdA a (a.rs.getD i (0, 0))).1.rs.set i (fwdA a (a.rs.getD i (0, 0))).2 }
def flip0 (a : Ar) : Ar := { a with old := a.top, to := 1 - a.to, top := startA a (1 - a.to), scan := startA a (1 - a.to), cop := 0, cyc := true }
def flipA (a : Ar) : Ar := overA (flR a.rs.length 0 (flip0 a))
def collA (a : Ar) : Ar := finA (flipA (finA a))
theorem chain_sum {ws : List U64} : ∀ {T : List Int} {s e : Int}, Chain (szW ws) s e T → (∀ p ∈ T, okW (gw ws p) = true) → sumC ws T = e - s
 | [], s, e, h, _ => by have h : s = e := h; unfold sumC; omega
 | p :: T, s, e, ⟨h1, h2, h3, h4⟩, ho => by
  unfold sumC
  rw [if_pos (ho p (by simp)), chain_sum h4 fun q hq => ho q (by simp [hq])]
  omega
theorem half_len {a : Ar} {h : Int} (h0 : 0 ≤ h) (h1 : h ≤ 1) : endA a h = startA a h + (a.semi - 1) := by
 rw [startA_eq h0 h1, endA_eq h0 h1]
 split <;> omega
theorem flip0_ok {a : Ar} {T1 : List Int} (h : I0 a T1) : C0 (flip0 a) [] T1 := by
 have hN := h.N
 have s0 := hN.sm.s0
 have s1 := hN.sm.s1
 have t0 := hN.sm.t0
 have t1 := hN.sm.t1
 have p0 := hN.p0
 have p1 := hN.p1
 have l1 := half_len (a := a) (h := a.to) t0 t1
 have l2 := half_len (a := a) (h := 1 - a.to) (by omega) (by omega)
 have b1 := start_b (a := a) (h := 1 - a.to) (by omega) (by omega) s0 s1
 have e : (1 : Int) - (1 - a.to) = a.to := by omega
 have es : startA (flip0 a) (1 - (flip0 a).to) = startA a a.to := by show startA a (1 - (1 - a.to)) = _; rw [e]
 have ee : endA (flip0 a) (1 - (flip0 a).to) = endA a a.to := by show endA a (1 - (1 - a.to)) = _; rw [e]
 refine ⟨⟨h.wf.w, h.wf.n, h.wf.r⟩, ⟨⟨s0, s1, by show 0 ≤ 1 - a.to; omega, by show 1 - a.to ≤ 1; omega, hN.sm.l⟩, hN.z0, hN.z1, hN.r, Int.le_refl _, by show startA a (1 - a.to) ≤ endA a (1 - a.to); omega, ?_⟩, rfl, rfl, fun p hp => (by cases hp), ?_, fun p hp => .inl (h.h1 p hp), ?_, fun p hp => (by cases hp), fun p hp _ x hx => ?_⟩
 ·unfold freeP
  rw [if_pos (show (flip0 a).cyc = true from rfl), es, ee]
  show startA a a.to ≤ a.top ∧ a.top ≤ endA a a.to ∧ (0 : Int) ≤ 0 ∧ (0 : Int) ≤ a.top - startA a a.to ∧ startA a (1 - a.to) + a.top - startA a a.to - 0 ≤ endA a (1 - a.to)
  omega
 ·rw [es]
  exact h.c1.congr fun p hp => if_pos (h.h1 p hp)
 ·rw [es]
  show a.top - startA a a.to - 0 = sumC a.ws T1
  rw [chain_sum h.c1 h.h1]
  omega
 ·exact h.v p hp x hx
structure FlI (a : Ar) (T1 T2 : List Int) (i : Nat) : Prop where
 c : C0 a T1 T2
 s : a.scan = startA a a.to
 r : ∀ (j : Nat) (h : j < a.rs.length), valOkB a.rs[j] = true ∧ (isRefB a.rs[j] = true → (j < i → a.rs[j].2 ∈ T1) ∧ (a.rs[j].2 ∈ T1 ∨ a.rs[j].2 ∈ T2))
theorem flR_ok {T2 : List Int} : ∀ (d i : Nat) (a : Ar) (T1 : List Int), i + d = a.rs.length → FlI a T1 T2 i → ∃ T1', FlI (flR d i a) T1' T2 a.rs.length ∧ Sz a (flR d i a) ∧ (flR d i a).to = a.to
 | 0, i, a, T1, hi, h => ⟨T1, by have : i = a.rs.length := by omega
                                 rw [← this]; exact h, Sz.refl a, rfl⟩
 | d + 1, i, a, T1, hi, h => by
   have hlt : i < a.rs.length := by omega
   obtain ⟨v1, v2⟩ := h.r i hlt
   have eg : a.rs.getD i (0, 0) = a.rs[i] := by rw [List.getD_eq_getElem?_getD, List.getElem?_eq_getElem hlt]; rfl
   unfold flR
   rw [eg]
   obtain ⟨Ta, F⟩ := fwd_ok h.c v1 fun hr => (v2 hr).2
   generalize hf : fwdA a a.rs[i] = fr at F ⊢
   obtain ⟨b, w⟩ := fr
   have F : FwdOk a T1 T2 a.rs[i] b w Ta := F
   have hrs : b.rs = a.rs := F.f.rs
   have hl : (b.rs.set i w).length = b.rs.length := by rw [List.length_set]
   have hb : FlI { b with rs := b.rs.set i w } Ta T2 (i + 1) := by
     refine ⟨F.c.put_rs hl, ?_, fun j hj => ?_⟩
     · show b.scan = startA b b.to
       rw [F.f.scan, h.s, F.f.start, F.f.to]
     · have hj : j < (b.rs.set i w).length := hj
       show valOkB (b.rs.set i w)[j] = true ∧ (isRefB (b.rs.set i w)[j] = true → (j < i + 1 → (b.rs.set i w)[j].2 ∈ Ta) ∧ ((b.rs.set i w)[j].2 ∈ Ta ∨ (b.rs.set i w)[j].2 ∈ T2))
       rw [List.getElem_set]
       by_cases e : i = j
       · rw [if_pos e]
         exact ⟨F.ok, fun hr => ⟨fun _ => F.r hr, .inl (F.r hr)⟩⟩
       · rw [if_neg e]
         have hja : j < a.rs.length := by rw [hl, hrs] at hj; exact hj
         have ej : b.rs[j]'(by rw [hrs]; exact hja) = a.rs[j] := by simp only [hrs]
         rw [ej]
         obtain ⟨w1, w2⟩ := h.r j hja
         exact ⟨w1, fun hr => ⟨fun hjl => F.sub _ ((w2 hr).1 (by omega)), (w2 hr).2.imp (F.sub _) id⟩⟩
   obtain ⟨T', k1, k2, k3⟩ := flR_ok d (i + 1) _ Ta (by show i + 1 + d = (b.rs.set i w).length; rw [hl, hrs]; omega) hb
   have hlen : ({ b with rs := b.rs.set i w } : Ar).rs.length = a.rs.length := by show (b.rs.set i w).length = _; rw [hl, hrs]
   rw [hlen] at k1
   exact ⟨T', k1, ⟨k2.semi.trans F.f.semi, k2.ser.trans F.f.ser, k2.len.trans F.f.len, k2.rl.trans hlen⟩, k3.trans F.f.to⟩
theorem flip_gd {a : Ar} {T1 : List Int} (h : I0 a T1) : Gd (flipA a) ∧ Sz a (flipA a) ∧ (flipA a).to = 1 - a.to := by
 have c := flip0_ok h
 have hI : FlI (flip0 a) [] T1 0 := ⟨c, rfl, fun j hj => by
  have := h.r a.rs[j] (List.getElem_mem hj)
  exact ⟨this.1, fun hr => ⟨fun e => by omega, .inr (this.2 hr)⟩⟩⟩
 obtain ⟨T', k1, k2, k3⟩ := flR_ok (flip0 a).rs.length 0 (flip0 a) [] (by omega) hI
 have k1 : FlI (flR a.rs.length 0 (flip0 a)) T' T1 a.rs.length := k1
 have k2 : Sz a (flR a.rs.length 0 (flip0 a)) := ⟨k2.semi, k2.ser, k2.len, k2.rl⟩
 have hC1 : C1 (flR a.rs.length 0 (flip0 a)) T' T1 := by
  refine ⟨k1.c, ?_, fun q hq hlt => ?_, fun v hv => ?_⟩
  ·rw [k1.s]
   rcases k1.c.c1.first with e | e
   ·exact .inl e
   ·exact .inr e
  ·have := k1.c.in1 hq
   have hs := k1.s
   omega
  ·obtain ⟨j, hj, e⟩ := List.mem_iff_getElem.1 hv
   obtain ⟨w1, w2⟩ := k1.r j hj
   rw [← e]
   refine ⟨w1, fun hr => (w2 hr).1 ?_⟩
   have := k2.rl
   show j < a.rs.length
   omega
 obtain ⟨o1, o2, o3, o4⟩ := hC1.over
 exact ⟨o1, k2.trans o2, o3.trans k3⟩
theorem coll_gd {a : Ar} (h : Gd a) : (∃ T1, I0 (collA a) T1) ∧ Sz a (collA a) := by
 obtain ⟨⟨T1, f1⟩, f2, f3, f4⟩ := fin_gd h
 obtain ⟨g1, g2, g3⟩ := flip_gd f1
 obtain ⟨⟨T1', k1⟩, k2, k3, k4⟩ := fin_gd g1
 exact ⟨⟨T1', k1⟩, f2.trans (g2.trans k2)⟩
structure WkC (a : Ar) (k p to_ : Int) (mk mk' : List Int) (sum sum' : Int) (T : List Int) : Prop where
 c : Chain (szC a.ws) p to_ T
 m : ∀ q, p ≤ q → q < to_ → (gi mk' q ≠ 0 ↔ q ∈ T)
 s : sumC a.ws T + (sum' - sum) = to_ - p
theorem wk_chain {a : Ar} (hw : a.wf) {to_ k : Int} (hk : k ≠ 0) : ∀ (f : Nat) (p : Int) (mk led : List Int) (sum : Int) (mk' : List Int) (sum' : Int), 0 ≤ p → p ≤ to_ → to_ ≤ mk.length → (∀ q, p ≤ q → q < to_ → gi mk q = 0) → wk a to_ k f p mk led sum = some (mk', sum') → ∃ T, WkC a k p to_ mk mk' sum sum' T
 | 0, p, mk, led, sum, mk', sum', _, _, _, _, h => by cases h
 | f + 1, p, mk, led, sum, mk', sum', p0, p1, tl, hz, h => by
  have hA := wk_ok hw _ _ _ _ _ _ _ p0 p1 tl h
  unfold wk at h
  by_cases c : p = to_
  ·rw [if_pos c] at h
   cases h
   exact ⟨[], c, fun q h1 h2 => by omega, by unfold sumC; omega⟩
  rw [if_neg c] at h
  by_cases c1 : okW (gw a.ws p) = true
  ·rw [if_pos c1] at h
   by_cases c2 : serW a.ws p < a.ser ∧ p + szW a.ws p + 1 ≤ to_
   ·rw [if_pos c2] at h
    have b := look_b hw p
    have hr := wk_ok hw f _ _ _ _ _ _ (by omega) c2.2 (by rw [setI_len]; exact tl) h
    have e : ∀ q, 0 ≤ q → gi (setI mk p k) q = if q = p then k else gi mk q := fun q q0 => gi_set p0 (by omega) q0
    obtain ⟨T, r⟩ := wk_chain hw hk f _ _ _ _ _ _ (by omega) c2.2 (by rw [setI_len]; exact tl) (fun q q0 q1 => by rw [e q (by omega), if_neg (by omega)]; exact hz q (by omega) q1) h
    have ez : szC a.ws p = szW a.ws p := if_pos c1
    refine ⟨p :: T, ⟨rfl, by rw [ez]; exact b.1, by rw [ez]; exact c2.2, by rw [ez]; exact r.c⟩, fun q q0 q1 => ?_, ?_⟩
    ·rw [List.mem_cons]
     by_cases d : q < p + szW a.ws p + 1
     ·have h1 := hr.o q (by omega) (.inl d)
      rw [e q (by omega)] at h1
      have hnT : q ∉ T := fun hq => by have := (r.c.mem q hq).1; omega
      by_cases d2 : q = p
      ·rw [if_pos d2] at h1
       rw [h1]
       exact ⟨fun _ => .inl d2, fun _ => hk⟩
      ·rw [if_neg d2, hz q q0 q1] at h1
       rw [h1]
       exact ⟨fun h => absurd rfl h, fun h => (h.elim d2 hnT).elim⟩
     ·rw [r.m q (by omega) q1]
      exact ⟨fun h => .inr h, fun h => h.resolve_left (by omega)⟩
    ·unfold sumC
     rw [if_pos c1]
     have := r.s
     omega
   ·rw [if_neg c2] at h; cases h
  ·rw [if_neg c1] at h
   by_cases c2 : k = 2 ∧ (fwd (gw a.ws p)).2 = true ∧ toW a.ws p < a.ws.length ∧ gi mk (toW a.ws p) = 1 ∧ toW a.ws p ∉ led ∧ p + szW a.ws (toW a.ws p) + 1 ≤ to_
   ·rw [if_pos c2] at h
    obtain ⟨k2, f2, t2, g2, l2, b2⟩ := c2
    have b := look_b hw (toW a.ws p)
    have hr := wk_ok hw f _ _ _ _ _ _ (by omega) b2 (by rw [setI_len]; exact tl) h
    have e : ∀ q, 0 ≤ q → gi (setI mk p 3) q = if q = p then 3 else gi mk q := fun q q0 => gi_set p0 (by omega) q0
    obtain ⟨T, r⟩ := wk_chain hw hk f _ _ _ _ _ _ (by omega) b2 (by rw [setI_len]; exact tl) (fun q q0 q1 => by rw [e q (by omega), if_neg (by omega)]; exact hz q (by omega) q1) h
    have ez : szC a.ws p = szW a.ws (toW a.ws p) := if_neg c1
    refine ⟨p :: T, ⟨rfl, by rw [ez]; exact b.1, by rw [ez]; exact b2, by rw [ez]; exact r.c⟩, fun q q0 q1 => ?_, ?_⟩
    ·rw [List.mem_cons]
     by_cases d : q < p + szW a.ws (toW a.ws p) + 1
     ·have h1 := hr.o q (by omega) (.inl d)
      rw [e q (by omega)] at h1
      have hnT : q ∉ T := fun hq => by have := (r.c.mem q hq).1; omega
      by_cases d2 : q = p
      ·rw [if_pos d2] at h1
       rw [h1]
       exact ⟨fun _ => .inl d2, fun _ => by decide⟩
      ·rw [if_neg d2, hz q q0 q1] at h1
       rw [h1]
       exact ⟨fun h => absurd rfl h, fun h => (h.elim d2 hnT).elim⟩
     ·rw [r.m q (by omega) q1]
      exact ⟨fun h => .inr h, fun h => h.resolve_left (by omega)⟩
    ·unfold sumC
     rw [if_neg c1]
     have := r.s
     omega
   ·rw [if_neg c2] at h; cases h
theorem frm_1 {a : Ar} {mk : List Int} {v : Vl} {frm : Int} (h : leadsB a mk v frm = true) (hr : isRefB v = true) : v.2 < mk.length ∧ (gi mk v.2 = 1 ∧ frm ≠ 3 ∨ (gi mk v.2 = 2 ∨ gi mk v.2 = 3) ∧ frm ≠ 1) := by
 unfold leadsB at h
 rw [hr, if_pos rfl] at h
 by_cases c : (mk.length : Int) ≤ v.2
 ·rw [if_pos c] at h; cases h
 rw [if_neg c] at h
 split at h
 ·rename_i d; exact ⟨by omega, d⟩
 ·cases h
theorem ok_cyc2 {a : Ar} {mk : List Int} (hw : a.wf) (h : OkM a mk) : (∃ T1, I0 a T1 ∧ ∀ q, q ∈ T1 ↔ 0 ≤ q ∧ gi mk q = 1) ∨ ∃ T1 T2, C1 a T1 T2 ∧ (∀ q, q ∈ T1 ↔ 0 ≤ q ∧ gi mk q = 1) ∧ ∀ q, q ∈ T2 ↔ 0 ≤ q ∧ (gi mk q = 2 ∨ gi mk q = 3) := by
 have hT := tile_ok hw h.N h.t
 have ht := h.t
 have hh := halves h.N
 have hf := h.N.f
 have hn := hT.n
 unfold freeP at hf
 have hz : (List.replicate a.ws.length (0 : Int)).length = a.ws.length := List.length_replicate
 cases e1 : tile1 a with
 | none => rw [tileO_n e1] at ht; cases ht
 | some y =>
  obtain ⟨mk1, x⟩ := y
  obtain ⟨n1, t1⟩ := tile1_ok hw h.N e1
  obtain ⟨T1, W1⟩ := wk_chain hw (by decide) _ _ _ _ _ _ _ (by omega) (by omega) (by omega) (fun q _ _ => gi_zero _ _) e1
  have m1 : ∀ q, q ∈ T1 ↔ 0 ≤ q ∧ gi mk1 q = 1 := fun q => by
   constructor
   ·intro hq
    have hc := W1.c.mem q hq
    have := (W1.m q hc.1 (by omega)).2 hq
    rcases t1 q (by omega) with k | k
    ·exact absurd k this
    ·exact ⟨by omega, k.1⟩
   ·rintro ⟨q0, hq⟩
    rcases t1 q q0 with k | ⟨k, k1, k2⟩
    ·omega
    ·have := k2.2.2
     have := (look_b hw q).1
     exact (W1.m q k1 (by omega)).1 (by omega)
  have ho1 : ∀ q ∈ T1, okW (gw a.ws q) = true := fun q hq => by
   obtain ⟨q0, q1⟩ := (m1 q).1 hq
   rcases t1 q q0 with k | k
   ·omega
   ·exact k.2.2.1
  have c1 : Chain (szW a.ws) (startA a a.to) a.top T1 := W1.c.congr fun q hq => (if_pos (ho1 q hq)).symm
  cases hc : a.cyc with
  | false =>
   have hmk : mk1 = mk := by rw [tileO_f e1 hc] at ht; cases ht; rfl
   subst hmk
   have ff : ∀ p, frmA a mk1 p = 1 ∨ frmA a mk1 p = 3 := fun p => by
    unfold frmA
    split
    ·exact .inl rfl
    ·split
     ·left; rw [if_neg (fun e => by rw [hc] at e; cases e.1)]
     ·exact .inr rfl
   refine .inl ⟨T1, ⟨hw, h.N, hc, c1, ho1, fun p hp x hx => ?_, fun v hv => ?_⟩, m1⟩
   ·obtain ⟨q0, q1⟩ := (m1 p).1 hp
    have hcm := W1.c.mem p hp
    obtain ⟨k1, k2, k3⟩ := (h.o p q0 (by omega) (.inl q1)).1 x hx
    refine ⟨k1, fun hr => ?_⟩
    have rp := ref_pos k1 hr
    obtain ⟨l1, l2⟩ := frm_1 k2 hr
    rcases l2 with l | l
    ·exact (m1 _).2 ⟨by omega, l.1⟩
    ·rcases t1 _ (show 0 ≤ (valW a.ws (p + x)).2 by omega) with z | z <;> omega
   ·obtain ⟨k1, k2, k3⟩ := h.r v hv
    refine ⟨k1, fun hr => ?_⟩
    have rp := ref_pos k1 hr
    obtain ⟨l1, l2⟩ := frm_1 k3 hr
    exact (m1 _).2 ⟨by omega, by omega⟩
  | true =>
   rw [if_pos hc] at hf
   obtain ⟨x1, x2⟩ := tileO_c e1 hc ht
   obtain ⟨n2, _, _, t2⟩ := tile2_ok hw h.N hc e1 x1
   have z2 : ∀ q, startA a (1 - a.to) ≤ q → q < a.old → gi mk1 q = 0 := fun q q0 q1 => by
    rcases t2 q (by omega) with u | u <;> omega
   obtain ⟨T2, W2⟩ := wk_chain hw (by decide) _ _ _ _ _ _ _ (by omega) (by omega) (by omega) z2 x1
   have m2 : ∀ q, q ∈ T2 ↔ 0 ≤ q ∧ (gi mk q = 2 ∨ gi mk q = 3) := fun q => by
    constructor
    ·intro hq
     have hcm := W2.c.mem q hq
     have := (W2.m q hcm.1 (by omega)).2 hq
     rcases t2 q (by omega) with u | ⟨u, v1, v2, w⟩
     ·omega
     ·refine ⟨by omega, ?_⟩
      rcases w with w | w | w
      ·exact absurd w this
      ·exact .inl w.1
      ·exact .inr w.1
    ·rintro ⟨q0, hq⟩
     rcases t2 q q0 with ⟨u, _⟩ | ⟨u, v1, v2, w⟩
     ·rcases t1 q q0 with k | k <;> omega
     ·exact (W2.m q v1 v2).1 (by omega)
   have m1' : ∀ q, q ∈ T1 ↔ 0 ≤ q ∧ gi mk q = 1 := fun q => by
    rw [m1 q]
    constructor
    ·rintro ⟨q0, hq⟩
     rcases t2 q q0 with ⟨u, _⟩ | u
     ·exact ⟨q0, by omega⟩
     ·omega
    ·rintro ⟨q0, hq⟩
     rcases t2 q q0 with ⟨u, _⟩ | ⟨u, v1, v2, w⟩
     ·exact ⟨q0, by omega⟩
     ·omega
   have in1 : ∀ q ∈ T1, startA a a.to ≤ q ∧ q < a.top := fun q hq => by have := W1.c.mem q hq; omega
   refine .inr ⟨T1, T2, ⟨⟨hw, h.N, hc, c1, ho1, W2.c, fun q hq => ?_, ?_, fun p hp x hx => ?_, fun p hp hok x hx => ?_⟩, ?_, fun q hq hlt x hx hr => ?_, fun v hv => ?_⟩, m1', m2⟩
   ·obtain ⟨q0, q1⟩ := (m2 q).1 hq
    have hcm := W2.c.mem q hq
    rcases q1 with k | k
    ·exact .inl (hT.h q q0 (by omega) (.inr k)).1
    ·obtain ⟨g1, g2, g3⟩ := hT.g q q0 (by omega) k
     exact .inr ⟨g1, (m1' _).2 ⟨(fwd_b _).1, g3⟩⟩
   ·have := W2.s
    omega
   ·obtain ⟨q0, q1⟩ := (m1' p).1 hp
    have hcm := in1 p hp
    obtain ⟨k1, k2, k3⟩ := (h.o p q0 (by omega) (.inl q1)).1 x hx
    refine ⟨k1, fun hr => ?_⟩
    have rp := ref_pos k1 hr
    obtain ⟨l1, l2⟩ := frm_1 k2 hr
    rcases l2 with l | l
    ·exact .inl ((m1' _).2 ⟨by omega, l.1⟩)
    ·exact .inr ((m2 _).2 ⟨by omega, l.1⟩)
   ·obtain ⟨q0, q1⟩ := (m2 p).1 hp
    have hcm := W2.c.mem p hp
    have q2 : gi mk p = 2 := by
     rcases q1 with k | k
     ·exact k
     ·have := (hT.g p q0 (by omega) k).1
      have := ok_fwd (gw_in hw.w p) hok
      simp_all
    obtain ⟨k1, k2, k3⟩ := (h.o p q0 (by omega) (.inr q2)).1 x hx
    refine ⟨k1, fun hr => ?_⟩
    have rp := ref_pos k1 hr
    obtain ⟨l1, l2⟩ := frm_1 k2 hr
    have ef : frmA a mk p = 3 := by unfold frmA; rw [if_neg (by omega), if_neg (by omega)]
    rw [ef] at l2
    exact (m2 _).2 ⟨by omega, by omega⟩
   ·rcases x2 with k | ⟨k1, k2, k3⟩
    ·exact .inl k
    ·exact .inr ((m1' _).2 ⟨k1, k3⟩)
   ·obtain ⟨q0, q1⟩ := (m1' q).1 hq
    have hcm := in1 q hq
    obtain ⟨k1, k2, k3⟩ := (h.o q q0 (by omega) (.inl q1)).1 x hx
    have rp := ref_pos k1 hr
    obtain ⟨l1, l2⟩ := frm_1 k2 hr
    have ef : frmA a mk q = 1 := by unfold frmA; rw [if_neg (by omega), if_pos q1, if_neg (by omega)]
    rw [ef] at l2
    exact (m1' _).2 ⟨by omega, by omega⟩
   ·obtain ⟨k1, k2, k3⟩ := h.r v hv
    refine ⟨k1, fun hr => ?_⟩
    have rp := ref_pos k1 hr
    obtain ⟨l1, l2⟩ := frm_1 k3 hr
    exact (m1' _).2 ⟨by omega, by omega⟩
theorem ok_cyc {a : Ar} {mk : List Int} (hw : a.wf) (h : OkM a mk) : (∃ T1, I0 a T1) ∨ ∃ T1 T2, C1 a T1 T2 :=
 (ok_cyc2 hw h).imp (fun ⟨T1, h, _⟩ => ⟨T1, h⟩) fun ⟨T1, T2, h, _⟩ => ⟨T1, T2, h⟩
def Off (X : List Nat) (m M : Mem) : Prop := ∀ b o, b ∉ X → m b = some o → M b = some o
theorem Off.refl (X : List Nat) (m : Mem) : Off X m m := fun _ _ _ h => h
theorem Off.of_le {X : List Nat} {m M : Mem} (h : Mem.le m M) : Off X m M := fun b o _ e => h b o e
theorem Off.trans {X : List Nat} {a b c : Mem} (h : Off X a b) (g : Off X b c) : Off X a c := fun x o hx e => g x o hx (h x o hx e)
theorem Off.of_eq {X : List Nat} {m M : Mem} (h : ∀ b, b ∉ X → M b = m b) : Off X m M := fun b o hb e => by rw [h b hb]; exact e
theorem Off.put {X : List Nat} {m M M' : Mem} {g : Nat} (h : Off X m M) (hg : g ∈ X) (ho : ∀ b, b ≠ g → M' b = M b) : Off X m M' := fun b o hb e => by rw [ho b (fun h' => hb (h' ▸ hg))]; exact h b o hb e
theorem Off.fresh {X : List Nat} {m M M' : Mem} {g : Nat} (h : Off X m M) (hg : m g = none) (ho : ∀ b, b ≠ g → M' b = M b) : Off X m M' := fun b o hb e => by
 rw [ho b (fun h' => by rw [h', hg] at e; cases e)]; exact h b o hb e
def mixM (X : List Nat) (m M : Mem) : Mem := fun b => if b ∈ X then M b else m b
theorem mix_in {X : List Nat} {m M : Mem} {b : Nat} (h : b ∈ X) : mixM X m M b = M b := if_pos h
theorem mix_off {X : List Nat} {m M : Mem} {b : Nat} (h : b ∉ X) : mixM X m M b = m b := if_neg h
theorem ret_off {X : List Nat} {m M : Mem} {Q : Value → Mem → Prop} {v : Value} (h : Off X m M) (hq : Q v (mixM X m M)) : ret Q v M := by
 refine ret_intro (fun b o e => ?_) hq
 by_cases hb : b ∈ X
 ·rw [mix_in hb] at e; exact e
 ·rw [mix_off hb] at e; exact h b o hb e
def Wo (m : Mem) (s r : Sl) (a : Ar) (D : List Nat) : Prop := ∃ D1 D2, OwnL m s a.ws D1 ∧ OwnL m r a.rs D2 ∧ D = D1 ++ D2 ∧ D.Nodup
theorem own_cap' {α : Type} [Enc α] {m : Mem} {s : Sl} {l : List α} {D : List Nat} (h0 : 0 < Enc.s α) (h : OwnL m s l D) : s.n ≤ s.c := by
 obtain ⟨h1, ⟨_, h2, h3, _⟩ | ⟨g, t, spare, _, _, _, h3⟩⟩ := h
 ·rw [h1, h3]; exact Nat.zero_le _
 ·rw [h1]
  exact Nat.le_of_mul_le_mul_right (by omega) h0
theorem Wo.at {m : Mem} {s r : Sl} {a : Ar} {D : List Nat} (h : Wo m s r a D) : ArAt m s r a := by
 obtain ⟨D1, D2, o1, o2, _, _⟩ := h
 exact ⟨o1.1.symm, o1.rd, o2.1.symm, o2.rd, own_cap' (by decide) o1⟩
theorem Wo.ext {m m' : Mem} {s r : Sl} {a : Ar} {D : List Nat} (h : Wo m s r a D) (he : ∀ b ∈ D, m' b = m b) : Wo m' s r a D := by
 obtain ⟨D1, D2, o1, o2, hD, hn⟩ := h
 exact ⟨D1, D2, o1.ext fun b hb => he b (by rw [hD]; simp [hb]), o2.ext fun b hb => he b (by rw [hD]; simp [hb]), hD, hn⟩
theorem Wo.live {m : Mem} {s r : Sl} {a : Ar} {D : List Nat} (h : Wo m s r a D) : ∀ b ∈ D, ∃ o, m b = some o := by
 obtain ⟨D1, D2, o1, o2, hD, hn⟩ := h
 intro b hb
 rw [hD] at hb
 rcases List.mem_append.1 hb with hb | hb
 ·exact o1.live b hb
 ·exact o2.live b hb
theorem Wo.fld {m : Mem} {s r : Sl} {a a' : Ar} {D : List Nat} (h : Wo m s r a D) (hw : a'.ws = a.ws) (hr : a'.rs = a.rs) : Wo m s r a' D := by
 unfold Wo
 rw [hw, hr]
 exact h
theorem Wo.fresh {m : Mem} {s r : Sl} {a : Ar} {D : List Nat} (h : Wo m s r a D) {g : Nat} (hg : m g = none) : g ∉ D := fun hb => by
 obtain ⟨o, ho⟩ := h.live g hb
 rw [hg] at ho
 cases ho
theorem Wo.put_w {m : Mem} {s r : Sl} {a : Ar} {D : List Nat} {K : Mem → Prop} (h : Wo m s r a D) {i x : Int} (i0 : 0 ≤ i) (i1 : i < a.ws.length)
  (hK : ∀ m', (∀ b, b ∉ D → m' b = m b) → Wo m' s r { a with ws := setW a.ws i x } D → K m') : optA s.a fun d => 0 ≤ i ∧ i < (s.n : Int) ∧ stoA m (d.add (i.toNat * 1)) [.int .u64 x] K := by
 obtain ⟨D1, D2, o1, o2, hD, hn⟩ := h
 obtain ⟨n1, ⟨_, _, e, _⟩ | ⟨g, t, spare, e1, e2, hm, e4⟩⟩ := o1
 ·rw [e] at i1; simp at i1; omega
 rw [e1]
 refine ⟨i0, by omega, ?_⟩
 have es : Enc.s U64 = 1 := rfl
 refine sto_elem (α := U64) (x := ⟨x⟩) hm ?_ (show i.toNat < a.ws.length by omega) ?_
 ·rw [add_eq rfl, es]; simp
 have hg2 : g ∉ D2 := by
  rw [hD, e2] at hn
  simpa using (List.nodup_cons.1 hn).1
 refine hK _ (fun b hb => upd_ne fun h => hb (by rw [hD, e2, h]; simp)) ⟨D1, D2, ⟨?_, .inr ⟨g, t, spare, e1, e2, upd_same _ _ _, ?_⟩⟩, o2.ext fun b hb => upd_ne fun h => hg2 (h ▸ hb), hD, hn⟩
 ·show s.n = (setW a.ws i x).length
  rw [setW_len]; exact n1
 ·show (setW a.ws i x).length * _ + _ = _
  rw [setW_len]; exact e4
theorem Wo.put_r {m : Mem} {s r : Sl} {a : Ar} {D : List Nat} {K : Mem → Prop} (h : Wo m s r a D) {i : Int} {v : Vl} (i0 : 0 ≤ i) (i1 : i < a.rs.length)
  (hK : ∀ m', (∀ b, b ∉ D → m' b = m b) → Wo m' s r { a with rs := a.rs.set i.toNat v } D → K m') : optA r.a fun d => 0 ≤ i ∧ i < (r.n : Int) ∧ stoA m (d.add (i.toNat * 2)) [.int .i64 v.1, .int .i64 v.2] K := by
 obtain ⟨D1, D2, o1, o2, hD, hn⟩ := h
 obtain ⟨n1, ⟨_, _, e, _⟩ | ⟨g, t, spare, e1, e2, hm, e4⟩⟩ := o2
 ·rw [e] at i1; simp at i1; omega
 rw [e1]
 refine ⟨i0, by omega, ?_⟩
 have es : Enc.s Vl = 2 := rfl
 refine sto_elem (α := Vl) (x := v) hm ?_ (show i.toNat < a.rs.length by omega) ?_
 ·rw [add_eq rfl, es]; simp
 have hg1 : g ∉ D1 := by
  rw [hD, e2] at hn
  intro hb
  exact (List.nodup_append.1 hn).2.2 g hb g (by simp) rfl
 refine hK _ (fun b hb => upd_ne fun h => hb (by rw [hD, e2, h]; simp)) ⟨D1, D2, o1.ext fun b hb => upd_ne fun h => hg1 (h ▸ hb), ⟨?_, .inr ⟨g, t, spare, e1, e2, upd_same _ _ _, ?_⟩⟩, hD, hn⟩
 ·show r.n = (a.rs.set i.toNat v).length
  rw [List.length_set]; exact n1
 ·show (a.rs.set i.toNat v).length * _ + _ = _
  rw [List.length_set]; exact e4
structure Im (m : Mem) (g : Nat) (s r : Sl) (a : Ar) (D : List Nat) : Prop where
 p : Ptr m g s r a
 w : Wo m s r a D
 g : g ∉ D
theorem Im.ext {m m' : Mem} {g : Nat} {s r : Sl} {a : Ar} {D : List Nat} (h : Im m g s r a D) (he : ∀ b ∈ g :: D, m' b = m b) : Im m' g s r a D :=
 ⟨by unfold Ptr; rw [he g (by simp)]; exact h.p, h.w.ext fun b hb => he b (by simp [hb]), h.g⟩
theorem Im.le {m m' : Mem} {g : Nat} {s r : Sl} {a : Ar} {D : List Nat} (h : Im m g s r a D) (hl : Mem.le m m') : Im m' g s r a D := by
 refine h.ext fun b hb => ?_
 have : ∃ o, m b = some o := by
  rcases List.mem_cons.1 hb with e | e
  ·rw [e]; exact ⟨_, h.p⟩
  ·exact h.w.live b e
 obtain ⟨o, ho⟩ := this
 rw [ho, hl b o ho]
theorem Im.fresh {m : Mem} {g : Nat} {s r : Sl} {a : Ar} {D : List Nat} (h : Im m g s r a D) {b : Nat} (hb : m b = none) : b ∉ g :: D := fun hm => by
 rcases List.mem_cons.1 hm with e | e
 ·have := h.p
  unfold Ptr at this
  rw [← e, hb] at this
  cases this
 ·exact h.w.fresh hb e
theorem Im.mix {m M : Mem} {g : Nat} {s r : Sl} {a : Ar} {D : List Nat} (h : Im M g s r a D) : Im (mixM (g :: D) m M) g s r a D := h.ext fun b hb => mix_in hb
theorem Im.fld {m : Mem} {g : Nat} {s r : Sl} {a : Ar} {D : List Nat} {K : Mem → Prop} (h : Im m g s r a D) (k : Nat) (v : Value) (a' : Ar) (he : setAll (cA s r a) k [v] = cA s r a') (hk : k < 10) (h1 : one v = true) (hw : a'.ws = a.ws) (hr : a'.rs = a.rs)
  (hK : ∀ m', (∀ b, b ≠ g → m' b = m b) → Im m' g s r a' D → K m') : stoA m ⟨g, k, none⟩ [v] K := by
 refine sto (c := cA s r a) (t := 27) h.p (by simp [h1]) (by show k + 1 ≤ 10; omega) fun m' e q ne => hK m' ne ⟨?_, (h.w.fld hw hr).ext fun b hb => ne b fun e => h.g (e ▸ hb), h.g⟩
 unfold Ptr
 rw [← he]
 exact q
theorem Im.put_w {m : Mem} {g : Nat} {s r : Sl} {a : Ar} {D : List Nat} {K : Mem → Prop} (h : Im m g s r a D) {i x : Int} (i0 : 0 ≤ i) (i1 : i < a.ws.length)
  (hK : ∀ m', (∀ b, b ∉ D → m' b = m b) → Im m' g s r { a with ws := setW a.ws i x } D → K m') : optA s.a fun d => 0 ≤ i ∧ i < (s.n : Int) ∧ stoA m (d.add (i.toNat * 1)) [.int .u64 x] K :=
 h.w.put_w i0 i1 fun m' e w => hK m' e ⟨by unfold Ptr; rw [e g h.g]; exact h.p, w, h.g⟩
theorem Im.put_r {m : Mem} {g : Nat} {s r : Sl} {a : Ar} {D : List Nat} {K : Mem → Prop} (h : Im m g s r a D) {i : Int} {v : Vl} (i0 : 0 ≤ i) (i1 : i < a.rs.length)
  (hK : ∀ m', (∀ b, b ∉ D → m' b = m b) → Im m' g s r { a with rs := a.rs.set i.toNat v } D → K m') : optA r.a fun d => 0 ≤ i ∧ i < (r.n : Int) ∧ stoA m (d.add (i.toNat * 2)) [.int .i64 v.1, .int .i64 v.2] K :=
 h.w.put_r i0 i1 fun m' e w => hK m' e ⟨by unfold Ptr; rw [e g h.g]; exact h.p, w, h.g⟩
def clrW (ws : List U64) (q : Int) : Nat → List U64
 | 0 => ws
 | n + 1 => setW (clrW ws q n) (q + n) 0
theorem clrW_len (ws : List U64) (q : Int) : ∀ n : Nat, (clrW ws q n).length = ws.length
 | 0 => rfl
 | n + 1 => by unfold clrW; rw [setW_len, clrW_len ws q n]
theorem gw_clr {ws : List U64} {q : Int} (q0 : 0 ≤ q) : ∀ (n : Nat), q + n ≤ ws.length → ∀ j : Int, 0 ≤ j → gw (clrW ws q n) j = if q ≤ j ∧ j < q + n then 0 else gw ws j
 | 0, _, j, j0 => by rw [if_neg (by omega)]; rfl
 | n + 1, hn, j, j0 => by
  unfold clrW
  rw [gw_set (by omega) (by rw [clrW_len]; omega) j0, gw_clr q0 n (by omega) j j0]
  by_cases c : j = q + n
  ·rw [if_pos c, if_pos (by omega)]
  ·rw [if_neg c]
   by_cases d : q ≤ j ∧ j < q + n
   ·rw [if_pos d, if_pos (by omega)]
   ·rw [if_neg d, if_neg (by omega)]
theorem gw_mid {ws l : List U64} {q : Nat} (h : q + l.length ≤ ws.length) (j : Int) (j0 : 0 ≤ j) : gw (ws.take q ++ l ++ ws.drop (q + l.length)) j = if q ≤ j ∧ j < q + l.length then gw l (j - q) else gw ws j := by
 unfold gw
 simp only [List.getD_eq_getElem?_getD]
 have e : (ws.take q).length = q := by rw [List.length_take]; omega
 by_cases c : j < q
 ·rw [if_neg (by omega), List.append_assoc, List.getElem?_append_left (by omega), List.getElem?_take, if_pos (by omega)]
 ·by_cases d : j < q + l.length
  ·rw [if_pos (by omega), List.getElem?_append_left (by rw [List.length_append]; omega), List.getElem?_append_right (by omega), e]
   have : j.toNat - q = (j - q).toNat := by omega
   rw [this]
  ·rw [if_neg (by omega), List.getElem?_append_right (by rw [List.length_append]; omega), List.getElem?_drop, List.length_append, e]
   have : q + l.length + (j.toNat - (q + l.length)) = j.toNat := by omega
   rw [this]
theorem mid_len {ws l : List U64} {q : Nat} (h : q + l.length ≤ ws.length) : (ws.take q ++ l ++ ws.drop (q + l.length)).length = ws.length := by
 simp only [List.length_append, List.length_take, List.length_drop]
 omega
theorem sto_mid {m : Mem} {g : Nat} {t : TypeId} {ws l : List U64} {spare : List Value} {q : Nat} {K : Mem → Prop} (hm : m g = some (.cells (flat Enc.e ws ++ spare).toArray t (0, 0))) (h : q + l.length ≤ ws.length)
  (hK : K (m.upd g (.cells (flat Enc.e (ws.take q ++ l ++ ws.drop (q + l.length)) ++ spare).toArray t (0, 0)))) : stoA m ⟨g, q, none⟩ (flat Enc.e l) K := by
 have fl : ∀ x : List U64, (flat Enc.e x).length = x.length := fun x => by rw [flat_len]; exact Nat.mul_one _
 have hsp : flat Enc.e ws ++ spare = flat Enc.e (ws.take q) ++ (flat Enc.e (ws.drop q) ++ spare) := by
  rw [← List.append_assoc, ← flat_append, List.take_append_drop]
 have e : (flat Enc.e (ws.take q)).length = q := by rw [fl, List.length_take]; omega
 refine sto hm (flat_one l) (by simp [fl]; omega) fun m' e1 _ _ => ?_
 have h1 := set_all_mid (flat Enc.e l) (flat Enc.e (ws.take q)) (flat Enc.e (ws.drop q) ++ spare) (by simp [fl]; omega)
 rw [e] at h1
 rw [e1, hsp, h1]
 have h2 : (flat Enc.e (ws.drop q) ++ spare).drop (flat Enc.e l).length = flat Enc.e (ws.drop (q + l.length)) ++ spare := by
  rw [List.drop_append_of_le_length (by rw [fl, fl, List.length_drop]; omega)]
  congr 1
  have : ws.drop q = (ws.drop q).take l.length ++ ws.drop (q + l.length) := by rw [← List.drop_drop, List.take_append_drop]
  conv => lhs; rw [this, flat_append]
  exact List.drop_left' (by rw [fl, fl, List.length_take, List.length_drop]; omega)
 rw [h2]
 have h3 : flat Enc.e (ws.take q) ++ flat Enc.e l ++ (flat Enc.e (ws.drop (q + l.length)) ++ spare) = flat Enc.e (ws.take q ++ l ++ ws.drop (q + l.length)) ++ spare := by
  rw [flat_append, flat_append]
  simp only [List.append_assoc]
 rw [h3]
 exact hK
theorem Wo.base {m : Mem} {s r : Sl} {a : Ar} {D : List Nat} (h : Wo m s r a D) (h0 : 0 < a.ws.length) : ∃ d, s.a = some d := by
 obtain ⟨D1, D2, ⟨n1, ⟨_, _, e, _⟩ | ⟨g, t, spare, e1, e2, hm, e4⟩⟩, o2, hD, hn⟩ := h
 ·rw [e] at h0; simp at h0
 ·exact ⟨_, e1⟩
theorem Wo.mid {m : Mem} {s r : Sl} {a : Ar} {D : List Nat} {K : Mem → Prop} (h : Wo m s r a D) {d : Addr} (hd : s.a = some d) {q : Int} {l : List U64} {ws' : List U64} (q0 : 0 ≤ q) (q1 : q + l.length ≤ a.ws.length) (l0 : 0 < l.length) (hl : ws'.length = a.ws.length)
  (hg : ∀ j : Int, 0 ≤ j → j < a.ws.length → gw ws' j = if q ≤ j ∧ j < q + l.length then gw l (j - q) else gw a.ws j)
  (hK : ∀ m', (∀ b, b ∉ D → m' b = m b) → Wo m' s r { a with ws := ws' } D → K m') : stoA m (d.add (q.toNat * 1)) (flat Enc.e l) K := by
 obtain ⟨D1, D2, o1, o2, hD, hn⟩ := h
 obtain ⟨n1, ⟨_, _, e, _⟩ | ⟨g, t, spare, e1, e2, hm, e4⟩⟩ := o1
 ·rw [e] at q1; simp at q1; omega
 rw [e1] at hd
 cases hd
 have ha : (⟨g, 0, none⟩ : Addr).add (q.toNat * 1) = ⟨g, q.toNat, none⟩ := by rw [add_eq rfl]; simp
 rw [ha]
 refine sto_mid hm (by omega) ?_
 have hg2 : g ∉ D2 := by
  rw [hD, e2] at hn
  simpa using (List.nodup_cons.1 hn).1
 have ew : a.ws.take q.toNat ++ l ++ a.ws.drop (q.toNat + l.length) = ws' := gw_ext (by rw [mid_len (by omega), hl]) fun j j0 j1 => by
  rw [mid_len (by omega)] at j1
  rw [gw_mid (by omega) j j0, hg j j0 j1]
  have : (q.toNat : Int) = q := Int.toNat_of_nonneg q0
  rw [this]
 rw [ew]
 refine hK _ (fun b hb => upd_ne fun h => hb (by rw [hD, e2, h]; simp)) ⟨D1, D2, ⟨?_, .inr ⟨g, t, spare, e1, e2, upd_same _ _ _, ?_⟩⟩, o2.ext fun b hb => upd_ne fun h => hg2 (h ▸ hb), hD, hn⟩
 ·show s.n = ws'.length
  rw [hl]; exact n1
 ·show ws'.length * _ + _ = _
  rw [hl]; exact e4
def s194 : Spec := fun args m Q => ∃ (g : Nat) (s r : Sl) (a : Ar) (D : List Nat), args = [.pointer (some ⟨g, 0, none⟩)] ∧ Im m g s r a D ∧
 ∀ m', (∀ b, b ∉ g :: D → m' b = m b) → Im m' g s r (overA a) D → Q (.tuple #[]) m'
theorem f194 (t : Tab) : Mt t s194 kp194 Tryz.f194 := by
 rintro args m Q ⟨g, s, r, a, D, rfl, im, hQ⟩
 rw [e194]
 refine ⟨Mem.le m, Mem.le_refl _, _, held (cO im.p 4), ?_⟩
 cases hc : a.cyc with
 | false =>
  rw [if_neg (by simp)]
  have e : overA a = a := by unfold overA; rw [if_neg (by rw [hc]; simp)]
  rw [e] at hQ
  exact ret_intro (Mem.le_refl _) (hQ m (fun _ _ => rfl) im)
 | true =>
  rw [if_pos rfl]
  refine ⟨_, held (cO im.p 5), _, held (cO im.p 3), ?_⟩
  by_cases hs : a.scan = a.top
  ·rw [if_pos (by simpa using hs)]
   have e : overA a = { a with cyc := false, scan := 0, old := 0, cop := 0 } := by unfold overA; rw [if_pos ⟨hc, hs⟩]
   rw [e] at hQ
   refine im.fld 4 _ { a with cyc := false } rfl (by decide) rfl rfl rfl fun m1 o1 im1 => ?_
   refine im1.fld 5 _ { a with cyc := false, scan := 0 } rfl (by decide) rfl rfl rfl fun m2 o2 im2 => ?_
   refine im2.fld 6 _ { a with cyc := false, scan := 0, old := 0 } rfl (by decide) rfl rfl rfl fun m3 o3 im3 => ?_
   refine im3.fld 7 _ { a with cyc := false, scan := 0, old := 0, cop := 0 } rfl (by decide) rfl rfl rfl fun m4 o4 im4 => ?_
   refine ret_off (X := g :: D) (((((Off.refl _ m).put (by simp) o1).put (by simp) o2).put (by simp) o3).put (by simp) o4) (hQ _ (fun b hb => mix_off hb) im4.mix)
  ·rw [if_neg (by simpa using hs)]
   have e : overA a = a := by unfold overA; rw [if_neg (by simp [hs])]
   rw [e] at hQ
   exact ret_intro (Mem.le_refl _) (hQ m (fun _ _ => rfl) im)
def RefIn (a : Ar) (v : Vl) : Prop := ∃ T1 T2, C0 a T1 T2 ∧ valOkB v = true ∧ (isRefB v = true → v.2 ∈ T1 ∨ v.2 ∈ T2)
def s193 : Spec := fun args m Q => ∃ (g : Nat) (s r : Sl) (a : Ar) (D : List Nat) (v : Vl), args = [.pointer (some ⟨g, 0, none⟩), vVl v] ∧ Im m g s r a D ∧
 (a.cyc = false ∧ Q (vVl v) m ∨ RefIn a v ∧ ∀ m', (∀ b, b ∉ g :: D → m' b = m b) → Im m' g s r (fwdA a v).1 D → Q (vVl (fwdA a v).2) m')
theorem or_top {t : Int} (t0 : 0 ≤ t) (t1 : t ≤ 8000) : IntKind.u64.wrap (BitVec.toNat (BitVec.ofInt (IntKind.bits .u64) (9223372036854775808 : Int) ||| BitVec.ofInt (IntKind.bits .u64) (IntKind.u64.wrap t))) = 9223372036854775808 + t := by
 rw [u64w (x := t) t0 (by omega)]
 obtain ⟨n, rfl⟩ : ∃ n : Nat, t = n := ⟨t.toNat, by omega⟩
 have hb : IntKind.bits .u64 = 64 := rfl
 rw [hb]
 have e1 : BitVec.ofInt 64 (9223372036854775808 : Int) = BitVec.ofNat 64 (2 ^ 63) := by decide
 have e2 : BitVec.ofInt 64 (n : Int) = BitVec.ofNat 64 n := by simp
 rw [e1, e2, BitVec.toNat_or, BitVec.toNat_ofNat, BitVec.toNat_ofNat, Nat.mod_eq_of_lt (by decide), Nat.mod_eq_of_lt (by omega)]
 have : 2 ^ 63 ||| n = 2 ^ 63 + n := by
  have := Nat.two_pow_add_eq_or_of_lt (i := 63) (b := n) (by omega) 1
  rw [Nat.mul_one] at this
  exact this.symm
 rw [this, u64w (by omega) (by omega)]
 omega
theorem copA_w {m : Mem} {base : Addr} {dl dc n c : Nat} {b : Option Addr} {l : List U64} {K : Value → Mem → Prop} (hc : CellsAt m b (flat Enc.e l)) (hl : l.length = min n dl)
  (h : stoA m base (flat Enc.e l) fun m' => K (.int .i64 (min n dl : Nat)) m') : copA Tryz.prog #[24, 24] (.slice (some base) dl dc) (.slice b n c) K m := by
 have e : copA Tryz.prog #[24, 24] (.slice (some base) dl dc) (.slice b n c) K m = (∃ news : List Value, news.length = min n dl * 1 ∧ CellsAt m b news ∧ stoA m base news fun m' => K (.int .i64 (min n dl : Nat)) m') := by kernel_rfl
 rw [e]
 exact ⟨_, by rw [flat_len, hl]; rfl, hc, h⟩
theorem gw_part {ws : List U64} {p : Int} {n : Nat} {j : Int} (p0 : 0 ≤ p) (j0 : 0 ≤ j) (j1 : j < n) : gw ((ws.drop p.toNat).take n) j = gw ws (p + j) := by
 unfold gw
 simp only [List.getD_eq_getElem?_getD]
 rw [List.getElem?_take, if_pos (by omega), List.getElem?_drop]
 have : p.toNat + j.toNat = (p + j).toNat := by omega
 rw [this]
theorem f193 (t : Tab) (h218 : look t 218 = s218) (h102 : look t 102 = s102) (h181 : look t 181 = s181) (h148 : look t 148 = s148) : Mt t s193 kp193 Tryz.f193 := by
 rintro args m Q ⟨g, s, r, a, D, v, rfl, im, hQ⟩
 show FA _ _ _ _ [.pointer (some ⟨g, 0, none⟩), .agg #[.int .i64 v.1, .int .i64 v.2]] m Q
 rw [e193]
 refine newA_intro fun g1 m2 hg1 e2 hb1 hle2 => newA_intro fun g3 m4 hg3 e4 hb3 hle4 => ?_
 have l4 : Mem.le m m4 := Mem.le_trans hle2 hle4
 have im4 := im.le l4
 have n1 := im.fresh hg1
 have n3 := (im.le hle2).fresh hg3
 have b1 := hle4 _ _ hb1
 have n13 : g1 ≠ g3 := ne_of_none hg3 hb1
 have hg3' : m g3 = none := le_none hle2 hg3
 refine ⟨_, cO im4.p 4, ?_⟩
 have same : ∀ M : Mem, Off (g :: D) m M → Im M g s r a D → M g1 = some (.cells #[.int .i64 v.1, .int .i64 v.2] 75 (0, 0)) → M g3 = some (.cells #[.int .i64 0, .int .i64 0] 75 (0, 0)) → Q (vVl v) (mixM (g :: D) m M) →
   ∃ y : Int, (Mem.cell? M ⟨g1, 0, none⟩ = some (.int .i64 y) ∧ ∃ y9 : Int, (Mem.cell? M ⟨g1, 1, none⟩ = some (.int .i64 y9) ∧ stoA M ⟨g3, 0, none⟩ [(.int .i64 y), (.int .i64 y9)] fun m11 => (∃ y12 : Int, (Mem.cell? m11 ⟨g3, 0, none⟩ = some (.int .i64 y12) ∧ (∃ y14 : Int, (Mem.cell? m11 ⟨g3, 1, none⟩ = some (.int .i64 y14) ∧ (ret Q (.agg #[(.int .i64 y12), (.int .i64 y14)]) m11))))))) := by
  intro M hO hI h1 h3 hq
  refine ⟨_, cO h1 0, _, cO h1 1, sto (c := #[.int .i64 0, .int .i64 0]) (t := 75) h3 rfl (by simp) fun m11 e11 h11 ne11 => ?_⟩
  have h11 : m11 g3 = some (.cells #[.int .i64 v.1, .int .i64 v.2] 75 (0, 0)) := h11
  refine ⟨_, cO h11 0, _, cO h11 1, ret_off (hO.fresh hg3' ne11) ?_⟩
  have : mixM (g :: D) m m11 = mixM (g :: D) m M := by
   funext b
   by_cases hb : b ∈ g :: D
   ·rw [mix_in hb, mix_in hb, ne11 b (fun e => n3 (e ▸ hb))]
   ·rw [mix_off hb, mix_off hb]
  rw [this]
  exact hq
 have mixm : mixM (g :: D) m m4 = m := by
  funext b
  by_cases hb : b ∈ g :: D
  ·rw [mix_in hb]
   have : ∃ o, m b = some o := by
    rcases List.mem_cons.1 hb with e | e
    ·rw [e]; exact ⟨_, im.p⟩
    ·exact im.w.live b e
   obtain ⟨o, ho⟩ := this
   rw [ho, l4 b o ho]
  ·rw [mix_off hb]
 have same4 := fun hq => same m4 (Off.of_le l4) im4 b1 hb3 (by rw [mixm]; exact hq)
 cases hc : a.cyc with
 | false =>
  rw [if_pos (by rfl)]
  rcases hQ with ⟨_, hQ⟩ | ⟨⟨T1, T2, hC, _⟩, _⟩
  ·exact same4 hQ
  ·rw [hC.cy] at hc; cases hc
 | true =>
  rw [if_neg (by simp)]
  obtain ⟨⟨T1, T2, hC, hv, hin⟩, hQ⟩ : RefIn a v ∧ ∀ m', (∀ b, b ∉ g :: D → m' b = m b) → Im m' g s r (fwdA a v).1 D → Q (vVl (fwdA a v).2) m' := by
   rcases hQ with ⟨h, _⟩ | h
   ·rw [hc] at h; cases h
   ·exact h
  have nm := hC.nums
  have hs1 := hC.N.sm.s1
  have hl := hC.N.sm.l
  refine ⟨_, cO b1 0, _, cO b1 1, via h148 ⟨v, rfl, _, rfl, ?_⟩⟩
  cases hr : isRefB v with
  | false =>
   rw [if_pos (by rfl)]
   have e : fwdA a v = (a, v) := by unfold fwdA; rw [if_neg (by rw [hr]; simp)]
   rw [e] at hQ
   exact same4 (hQ m (fun _ _ => rfl) im)
  | true =>
   rw [if_neg (by simp)]
   refine ⟨_, cO b1 1, via h218 ⟨g, s, r, a, v.2, rfl, im4.p, hC.N.sm, _, rfl, ?_⟩⟩
   cases ho : otherA a v.2 with
   | false =>
    rw [if_pos (by rfl)]
    have e : fwdA a v = (a, v) := by unfold fwdA; rw [if_neg (by rw [ho]; simp)]
    rw [e] at hQ
    exact same4 (hQ m (fun _ _ => rfl) im)
   | true =>
    rw [if_neg (by simp)]
    have hp : v.2 ∈ T2 := by
     rcases hin hr with h | h
     ·rw [hC.other1 h] at ho; cases ho
     ·exact h
    have i2 := hC.in2 hp
    have h0 : 0 ≤ v.2 := by omega
    have h1 : v.2 < a.ws.length := by omega
    refine ⟨Mem.le m4, Mem.le_refl _, _, _, _, held (cO im4.p 0), _, held (cO b1 1), wd im4.w.at.w im4.w.at.n h0 (by rw [← im4.w.at.n]; exact h1) fun ad had hd => ⟨_, hd, via h181 ⟨_, rfl, gw_in hC.wf.w v.2, _, _, rfl, Mem.le_refl _, ?_⟩⟩⟩
    cases hf : (fwd (gw a.ws v.2)).2 with
    | true =>
     rw [if_pos rfl]
     have e : fwdA a v = (a, (v.1, toW a.ws v.2)) := by unfold fwdA; rw [if_pos ⟨hr, ho⟩, if_pos hf]
     rw [e] at hQ
     refine sto (c := #[.int .i64 v.1, .int .i64 v.2]) (t := 75) b1 rfl (by simp) fun m5 e5 h5 ne5 => ?_
     have h5 : m5 g1 = some (.cells #[.int .i64 v.1, .int .i64 (fwd (gw a.ws v.2)).1] 75 (0, 0)) := h5
     have b3 : m5 g3 = some (.cells #[.int .i64 0, .int .i64 0] 75 (0, 0)) := by rw [ne5 g3 (Ne.symm n13)]; exact hb3
     have o5 : Off (g :: D) m m5 := (Off.of_le l4).fresh hg1 ne5
     refine ⟨_, cO h5 0, _, cO h5 1, sto (c := #[.int .i64 0, .int .i64 0]) (t := 75) b3 rfl (by simp) fun m6 e6 h6 ne6 => ?_⟩
     have h6 : m6 g3 = some (.cells #[.int .i64 v.1, .int .i64 (fwd (gw a.ws v.2)).1] 75 (0, 0)) := h6
     refine ⟨_, cO h6 0, _, cO h6 1, ret_off (o5.fresh hg3' ne6) (hQ _ (fun b hb => mix_off hb) (Im.mix (im4.ext fun b hb => ?_)))⟩
     rw [ne6 b (fun e => n3 (e ▸ hb)), ne5 b (fun e => n1 (e ▸ hb))]
    | false =>
     rw [if_neg (by simp)]
     have e : fwdA a v = (fwdW a v.2, (v.1, a.top)) := by unfold fwdA; rw [if_pos ⟨hr, ho⟩, if_neg (by rw [hf]; simp)]
     rw [e] at hQ
     have hok : okW (gw a.ws v.2) = true := by
      rcases hC.h2 v.2 hp with h | h
      ·exact h
      ·rw [hf] at h; cases h.1
     have bz := szW_0 hC.wf.w v.2
     have hs2 := hC.s2
     have hm := sumC_mem hC.wf.w hp hok
     have ez : szC a.ws v.2 = szW a.ws v.2 := if_pos hok
     have w1 : IntKind.i64.wrap (szW a.ws v.2 + 1) = szW a.ws v.2 + 1 := w64 (by omega) (by omega)
     have w2 : IntKind.i64.wrap (a.top + (szW a.ws v.2 + 1)) = a.top + (szW a.ws v.2 + 1) := w64 (by omega) (by omega)
     have w3 : IntKind.i64.wrap (v.2 + (szW a.ws v.2 + 1)) = v.2 + (szW a.ws v.2 + 1) := w64 (by omega) (by omega)
     have w4 : IntKind.i64.wrap (a.cop + (szW a.ws v.2 + 1)) = a.cop + (szW a.ws v.2 + 1) := w64 (by omega) (by omega)
     have hAt := im4.w.at
     have hsn := hAt.n
     have hsc := hAt.c
     refine ⟨_, cO b1 1, via h102 ⟨g, s, r, a, v.2, rfl, ⟨im4.p, hAt, hC.wf, h0, h1⟩, _, _, _, rfl, ?_⟩⟩
     refine ⟨Mem.le m4, Mem.le_refl _, _, _, _, held (cO im4.p 0), _, held (cO im4.p 3), _, held (cO im4.p 3), ?_⟩
     rw [show IntKind.i64.wrap ((lookW a.ws v.2).2.1 + 1) = szW a.ws v.2 + 1 from w1, w2]
     have ht0 : 0 ≤ a.top := by omega
     have hcap : a.top + (szW a.ws v.2 + 1) ≤ s.c := by omega
     refine ⟨by omega, hcap, by omega, by omega, _, _, _, held (cO im4.p 0), _, held (cO b1 1), _, held (cO b1 1), by rw [w3]; omega, by rw [w3]; omega, by omega, by rw [w3]; omega, ?_⟩
     rw [w3, if_neg (by omega)]
     have hws : ((a.ws.drop v.2.toNat).take (szW a.ws v.2 + 1).toNat).length = (szW a.ws v.2 + 1).toNat := by rw [List.length_take, List.length_drop]; omega
     have hrd : Rd m4 (if s.c = v.2.toNat then s.a else Option.map (·.add (v.2.toNat * 1)) s.a) (((a.ws.drop v.2.toNat).take (szW a.ws v.2 + 1).toNat)) := by
      rw [if_neg (by omega)]
      exact (hAt.w.drop v.2.toNat).take _
     obtain ⟨d, hd⟩ := im4.w.base (by omega)
     rw [hd] at hrd
     rw [show Option.map (·.add (a.top.toNat * 1)) s.a = some (d.add (a.top.toNat * 1)) by rw [hd]; rfl]
     rw [hd]
     refine copA_w (cells_of_rd hrd) (by rw [hws]; omega) ?_
     refine im4.w.mid hd (q := a.top) (ws' := copyW a.ws a.top v.2 (szW a.ws v.2 + 1).toNat) ht0 (by rw [hws]; omega) (by rw [hws]; omega) (copyW_len _ _ _ _) (fun j j0 j1 => by
      rw [hws]
      rw [gw_copy ht0 h0 _ (by omega) (by omega) j j0]
      by_cases c : a.top ≤ j ∧ j < a.top + ((szW a.ws v.2 + 1).toNat : Nat)
      ·rw [if_pos c, if_pos c, gw_part h0 (by omega) (by omega)]
      ·rw [if_neg c, if_neg c]) (fun m5 o5 w5 => ?_)
     have p5 : Im m5 g s r { a with ws := copyW a.ws a.top v.2 (szW a.ws v.2 + 1).toNat } D := ⟨by unfold Ptr; rw [o5 g im4.g]; exact im4.p, w5, im4.g⟩
     have h15 : m5 g1 = some (.cells #[.int .i64 v.1, .int .i64 v.2] 75 (0, 0)) := by rw [o5 g1 (fun h => n1 (by simp [h]))]; exact b1
     have h35 : m5 g3 = some (.cells #[.int .i64 0, .int .i64 0] 75 (0, 0)) := by rw [o5 g3 (fun h => n3 (by simp [h]))]; exact hb3
     have off5 : Off (g :: D) m m5 := (Off.of_le l4).trans (Off.of_eq fun b hb => o5 b fun h => hb (by simp [h]))
     refine ⟨Mem.le m5, Mem.le_refl _, _, _, _, held (cO p5.p 0), _, held (cO h15 1), _, held (cO p5.p 3), ?_⟩
     refine p5.put_w h0 (by show v.2 < (copyW a.ws a.top v.2 _).length; rw [copyW_len]; exact h1) fun m6 o6 p6 => ?_
     rw [or_top (t := a.top) (by omega) (by omega)] at p6
     have h16 : m6 g1 = some (.cells #[.int .i64 v.1, .int .i64 v.2] 75 (0, 0)) := by rw [o6 g1 (fun h => n1 (by simp [h]))]; exact h15
     have h36 : m6 g3 = some (.cells #[.int .i64 0, .int .i64 0] 75 (0, 0)) := by rw [o6 g3 (fun h => n3 (by simp [h]))]; exact h35
     have off6 : Off (g :: D) m m6 := off5.trans (Off.of_eq fun b hb => o6 b fun h => hb (by simp [h]))
     refine ⟨_, cO p6.p 3, sto (c := #[.int .i64 v.1, .int .i64 v.2]) (t := 75) h16 rfl (by simp) fun m7 e7 h7 ne7 => ?_⟩
     have h7 : m7 g1 = some (.cells #[.int .i64 v.1, .int .i64 a.top] 75 (0, 0)) := h7
     have h37 : m7 g3 = some (.cells #[.int .i64 0, .int .i64 0] 75 (0, 0)) := by rw [ne7 g3 (Ne.symm n13)]; exact h36
     have off7 : Off (g :: D) m m7 := off6.fresh hg1 ne7
     have p7 := p6.ext (m' := m7) fun b hb => ne7 b fun e => n1 (e ▸ hb)
     refine ⟨_, cO p7.p 3, ?_⟩
     show stoA m7 ⟨g, 3, none⟩ [.int .i64 (IntKind.i64.wrap (a.top + (szW a.ws v.2 + 1)))] _
     rw [w2]
     refine p7.fld 3 _ { a with ws := setW (copyW a.ws a.top v.2 (szW a.ws v.2 + 1).toNat) v.2 (9223372036854775808 + a.top), top := a.top + (szW a.ws v.2 + 1) } rfl (by decide) rfl rfl rfl fun m8 o8 p8 => ⟨_, cO p8.p 7, ?_⟩
     show stoA m8 ⟨g, 7, none⟩ [.int .i64 (IntKind.i64.wrap (a.cop + (szW a.ws v.2 + 1)))] _
     rw [w4]
     refine p8.fld 7 _ (fwdW a v.2) rfl (by decide) rfl rfl rfl fun m9 o9 p9 => ?_
     have off9 : Off (g :: D) m m9 := (off7.put (by simp) o8).put (by simp) o9
     have h19 : m9 g1 = some (.cells #[.int .i64 v.1, .int .i64 a.top] 75 (0, 0)) := by rw [o9 g1 (fun h => n1 (by simp [h])), o8 g1 (fun h => n1 (by simp [h]))]; exact h7
     have h39 : m9 g3 = some (.cells #[.int .i64 0, .int .i64 0] 75 (0, 0)) := by rw [o9 g3 (fun h => n3 (by simp [h])), o8 g3 (fun h => n3 (by simp [h]))]; exact h37
     refine ⟨_, cO h19 0, _, cO h19 1, sto (c := #[.int .i64 0, .int .i64 0]) (t := 75) h39 rfl (by simp) fun m10 e10 h10 ne10 => ?_⟩
     have h10 : m10 g3 = some (.cells #[.int .i64 v.1, .int .i64 a.top] 75 (0, 0)) := h10
     exact ⟨_, cO h10 0, _, cO h10 1, ret_off (off9.fresh hg3' ne10) (hQ _ (fun b hb => mix_off hb) (Im.mix (p9.ext fun b hb => ne10 b fun e => n3 (e ▸ hb))))⟩
def OkC (a : Ar) : Prop := (∃ T1, I0 a T1) ∨ ∃ T1 T2, C1 a T1 T2
theorem Gd.okC {a : Ar} (h : Gd a) : OkC a := by
 rcases h with h | ⟨T1, T2, h, _⟩
 ·exact .inl h
 ·exact .inr ⟨T1, T2, h⟩
theorem OkC.over {a : Ar} (h : OkC a) : Gd (overA a) ∧ Sz a (overA a) ∧ (overA a).to = a.to := by
 rcases h with ⟨T1, h⟩ | ⟨T1, T2, h⟩
 ·have hG : Gd a := .inl ⟨T1, h⟩
  rw [hG.over]
  exact ⟨hG, Sz.refl a, rfl⟩
 ·obtain ⟨h1, h2, h3, _⟩ := h.over
  exact ⟨h1, h2, h3⟩
theorem OkC.fin {a : Ar} (h : OkC a) : (∃ T1, I0 (finA a) T1) ∧ Sz a (finA a) ∧ (finA a).to = a.to ∧ ∀ n : Nat, a.semi ≤ n → stepsA n (overA a) = finA a := by
 obtain ⟨h1, h2, h3⟩ := h.over
 obtain ⟨k1, k2, k3, k4⟩ := fin_gd h1
 have e : finA (overA a) = finA a := by unfold finA; rw [h1.over]
 rw [e] at k1 k2 k3
 refine ⟨k1, h2.trans k2, k3.trans h3, fun n hn => ?_⟩
 have := k4 n (by rw [h2.semi]; exact hn)
 rw [h1.over, e] at this
 exact this
theorem OkC.num {a : Ar} (h : OkC a) : NumP a ∧ a.wf := by
 rcases h with ⟨T1, h⟩ | ⟨T1, T2, h⟩
 ·exact ⟨h.N, h.wf⟩
 ·exact ⟨h.c.N, h.c.wf⟩
def flS (i : Nat) (a : Ar) : Ar := { (fwdA a (a.rs.getD i (0, 0))).1 with rs := (fwdA a (a.rs.getD i (0, 0))).1.rs.set i (fwdA a (a.rs.getD i (0, 0))).2 }
theorem flS_ok {T2 : List Int} {i : Nat} {a : Ar} {T1 : List Int} (hlt : i < a.rs.length) (h : FlI a T1 T2 i) : (valOkB (a.rs.getD i (0, 0)) = true ∧ (isRefB (a.rs.getD i (0, 0)) = true → (a.rs.getD i (0, 0)).2 ∈ T1 ∨ (a.rs.getD i (0, 0)).2 ∈ T2)) ∧ ∃ Ta, FlI (flS i a) Ta T2 (i + 1) ∧ SameF a (fwdA a (a.rs.getD i (0, 0))).1 ∧ (flS i a).rs.length = a.rs.length := by
 obtain ⟨v1, v2⟩ := h.r i hlt
 have eg : a.rs.getD i (0, 0) = a.rs[i] := by rw [List.getD_eq_getElem?_getD, List.getElem?_eq_getElem hlt]; rfl
 unfold flS
 rw [eg]
 refine ⟨⟨v1, fun hr => (v2 hr).2⟩, ?_⟩
 obtain ⟨Ta, F⟩ := fwd_ok h.c v1 fun hr => (v2 hr).2
 generalize hf : fwdA a a.rs[i] = fr at F ⊢
 obtain ⟨b, w⟩ := fr
 have F : FwdOk a T1 T2 a.rs[i] b w Ta := F
 have hrs : b.rs = a.rs := F.f.rs
 have hl : (b.rs.set i w).length = b.rs.length := by rw [List.length_set]
 refine ⟨Ta, ⟨F.c.put_rs hl, ?_, fun j hj => ?_⟩, F.f, ?_⟩
 ·show b.scan = startA b b.to
  rw [F.f.scan, h.s, F.f.start, F.f.to]
 ·have hj : j < (b.rs.set i w).length := hj
  show valOkB (b.rs.set i w)[j] = true ∧ (isRefB (b.rs.set i w)[j] = true → (j < i + 1 → (b.rs.set i w)[j].2 ∈ Ta) ∧ ((b.rs.set i w)[j].2 ∈ Ta ∨ (b.rs.set i w)[j].2 ∈ T2))
  rw [List.getElem_set]
  by_cases e : i = j
  ·rw [if_pos e]
   exact ⟨F.ok, fun hr => ⟨fun _ => F.r hr, .inl (F.r hr)⟩⟩
  ·rw [if_neg e]
   have hja : j < a.rs.length := by rw [hl, hrs] at hj; exact hj
   have ej : b.rs[j]'(by rw [hrs]; exact hja) = a.rs[j] := by simp only [hrs]
   rw [ej]
   obtain ⟨w1, w2⟩ := h.r j hja
   exact ⟨w1, fun hr => ⟨fun hjl => F.sub _ ((w2 hr).1 (by omega)), (w2 hr).2.imp (F.sub _) id⟩⟩
 ·show (b.rs.set i w).length = _
  rw [hl, hrs]
theorem rget {m : Mem} {a : Option Addr} {l : List Vl} {i : Int} {n : Nat} {K : Addr → Prop} (h : Rd m a l) (hn : l.length = n) (h0 : 0 ≤ i) (hi : i < n)
  (hK : ∀ ad, a = some ad → m.cell? (ad.add (i.toNat * 2)) = some (.int .i64 (l.getD i.toNat (0, 0)).1) → m.cell? ((ad.add (i.toNat * 2)).add 1) = some (.int .i64 (l.getD i.toNat (0, 0)).2) → K ad) : optA a fun ad => 0 ≤ i ∧ i < (n : Int) ∧ K ad := by
 have hlt : i.toNat < l.length := by omega
 have eg : l.getD i.toNat (0, 0) = l[i.toNat] := by rw [List.getD_eq_getElem?_getD, List.getElem?_eq_getElem hlt]; rfl
 rw [eg] at hK
 refine idx' h hn h0 hi fun ad had hd => hK ad had (hd 0 _ rfl) ?_
 exact hd 1 _ rfl
theorem roots_fl (t : Tab) (h193 : look t 193 = s193) (h194 : look t 194 = s194) {Q : Value → Mem → Prop} {g : Nat} {s r : Sl} {D : List Nat} {m0 : Mem} {T2 : List Int} :
  ∀ (d i : Nat), i + d = r.n → r.n ≤ 2 ^ 20 → ∀ (M : Mem) (b : Ar) (T1 : List Int), Off (g :: D) m0 M → Im M g s r b D → FlI b T1 T2 i →
   (∀ M', Off (g :: D) m0 M' → Im M' g s r (overA (flR d i b)) D → ret Q (.tuple #[]) M') → L107_7 (look t) (d + 1) Q g r.a r.n r.c (r.n : Int) (i : Int) M := by
 intro d
 induction d with
 | zero =>
  intro i hi hB M b T1 hO im hF hK
  rw [l107_7]
  refine ⟨M, Mem.le_refl _, ?_⟩
  rw [if_neg (by simp; omega)]
  exact via h194 ⟨g, s, r, b, D, rfl, im, fun m1 o1 im1 => ⟨rfl, hK m1 (hO.trans (Off.of_eq o1)) im1⟩⟩
 | succ d ih =>
  intro i hi hB M b T1 hO im hF hK
  have hAt := im.w.at
  have hk := hAt.k
  rw [l107_7]
  refine ⟨M, Mem.le_refl _, ?_⟩
  rw [if_pos (by simp; omega)]
  refine rget hAt.r hk (by omega) (by omega) fun ad had c1 c2 => ⟨_, c1, _, c2, ?_⟩
  have ei : (i : Int).toNat = i := by omega
  simp only [ei]
  obtain ⟨⟨v1, v2⟩, Ta, F, sf, hlen⟩ := flS_ok (show i < b.rs.length by omega) hF
  refine newA_intro fun g1 m1 hg1 e1 hb1 hle1 => sto (c := #[.int .i64 0, .int .i64 0]) (t := 75) hb1 rfl (by simp) fun m2 e2 h2 ne2 => ?_
  have h2 : m2 g1 = some (.cells #[.int .i64 (b.rs.getD i (0, 0)).1, .int .i64 (b.rs.getD i (0, 0)).2] 75 (0, 0)) := h2
  have n1 := im.fresh hg1
  have le2 : Mem.le M m2 := le_other hle1 hg1 ne2
  have im2 := im.le le2
  refine ⟨fun q => Mem.cell? q ⟨g, 9, none⟩ = some (vs r) ∧ q g1 = m2 g1, ⟨cO im2.p 9, rfl⟩, _, _, _, fun q hq => hq.1, _, fun q hq => cO (hq.2.trans h2) 0, _, fun q hq => cO (hq.2.trans h2) 1, ?_⟩
  refine via h193 ⟨g, s, r, b, D, b.rs.getD i (0, 0), rfl, im2, .inr ⟨⟨T1, T2, hF.c, v1, v2⟩, fun m3 o3 im3 => ⟨_, _, rfl, ⟨cO im3.p 9, o3 g1 n1⟩, ?_⟩⟩⟩
  refine im3.put_r (v := (fwdA b (b.rs.getD i (0, 0))).2) (by omega) (by rw [sf.rs]; omega) fun m4 o4 im4 => ?_
  have ew : IntKind.i64.wrap ((i : Int) + 1) = ((i + 1 : Nat) : Int) := wsucc (n := i + 1) (by omega) (by omega)
  rw [ew]
  simp only [ei] at im4
  refine ih (i + 1) (by omega) hB m4 (flS i b) Ta (((hO.trans (Off.of_le le2)).trans (Off.of_eq o3)).trans (Off.of_eq fun q hq => o4 q fun h => hq (by simp [h]))) im4 F fun M' hO' im' => hK M' hO' im'
def s107 : Spec := fun args m Q => ∃ (g : Nat) (s r : Sl) (a : Ar) (D : List Nat), args = [.pointer (some ⟨g, 0, none⟩)] ∧ Im m g s r a D ∧ (∃ T1, I0 a T1) ∧
 ∀ m', (∀ b, b ∉ g :: D → m' b = m b) → Im m' g s r (flipA a) D → Q (.tuple #[]) m'
theorem f107 (t : Tab) (h193 : look t 193 = s193) (h194 : look t 194 = s194) (h95 : look t 95 = s95) : Mt t s107 kp107 Tryz.f107 := by
 rintro args m Q ⟨g, s, r, a, D, rfl, im, ⟨T1, hI⟩, hQ⟩
 rw [e107]
 have sm := hI.N.sm
 have t0 := sm.t0
 have t1 := sm.t1
 have s0 := sm.s0
 have s1 := sm.s1
 have w1 : IntKind.i64.wrap (1 - a.to) = 1 - a.to := w64 (by omega) (by omega)
 refine ⟨_, cO im.p 3, im.fld 6 _ { a with old := a.top } rfl (by decide) rfl rfl rfl fun m1 o1 im1 => ⟨_, cO im1.p 2, ?_⟩⟩
 rw [show IntKind.i64.wrap (1 - ({ a with old := a.top } : Ar).to) = 1 - a.to from w1]
 refine im1.fld 2 _ { a with old := a.top, to := 1 - a.to } rfl (by decide) rfl rfl rfl fun m2 o2 im2 => ⟨_, cO im2.p 2, ?_⟩
 refine via h95 ⟨g, s, r, _, 1 - a.to, rfl, im2.p, by omega, by omega, by show 0 ≤ a.semi; omega, s1, _, rfl, ?_⟩
 refine im2.fld 3 _ { a with old := a.top, to := 1 - a.to, top := startA a (1 - a.to) } rfl (by decide) rfl rfl rfl fun m3 o3 im3 => ⟨_, cO im3.p 3, ?_⟩
 refine im3.fld 5 _ { a with old := a.top, to := 1 - a.to, top := startA a (1 - a.to), scan := startA a (1 - a.to) } rfl (by decide) rfl rfl rfl fun m4 o4 im4 => ?_
 refine im4.fld 7 _ { a with old := a.top, to := 1 - a.to, top := startA a (1 - a.to), scan := startA a (1 - a.to), cop := 0 } rfl (by decide) rfl rfl rfl fun m5 o5 im5 => ?_
 refine im5.fld 4 _ (flip0 a) rfl (by decide) rfl rfl rfl fun m6 o6 im6 => ⟨_, _, _, cO im6.p 9, r.n + 1, ?_⟩
 have hk := im.w.at.k
 have hr := hI.wf.r
 have hFI : FlI (flip0 a) [] T1 0 := ⟨flip0_ok hI, rfl, fun j hj => by
  have := hI.r a.rs[j] (List.getElem_mem hj)
  exact ⟨this.1, fun hr => ⟨fun e => by omega, .inr (this.2 hr)⟩⟩⟩
 refine roots_fl t h193 h194 (T2 := T1) (m0 := m) (D := D) (s := s) r.n 0 (by omega) (by omega) m6 (flip0 a) [] ((((((Off.refl _ m).put (by simp) o1).put (by simp) o2).put (by simp) o3).put (by simp) o4).put (by simp) o5 |>.put (by simp) o6) im6 hFI fun M' hO' im' => ret_off hO' (hQ _ (fun b hb => mix_off hb) ?_)
 have e : overA (flR r.n 0 (flip0 a)) = flipA a := by unfold flipA; rw [hk]
 rw [e] at im'
 exact im'.mix
def freeA (a : Ar) : Int := endA a a.to - a.top - leftA a
theorem hd_b {k s z : Int} (h : hdOk k s z = true) : 1 ≤ k ∧ k ≤ 6 ∧ 1 ≤ s ∧ s ≤ 256 ∧ 0 ≤ z ∧ z ≤ 1000000000 := by
 unfold hdOk at h
 rw [Bool.and_eq_true] at h
 obtain ⟨h1, h2⟩ := h
 have hk := kinds h1
 have : 1 ≤ s ∧ s ≤ 256 := by
  unfold sizeB at h1
  repeat' split at h1
  all_goals first | (cases h1; done) | (simp only [decide_eq_true_eq] at h1; omega)
 have hz : 0 ≤ z ∧ z ≤ 1000000000 := by
  split at h2
  ·simp only [decide_eq_true_eq] at h2; omega
  ·simp only [decide_eq_true_eq] at h2; omega
 omega
theorem packH_v {k s z : Int} (h : hdOk k s z = true) : packH k s z = k + s * 16 + z * 1048576 := by
 have b := hd_b h
 unfold packH
 rw [u64w (x := s) (by omega) (by omega), u64w (x := k) (by omega) (by omega), u64w (x := z) (by omega) (by omega), u64w (x := s * 16) (by omega) (by omega), u64w (x := z * 1048576) (by omega) (by omega), u64w (x := k + s * 16) (by omega) (by omega), u64w (by omega) (by omega)]
def putW (k n z : Int) (a : Ar) : Ar := { a with ws := clrW (setW a.ws a.top (packH k n z)) (a.top + 1) n.toNat, top := a.top + (n + 1) }
def putA (k n : Int) (a : Ar) : Ar × Int × Int :=
 if n + 1 > freeA a then (a, 0, 2)
 else (if bornB k = true then { putW k n a.ser a with ser := a.ser + 1 } else putW k n 0 a, a.top, 0)
theorem free_le {a : Ar} (hN : NumP a) : freeA a ≤ endA a a.to - a.top ∧ endA a a.to ≤ a.ws.length ∧ 1 ≤ a.top ∧ -16000 ≤ freeA a := by
 have hh := halves hN
 have hf := hN.f
 have sm := hN.sm
 have s1 := sm.s1
 have hl := sm.l
 unfold freeP at hf
 unfold freeA leftA
 split
 ·rename_i hc
  rw [if_pos hc] at hf
  omega
 ·omega
def roomA (n : Int) (a : Ar) : Ar := if n + 1 > freeA a then collA a else a
theorem room_ok {n : Int} {a : Ar} (h : OkC a) : OkC (roomA n a) ∧ Sz a (roomA n a) := by
 unfold roomA
 split
 ·obtain ⟨⟨T1, f1⟩, f2, f3, f4⟩ := h.fin
  obtain ⟨g1, g2, g3⟩ := flip_gd f1
  obtain ⟨k1, k2, k3, k4⟩ := fin_gd g1
  exact ⟨.inl k1, f2.trans (g2.trans k2)⟩
 ·exact ⟨h, Sz.refl a⟩
def paceA (a : Ar) : Ar :=
 if a.cyc = true then stepsA 2 (overA a) else if 2 * (a.top - startA a a.to) > a.semi - 1 then stepsA 2 (overA (flipA a)) else a
def askA (k n : Int) (a : Ar) : Ar × Int × Int := if n + 1 > a.semi - 1 then (a, 0, 2) else putA k n (roomA n (paceA a))
theorem pace_ok {a : Ar} (h : OkC a) : OkC (paceA a) ∧ Sz a (paceA a) := by
 unfold paceA
 by_cases c : a.cyc = true
 ·rw [if_pos c]
  obtain ⟨h1, h2, h3⟩ := h.over
  obtain ⟨k1, k2, k3, k4⟩ := steps_gd 2 _ h1
  exact ⟨k1.okC, h2.trans k2⟩
 ·rw [if_neg c]
  split
  ·rcases h with ⟨T1, h⟩ | ⟨T1, T2, h⟩
   ·obtain ⟨g1, g2, g3⟩ := flip_gd h
    rw [g1.over]
    obtain ⟨k1, k2, k3, k4⟩ := steps_gd 2 _ g1
    exact ⟨k1.okC, g2.trans k2⟩
   ·exact absurd h.c.cy c
  ·exact ⟨h, Sz.refl a⟩
def fwdT (Q : Value → Mem → Prop) (x2g x3g x4g x5g : Nat) (m279 : Mem) : Prop :=
 (∃ S280 : Mem → Prop, S280 m279 ∧ (hA S280 x2g fun w0 => (∃ y305 : Int, ((hi S280 x3g 0 y305) ∧ (∃ y307 : Int, ((hi S280 x3g 1 y307) ∧ (stoA m279 ⟨x4g, 0, none⟩ w0 fun m309 => (S280 m309 ∧ (stoA m309 ⟨x5g, 0, none⟩ [(.int .i64 y305), (.int .i64 y307)] fun m310 => (rA m310 x4g fun w1 => (∃ y335 : Int, (ci m310 x5g 0 y335 ∧ (∃ y337 : Int, (ci m310 x5g 1 y337 ∧ ret Q (.tuple #[(.agg w1.toArray), (.agg #[(.int .i64 y335), (.int .i64 y337)])]) m310))))))))))))))
theorem Wo.loc {m m2 : Mem} {s r : Sl} {a : Ar} {D : List Nat} {g : Nat} (h : Wo m s r a D) (hg : m g = none) (hb : m2 g = some (.cells (cA s r a) 27 (0, 0))) (hl : Mem.le m m2) : Im m2 g s r a D :=
 ⟨hb, h.ext fun b hb => by obtain ⟨o, ho⟩ := h.live b hb; rw [ho, hl b o ho], h.fresh hg⟩
theorem Wo.mix {m M : Mem} {s r : Sl} {a : Ar} {D : List Nat} (h : Wo M s r a D) : Wo (mixM D m M) s r a D := h.ext fun b hb => mix_in hb
theorem fwdT_ok {Q : Value → Mem → Prop} {g1 g3 g5 g7 : Nat} {s r : Sl} {b : Ar} {D : List Nat} {M m0 : Mem} {v : Vl} (im : Im M g1 s r b D) (h3 : M g3 = some (.cells #[.int .i64 v.1, .int .i64 v.2] 75 (0, 0)))
  (h5 : M g5 = some (.cells zAr 27 (0, 0))) (h7 : M g7 = some (.cells #[.int .i64 0, .int .i64 0] 75 (0, 0))) (n15 : g1 ≠ g5) (n35 : g3 ≠ g5) (n57 : g5 ≠ g7) (z5 : m0 g5 = none) (z7 : m0 g7 = none) (d5 : g5 ∉ D) (d7 : g7 ∉ D)
  (hO : Off D m0 M) (hQ : ∀ m', (∀ b, b ∉ D → m' b = m0 b) → Wo m' s r b D → Q (.tuple #[vA s r b, vVl v]) m') : fwdT Q g1 g3 g5 g7 M := by
 unfold fwdT
 obtain ⟨wa, wn, wc⟩ := s
 obtain ⟨ra, rn, rc⟩ := r
 refine ⟨fun q => q g1 = M g1 ∧ q g3 = M g3, ⟨rfl, rfl⟩, _, _, _, fun q hq => cO (hq.1.trans im.p) 0, _, fun q hq => cO (hq.1.trans im.p) 1, _, fun q hq => cO (hq.1.trans im.p) 2, _, fun q hq => cO (hq.1.trans im.p) 3, _, fun q hq => cO (hq.1.trans im.p) 4, _, fun q hq => cO (hq.1.trans im.p) 5, _, fun q hq => cO (hq.1.trans im.p) 6, _, fun q hq => cO (hq.1.trans im.p) 7, _, fun q hq => cO (hq.1.trans im.p) 8, _, _, _, fun q hq => cO (hq.1.trans im.p) 9, _, fun q hq => cO (hq.2.trans h3) 0, _, fun q hq => cO (hq.2.trans h3) 1, ?_⟩
 refine sto_ar h5 fun m1 e1 q1 ne1 => ⟨⟨ne1 g1 n15, ne1 g3 n35⟩, ?_⟩
 refine sto (c := #[.int .i64 0, .int .i64 0]) (t := 75) ((ne1 g7 (Ne.symm n57)).trans h7) rfl (by simp) fun m2 e2 q2 ne2 => ?_
 have q2 : m2 g7 = some (.cells #[.int .i64 v.1, .int .i64 v.2] 75 (0, 0)) := q2
 have p5 : Ptr m2 g5 ⟨wa, wn, wc⟩ ⟨ra, rn, rc⟩ b := by unfold Ptr; rw [ne2 g5 n57]; exact q1
 refine ⟨_, _, _, cO p5 0, _, cO p5 1, _, cO p5 2, _, cO p5 3, _, cO p5 4, _, cO p5 5, _, cO p5 6, _, cO p5 7, _, cO p5 8, _, _, _, cO p5 9, _, cO q2 0, _, cO q2 1, ?_⟩
 refine ret_off ((hO.fresh z5 ne1).fresh z7 ne2) (hQ _ (fun b hb => mix_off hb) (Wo.mix (im.w.ext fun q hq => ?_)))
 rw [ne2 q (fun e => d7 (e ▸ hq)), ne1 q (fun e => d5 (e ▸ hq))]
theorem fwdL_ok (t : Tab) {Q : Value → Mem → Prop} {g1 g3 g5 g7 : Nat} {s r : Sl} {a : Ar} {D : List Nat} {m0 : Mem} {v : Vl} {T1 T2 : List Int} (hC : C0 a T1 T2) (hp : v.2 ∈ T2) (hok : okW (gw a.ws v.2) = true)
  (n13 : g1 ≠ g3) (n15 : g1 ≠ g5) (n17 : g1 ≠ g7) (n35 : g3 ≠ g5) (n37 : g3 ≠ g7) (n57 : g5 ≠ g7) (z1 : m0 g1 = none) (z3 : m0 g3 = none) (z5 : m0 g5 = none) (z7 : m0 g7 = none) (d3 : g3 ∉ D) (d5 : g5 ∉ D) (d7 : g7 ∉ D)
  (hQ : ∀ m', (∀ b, b ∉ D → m' b = m0 b) → Wo m' s r (fwdW a v.2) D → Q (.tuple #[vA s r (fwdW a v.2), vVl (v.1, a.top)]) m') :
  ∀ (d i : Nat), i + d = (szW a.ws v.2 + 1).toNat → ∀ (M : Mem), Im M g1 s r { a with ws := copyW a.ws a.top v.2 i } D → Off D m0 M → M g3 = some (.cells #[.int .i64 v.1, .int .i64 v.2] 75 (0, 0)) →
   M g5 = some (.cells zAr 27 (0, 0)) → M g7 = some (.cells #[.int .i64 0, .int .i64 0] 75 (0, 0)) → L196_8 (look t) (d + 1) Q g1 g3 g5 g7 a.top (szW a.ws v.2 + 1) (i : Int) M := by
 have nm := hC.nums
 have hs1 := hC.N.sm.s1
 have hl := hC.N.sm.l
 have i2 := hC.in2 hp
 have bz := szW_0 hC.wf.w v.2
 have hm := sumC_mem hC.wf.w hp hok
 have hs2 := hC.s2
 have ez : szC a.ws v.2 = szW a.ws v.2 := if_pos hok
 intro d
 induction d with
 | zero =>
  intro i hi M im hO h3 h5 h7
  rw [l196_8]
  refine ⟨M, Mem.le_refl _, ?_⟩
  rw [if_neg (by simp; omega)]
  have hi : i = (szW a.ws v.2 + 1).toNat := by omega
  subst hi
  refine ⟨_, _, _, cO im.p 0, _, cO h3 1, ?_⟩
  refine im.put_w (by omega) (by show v.2 < (copyW a.ws a.top v.2 _).length; rw [copyW_len]; omega) fun m1 o1 im1 => ?_
  rw [or_top (t := a.top) (by omega) (by omega)] at im1
  refine ⟨_, cO im1.p 3, ?_⟩
  show stoA m1 ⟨g1, 3, none⟩ [.int .i64 (IntKind.i64.wrap (a.top + (szW a.ws v.2 + 1)))] _
  rw [w64 (x := a.top + (szW a.ws v.2 + 1)) (by omega) (by omega)]
  refine im1.fld 3 _ { a with ws := setW (copyW a.ws a.top v.2 (szW a.ws v.2 + 1).toNat) v.2 (9223372036854775808 + a.top), top := a.top + (szW a.ws v.2 + 1) } rfl (by decide) rfl rfl rfl fun m2 o2 im2 => ⟨_, cO im2.p 7, ?_⟩
  show stoA m2 ⟨g1, 7, none⟩ [.int .i64 (IntKind.i64.wrap (a.cop + (szW a.ws v.2 + 1)))] _
  rw [w64 (x := a.cop + (szW a.ws v.2 + 1)) (by omega) (by omega)]
  refine im2.fld 7 _ (fwdW a v.2) rfl (by decide) rfl rfl rfl fun m3 o3 im3 => ?_
  have e3 : ∀ b, b ≠ g1 → b ∉ D → m3 b = M b := fun b hb hd => by rw [o3 b hb, o2 b hb, o1 b hd]
  refine sto (c := #[.int .i64 v.1, .int .i64 v.2]) (t := 75) ((e3 g3 (Ne.symm n13) d3).trans h3) rfl (by simp) fun m4 e4 h4 ne4 => ?_
  have h4 : m4 g3 = some (.cells #[.int .i64 v.1, .int .i64 a.top] 75 (0, 0)) := h4
  have im4 := im3.ext (m' := m4) fun q hq => ne4 q fun e => by
   rcases List.mem_cons.1 hq with h | h
   ·exact n13 (h.symm.trans e)
   ·exact d3 (e ▸ h)
  refine fwdT_ok (v := (v.1, a.top)) im4 h4 (by rw [ne4 g5 (Ne.symm n35), e3 g5 (Ne.symm n15) d5]; exact h5) (by rw [ne4 g7 (Ne.symm n37), e3 g7 (Ne.symm n17) d7]; exact h7) n15 n35 n57 z5 z7 d5 d7 ?_ hQ
  exact ((((hO.trans (Off.of_eq o1)).fresh z1 o2).fresh z1 o3).fresh z3 ne4)
 | succ d ih =>
  intro i hi M im hO h3 h5 h7
  rw [l196_8]
  refine ⟨M, Mem.le_refl _, ?_⟩
  rw [if_pos (by simp; omega)]
  have hAt := im.w.at
  have hsn := hAt.n
  have hlen : (copyW a.ws a.top v.2 i).length = a.ws.length := copyW_len _ _ _ _
  have hsn : (copyW a.ws a.top v.2 i).length = s.n := hsn
  have w1 : IntKind.i64.wrap (v.2 + (i : Int)) = v.2 + i := w64 (by omega) (by omega)
  have w2 : IntKind.i64.wrap (a.top + (i : Int)) = a.top + i := w64 (by omega) (by omega)
  refine ⟨Mem.le M, Mem.le_refl _, _, _, _, held (cO im.p 0), _, _, _, held (cO im.p 0), _, held (cO h3 1), ?_⟩
  rw [w1, w2]
  refine wd hAt.w hAt.n (by omega) (by omega) fun ad had hd => ⟨_, hd, ?_⟩
  refine im.put_w (by omega) (by show a.top + i < (copyW a.ws a.top v.2 i).length; omega) fun m1 o1 im1 => ?_
  have ew : IntKind.i64.wrap ((i : Int) + 1) = ((i + 1 : Nat) : Int) := wsucc (n := i + 1) (by omega) (by omega)
  rw [ew]
  exact ih (i + 1) (by omega) m1 im1 (hO.trans (Off.of_eq o1)) (by rw [o1 g3 d3]; exact h3) (by rw [o1 g5 d5]; exact h5) (by rw [o1 g7 d7]; exact h7)
def s196 : Spec := fun args m Q => ∃ (s r : Sl) (a : Ar) (D : List Nat) (v : Vl), args = [vA s r a, vVl v] ∧ Wo m s r a D ∧ RefIn a v ∧
 ∀ m', (∀ b, b ∉ D → m' b = m b) → Wo m' s r (fwdA a v).1 D → Q (.tuple #[vA s r (fwdA a v).1, vVl (fwdA a v).2]) m'
theorem half_of {a : Ar} {h p : Int} (s0 : 256 ≤ a.semi) (h0 : 0 ≤ h) (h1 : h ≤ 1) (p0 : startA a h ≤ p) (p1 : p < endA a h) : Int.tdiv p a.semi = h := by
 rw [startA_eq h0 h1] at p0
 rw [endA_eq h0 h1] at p1
 have : h = 0 ∨ h = 1 := by omega
 rcases this with rfl | rfl
 ·rw [if_pos rfl] at p0 p1
  rw [Int.tdiv_eq_ediv_of_nonneg (by omega)]
  exact Int.ediv_eq_zero_of_lt (by omega) p1
 ·rw [if_neg (by decide)] at p0 p1
  rw [Int.tdiv_eq_ediv_of_nonneg (by omega)]
  refine Int.le_antisymm ?_ ?_
  ·exact Int.le_of_lt_add_one (Int.ediv_lt_of_lt_mul (by omega) (by omega))
  ·exact Int.le_ediv_of_mul_le (by omega) (by omega)
theorem f196 (t : Tab) (h110 : look t 110 = s110) (h173 : look t 173 = s173) (h90 : look t 90 = s90) : Mt t s196 kp196 Tryz.f196 := by
 rintro args m Q ⟨s, r, a, D, v, rfl, hW, ⟨T1, T2, hC, hv, hin⟩, hQ⟩
 show FA _ _ _ _ [aG s r a, .agg #[.int .i64 v.1, .int .i64 v.2]] m Q
 rw [e196]
 have nm := hC.nums
 have hs0 := hC.N.sm.s0
 have hs1 := hC.N.sm.s1
 have ht0 := hC.N.sm.t0
 have ht1 := hC.N.sm.t1
 have hl := hC.N.sm.l
 refine newA_intro fun g1 m1 hg1 e1 hb1 hle1 => newA_intro fun g3 m2 hg3 e2 hb3 hle2 => newA_intro fun g5 m3 hg5 e3 hb5 hle3 => newA_intro fun g7 m4 hg7 e4 hb7 hle4 => ?_
 have l2 := Mem.le_trans hle1 hle2
 have l3 := Mem.le_trans l2 hle3
 have l4 := Mem.le_trans l3 hle4
 have p1 : m4 g1 = some (.cells (cA s r a) 27 (0, 0)) := hle4 _ _ (hle3 _ _ (hle2 _ _ hb1))
 have im := hW.loc hg1 p1 l4
 have h3 := hle4 _ _ (hle3 _ _ hb3)
 have h5 := hle4 _ _ hb5
 have n13 : g1 ≠ g3 := ne_of_none hg3 hb1
 have n15 : g1 ≠ g5 := ne_of_none hg5 (hle2 _ _ hb1)
 have n17 : g1 ≠ g7 := ne_of_none hg7 (hle3 _ _ (hle2 _ _ hb1))
 have n35 : g3 ≠ g5 := ne_of_none hg5 hb3
 have n37 : g3 ≠ g7 := ne_of_none hg7 (hle3 _ _ hb3)
 have n57 : g5 ≠ g7 := ne_of_none hg7 hb5
 have z3 := le_none hle1 hg3
 have z5 := le_none l2 hg5
 have z7 := le_none l3 hg7
 have d3 := hW.fresh z3
 have d5 := hW.fresh z5
 have d7 := hW.fresh z7
 have hO : Off D m m4 := Off.of_le l4
 refine ⟨Mem.le m4, Mem.le_refl _, _, held (cO h3 0), _, held (cO h3 1), via h110 ⟨v, rfl, _, rfl, Mem.le_refl _, ?_⟩⟩
 have same : fwdA a v = (a, v) → fwdT Q g1 g3 g5 g7 m4 := fun e => by
  rw [e] at hQ
  exact fwdT_ok im h3 h5 hb7 n15 n35 n57 z5 z7 d5 d7 hO hQ
 cases hr : isRefB v with
 | false =>
  rw [if_pos (by rfl)]
  exact same (by unfold fwdA; rw [if_neg (by rw [hr]; simp)])
 | true =>
  rw [if_neg (by simp)]
  refine ⟨_, held (cO h3 1), _, held (cO p1 1), by show a.semi ≠ 0; omega, _, held (cO p1 2), ?_⟩
  rcases hin hr with hp | hp
  ·have i1 := hC.in1 hp
   rw [half_of hs0 ht0 ht1 i1.1 (by omega), w64 (x := a.to) (by omega) (by omega), if_pos (by simp)]
   exact same (by unfold fwdA; rw [if_neg (by rw [hC.other1 hp]; simp)])
  ·have i2 := hC.in2 hp
   rw [half_of hs0 (by omega) (by omega) i2.1 (by omega), w64 (x := 1 - a.to) (by omega) (by omega), if_neg (by simp; omega)]
   have hAt := im.w.at
   have hsn := hAt.n
   refine ⟨_, _, _, cO p1 0, _, cO h3 1, wd hAt.w hAt.n (by omega) (by omega) fun ad had hd => ⟨_, hd _ (Mem.le_refl _), via h173 ⟨_, rfl, gw_in hC.wf.w v.2, _, _, rfl, ?_⟩⟩⟩
   cases hf : (fwd (gw a.ws v.2)).2 with
   | false =>
    rw [if_pos (by rfl)]
    have hok : okW (gw a.ws v.2) = true := by
     rcases hC.h2 v.2 hp with h | h
     ·exact h
     ·rw [hf] at h; cases h.1
    have bz := szW_0 hC.wf.w v.2
    refine ⟨_, _, _, cO p1 0, _, cO p1 1, _, cO p1 2, _, cO p1 3, _, cO p1 4, _, cO p1 5, _, cO p1 6, _, cO p1 7, _, cO p1 8, _, _, _, cO p1 9, _, cO h3 1, via h90 ⟨s, r, a, v.2, rfl, ⟨hAt, hC.wf, by omega, by omega⟩, _, _, _, rfl, _, cO p1 3, (szW a.ws v.2 + 1).toNat + 1, ?_⟩⟩
    have e : fwdA a v = (fwdW a v.2, (v.1, a.top)) := by unfold fwdA; rw [if_pos ⟨hr, hC.other2 hp⟩, if_neg (by rw [hf]; simp)]
    rw [e] at hQ
    rw [show IntKind.i64.wrap ((lookW a.ws v.2).2.1 + 1) = szW a.ws v.2 + 1 from w64 (by show _ ≤ szW a.ws v.2 + 1; omega) (by show szW a.ws v.2 + 1 ≤ _; omega)]
    exact fwdL_ok t hC hp hok n13 n15 n17 n35 n37 n57 hg1 z3 z5 z7 d3 d5 d7 hQ _ 0 (by omega) m4 im hO h3 h5 hb7
   | true =>
    rw [if_neg (by simp)]
    have e : fwdA a v = (a, (v.1, toW a.ws v.2)) := by unfold fwdA; rw [if_pos ⟨hr, hC.other2 hp⟩, if_pos hf]
    rw [e] at hQ
    refine sto (c := #[.int .i64 v.1, .int .i64 v.2]) (t := 75) h3 rfl (by simp) fun m5 e5 q5 ne5 => ?_
    have q5 : m5 g3 = some (.cells #[.int .i64 v.1, .int .i64 (toW a.ws v.2)] 75 (0, 0)) := q5
    have im5 := im.ext (m' := m5) fun q hq => ne5 q fun e => by
     rcases List.mem_cons.1 hq with h | h
     ·exact n13 (h.symm.trans e)
     ·exact d3 (e ▸ h)
    exact fwdT_ok (v := (v.1, toW a.ws v.2)) im5 q5 (by rw [ne5 g5 (Ne.symm n35)]; exact h5) (by rw [ne5 g7 (Ne.symm n37)]; exact hb7) n15 n35 n57 z5 z7 d5 d7 (hO.fresh z3 ne5) hQ
def arT (Q : Value → Mem → Prop) (g1 g3 : Nat) (m4 : Mem) : Prop :=
 (rA m4 g1 fun w0 => (stoA m4 ⟨g3, 0, none⟩ w0 fun m137 => (rA m137 g3 fun w1 => ret Q (.agg w1.toArray) m137)))
theorem arT_ok {Q : Value → Mem → Prop} {g1 g3 : Nat} {s r : Sl} {b : Ar} {D : List Nat} {M m0 : Mem} (im : Im M g1 s r b D) (h3 : M g3 = some (.cells zAr 27 (0, 0))) (z3 : m0 g3 = none) (d3 : g3 ∉ D)
  (hO : Off D m0 M) (hQ : ∀ m', (∀ b, b ∉ D → m' b = m0 b) → Wo m' s r b D → Q (vA s r b) m') : arT Q g1 g3 M := by
 unfold arT
 obtain ⟨wa, wn, wc⟩ := s
 obtain ⟨ra, rn, rc⟩ := r
 refine ⟨_, _, _, cO im.p 0, _, cO im.p 1, _, cO im.p 2, _, cO im.p 3, _, cO im.p 4, _, cO im.p 5, _, cO im.p 6, _, cO im.p 7, _, cO im.p 8, _, _, _, cO im.p 9, ?_⟩
 refine sto_ar h3 fun m1 e1 q1 ne1 => ?_
 have p3 : Ptr m1 g3 ⟨wa, wn, wc⟩ ⟨ra, rn, rc⟩ b := q1
 refine ⟨_, _, _, cO p3 0, _, cO p3 1, _, cO p3 2, _, cO p3 3, _, cO p3 4, _, cO p3 5, _, cO p3 6, _, cO p3 7, _, cO p3 8, _, _, _, cO p3 9, ?_⟩
 exact ret_off (hO.fresh z3 ne1) (hQ _ (fun b hb => mix_off hb) (Wo.mix (im.w.ext fun q hq => ne1 q (fun e => d3 (e ▸ hq)))))
def s118 : Spec := fun args m Q => ∃ (s r : Sl) (a : Ar) (D : List Nat), args = [vA s r a] ∧ Wo m s r a D ∧ ∀ m', (∀ b, b ∉ D → m' b = m b) → Wo m' s r (overA a) D → Q (vA s r (overA a)) m'
theorem f118 (t : Tab) : Mt t s118 kp118 Tryz.f118 := by
 rintro args m Q ⟨s, r, a, D, rfl, hW, hQ⟩
 show FA _ _ _ _ [aG s r a] m Q
 rw [e118]
 refine newA_intro fun g1 m1 hg1 e1 hb1 hle1 => newA_intro fun g3 m2 hg3 e2 hb3 hle2 => ?_
 have l2 := Mem.le_trans hle1 hle2
 have p1 : m2 g1 = some (.cells (cA s r a) 27 (0, 0)) := hle2 _ _ hb1
 have im := hW.loc hg1 p1 l2
 have n13 : g1 ≠ g3 := ne_of_none hg3 hb1
 have z3 := le_none hle1 hg3
 have d3 := hW.fresh z3
 have hO : Off D m m2 := Off.of_le l2
 have same : overA a = a → arT Q g1 g3 m2 := fun e => by
  rw [e] at hQ
  exact arT_ok im hb3 z3 d3 hO hQ
 refine ⟨_, cO im.p 4, ?_⟩
 cases hc : a.cyc with
 | false =>
  rw [if_neg (by simp)]
  exact same (by unfold overA; rw [if_neg (by rw [hc]; simp)])
 | true =>
  rw [if_pos rfl]
  refine ⟨_, cO im.p 5, _, cO im.p 3, ?_⟩
  by_cases hs : a.scan = a.top
  ·rw [if_pos (by simpa using hs)]
   have e : overA a = { a with cyc := false, scan := 0, old := 0, cop := 0 } := by unfold overA; rw [if_pos ⟨hc, hs⟩]
   rw [e] at hQ
   refine im.fld 4 _ { a with cyc := false } rfl (by decide) rfl rfl rfl fun m3 o3 im3 => ?_
   refine im3.fld 5 _ { a with cyc := false, scan := 0 } rfl (by decide) rfl rfl rfl fun m4 o4 im4 => ?_
   refine im4.fld 6 _ { a with cyc := false, scan := 0, old := 0 } rfl (by decide) rfl rfl rfl fun m5 o5 im5 => ?_
   refine im5.fld 7 _ { a with cyc := false, scan := 0, old := 0, cop := 0 } rfl (by decide) rfl rfl rfl fun m6 o6 im6 => ?_
   refine arT_ok im6 ?_ z3 d3 ((((hO.fresh hg1 o3).fresh hg1 o4).fresh hg1 o5).fresh hg1 o6) hQ
   rw [o6 g3 (Ne.symm n13), o5 g3 (Ne.symm n13), o4 g3 (Ne.symm n13), o3 g3 (Ne.symm n13)]
   exact hb3
  ·rw [if_neg (by simpa using hs)]
   exact same (by unfold overA; rw [if_neg (by simp [hs])])
theorem setAll_cA {s0 r0 s r : Sl} {b0 b : Ar} : setAll (cA s0 r0 b0) 0 [.slice s.a s.n s.c, .int .i64 b.semi, .int .i64 b.to, .int .i64 b.top, .bool b.cyc, .int .i64 b.scan, .int .i64 b.old, .int .i64 b.cop, .int .i64 b.ser, .slice r.a r.n r.c] = cA s r b := by kernel_rfl
theorem put_all {g : Nat} {s0 r0 s r : Sl} {b0 b : Ar} {D : List Nat} {M : Mem} {K : Mem → Prop} (h : Ptr M g s0 r0 b0) (hW : Wo M s r b D) (hg : g ∉ D) (hK : ∀ M', (∀ q, q ≠ g → M' q = M q) → Im M' g s r b D → K M') :
  stoA M ⟨g, 0, none⟩ [.slice s.a s.n s.c, .int .i64 b.semi, .int .i64 b.to, .int .i64 b.top, .bool b.cyc, .int .i64 b.scan, .int .i64 b.old, .int .i64 b.cop, .int .i64 b.ser, .slice r.a r.n r.c] K := by
 refine sto h rfl (by show 0 + 10 ≤ 10; decide) fun m' e q ne => hK m' ne ⟨?_, hW.ext fun b hb => ne b fun e => hg (e ▸ hb), hg⟩
 rw [setAll_cA] at q
 exact q
theorem Off.none {X : List Nat} {m M : Mem} {g : Nat} (h : Off X m M) (hg : M g = none) (hx : g ∉ X) : m g = none := by
 cases e : m g with
 | none => rfl
 | some o => have := h g o hx e; rw [hg] at this; cases this
theorem Off.at {X : List Nat} {m M : Mem} {b : Nat} {o : Obj} (h : Off X m M) (hb : b ∉ X) (ho : m b = some o) : M b = some o := h b o hb ho
theorem Off.sub {X Y : List Nat} {m M : Mem} (h : Off X m M) (hs : ∀ b ∈ X, b ∈ Y) : Off Y m M := fun b o hb e => h b o (fun hx => hb (hs b hx)) e
theorem putV_tag {a a1 : Ar} {T1 T2 Ta : List Int} (hw : a.wf) {p x : Int} {w : Vl} (v1 : valOkB (valW a.ws (p + x)) = true) (F : FwdOk a T1 T2 (valW a.ws (p + x)) a1 w Ta) (hp : p ∈ T1) (x0 : 0 ≤ x) (x1 : x ≤ szW a.ws p) (p0 : 0 ≤ p) (hl : p + x + 1 < a.ws.length) :
  putV a1 (p + x) w = { a1 with ws := setW a1.ws (p + x + 1) (uW w.2) } := by
 have hin := gw_in hw.w (p + x)
 have ht := wrap_big hin (valOk_tag v1)
 have e1 : gw a1.ws (p + x) = gw a.ws (p + x) := F.keep p hp x x0 x1
 have e2 : uW w.1 = gw a1.ws (p + x) := by
  rw [F.tag, e1]
  have h0 := hin.1
  have : (valW a.ws (p + x)).1 = gw a.ws (p + x) := w64 (by omega) (by omega)
  rw [this]
  exact uW_id h0 (by omega)
 unfold putV
 rw [e2, setW_same (by omega) (by rw [F.f.len]; omega) rfl]
def stS (call : FuncId → Spec) (n2 n6 : Nat) (Q : Value → Mem → Prop) (x1 : Int) (x2g x4g : Nat) (x6 : Int) (x7g : Nat) (x8a : Option Addr) (x8n x8c : Nat) (x9 : Int) (g167 : Nat) (m169 : Mem) : Prop :=
 (rA m169 x2g fun w0 => (∃ y194 : Int, (ci m169 g167 0 y194 ∧ (∃ y196 : Int, (ci m169 g167 1 y196 ∧ (call 196 [(.agg w0.toArray), (.agg #[(.int .i64 y194), (.int .i64 y196)])] m169 fun v198 m199 => (wV v198 fun w2 y214 y215 => (newA m199 (.cells #[(.slice none 0 0), (.int .i64 (0 : Int)), (.int .i64 (0 : Int)), (.int .i64 (0 : Int)), (.bool false), (.int .i64 (0 : Int)), (.int .i64 (0 : Int)), (.int .i64 (0 : Int)), (.int .i64 (0 : Int)), (.slice none 0 0)] 27 (0, 0)) fun g216 m217 => (newA m217 (.cells #[(.int .i64 (0 : Int)), (.int .i64 (0 : Int))] 75 (0, 0)) fun g218 m219 => (stoA m219 ⟨g216, 0, none⟩ w2 fun m220 => (stoA m220 ⟨g218, 0, none⟩ [(.int .i64 y214), (.int .i64 y215)] fun m221 => (rA m221 g216 fun w1 => (stoA m221 ⟨x2g, 0, none⟩ w1 fun m246 => (∃ S247 : Mem → Prop, S247 m246 ∧ (∃ (ra248 : Option Addr) (rn249 rc250 : Nat), ((hs S247 x2g 0 ra248 rn249 rc250) ∧ (∃ y252 : Int, ((hi S247 x2g 5 y252) ∧ (optA x8a fun d254 => (0 ≤ x9 ∧ x9 < ((x8n : Nat) : Int) ∧ (∃ y255 : Int, ((∀ q256 : Mem, S247 q256 → Mem.cell? q256 (d254.add (Int.toNat x9 * 1)) = some (.int .i64 y255)) ∧ (∃ y257 : Int, ((hi S247 g218 1 y257) ∧ (optA ra248 fun d259 => (0 ≤ (IntKind.i64.wrap ((IntKind.i64.wrap (y252 + y255)) + (1 : Int))) ∧ (IntKind.i64.wrap ((IntKind.i64.wrap (y252 + y255)) + (1 : Int))) < ((rn249 : Nat) : Int) ∧ (stoA m246 (d259.add (Int.toNat (IntKind.i64.wrap ((IntKind.i64.wrap (y252 + y255)) + (1 : Int))) * 1)) [(.int .u64 (IntKind.u64.wrap y257))] fun m260 => L117_6 call n2 n6 Q x1 x2g x4g x6 x7g x8a x8n x8c ((IntKind.i64.wrap (x9 + (1 : Int)))) m260)))))))))))))))))))))))))))
theorem stS_ok (t : Tab) (h196 : look t 196 = s196) {Q : Value → Mem → Prop} {n2 n6 g1 g4 g7 gv : Nat} {x1 x6 p x : Int} {i : Nat} {s r sl : Sl} {D : List Nat} {M m0 : Mem} {b : Ar} {xs : List Int} {T1 T2 : List Int} (im : Im M g1 s r b D) (hO : Off D m0 M) (z1 : m0 g1 = none)
  (hv : M gv = some (.cells #[.int .i64 (valW b.ws (p + x)).1, .int .i64 (valW b.ws (p + x)).2] 75 (0, 0))) (hC : C0 b T1 T2) (hp : p ∈ T1) (hx : x ∈ slotsL (kdW b.ws p) (szW b.ws p)) (hs : b.scan = p) (hsl : Rd M sl.a xs) (hxn : xs.length = sl.n) (hi : i < sl.n) (hxi : xs.getD i 0 = x) (hsb : sl.n ≤ 2 ^ 30)
  (hslM : ∀ M', Off (g1 :: D) M M' → Rd M' sl.a xs)
  (hK : ∀ M', Off D m0 M' → Off (g1 :: D) M M' → Im M' g1 s r (putV (fwdA b (valW b.ws (p + x))).1 (p + x) (fwdA b (valW b.ws (p + x))).2) D → L117_6 (look t) n2 n6 Q x1 g1 g4 x6 g7 sl.a sl.n sl.c ((i + 1 : Nat) : Int) M') :
  stS (look t) n2 n6 Q x1 g1 g4 x6 g7 sl.a sl.n sl.c (i : Int) gv M := by
 unfold stS
 have nm := hC.nums
 have hs1 := hC.N.sm.s1
 have hl := hC.N.sm.l
 have ip := hC.in1 hp
 have sx := slots_in (size_ok hC.wf (hC.h1 _ hp)).1 hx
 obtain ⟨v1, v2⟩ := hC.v1 _ hp x hx
 obtain ⟨Ta, F⟩ := fwd_ok hC v1 v2
 refine ⟨_, _, _, cO im.p 0, _, cO im.p 1, _, cO im.p 2, _, cO im.p 3, _, cO im.p 4, _, cO im.p 5, _, cO im.p 6, _, cO im.p 7, _, cO im.p 8, _, _, _, cO im.p 9, _, cO hv 0, _, cO hv 1, ?_⟩
 refine via h196 ⟨s, r, b, D, valW b.ws (p + x), rfl, im.w, ⟨T1, T2, hC, v1, v2⟩, fun m1 o1 w1 => ⟨_, _, _, _, _, _, _, _, _, _, _, _, _, _, _, _, rfl, ?_⟩⟩
 have e1 := putV_tag hC.wf v1 F hp (by omega) (by omega) (by omega) (by omega)
 rw [e1] at hK
 have ft : (fwdA b (valW b.ws (p + x))).1.scan = p := F.f.scan.trans hs
 have fl : (fwdA b (valW b.ws (p + x))).1.ws.length = b.ws.length := F.f.len
 generalize hbb : (fwdA b (valW b.ws (p + x))).1 = b1 at w1 hK ft fl ⊢
 generalize hww : (fwdA b (valW b.ws (p + x))).2 = w at hK ⊢
 have p1 : Ptr m1 g1 s r b := by unfold Ptr; rw [o1 g1 im.g]; exact im.p
 have O1 : Off D M m1 := Off.of_eq o1
 refine newA_intro fun g2 m2 hg2 e2 hb2 hle2 => newA_intro fun g3 m3 hg3 e3 hb3 hle3 => ?_
 have n23 : g2 ≠ g3 := ne_of_none hg3 hb2
 have n12 : g1 ≠ g2 := ne_of_none hg2 p1
 have n13 : g1 ≠ g3 := ne_of_none hg3 (hle2 _ _ p1)
 have d2 := w1.fresh hg2
 have d3 := w1.fresh (le_none hle2 hg3)
 refine sto_ar (hle3 _ _ hb2) fun m4 e4 q4 ne4 => ?_
 refine sto (c := #[.int .i64 0, .int .i64 0]) (t := 75) ((ne4 g3 (Ne.symm n23)).trans hb3) rfl (by simp) fun m5 e5 q5 ne5 => ?_
 have q5 : m5 g3 = some (.cells #[.int .i64 w.1, .int .i64 w.2] 75 (0, 0)) := q5
 have p2 : Ptr m5 g2 s r b1 := by unfold Ptr; rw [ne5 g2 n23]; exact q4
 have zg2 : M g2 = none := O1.none hg2 d2
 have zg3 : M g3 = none := O1.none (le_none hle2 hg3) d3
 have O3 : Off D M m3 := O1.trans (Off.of_le (Mem.le_trans hle2 hle3))
 have O5 : Off D M m5 := (O3.fresh zg2 ne4).fresh zg3 ne5
 have w5 : Wo m5 s r b1 D := w1.ext fun q hq => by
  obtain ⟨o, ho⟩ := w1.live q hq
  rw [ne5 q fun e => d3 (e ▸ hq), ne4 q fun e => d2 (e ▸ hq), ho, hle3 _ _ (hle2 _ _ ho)]
 have p5 : Ptr m5 g1 s r b := by
  unfold Ptr
  rw [ne5 g1 n13, ne4 g1 n12]
  exact hle3 _ _ (hle2 _ _ p1)
 refine ⟨_, _, _, cO p2 0, _, cO p2 1, _, cO p2 2, _, cO p2 3, _, cO p2 4, _, cO p2 5, _, cO p2 6, _, cO p2 7, _, cO p2 8, _, _, _, cO p2 9, ?_⟩
 refine put_all p5 w5 im.g fun m6 ne6 im6 => ?_
 have q6 : m6 g3 = some (.cells #[.int .i64 w.1, .int .i64 w.2] 75 (0, 0)) := by rw [ne6 g3 (Ne.symm n13)]; exact q5
 have O6 : Off (g1 :: D) M m6 := (O5.sub fun q hq => by simp [hq]).put (by simp) ne6
 refine ⟨Mem.le m6, Mem.le_refl _, _, _, _, held (cO im6.p 0), _, held (cO im6.p 5), ?_⟩
 refine at1 (0 : Int) (fun y : Int => .int .i64 y) (fun _ => rfl) (hslM m6 O6) hxn (by omega) (by omega) fun ad had hd => ⟨_, hd, _, held (cO q6 1), ?_⟩
 have ei : (i : Int).toNat = i := by omega
 rw [ei, hxi, ft, w64 (x := p + x) (by omega) (by omega), w64 (x := p + x + 1) (by omega) (by omega)]
 refine im6.put_w (by omega) (by omega) fun m7 o7 im7 => ?_
 rw [wsucc (n := i + 1) (by omega) (by omega)]
 exact hK m7 (((hO.trans O5).fresh z1 ne6).trans (Off.of_eq o7)) (O6.trans (Off.of_eq fun q hq => o7 q fun h => hq (by simp [h]))) im7
theorem slots_loopS (t : Tab) (h112 : look t 112 = s112) (h196 : look t 196 = s196) (h118 : look t 118 = s118) {Q : Value → Mem → Prop} {g1 g4 g7 n2 : Nat} {s r sl : Sl} {D E : List Nat} {m0 : Mem} {a : Ar} {T2 : List Int} {x1 x6 ser : Int}
  (z1 : m0 g1 = none) (n4 : g4 ∉ g1 :: D) (n7 : g7 ∉ g1 :: D) (hE : ∀ b ∈ E, b ∉ g1 :: D) (a0 : 0 ≤ a.scan) (a1 : a.scan ≤ 8000) (hw : ∀ x ∈ a.ws, inW x.v)
  (hK : ∀ M', Off D m0 M' → Im M' g1 s r (overA (scanA a)) D → M' g4 = some (.cells zAr 27 (0, 0)) → L117_2 (look t) n2 Q x1 g1 g4 (IntKind.i64.wrap (x6 + 1)) M') :
  ∀ (d i : Nat), i + d = (slotsL (kdW a.ws a.scan) (szW a.ws a.scan)).length → ∀ (M : Mem) (b : Ar) (T1 : List Int), Off D m0 M → Im M g1 s r b D → C0 b T1 T2 → a.scan ∈ T1 → kdW b.ws a.scan = kdW a.ws a.scan → szW b.ws a.scan = szW a.ws a.scan → b.scan = a.scan →
   scS a.scan ((slotsL (kdW a.ws a.scan) (szW a.ws a.scan)).drop i) b = scS a.scan (slotsL (kdW a.ws a.scan) (szW a.ws a.scan)) a →
   OwnL M sl (slotsL (kdW a.ws a.scan) (szW a.ws a.scan)) E → M g7 = some (.cells #[.int .i64 (kdW a.ws a.scan), .int .i64 (szW a.ws a.scan), .int .i64 ser] 33 (0, 0)) → M g4 = some (.cells zAr 27 (0, 0)) →
   L117_6 (look t) n2 (d + 1) Q x1 g1 g4 x6 g7 sl.a sl.n sl.c (i : Int) M := by
 have hB : (slotsL (kdW a.ws a.scan) (szW a.ws a.scan)).length ≤ 2 ^ 30 := by
  unfold slotsL
  rw [everyK_len]
  unfold numK fromK
  have := szW_0 hw a.scan
  repeat' split
  all_goals omega
 intro d
 induction d with
 | zero =>
  intro i hi M b T1 hO im hC hp hk hz hs he hsl hb7 hb4
  have bz := szW_0 hw a.scan
  rw [l117_6]
  refine ⟨M, Mem.le_refl _, ?_⟩
  have hn := hsl.1
  rw [if_neg (by simp; omega)]
  refine ⟨_, cO im.p 5, _, cO hb7 1, ?_⟩
  rw [hs, w64 (x := a.scan + szW a.ws a.scan) (by omega) (by omega), w64 (by omega) (by omega)]
  rw [List.drop_eq_nil_of_le (by omega)] at he
  have he : b = scS a.scan (slotsL (kdW a.ws a.scan) (szW a.ws a.scan)) a := he
  refine im.fld 5 _ (scanA a) (by unfold scanA; rw [← he]; rfl) (by decide) rfl (by unfold scanA; rw [← he]) (by unfold scanA; rw [← he]) fun m1 o1 im1 => ⟨_, _, _, cO im1.p 0, _, cO im1.p 1, _, cO im1.p 2, _, cO im1.p 3, _, cO im1.p 4, _, cO im1.p 5, _, cO im1.p 6, _, cO im1.p 7, _, cO im1.p 8, _, _, _, cO im1.p 9, ?_⟩
  refine via h118 ⟨s, r, scanA a, D, rfl, im1.w, fun m2 o2 w2 => ⟨_, _, _, _, _, _, _, _, _, _, _, _, _, _, rfl, ?_⟩⟩
  have p2 : Ptr m2 g1 s r (scanA a) := by unfold Ptr; rw [o2 g1 im.g]; exact im1.p
  refine put_all p2 w2 im.g fun m3 o3 im3 => ?_
  have h4 : m3 g4 = some (.cells zAr 27 (0, 0)) := by
   rw [o3 g4 fun h => n4 (by simp [h]), o2 g4 fun h => n4 (by simp [h]), o1 g4 fun h => n4 (by simp [h])]
   exact hb4
  exact hK m3 (((hO.fresh z1 o1).trans (Off.of_eq o2)).fresh z1 o3) im3 h4
 | succ d ih =>
  intro i hi M b T1 hO im hC hp hk hz hs he hsl hb7 hb4
  have hn := hsl.1
  have hlt : i < (slotsL (kdW a.ws a.scan) (szW a.ws a.scan)).length := by omega
  rw [l117_6]
  refine ⟨M, Mem.le_refl _, ?_⟩
  rw [if_pos (by simp; omega)]
  generalize hx : (slotsL (kdW a.ws a.scan) (szW a.ws a.scan))[i] = x
  have hgx : (slotsL (kdW a.ws a.scan) (szW a.ws a.scan)).getD i 0 = x := by rw [List.getD_eq_getElem?_getD, List.getElem?_eq_getElem hlt]; exact hx
  have hxm : x ∈ slotsL (kdW a.ws a.scan) (szW a.ws a.scan) := hx ▸ List.getElem_mem _
  have hxb : x ∈ slotsL (kdW b.ws a.scan) (szW b.ws a.scan) := by rw [hk, hz]; exact hxm
  have sx := slots_in (size_ok hC.wf (hC.h1 _ hp)).1 hxb
  have ip := hC.in1 hp
  have nm := hC.nums
  have hl := hC.N.sm.l
  have hs1 := hC.N.sm.s1
  have w1 : IntKind.i64.wrap (a.scan + x) = a.scan + x := w64 (by omega) (by omega)
  obtain ⟨v1, v2⟩ := hC.v1 _ hp x hxb
  have hAt := im.w.at
  have hsn := hAt.n
  have rv : readV b.ws (a.scan + x) = (valW b.ws (a.scan + x), true) := by unfold readV; rw [v1]; rfl
  obtain ⟨T1', S⟩ := scan_ok (p := a.scan) (T2 := T2) [x] b T1 hC hp (by simp) (fun y hy => by simp at hy; subst hy; exact hxb)
  have e0 := S.head _ hp
  have ownM : ∀ M1 M' : Mem, Mem.le M M1 → Off (g1 :: D) M1 M' → OwnL M' sl (slotsL (kdW a.ws a.scan) (szW a.ws a.scan)) E := fun M1 M' hl1 hO1 => hsl.ext fun q hq => by
   obtain ⟨o, ho⟩ := hsl.live q hq
   rw [ho]
   exact hO1 q o (hE q hq) (hl1 q o ho)
  have core : ∀ (M1 : Mem) (gv : Nat), Mem.le M M1 → M1 gv = some (.cells #[.int .i64 (valW b.ws (a.scan + x)).1, .int .i64 (valW b.ws (a.scan + x)).2] 75 (0, 0)) →
    stS (look t) n2 (d + 1) Q x1 g1 g4 x6 g7 sl.a sl.n sl.c (i : Int) gv M1 := fun M1 gv hl1 hv =>
   stS_ok t h196 (im.le hl1) (hO.trans (Off.of_le hl1)) z1 hv hC hp hxb hs (hsl.rd.le hl1) hn.symm (by omega) hgx (by omega) (fun M' hO1 => (ownM M1 M' hl1 hO1).rd) fun M' hO2 hO3 im' =>
    ih (i + 1) (by omega) M' _ T1' hO2 im' S.c (S.sub _ hp) ((kd_c e0).trans hk) ((sz_c e0).trans hz) (S.f.scan.trans hs) (by rw [← he, List.drop_eq_getElem_cons hlt, hx]; rfl) (ownM M1 M' hl1 hO3) (hO3.at n7 (hl1 _ _ hb7)) (hO3.at n4 (hl1 _ _ hb4))
  refine ⟨Mem.le M, Mem.le_refl _, _, _, _, held (cO im.p 0), _, held (cO im.p 5), ?_⟩
  refine at1 (0 : Int) (fun y : Int => .int .i64 y) (fun _ => rfl) hsl.rd hn.symm (by omega) (by omega) fun ad had hd => ⟨_, hd, ?_, ?_⟩
  all_goals
   have ei : (i : Int).toNat = i := by omega
   rw [ei, hgx, hs, w1]
  ·refine via h112 ⟨s, b.ws, a.scan + x, rfl, hAt.n, hAt.w, hC.wf.w, hC.wf.n, by omega, by omega, ?_⟩
   rw [rv]
   refine ⟨_, _, _, rfl, Mem.le_refl _, newA_intro fun gv m1 hgv e1 hbv hle1 => ⟨hle1, ?_⟩⟩
   refine sto (c := #[.int .i64 0, .int .i64 0]) (t := 75) hbv rfl (by simp) fun m2 e2 q2 ne2 => ?_
   have l2 : Mem.le M m2 := le_other hle1 hgv ne2
   exact ⟨l2, core m2 gv l2 q2⟩
  ·refine newA_intro fun gv m1 hgv e1 hbv hle1 => ⟨hle1, ?_⟩
   refine via h112 ⟨s, b.ws, a.scan + x, rfl, hAt.n, hAt.w.le hle1, hC.wf.w, hC.wf.n, by omega, by omega, ?_⟩
   rw [rv]
   refine ⟨_, _, _, rfl, hle1, ?_⟩
   refine sto (c := #[.int .i64 0, .int .i64 0]) (t := 75) hbv rfl (by simp) fun m2 e2 q2 ne2 => ?_
   have l2 : Mem.le M m2 := le_other hle1 hgv ne2
   exact ⟨l2, core m2 gv l2 q2⟩
def stT (Q : Value → Mem → Prop) (x2g x4g : Nat) (x6 : Int) (m6 : Mem) : Prop :=
 (rA m6 x2g fun w0 => (stoA m6 ⟨x4g, 0, none⟩ w0 fun m77 => (rA m77 x4g fun w1 => ret Q (.tuple #[(.agg w1.toArray), (.int .i64 x6)]) m77)))
theorem stT_ok {Q : Value → Mem → Prop} {g1 g3 : Nat} {s r : Sl} {b : Ar} {D : List Nat} {M m0 : Mem} {k : Int} (im : Im M g1 s r b D) (h3 : M g3 = some (.cells zAr 27 (0, 0))) (z3 : m0 g3 = none) (d3 : g3 ∉ D)
  (hO : Off D m0 M) (hQ : ∀ m', (∀ b, b ∉ D → m' b = m0 b) → Wo m' s r b D → Q (.tuple #[vA s r b, .int .i64 k]) m') : stT Q g1 g3 k M := by
 unfold stT
 obtain ⟨wa, wn, wc⟩ := s
 obtain ⟨ra, rn, rc⟩ := r
 refine ⟨_, _, _, cO im.p 0, _, cO im.p 1, _, cO im.p 2, _, cO im.p 3, _, cO im.p 4, _, cO im.p 5, _, cO im.p 6, _, cO im.p 7, _, cO im.p 8, _, _, _, cO im.p 9, ?_⟩
 refine sto_ar h3 fun m1 e1 q1 ne1 => ?_
 have p3 : Ptr m1 g3 ⟨wa, wn, wc⟩ ⟨ra, rn, rc⟩ b := q1
 refine ⟨_, _, _, cO p3 0, _, cO p3 1, _, cO p3 2, _, cO p3 3, _, cO p3 4, _, cO p3 5, _, cO p3 6, _, cO p3 7, _, cO p3 8, _, _, _, cO p3 9, ?_⟩
 exact ret_off (hO.fresh z3 ne1) (hQ _ (fun b hb => mix_off hb) (Wo.mix (im.w.ext fun q hq => ne1 q (fun e => d3 (e ▸ hq)))))
def s117 : Spec := fun args m Q => ∃ (s r : Sl) (a : Ar) (D : List Nat) (n : Int), args = [vA s r a, .int .i64 n] ∧ Wo m s r a D ∧ Gd a ∧ -9223372036854775808 ≤ n ∧ n ≤ 9223372036854775807 ∧
 ∀ m' (k : Int), (∀ b, b ∉ D → m' b = m b) → Wo m' s r (stepsA n.toNat a) D ∧ k = cntA n.toNat a → Q (.tuple #[vA s r (stepsA n.toNat a), .int .i64 k]) m'
theorem f117 (t : Tab) (h112 : look t 112 = s112) (h196 : look t 196 = s196) (h118 : look t 118 = s118) (h90 : look t 90 = s90) (h111 : look t 111 = s111) : Mt t s117 kp117 Tryz.f117 := by
 rintro args m Q ⟨s, r, a, D, n, rfl, hW, hG, hn0, hn, hQ⟩
 show FA _ _ _ _ [aG s r a, .int .i64 n] m Q
 rw [e117]
 refine newA_intro fun g1 m1 hg1 e1 hb1 hle1 => newA_intro fun g4 m2 hg4 e2 hb4 hle2 => ?_
 have l2 := Mem.le_trans hle1 hle2
 have p1 : m2 g1 = some (.cells (cA s r a) 27 (0, 0)) := hle2 _ _ hb1
 have im := hW.loc hg1 p1 l2
 have n14 : g1 ≠ g4 := ne_of_none hg4 hb1
 have z4 := le_none hle1 hg4
 have d4 := hW.fresh z4
 have n4 : g4 ∉ g1 :: D := fun h => by
  rcases List.mem_cons.1 h with h | h
  ·exact n14 h.symm
  ·exact d4 h
 have key : ∀ (f i : Nat), i + f ≤ 8000 → i + f ≤ n.toNat → ∀ (M : Mem) (b : Ar), (i + f = n.toNat ∨ (stepsA f b).cyc = false) → Im M g1 s r b D → Off D m M → Gd b → M g4 = some (.cells zAr 27 (0, 0)) → (∀ m' (k : Int), (∀ b, b ∉ D → m' b = m b) → Wo m' s r (stepsA f b) D ∧ k = i + cntA f b → Q (.tuple #[vA s r (stepsA f b), .int .i64 k]) m') → L117_2 (look t) (f + 1) Q n g1 g4 (i : Int) M := by
  intro f
  induction f with
  | zero =>
   intro i h8 hi M b hs imb hO hGb hb4 hK
   rw [l117_2]
   refine ⟨M, Mem.le_refl _, _, cO imb.p 4, ?_⟩
   have fin : stT Q g1 g4 (i : Int) M := stT_ok imb hb4 z4 d4 hO fun m' o w => hK m' _ o ⟨w, by show (i : Int) = i + ((0 : Nat) : Int); omega⟩
   cases hc : b.cyc with
   | false => rw [if_neg (by simp)]; exact fin
   | true =>
    have hi : i + 0 = n.toNat := hs.resolve_right fun h => by have h : b.cyc = false := h; rw [hc] at h; cases h
    rw [if_pos rfl, if_neg (by simp; omega)]; exact fin
  | succ f ih =>
   intro i h8 hi M b hs imb hO hGb hb4 hK
   rw [l117_2]
   refine ⟨M, Mem.le_refl _, _, cO imb.p 4, ?_⟩
   rcases hGb with ⟨T1, h⟩ | ⟨T1, T2, h, hne⟩
   ·rw [h.cy, if_neg (by simp)]
    rw [steps_idle _ h.cy] at hK
    exact (stT_ok imb hb4 z4 d4 hO fun m' o w => hK m' _ o ⟨w, by rw [cnt_idle _ h.cy]; omega⟩ : stT Q g1 g4 (i : Int) M)
   ·have hc := h.c.cy
    have hC := h.c
    rw [hc, if_pos rfl, if_pos (by simp; omega)]
    have hp : b.scan ∈ T1 := h.sc.resolve_left hne
    have ip := hC.in1 hp
    have nm := hC.nums
    have hs1 := hC.N.sm.s1
    have hl := hC.N.sm.l
    have hAt := imb.w.at
    have bz := szW_0 hC.wf.w b.scan
    refine ⟨_, _, _, cO imb.p 0, _, cO imb.p 1, _, cO imb.p 2, _, cO imb.p 3, _, cO imb.p 4, _, cO imb.p 5, _, cO imb.p 6, _, cO imb.p 7, _, cO imb.p 8, _, _, _, cO imb.p 9, _, cO imb.p 5, via h90 ⟨s, r, b, b.scan, rfl, ⟨hAt, hC.wf, by omega, by omega⟩, _, _, _, rfl, ?_⟩⟩
    refine newA_intro fun g6 m6 hg6 e6 hb6 hle6 => sto (c := #[.int .i64 0, .int .i64 0, .int .i64 0]) (t := 33) hb6 rfl (by simp) fun m7 e7 h7 ne7 => ?_
    have h7 : m7 g6 = some (.cells #[.int .i64 (kdW b.ws b.scan), .int .i64 (szW b.ws b.scan), .int .i64 (serW b.ws b.scan)] 33 (0, 0)) := h7
    have n6 := imb.fresh hg6
    have le7 : Mem.le M m7 := le_other hle6 hg6 ne7
    refine ⟨_, cO h7 0, _, cO h7 1, via h111 ⟨_, _, rfl, bz.1, bz.2, (size_ok hC.wf (hC.h1 _ hp)).1, fun sl M2 E hle2 hsl hE => ⟨_, _, _, rfl, (slotsL (kdW b.ws b.scan) (szW b.ws b.scan)).length + 1, ?_⟩⟩⟩
    have lM := Mem.le_trans le7 hle2
    have im2 := imb.le lM
    obtain ⟨T1', k1, k2, k3, k4⟩ := h.scan hne
    obtain ⟨o1, o2, o3, o4⟩ := k1.over
    refine slots_loopS t h112 h196 h118 (T2 := T2) (a := b) (m0 := m) (E := E) hg1 n4 n6 (fun q hq => imb.fresh (le_none le7 (hE q hq))) (by omega) (by omega) hC.wf.w (fun M' hO' imM h4' => ?_) _ 0 (by omega) M2 b T1 (hO.trans (Off.of_le lM)) im2 hC hp rfl rfl rfl rfl hsl (hle2 _ _ h7) (lM _ _ hb4)
    have ew : IntKind.i64.wrap ((i : Int) + 1) = ((i + 1 : Nat) : Int) := wsucc (n := i + 1) (by omega) (by omega)
    rw [ew]
    have e : stepsA (f + 1) b = stepsA f (overA (scanA b)) := by
     conv => lhs; unfold stepsA
     rw [if_pos hc]
    have e2 : cntA (f + 1) b = 1 + cntA f (overA (scanA b)) := by
     conv => lhs; unfold cntA
     rw [if_pos hc]
    rw [e] at hK hs
    refine ih (i + 1) (by omega) (by omega) M' _ (by rcases hs with h | h; exact .inl (by omega); exact .inr h) imM hO' o1 h4' fun m' k o w => hK m' k o ⟨w.1, by rw [w.2, e2]; omega⟩
 by_cases hN : n.toNat ≤ 8000
 ·exact ⟨_, key n.toNat 0 (by omega) (by omega) m2 a (.inl (by omega)) im (Off.of_le l2) hG hb4 fun m' k o w => hQ m' k o ⟨w.1, by rw [w.2]; omega⟩⟩
 ·have hc : (stepsA 8000 a).cyc = false := (steps_gd 8000 a hG).2.2.2 (by have := hG.room; have := hG.semi; omega)
  have e1 := steps_more 8000 (n.toNat - 8000) hc
  have e2 := cnt_more 8000 (n.toNat - 8000) hc
  rw [show 8000 + (n.toNat - 8000) = n.toNat by omega] at e1 e2
  exact ⟨_, key 8000 0 (by omega) (by omega) m2 a (.inr hc) im (Off.of_le l2) hG hb4 fun m' k o w => by rw [← e1]; exact hQ m' k o ⟨by rw [e1]; exact w.1, by rw [w.2, e2]; omega⟩⟩
theorem Wo.le {m m' : Mem} {s r : Sl} {a : Ar} {D : List Nat} (h : Wo m s r a D) (hl : Mem.le m m') : Wo m' s r a D := h.ext fun b hb => by
 obtain ⟨o, ho⟩ := h.live b hb
 rw [ho, hl b o ho]
theorem rgetH {m : Mem} {a : Option Addr} {l : List Vl} {i : Int} {n : Nat} {K : Addr → Prop} (h : Rd m a l) (hn : l.length = n) (h0 : 0 ≤ i) (hi : i < n)
  (hK : ∀ ad, a = some ad → (∀ q : Mem, Rd q a l → q.cell? (ad.add (i.toNat * 2)) = some (.int .i64 (l.getD i.toNat (0, 0)).1)) → (∀ q : Mem, Rd q a l → q.cell? ((ad.add (i.toNat * 2)).add 1) = some (.int .i64 (l.getD i.toNat (0, 0)).2)) → K ad) : optA a fun ad => 0 ≤ i ∧ i < (n : Int) ∧ K ad := by
 refine rget h hn h0 hi fun ad had _ _ => hK ad had (fun q hq => ?_) (fun q hq => ?_)
 ·have := rget (K := fun ad => q.cell? (ad.add (i.toNat * 2)) = some (.int .i64 (l.getD i.toNat (0, 0)).1)) hq hn h0 hi fun ad _ c1 c2 => c1
  rw [had] at this
  exact this.2.2
 ·have := rget (K := fun ad => q.cell? ((ad.add (i.toNat * 2)).add 1) = some (.int .i64 (l.getD i.toNat (0, 0)).2)) hq hn h0 hi fun ad _ c1 c2 => c2
  rw [had] at this
  exact this.2.2
def flK (call : FuncId → Spec) (n8 : Nat) (Q : Value → Mem → Prop) (x1g x2g : Nat) (x3 : Int) (S52 : Mem → Prop) (ra88 : Option Addr) (rn89 rc90 : Nat) (y91 y92 y93 : Int) (b94 : Bool) (y95 y96 y97 y98 : Int) (ra99 : Option Addr) (rn100 rc101 : Nat) (y102 y103 : Int) (g104 g106 : Nat) (m107 : Mem) : Prop :=
 (stoA m107 ⟨g104, 0, none⟩ [(.slice ra88 rn89 rc90), (.int .i64 y91), (.int .i64 y92), (.int .i64 y93), (.bool b94), (.int .i64 y95), (.int .i64 y96), (.int .i64 y97), (.int .i64 y98), (.slice ra99 rn100 rc101)] fun m108 => (S52 m108 ∧ (stoA m108 ⟨g106, 0, none⟩ [(.int .i64 y102), (.int .i64 y103)] fun m109 => (rA m109 g104 fun w0 => (stoA m109 ⟨x1g, 0, none⟩ w0 fun m134 => (∃ (ra135 : Option Addr) (rn136 rc137 : Nat), (cs m134 x1g 9 ra135 rn136 rc137 ∧ (∃ y139 : Int, (ci m134 g106 0 y139 ∧ (∃ y141 : Int, (ci m134 g106 1 y141 ∧ (optA ra135 fun d143 => (0 ≤ x3 ∧ x3 < ((rn136 : Nat) : Int) ∧ (stoA m134 (d143.add (Int.toNat x3 * 2)) [(.int .i64 y139), (.int .i64 y141)] fun m144 => L109_8 call n8 Q x1g x2g ((IntKind.i64.wrap (x3 + (1 : Int)))) m144))))))))))))))
theorem flK_ok {call : FuncId → Spec} {n8 : Nat} {Q : Value → Mem → Prop} {g1 g3 ga gv i : Nat} {s r : Sl} {b b1 : Ar} {D : List Nat} {M M3 : Mem} {v : Vl} {S : Mem → Prop} (im : Im M g1 s r b D) (O : Off D M M3) (w : Wo M3 s r b1 D) (za : M ga = none) (zv : M gv = none) (da : ga ∉ D) (dv : gv ∉ D) (nav : ga ≠ gv)
  (ha : M3 ga = some (.cells zAr 27 (0, 0))) (hv : M3 gv = some (.cells #[.int .i64 0, .int .i64 0] 75 (0, 0))) (hS : ∀ q, Off D M q → Wo q s r b1 D → S q) (hi : i < b1.rs.length)
  (hK : ∀ M', Off (g1 :: D) M M' → Im M' g1 s r { b1 with rs := b1.rs.set i v } D → L109_8 call n8 Q g1 g3 (IntKind.i64.wrap ((i : Int) + 1)) M') :
  flK call n8 Q g1 g3 (i : Int) S s.a s.n s.c b1.semi b1.to b1.top b1.cyc b1.scan b1.old b1.cop b1.ser r.a r.n r.c v.1 v.2 ga gv M3 := by
 unfold flK
 have hk := w.at.k
 refine sto_ar ha fun m4 e4 q4 ne4 => ?_
 have O4 : Off D M m4 := O.fresh za ne4
 have w4 : Wo m4 s r b1 D := w.ext fun q hq => ne4 q fun e => da (e ▸ hq)
 refine ⟨hS _ O4 w4, ?_⟩
 refine sto (c := #[.int .i64 0, .int .i64 0]) (t := 75) ((ne4 gv (Ne.symm nav)).trans hv) rfl (by simp) fun m5 e5 q5 ne5 => ?_
 have q5 : m5 gv = some (.cells #[.int .i64 v.1, .int .i64 v.2] 75 (0, 0)) := q5
 have O5 : Off D M m5 := O4.fresh zv ne5
 have w5 : Wo m5 s r b1 D := w4.ext fun q hq => ne5 q fun e => dv (e ▸ hq)
 have pa : Ptr m5 ga s r b1 := by unfold Ptr; rw [ne5 ga nav]; exact q4
 have p5 : Ptr m5 g1 s r b := O5 _ _ im.g im.p
 have nv1 : gv ≠ g1 := fun e => by have := im.p; unfold Ptr at this; rw [← e, zv] at this; cases this
 refine ⟨_, _, _, cO pa 0, _, cO pa 1, _, cO pa 2, _, cO pa 3, _, cO pa 4, _, cO pa 5, _, cO pa 6, _, cO pa 7, _, cO pa 8, _, _, _, cO pa 9, ?_⟩
 refine put_all p5 w5 im.g fun m6 ne6 im6 => ?_
 have q6 : m6 gv = some (.cells #[.int .i64 v.1, .int .i64 v.2] 75 (0, 0)) := (ne6 gv nv1).trans q5
 refine ⟨_, _, _, cO im6.p 9, _, cO q6 0, _, cO q6 1, ?_⟩
 refine im6.put_r (v := v) (by omega) (by omega) fun m7 o7 im7 => ?_
 refine hK m7 ?_ im7
 exact ((O5.sub fun x hx => by simp [hx]).put (by simp) ne6).trans (Off.of_eq fun q hq => o7 q fun h => hq (by simp [h]))
theorem fl_loop (t : Tab) (h196 : look t 196 = s196) (h118 : look t 118 = s118) {Q : Value → Mem → Prop} {g1 g3 : Nat} {s r : Sl} {D : List Nat} {m0 : Mem} {T2 : List Int} (z1 : m0 g1 = none) (z3 : m0 g3 = none) (n31 : g3 ≠ g1) (d3 : g3 ∉ D) :
  ∀ (d i : Nat), i + d = r.n → r.n ≤ 2 ^ 20 → ∀ (M : Mem) (b : Ar) (T1 : List Int), Off D m0 M → Im M g1 s r b D → FlI b T1 T2 i → M g3 = some (.cells zAr 27 (0, 0)) →
   (∀ m', (∀ b, b ∉ D → m' b = m0 b) → Wo m' s r (overA (flR d i b)) D → Q (vA s r (overA (flR d i b))) m') → L109_8 (look t) (d + 1) Q g1 g3 (i : Int) M := by
 intro d
 induction d with
 | zero =>
  intro i hi hB M b T1 hO im hF h3 hK
  rw [l109_8]
  refine ⟨M, Mem.le_refl _, _, _, _, cO im.p 9, ?_⟩
  rw [if_neg (by simp; omega)]
  refine ⟨_, _, _, cO im.p 0, _, cO im.p 1, _, cO im.p 2, _, cO im.p 3, _, cO im.p 4, _, cO im.p 5, _, cO im.p 6, _, cO im.p 7, _, cO im.p 8, _, _, _, cO im.p 9, ?_⟩
  refine via h118 ⟨s, r, b, D, rfl, im.w, fun m1 o1 w1 => ⟨_, _, _, _, _, _, _, _, _, _, _, _, _, _, rfl, ?_⟩⟩
  obtain ⟨wa, wn, wc⟩ := s
  obtain ⟨ra, rn, rc⟩ := r
  refine sto_ar ((o1 g3 d3).trans h3) fun m2 e2 q2 ne2 => ?_
  have p3 : Ptr m2 g3 ⟨wa, wn, wc⟩ ⟨ra, rn, rc⟩ (overA b) := q2
  refine ⟨_, _, _, cO p3 0, _, cO p3 1, _, cO p3 2, _, cO p3 3, _, cO p3 4, _, cO p3 5, _, cO p3 6, _, cO p3 7, _, cO p3 8, _, _, _, cO p3 9, ?_⟩
  exact ret_off ((hO.trans (Off.of_eq o1)).fresh z3 ne2) (hK _ (fun b hb => mix_off hb) (Wo.mix (w1.ext fun q hq => ne2 q (fun e => d3 (e ▸ hq)))))
 | succ d ih =>
  intro i hi hB M b T1 hO im hF h3 hK
  have hAt := im.w.at
  have hk := hAt.k
  rw [l109_8]
  refine ⟨M, Mem.le_refl _, _, _, _, cO im.p 9, ?_⟩
  rw [if_pos (by simp; omega)]
  obtain ⟨⟨v1, v2⟩, Ta, F, sf, hlen⟩ := flS_ok (show i < b.rs.length by omega) hF
  refine ⟨fun q => q g1 = M g1 ∧ Rd q r.a b.rs, ⟨rfl, hAt.r⟩, _, _, _, fun q hq => cO (hq.1.trans im.p) 0, _, fun q hq => cO (hq.1.trans im.p) 1, _, fun q hq => cO (hq.1.trans im.p) 2, _, fun q hq => cO (hq.1.trans im.p) 3, _, fun q hq => cO (hq.1.trans im.p) 4, _, fun q hq => cO (hq.1.trans im.p) 5, _, fun q hq => cO (hq.1.trans im.p) 6, _, fun q hq => cO (hq.1.trans im.p) 7, _, fun q hq => cO (hq.1.trans im.p) 8, _, _, _, fun q hq => cO (hq.1.trans im.p) 9, _, _, _, fun q hq => cO (hq.1.trans im.p) 9, ?_⟩
  refine rgetH hAt.r hk (by omega) (by omega) fun ad had c1 c2 => ⟨_, fun q hq => c1 q hq.2, _, fun q hq => c2 q hq.2, ?_⟩
  have ei : (i : Int).toNat = i := by omega
  simp only [ei]
  have ew : IntKind.i64.wrap ((i : Int) + 1) = ((i + 1 : Nat) : Int) := wsucc (n := i + 1) (by omega) (by omega)
  have hS : ∀ (c : Ar), c.rs = b.rs → ∀ q, Off D M q → Wo q s r c D → (q g1 = M g1 ∧ Rd q r.a b.rs) := fun c hc q O w => ⟨(O _ _ im.g im.p).trans im.p.symm, by rw [← hc]; exact w.at.r⟩
  generalize hv : b.rs.getD i (0, 0) = v at *
  have hF1 : FlI (flS i b) Ta T2 (i + 1) := F
  have hR : RefIn b v := ⟨T1, T2, hF.c, v1, v2⟩
  have hrs : (fwdA b v).1.rs = b.rs := sf.rs
  have hfl : flS i b = { (fwdA b v).1 with rs := (fwdA b v).1.rs.set i (fwdA b v).2 } := by unfold flS; rw [hv]
  have hfr : flR (d + 1) i b = flR d (i + 1) (flS i b) := rfl
  rw [hfr] at hK
  have hi1 : i < (fwdA b v).1.rs.length := by rw [hrs]; omega
  have leaf : ∀ (ga gv : Nat) (M3 : Mem), Off D M M3 → Wo M3 s r (fwdA b v).1 D → M ga = none → M gv = none → ga ∉ D → gv ∉ D → ga ≠ gv → M3 ga = some (.cells zAr 27 (0, 0)) → M3 gv = some (.cells #[.int .i64 0, .int .i64 0] 75 (0, 0)) →
    flK (look t) (d + 1) Q g1 g3 (i : Int) (fun q => q g1 = M g1 ∧ Rd q r.a b.rs) s.a s.n s.c (fwdA b v).1.semi (fwdA b v).1.to (fwdA b v).1.top (fwdA b v).1.cyc (fwdA b v).1.scan (fwdA b v).1.old (fwdA b v).1.cop (fwdA b v).1.ser r.a r.n r.c (fwdA b v).2.1 (fwdA b v).2.2 ga gv M3 := by
   intro ga gv M3 O w za zv da dv nav ha hvv
   refine flK_ok im O w za zv da dv nav ha hvv (hS _ hrs) hi1 fun M' O' im' => ?_
   rw [ew]
   rw [← hfl] at im'
   refine ih (i + 1) (by omega) hB M' _ Ta ?_ im' hF1 ?_ hK
   ·exact fun x o hx e => by
     by_cases e1 : x = g1
     ·rw [e1, z1] at e; cases e
     ·exact O' x o (by simp [e1, hx]) (hO x o hx e)
   ·exact O' _ _ (by simp [n31, d3]) h3
  have S0 := hS b rfl M (Off.refl _ _) im.w
  refine ⟨?_, ?_, ?_⟩
  ·refine via h196 ⟨s, r, b, D, v, rfl, im.w, hR, fun m1 o1 w1 => ⟨_, _, _, _, _, _, _, _, _, _, _, _, _, _, _, _, rfl, ?_⟩⟩
   have O1 : Off D M m1 := Off.of_eq o1
   refine ⟨hS _ hrs _ O1 w1, newA_intro fun ga m2 hga e2 hba hla => ?_, newA_intro fun gv m2 hgv e2 hbv hlv => ?_⟩
   ·refine ⟨hS _ hrs _ (O1.trans (Off.of_le hla)) (w1.le hla), newA_intro fun gv m3 hgv e3 hbv hlv => ?_⟩
    have O3 := (O1.trans (Off.of_le hla)).trans (Off.of_le hlv)
    have w3 := (w1.le hla).le hlv
    refine ⟨hS _ hrs _ O3 w3, ?_⟩
    have da := w1.fresh hga
    have dv := w1.fresh (le_none hla hgv)
    exact leaf ga gv m3 O3 w3 (O1.none hga da) (O1.none (le_none hla hgv) dv) da dv (ne_of_none hgv hba) (hlv _ _ hba) hbv
   ·refine ⟨hS _ hrs _ (O1.trans (Off.of_le hlv)) (w1.le hlv), newA_intro fun ga m3 hga e3 hba hla => ?_⟩
    have O3 := (O1.trans (Off.of_le hlv)).trans (Off.of_le hla)
    have w3 := (w1.le hlv).le hla
    refine ⟨hS _ hrs _ O3 w3, ?_⟩
    have dv := w1.fresh hgv
    have da := w1.fresh (le_none hlv hga)
    exact leaf ga gv m3 O3 w3 (O1.none (le_none hlv hga) da) (O1.none hgv dv) da dv (Ne.symm (ne_of_none hga hbv)) hba (hla _ _ hbv)
  ·refine newA_intro fun ga m2 hga e2 hba hla => ?_
   have w2 := im.w.le hla
   have O2 : Off D M m2 := Off.of_le hla
   have da := im.w.fresh hga
   refine ⟨hS b rfl _ O2 w2, ?_, newA_intro fun gv m3 hgv e3 hbv hlv => ?_⟩
   ·refine via h196 ⟨s, r, b, D, v, rfl, w2, hR, fun m1 o1 w1 => ⟨_, _, _, _, _, _, _, _, _, _, _, _, _, _, _, _, rfl, ?_⟩⟩
    have O1 := O2.trans (Off.of_eq o1)
    refine ⟨hS _ hrs _ O1 w1, newA_intro fun gv m3 hgv e3 hbv hlv => ?_⟩
    have O3 := O1.trans (Off.of_le hlv)
    have w3 := w1.le hlv
    refine ⟨hS _ hrs _ O3 w3, ?_⟩
    have dv := w1.fresh hgv
    have b1 := (o1 ga da).trans hba
    exact leaf ga gv m3 O3 w3 hga (O1.none hgv dv) da dv (ne_of_none hgv b1) (hlv _ _ b1) hbv
   ·have w3 := w2.le hlv
    have O3 := O2.trans (Off.of_le hlv)
    refine ⟨hS b rfl _ O3 w3, ?_⟩
    have dv := w2.fresh hgv
    refine via h196 ⟨s, r, b, D, v, rfl, w3, hR, fun m1 o1 w1 => ⟨_, _, _, _, _, _, _, _, _, _, _, _, _, _, _, _, rfl, ?_⟩⟩
    have O1 := O3.trans (Off.of_eq o1)
    refine ⟨hS _ hrs _ O1 w1, ?_⟩
    exact leaf ga gv m1 O1 w1 hga (le_none hla hgv) da dv (ne_of_none hgv hba) ((o1 ga da).trans (hlv _ _ hba)) ((o1 gv dv).trans hbv)
  ·refine newA_intro fun gv m2 hgv e2 hbv hlv => ?_
   have w2 := im.w.le hlv
   have O2 : Off D M m2 := Off.of_le hlv
   have dv := im.w.fresh hgv
   refine ⟨hS b rfl _ O2 w2, ?_, newA_intro fun ga m3 hga e3 hba hla => ?_⟩
   ·refine via h196 ⟨s, r, b, D, v, rfl, w2, hR, fun m1 o1 w1 => ⟨_, _, _, _, _, _, _, _, _, _, _, _, _, _, _, _, rfl, ?_⟩⟩
    have O1 := O2.trans (Off.of_eq o1)
    refine ⟨hS _ hrs _ O1 w1, newA_intro fun ga m3 hga e3 hba hla => ?_⟩
    have O3 := O1.trans (Off.of_le hla)
    have w3 := w1.le hla
    refine ⟨hS _ hrs _ O3 w3, ?_⟩
    have da := w1.fresh hga
    have b1 := (o1 gv dv).trans hbv
    exact leaf ga gv m3 O3 w3 (O1.none hga da) hgv da dv (Ne.symm (ne_of_none hga b1)) hba (hla _ _ b1)
   ·have w3 := w2.le hla
    have O3 := O2.trans (Off.of_le hla)
    refine ⟨hS b rfl _ O3 w3, ?_⟩
    have da := w2.fresh hga
    refine via h196 ⟨s, r, b, D, v, rfl, w3, hR, fun m1 o1 w1 => ⟨_, _, _, _, _, _, _, _, _, _, _, _, _, _, _, _, rfl, ?_⟩⟩
    have O1 := O3.trans (Off.of_eq o1)
    refine ⟨hS _ hrs _ O1 w1, ?_⟩
    exact leaf ga gv m1 O1 w1 (le_none hlv hga) hgv da dv (Ne.symm (ne_of_none hga hbv)) ((o1 ga da).trans hba) ((o1 gv dv).trans (hla _ _ hbv))
def s109 : Spec := fun args m Q => ∃ (s r : Sl) (a : Ar) (D : List Nat), args = [vA s r a] ∧ Wo m s r a D ∧ (∃ T1, I0 a T1) ∧ ∀ m', (∀ b, b ∉ D → m' b = m b) → Wo m' s r (flipA a) D → Q (vA s r (flipA a)) m'
theorem f109 (t : Tab) (h196 : look t 196 = s196) (h118 : look t 118 = s118) (h105 : look t 105 = s105) : Mt t s109 kp109 Tryz.f109 := by
 rintro args m Q ⟨s, r, a, D, rfl, hW, ⟨T1, hI⟩, hQ⟩
 show FA _ _ _ _ [aG s r a] m Q
 rw [e109]
 refine newA_intro fun g1 m1 hg1 e1 hb1 hle1 => newA_intro fun g3 m2 hg3 e2 hb3 hle2 => ?_
 have l2 := Mem.le_trans hle1 hle2
 have p1 : m2 g1 = some (.cells (cA s r a) 27 (0, 0)) := hle2 _ _ hb1
 have im := hW.loc hg1 p1 l2
 have n13 : g1 ≠ g3 := ne_of_none hg3 hb1
 have z3 := le_none hle1 hg3
 have d3 := hW.fresh z3
 have sm := hI.N.sm
 have t0 := sm.t0
 have t1 := sm.t1
 have s0 := sm.s0
 have s1 := sm.s1
 have w1 : IntKind.i64.wrap (1 - a.to) = 1 - a.to := w64 (by omega) (by omega)
 refine ⟨_, cO im.p 3, im.fld 6 _ { a with old := a.top } rfl (by decide) rfl rfl rfl fun m3 o3 im3 => ⟨_, cO im3.p 2, ?_⟩⟩
 rw [show IntKind.i64.wrap (1 - ({ a with old := a.top } : Ar).to) = 1 - a.to from w1]
 refine im3.fld 2 _ { a with old := a.top, to := 1 - a.to } rfl (by decide) rfl rfl rfl fun m4 o4 im4 => ⟨_, _, _, cO im4.p 0, _, cO im4.p 1, _, cO im4.p 2, _, cO im4.p 3, _, cO im4.p 4, _, cO im4.p 5, _, cO im4.p 6, _, cO im4.p 7, _, cO im4.p 8, _, _, _, cO im4.p 9, _, cO im4.p 2, ?_⟩
 refine via h105 ⟨s, r, _, 1 - a.to, rfl, by omega, by omega, by show 0 ≤ a.semi; omega, s1, _, rfl, ?_⟩
 refine im4.fld 3 _ { a with old := a.top, to := 1 - a.to, top := startA a (1 - a.to) } rfl (by decide) rfl rfl rfl fun m5 o5 im5 => ⟨_, cO im5.p 3, ?_⟩
 refine im5.fld 5 _ { a with old := a.top, to := 1 - a.to, top := startA a (1 - a.to), scan := startA a (1 - a.to) } rfl (by decide) rfl rfl rfl fun m6 o6 im6 => ?_
 refine im6.fld 7 _ { a with old := a.top, to := 1 - a.to, top := startA a (1 - a.to), scan := startA a (1 - a.to), cop := 0 } rfl (by decide) rfl rfl rfl fun m7 o7 im7 => ?_
 refine im7.fld 4 _ (flip0 a) rfl (by decide) rfl rfl rfl fun m8 o8 im8 => ⟨r.n + 1, ?_⟩
 have hk := im.w.at.k
 have hr := hI.wf.r
 have hFI : FlI (flip0 a) [] T1 0 := ⟨flip0_ok hI, rfl, fun j hj => by
  have := hI.r a.rs[j] (List.getElem_mem hj)
  exact ⟨this.1, fun hr => ⟨fun e => by omega, .inr (this.2 hr)⟩⟩⟩
 have O2 : Off D m m2 := Off.of_le l2
 have O8 : Off D m m8 := (((((O2.fresh hg1 o3).fresh hg1 o4).fresh hg1 o5).fresh hg1 o6).fresh hg1 o7).fresh hg1 o8
 have h3 : m8 g3 = some (.cells zAr 27 (0, 0)) := by rw [o8 g3 (Ne.symm n13), o7 g3 (Ne.symm n13), o6 g3 (Ne.symm n13), o5 g3 (Ne.symm n13), o4 g3 (Ne.symm n13), o3 g3 (Ne.symm n13)]; exact hb3
 refine fl_loop t h196 h118 (T2 := T1) hg1 z3 (Ne.symm n13) d3 r.n 0 (by omega) (by omega) m8 (flip0 a) [] O8 im8 hFI h3 ?_
 have e : overA (flR r.n 0 (flip0 a)) = flipA a := by unfold flipA; rw [hk]
 rw [e]
 exact hQ
def s124 : Spec := fun args m Q => ∃ (s r : Sl) (a : Ar) (D : List Nat), args = [vA s r a] ∧ Wo m s r a D ∧ OkC a ∧ ∀ m' (k : Int), (∀ b, b ∉ D → m' b = m b) → Wo m' s r (finA a) D → Q (.tuple #[vA s r (finA a), .int .i64 k]) m'
theorem f124 (t : Tab) (h117 : look t 117 = s117) (h118 : look t 118 = s118) : Mt t s124 kp124 Tryz.f124 := by
 rintro args m Q ⟨s, r, a, D, rfl, hW, hG, hQ⟩
 show FA _ _ _ _ [aG s r a] m Q
 rw [e124]
 refine newA_intro fun g1 m1 hg1 e1 hb1 hle1 => newA_intro fun g3 m2 hg3 e2 hb3 hle2 => ?_
 have l2 := Mem.le_trans hle1 hle2
 have p1 : m2 g1 = some (.cells (cA s r a) 27 (0, 0)) := hle2 _ _ hb1
 have im := hW.loc hg1 p1 l2
 have z3 := le_none hle1 hg3
 have d3 := hW.fresh z3
 refine ⟨_, _, _, cO im.p 0, _, cO im.p 1, _, cO im.p 2, _, cO im.p 3, _, cO im.p 4, _, cO im.p 5, _, cO im.p 6, _, cO im.p 7, _, cO im.p 8, _, _, _, cO im.p 9, ?_⟩
 refine via h118 ⟨s, r, a, D, rfl, im.w, fun m3 o3 w3 => ⟨_, _, _, _, _, _, _, _, _, _, _, _, _, _, rfl, ?_⟩⟩
 refine via h117 ⟨s, r, overA a, D, 8000, rfl, w3, hG.over.1, by decide, by decide, fun m4 k o4 ⟨w4, hk4⟩ => ⟨_, _, _, _, _, _, _, _, _, _, _, _, _, _, _, rfl, ?_⟩⟩
 have e : stepsA (8000 : Int).toNat (overA a) = finA a := rfl
 rw [e] at w4 ⊢
 obtain ⟨wa, wn, wc⟩ := s
 obtain ⟨ra, rn, rc⟩ := r
 refine sto_ar ((o4 g3 d3).trans ((o3 g3 d3).trans hb3)) fun m5 e5 q5 ne5 => ?_
 have p3 : Ptr m5 g3 ⟨wa, wn, wc⟩ ⟨ra, rn, rc⟩ (finA a) := q5
 refine ⟨_, _, _, cO p3 0, _, cO p3 1, _, cO p3 2, _, cO p3 3, _, cO p3 4, _, cO p3 5, _, cO p3 6, _, cO p3 7, _, cO p3 8, _, _, _, cO p3 9, ?_⟩
 have O4 : Off D m m4 := ((Off.of_le l2).trans (Off.of_eq o3)).trans (Off.of_eq o4)
 exact ret_off (O4.fresh z3 ne5) (hQ _ k (fun b hb => mix_off hb) (Wo.mix (w4.ext fun q hq => ne5 q (fun e => d3 (e ▸ hq)))))
def s121 : Spec := fun args m Q => ∃ (s r : Sl) (a : Ar) (D : List Nat), args = [vA s r a] ∧ Wo m s r a D ∧ OkC a ∧ ∀ m', (∀ b, b ∉ D → m' b = m b) → Wo m' s r (collA a) D → Q (vA s r (collA a)) m'
theorem f121 (t : Tab) (h124 : look t 124 = s124) (h109 : look t 109 = s109) : Mt t s121 kp121 Tryz.f121 := by
 rintro args m Q ⟨s, r, a, D, rfl, hW, hG, hQ⟩
 show FA _ _ _ _ [aG s r a] m Q
 rw [e121]
 refine newA_intro fun g1 m1 hg1 e1 hb1 hle1 => newA_intro fun g3 m2 hg3 e2 hb3 hle2 => ?_
 have l2 := Mem.le_trans hle1 hle2
 have p1 : m2 g1 = some (.cells (cA s r a) 27 (0, 0)) := hle2 _ _ hb1
 have im := hW.loc hg1 p1 l2
 have n13 : g1 ≠ g3 := ne_of_none hg3 hb1
 have z3 := le_none hle1 hg3
 have d3 := hW.fresh z3
 obtain ⟨hI, _⟩ := hG.fin
 obtain ⟨T1, hI1⟩ := hI
 obtain ⟨k1, _⟩ := flip_gd hI1
 refine ⟨_, _, _, cO im.p 0, _, cO im.p 1, _, cO im.p 2, _, cO im.p 3, _, cO im.p 4, _, cO im.p 5, _, cO im.p 6, _, cO im.p 7, _, cO im.p 8, _, _, _, cO im.p 9, ?_⟩
 refine via h124 ⟨s, r, a, D, rfl, im.w, hG, fun m3 k o3 w3 => ⟨_, _, _, _, _, _, _, _, _, _, _, _, _, _, _, rfl, ?_⟩⟩
 have p3 : Ptr m3 g1 s r a := by unfold Ptr; rw [o3 g1 im.g]; exact im.p
 refine put_all p3 w3 im.g fun m4 o4 im4 => ⟨_, _, _, cO im4.p 0, _, cO im4.p 1, _, cO im4.p 2, _, cO im4.p 3, _, cO im4.p 4, _, cO im4.p 5, _, cO im4.p 6, _, cO im4.p 7, _, cO im4.p 8, _, _, _, cO im4.p 9, ?_⟩
 refine via h109 ⟨s, r, finA a, D, rfl, im4.w, ⟨T1, hI1⟩, fun m5 o5 w5 => ⟨_, _, _, _, _, _, _, _, _, _, _, _, _, _, rfl, ?_⟩⟩
 have p5 : Ptr m5 g1 s r (finA a) := by unfold Ptr; rw [o5 g1 im.g]; exact im4.p
 refine put_all p5 w5 im.g fun m6 o6 im6 => ⟨_, _, _, cO im6.p 0, _, cO im6.p 1, _, cO im6.p 2, _, cO im6.p 3, _, cO im6.p 4, _, cO im6.p 5, _, cO im6.p 6, _, cO im6.p 7, _, cO im6.p 8, _, _, _, cO im6.p 9, ?_⟩
 refine via h124 ⟨s, r, _, D, rfl, im6.w, k1.okC, fun m7 k7 o7 w7 => ⟨_, _, _, _, _, _, _, _, _, _, _, _, _, _, _, rfl, ?_⟩⟩
 have p7 : Ptr m7 g1 s r (flipA (finA a)) := by unfold Ptr; rw [o7 g1 im.g]; exact im6.p
 refine put_all p7 w7 im.g fun m8 o8 im8 => ?_
 have h8 : m8 g3 = some (.cells zAr 27 (0, 0)) := by
  rw [o8 g3 (Ne.symm n13), o7 g3 d3, o6 g3 (Ne.symm n13), o5 g3 d3, o4 g3 (Ne.symm n13), o3 g3 d3]; exact hb3
 have O8 : Off D m m8 := ((((((Off.of_le l2).trans (Off.of_eq o3)).fresh hg1 o4).trans (Off.of_eq o5)).fresh hg1 o6).trans (Off.of_eq o7)).fresh hg1 o8
 exact (arT_ok im8 h8 z3 d3 O8 hQ : arT Q g1 g3 m8)
def s205 : Spec := fun args m Q => ∃ (s r : Sl) (a : Ar), args = [vA s r a] ∧ NumP a ∧ Q (.int .i64 (freeA a)) m
theorem f205 (t : Tab) (h171 : look t 171 = s171) (h105 : look t 105 = s105) : Mt t s205 kp205 Tryz.f205 := by
 rintro args m Q ⟨s, r, a, rfl, hN, hQ⟩
 show FA _ _ _ _ [aG s r a] m Q
 rw [e205]
 have sm := hN.sm
 have t0 := sm.t0
 have t1 := sm.t1
 have s0 := sm.s0
 have s1 := sm.s1
 have hh := halves hN
 have e1 := endA_b (a := a) (h := a.to) t0 t1 (by omega) s1
 have hl := sm.l
 have hf := hN.f
 refine newA_intro fun g1 m2 hg1 e2 hb1 hle2 => ?_
 have p1 : Ptr m2 g1 s r a := hb1
 refine ⟨Mem.le m2, Mem.le_refl _, _, _, _, held (cO p1 0), _, held (cO p1 1), _, held (cO p1 2), _, held (cO p1 3), _, held (cO p1 4), _, held (cO p1 5), _, held (cO p1 6), _, held (cO p1 7), _, held (cO p1 8), _, _, _, held (cO p1 9), _, held (cO p1 3), via h171 ⟨s, r, a, rfl, t0, t1, by omega, s1, _, rfl, Mem.le_refl _, _, cO p1 4, ?_⟩⟩
 have w1 : IntKind.i64.wrap (endA a a.to - a.top) = endA a a.to - a.top := w64 (by omega) (by omega)
 cases hc : a.cyc with
 | false =>
  rw [if_neg (by simp)]
  have ef : freeA a = endA a a.to - a.top := by unfold freeA leftA; rw [hc, if_neg (by simp)]; omega
  rw [w1]
  rw [ef] at hQ
  exact ret_intro hle2 hQ
 | true =>
  unfold freeP at hf
  rw [if_pos hc] at hf
  rw [if_pos rfl]
  refine ⟨Mem.le m2, Mem.le_refl _, _, held (cO p1 6), _, _, _, held (cO p1 0), _, held (cO p1 1), _, held (cO p1 2), _, held (cO p1 3), _, held (cO p1 4), _, held (cO p1 5), _, held (cO p1 6), _, held (cO p1 7), _, held (cO p1 8), _, _, _, held (cO p1 9), _, held (cO p1 2), _, held (cO p1 7), ?_⟩
  rw [w64 (x := 1 - a.to) (by omega) (by omega)]
  refine via h105 ⟨s, r, a, 1 - a.to, rfl, by omega, by omega, by omega, s1, _, rfl, Mem.le_refl _, ?_⟩
  have ef : freeA a = endA a a.to - a.top - (a.old - startA a (1 - a.to) - a.cop) := by unfold freeA leftA; rw [hc, if_pos rfl]
  rw [w1, w64 (x := a.old - startA a (1 - a.to)) (by omega) (by omega), w64 (x := a.old - startA a (1 - a.to) - a.cop) (by omega) (by omega), w64 (by omega) (by omega)]
  rw [ef] at hQ
  exact ret_intro hle2 hQ
def s147 : Spec := fun args m Q => ∃ (s r : Sl) (a : Ar) (D : List Nat) (i : Int) (v : Vl), args = [vA s r a, .int .i64 i, vVl v] ∧ Wo m s r a D ∧ 0 ≤ i ∧ i + 1 < a.ws.length ∧ a.ws.length ≤ 2 ^ 20 ∧ ∀ m', (∀ b, b ∉ D → m' b = m b) → Wo m' s r (putV a i v) D → Q (vA s r (putV a i v)) m'
theorem f147 (t : Tab) : Mt t s147 kp147 Tryz.f147 := by
 rintro args m Q ⟨s, r, a, D, i, v, rfl, hW, i0, i1, hl, hQ⟩
 show FA _ _ _ _ [aG s r a, .int .i64 i, .agg #[.int .i64 v.1, .int .i64 v.2]] m Q
 rw [e147]
 refine newA_intro fun g1 m1 hg1 e1 hb1 hle1 => newA_intro fun gv m2 hgv e2 hbv hle2 => newA_intro fun g3 m3 hg3 e3 hb3 hle3 => ?_
 have l2 := Mem.le_trans hle1 hle2
 have l3 := Mem.le_trans l2 hle3
 have p1 : m3 g1 = some (.cells (cA s r a) 27 (0, 0)) := hle3 _ _ (hle2 _ _ hb1)
 have im := hW.loc hg1 p1 l3
 have n13 : g1 ≠ g3 := ne_of_none hg3 (hle2 _ _ hb1)
 have z3 := le_none l2 hg3
 have d3 := hW.fresh z3
 have dv := hW.fresh (le_none hle1 hgv)
 have hbv3 := hle3 _ _ hbv
 have w1 : IntKind.i64.wrap (i + 1) = i + 1 := w64 (by omega) (by omega)
 refine ⟨_, _, _, cO im.p 0, _, cO hbv3 0, ?_⟩
 refine im.put_w i0 (by omega) fun m4 o4 im4 => ?_
 refine ⟨_, _, _, cO im4.p 0, _, cO ((o4 gv dv).trans hbv3) 1, ?_⟩
 rw [w1]
 refine im4.put_w (by omega) (by show i + 1 < ((setW a.ws _ _).length : Int); rw [setW_len]; exact i1) fun m5 o5 im5 => ?_
 have h5 : m5 g3 = some (.cells zAr 27 (0, 0)) := by rw [o5 g3 d3, o4 g3 d3]; exact hb3
 have O5 : Off D m m5 := ((Off.of_le l3).trans (Off.of_eq o4)).trans (Off.of_eq o5)
 exact (arT_ok (b := putV a i v) im5 h5 z3 d3 O5 hQ : arT Q g1 g3 m5)
def akN (Q : Value → Mem → Prop) (g1 g3 : Nat) (m4 : Mem) : Prop :=
 (rA m4 g1 fun w0 => (stoA m4 ⟨g3, 0, none⟩ w0 fun m31 => (rA m31 g3 fun w1 => ret Q (.tuple #[(.agg w1.toArray), (.int .i64 (0 : Int)), (.int .i64 (2 : Int))]) m31)))
def akW (call : FuncId → Spec) (Q : Value → Mem → Prop) (a2 : Int) (g1 g3 g514 : Nat) (m516 : Mem) : Prop :=
 shN_3 call Q m516 g1 g514 a2 g3
def akB (call : FuncId → Spec) (Q : Value → Mem → Prop) (a2 : Int) (g1 g3 g514 : Nat) (m516 : Mem) : Prop :=
 shN_4 call Q m516 g1 g514 a2 g3
def akP (call : FuncId → Spec) (Q : Value → Mem → Prop) (a1 a2 : Int) (g1 g3 : Nat) (m218 : Mem) : Prop :=
 shN_5 call Q m218 g1 a2 g3 a1
def akR (call : FuncId → Spec) (Q : Value → Mem → Prop) (a1 a2 : Int) (g1 g3 : Nat) (m192 : Mem) : Prop :=
 shN_6 call Q m192 g1 a2 g3 a1
theorem akN_ok {Q : Value → Mem → Prop} {g1 g3 : Nat} {s r : Sl} {b : Ar} {D : List Nat} {M m0 : Mem} (im : Im M g1 s r b D) (h3 : M g3 = some (.cells zAr 27 (0, 0))) (z3 : m0 g3 = none) (d3 : g3 ∉ D)
  (hO : Off D m0 M) (hQ : ∀ m', (∀ b, b ∉ D → m' b = m0 b) → Wo m' s r b D → Q (.tuple #[vA s r b, .int .i64 0, .int .i64 2]) m') : akN Q g1 g3 M := by
 unfold akN
 obtain ⟨wa, wn, wc⟩ := s
 obtain ⟨ra, rn, rc⟩ := r
 refine ⟨_, _, _, cO im.p 0, _, cO im.p 1, _, cO im.p 2, _, cO im.p 3, _, cO im.p 4, _, cO im.p 5, _, cO im.p 6, _, cO im.p 7, _, cO im.p 8, _, _, _, cO im.p 9, ?_⟩
 refine sto_ar h3 fun m1 e1 q1 ne1 => ?_
 have p3 : Ptr m1 g3 ⟨wa, wn, wc⟩ ⟨ra, rn, rc⟩ b := q1
 refine ⟨_, _, _, cO p3 0, _, cO p3 1, _, cO p3 2, _, cO p3 3, _, cO p3 4, _, cO p3 5, _, cO p3 6, _, cO p3 7, _, cO p3 8, _, _, _, cO p3 9, ?_⟩
 exact ret_off (hO.fresh z3 ne1) (hQ _ (fun b hb => mix_off hb) (Wo.mix (im.w.ext fun q hq => ne1 q (fun e => d3 (e ▸ hq)))))
theorem ak_loop {call : FuncId → Spec} {Q : Value → Mem → Prop} {g1 g3 : Nat} {s r : Sl} {D : List Nat} {m0 : Mem} {n p : Int} {a : Ar} (z1 : m0 g1 = none) (z3 : m0 g3 = none) (d3 : g3 ∉ D) (n31 : g3 ≠ g1) (n0 : 0 ≤ n) (nb : n ≤ 256) (p0 : 0 ≤ p) (p1 : p + n + 1 ≤ a.ws.length) (p2 : a.ws.length ≤ 2 ^ 20)
  (hQ : ∀ m', (∀ b, b ∉ D → m' b = m0 b) → Wo m' s r { a with ws := clrW a.ws (p + 1) n.toNat, top := p + (n + 1) } D → Q (.tuple #[vA s r { a with ws := clrW a.ws (p + 1) n.toNat, top := p + (n + 1) }, .int .i64 p, .int .i64 0]) m') :
  ∀ (d i : Nat), (i : Int) + d = n → ∀ M, Im M g1 s r { a with ws := clrW a.ws (p + 1) i } D → Off D m0 M → M g3 = some (.cells zAr 27 (0, 0)) → L146_19 call (d + 1) Q n g1 g3 (n + 1) p ((i : Int) + 1) M := by
 intro d
 induction d with
 | zero =>
  intro i hi M im hO h3
  rw [l146_19]
  refine ⟨M, Mem.le_refl _, ?_⟩
  rw [if_neg (by simp; omega), w64 (x := p + (n + 1)) (by omega) (by omega)]
  have ei : i = n.toNat := by omega
  subst ei
  refine im.fld 3 _ { a with ws := clrW a.ws (p + 1) n.toNat, top := p + (n + 1) } rfl (by decide) rfl rfl rfl fun m1 o1 im1 => ?_
  have h31 := (o1 g3 n31).trans h3
  obtain ⟨wa, wn, wc⟩ := s
  obtain ⟨ra, rn, rc⟩ := r
  refine ⟨_, _, _, cO im1.p 0, _, cO im1.p 1, _, cO im1.p 2, _, cO im1.p 3, _, cO im1.p 4, _, cO im1.p 5, _, cO im1.p 6, _, cO im1.p 7, _, cO im1.p 8, _, _, _, cO im1.p 9, ?_⟩
  refine sto_ar h31 fun m2 e2 q2 ne2 => ?_
  have p3 : Ptr m2 g3 ⟨wa, wn, wc⟩ ⟨ra, rn, rc⟩ { a with ws := clrW a.ws (p + 1) n.toNat, top := p + (n + 1) } := q2
  refine ⟨_, _, _, cO p3 0, _, cO p3 1, _, cO p3 2, _, cO p3 3, _, cO p3 4, _, cO p3 5, _, cO p3 6, _, cO p3 7, _, cO p3 8, _, _, _, cO p3 9, ?_⟩
  exact ret_off ((hO.fresh z1 o1).fresh z3 ne2) (hQ _ (fun b hb => mix_off hb) (Wo.mix (im1.w.ext fun q hq => ne2 q (fun e => d3 (e ▸ hq)))))
 | succ d ih =>
  intro i hi M im hO h3
  rw [l146_19]
  refine ⟨M, Mem.le_refl _, ?_⟩
  rw [if_pos (by simp; omega), w64 (x := p + ((i : Int) + 1)) (by omega) (by omega), w64 (x := (i : Int) + 1 + 1) (by omega) (by omega)]
  refine ⟨_, _, _, cO im.p 0, ?_⟩
  have hlen : (clrW a.ws (p + 1) i).length = a.ws.length := clrW_len _ _ _
  refine im.put_w (by omega) (by show p + (↑i + 1) < ((clrW a.ws (p + 1) i).length : Int); omega) fun m1 o1 im1 => ?_
  have e : setW (clrW a.ws (p + 1) i) (p + ((i : Int) + 1)) 0 = clrW a.ws (p + 1) (i + 1) := by
   show _ = setW (clrW a.ws (p + 1) i) (p + 1 + i) 0
   congr 1
   omega
  have im2 : Im m1 g1 s r { a with ws := clrW a.ws (p + 1) (i + 1) } D := by rw [← e]; exact im1
  exact ih (i + 1) (by omega) m1 im2 (hO.trans (Off.of_eq o1)) ((o1 g3 d3).trans h3)
theorem akW_ok (t : Tab) (h206 : look t 206 = s206) {Q : Value → Mem → Prop} {g1 g3 g6 : Nat} {s r : Sl} {a : Ar} {D : List Nat} {M m0 : Mem} {k n z : Int} (im : Im M g1 s r a D) (hO : Off D m0 M) (z1 : m0 g1 = none) (z3 : m0 g3 = none) (d3 : g3 ∉ D) (n31 : g3 ≠ g1) (h3 : M g3 = some (.cells zAr 27 (0, 0))) (d6 : g6 ∉ D)
  (hh : M g6 = some (.cells #[.int .i64 k, .int .i64 n, .int .i64 z] 33 (0, 0))) (hok : hdOk k n z = true) (t0 : 0 ≤ a.top) (t1 : a.top + n + 1 ≤ a.ws.length) (t2 : a.ws.length ≤ 2 ^ 20)
  (hQ : ∀ m', (∀ b, b ∉ D → m' b = m0 b) → Wo m' s r (putW k n z a) D → Q (.tuple #[vA s r (putW k n z a), .int .i64 a.top, .int .i64 0]) m') : akW (look t) Q n g1 g3 g6 M := by
 have b := hd_b hok
 unfold akW
 refine ⟨_, cO im.p 3, fun q => q g1 = M g1 ∧ q g6 = M g6, ⟨rfl, rfl⟩, _, _, _, fun q hq => cO (hq.1.trans im.p) 0, _, fun q hq => cO (hq.2.trans hh) 0, _, fun q hq => cO (hq.2.trans hh) 1, _, fun q hq => cO (hq.2.trans hh) 2, ?_⟩
 refine via h206 ⟨k, n, z, rfl, by omega, ?_⟩
 rw [hok, if_pos rfl]
 refine ⟨_, _, rfl, ⟨rfl, rfl⟩, ?_⟩
 refine im.put_w t0 (by omega) fun m1 o1 im1 => ⟨⟨o1 g1 im.g, o1 g6 d6⟩, n.toNat + 1, ?_⟩
 rw [w64 (x := n + 1) (by omega) (by omega)]
 exact ak_loop (a := { a with ws := setW a.ws a.top (packH k n z) }) z1 z3 d3 n31 (by omega) (by omega) t0 (by show a.top + n + 1 ≤ ((setW a.ws _ _).length : Int); rw [setW_len]; exact t1) (by show (setW a.ws _ _).length ≤ _; rw [setW_len]; exact t2) hQ n.toNat 0 (by omega) m1 im1 (hO.trans (Off.of_eq o1)) ((o1 g3 d3).trans h3)
theorem akB_ok (t : Tab) (h206 : look t 206 = s206) {Q : Value → Mem → Prop} {g1 g3 g6 : Nat} {s r : Sl} {a : Ar} {D : List Nat} {M m0 : Mem} {k n : Int} (im : Im M g1 s r a D) (hO : Off D m0 M) (z1 : m0 g1 = none) (z3 : m0 g3 = none) (d3 : g3 ∉ D) (n31 : g3 ≠ g1) (n61 : g6 ≠ g1) (n63 : g6 ≠ g3) (z6 : m0 g6 = none) (h3 : M g3 = some (.cells zAr 27 (0, 0))) (d6 : g6 ∉ D)
  (hh : M g6 = some (.cells #[.int .i64 k, .int .i64 n, .int .i64 0] 33 (0, 0))) (hok : hdOk k n a.ser = true) (t0 : 0 ≤ a.top) (t1 : a.top + n + 1 ≤ a.ws.length) (t2 : a.ws.length ≤ 2 ^ 20)
  (hQ : ∀ m', (∀ b, b ∉ D → m' b = m0 b) → Wo m' s r { putW k n a.ser a with ser := a.ser + 1 } D → Q (.tuple #[vA s r { putW k n a.ser a with ser := a.ser + 1 }, .int .i64 a.top, .int .i64 0]) m') : akB (look t) Q n g1 g3 g6 M := by
 have b := hd_b hok
 unfold akB
 refine ⟨_, cO im.p 8, sto (c := #[.int .i64 k, .int .i64 n, .int .i64 0]) (t := 33) hh rfl (by simp) fun m4 e4 h4 ne4 => ?_⟩
 have h4 : m4 g6 = some (.cells #[.int .i64 k, .int .i64 n, .int .i64 a.ser] 33 (0, 0)) := h4
 have im4 := im.ext (m' := m4) fun q hq => ne4 q fun h => by
  rw [h] at hq
  rcases List.mem_cons.1 hq with e | e
  ·exact n61 e
  ·exact d6 e
 refine ⟨_, cO im4.p 8, ?_⟩
 rw [w64 (x := a.ser + 1) (by omega) (by omega)]
 refine im4.fld 8 _ { a with ser := a.ser + 1 } rfl (by decide) rfl rfl rfl fun m5 o5 im5 => ?_
 have h5 : m5 g6 = some (.cells #[.int .i64 k, .int .i64 n, .int .i64 a.ser] 33 (0, 0)) := by rw [o5 g6 n61]; exact h4
 have h35 : m5 g3 = some (.cells zAr 27 (0, 0)) := by rw [o5 g3 n31, ne4 g3 (Ne.symm n63)]; exact h3
 exact akW_ok t h206 im5 ((hO.fresh z6 ne4).fresh z1 o5) z1 z3 d3 n31 h35 d6 h5 hok t0 t1 t2 hQ
theorem akP_ok (t : Tab) (h206 : look t 206 = s206) (h205 : look t 205 = s205) {Q : Value → Mem → Prop} {g1 g3 : Nat} {s r : Sl} {a : Ar} {D : List Nat} {M m0 : Mem} {k n : Int} (im : Im M g1 s r a D) (hO : Off D m0 M) (z1 : m0 g1 = none) (z3 : m0 g3 = none) (d3 : g3 ∉ D) (n31 : g3 ≠ g1) (h3 : M g3 = some (.cells zAr 27 (0, 0)))
  (hsz : sizeB k n = true) (hN : NumP a) (hQ : ∀ m', (∀ b, b ∉ D → m' b = m0 b) → Wo m' s r (putA k n a).1 D → Q (.tuple #[vA s r (putA k n a).1, .int .i64 (putA k n a).2.1, .int .i64 (putA k n a).2.2]) m') : akP (look t) Q k n g1 g3 M := by
 unfold akP
 have hfl := free_le hN
 have sm := hN.sm
 have s1 := sm.s1
 have hl := sm.l
 have hz0 := hN.z0
 have hz1 := hN.z1
 have hok : hdOk k n (if bornB k = true then a.ser else 0) = true := by
  unfold hdOk
  rw [hsz]
  cases bornB k with
  | true => simp; omega
  | false => simp
 have b := hd_b hok
 have w1 : IntKind.i64.wrap (n + 1) = n + 1 := w64 (by omega) (by omega)
 refine ⟨_, _, _, cO im.p 0, _, cO im.p 1, _, cO im.p 2, _, cO im.p 3, _, cO im.p 4, _, cO im.p 5, _, cO im.p 6, _, cO im.p 7, _, cO im.p 8, _, _, _, cO im.p 9, ?_⟩
 refine via h205 ⟨s, r, a, rfl, hN, _, rfl, ?_⟩
 by_cases c : n + 1 > freeA a
 ·rw [if_pos (by rw [w1]; simpa using c)]
  have e : putA k n a = (a, 0, 2) := if_pos c
  rw [e] at hQ
  exact (akN_ok im h3 z3 d3 hO hQ : akN Q g1 g3 M)
 rw [if_neg (by rw [w1]; simpa using c)]
 have e : putA k n a = (if bornB k = true then { putW k n a.ser a with ser := a.ser + 1 } else putW k n 0 a, a.top, 0) := if_neg c
 rw [e] at hQ
 refine newA_intro fun g6 m2 hg6 e2 hb2 hle2 => sto (c := #[.int .i64 0, .int .i64 0, .int .i64 0]) (t := 33) hb2 rfl (by simp) fun m3 e3 h6 ne3 => ?_
 have h6 : m3 g6 = some (.cells #[.int .i64 k, .int .i64 n, .int .i64 0] 33 (0, 0)) := h6
 have n6 := im.fresh hg6
 have d6 : g6 ∉ D := fun h => n6 (by simp [h])
 have n61 : g6 ≠ g1 := fun h => n6 (by simp [h])
 have n63 : g6 ≠ g3 := fun h => by rw [h, h3] at hg6; cases hg6
 have z6 : m0 g6 = none := hO.none hg6 d6
 have le3 : Mem.le M m3 := le_other hle2 hg6 ne3
 have im3 := im.le le3
 have hO3 : Off D m0 m3 := hO.trans (Off.of_le le3)
 have h33 := le3 _ _ h3
 have t1 : a.top + n + 1 ≤ a.ws.length := by omega
 have t2 : a.ws.length ≤ 2 ^ 20 := by omega
 cases hb : bornB k with
 | true =>
  rw [hb] at hok hQ
  have B : akB (look t) Q n g1 g3 g6 m3 := akB_ok t h206 im3 hO3 z1 z3 d3 n31 n61 n63 z6 h33 d6 h6 hok (by omega) t1 t2 hQ
  unfold bornB at hb
  rw [decide_eq_true_eq] at hb
  by_cases c2 : k = 2
  ·rw [if_pos (by rw [c2]; rfl)]
   exact B
  rw [if_neg (by simpa using c2)]
  by_cases c4 : k = 4
  ·rw [if_pos (by rw [c4]; rfl)]
   exact B
  have hk6 : k = 6 := by omega
  rw [if_neg (by simpa using c4), if_pos (by rw [hk6]; rfl)]
  exact B
 | false =>
  rw [hb] at hok hQ
  have B : akW (look t) Q n g1 g3 g6 m3 := akW_ok t h206 im3 hO3 z1 z3 d3 n31 h33 d6 h6 hok (by omega) t1 t2 hQ
  unfold bornB at hb
  rw [decide_eq_false_iff_not] at hb
  rw [if_neg (by simp; omega), if_neg (by simp; omega), if_neg (by simp; omega)]
  exact B
theorem akR_ok (t : Tab) (h206 : look t 206 = s206) (h205 : look t 205 = s205) (h121 : look t 121 = s121) {Q : Value → Mem → Prop} {g1 g3 : Nat} {s r : Sl} {a : Ar} {D : List Nat} {M m0 : Mem} {k n : Int} (im : Im M g1 s r a D) (hO : Off D m0 M) (z1 : m0 g1 = none) (z3 : m0 g3 = none) (d3 : g3 ∉ D) (n31 : g3 ≠ g1) (h3 : M g3 = some (.cells zAr 27 (0, 0)))
  (hsz : sizeB k n = true) (hG : OkC a) (hQ : ∀ m', (∀ b, b ∉ D → m' b = m0 b) → Wo m' s r (putA k n (roomA n a)).1 D → Q (.tuple #[vA s r (putA k n (roomA n a)).1, .int .i64 (putA k n (roomA n a)).2.1, .int .i64 (putA k n (roomA n a)).2.2]) m') : akR (look t) Q k n g1 g3 M := by
 unfold akR
 have hN := hG.num.1
 have hfl := free_le hN
 have sm := hN.sm
 have s1 := sm.s1
 have hl := sm.l
 have bn : 1 ≤ n ∧ n ≤ 256 := by
  have := hd_b (k := k) (s := n) (z := if bornB k = true then 1 else 0) (by unfold hdOk; rw [hsz]; cases bornB k <;> simp)
  omega
 have w1 : IntKind.i64.wrap (n + 1) = n + 1 := w64 (by omega) (by omega)
 refine ⟨_, _, _, cO im.p 0, _, cO im.p 1, _, cO im.p 2, _, cO im.p 3, _, cO im.p 4, _, cO im.p 5, _, cO im.p 6, _, cO im.p 7, _, cO im.p 8, _, _, _, cO im.p 9, ?_⟩
 refine via h205 ⟨s, r, a, rfl, hN, _, rfl, ?_⟩
 have hr := (room_ok (n := n) hG).1.num.1
 by_cases c : n + 1 > freeA a
 ·rw [if_pos (by rw [w1]; simpa using c)]
  have e : roomA n a = collA a := if_pos c
  rw [e] at hQ hr
  refine ⟨_, _, _, cO im.p 0, _, cO im.p 1, _, cO im.p 2, _, cO im.p 3, _, cO im.p 4, _, cO im.p 5, _, cO im.p 6, _, cO im.p 7, _, cO im.p 8, _, _, _, cO im.p 9, ?_⟩
  refine via h121 ⟨s, r, a, D, rfl, im.w, hG, fun m1 o1 w1 => ⟨_, _, _, _, _, _, _, _, _, _, _, _, _, _, rfl, ?_⟩⟩
  have p1 : Ptr m1 g1 s r a := by unfold Ptr; rw [o1 g1 im.g]; exact im.p
  refine put_all p1 w1 im.g fun m2 o2 im2 => ?_
  have h32 : m2 g3 = some (.cells zAr 27 (0, 0)) := by rw [o2 g3 n31, o1 g3 d3]; exact h3
  exact (akP_ok t h206 h205 im2 ((hO.trans (Off.of_eq o1)).fresh z1 o2) z1 z3 d3 n31 h32 hsz hr hQ : akP (look t) Q k n g1 g3 m2)
 ·rw [if_neg (by rw [w1]; simpa using c)]
  have e : roomA n a = a := if_neg c
  rw [e] at hQ
  exact (akP_ok t h206 h205 im hO z1 z3 d3 n31 h3 hsz hN hQ : akP (look t) Q k n g1 g3 M)
def s146 : Spec := fun args m Q => ∃ (s r : Sl) (a : Ar) (D : List Nat) (k n : Int), args = [vA s r a, .int .i64 k, .int .i64 n] ∧ Wo m s r a D ∧ OkC a ∧ sizeB k n = true ∧
 ∀ m', (∀ b, b ∉ D → m' b = m b) → Wo m' s r (askA k n a).1 D → Q (.tuple #[vA s r (askA k n a).1, .int .i64 (askA k n a).2.1, .int .i64 (askA k n a).2.2]) m'
set_option maxHeartbeats 1000000 in
theorem f146 (t : Tab) (h206 : look t 206 = s206) (h205 : look t 205 = s205) (h121 : look t 121 = s121) (h117 : look t 117 = s117) (h118 : look t 118 = s118) (h109 : look t 109 = s109) (h105 : look t 105 = s105) : Mt t s146 kp146 Tryz.f146 := by
 rintro args m Q ⟨s, r, a, D, k, n, rfl, hW, hG, hsz, hQ⟩
 have bn : 1 ≤ n ∧ n ≤ 256 := by
  have := hd_b (k := k) (s := n) (z := if bornB k = true then 1 else 0) (by unfold hdOk; rw [hsz]; cases bornB k <;> simp)
  omega
 have hN := hG.num.1
 have sm := hN.sm
 have s0 := sm.s0
 have s1 := sm.s1
 have t0 := sm.t0
 have t1 := sm.t1
 have hl := sm.l
 have w1 : IntKind.i64.wrap (n + 1) = n + 1 := w64 (by omega) (by omega)
 have w2 : IntKind.i64.wrap (a.semi - 1) = a.semi - 1 := w64 (by omega) (by omega)
 show FA _ _ _ _ [aG s r a, .int .i64 k, .int .i64 n] m Q
 rw [e146]
 refine newA_intro fun g1 m1 hg1 e1 hb1 hle1 => newA_intro fun g3 m2 hg3 e2 hb3 hle2 => ?_
 have l2 := Mem.le_trans hle1 hle2
 have p1 : m2 g1 = some (.cells (cA s r a) 27 (0, 0)) := hle2 _ _ hb1
 have im := hW.loc hg1 p1 l2
 have n31 : g3 ≠ g1 := Ne.symm (ne_of_none hg3 hb1)
 have z3 := le_none hle1 hg3
 have d3 := hW.fresh z3
 have hO : Off D m m2 := Off.of_le l2
 refine ⟨_, cO im.p 1, ?_⟩
 rw [w2]
 by_cases c : n + 1 > a.semi - 1
 ·rw [if_pos (by rw [w1]; simpa using c)]
  have e : askA k n a = (a, 0, 2) := if_pos c
  rw [e] at hQ
  exact (akN_ok im hb3 z3 d3 hO hQ : akN Q g1 g3 m2)
 rw [if_neg (by rw [w1]; simpa using c)]
 have e : askA k n a = putA k n (roomA n (paceA a)) := if_neg c
 rw [e] at hQ
 obtain ⟨p1', p2⟩ := pace_ok hG
 have tail : ∀ (b : Ar) (M m4 : Mem), Im M g1 s r b D → Off D m M → M g3 = some (.cells zAr 27 (0, 0)) → (∀ q, q ∉ D → m4 q = M q) → ∀ (c : Ar), paceA a = c → Wo m4 s r c D → ∀ (K : Mem → Prop), (∀ m5, akR (look t) Q k n g1 g3 m5 → K m5) → stoA m4 ⟨g1, 0, none⟩ [.slice s.a s.n s.c, .int .i64 c.semi, .int .i64 c.to, .int .i64 c.top, .bool c.cyc, .int .i64 c.scan, .int .i64 c.old, .int .i64 c.cop, .int .i64 c.ser, .slice r.a r.n r.c] K := by
  intro b M m4 imb hOb h3b o4 c hc w4 K hK
  have p4 : Ptr m4 g1 s r b := by unfold Ptr; rw [o4 g1 imb.g]; exact imb.p
  refine put_all p4 w4 imb.g fun m5 o5 im5 => hK m5 ?_
  subst hc
  exact akR_ok t h206 h205 h121 im5 ((hOb.trans (Off.of_eq o4)).fresh hg1 o5) hg1 z3 d3 n31 (by rw [o5 g3 n31, o4 g3 d3]; exact h3b) hsz p1' hQ
 by_cases hc : a.cyc = true
 ·have ep : paceA a = stepsA 2 (overA a) := if_pos hc
  refine ⟨Mem.le m2, Mem.le_refl _, _, held (cO im.p 4), ?_⟩
  rw [hc, if_neg (by decide)]
  refine ⟨_, cO im.p 4, ?_⟩
  rw [if_pos hc]
  refine ⟨_, _, _, cO im.p 0, _, cO im.p 1, _, cO im.p 2, _, cO im.p 3, _, cO im.p 4, _, cO im.p 5, _, cO im.p 6, _, cO im.p 7, _, cO im.p 8, _, _, _, cO im.p 9, ?_⟩
  refine via h118 ⟨s, r, a, D, rfl, im.w, fun m3 o3 w3 => ⟨_, _, _, _, _, _, _, _, _, _, _, _, _, _, rfl, ?_⟩⟩
  refine via h117 ⟨s, r, overA a, D, 2, rfl, w3, hG.over.1, by decide, by decide, fun m4 k4 o4 ⟨w4, _⟩ => ⟨_, _, _, _, _, _, _, _, _, _, _, _, _, _, _, rfl, ?_⟩⟩
  exact tail a m2 m4 im hO hb3 (fun q hq => (o4 q hq).trans (o3 q hq)) _ ep w4 _ fun m5 h => h
 ·have hcf : a.cyc = false := by simpa using hc
  refine ⟨Mem.le m2, Mem.le_refl _, _, held (cO im.p 4), ?_⟩
  rw [hcf, if_pos (by decide)]
  obtain ⟨T1, hI⟩ : ∃ T1, I0 a T1 := by
   rcases hG with h | ⟨T1, T2, h⟩
   ·exact h
   ·exact absurd h.c.cy hc
  have hh := halves hN
  have w3 : IntKind.i64.wrap (a.top - startA a a.to) = a.top - startA a a.to := w64 (by omega) (by omega)
  have w4 : IntKind.i64.wrap (2 * (a.top - startA a a.to)) = 2 * (a.top - startA a a.to) := w64 (by omega) (by omega)
  refine ⟨_, held (cO im.p 3), _, _, _, held (cO im.p 0), _, held (cO im.p 1), _, held (cO im.p 2), _, held (cO im.p 3), _, held (cO im.p 4), _, held (cO im.p 5), _, held (cO im.p 6), _, held (cO im.p 7), _, held (cO im.p 8), _, _, _, held (cO im.p 9), _, held (cO im.p 2), _, held (cO im.p 1), ?_⟩
  refine via h105 ⟨s, r, a, a.to, rfl, t0, t1, by omega, s1, _, rfl, Mem.le_refl _, ?_⟩
  rw [w3, w4, w2]
  by_cases hd : 2 * (a.top - startA a a.to) > a.semi - 1
  ·have ep : paceA a = stepsA 2 (overA (flipA a)) := by unfold paceA; rw [if_neg hc, if_pos hd]
   rw [if_pos (by simpa using hd)]
   obtain ⟨g1', g2', g3'⟩ := flip_gd hI
   refine ⟨_, _, _, cO im.p 0, _, cO im.p 1, _, cO im.p 2, _, cO im.p 3, _, cO im.p 4, _, cO im.p 5, _, cO im.p 6, _, cO im.p 7, _, cO im.p 8, _, _, _, cO im.p 9, ?_⟩
   refine via h109 ⟨s, r, a, D, rfl, im.w, ⟨T1, hI⟩, fun m3 o3 w3' => ⟨_, _, _, _, _, _, _, _, _, _, _, _, _, _, rfl, ?_⟩⟩
   have p3 : Ptr m3 g1 s r a := by unfold Ptr; rw [o3 g1 im.g]; exact im.p
   refine put_all p3 w3' im.g fun m4 o4 im4 => ?_
   have hO4 : Off D m m4 := (hO.trans (Off.of_eq o3)).fresh hg1 o4
   have h34 : m4 g3 = some (.cells zAr 27 (0, 0)) := by rw [o4 g3 n31, o3 g3 d3]; exact hb3
   refine ⟨_, cO im4.p 4, ?_⟩
   cases hfc : (flipA a).cyc with
   | true =>
    rw [if_pos rfl]
    refine ⟨_, _, _, cO im4.p 0, _, cO im4.p 1, _, cO im4.p 2, _, cO im4.p 3, _, cO im4.p 4, _, cO im4.p 5, _, cO im4.p 6, _, cO im4.p 7, _, cO im4.p 8, _, _, _, cO im4.p 9, ?_⟩
    refine via h118 ⟨s, r, flipA a, D, rfl, im4.w, fun m5 o5 w5 => ⟨_, _, _, _, _, _, _, _, _, _, _, _, _, _, rfl, ?_⟩⟩
    refine via h117 ⟨s, r, overA (flipA a), D, 2, rfl, w5, g1'.okC.over.1, by decide, by decide, fun m6 k6 o6 ⟨w6, _⟩ => ⟨_, _, _, _, _, _, _, _, _, _, _, _, _, _, _, rfl, ?_⟩⟩
    exact tail (flipA a) m4 m6 im4 hO4 h34 (fun q hq => (o6 q hq).trans (o5 q hq)) _ ep w6 _ fun m5 h => h
   | false =>
    rw [if_neg (by decide)]
    have e5 : paceA a = flipA a := by rw [ep, g1'.over]; exact steps_idle 2 hfc
    rw [e5] at hQ p1'
    exact (akR_ok t h206 h205 h121 im4 hO4 hg1 z3 d3 n31 h34 hsz p1' hQ : akR (look t) Q k n g1 g3 m4)
  ·have ep : paceA a = a := by unfold paceA; rw [if_neg hc, if_neg hd]
   rw [if_neg (by simpa using hd)]
   refine ⟨_, cO im.p 4, ?_⟩
   rw [hcf, if_neg (by decide)]
   rw [ep] at hQ p1'
   exact (akR_ok t h206 h205 h121 im hO hg1 z3 d3 n31 hb3 hsz p1' hQ : akR (look t) Q k n g1 g3 m2)
theorem own_emp {α : Type} [Enc α] (m : Mem) : OwnL m ⟨none, 0, 0⟩ ([] : List α) [] := ⟨rfl, .inl ⟨rfl, rfl, rfl, rfl⟩⟩
theorem own_one {α : Type} [Enc α] {m : Mem} {g : Nat} {t : TypeId} (h : m g = some (.cells #[] t (0, 0))) : OwnL m ⟨some ⟨g, 0, none⟩, 0, 0⟩ ([] : List α) [g] := ⟨rfl, .inr ⟨g, t, [], rfl, rfl, h, by simp⟩⟩
theorem le_new {m M : Mem} {D : List Nat} (h : ∀ b, b ∉ D → M b = m b) (hD : ∀ b ∈ D, m b = none) : Mem.le m M := fun b o ho => by
 rw [h b fun hb => by rw [hD b hb] at ho; cases ho]
 exact ho
def s195 : Spec := fun args m Q => ∃ (s : Sl) (l : List U64), args = [vs s] ∧ s.n = l.length ∧ Rd m s.a l ∧ l.length ≤ 2 ^ 20 ∧ ∀ (s' : Sl) (D : List Nat) (M : Mem), Mem.le m M → OwnL M s' l D → (∀ b ∈ D, m b = none) → Q (vs s') M
theorem f195 (t : Tab) : Mt t s195 kp195 Tryz.f195 := by
 rintro args m Q ⟨⟨sa, sn, sc⟩, l, rfl, hn, hR, hl, hQ⟩
 have hn : sn = l.length := hn
 have hR : Rd m sa l := hR
 show FA _ _ _ _ [.slice sa sn sc] m Q
 rw [e195]
 refine newA_intro fun g1 m2 hg1 e2 hb1 hle2 => ?_
 refine app_sl (α := U64) (s := ⟨some ⟨g1, 0, none⟩, 0, 0⟩) (D := [g1]) (l := []) (l2 := l) rfl rfl (by decide) (by decide) (by decide) (own_one hb1) hn.symm (hR.le hle2) (by simp; omega) fun s' D' m' k1 k2 k3 k4 k5 => ?_
 obtain ⟨ta, tn, tc⟩ := s'
 have k1 : tn = 0 + sn := k1
 subst k1
 have hD : ∀ b ∈ D', m b = none := fun b hb => by
  rcases k4 with k4 | k4
  ·rw [k4, List.mem_singleton] at hb; rw [hb]; exact hg1
  ·exact le_none hle2 (k4 b hb)
 refine ret_intro (Mem.le_refl _) (hQ ⟨ta, 0 + sn, tc⟩ D' m' (fun b o ho => ?_) k2 hD)
 have hb : b ∉ D' := fun hb => by rw [hD b hb] at ho; cases ho
 rw [k3 b hb]
 exact hle2 _ _ ho
def s192 : Spec := s195
theorem f192 (t : Tab) : Mt t s192 kp192 Tryz.f192 := by
 rintro args m Q ⟨⟨sa, sn, sc⟩, l, rfl, hn, hR, hl, hQ⟩
 have hn : sn = l.length := hn
 have hR : Rd m sa l := hR
 show FA _ _ _ _ [.slice sa sn sc] m Q
 rw [e192]
 refine app_sl (α := U64) (s := ⟨none, 0, 0⟩) (D := []) (l := []) (l2 := l) rfl rfl (by decide) (by decide) (by decide) (own_emp m) hn.symm hR (by simp; omega) fun s' D' m' k1 k2 k3 k4 k5 => ?_
 obtain ⟨ta, tn, tc⟩ := s'
 have k1 : tn = 0 + sn := k1
 subst k1
 have hD : ∀ b ∈ D', m b = none := fun b hb => by
  rcases k4 with k4 | k4
  ·rw [k4] at hb; cases hb
  ·exact k4 b hb
 exact ret_intro (Mem.le_refl _) (hQ ⟨ta, 0 + sn, tc⟩ D' m' (le_new k3 hD) k2 hD)
def CpK (m : Mem) (a : Ar) (K : Value → Mem → Prop) : Prop := ∀ (s' r' : Sl) (D : List Nat) (M : Mem), Mem.le m M → Wo M s' r' a D → (∀ b ∈ D, m b = none) → K (vA s' r' a) M
def cpT (Q : Value → Mem → Prop) (g1 g3 : Nat) (m24 : Mem) : Prop :=
 (rA m24 g1 fun w0 => (stoA m24 ⟨g3, 0, none⟩ w0 fun m49 => (rA m49 g3 fun w1 => ret Q (.agg w1.toArray) m49)))
theorem cpT_ok {Q : Value → Mem → Prop} {g1 g3 : Nat} {s r : Sl} {a : Ar} {D1 D2 : List Nat} {M m : Mem} (p : Ptr M g1 s r a) (o1 : OwnL M s a.ws D1) (o2 : OwnL M r a.rs D2) (h3 : M g3 = some (.cells zAr 27 (0, 0))) (n3 : g3 ∉ D1 ++ D2) (z3 : m g3 = none) (hd : ∀ b ∈ D1, b ∉ D2) (hf : ∀ b ∈ D1 ++ D2, m b = none) (hl : Mem.le m M) (hQ : CpK m a Q) : cpT Q g1 g3 M := by
 unfold cpT
 obtain ⟨wa, wn, wc⟩ := s
 obtain ⟨ra, rn, rc⟩ := r
 refine ⟨_, _, _, cO p 0, _, cO p 1, _, cO p 2, _, cO p 3, _, cO p 4, _, cO p 5, _, cO p 6, _, cO p 7, _, cO p 8, _, _, _, cO p 9, ?_⟩
 refine sto_ar h3 fun m1 e1 q1 ne1 => ?_
 have p3 : Ptr m1 g3 ⟨wa, wn, wc⟩ ⟨ra, rn, rc⟩ a := q1
 refine ⟨_, _, _, cO p3 0, _, cO p3 1, _, cO p3 2, _, cO p3 3, _, cO p3 4, _, cO p3 5, _, cO p3 6, _, cO p3 7, _, cO p3 8, _, _, _, cO p3 9, ?_⟩
 have L : Mem.le m m1 := le_other hl z3 ne1
 have o1' := o1.ext (m' := m1) fun b hb => ne1 b fun e => n3 (by rw [← e]; simp [hb])
 have o2' := o2.ext (m' := m1) fun b hb => ne1 b fun e => n3 (by rw [← e]; simp [hb])
 exact ret_intro (Mem.le_refl _) (hQ _ _ (D1 ++ D2) m1 L ⟨D1, D2, o1', o2', rfl, List.nodup_append.2 ⟨own_nd o1, own_nd o2, fun x hx y hy e => hd x hx (e ▸ hy)⟩⟩ hf)
def s108 : Spec := fun args m Q => ∃ (s r : Sl) (a : Ar), args = [vA s r a] ∧ ArAt m s r a ∧ a.wf ∧ CpK m a Q
theorem f108 (t : Tab) (h195 : look t 195 = s195) : Mt t s108 kp108 Tryz.f108 := by
 rintro args m Q ⟨s, r, a, rfl, hA, hw, hQ⟩
 show FA _ _ _ _ [aG s r a] m Q
 rw [e108]
 refine newA_intro fun g1 m1 hg1 e1 hb1 hle1 => newA_intro fun g3 m2 hg3 e2 hb3 hle2 => ?_
 have l2 := Mem.le_trans hle1 hle2
 have p1 : m2 g1 = some (.cells (cA s r a) 27 (0, 0)) := hle2 _ _ hb1
 have n13 : g1 ≠ g3 := ne_of_none hg3 hb1
 have z3 := le_none hle1 hg3
 refine ⟨_, _, _, cO p1 0, via h195 ⟨s, a.ws, rfl, hA.n.symm, hA.w.le l2, hw.n, fun s' D1 M hle o1 f1 => ?_⟩⟩
 obtain ⟨wa, wn, wc⟩ := s'
 have p1' := hle _ _ p1
 refine ⟨_, _, _, rfl, sto p1' rfl (by show 0 + 1 ≤ 10; decide) fun m3 e3 q3 ne3 => ?_⟩
 have q3 : Ptr m3 g1 ⟨wa, wn, wc⟩ r a := q3
 have b3 : m3 g3 = some (.cells zAr 27 (0, 0)) := (ne3 g3 (Ne.symm n13)).trans (hle _ _ hb3)
 have d11 : g1 ∉ D1 := fun h => by have := f1 g1 h; rw [p1] at this; cases this
 have d13 : g3 ∉ D1 := fun h => by have := f1 g3 h; rw [hb3] at this; cases this
 have o13 := o1.ext (m' := m3) fun b hb => ne3 b fun e => d11 (e ▸ hb)
 have L3 : Mem.le m m3 := le_other (Mem.le_trans l2 hle) hg1 ne3
 refine newA_intro fun g5 m4 hg5 e4 hb5 hle4 => ⟨_, _, _, cO (hle4 _ _ q3) 9, ?_⟩
 refine app_sl (α := Vl) (s := ⟨some ⟨g5, 0, none⟩, 0, 0⟩) (D := [g5]) (l := []) (l2 := a.rs) rfl rfl (by decide) (by decide) (by decide) (own_one hb5) hA.k ((hA.r.le L3).le hle4) (by have := hA.k; have := hw.r; simp; omega) fun t' D2 m5 k1 k2 k3 k4 k5 => ?_
 obtain ⟨ta, tn, tc⟩ := t'
 have k1 : tn = 0 + r.n := k1
 subst k1
 have hD : ∀ b ∈ D2, m3 b = none := fun b hb => by
  rcases k4 with k4 | k4
  ·rw [k4, List.mem_singleton] at hb; rw [hb]; exact hg5
  ·exact le_none hle4 (k4 b hb)
 have L5 : Mem.le m3 m5 := fun b o ho => by
  rw [k3 b fun hb => by rw [hD b hb] at ho; cases ho]
  exact hle4 _ _ ho
 refine sto (L5 _ _ q3) rfl (by show 9 + 1 ≤ 10; decide) fun m6 e6 q6 ne6 => ?_
 have q6 : Ptr m6 g1 ⟨wa, wn, wc⟩ ⟨ta, 0 + r.n, tc⟩ a := q6
 have d21 : g1 ∉ D2 := fun h => by have h1 := hD g1 h; have h2 : m3 g1 = _ := q3; rw [h2] at h1; cases h1
 have d23 : g3 ∉ D2 := fun h => by have h1 := hD g3 h; rw [b3] at h1; cases h1
 have o16 := (o13.ext (m' := m5) fun b hb => by obtain ⟨o, ho⟩ := o13.live b hb; rw [ho, L5 _ _ ho]).ext (m' := m6) fun b hb => ne6 b fun e => d11 (e ▸ hb)
 have o26 := k2.ext (m' := m6) fun b hb => ne6 b fun e => d21 (e ▸ hb)
 refine cpT_ok q6 o16 o26 ((ne6 g3 (Ne.symm n13)).trans (L5 _ _ b3)) (fun h => by rcases List.mem_append.1 h with h | h; exact d13 h; exact d23 h) z3 (fun b hb hb2 => by obtain ⟨o, ho⟩ := o13.live b hb; rw [hD b hb2] at ho; cases ho) (fun b hb => ?_) (le_other (Mem.le_trans L3 L5) hg1 ne6) hQ
 rcases List.mem_append.1 hb with h | h
 ·exact le_none l2 (f1 b h)
 ·exact le_none L3 (hD b h)
def s106 : Spec := s108
theorem f106 (t : Tab) (h192 : look t 192 = s192) : Mt t s106 kp106 Tryz.f106 := by
 rintro args m Q ⟨s, r, a, rfl, hA, hw, hQ⟩
 show FA _ _ _ _ [aG s r a] m Q
 rw [e106]
 refine newA_intro fun g1 m1 hg1 e1 hb1 hle1 => newA_intro fun g3 m2 hg3 e2 hb3 hle2 => ?_
 have l2 := Mem.le_trans hle1 hle2
 have p1 : m2 g1 = some (.cells (cA s r a) 27 (0, 0)) := hle2 _ _ hb1
 have n13 : g1 ≠ g3 := ne_of_none hg3 hb1
 have z3 := le_none hle1 hg3
 refine ⟨_, _, _, cO p1 0, via h192 ⟨s, a.ws, rfl, hA.n.symm, hA.w.le l2, hw.n, fun s' D1 M hle o1 f1 => ?_⟩⟩
 obtain ⟨wa, wn, wc⟩ := s'
 have p1' := hle _ _ p1
 refine ⟨_, _, _, rfl, sto p1' rfl (by show 0 + 1 ≤ 10; decide) fun m3 e3 q3 ne3 => ?_⟩
 have q3 : Ptr m3 g1 ⟨wa, wn, wc⟩ r a := q3
 have b3 : m3 g3 = some (.cells zAr 27 (0, 0)) := (ne3 g3 (Ne.symm n13)).trans (hle _ _ hb3)
 have d11 : g1 ∉ D1 := fun h => by have := f1 g1 h; rw [p1] at this; cases this
 have d13 : g3 ∉ D1 := fun h => by have := f1 g3 h; rw [hb3] at this; cases this
 have o13 := o1.ext (m' := m3) fun b hb => ne3 b fun e => d11 (e ▸ hb)
 have L3 : Mem.le m m3 := le_other (Mem.le_trans l2 hle) hg1 ne3
 refine ⟨_, _, _, cO q3 9, ?_⟩
 refine app_sl (α := Vl) (s := ⟨none, 0, 0⟩) (D := []) (l := []) (l2 := a.rs) rfl rfl (by decide) (by decide) (by decide) (own_emp m3) hA.k (hA.r.le L3) (by have := hA.k; have := hw.r; simp; omega) fun t' D2 m5 k1 k2 k3 k4 k5 => ?_
 obtain ⟨ta, tn, tc⟩ := t'
 have k1 : tn = 0 + r.n := k1
 subst k1
 have hD : ∀ b ∈ D2, m3 b = none := fun b hb => by
  rcases k4 with k4 | k4
  ·rw [k4] at hb; cases hb
  ·exact k4 b hb
 have L5 : Mem.le m3 m5 := le_new k3 hD
 refine sto (L5 _ _ q3) rfl (by show 9 + 1 ≤ 10; decide) fun m6 e6 q6 ne6 => ?_
 have q6 : Ptr m6 g1 ⟨wa, wn, wc⟩ ⟨ta, 0 + r.n, tc⟩ a := q6
 have d21 : g1 ∉ D2 := fun h => by have h1 := hD g1 h; have h2 : m3 g1 = _ := q3; rw [h2] at h1; cases h1
 have d23 : g3 ∉ D2 := fun h => by have h1 := hD g3 h; rw [b3] at h1; cases h1
 have o16 := (o13.ext (m' := m5) fun b hb => by obtain ⟨o, ho⟩ := o13.live b hb; rw [ho, L5 _ _ ho]).ext (m' := m6) fun b hb => ne6 b fun e => d11 (e ▸ hb)
 have o26 := k2.ext (m' := m6) fun b hb => ne6 b fun e => d21 (e ▸ hb)
 refine cpT_ok q6 o16 o26 ((ne6 g3 (Ne.symm n13)).trans (L5 _ _ b3)) (fun h => by rcases List.mem_append.1 h with h | h; exact d13 h; exact d23 h) z3 (fun b hb hb2 => by obtain ⟨o, ho⟩ := o13.live b hb; rw [hD b hb2] at ho; cases ho) (fun b hb => ?_) (le_other (Mem.le_trans L3 L5) hg1 ne6) hQ
 rcases List.mem_append.1 hb with h | h
 ·exact le_none l2 (f1 b h)
 ·exact le_none L3 (hD b h)
def s136 : Spec := fun args m Q => ∃ (s r : Sl) (a : Ar) (x : Int), args = [vA s r a, .int .i64 x] ∧ ArAt m s r a ∧ a.wf ∧ Q (.bool (decide (0 ≤ x ∧ x < a.rs.length))) m
theorem f136 (t : Tab) (h103 : look t 103 = s103) : Mt t s136 kp136 Tryz.f136 := by
 rintro args m Q ⟨s, r, a, x, rfl, hA, hw, hQ⟩
 show FA _ _ _ _ [aG s r a, .int .i64 x] m Q
 rw [e136]
 have hk := hA.k
 have hr := hw.r
 refine newA_intro fun g m2 hg1 e2 hb1 hle2 => ⟨_, _, _, cO hb1 9, ?_⟩
 rw [w64 (x := (r.n : Int) - 1) (by omega) (by omega)]
 refine via h103 ⟨_, _, _, rfl, _, rfl, ret_bool hle2 hQ ?_⟩
 apply Bool.eq_iff_iff.2
 rw [decide_eq_true_eq, decide_eq_true_eq]
 omega
theorem ask_ok {a : Ar} {k n : Int} (h : OkC a) (hsz : sizeB k n = true) : (askA k n a).1.ws.length = a.ws.length ∧ (askA k n a).1.rs.length = a.rs.length ∧ a.ws.length ≤ 8000 ∧
  ((askA k n a).2.2 = 0 → 1 ≤ (askA k n a).2.1 ∧ (askA k n a).2.1 + n + 1 ≤ a.ws.length) := by
 have sm := h.num.1.sm
 have s1 := sm.s1
 have hl := sm.l
 unfold askA
 split
 ·exact ⟨rfl, rfl, by omega, fun e => by cases e⟩
 ·obtain ⟨p1, p2⟩ := pace_ok h
  obtain ⟨r1, r2⟩ := room_ok (n := n) p1
  have sz := p2.trans r2
  have hN := r1.num.1
  have hf := free_le hN
  generalize roomA n (paceA a) = b at *
  have l1 := sz.len
  have l2 := sz.rl
  unfold putA
  split
  ·exact ⟨l1, l2, by omega, fun e => by cases e⟩
  ·refine ⟨?_, ?_, by omega, fun _ => ⟨?_, ?_⟩⟩
   ·show (if bornB k = true then _ else _ : Ar).ws.length = _
    split
    ·show (clrW (setW b.ws _ _) _ _).length = _
     rw [clrW_len, setW_len]; exact l1
    ·show (clrW (setW b.ws _ _) _ _).length = _
     rw [clrW_len, setW_len]; exact l1
   ·show (if bornB k = true then _ else _ : Ar).rs.length = _
    split
    ·exact l2
    ·exact l2
   ·show 1 ≤ b.top
    omega
   ·show b.top + n + 1 ≤ _
    omega
theorem okC_of {a : Ar} (hw : a.wf) (h : okP a) : OkC a := by
 obtain ⟨mk, h⟩ := h
 exact ok_cyc hw h
def ncR (a : Ar) (f i : Int) : Ar × Int :=
 if (askA 5 2 a).2.2 = 0 then ({ putV (askA 5 2 a).1 ((askA 5 2 a).2.1 + 1) ((askA 5 2 a).1.rs.getD f.toNat (0, 0)) with rs := (askA 5 2 a).1.rs.set i.toNat (9, (askA 5 2 a).2.1) }, (askA 5 2 a).2.2) else ((askA 5 2 a).1, (askA 5 2 a).2.2)
open Classical in
noncomputable def ncA (a : Ar) (f i : Int) : Ar × Int := if okP a ∧ (0 ≤ f ∧ f < a.rs.length) ∧ 0 ≤ i ∧ i < a.rs.length then ncR a f i else (a, 1)
def ncK (m : Mem) (q : Ar × Int) (Q : Value → Mem → Prop) : Prop := ∀ (s' r' : Sl) (D : List Nat) (M : Mem), Mem.le m M → Wo M s' r' q.1 D → (∀ b ∈ D, m b = none) → Q (.tuple #[vA s' r' q.1, .int .i64 q.2]) M
theorem ret_nc {Q : Value → Mem → Prop} {g1 g3 : Nat} {s r : Sl} {q : Ar × Int} {D : List Nat} {M m : Mem} (im : Im M g1 s r q.1 D) (h3 : M g3 = some (.cells zAr 27 (0, 0))) (z3 : m g3 = none) (d3 : g3 ∉ D)
  (hO : Off D m M) (hD : ∀ b ∈ D, m b = none) (hQ : ncK m q Q) : stT Q g1 g3 q.2 M :=
 stT_ok im h3 z3 d3 hO fun m' o w => hQ s r D m' (le_new o hD) w hD
def s242 : Spec := fun args m Q => ∃ (s r : Sl) (a : Ar) (f i : Int), args = [vA s r a, .int .i64 f, .int .i64 i] ∧ ArAt m s r a ∧ a.wf ∧ ncK m (ncA a f i) Q
theorem f242 (t : Tab) (h108 : look t 108 = s108) (h20 : look t 20 = s20) (h136 : look t 136 = s136) (h146 : look t 146 = s146) (h147 : look t 147 = s147) : Mt t s242 kp242 Tryz.f242 := by
 rintro args m Q ⟨s, r, a, f, i, rfl, hA, hw, hQ⟩
 show FA _ _ _ _ [aG s r a, .int .i64 f, .int .i64 i] m Q
 rw [e242]
 refine newA_intro fun g1 m1 hg1 e1 hb1 hle1 => newA_intro fun g3 m2 hg3 e2 hb3 hle2 => ?_
 have l2 := Mem.le_trans hle1 hle2
 have p1 : Ptr m2 g1 s r a := hle2 _ _ hb1
 have n13 : g1 ≠ g3 := ne_of_none hg3 hb1
 have z3 := le_none hle1 hg3
 refine ⟨_, _, _, cO p1 0, _, cO p1 1, _, cO p1 2, _, cO p1 3, _, cO p1 4, _, cO p1 5, _, cO p1 6, _, cO p1 7, _, cO p1 8, _, _, _, cO p1 9, via h108 ⟨s, r, a, rfl, hA.le l2, hw, fun s' r' D m3 l3 w3 f3 => ⟨_, _, _, _, _, _, _, _, _, _, _, _, _, _, rfl, ?_⟩⟩⟩
 have hD : ∀ b ∈ D, m b = none := fun b hb => le_none l2 (f3 b hb)
 have d3 : g3 ∉ D := fun h => by have := f3 g3 h; rw [hb3] at this; cases this
 have d1 : g1 ∉ D := fun h => by have := f3 g1 h; rw [p1] at this; cases this
 refine newA_intro fun g5 m4 hg5 e4 hb5 hle4 => ?_
 obtain ⟨wa, wn, wc⟩ := s'
 obtain ⟨ra, rn, rc⟩ := r'
 refine sto_ar hb5 fun m5 e5 q5 ne5 => ?_
 have p5 : Ptr m5 g5 ⟨wa, wn, wc⟩ ⟨ra, rn, rc⟩ a := q5
 have l5 : Mem.le m3 m5 := le_other hle4 hg5 ne5
 have im5 : Im m5 g5 ⟨wa, wn, wc⟩ ⟨ra, rn, rc⟩ a D := ⟨p5, w3.le l5, w3.fresh hg5⟩
 have L5 := Mem.le_trans (Mem.le_trans l2 l3) l5
 have p15 : Ptr m5 g1 s r a := l5 _ _ (l3 _ _ p1)
 have h35 := l5 _ _ (l3 _ _ hb3)
 refine ⟨_, _, _, cO p15 0, _, cO p15 1, _, cO p15 2, _, cO p15 3, _, cO p15 4, _, cO p15 5, _, cO p15 6, _, cO p15 7, _, cO p15 8, _, _, _, cO p15 9, via h20 ⟨s, r, a, rfl, hA.le L5, hw, _, rfl, ?_⟩⟩
 by_cases hk : okP a
 ·rw [pB_yes hk, if_neg (by decide)]
  refine ⟨_, _, _, cO p15 0, _, cO p15 1, _, cO p15 2, _, cO p15 3, _, cO p15 4, _, cO p15 5, _, cO p15 6, _, cO p15 7, _, cO p15 8, _, _, _, cO p15 9, via h136 ⟨s, r, a, f, rfl, hA.le L5, hw, _, rfl, ?_⟩⟩
  by_cases hf : 0 ≤ f ∧ f < a.rs.length
  ·rw [decide_eq_true hf, if_neg (by decide)]
   refine ⟨_, _, _, cO p15 0, _, cO p15 1, _, cO p15 2, _, cO p15 3, _, cO p15 4, _, cO p15 5, _, cO p15 6, _, cO p15 7, _, cO p15 8, _, _, _, cO p15 9, via h136 ⟨s, r, a, i, rfl, hA.le L5, hw, _, rfl, ?_⟩⟩
   by_cases hi : 0 ≤ i ∧ i < a.rs.length
   ·rw [decide_eq_true hi, if_neg (by decide)]
    have eA : ncA a f i = ncR a f i := if_pos ⟨hk, hf, hi⟩
    rw [eA] at hQ
    have hG := okC_of hw hk
    have hsz : sizeB 5 2 = true := by decide
    obtain ⟨k1, k2, k3, k4⟩ := ask_ok hG hsz
    refine ⟨_, _, _, cO p5 0, _, cO p5 1, _, cO p5 2, _, cO p5 3, _, cO p5 4, _, cO p5 5, _, cO p5 6, _, cO p5 7, _, cO p5 8, _, _, _, cO p5 9, via h146 ⟨⟨wa, wn, wc⟩, ⟨ra, rn, rc⟩, a, D, 5, 2, rfl, im5.w, hG, hsz, fun m6 o6 w6 => ⟨_, _, _, _, _, _, _, _, _, _, _, _, _, _, _, _, rfl, ?_⟩⟩⟩
    unfold ncR at hQ
    generalize askA 5 2 a = q at *
    obtain ⟨b, p, c⟩ := q
    simp only at k1 k2 k4 hQ w6 ⊢
    refine newA_intro fun g7 m7 hg7 e7 hb7 hle7 => ?_
    refine sto_ar hb7 fun m8 e8 q8 ne8 => ?_
    have p8 : Ptr m8 g7 ⟨wa, wn, wc⟩ ⟨ra, rn, rc⟩ b := q8
    have l8 : Mem.le m6 m8 := le_other hle7 hg7 ne8
    have im8 : Im m8 g7 ⟨wa, wn, wc⟩ ⟨ra, rn, rc⟩ b D := ⟨p8, w6.le l8, w6.fresh hg7⟩
    have h38 := l8 _ _ ((o6 g3 d3).trans h35)
    have O8 : Off D m m8 := ((Off.of_le L5).trans (Off.of_eq o6)).trans (Off.of_le l8)
    have n37 : g3 ≠ g7 := fun e => by have h1 := (o6 g3 d3).trans h35; rw [e, hg7] at h1; cases h1
    have z7 : m g7 = none := by
     cases e : m g7 with
     | none => rfl
     | some o => have := (o6 g7 (w6.fresh hg7)).trans (L5 _ _ e); rw [hg7] at this; cases this
    by_cases hc : c = 0
    ·rw [if_pos (by rw [hc]; rfl)]
     rw [if_pos hc] at hQ
     obtain ⟨q0, q1⟩ := k4 hc
     have hAt := im8.w.at
     have hkk := hAt.k
     refine ⟨fun q => q g7 = m8 g7 ∧ Rd q ra b.rs, ⟨rfl, hAt.r⟩, _, _, _, fun q hq => cO (hq.1.trans p8) 0, _, fun q hq => cO (hq.1.trans p8) 1, _, fun q hq => cO (hq.1.trans p8) 2, _, fun q hq => cO (hq.1.trans p8) 3, _, fun q hq => cO (hq.1.trans p8) 4, _, fun q hq => cO (hq.1.trans p8) 5, _, fun q hq => cO (hq.1.trans p8) 6, _, fun q hq => cO (hq.1.trans p8) 7, _, fun q hq => cO (hq.1.trans p8) 8, _, _, _, fun q hq => cO (hq.1.trans p8) 9, _, _, _, fun q hq => cO (hq.1.trans p8) 9, ?_⟩
     refine rgetH hAt.r hkk hf.1 (by omega) fun ad had c1 c2 => ⟨_, fun q hq => c1 q hq.2, _, fun q hq => c2 q hq.2, ?_⟩
     rw [w64 (x := p + 1) (by omega) (by omega)]
     refine via h147 ⟨⟨wa, wn, wc⟩, ⟨ra, rn, rc⟩, b, D, p + 1, b.rs.getD f.toNat (0, 0), rfl, im8.w, by omega, by omega, by omega, fun m9 o9 w9 => ⟨_, _, _, _, _, _, _, _, _, _, _, _, _, _, rfl, ⟨o9 g7 im8.g, w9.at.r⟩, ?_⟩⟩
     have p9 : Ptr m9 g7 ⟨wa, wn, wc⟩ ⟨ra, rn, rc⟩ b := (o9 g7 im8.g).trans p8
     refine put_all p9 w9 im8.g fun m10 o10 im10 => ⟨_, _, _, cO im10.p 9, im10.put_r (v := (9, p)) hi.1 (by show i < (b.rs.length : Int); omega) fun m11 o11 im11 => ?_⟩
     have h311 : m11 g3 = some (.cells zAr 27 (0, 0)) := by rw [o11 g3 d3, o10 g3 n37, o9 g3 d3]; exact h38
     have O11 : Off D m m11 := ((O8.trans (Off.of_eq o9)).fresh z7 o10).trans (Off.of_eq o11)
     exact (ret_nc im11 h311 z3 d3 O11 hD hQ : stT Q g7 g3 c m11)
    ·rw [if_neg (by simpa using hc)]
     rw [if_neg hc] at hQ
     exact (ret_nc im8 h38 z3 d3 O8 hD hQ : stT Q g7 g3 c m8)
   ·rw [decide_eq_false hi, if_pos (by decide)]
    have eA : ncA a f i = (a, 1) := if_neg fun h => hi h.2.2
    rw [eA] at hQ
    exact (ret_nc im5 h35 z3 d3 (Off.of_le L5) hD hQ : stT Q g5 g3 1 m5)
  ·rw [decide_eq_false hf, if_pos (by decide)]
   have eA : ncA a f i = (a, 1) := if_neg fun h => hf h.2.1
   rw [eA] at hQ
   exact (ret_nc im5 h35 z3 d3 (Off.of_le L5) hD hQ : stT Q g5 g3 1 m5)
 ·rw [pB_no hk, if_pos (by decide)]
  have eA : ncA a f i = (a, 1) := if_neg fun h => hk h.1
  rw [eA] at hQ
  exact (ret_nc im5 h35 z3 d3 (Off.of_le L5) hD hQ : stT Q g5 g3 1 m5)
end Go.Proofs.YtpkehednooilhaaGreat.Abs
