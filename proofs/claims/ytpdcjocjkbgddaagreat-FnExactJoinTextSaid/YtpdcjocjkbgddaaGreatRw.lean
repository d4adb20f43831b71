/- Arenas: is what stands there right? The program's function. -/
import Derived.Test.YtpdcjocjkbgddaaGreatRv
namespace Go.Proofs.YtpdcjocjkbgddaaGreat.Abs
open Go.RowKit
set_option linter.unusedVariables false
set_option linter.unusedSimpArgs false
set_option maxRecDepth 20000
def s107 : Spec := fun args m Q => ∃ (gs g g1 : Nat) (s r is : Sl) (ms mb : Option Nat) (a : Ar) (mk : List Int) (v : Vl) (ty : TypeId), args = [vVl v, .pointer (some ⟨g1, 0, none⟩)] ∧ m g1 = some (.cells #[.pointer (some ⟨gs, 0, none⟩)] ty (0, 0)) ∧ Svy m gs g s r is ms mb a mk ∧ a.sm ∧ a.wf ∧ MkOk a mk ∧ Q (.bool (!pB (rootP a mk v))) m
theorem f107 (t : Tab) (h108 : look t 108 = s108) (h109 : look t 109 = s109) : ∀ args m Q, s107 args m Q → FA Tryz.prog (look t) kp107 Tryz.f107 args m Q := by
  rintro args m Q ⟨gs, g, g1, s, r, is, ms, mb, a, mk, v, ty, rfl, hc, hS, hsm, hw, hO, hQ⟩
  show FA Tryz.prog (look t) kp107 Tryz.f107 [.agg #[.int .i64 v.1, .int .i64 v.2], .pointer (some ⟨g1, 0, none⟩)] m Q
  rw [e107]
  refine newA_intro fun g2 m2 hg2 e2 hb2 hle2 => ⟨_, cell_of hb2 0, _, cell_of hb2 1, via h108 ⟨v, rfl, _, rfl, ?_⟩⟩
  have bad : ¬ rootP a mk v → ret Q (.bool true) m2 := fun h => by rw [pB_no h] at hQ; exact ret_intro hle2 hQ
  cases c1 : valOkB v with
  | false => rw [if_pos (by decide)]; exact bad fun h => by rw [h.1] at c1; cases c1
  | true =>
  rw [if_neg (by decide)]
  refine ⟨_, cell_of hb2 0, ?_⟩
  by_cases c2 : v.1 = 8
  · rw [if_pos (by simpa using c2)]; exact bad fun h => h.2.1 c2
  rw [if_neg (by simpa using c2)]
  refine ⟨_, cell_of (hle2 _ _ hc) 0, _, cell_of hb2 0, _, cell_of hb2 1, via h109 ⟨gs, g, s, r, is, ms, mb, a, mk, v, -1, rfl, hS.le hle2, hsm, hw, hO, c1, .inl (by decide), _, rfl, ?_⟩⟩
  have ef : frmA a mk (-1) = 1 := by unfold frmA; exact if_pos (by decide)
  rw [ef]
  cases c3 : leadsB a mk v 1 with
  | false => exact bad fun h => by rw [h.2.2] at c3; cases c3
  | true =>
    rw [pB_yes ⟨c1, c2, c3⟩] at hQ
    exact ret_intro hle2 hQ
def s135 : Spec := fun args m Q => ∃ (gs g g1 : Nat) (s r is : Sl) (ms mb : Option Nat) (a : Ar) (mk : List Int) (ty : TypeId), args = [vs r, .func (.func 107) #[] #[.pointer (some ⟨g1, 0, none⟩)]] ∧ m g1 = some (.cells #[.pointer (some ⟨gs, 0, none⟩)] ty (0, 0)) ∧ Svy m gs g s r is ms mb a mk ∧ a.sm ∧ a.wf ∧ MkOk a mk ∧ ∀ y : Int, (0 ≤ y ↔ ¬ ∀ v ∈ a.rs, rootP a mk v) → Q (.int .i64 y) m
theorem f135 (t : Tab) (h107 : look t 107 = s107) : ∀ args m Q, s135 args m Q → FA Tryz.prog (look t) kp135 Tryz.f135 args m Q := by
  rintro args m Q ⟨gs, g, g1, s, ⟨ra, rn, rc⟩, is, ms, mb, a, mk, ty, rfl, hc, hS, hsm, hw, hO, hQ⟩
  show FA Tryz.prog (look t) kp135 Tryz.f135 [.slice ra rn rc, .func (.func 107) #[] #[.pointer (some ⟨g1, 0, none⟩)]] m Q
  rw [e135]
  have hk : a.rs.length = rn := hS.a.k
  have hR : Rd m ra a.rs := hS.a.r
  have hB := hw.r
  suffices key : ∀ (d i : Nat), i + d = a.rs.length → (∀ j : Nat, (h : j < a.rs.length) → j < i → rootP a mk a.rs[j]) → L135_2 (look t) (d + 1) Q ra rn rc g1 (rn : Int) (i : Int) m from ⟨a.rs.length + 1, key a.rs.length 0 (by omega) fun j _ hj => by omega⟩
  intro d
  induction d with
  | zero =>
    intro i hi hz
    rw [l135_2]
    refine ⟨m, Mem.le_refl _, ?_⟩
    rw [if_neg (by simp; omega)]
    refine ret_intro (Mem.le_refl _) (hQ (-1) ⟨fun h => by omega, fun h => absurd (fun v hv => ?_) h⟩)
    obtain ⟨j, hj, e⟩ := List.mem_iff_getElem.1 hv
    rw [← e]
    exact hz j hj (by omega)
  | succ d ih =>
    intro i hi hz
    have hlt : i < a.rs.length := by omega
    obtain ⟨v, hv⟩ : ∃ v, v = a.rs[i] := ⟨_, rfl⟩
    have hmem : v ∈ a.rs := by rw [hv]; exact List.getElem_mem _
    rw [l135_2]
    refine ⟨m, Mem.le_refl _, ?_⟩
    rw [if_pos (by simp; omega), wsucc (n := 2 ^ 20) (by omega) (by decide)]
    refine idx' hR hk (by omega) (by omega) fun ad had hd => ?_
    have hd : ∀ (j : Nat) (w : Value), (Enc.e v)[j]? = some w → m.cell? ((ad.add (Int.toNat (i : Int) * 2)).add j) = some w := by rw [hv]; exact hd
    refine ⟨_, hd 0 (.int .i64 v.1) rfl, _, hd 1 (.int .i64 v.2) rfl, via h107 ⟨gs, g, g1, s, ⟨ra, rn, rc⟩, is, ms, mb, a, mk, v, ty, rfl, hc, hS, hsm, hw, hO, _, rfl, ?_⟩⟩
    by_cases c : rootP a mk v
    · rw [pB_yes c, if_neg (by decide)]
      refine ih (i + 1) (by omega) fun j hj hj2 => ?_
      by_cases e : j = i
      · subst e; rw [← hv]; exact c
      · exact hz j hj (by omega)
    · rw [pB_no c, if_pos (by decide)]
      exact ret_intro (Mem.le_refl _) (hQ i ⟨fun _ h => c (h v hmem), fun _ => by omega⟩)
def s106 : Spec := fun args m Q => ∃ (gs g g1 : Nat) (s r is : Sl) (ms mb : Option Nat) (a : Ar) (mk : List Int) (ty : TypeId), args = [vs r, .func (.func 107) #[] #[.pointer (some ⟨g1, 0, none⟩)]] ∧ m g1 = some (.cells #[.pointer (some ⟨gs, 0, none⟩)] ty (0, 0)) ∧ Svy m gs g s r is ms mb a mk ∧ a.sm ∧ a.wf ∧ MkOk a mk ∧ Q (.bool (pB (¬ ∀ v ∈ a.rs, rootP a mk v))) m
theorem f106 (t : Tab) (h135 : look t 135 = s135) : ∀ args m Q, s106 args m Q → FA Tryz.prog (look t) kp106 Tryz.f106 args m Q := by
  rintro args m Q ⟨gs, g, g1, s, ⟨ra, rn, rc⟩, is, ms, mb, a, mk, ty, rfl, hc, hS, hsm, hw, hO, hQ⟩
  show FA Tryz.prog (look t) kp106 Tryz.f106 [.slice ra rn rc, .func (.func 107) #[] #[.pointer (some ⟨g1, 0, none⟩)]] m Q
  rw [e106]
  refine via h135 ⟨gs, g, g1, s, ⟨ra, rn, rc⟩, is, ms, mb, a, mk, ty, rfl, hc, hS, hsm, hw, hO, fun y hy => ⟨_, rfl, ?_⟩⟩
  by_cases c : ∀ v ∈ a.rs, rootP a mk v
  · rw [pB_no (fun h => h c)] at hQ
    exact ret_bool (Mem.le_refl _) hQ (by rw [decide_eq_false_iff_not]; intro h; exact hy.1 h c)
  · rw [pB_yes c] at hQ
    exact ret_bool (Mem.le_refl _) hQ (by rw [decide_eq_true_eq]; exact hy.2 c)
def cntP (a : Ar) (mk : List Int) : Prop := (∀ p : Int, 0 ≤ p → p < mk.length → hdM mk p → objQ a mk p) ∧ tabsP a mk a.ws.length 0 [] ∧ ∀ v ∈ a.rs, rootP a mk v
theorem objQ_tag {a : Ar} {mk : List Int} {p : Int} (hw : a.wf) (hH : HeadAt a p) (h : objQ a mk p) (k : kdW a.ws p = 2) : (valW a.ws (p + 2)).1 = 0 ∨ (valW a.ws (p + 2)).1 = 8 := by
  obtain ⟨e1, e2, e3, e4⟩ := hH.look hw
  have k : (lookW a.ws p).1 = 2 := k
  have hs : (lookW a.ws p).2.1 = 3 := by
    rw [k] at e2
    unfold sizeB at e2
    simpa using e2
  obtain ⟨h1, h2, h3⟩ := h.1 2 (by rw [k, hs]; decide)
  unfold ruleI at h3
  rw [k] at h3
  generalize (valW a.ws (p + 2)).1 = x at h3 ⊢
  by_cases c0 : x = 0
  · exact .inl c0
  · by_cases c8 : x = 8
    · exact .inr c8
    · simp [c0, c8] at h3
theorem tabsI_loop (t : Tab) (h86 : look t 86 = s86) (h105 : look t 105 = s105) (h106 : look t 106 = s106) {Q : Value → Mem → Prop} {s r is : Sl} {ms : Option Nat} {a : Ar} {mk : List Int} {m0 : Mem} {gs g gb g1 : Nat} {ty : TypeId} (hw : a.wf) (hN : NumP a) (ht : tileO a = some mk) (hS : Svy m0 gs g s r is ms (some gb) a mk) (hb0 : m0 gb = none) (hg1 : m0 g1 = some (.cells #[.pointer (some ⟨gs, 0, none⟩)] ty (0, 0))) (hoQ : ∀ p : Int, 0 ≤ p → p < mk.length → hdM mk p → objQ a mk p)
    (no : ¬ cntP a mk → ∀ M, Mem.le m0 M → ret Q (.bool false) M) (yes : cntP a mk → ∀ M, Mem.le m0 M → ret Q (.bool true) M) :
    ∀ (d p : Nat), p + d = a.ws.length → ∀ (had : List Int) (M : Mem), (tabsP a mk a.ws.length 0 [] ↔ tabsP a mk d p had) → Mem.le m0 M → HasS M gb had → L68_8 (look t) (d + 1) Q g1 is.a is.n is.c (is.n : Int) (p : Int) M := by
  have hT := tile_ok hw hN ht
  have ho : ∀ p : Int, 0 ≤ p → p < mk.length → hdM mk p → objP a mk p := fun p p0 p1 hp => objQ_P (hoQ p p0 p1 hp)
  intro d
  have hNn := hw.n
  have hmk := hT.n
  have hin := hS.n
  induction d with
  | zero =>
    intro p hp had M he hle hH
    have hS1 := hS.le hle
    rw [l68_8]
    refine ⟨M, Mem.le_refl _, ?_⟩
    rw [if_neg (by simp; omega)]
    refine ⟨_, cell_of (hle _ _ hg1) 0, po ⟨_, cell_of hS1.b 0, po ⟨_, _, _, cell_of hS1.p 9, via h106 ⟨gs, g, g1, s, r, is, ms, some gb, a, mk, ty, rfl, hle _ _ hg1, hS1, hN.sm, hw, hT.mkOk hw hN, _, rfl, ?_⟩⟩⟩⟩
    by_cases c : ∀ v ∈ a.rs, rootP a mk v
    · rw [pB_no (fun h => h c)]
      exact yes ⟨hoQ, he.2 trivial, c⟩ M hle
    · rw [pB_yes c]
      exact no (fun h => c h.2.2) M hle
  | succ d ih =>
    intro p hp had M he hle hH
    have hS1 := hS.le hle
    have p0 : (0 : Int) ≤ p := by omega
    have p1 : (p : Int) < a.ws.length := by omega
    have hd1 := hle _ _ hg1
    have skip : ¬ (hdM mk p ∧ kdW a.ws p = 2) → L68_8 (look t) (d + 1) Q g1 is.a is.n is.c (is.n : Int) (IntKind.i64.wrap ((p : Int) + 1)) M := by
      intro h
      rw [wsucc (n := 2 ^ 20) (by omega) (by decide)]
      refine ih (p + 1) (by omega) had M ?_ hle hH
      rw [he]
      conv => lhs; unfold tabsP
      rw [if_neg h]
      rfl
    have fin : hdM mk p → kdW a.ws p = 2 → ∀ (M' : Mem) (had' : List Int), (∀ b o, b ≠ gb → M b = some o → M' b = some o) → HasS M' gb had' → (tabP a.ws p had → had' = hadN a.ws p had) →
        if (!pB (tabP a.ws p had)) = true then ret Q (.bool false) M' else L68_8 (look t) (d + 1) Q g1 is.a is.n is.c (is.n : Int) (IntKind.i64.wrap ((p : Int) + 1)) M' := by
      intro h1 h2 M' had' fr k' hR
      have hle' : Mem.le m0 M' := fun b o hb => fr b o (fun e => by rw [e, hb0] at hb; cases hb) (hle _ _ hb)
      have he2 : tabsP a mk a.ws.length 0 [] ↔ tabP a.ws p had ∧ tabsP a mk d ((p : Int) + 1) (hadN a.ws p had) := by
        rw [he]
        conv => lhs; unfold tabsP
        rw [if_pos ⟨h1, h2⟩]
      by_cases c : tabP a.ws p had
      · rw [pB_yes c, if_neg (by decide), wsucc (n := 2 ^ 20) (by omega) (by decide)]
        exact ih (p + 1) (by omega) _ M' (he2.trans ⟨fun h => h.2, fun h => ⟨c, h⟩⟩) hle' (hR c ▸ k')
      · rw [pB_no c, if_pos (by decide)]
        exact no (fun h => c (he2.1 h.2.1).1) M' hle'
    have body : hdM mk p → ∀ v : Value, v = vHd (lookW a.ws p) → ∃ y1 y2 y3 : Int, v = .agg #[.int .i64 y1, .int .i64 y2, .int .i64 y3] ∧ (if (y1 == 2) = true then ∃ p0 : Option Addr, M.cell? ⟨g1, 0, none⟩ = some (.pointer p0) ∧ look t 105 [.pointer p0, .int .i64 (p : Int)] M (fun v' M' => ∃ b : Bool, v' = .bool b ∧ if (!b) = true then ret Q (.bool false) M' else L68_8 (look t) (d + 1) Q g1 is.a is.n is.c (is.n : Int) (IntKind.i64.wrap ((p : Int) + 1)) M')
        else L68_8 (look t) (d + 1) Q g1 is.a is.n is.c (is.n : Int) (IntKind.i64.wrap ((p : Int) + 1)) M) := by
      rintro hhd v rfl
      refine ⟨_, _, _, rfl, ?_⟩
      by_cases ck : kdW a.ws p = 2
      · rw [if_pos (by unfold kdW at ck; simpa using ck)]
        exact ⟨_, cell_of hd1 0, via h105 ⟨gs, g, gb, s, r, is, ms, a, mk, p, had, m0, rfl, hH, hle, hb0, hS, hN.sm, hw, tab_at hw hN hT ho p0 (by omega) hhd ck, objQ_tag hw (hT.head p0 (by omega) hhd) (hoQ p p0 (by omega) hhd) ck, fun M' had' fr k' hR => ⟨_, rfl, fin hhd ck M' had' fr k' hR⟩⟩⟩
      · rw [if_neg (by unfold kdW at ck; simpa using ck)]
        exact skip fun h => ck h.2
    rw [l68_8]
    refine ⟨M, Mem.le_refl _, ?_⟩
    rw [if_pos (by simp; omega)]
    refine ru hS1.r hin p0 (by omega) fun ad had_ hd => ⟨_, hd _ (Mem.le_refl _), ?_⟩
    by_cases c1 : gi mk p = 1
    · rw [if_pos (by simpa using c1)]
      exact ⟨_, cell_of hd1 0, po ⟨_, cell_of hS1.b 0, via h86 ⟨g, s, r, a, p, rfl, ⟨hS1.p, hS1.a, hw, p0, p1⟩, body (.inl c1) _ rfl⟩⟩⟩
    · rw [if_neg (by simpa using c1)]
      by_cases c2 : gi mk p = 2
      · rw [if_pos (by simpa using c2)]
        exact ⟨_, cell_of hd1 0, po ⟨_, cell_of hS1.b 0, via h86 ⟨g, s, r, a, p, rfl, ⟨hS1.p, hS1.a, hw, p0, p1⟩, body (.inr c2) _ rfl⟩⟩⟩
      · rw [if_neg (by simpa using c2)]
        exact skip fun h => by have := h.1; unfold hdM at this; omega
theorem objsI_loop (t : Tab) (h104 : look t 104 = s104) {Q : Value → Mem → Prop} {s r is : Sl} {ms mb : Option Nat} {a : Ar} {mk : List Int} {m0 : Mem} {gs g g1 : Nat} {ty : TypeId} (hw : a.wf) (hN : NumP a) (ht : tileO a = some mk) (hS : Svy m0 gs g s r is ms mb a mk) (hg1 : m0 g1 = some (.cells #[.pointer (some ⟨gs, 0, none⟩)] ty (0, 0)))
    (no : ¬ cntP a mk → ∀ M, Mem.le m0 M → ret Q (.bool false) M) (yes : (∀ p : Int, 0 ≤ p → p < mk.length → hdM mk p → objQ a mk p) → ∀ M, Mem.le m0 M → ∃ k, L68_8 (look t) k Q g1 is.a is.n is.c (is.n : Int) 0 M) :
    ∀ (d p : Nat), p + d = a.ws.length → (∀ q : Int, 0 ≤ q → q < p → hdM mk q → objQ a mk q) → ∀ M : Mem, Mem.le m0 M → L68_2 (look t) (d + 1) Q g1 is.a is.n is.c (is.n : Int) (p : Int) M := by
  have hT := tile_ok hw hN ht
  intro d
  have hNn := hw.n
  have hmk := hT.n
  have hin := hS.n
  induction d with
  | zero =>
    intro p hp hz M hle
    have hS1 := hS.le hle
    rw [l68_2]
    refine ⟨M, Mem.le_refl _, ?_⟩
    rw [if_neg (by simp; omega)]
    exact ⟨_, cell_of (hle _ _ hg1) 0, po ⟨_, _, _, cell_of hS1.b 1, yes (fun q q0 q1 hq => hz q q0 (by omega) hq) M hle⟩⟩
  | succ d ih =>
    intro p hp hz M hle
    have hS1 := hS.le hle
    have p0 : (0 : Int) ≤ p := by omega
    have p1 : (p : Int) < a.ws.length := by omega
    have hd1 := hle _ _ hg1
    have nx : (hdM mk p → objQ a mk p) → L68_2 (look t) (d + 1) Q g1 is.a is.n is.c (is.n : Int) (IntKind.i64.wrap ((p : Int) + 1)) M := by
      intro h
      rw [wsucc (n := 2 ^ 20) (by omega) (by decide)]
      refine ih (p + 1) (by omega) (fun q q0 q1 hq => ?_) M hle
      by_cases e : q = p
      · rw [e] at hq ⊢; exact h hq
      · exact hz q q0 (by omega) hq
    have fin : hdM mk p → if (!pB (objQ a mk p)) = true then ret Q (.bool false) M else L68_2 (look t) (d + 1) Q g1 is.a is.n is.c (is.n : Int) (IntKind.i64.wrap ((p : Int) + 1)) M := by
      intro hq
      by_cases c : objQ a mk p
      · rw [pB_yes c, if_neg (by decide)]; exact nx fun _ => c
      · rw [pB_no c, if_pos (by decide)]; exact no (fun h => c (h.1 p p0 (by omega) hq)) M hle
    rw [l68_2]
    refine ⟨M, Mem.le_refl _, ?_⟩
    rw [if_pos (by simp; omega)]
    refine ru hS1.r hin p0 (by omega) fun ad had_ hd => ⟨_, hd _ (Mem.le_refl _), ?_⟩
    by_cases c1 : gi mk p = 1
    · rw [if_pos (by simpa using c1)]
      exact ⟨_, cell_of hd1 0, via h104 ⟨gs, g, s, r, is, ms, mb, a, mk, p, rfl, hS1, hN.sm, hw, hT.mkOk hw hN, hT.head p0 (by omega) (.inl c1), .inl c1, _, rfl, fin (.inl c1)⟩⟩
    · rw [if_neg (by simpa using c1)]
      by_cases c2 : gi mk p = 2
      · rw [if_pos (by simpa using c2)]
        exact ⟨_, cell_of hd1 0, via h104 ⟨gs, g, s, r, is, ms, mb, a, mk, p, rfl, hS1, hN.sm, hw, hT.mkOk hw hN, hT.head p0 (by omega) (.inr c2), .inr c2, _, rfl, fin (.inr c2)⟩⟩
      · rw [if_neg (by simpa using c2)]
        exact nx fun h => by unfold hdM at h; omega
def s68 : Spec := fun args m Q => ∃ (gs g gb : Nat) (s r is : Sl) (ms : Option Nat) (a : Ar) (mk : List Int) (m0 : Mem), args = [.pointer (some ⟨gs, 0, none⟩)] ∧ Svy m0 gs g s r is ms (some gb) a mk ∧ m0 gb = none ∧ Mem.le m0 m ∧ HasS m gb [] ∧ a.wf ∧ NumP a ∧ tileO a = some mk ∧ ∀ M, Mem.le m0 M → Q (.bool (pB (cntP a mk))) M
theorem f68 (t : Tab) (h104 : look t 104 = s104) (h86 : look t 86 = s86) (h105 : look t 105 = s105) (h106 : look t 106 = s106) : ∀ args m Q, s68 args m Q → FA Tryz.prog (look t) kp68 Tryz.f68 args m Q := by
  rintro args m Q ⟨gs, g, gb, s, r, is, ms, a, mk, m0, rfl, hS, hb0, hle, hH, hw, hN, ht, hQ⟩
  rw [e68]
  have hT := tile_ok hw hN ht
  refine newA_intro fun g1 m2 hg1 e2 hb2 hle2 => ?_
  have hbg : gb ≠ g1 := fun e => by obtain ⟨es, cl, L, q1, _⟩ := hH; rw [← e, q1] at hg1; cases hg1
  obtain ⟨m1, hm1⟩ : ∃ m1 : Mem, m1 = fun b => if b = gb then none else m2 b := ⟨_, rfl⟩
  have q1 : m1 gb = none := by rw [hm1]; exact if_pos rfl
  have q2 : ∀ b, b ≠ gb → m1 b = m2 b := fun b hb => by rw [hm1]; exact if_neg hb
  clear hm1
  have l01 : Mem.le m0 m1 := fun b o hb => by
    by_cases e : b = gb
    · rw [e, hb0] at hb; cases hb
    · rw [q2 b e]; exact hle2 _ _ (hle _ _ hb)
  have l12 : Mem.le m1 m2 := fun b o hb => by
    by_cases e : b = gb
    · rw [e, q1] at hb; cases hb
    · rw [← q2 b e]; exact hb
  have hS1 := hS.le l01
  have hk1 : m1 g1 = _ := (q2 g1 hbg.symm).trans hb2
  have hS2 := hS1.le l12
  have bad : ¬ cntP a mk → ∀ M, Mem.le m1 M → ret Q (.bool false) M := fun h M hM => ret_intro (Mem.le_refl _) (pB_no h ▸ hQ M (Mem.le_trans l01 hM))
  refine ⟨_, cell_of hb2 0, po ⟨_, _, _, cell_of hS2.b 1, a.ws.length + 1, ?_⟩⟩
  exact objsI_loop t h104 hw hN ht hS2 hb2 (fun h M hM => bad h M (Mem.le_trans l12 hM)) (fun ho M hM => ⟨a.ws.length + 1, tabsI_loop t h86 h105 h106 hw hN ht hS1 q1 hk1 ho bad (fun h M hM => ret_intro (Mem.le_refl _) (pB_yes h ▸ hQ M (Mem.le_trans l01 hM))) a.ws.length 0 (by omega) [] M Iff.rfl (Mem.le_trans l12 hM) (hH.at fun o h => hM _ _ (hle2 _ _ h))⟩) a.ws.length 0 (by omega) (fun q q0 q1 => by omega) m2 (Mem.le_refl _)
end Go.Proofs.YtpdcjocjkbgddaaGreat.Abs
