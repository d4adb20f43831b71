/- Arenas: objects. -/
import Derived.Test.YtpdcjocjkbgddaaGreatRh
namespace Go.Proofs.YtpdcjocjkbgddaaGreat.Abs
open Go.RowKit
set_option linter.unusedVariables false
set_option linter.unusedSimpArgs false
set_option maxRecDepth 20000
def ruleB (k t : Int) : Bool := !(t == 8 && k != 2) && !(t == 9 && k == 3) && !(t != 9 && k == 4)
def ruleI (k t : Int) : Bool := ruleB k t && !(k == 2 && t != 0 && t != 8)
theorem chainS {k t : Int} {F N : Prop} (no : ruleB k t = false → F) (nx : ruleB k t = true → N) :
    if (t == 8) = true then (if (k != 2) = true then F else if (t == 9) = true then (if (k == 3) = true then F else if (t != 9) = true then (if (k == 4) = true then F else N) else N) else if (t != 9) = true then (if (k == 4) = true then F else N) else N)
    else if (t == 9) = true then (if (k == 3) = true then F else if (t != 9) = true then (if (k == 4) = true then F else N) else N) else if (t != 9) = true then (if (k == 4) = true then F else N) else N := by
  unfold ruleB at no nx
  cases h1 : (t == 8) <;> cases h2 : (t == 9) <;> cases h3 : (k == 2) <;> cases h4 : (k == 3) <;> cases h5 : (k == 4) <;> simp_all
def slotP (a : Ar) (mk : List Int) (p k x : Int) : Prop := valOkB (valW a.ws (p + x)) = true ∧ leadsB a mk (valW a.ws (p + x)) (frmA a mk p) = true ∧ ruleB k (valW a.ws (p + x)).1 = true
def endP (ws : List U64) (p k sz : Int) : Prop := (k = 1 → strP ws p sz) ∧ (k = 4 → gw ws (p + 1) ≤ 255) ∧ (k = 6 → coP ws p)
def objP (a : Ar) (mk : List Int) (p : Int) : Prop := (∀ x ∈ slotsL (lookW a.ws p).1 (lookW a.ws p).2.1, slotP a mk p (lookW a.ws p).1 x) ∧ endP a.ws p (lookW a.ws p).1 (lookW a.ws p).2.1
open Classical in
noncomputable def pB (p : Prop) : Bool := decide p
theorem pB_no {p : Prop} (h : ¬ p) : pB p = false := by unfold pB; simp [h]
theorem pB_yes {p : Prop} (h : p) : pB p = true := by unfold pB; simp [h]
/-- A head that stands at a place, and its object. -/
structure HeadAt (a : Ar) (p : Int) : Prop where
  p0 : 0 ≤ p
  ok : okW (gw a.ws p) = true
  pz : p + (lookW a.ws p).2.1 < a.ws.length
theorem HeadAt.look {a : Ar} {p : Int} (h : HeadAt a p) (hw : a.wf) : lookW a.ws p = hdW (gw a.ws p) ∧ sizeB (lookW a.ws p).1 (lookW a.ws p).2.1 = true ∧ 1 ≤ (lookW a.ws p).2.1 ∧ (lookW a.ws p).2.1 ≤ 65535 := by
  have e : lookW a.ws p = hdW (gw a.ws p) := by unfold lookW readH; rw [h.ok]; rfl
  have r := hdW_range (gw_in hw.w p)
  have k := h.ok
  unfold okW hdOk at k
  simp only [Bool.and_eq_true] at k
  rw [e]
  refine ⟨rfl, k.1, ?_, ?_⟩
  · have k1 := k.1
    show 1 ≤ gw a.ws p / 16 % 65536
    unfold sizeB at k1
    repeat' split at k1
    all_goals first | omega | (simp only [decide_eq_true_eq] at k1; omega) | (simp at k1; done)
  · show gw a.ws p / 16 % 65536 ≤ 65535
    omega
theorem loopO (t : Tab) (h94 : look t 94 = s94) (h59 : look t 59 = s59) (h95 : look t 95 = s95) (h96 : look t 96 = s96) (h71 : look t 71 = s71) (h44 : look t 44 = s44) {Q : Value → Mem → Prop} {s r mkS sl : Sl} {a : Ar} {mk : List Int} {p k sz z : Int} {g gh : Nat} {m : Mem}
    (hw : a.wf) (hO : MkOk a mk) (hmn : mkS.n = mk.length) (p0 : 0 ≤ p) (hk : sizeB k sz = true) (z1 : 1 ≤ sz ∧ sz ≤ 65535) (pz : p + sz < a.ws.length) (hsl : sl.n = (slotsL k sz).length)
    (no : ∀ M, Mem.le m M → ¬ ((∀ x ∈ slotsL k sz, slotP a mk p k x) ∧ endP a.ws p k sz) → ret Q (.bool false) M) (yes : ∀ M, Mem.le m M → ((∀ x ∈ slotsL k sz, slotP a mk p k x) ∧ endP a.ws p k sz) → ret Q (.bool true) M) :
    ∀ (d i : Nat), i + d = (slotsL k sz).length → (∀ (j : Nat) (x : Int), j < i → (slotsL k sz)[j]? = some x → slotP a mk p k x) → ∀ M : Mem, Mem.le m M → Ptr M g s r a → M gh = some (.cells #[.int .i64 k, .int .i64 sz, .int .i64 z] 72 (0, 0)) → ArAt M s r a → Rd M mkS.a mk → Rd M sl.a (slotsL k sz) →
      L55_9 (look t) (d + 1) Q mkS.a mkS.n mkS.c p g gh (frmA a mk p) sl.a sl.n sl.c (i : Int) M := by
  intro d
  induction d with
  | zero =>
    intro i hi hz M hle hb1 hH hA hM hL
    have hall : ∀ x ∈ slotsL k sz, slotP a mk p k x := by
      intro x hx
      obtain ⟨j, hj, e⟩ := List.getElem_of_mem hx
      exact hz j x (by omega) (by rw [List.getElem?_eq_getElem hj, e])
    rw [l55_9]
    refine ⟨M, Mem.le_refl _, ?_⟩
    rw [if_neg (by simp; omega)]
    refine ⟨_, cell_of hH 0, ?_⟩
    by_cases c1 : k = 1
    · subst c1
      rw [if_pos (by decide)]
      refine ⟨_, _, _, cell_of hb1 0, _, cell_of hb1 1, _, cell_of hb1 2, _, cell_of hb1 3, _, cell_of hb1 4, _, cell_of hb1 5, _, cell_of hb1 6, _, cell_of hb1 7, _, cell_of hb1 8, _, _, _, cell_of hb1 9, _, cell_of hH 1, via h95 ⟨s, r, a, p, sz, rfl, hA, hw, p0, z1.1, z1.2, pz, _, rfl, ?_⟩⟩
      by_cases c : strP a.ws p sz
      · rw [decide_eq_true c]; exact yes M hle ⟨hall, fun _ => c, fun h => absurd h (by decide), fun h => absurd h (by decide)⟩
      · rw [decide_eq_false c]; exact no M hle fun h => c (h.2.1 rfl)
    rw [if_neg (by simpa using c1)]
    by_cases c2 : k = 4
    · subst c2
      rw [if_pos (by decide)]
      refine ⟨_, _, _, cell_of hb1 0, _, cell_of hb1 1, _, cell_of hb1 2, _, cell_of hb1 3, _, cell_of hb1 4, _, cell_of hb1 5, _, cell_of hb1 6, _, cell_of hb1 7, _, cell_of hb1 8, _, _, _, cell_of hb1 9, via h71 ⟨s, r, a, p, 1, rfl, hA, hw, p0, by decide, by omega, _, rfl, via h44 ⟨_, _, _, rfl, _, rfl, ?_⟩⟩⟩
      have x1 := wrap_cases (gw_in hw.w (p + 1))
      have y1 := (gw_in hw.w (p + 1)).1
      unfold wordW
      by_cases c : gw a.ws (p + 1) ≤ 255
      · rw [decide_eq_true (by omega)]; exact yes M hle ⟨hall, fun h => absurd h (by decide), fun _ => c, fun h => absurd h (by decide)⟩
      · rw [decide_eq_false (by omega)]; exact no M hle fun h => c (h.2.2.1 rfl)
    rw [if_neg (by simpa using c2)]
    by_cases c3 : k = 6
    · subst c3
      have e126 : sz = 126 := by
        unfold sizeB at hk
        simpa using hk
      subst e126
      rw [if_pos (by decide)]
      have h5 := hall 5 (by decide)
      refine ⟨_, _, _, cell_of hb1 0, _, cell_of hb1 1, _, cell_of hb1 2, _, cell_of hb1 3, _, cell_of hb1 4, _, cell_of hb1 5, _, cell_of hb1 6, _, cell_of hb1 7, _, cell_of hb1 8, _, _, _, cell_of hb1 9, via h96 ⟨s, r, a, p, rfl, hA, hw, p0, pz, h5.1, _, rfl, ?_⟩⟩
      by_cases c : coP a.ws p
      · rw [coB_yes c]; exact yes M hle ⟨hall, fun h => absurd h (by decide), fun h => absurd h (by decide), fun _ => c⟩
      · rw [coB_no c]; exact no M hle fun h => c (h.2.2.2 rfl)
    rw [if_neg (by simpa using c3)]
    exact yes M hle ⟨hall, fun h => absurd h c1, fun h => absurd h c2, fun h => absurd h c3⟩
  | succ d ih =>
    intro i hi hz M hle hP hH hA hM hL
    have hN := hw.n
    have hn := hA.n
    have hil : i < (slotsL k sz).length := by omega
    obtain ⟨x, hx⟩ : ∃ x, x = (slotsL k sz)[i] := ⟨_, rfl⟩
    have hxm : x ∈ slotsL k sz := by rw [hx]; exact List.getElem_mem _
    have hx1 : gi (slotsL k sz) (i : Int) = x := by unfold gi; rw [List.getD_eq_getElem?_getD, Int.toNat_natCast, List.getElem?_eq_getElem hil, hx]; rfl
    have hxr := slots_in hk hxm
    have len : (slotsL k sz).length ≤ 65536 := by
      unfold slotsL
      rw [everyK_len]
      unfold numK fromK
      repeat' split
      all_goals omega
    rw [l55_9]
    refine ⟨M, Mem.le_refl _, ?_⟩
    rw [if_pos (by simp; omega)]
    refine ⟨Mem.le M, Mem.le_refl _, _, _, _, held (cell_of hP 0), ri hL hsl.symm (by omega) (by omega) fun ad had hd => ⟨_, hd, ?_⟩⟩
    rw [hx1, w64 (x := p + x) (by omega) (by omega), wsucc (n := 65536) (by omega) (by decide)]
    have next : slotP a mk p k x → ∀ M', Mem.le M M' → L55_9 (look t) (d + 1) Q mkS.a mkS.n mkS.c p g gh (frmA a mk p) sl.a sl.n sl.c ((i + 1 : Nat) : Int) M' := by
      intro hs M' hM'
      refine ih (i + 1) (by omega) (fun j y hj hy => ?_) M' (Mem.le_trans hle hM') (hM' _ _ hP) (hM' _ _ hH) (hA.le hM') (hM.le hM') (hL.le hM')
      by_cases e : j = i
      · rw [e, List.getElem?_eq_getElem hil, ← hx] at hy
        injection hy with hy
        exact hy ▸ hs
      · exact hz j y (by omega) hy
    have bad : ∀ M', Mem.le M M' → ¬ slotP a mk p k x → ret Q (.bool false) M' := fun M' hM' h => no M' (Mem.le_trans hle hM') fun hh => h (hh.1 x hxm)
    refine ⟨via h94 ⟨s, a.ws, _, rfl, hn, hA.w, hw.w, hN, by omega, by omega, _, _, _, rfl, Mem.le_refl _, newA_intro fun g9 m7 hg9 e7 hb9 hle7 => ⟨hle7, sto (c := #[.int .i64 0, .int .i64 0]) (t := 58) hb9 rfl (by simp) fun m98 e8 hvv hne8 => ⟨le_other hle7 hg9 hne8, ?_⟩⟩⟩,
      newA_intro fun g9 m7 hg9 e7 hb9 hle7 => ⟨hle7, via h94 ⟨s, a.ws, _, rfl, hn, hA.w.le hle7, hw.w, hN, by omega, by omega, _, _, _, rfl, hle7, sto (c := #[.int .i64 0, .int .i64 0]) (t := 58) hb9 rfl (by simp) fun m98 e8 hvv hne8 => ⟨le_other hle7 hg9 hne8, ?_⟩⟩⟩⟩
    all_goals
      have hvv : m98 g9 = some (.cells #[.int .i64 (readV a.ws (p + x)).1.1, .int .i64 (readV a.ws (p + x)).1.2] 58 (0, 0)) := hvv
      have l98 : Mem.le M m98 := le_other hle7 hg9 hne8
      cases hv : valOkB (valW a.ws (p + x)) with
      | false =>
        have er : readV a.ws (p + x) = ((0, 0), false) := by unfold readV; rw [hv]; rfl
        rw [er, if_pos (by decide)]
        exact bad _ l98 fun h => by have := h.1; rw [hv] at this; cases this
      | true =>
        have er : readV a.ws (p + x) = (valW a.ws (p + x), true) := by unfold readV; rw [hv]; rfl
        rw [er] at hvv
        rw [er, if_neg (by simp)]
        have hb1 := l98 _ _ hP
        refine ⟨_, _, _, cell_of hb1 0, _, cell_of hb1 1, _, cell_of hb1 2, _, cell_of hb1 3, _, cell_of hb1 4, _, cell_of hb1 5, _, cell_of hb1 6, _, cell_of hb1 7, _, cell_of hb1 8, _, _, _, cell_of hb1 9, _, cell_of hvv 0, _, cell_of hvv 1, via h59 ⟨s, r, mkS, a, mk, valW a.ws (p + x), _, rfl, hA.le l98, hw, hmn, hM.le l98, hO, hv, _, rfl, ?_⟩⟩
        cases hl : leadsB a mk (valW a.ws (p + x)) (frmA a mk p) with
        | false => rw [if_pos (by decide)]; exact bad _ l98 fun h => by have := h.2.1; rw [hl] at this; cases this
        | true =>
          rw [if_neg (by decide)]
          have hh := l98 _ _ hH
          simp only [cell_of hvv, cell_of hh, exists_and_left, exists_eq_left', List.getElem?_toArray, List.getElem?_cons_zero, List.getElem?_cons_succ, Option.some.injEq, Value.slice.injEq, Value.int.injEq, Value.bool.injEq, Value.string.injEq, Value.agg.injEq, Value.tuple.injEq, Value.pointer.injEq, List.cons.injEq, Array.mk.injEq, and_assoc, true_and, and_true, exists_eq_left]
          exact chainS (fun hr => bad _ l98 fun h => by rw [h.2.2] at hr; cases hr) (fun hr => next ⟨hv, hl, hr⟩ _ l98)
def s55 : Spec := fun args m Q => ∃ (s r mkS : Sl) (a : Ar) (mk : List Int) (p : Int), args = [vA s r a, vs mkS, .int .i64 p] ∧ ArAt m s r a ∧ a.wf ∧ mkS.n = mk.length ∧ Rd m mkS.a mk ∧ MkOk a mk ∧ HeadAt a p ∧ (gi mk p = 1 ∨ gi mk p = 2) ∧ Q (.bool (pB (objP a mk p))) m
theorem f55 (t : Tab) (h94 : look t 94 = s94) (h59 : look t 59 = s59) (h95 : look t 95 = s95) (h96 : look t 96 = s96) (h71 : look t 71 = s71) (h44 : look t 44 = s44) (h56 : look t 56 = s56) (h93 : look t 93 = s93) : ∀ args m Q, s55 args m Q → FA Tryz.prog (look t) kp55 Tryz.f55 args m Q := by
  rintro args m Q ⟨s, r, mkS, a, mk, p, rfl, hA, hw, hmn, hM, hO, hH, hg, hQ⟩
  show FA Tryz.prog (look t) kp55 Tryz.f55 [.agg #[.slice s.a s.n s.c, .int .i64 a.semi, .int .i64 a.to, .int .i64 a.top, .bool a.cyc, .int .i64 a.scan, .int .i64 a.old, .int .i64 a.cop, .int .i64 a.ser, .slice r.a r.n r.c], .slice mkS.a mkS.n mkS.c, .int .i64 p] m Q
  rw [e55]
  obtain ⟨lk, sz, z0, z1⟩ := hH.look hw
  have p0 := hH.p0
  have pz := hH.pz
  have hnn := hO.n
  unfold objP at hQ
  refine newA_intro fun g1 m2 hg1 e2 hb1 hle2 => ⟨_, _, _, cell_of hb1 0, _, cell_of hb1 1, _, cell_of hb1 2, _, cell_of hb1 3, _, cell_of hb1 4, _, cell_of hb1 5, _, cell_of hb1 6, _, cell_of hb1 7, _, cell_of hb1 8, _, _, _, cell_of hb1 9, via h56 ⟨s, r, a, p, rfl, ⟨hA.le hle2, hw, p0, by omega⟩, ?_⟩⟩
  generalize hh : lookW a.ws p = h at *
  obtain ⟨k, z, ser⟩ := h
  have z0 : 1 ≤ z := z0
  have z1 : z ≤ 65535 := z1
  have sz : sizeB k z = true := sz
  have pz : p + z < a.ws.length := pz
  refine ⟨_, _, _, rfl, newA_intro fun g3 m4 hg3 e4 hb3 hle4 => sto (c := #[.int .i64 0, .int .i64 0, .int .i64 0]) (t := 72) hb3 rfl (by simp) fun m5 e5 h5 hne5 => ?_⟩
  have h5 : m5 g3 = some (.cells #[.int .i64 k, .int .i64 z, .int .i64 ser] 72 (0, 0)) := h5
  have l25 : Mem.le m2 m5 := le_other hle4 hg3 hne5
  have l5 : Mem.le m m5 := Mem.le_trans hle2 l25
  have no : ∀ M, Mem.le m5 M → ¬ ((∀ x ∈ slotsL k z, slotP a mk p k x) ∧ endP a.ws p k z) → ret Q (.bool false) M := fun M hM h => ret_intro (Mem.le_trans l5 hM) (pB_no h ▸ hQ)
  have yes : ∀ M, Mem.le m5 M → ((∀ x ∈ slotsL k z, slotP a mk p k x) ∧ endP a.ws p k z) → ret Q (.bool true) M := fun M hM h => ret_intro (Mem.le_trans l5 hM) (pB_yes h ▸ hQ)
  have main : ∀ f : Int, f = frmA a mk p → look t 93 [.int .i64 k, .int .i64 z] m5 fun v42 m43 => (∃ (ra44 : Option Addr) (rn45 rc46 : Nat), (v42 = .slice ra44 rn45 rc46 ∧ (∃ k47 : Nat, L55_9 (look t) k47 Q mkS.a mkS.n mkS.c p g1 g3 f ra44 rn45 rc46 (0 : Int) m43))) := by
    rintro f rfl
    refine via h93 ⟨k, z, rfl, by omega, z1, sz, fun sl M D hle hOw hD => ⟨_, _, _, rfl, (slotsL k z).length + 1, ?_⟩⟩
    exact loopO t h94 h59 h95 h96 h71 h44 (s := s) (r := r) (mkS := mkS) (sl := sl) (z := ser) hw hO hmn p0 sz ⟨z0, z1⟩ pz hOw.1 no yes (slotsL k z).length 0 (by omega) (fun j x hj => by omega) M hle (hle _ _ (l25 _ _ hb1)) (hle _ _ h5) (hA.le (Mem.le_trans l5 hle)) (hM.le (Mem.le_trans l5 hle)) hOw.rd
  have hf : frmA a mk p = if gi mk p = 1 then if a.cyc = true ∧ a.scan ≤ p then 2 else 1 else 3 := by unfold frmA; rw [if_neg (by omega)]
  refine ri (hM.le l5) hmn.symm p0 (by omega) fun ad had hd => ⟨_, hd _ (Mem.le_refl _), ?_⟩
  have hb1 := l25 _ _ hb1
  rcases hg with hg | hg
  · rw [hg, if_neg (by decide)]
    rw [hg, if_pos rfl] at hf
    refine ⟨_, cell_of hb1 4, ?_⟩
    by_cases hc : a.cyc = true
    · rw [if_pos hc]
      refine ⟨_, cell_of hb1 5, ?_⟩
      by_cases hs : a.scan ≤ p
      · rw [if_pos (by simpa using hs)]
        exact ⟨_, cell_of h5 0, _, cell_of h5 1, main 2 (by rw [hf, if_pos ⟨hc, hs⟩])⟩
      · rw [if_neg (by simpa using hs)]
        exact ⟨_, cell_of h5 0, _, cell_of h5 1, main 1 (by rw [hf, if_neg fun h => hs h.2])⟩
    · rw [if_neg hc]
      exact ⟨_, cell_of h5 0, _, cell_of h5 1, main 1 (by rw [hf, if_neg fun h => hc h.1])⟩
  · rw [hg, if_pos (by decide)]
    rw [hg, if_neg (by decide)] at hf
    exact ⟨_, cell_of h5 0, _, cell_of h5 1, main 3 hf.symm⟩
def ch4 (k t : Int) (F N : Prop) : Prop := if (k == 4) = true then (if (t != 9) = true then F else N) else N
def ch3 (k t : Int) (F N : Prop) : Prop := if (k == 3) = true then (if (t == 9) = true then F else ch4 k t F N) else ch4 k t F N
def ch2 (k t : Int) (F N : Prop) : Prop := if (k == 2) = true then (if (t != 0) = true then (if (t != 8) = true then F else ch3 k t F N) else ch3 k t F N) else ch3 k t F N
def ch1 (k t : Int) (F N : Prop) : Prop := if (t == 8) = true then (if (k != 2) = true then F else ch2 k t F N) else ch2 k t F N
theorem chainI {k t : Int} {F N : Prop} (no : ruleI k t = false → F) (nx : ruleI k t = true → N) : ch1 k t F N := by
  unfold ruleI ruleB at no nx
  unfold ch1 ch2 ch3 ch4
  cases h1 : (t == 8) <;> cases h2 : (t == 9) <;> cases h0 : (t == 0) <;> cases h3 : (k == 2) <;> cases h4 : (k == 3) <;> cases h5 : (k == 4) <;> simp_all
def slotQ (a : Ar) (mk : List Int) (p k x : Int) : Prop := valOkB (valW a.ws (p + x)) = true ∧ leadsB a mk (valW a.ws (p + x)) (frmA a mk p) = true ∧ ruleI k (valW a.ws (p + x)).1 = true
def objQ (a : Ar) (mk : List Int) (p : Int) : Prop := (∀ x ∈ slotsL (lookW a.ws p).1 (lookW a.ws p).2.1, slotQ a mk p (lookW a.ws p).1 x) ∧ endP a.ws p (lookW a.ws p).1 (lookW a.ws p).2.1
theorem loopP (t : Tab) (h132 : look t 132 = s132) (h109 : look t 109 = s109) (h133 : look t 133 = s133) (h134 : look t 134 = s134) {Q : Value → Mem → Prop} {s r is sl : Sl} {ms mb : Option Nat} {a : Ar} {mk : List Int} {p k sz z : Int} {gs g gh : Nat} {m : Mem}
    (hw : a.wf) (hsm : a.sm) (hO : MkOk a mk) (hat : 0 ≤ p ∧ p < mk.length ∧ (gi mk p = 1 ∨ gi mk p = 2)) (p0 : 0 ≤ p) (hk : sizeB k sz = true) (z1 : 1 ≤ sz ∧ sz ≤ 65535) (pz : p + sz < a.ws.length) (hsl : sl.n = (slotsL k sz).length)
    (no : ∀ M, Mem.le m M → ¬ ((∀ x ∈ slotsL k sz, slotQ a mk p k x) ∧ endP a.ws p k sz) → ret Q (.bool false) M) (yes : ∀ M, Mem.le m M → ((∀ x ∈ slotsL k sz, slotQ a mk p k x) ∧ endP a.ws p k sz) → ret Q (.bool true) M) :
    ∀ (d i : Nat), i + d = (slotsL k sz).length → (∀ (j : Nat) (x : Int), j < i → (slotsL k sz)[j]? = some x → slotQ a mk p k x) → ∀ M : Mem, Mem.le m M → Svy M gs g s r is ms mb a mk → M gh = some (.cells #[.int .i64 k, .int .i64 sz, .int .i64 z] 72 (0, 0)) → Rd M sl.a (slotsL k sz) →
      L104_3 (look t) (d + 1) Q gs p gh sl.a sl.n sl.c (sl.n : Int) (i : Int) M := by
  intro d
  induction d with
  | zero =>
    intro i hi hz M hle hS hH hL
    have hn := hS.a.n
    have hN := hw.n
    have hall : ∀ x ∈ slotsL k sz, slotQ a mk p k x := by
      intro x hx
      obtain ⟨j, hj, e⟩ := List.getElem_of_mem hx
      exact hz j x (by omega) (by rw [List.getElem?_eq_getElem hj, e])
    rw [l104_3]
    refine ⟨M, Mem.le_refl _, ?_⟩
    rw [if_neg (by simp; omega)]
    refine ⟨_, cell_of hH 0, ?_⟩
    by_cases c1 : k = 1
    · subst c1
      rw [if_pos (by decide)]
      refine ⟨_, cell_of hH 1, via h133 ⟨gs, g, s, r, is, ms, mb, a, mk, p, sz, rfl, hS, hw, p0, z1.1, z1.2, pz, _, rfl, ?_⟩⟩
      by_cases c : strP a.ws p sz
      · rw [decide_eq_true c]; exact yes M hle ⟨hall, fun _ => c, fun h => absurd h (by decide), fun h => absurd h (by decide)⟩
      · rw [decide_eq_false c]; exact no M hle fun h => c (h.2.1 rfl)
    rw [if_neg (by simpa using c1)]
    by_cases c2 : k = 4
    · subst c2
      rw [if_pos (by decide), w64 (x := p + 1) (by omega) (by omega)]
      refine ⟨_, cell_of hS.b 0, po ⟨_, _, _, cell_of hS.p 0, wd hS.a.w hn (by omega) (by omega) fun ad had hd => ⟨_, hd _ (Mem.le_refl _), ?_⟩⟩⟩
      by_cases c : gw a.ws (p + 1) ≤ 255
      · rw [decide_eq_true (by omega)]; exact yes M hle ⟨hall, fun h => absurd h (by decide), fun _ => c, fun h => absurd h (by decide)⟩
      · rw [decide_eq_false (by omega)]; exact no M hle fun h => c (h.2.2.1 rfl)
    rw [if_neg (by simpa using c2)]
    by_cases c3 : k = 6
    · subst c3
      have e126 : sz = 126 := by
        unfold sizeB at hk
        simpa using hk
      subst e126
      rw [if_pos (by decide)]
      refine ⟨_, cell_of hH 1, via h134 ⟨gs, g, s, r, is, ms, mb, a, mk, p, rfl, hS, hw, p0, pz, fun i hi => (hall _ ?_).1, _, rfl, ?_⟩⟩
      · rw [slots6]
        unfold everyK
        exact List.mem_map.2 ⟨i, List.mem_range.2 hi, rfl⟩
      by_cases c : coP a.ws p
      · rw [coB_yes c]; exact yes M hle ⟨hall, fun h => absurd h (by decide), fun h => absurd h (by decide), fun _ => c⟩
      · rw [coB_no c]; exact no M hle fun h => c (h.2.2.2 rfl)
    rw [if_neg (by simpa using c3)]
    exact yes M hle ⟨hall, fun h => absurd h c1, fun h => absurd h c2, fun h => absurd h c3⟩
  | succ d ih =>
    intro i hi hz M hle hS hH hL
    have hN := hw.n
    have hn := hS.a.n
    have hil : i < (slotsL k sz).length := by omega
    obtain ⟨x, hx⟩ : ∃ x, x = (slotsL k sz)[i] := ⟨_, rfl⟩
    have hxm : x ∈ slotsL k sz := by rw [hx]; exact List.getElem_mem _
    have hx1 : gi (slotsL k sz) (i : Int) = x := by unfold gi; rw [List.getD_eq_getElem?_getD, Int.toNat_natCast, List.getElem?_eq_getElem hil, hx]; rfl
    have hxr := slots_in hk hxm
    have len : (slotsL k sz).length ≤ 65536 := by
      unfold slotsL
      rw [everyK_len]
      unfold numK fromK
      repeat' split
      all_goals omega
    rw [l104_3]
    refine ⟨M, Mem.le_refl _, ?_⟩
    rw [if_pos (by simp; omega)]
    refine ri hL hsl.symm (by omega) (by omega) fun ad had hd => ⟨_, hd _ (Mem.le_refl _), _, cell_of hS.b 0, po ⟨_, _, _, cell_of hS.p 0, ?_⟩⟩
    rw [hx1, w64 (x := p + x) (by omega) (by omega), wsucc (n := 65536) (by omega) (by decide)]
    have next : slotQ a mk p k x → ∀ M', Mem.le M M' → L104_3 (look t) (d + 1) Q gs p gh sl.a sl.n sl.c (sl.n : Int) ((i + 1 : Nat) : Int) M' := by
      intro hs M' hM'
      refine ih (i + 1) (by omega) (fun j y hj hy => ?_) M' (Mem.le_trans hle hM') (hS.le hM') (hM' _ _ hH) (hL.le hM')
      by_cases e : j = i
      · rw [e, List.getElem?_eq_getElem hil, ← hx] at hy
        injection hy with hy
        exact hy ▸ hs
      · exact hz j y (by omega) hy
    have bad : ∀ M', Mem.le M M' → ¬ slotQ a mk p k x → ret Q (.bool false) M' := fun M' hM' h => no M' (Mem.le_trans hle hM') fun hh => h (hh.1 x hxm)
    refine via h132 ⟨s, a.ws, _, rfl, hn, hS.a.w, hw.w, hN, by omega, by omega, _, _, _, rfl, newA_intro fun g9 m7 hg9 e7 hb9 hle7 => sto (c := #[.int .i64 0, .int .i64 0]) (t := 58) hb9 rfl (by simp) fun m98 e8 hvv hne8 => ?_⟩
    have hvv : m98 g9 = some (.cells #[.int .i64 (readV a.ws (p + x)).1.1, .int .i64 (readV a.ws (p + x)).1.2] 58 (0, 0)) := hvv
    have l98 : Mem.le M m98 := le_other hle7 hg9 hne8
    cases hv : valOkB (valW a.ws (p + x)) with
    | false =>
      have er : readV a.ws (p + x) = ((0, 0), false) := by unfold readV; rw [hv]; rfl
      rw [er, if_pos (by decide)]
      exact bad _ l98 fun h => by have := h.1; rw [hv] at this; cases this
    | true =>
      have er : readV a.ws (p + x) = (valW a.ws (p + x), true) := by unfold readV; rw [hv]; rfl
      rw [er] at hvv
      rw [er, if_neg (by simp)]
      refine ⟨_, cell_of hvv 0, _, cell_of hvv 1, via h109 ⟨gs, g, s, r, is, ms, mb, a, mk, valW a.ws (p + x), p, rfl, hS.le l98, hsm, hw, hO, hv, .inr hat, _, rfl, ?_⟩⟩
      cases hl : leadsB a mk (valW a.ws (p + x)) (frmA a mk p) with
      | false => rw [if_pos (by decide)]; exact bad _ l98 fun h => by have := h.2.1; rw [hl] at this; cases this
      | true =>
        rw [if_neg (by decide)]
        have hh := l98 _ _ hH
        simp only [cell_of hvv, cell_of hh, exists_and_left, exists_eq_left', List.getElem?_toArray, List.getElem?_cons_zero, List.getElem?_cons_succ, Option.some.injEq, Value.slice.injEq, Value.int.injEq, Value.bool.injEq, Value.string.injEq, Value.agg.injEq, Value.tuple.injEq, Value.pointer.injEq, List.cons.injEq, Array.mk.injEq, and_assoc, true_and, and_true, exists_eq_left]
        exact chainI (fun hr => bad _ l98 fun h => by rw [h.2.2] at hr; cases hr) (fun hr => next ⟨hv, hl, hr⟩ _ l98)
def s104 : Spec := fun args m Q => ∃ (gs g : Nat) (s r is : Sl) (ms mb : Option Nat) (a : Ar) (mk : List Int) (p : Int), args = [.pointer (some ⟨gs, 0, none⟩), .int .i64 p] ∧ Svy m gs g s r is ms mb a mk ∧ a.sm ∧ a.wf ∧ MkOk a mk ∧ HeadAt a p ∧ (gi mk p = 1 ∨ gi mk p = 2) ∧ Q (.bool (pB (objQ a mk p))) m
theorem f104 (t : Tab) (h132 : look t 132 = s132) (h109 : look t 109 = s109) (h133 : look t 133 = s133) (h134 : look t 134 = s134) (h86 : look t 86 = s86) (h131 : look t 131 = s131) : ∀ args m Q, s104 args m Q → FA Tryz.prog (look t) kp104 Tryz.f104 args m Q := by
  rintro args m Q ⟨gs, g, s, r, is, ms, mb, a, mk, p, rfl, hS, hsm, hw, hO, hH, hg, hQ⟩
  rw [e104]
  obtain ⟨lk, sz, z0, z1⟩ := hH.look hw
  have p0 := hH.p0
  have pz := hH.pz
  have hnn := hO.n
  unfold objQ at hQ
  refine ⟨_, cell_of hS.b 0, via h86 ⟨g, s, r, a, p, rfl, ⟨hS.p, hS.a, hw, p0, by omega⟩, ?_⟩⟩
  generalize hh : lookW a.ws p = h at *
  obtain ⟨k, z, ser⟩ := h
  have z0 : 1 ≤ z := z0
  have z1 : z ≤ 65535 := z1
  have sz : sizeB k z = true := sz
  have pz : p + z < a.ws.length := pz
  refine ⟨_, _, _, rfl, newA_intro fun g3 m4 hg3 e4 hb3 hle4 => sto (c := #[.int .i64 0, .int .i64 0, .int .i64 0]) (t := 72) hb3 rfl (by simp) fun m5 e5 h5 hne5 => ?_⟩
  have h5 : m5 g3 = some (.cells #[.int .i64 k, .int .i64 z, .int .i64 ser] 72 (0, 0)) := h5
  have l5 : Mem.le m m5 := le_other hle4 hg3 hne5
  have no : ∀ M, Mem.le m5 M → ¬ ((∀ x ∈ slotsL k z, slotQ a mk p k x) ∧ endP a.ws p k z) → ret Q (.bool false) M := fun M hM h => ret_intro (Mem.le_trans l5 hM) (pB_no h ▸ hQ)
  have yes : ∀ M, Mem.le m5 M → ((∀ x ∈ slotsL k z, slotQ a mk p k x) ∧ endP a.ws p k z) → ret Q (.bool true) M := fun M hM h => ret_intro (Mem.le_trans l5 hM) (pB_yes h ▸ hQ)
  refine ⟨_, cell_of h5 0, _, cell_of h5 1, via h131 ⟨k, z, rfl, by omega, z1, sz, fun sl M D hle hOw hD => ⟨_, _, _, rfl, (slotsL k z).length + 1, ?_⟩⟩⟩
  exact loopP t h132 h109 h133 h134 (sl := sl) (z := ser) hw hsm hO ⟨p0, by omega, hg⟩ p0 sz ⟨z0, z1⟩ pz hOw.1 no yes (slotsL k z).length 0 (by omega) (fun j x hj => by omega) M hle (hS.le (Mem.le_trans l5 hle)) (hle _ _ h5) hOw.rd
end Go.Proofs.YtpdcjocjkbgddaaGreat.Abs
