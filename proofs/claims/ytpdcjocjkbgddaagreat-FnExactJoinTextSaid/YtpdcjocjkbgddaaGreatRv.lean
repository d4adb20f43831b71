/- Arenas: the program goes over a half. -/
import Derived.Test.YtpdcjocjkbgddaaGreatRu
namespace Go.Proofs.YtpdcjocjkbgddaaGreat.Abs
open Go.RowKit
set_option linter.unusedVariables false
set_option linter.unusedSimpArgs false
set_option maxRecDepth 20000
theorem map_get {M : Mem} {gm : Nat} {had : List Int} {x : Int} {K : Bool → Prop} (h : HasS M gm had) (hK : K (decide (x ∈ had))) :
    ∃ (mr : Nat) (es : Array MapEntry) (cl : Nat) (ML : List (Int × Value)), (some gm : Option Nat) = some mr ∧ M mr = some (.map es cl) ∧ MapIs .i64 es ML ∧ (∃ b : Bool, Option.getD (getM ML x) (.bool false) = .bool b ∧ K b) := by
  obtain ⟨es, cl, L, h1, h2, h3⟩ := h
  exact ⟨gm, es, cl, L, rfl, h1, h2, _, h3 x, hK⟩
theorem map_put {M : Mem} {gm : Nat} {had : List Int} {x : Int} {K : Mem → Prop} (h : HasS M gm had) (hK : ∀ M' : Mem, HasS M' gm (x :: had) → (∀ b, b ≠ gm → M' b = M b) → K M') :
    ∃ (mr : Nat) (es : Array MapEntry) (cl : Nat) (ML : List (Int × Value)), (some gm : Option Nat) = some mr ∧ M mr = some (.map es cl) ∧ MapIs .i64 es ML ∧ ∀ (es' : Array MapEntry) (cl' : Nat), MapIs .i64 es' (putM ML x (.bool true)) → K (M.upd mr (.map es' cl')) := by
  obtain ⟨es, cl, L, h1, h2, h3⟩ := h
  exact ⟨gm, es, cl, L, rfl, h1, h2, fun es' cl' hm => hK _ ⟨es', cl', _, upd_same _ _ _, hm, hasS_put h3 x⟩ fun b hb => upd_ne hb⟩
theorem hasS_nil {M : Mem} {gm : Nat} (h : M gm = some (.map #[] 0)) : HasS M gm [] := ⟨#[], 0, [], h, rfl, fun i => rfl⟩
def rowM (mk : List Int) (tl : TypeId) : Obj := .cells (flat Enc.e (u8s mk) ++ []).toArray tl (0, 0)
theorem u8s_set (mk : List Int) (p k : Int) : (u8s mk).set p.toNat ⟨k⟩ = u8s (setI mk p k) := by unfold u8s setI; rw [List.map_set]
theorem u8s_len (mk : List Int) : (u8s mk).length = mk.length := by unfold u8s; rw [List.length_map]
theorem set_markM {m : Mem} {gl : Nat} {tl : TypeId} {mk : List Int} {p k : Int} {n : Nat} {K : Mem → Prop} (h : m gl = some (rowM mk tl)) (p0 : 0 ≤ p) (p1 : p < mk.length) (hn : mk.length = n) (hK : ∀ M : Mem, M gl = some (rowM (setI mk p k) tl) → (∀ b, b ≠ gl → M b = m b) → K M) :
    optA (some (⟨gl, 0, none⟩ : Addr)) fun (ad : Addr) => 0 ≤ p ∧ p < (n : Int) ∧ stoA m (ad.add (p.toNat * 1)) [.int .u8 k] K :=
  po ⟨p0, by omega, sto_elem (x := (⟨k⟩ : U8)) (i := p.toNat) h (by rw [add_eq rfl, Nat.zero_add]; rfl) (by rw [u8s_len]; omega) (hK _ (by rw [upd_same, u8s_set]; rfl) fun b hb => upd_ne hb)⟩
/-- The serials had are those of the heads that are marked. -/
def HadR (a : Ar) (mk had : List Int) : Prop := ∀ x, x ∈ had ↔ ∃ q : Int, 0 ≤ q ∧ q < mk.length ∧ hdM mk q ∧ serW a.ws q = x
theorem HadR.put {a : Ar} {mk had : List Int} (h : HadR a mk had) {p k : Int} (p0 : 0 ≤ p) (p1 : p < mk.length) (hz : gi mk p = 0) (hk : k = 1 ∨ k = 2) : HadR a (setI mk p k) (serW a.ws p :: had) := by
  intro x
  rw [List.mem_cons, h x, setI_len]
  constructor
  · rintro (rfl | ⟨q, q0, q1, q2, q3⟩)
    · exact ⟨p, p0, p1, by unfold hdM; rw [gi_set p0 p1 p0, if_pos rfl]; exact hk, rfl⟩
    · refine ⟨q, q0, q1, ?_, q3⟩
      unfold hdM at q2 ⊢
      rw [gi_set p0 p1 q0, if_neg (by rintro rfl; omega)]
      exact q2
  · rintro ⟨q, q0, q1, q2, q3⟩
    by_cases e : q = p
    · left; rw [← q3, e]
    · right
      refine ⟨q, q0, q1, ?_, q3⟩
      unfold hdM at q2 ⊢
      rw [gi_set p0 p1 q0, if_neg e] at q2
      exact q2
theorem hdM_3 {mk : List Int} {p q : Int} (p0 : 0 ≤ p) (p1 : p < mk.length) (hz : gi mk p = 0) (q0 : 0 ≤ q) : hdM (setI mk p 3) q ↔ hdM mk q := by
  unfold hdM
  rw [gi_set p0 p1 q0]
  by_cases e : q = p
  · rw [if_pos e, e]; omega
  · rw [if_neg e]
theorem HadR.gone {a : Ar} {mk had : List Int} (h : HadR a mk had) {p : Int} (p0 : 0 ≤ p) (p1 : p < mk.length) (hz : gi mk p = 0) : HadR a (setI mk p 3) had := by
  intro x
  rw [h x, setI_len]
  constructor
  · rintro ⟨q, q0, q1, q2, q3⟩; exact ⟨q, q0, q1, (hdM_3 p0 p1 hz q0).2 q2, q3⟩
  · rintro ⟨q, q0, q1, q2, q3⟩; exact ⟨q, q0, q1, (hdM_3 p0 p1 hz q0).1 q2, q3⟩
theorem serR_gone {a : Ar} {mk : List Int} (h : serR a mk) {p : Int} (p0 : 0 ≤ p) (p1 : p < mk.length) (hz : gi mk p = 0) : serR a (setI mk p 3) := by
  intro x y x0 xy y1 hx hy hs
  rw [setI_len] at y1
  exact h x y x0 xy y1 ((hdM_3 p0 p1 hz x0).1 hx) ((hdM_3 p0 p1 hz (by omega)).1 hy) hs
theorem serR_put {a : Ar} {mk had : List Int} (h : serR a mk) (hH : HadR a mk had) {p k : Int} (p0 : 0 ≤ p) (p1 : p < mk.length) (hz : gi mk p = 0) (hn : serW a.ws p = 0 ∨ serW a.ws p ∉ had) : serR a (setI mk p k) := by
  intro x y x0 xy y1 hx hy hs e
  rw [setI_len] at y1
  unfold hdM at hx hy
  rw [gi_set p0 p1 x0] at hx
  rw [gi_set p0 p1 (by omega)] at hy
  by_cases ex : x = p
  · rw [if_neg (by omega)] at hy
    subst ex
    exact hn.elim hs fun hn => hn ((hH _).2 ⟨y, by omega, y1, hy, e.symm⟩)
  · rw [if_neg ex] at hx
    by_cases ey : y = p
    · subst ey
      exact hn.elim (fun h => hs (e.trans h)) fun hn => hn ((hH _).2 ⟨x, x0, by omega, hx, e⟩)
    · rw [if_neg ey] at hy
      exact h x y x0 xy y1 hx hy hs e
theorem serR_dup {a : Ar} {mk mk2 had : List Int} (hH : HadR a mk had) {p k to_ p' : Int} {s s' : Int} (hA : After a k p' to_ (setI mk p k) mk2 s s') (hp : p < p') (hpt : p < to_) (p0 : 0 ≤ p) (p1 : p < mk.length) (hz : ∀ q, p ≤ q → q < to_ → gi mk q = 0) (hk : k = 1 ∨ k = 2) (h0 : serW a.ws p ≠ 0) (hd : serW a.ws p ∈ had) : ¬ serR a mk2 := by
  intro h
  obtain ⟨q, q0, q1, q2, q3⟩ := (hH _).1 hd
  have hq : q < p ∨ to_ ≤ q := by
    by_cases c : q < p ∨ to_ ≤ q
    · exact c
    · have := hz q (by omega) (by omega)
      unfold hdM at q2
      omega
  have e1 := hA.o p p0 (.inl hp)
  rw [gi_set p0 p1 p0, if_pos rfl] at e1
  have e2 := hA.o q q0 (by omega)
  rw [gi_set p0 p1 q0, if_neg (by omega)] at e2
  have hn := hA.n
  rw [setI_len] at hn
  have d1 : hdM mk2 p := by unfold hdM; rw [e1]; exact hk
  have d2 : hdM mk2 q := by unfold hdM at q2 ⊢; rw [e2]; exact q2
  by_cases c : q < p
  · exact h q p q0 c (by omega) d2 d1 (by rw [q3]; exact h0) q3
  · exact h p q p0 (by omega) (by omega) d1 d2 h0 q3.symm
/-- What stands in memory while a half is gone over. -/
structure StH (m0 M : Mem) (gl gm : Nat) (tl : TypeId) (mk0 mk had : List Int) (frm to_ : Int) : Prop where
  le : Mem.le m0 M
  l : M gl = some (rowM mk tl)
  n : mk.length = mk0.length
  o : ∀ q, 0 ≤ q → q < frm ∨ to_ ≤ q → gi mk q = gi mk0 q
  h : HasS M gm had
theorem heads_loop (t : Tab) (h102 : look t 102 = s102) (h103 : look t 103 = s103) (h86 : look t 86 = s86) {Q : Value → Mem → Prop} {s r : Sl} {a : Ar} {gs g gl gm gc lc : Nat} {mb : Option Nat} {tl : TypeId} {m0 : Mem} {mk0 : List Int} {k frm to_ : Int} (hw : a.wf) (hk : k = 1 ∨ k = 2) (hP : Ptr m0 g s r a) (hA : ArAt m0 s r a)
    (hS : m0 gs = some (.cells #[.pointer (some ⟨g, 0, none⟩), .slice (some ⟨gl, 0, none⟩) a.ws.length lc, .map (some gm), .map mb] 86 (0, 0))) (hg : m0 gl = none) (hgm : m0 gm = none) (hgc : m0 gc = none) (hlm : gl ≠ gm) (hlc : gl ≠ gc) (hmc : gm ≠ gc)
    (hto : to_ ≤ a.ws.length) (hzs : a.ser ≤ 1000000000) (hn0 : mk0.length = a.ws.length)
    {R : Option (List Int × Int)}
    (no : (¬ ∃ mk2 s2, R = some (mk2, s2) ∧ serR a mk2 ∧ (k = 2 → s2 = a.cop)) → ∀ M mk had, StH m0 M gl gm tl mk0 mk had frm to_ → ret Q (.bool false) M)
    (yes : ∀ mk2 s2, R = some (mk2, s2) → serR a mk2 → (k = 2 → s2 = a.cop) → ∀ M had, StH m0 M gl gm tl mk0 mk2 had frm to_ → HadR a mk2 had → ret Q (.bool true) M) :
    ∀ (d : Nat) (p : Int) (mk had led : List Int) (sum : Int) (M : Mem), to_ - p ≤ d → 0 ≤ p → frm ≤ p → p ≤ to_ → 0 ≤ sum → sum ≤ p → wk a to_ k (d + 1) p mk led sum = R → StH m0 M gl gm tl mk0 mk had frm to_ → HasS M gc led → HadR a mk had → serR a mk → (∀ q, p ≤ q → q < to_ → gi mk q = 0) →
      L65_4 (look t) (d + 1) Q gs to_ k sum (some gc) p M := by
  have hn := hA.n
  have hNn := hw.n
  intro d
  have endc : ∀ (d : Nat) (mk had : List Int) (sum : Int) (M : Mem), some (mk, sum) = R → StH m0 M gl gm tl mk0 mk had frm to_ → HadR a mk had → serR a mk → L65_4 (look t) (d + 1) Q gs to_ k sum (some gc) to_ M := by
    intro d mk had sum M hR hT hH hs
    have hP := hT.le _ _ hP
    rw [l65_4]
    refine ⟨M, Mem.le_refl _, ?_⟩
    rw [if_neg (by simp)]
    rcases hk with k1 | k2
    · rw [if_pos (by rw [k1]; decide)]
      exact yes mk sum hR.symm hs (fun h => by omega) M had hT hH
    · rw [if_neg (by rw [k2]; decide)]
      refine ⟨_, cell_of (hT.le _ _ hS) 0, po ⟨_, cell_of hP 7, ?_⟩⟩
      by_cases c : sum = a.cop
      · rw [show (sum == a.cop) = true from by simpa using c]
        exact yes mk sum hR.symm hs (fun _ => c) M had hT hH
      · rw [show (sum == a.cop) = false from by simpa using c]
        refine no ?_ M mk had hT
        rintro ⟨mk2, s2, e, _, e2⟩
        rw [← hR] at e
        cases e
        exact c (e2 k2)
  induction d with
  | zero =>
    intro p mk had led sum M hd p0 pf p1 s0 s1 hR hT hC hH hs hz
    have hp : p = to_ := by omega
    unfold wk at hR
    rw [if_pos hp] at hR
    rw [hp]
    exact endc 0 mk had sum M hR hT hH hs
  | succ d ih =>
    intro p mk had led sum M hd p0 pf p1 s0 s1 hR hT hC hH hs hz
    by_cases hp : p = to_
    · unfold wk at hR
      rw [if_pos hp] at hR
      rw [hp]
      exact endc (d + 1) mk had sum M hR hT hH hs
    unfold wk at hR
    rw [if_neg hp] at hR
    have hle := hT.le
    have hP1 : Ptr M g s r a := hle _ _ hP
    have hA1 := hA.le hle
    have hS1 := hle _ _ hS
    have hmk : mk.length = a.ws.length := hT.n.trans hn0
    have pn : p < mk.length := by omega
    have zp := hz p (Int.le_refl _) (by omega)
    have bp := look_b hw p
    have bad : R = none → ∀ M' mk' had', StH m0 M' gl gm tl mk0 mk' had' frm to_ → ret Q (.bool false) M' := fun h => no (by rintro ⟨mk2, s2, e, _⟩; rw [h] at e; cases e)
    have er : (readH (gw a.ws p)).2 = okW (gw a.ws p) := by unfold readH; split <;> simp_all
    have setO : ∀ x, ∀ q, 0 ≤ q → q < frm ∨ to_ ≤ q → gi (setI mk p x) q = gi mk0 q := fun x q q0 hq => by rw [gi_set p0 pn q0, if_neg (by omega)]; exact hT.o q q0 hq
    rw [l65_4]
    refine ⟨M, Mem.le_refl _, ?_⟩
    rw [if_pos (by simp; omega)]
    refine ⟨_, cell_of hS1 0, po ⟨_, _, _, cell_of hP1 0, wd hA1.w hn p0 (by omega) fun ad had_ hdd => ⟨_, hdd _ (Mem.le_refl _), via h102 ⟨_, rfl, gw_in hw.w p, _, _, rfl, ?_⟩⟩⟩⟩
    have fb := fwd_b (gw a.ws p)
    have ft : (fwd (gw a.ws p)).1 = toW a.ws p := rfl
    rw [ft] at fb ⊢
    cases cf : (fwd (gw a.ws p)).2 with
    | true =>
      have cok : ¬ okW (gw a.ws p) = true := fun h => by rw [ok_fwd (gw_in hw.w p) h] at cf; cases cf
      rw [if_pos rfl]
      rw [if_neg cok] at hR
      by_cases k2 : k = 2
      case neg =>
        rw [if_neg (fun h => k2 h.1)] at hR
        rw [if_neg (by simpa using k2)]
        refine ⟨_, cell_of hS1 0, po ⟨_, _, _, cell_of hP1 0, wd hA1.w hn p0 (by omega) fun ad had_ hdd => ⟨_, hdd _ (Mem.le_refl _), via h103 ⟨_, rfl, gw_in hw.w p, _, _, _, _, rfl, newA_intro fun g2 m2 hg2 e2 hb2 hle2 => sto (c := #[.int .i64 0, .int .i64 0, .int .i64 0]) (t := 72) hb2 rfl (by simp) fun m3 e3 h3 hne3 => ?_⟩⟩⟩⟩
        have l3 : Mem.le M m3 := le_other hle2 hg2 hne3
        rw [er]
        rw [Bool.not_eq_true] at cok
        rw [cok]
        refine ⟨Mem.le m3, Mem.le_refl _, ?_⟩
        rw [if_pos (by decide)]
        exact bad hR.symm m3 mk had ⟨Mem.le_trans hle l3, l3 _ _ hT.l, hT.n, hT.o, hT.h.at fun o h => l3 _ _ h⟩
      rw [if_pos (by simpa using k2)]
      refine ⟨_, _, _, cell_of hS1 1, ?_⟩
      by_cases c3 : toW a.ws p < a.ws.length
      case neg =>
        rw [if_neg (fun h => c3 h.2.2.1)] at hR
        rw [if_pos (by simp; omega)]
        exact bad hR.symm _ _ _ hT
      rw [if_neg (by simp; omega)]
      refine ⟨_, _, _, cell_of hS1 1, ru (Rd.of_block (spare := []) hT.l (by rfl)) hmk fb.1 c3 fun ad had_ hdd => ⟨_, hdd _ (Mem.le_refl _), ?_⟩⟩
      by_cases c4 : gi mk (toW a.ws p) = 1
      case neg =>
        rw [if_neg (fun h => c4 h.2.2.2.1)] at hR
        rw [if_pos (by simpa using c4)]
        exact bad hR.symm _ _ _ hT
      rw [if_neg (by simpa using c4)]
      refine map_get hC ?_
      by_cases c5 : toW a.ws p ∈ led
      · rw [decide_eq_true c5, if_pos rfl]
        rw [if_neg (fun h => h.2.2.2.2.1 c5)] at hR
        exact bad hR.symm _ _ _ hT
      rw [decide_eq_false c5, if_neg (by decide)]
      obtain ⟨es, cl, L, q1, q2, q3⟩ := hC
      refine ⟨gc, es, cl, L, rfl, q1, q2, fun es' cl' hmi => ?_⟩
      have hC3 : HasS (M.upd gc (.map es' cl')) gc (toW a.ws p :: led) := ⟨es', cl', _, upd_same _ _ _, hmi, hasS_put q3 _⟩
      have e3 : ∀ b, b ≠ gc → (M.upd gc (.map es' cl')) b = M b := fun b hb => upd_ne hb
      generalize M.upd gc (.map es' cl') = M3 at hC3 e3 ⊢
      have L3 : Mem.le m0 M3 := le_put hle hgc e3
      have hS3 := L3 _ _ hS
      refine ⟨_, _, _, cell_of hS3 1, set_markM (k := 3) ((e3 gl hlc).trans hT.l) p0 pn hmk fun M4 l4 e4 => ?_⟩
      have L4 : Mem.le m0 M4 := le_put L3 hg e4
      have hH4 : HasS M4 gm had := hT.h.at fun o h => (e4 gm hlm.symm).trans ((e3 gm hmc).trans h)
      have hC4 : HasS M4 gc (toW a.ws p :: led) := hC3.at fun o h => (e4 gc hlc.symm).trans h
      have T4 : StH m0 M4 gl gm tl mk0 (setI mk p 3) had frm to_ := ⟨L4, l4, by rw [setI_len]; exact hT.n, setO 3, hH4⟩
      refine ⟨_, cell_of (L4 _ _ hS) 0, via h86 ⟨g, s, r, a, _, rfl, ⟨L4 _ _ hP, hA.le L4, hw, fb.1, c3⟩, _, _, _, rfl, ?_⟩⟩
      have ez : (lookW a.ws (toW a.ws p)).2.1 = szW a.ws (toW a.ws p) := rfl
      have bq := look_b hw (toW a.ws p)
      rw [ez, w64 (x := p + szW a.ws (toW a.ws p)) (by omega) (by omega), w64 (x := p + szW a.ws (toW a.ws p) + 1) (by omega) (by omega), w64 (x := sum + szW a.ws (toW a.ws p)) (by omega) (by omega), w64 (x := sum + szW a.ws (toW a.ws p) + 1) (by omega) (by omega)]
      by_cases c6 : p + szW a.ws (toW a.ws p) + 1 ≤ to_
      case neg =>
        rw [if_neg (fun h => c6 h.2.2.2.2.2)] at hR
        rw [if_pos (by simp; omega)]
        exact bad hR.symm _ _ _ T4
      rw [if_neg (by simp; omega)]
      rw [if_pos ⟨k2, cf, c3, c4, c5, c6⟩] at hR
      exact ih _ _ _ _ _ M4 (by omega) (by omega) (by omega) c6 (by omega) (by omega) hR T4 hC4 (hH.gone p0 pn zp) (serR_gone hs p0 pn zp) fun q q0 q1 => by rw [gi_set p0 pn (by omega), if_neg (by omega)]; exact hz q (by omega) q1
    | false =>
      rw [if_neg (by decide)]
      refine ⟨_, cell_of hS1 0, po ⟨_, _, _, cell_of hP1 0, wd hA1.w hn p0 (by omega) fun ad had_ hdd => ⟨_, hdd _ (Mem.le_refl _), via h103 ⟨_, rfl, gw_in hw.w p, _, _, _, _, rfl, newA_intro fun g2 m2 hg2 e2 hb2 hle2 => sto (c := #[.int .i64 0, .int .i64 0, .int .i64 0]) (t := 72) hb2 rfl (by simp) fun m3 e3 h3 hne3 => ?_⟩⟩⟩⟩
      have h3 : m3 g2 = some (.cells #[.int .i64 (lookW a.ws p).1, .int .i64 (szW a.ws p), .int .i64 (serW a.ws p)] 72 (0, 0)) := h3
      have l3 : Mem.le M m3 := le_other hle2 hg2 hne3
      have L3 := Mem.le_trans hle l3
      have hS3 := l3 _ _ hS1
      have hP3 := l3 _ _ hP1
      have T3 : StH m0 m3 gl gm tl mk0 mk had frm to_ := ⟨L3, l3 _ _ hT.l, hT.n, hT.o, hT.h.at fun o h => l3 _ _ h⟩
      have hC3 : HasS m3 gc led := hC.at fun o h => l3 _ _ h
      have hg2l : g2 ≠ gl := fun e => by rw [e] at hg2; rw [hT.l] at hg2; cases hg2
      have hg2m : g2 ≠ gm := fun e => by obtain ⟨es, cl, L, q1, _⟩ := hT.h; rw [e, q1] at hg2; cases hg2
      rw [er]
      refine ⟨Mem.le m3, Mem.le_refl _, ?_⟩
      by_cases c1 : okW (gw a.ws p) = true
      case neg =>
        rw [if_neg c1, if_neg (fun h => by have := h.2.1; rw [cf] at this; cases this)] at hR
        rw [Bool.not_eq_true] at c1
        rw [c1, if_pos (by decide)]
        exact bad hR.symm _ _ _ T3
      rw [if_pos c1] at hR
      rw [c1, if_neg (by decide)]
      refine ⟨_, held (cell_of h3 2), _, held (cell_of hS3 0), po ⟨_, held (cell_of hP3 8), ?_⟩⟩
      by_cases c2 : serW a.ws p < a.ser
      case neg =>
        rw [if_neg (fun h => c2 h.1)] at hR
        rw [if_pos (by simp; omega)]
        exact bad hR.symm _ _ _ T3
      rw [if_neg (by simp; omega)]
      -- the mark is set
      have go : (serW a.ws p = 0 ∨ serW a.ws p ∉ had) → ∃ S : Mem → Prop, S m3 ∧ (∃ r0 : Option Nat, (∀ q : Mem, S q → q.cell? ⟨gs, 2, none⟩ = some (.map r0)) ∧ (∃ y : Int, (∀ q : Mem, S q → q.cell? ⟨g2, 2, none⟩ = some (.int .i64 y)) ∧
          (∃ (mr : Nat) (es : Array MapEntry) (cl : Nat) (ML : List (Int × Value)), r0 = some mr ∧ m3 mr = some (.map es cl) ∧ MapIs .i64 es ML ∧ ∀ (es' : Array MapEntry) (cl' : Nat), MapIs .i64 es' (putM ML y (.bool true)) →
            (∃ (ra : Option Addr) (rn rc : Nat), Mem.cell? (Mem.upd m3 mr (.map es' cl')) ⟨gs, 1, none⟩ = some (.slice ra rn rc) ∧
              optA ra fun ad => 0 ≤ p ∧ p < (rn : Int) ∧ stoA (Mem.upd m3 mr (.map es' cl')) (ad.add (p.toNat * 1)) [.int .u8 k] fun m5 => ∃ z : Int, m5.cell? ⟨g2, 1, none⟩ = some (.int .i64 z) ∧
                if (decide (IntKind.i64.wrap (IntKind.i64.wrap (p + z) + 1) > to_)) = true then ret Q (.bool false) m5 else L65_4 (look t) (d + 1) Q gs to_ k sum (some gc) (IntKind.i64.wrap (IntKind.i64.wrap (p + z) + 1)) m5)))) := by
        intro hnd
        obtain ⟨es, cl, L, q1, q2, q3⟩ := T3.h
        refine ⟨Mem.le m3, Mem.le_refl _, _, held (cell_of hS3 2), _, held (cell_of h3 2), gm, es, cl, L, rfl, q1, q2, fun es' cl' hmi => ?_⟩
        have hH4 : HasS (m3.upd gm (.map es' cl')) gm (serW a.ws p :: had) := ⟨es', cl', _, upd_same _ _ _, hmi, hasS_put q3 _⟩
        have e4 : ∀ b, b ≠ gm → (m3.upd gm (.map es' cl')) b = m3 b := fun b hb => upd_ne hb
        generalize m3.upd gm (.map es' cl') = M4 at hH4 e4 ⊢
        have L4 : Mem.le m0 M4 := le_put L3 hgm e4
        refine ⟨_, _, _, cell_of (L4 _ _ hS) 1, set_markM (k := k) ((e4 gl hlm).trans T3.l) p0 pn hmk fun M5 l5 e5 => ?_⟩
        have L5 : Mem.le m0 M5 := le_put L4 hg e5
        have T5 : StH m0 M5 gl gm tl mk0 (setI mk p k) (serW a.ws p :: had) frm to_ := ⟨L5, l5, by rw [setI_len]; exact hT.n, setO k, hH4.at fun o h => (e5 gm hlm.symm).trans h⟩
        have hC5 : HasS M5 gc led := hC3.at fun o h => (e5 gc hlc.symm).trans ((e4 gc hmc.symm).trans h)
        refine ⟨_, cell_of ((e5 g2 hg2l).trans ((e4 g2 hg2m).trans h3)) 1, ?_⟩
        rw [w64 (x := p + szW a.ws p) (by omega) (by omega), w64 (x := p + szW a.ws p + 1) (by omega) (by omega)]
        by_cases c6 : p + szW a.ws p + 1 ≤ to_
        case neg =>
          rw [if_neg (fun h => c6 h.2)] at hR
          rw [if_pos (by simp; omega)]
          exact bad hR.symm _ _ _ T5
        rw [if_neg (by simp; omega)]
        rw [if_pos ⟨c2, c6⟩] at hR
        exact ih _ _ _ _ _ M5 (by omega) (by omega) (by omega) c6 s0 (by omega) hR T5 hC5 (hH.put p0 pn zp hk) (serR_put hs hH p0 pn zp hnd) fun q q0 q1 => by rw [gi_set p0 pn (by omega), if_neg (by omega)]; exact hz q (by omega) q1
      refine ⟨_, held (cell_of h3 2), ?_⟩
      by_cases c7 : serW a.ws p > 0
      · rw [if_pos (by simpa using c7)]
        refine ⟨_, held (cell_of hS3 2), _, held (cell_of h3 2), map_get T3.h ⟨Mem.le_refl _, ?_⟩⟩
        by_cases c8 : serW a.ws p ∈ had
        · rw [decide_eq_true c8, if_pos rfl]
          refine no ?_ _ _ _ T3
          rintro ⟨mk2, s2, e, e2, _⟩
          by_cases c6 : p + szW a.ws p + 1 ≤ to_
          · rw [if_pos ⟨c2, c6⟩, e] at hR
            exact serR_dup hH (wk_ok hw _ _ _ _ _ _ _ (by omega) c6 (by rw [setI_len]; omega) hR) (by omega) (by omega) p0 pn hz hk (by omega) c8 e2
          · rw [if_neg (fun h => c6 h.2), e] at hR
            cases hR
        · rw [decide_eq_false c8, if_neg (by decide)]
          exact go (.inr c8)
      · rw [if_neg (by simpa using c7)]
        exact go (.inl (by omega))
def s65 : Spec := fun args m Q => ∃ (gs g gl gm lc : Nat) (mb : Option Nat) (s r : Sl) (a : Ar) (tl : TypeId) (mk had : List Int) (frm to_ k : Int) (m0 : Mem), args = [.pointer (some ⟨gs, 0, none⟩), .int .i64 frm, .int .i64 to_, .int .u8 k] ∧ (k = 1 ∨ k = 2) ∧ a.wf ∧ Ptr m0 g s r a ∧ ArAt m0 s r a ∧
  m0 gs = some (.cells #[.pointer (some ⟨g, 0, none⟩), .slice (some ⟨gl, 0, none⟩) a.ws.length lc, .map (some gm), .map mb] 86 (0, 0)) ∧ m0 gl = none ∧ m0 gm = none ∧ gl ≠ gm ∧ 0 ≤ frm ∧ frm ≤ to_ ∧ to_ ≤ a.ws.length ∧ a.ser ≤ 1000000000 ∧ mk.length = a.ws.length ∧
  Mem.le m0 m ∧ m gl = some (rowM mk tl) ∧ HasS m gm had ∧ HadR a mk had ∧ serR a mk ∧ (∀ q, frm ≤ q → q < to_ → gi mk q = 0) ∧
  (∀ M mk' had', StH m0 M gl gm tl mk mk' had' frm to_ → (¬ ∃ mk2 s2, wk a to_ k (a.ws.length + 1) frm mk [] 0 = some (mk2, s2) ∧ serR a mk2 ∧ (k = 2 → s2 = a.cop)) → Q (.bool false) M) ∧
  (∀ M mk2 s2 had', StH m0 M gl gm tl mk mk2 had' frm to_ → wk a to_ k (a.ws.length + 1) frm mk [] 0 = some (mk2, s2) → serR a mk2 → HadR a mk2 had' → (k = 2 → s2 = a.cop) → Q (.bool true) M)
theorem f65 (t : Tab) (h102 : look t 102 = s102) (h103 : look t 103 = s103) (h86 : look t 86 = s86) : ∀ args m Q, s65 args m Q → FA Tryz.prog (look t) kp65 Tryz.f65 args m Q := by
  rintro args m Q ⟨gs, g, gl, gm, lc, mb, s, r, a, tl, mk, had, frm, to_, k, m0, rfl, hk, hw, hP, hA, hS, hg, hgm, hlm, f0, f1, f2, hzs, hn0, hle, hgl, hH, hHR, hsR, hz, hno, hyes⟩
  rw [e65]
  refine newA_intro fun gc m2 hgc e2 hb2 hle2 => ⟨a.ws.length + 1, ?_⟩
  have L2 := Mem.le_trans hle hle2
  have hlc : gl ≠ gc := fun e => by rw [← e, hgl] at hgc; cases hgc
  have hmc : gm ≠ gc := fun e => by obtain ⟨es, cl, L, q1, _⟩ := hH; rw [← e, q1] at hgc; cases hgc
  exact heads_loop t h102 h103 h86 hw hk hP hA hS hg hgm (le_none hle hgc) hlm hlc hmc f2 hzs hn0 (fun h M mk' had' hT => ret_intro (Mem.le_refl _) (hno M mk' had' hT h)) (fun mk2 s2 h1 h2 h3 M had' hT hHR' => ret_intro (Mem.le_refl _) (hyes M mk2 s2 had' hT h1 h2 hHR' h3))
    a.ws.length frm mk had [] 0 m2 (by omega) f0 (Int.le_refl _) f1 (Int.le_refl _) f0 rfl ⟨L2, hle2 _ _ hgl, rfl, fun _ _ _ => rfl, hH.at fun o h => hle2 _ _ h⟩ (hasS_nil hb2) hHR hsR hz
end Go.Proofs.YtpdcjocjkbgddaaGreat.Abs
