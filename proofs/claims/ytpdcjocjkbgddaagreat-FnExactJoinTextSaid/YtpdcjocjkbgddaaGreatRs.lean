/- Arenas: tiles: the reference's function. -/
import Derived.Test.YtpdcjocjkbgddaaGreatRp
import Derived.Test.YtpdcjocjkbgddaaGreatEqT
namespace Go.Proofs.YtpdcjocjkbgddaaGreat.Abs
open Go.RowKit
set_option linter.unusedVariables false
set_option linter.unusedSimpArgs false
set_option maxRecDepth 20000
def rowI (mk : List Int) (tl : TypeId) : Obj := .cells (flat Enc.e mk ++ []).toArray tl (0, 0)
def rowB (l : List Bool) (tl : TypeId) : Obj := .cells (flat Enc.e l ++ []).toArray tl (0, 0)
theorem set_mark {m : Mem} {gl : Nat} {tl : TypeId} {mk : List Int} {p k : Int} {n : Nat} {K : Mem → Prop} (h : m gl = some (rowI mk tl)) (p0 : 0 ≤ p) (p1 : p < mk.length) (hn : mk.length = n) (hK : ∀ M : Mem, M gl = some (rowI (setI mk p k) tl) → (∀ b, b ≠ gl → M b = m b) → K M) :
    optA (some (⟨gl, 0, none⟩ : Addr)) fun (ad : Addr) => 0 ≤ p ∧ p < (n : Int) ∧ stoA m (ad.add (p.toNat * 1)) [.int .i64 k] K :=
  po ⟨p0, by omega, sto_elem (x := k) (i := p.toNat) h (by rw [add_eq rfl, Nat.zero_add]; rfl) (by omega) (hK _ (upd_same _ _ _) fun b hb => upd_ne hb)⟩
theorem set_led {m : Mem} {gl : Nat} {tl : TypeId} {l : List Bool} {p : Int} {n : Nat} {K : Mem → Prop} (h : m gl = some (rowB l tl)) (p0 : 0 ≤ p) (p1 : p < l.length) (hn : l.length = n) (hK : ∀ M : Mem, M gl = some (rowB (l.set p.toNat true) tl) → (∀ b, b ≠ gl → M b = m b) → K M) :
    optA (some (⟨gl, 0, none⟩ : Addr)) fun (ad : Addr) => 0 ≤ p ∧ p < (n : Int) ∧ stoA m (ad.add (p.toNat * 1)) [.bool true] K :=
  po ⟨p0, by omega, sto_elem (x := true) (i := p.toNat) h (by rw [add_eq rfl, Nat.zero_add]; rfl) (by omega) (hK _ (upd_same _ _ _) fun b hb => upd_ne hb)⟩
theorem RLed.put {n : Nat} {l : List Bool} {had : List Int} (h : RLed n l had) {x : Int} (x0 : 0 ≤ x) (x1 : x < n) : RLed n (l.set x.toNat true) (x :: had) := by
  have hl := h.1
  refine ⟨by rw [List.length_set]; exact hl, fun y y0 y1 => ?_⟩
  rw [List.mem_cons, List.getD_eq_getElem?_getD, List.getElem?_set]
  by_cases e : y = x
  · subst e
    rw [if_pos rfl, if_pos (by omega)]
    simp
  · rw [if_neg (by omega), ← List.getD_eq_getElem?_getD, h.2 y y0 y1]
    simp [e]
theorem le_put {m0 m M : Mem} {gl : Nat} (h : Mem.le m0 m) (hg : m0 gl = none) (hM : ∀ b, b ≠ gl → M b = m b) : Mem.le m0 M := le_other h hg hM
theorem loopT2 (t : Tab) (h91 : look t 91 = s91) (h92 : look t 92 = s92) (h56 : look t 56 = s56) (h44 : look t 44 = s44) {Q : Value → Mem → Prop} {s r : Sl} {a : Ar} {g gl gd mc : Nat} {tl td : TypeId} {m0 : Mem} (hw : a.wf) (hN : NumP a) (hc : a.cyc = true) (hP : Ptr m0 g s r a) (hA : ArAt m0 s r a) (hg : m0 gl = none) (hd0 : m0 gd = none) (hgd : gl ≠ gd)
    {R : Option (List Int × Int)} (no : (¬ ∃ mk2, R = some (mk2, a.cop) ∧ scanP a mk2) → ∀ (M : Mem) (mk : List Int), Mem.le m0 M → M gl = some (rowI mk tl) → ret Q (.bool false) M)
    (yes : ∀ mk2, R = some (mk2, a.cop) → scanP a mk2 → ∀ M : Mem, Mem.le m0 M → M gl = some (rowI mk2 tl) → ret Q (.bool true) M) :
    ∀ (d : Nat) (p : Int) (mk led : List Int) (row : List Bool) (sum : Int), a.old - p ≤ d → 0 ≤ p → p ≤ a.old → 0 ≤ sum → sum ≤ p → mk.length = a.ws.length → RLed a.ws.length row led → wk a a.old 2 (d + 1) p mk led sum = R → ∀ M : Mem, Mem.le m0 M → M gl = some (rowI mk tl) → M gd = some (rowB row td) →
      L53_13 (look t) (d + 1) Q (some ⟨gl, 0, none⟩) a.ws.length mc g (some ⟨gd, 0, none⟩) a.ws.length a.ws.length sum p M := by
  have hh := halves hN
  have hf := hN.f
  unfold freeP at hf
  rw [if_pos hc] at hf
  have hn := hA.n
  have hNn := hw.n
  have hz := hN.z1
  have endc : ∀ (d : Nat) (mk : List Int) (sum : Int), mk.length = a.ws.length → some (mk, sum) = R → ∀ M : Mem, Mem.le m0 M → M gl = some (rowI mk tl) → L53_13 (look t) (d + 1) Q (some ⟨gl, 0, none⟩) a.ws.length mc g (some ⟨gd, 0, none⟩) a.ws.length a.ws.length sum a.old M := by
    intro d mk sum hl hR M hle hgl
    have hb1 := hle _ _ hP
    rw [l53_13]
    refine ⟨M, Mem.le_refl _, _, cell_of hb1 6, ?_⟩
    rw [if_neg (by simp)]
    refine ⟨_, cell_of hb1 7, ?_⟩
    by_cases c1 : sum = a.cop
    case neg => rw [if_neg (by simpa using c1)]; exact no (by rintro ⟨mk2, e, _⟩; rw [← hR] at e; cases e; exact c1 rfl) M mk hle hgl
    rw [if_pos (by simpa using c1)]
    rw [c1] at hR
    refine ⟨_, cell_of hb1 5, _, cell_of hb1 3, ?_⟩
    by_cases c2 : a.scan = a.top
    · rw [if_pos (by simpa using c2)]
      exact yes mk hR.symm (.inl c2) M hle hgl
    rw [if_neg (by simpa using c2)]
    refine ⟨_, cell_of hb1 5, ?_⟩
    rw [w64 (x := (a.ws.length : Int) - 1) (by omega) (by omega)]
    refine via h44 ⟨_, _, _, rfl, _, rfl, ?_⟩
    by_cases c3 : 0 ≤ a.scan ∧ a.scan ≤ (a.ws.length : Int) - 1
    · rw [decide_eq_true c3, if_pos rfl]
      refine ⟨_, cell_of hb1 5, ri (Rd.of_block (spare := []) hgl (by simp)) hl c3.1 (by omega) fun ad had hdd => ⟨_, hdd _ (Mem.le_refl _), ?_⟩⟩
      by_cases c4 : gi mk a.scan = 1
      · rw [show (gi mk a.scan == 1) = true from by simpa using c4]
        exact yes mk hR.symm (.inr ⟨c3.1, by omega, c4⟩) M hle hgl
      · rw [show (gi mk a.scan == 1) = false from by simpa using c4]
        refine no ?_ M mk hle hgl
        rintro ⟨mk2, e, q⟩
        rw [← hR] at e
        cases e
        rcases q with q | q
        · exact c2 q
        · exact c4 q.2.2
    · rw [decide_eq_false c3, if_neg (by decide)]
      refine no ?_ M mk hle hgl
      rintro ⟨mk2, e, q⟩
      rw [← hR] at e
      cases e
      rcases q with q | q
      · exact c2 q
      · omega
  intro d
  induction d with
  | zero =>
    intro p mk led row sum hd p0 p1 s0 s1 hl hrl hR M hle hgl hgd2
    have hp : p = a.old := by omega
    unfold wk at hR
    rw [if_pos hp] at hR
    rw [hp]
    exact endc 0 mk sum hl hR M hle hgl
  | succ d ih =>
    intro p mk led row sum hd p0 p1 s0 s1 hl hrl hR M hle hgl hgd2
    by_cases hp : p = a.old
    · unfold wk at hR
      rw [if_pos hp] at hR
      rw [hp]
      exact endc (d + 1) mk sum hl hR M hle hgl
    have hb1 := hle _ _ hP
    have hA := hA.le hle
    unfold wk at hR
    rw [if_neg hp] at hR
    rw [l53_13]
    refine ⟨M, Mem.le_refl _, _, cell_of hb1 6, ?_⟩
    rw [if_pos (by simpa using hp)]
    refine ⟨_, _, _, cell_of hb1 0, wd hA.w hn p0 (by omega) fun ad had hdd => ⟨_, hdd _ (Mem.le_refl _), via h91 ⟨_, rfl, gw_in hw.w p, _, _, _, _, rfl, newA_intro fun g2 m2 hg2 e2 hb2 hle2 => sto (c := #[.int .i64 0, .int .i64 0, .int .i64 0]) (t := 72) hb2 rfl (by simp) fun m3 e3 h3 hne3 => ?_⟩⟩⟩
    have h3 : m3 g2 = some (.cells #[.int .i64 (lookW a.ws p).1, .int .i64 (szW a.ws p), .int .i64 (serW a.ws p)] 72 (0, 0)) := h3
    have l3 : Mem.le M m3 := le_other hle2 hg2 hne3
    have L3 := Mem.le_trans hle l3
    have hb1 := l3 _ _ hb1
    have hA3 := hA.le l3
    have hgl3 := l3 _ _ hgl
    have hgd3 := l3 _ _ hgd2
    have hg2l : g2 ≠ gl := fun e => by rw [e] at hg2; rw [hg2] at hgl; cases hgl
    have hg2d : g2 ≠ gd := fun e => by rw [e] at hg2; rw [hg2] at hgd2; cases hgd2
    have hg20 : m0 g2 = none := le_none hle hg2
    have er : (readH (gw a.ws p)).2 = okW (gw a.ws p) := by unfold readH; split <;> simp_all
    rw [er]
    have bad : R = none → ∀ M' mk', Mem.le m0 M' → M' gl = some (rowI mk' tl) → ret Q (.bool false) M' := fun h => no (by rintro ⟨mk2, e, _⟩; rw [h] at e; cases e)
    have bp := look_b hw p
    by_cases c1 : okW (gw a.ws p) = true
    · rw [if_pos c1] at hR
      rw [c1, if_neg (by decide)]
      refine ⟨_, cell_of h3 2, _, cell_of hb1 8, ?_⟩
      by_cases c2 : serW a.ws p < a.ser
      case neg =>
        rw [if_neg (fun h => c2 h.1)] at hR
        rw [if_pos (by simp; omega)]
        exact bad hR.symm _ _ L3 hgl3
      rw [if_neg (by simp; omega)]
      refine ⟨_, cell_of h3 1, _, cell_of hb1 6, ?_⟩
      rw [w64 (x := p + szW a.ws p) (by omega) (by omega), w64 (x := p + szW a.ws p + 1) (by omega) (by omega)]
      by_cases c3 : p + szW a.ws p + 1 ≤ a.old
      case neg =>
        rw [if_neg (fun h => c3 h.2)] at hR
        rw [if_pos (by simp; omega)]
        exact bad hR.symm _ _ L3 hgl3
      rw [if_neg (by simp; omega)]
      rw [if_pos ⟨c2, c3⟩] at hR
      refine set_mark hgl3 p0 (by omega) hl fun M4 k4 e4 => ⟨_, cell_of ((e4 g2 hg2l).trans h3) 1, ?_⟩
      rw [w64 (x := p + szW a.ws p) (by omega) (by omega), w64 (x := p + szW a.ws p + 1) (by omega) (by omega)]
      exact ih _ _ _ _ _ (by omega) (by omega) c3 s0 (by omega) (by rw [setI_len]; exact hl) hrl hR M4 (le_put L3 hg e4) k4 ((e4 gd hgd.symm).trans hgd3)
    · rw [if_neg c1] at hR
      rw [Bool.not_eq_true] at c1
      rw [c1, if_pos (by decide)]
      refine ⟨_, _, _, cell_of hb1 0, wd hA3.w hn p0 (by omega) fun ad had hdd => ⟨_, hdd _ (Mem.le_refl _), via h92 ⟨_, rfl, gw_in hw.w p, _, _, rfl, ?_⟩⟩⟩
      have fb := fwd_b (gw a.ws p)
      have ft : (fwd (gw a.ws p)).1 = toW a.ws p := rfl
      rw [ft] at fb
      cases c2 : (fwd (gw a.ws p)).2 with
      | false =>
        rw [c2, if_neg (fun h => by have := h.2.1; cases this)] at hR
        rw [if_pos (by decide)]
        exact bad hR.symm _ _ L3 hgl3
      | true =>
      rw [if_neg (by decide)]
      refine ⟨_, _, _, cell_of hb1 0, ?_⟩
      rw [ft]
      by_cases c3 : toW a.ws p < a.ws.length
      case neg =>
        rw [if_neg (fun h => c3 h.2.2.1)] at hR
        rw [if_pos (by simp; omega)]
        exact bad hR.symm _ _ L3 hgl3
      rw [if_neg (by simp; omega)]
      refine ri (Rd.of_block (spare := []) hgl3 (by simp)) hl fb.1 c3 fun ad had hdd => ⟨_, hdd _ (Mem.le_refl _), ?_⟩
      by_cases c4 : gi mk (toW a.ws p) = 1
      case neg =>
        rw [if_neg (fun h => c4 h.2.2.2.1)] at hR
        rw [if_pos (by simpa using c4)]
        exact bad hR.symm _ _ L3 hgl3
      rw [if_neg (by simpa using c4)]
      refine rl (Rd.of_block (spare := []) hgd3 (by simp)) hrl.1 fb.1 c3 fun ad had hdd => ⟨_, hdd _ (Mem.le_refl _), ?_⟩
      have hbi := hrl.2 _ fb.1 c3
      cases c5 : row.getD (toW a.ws p).toNat false with
      | true =>
        rw [if_pos rfl]
        rw [if_neg (fun h => h.2.2.2.2.1 (hbi.1 c5))] at hR
        exact bad hR.symm _ _ L3 hgl3
      | false =>
      rw [if_neg (by decide)]
      have hnh : toW a.ws p ∉ led := fun h => by rw [hbi.2 h] at c5; cases c5
      have hrn := hrl.1
      refine set_led hgd3 fb.1 (by omega) hrl.1 fun M4 k4 e4 => ?_
      have L4 : Mem.le m0 M4 := le_put L3 hd0 e4
      have hg1d : g ≠ gd := fun e => by rw [e] at hP; have hP : m0 gd = _ := hP; rw [hd0] at hP; cases hP
      have hb1 := L4 _ _ hP
      have h4 := (e4 g2 hg2d).trans h3
      have hgl4 := (e4 gl hgd).trans hgl3
      refine ⟨_, _, _, cell_of hb1 0, _, cell_of hb1 1, _, cell_of hb1 2, _, cell_of hb1 3, _, cell_of hb1 4, _, cell_of hb1 5, _, cell_of hb1 6, _, cell_of hb1 7, _, cell_of hb1 8, _, _, _, cell_of hb1 9, via h56 ⟨s, r, a, _, rfl, ⟨(by assumption : ArAt m0 s r a).le L4, hw, fb.1, c3⟩, _, _, _, rfl, sto (c := #[.int .i64 (lookW a.ws p).1, .int .i64 (szW a.ws p), .int .i64 (serW a.ws p)]) (t := 72) h4 rfl (by simp) fun m5 e5 h5 hne5 => ?_⟩⟩
      have h5 : m5 g2 = some (.cells #[.int .i64 (lookW a.ws (toW a.ws p)).1, .int .i64 (szW a.ws (toW a.ws p)), .int .i64 (serW a.ws (toW a.ws p))] 72 (0, 0)) := h5
      have L5 : Mem.le m0 m5 := le_put L4 hg20 hne5
      have hb1 := L5 _ _ hP
      have hgl5 := (hne5 gl hg2l.symm).trans hgl4
      have hgd5 := (hne5 gd hg2d.symm).trans k4
      refine ⟨_, cell_of h5 1, _, cell_of h5 1, _, cell_of hb1 6, ?_⟩
      have bq := look_b hw (toW a.ws p)
      rw [w64 (x := p + szW a.ws (toW a.ws p)) (by omega) (by omega), w64 (x := p + szW a.ws (toW a.ws p) + 1) (by omega) (by omega)]
      by_cases c6 : p + szW a.ws (toW a.ws p) + 1 ≤ a.old
      case neg =>
        rw [if_neg (fun h => c6 h.2.2.2.2.2)] at hR
        rw [if_pos (by simp; omega)]
        exact bad hR.symm _ _ L5 hgl5
      rw [if_neg (by simp; omega)]
      rw [if_pos ⟨rfl, c2, c3, c4, hnh, c6⟩] at hR
      refine set_mark hgl5 p0 (by omega) hl fun M6 k6 e6 => ⟨_, cell_of ((e6 g2 hg2l).trans h5) 1, ?_⟩
      rw [w64 (x := p + szW a.ws (toW a.ws p)) (by omega) (by omega), w64 (x := p + szW a.ws (toW a.ws p) + 1) (by omega) (by omega), w64 (x := sum + szW a.ws (toW a.ws p)) (by omega) (by omega), w64 (x := sum + szW a.ws (toW a.ws p) + 1) (by omega) (by omega)]
      exact ih _ _ _ _ _ (by omega) (by omega) c6 (by omega) (by omega) (by rw [setI_len]; exact hl) (hrl.put fb.1 c3) hR M6 (le_put L5 hg e6) k6 ((e6 gd hgd.symm).trans hgd5)
theorem tileO_n {a : Ar} (h : tile1 a = none) : tileO a = none := by unfold tileO; rw [h]
theorem tileO_f {a : Ar} {mk : List Int} {x : Int} (h : tile1 a = some (mk, x)) (hc : a.cyc = false) : tileO a = some mk := by unfold tileO; rw [h, hc]; rfl
theorem tileO_t {a : Ar} {mk mk2 : List Int} {x : Int} (h : tile1 a = some (mk, x)) (hc : a.cyc = true) (h2 : tile2 a mk = some (mk2, a.cop)) (h3 : scanP a mk2) : tileO a = some mk2 := by
  unfold tileO
  rw [h, hc]
  show (match tile2 a mk with
      | none => none
      | some (mk2, sum) => if sum = a.cop ∧ scanP a mk2 then some mk2 else none) = some mk2
  rw [h2]
  exact if_pos ⟨rfl, h3⟩
theorem tileO_x {a : Ar} {mk : List Int} {x : Int} (h : tile1 a = some (mk, x)) (hc : a.cyc = true) (h2 : ¬ ∃ mk2, tile2 a mk = some (mk2, a.cop) ∧ scanP a mk2) : tileO a = none := by
  unfold tileO
  rw [h, hc]
  show (match tile2 a mk with
      | none => none
      | some (mk2, sum) => if sum = a.cop ∧ scanP a mk2 then some mk2 else none) = none
  cases e : tile2 a mk with
  | none => rfl
  | some y =>
    obtain ⟨mk2, sum⟩ := y
    refine if_neg fun h => h2 ⟨mk2, ?_, h.2⟩
    rw [e, h.1]
theorem rled0 (n : Nat) : RLed n (List.replicate n false) [] := by
  refine ⟨List.length_replicate, fun x x0 x1 => ?_⟩
  rw [List.getD_eq_getElem?_getD, List.getElem?_replicate]
  split <;> simp
theorem loopT1 (t : Tab) (h91 : look t 91 = s91) (h92 : look t 92 = s92) (h56 : look t 56 = s56) (h44 : look t 44 = s44) (h73 : look t 73 = s73) {Q : Value → Mem → Prop} {s r : Sl} {a : Ar} {g gl mc : Nat} {tl : TypeId} {m0 : Mem} (hw : a.wf) (hN : NumP a) (hP : Ptr m0 g s r a) (hA : ArAt m0 s r a) (hg : m0 gl = none)
    (no : tileO a = none → ∀ (M : Mem) (mk : List Int), Mem.le m0 M → M gl = some (rowI mk tl) → ret Q (.bool false) M)
    (yes : ∀ mk2, tileO a = some mk2 → ∀ M : Mem, Mem.le m0 M → M gl = some (rowI mk2 tl) → ret Q (.bool true) M) :
    ∀ (d : Nat) (p : Int) (mk : List Int), a.top - p ≤ d → 0 ≤ p → p ≤ a.top → mk.length = a.ws.length → wk a a.top 1 (d + 1) p mk [] 0 = tile1 a → ∀ M : Mem, Mem.le m0 M → M gl = some (rowI mk tl) →
      L53_2 (look t) (d + 1) Q (some ⟨gl, 0, none⟩) a.ws.length mc g p M := by
  have hh := halves hN
  have hf := hN.f
  unfold freeP at hf
  have hn := hA.n
  have hNn := hw.n
  have hz := hN.z1
  have hsm := hN.sm
  have endc : ∀ (d : Nat) (mk : List Int), mk.length = a.ws.length → tile1 a = some (mk, 0) → ∀ M : Mem, Mem.le m0 M → M gl = some (rowI mk tl) → L53_2 (look t) (d + 1) Q (some ⟨gl, 0, none⟩) a.ws.length mc g a.top M := by
    intro d mk hl hR M hle hgl
    have hb1 := hle _ _ hP
    rw [l53_2]
    refine ⟨M, Mem.le_refl _, _, cell_of hb1 3, ?_⟩
    rw [if_neg (by simp)]
    refine ⟨_, cell_of hb1 4, ?_⟩
    cases hc : a.cyc with
    | false => rw [if_pos (by decide)]; exact yes mk (tileO_f hR hc) M hle hgl
    | true =>
    rw [if_neg (by decide)]
    rw [if_pos hc] at hf
    refine ⟨_, _, _, cell_of hb1 0, ?_⟩
    rw [← hn]
    refine ⟨by omega, Int.le_refl _, by omega, by omega, newA_intro fun gd m2 hgd e2 hb2 hle2 => ?_⟩
    have hb2 : m2 gd = some (rowB (List.replicate a.ws.length false) 4) := by
      rw [hb2]
      unfold rowB
      rw [List.append_nil, ← zeroRow_eq]
      rfl
    have L2 := Mem.le_trans hle hle2
    have hb1 := hle2 _ _ hb1
    have hgl2 := hle2 _ _ hgl
    have hgd0 : m0 gd = none := le_none hle hgd
    have hne : gl ≠ gd := fun e => by rw [← e] at hgd; rw [hgd] at hgl; cases hgl
    refine ⟨_, _, _, cell_of hb1 0, _, cell_of hb1 1, _, cell_of hb1 2, _, cell_of hb1 3, _, cell_of hb1 4, _, cell_of hb1 5, _, cell_of hb1 6, _, cell_of hb1 7, _, cell_of hb1 8, _, _, _, cell_of hb1 9, _, cell_of hb1 2, ?_⟩
    have := hsm.t0
    have := hsm.t1
    have := hsm.s0
    rw [w64 (x := 1 - a.to) (by omega) (by omega)]
    refine via h73 ⟨s, r, a, _, rfl, by omega, by omega, by omega, hsm.s1, _, rfl, a.ws.length + 1, ?_⟩
    exact loopT2 t h91 h92 h56 h44 hw hN hc hP hA hg hgd0 hne (R := tile2 a mk) (fun h => no (tileO_x hR hc h)) (fun mk2 h1 h2 => yes mk2 (tileO_t hR hc h1 h2)) a.ws.length _ mk [] _ 0 (by omega) (by omega) (by omega) (Int.le_refl _) (by omega) hl (rled0 _) rfl m2 L2 hgl2 hb2
  intro d
  induction d with
  | zero =>
    intro p mk hd p0 p1 hl hR M hle hgl
    have hp : p = a.top := by omega
    unfold wk at hR
    rw [if_pos hp] at hR
    rw [hp]
    exact endc 0 mk hl hR.symm M hle hgl
  | succ d ih =>
    intro p mk hd p0 p1 hl hR M hle hgl
    by_cases hp : p = a.top
    · unfold wk at hR
      rw [if_pos hp] at hR
      rw [hp]
      exact endc (d + 1) mk hl hR.symm M hle hgl
    have hb1 := hle _ _ hP
    have hA := hA.le hle
    unfold wk at hR
    rw [if_neg hp] at hR
    rw [l53_2]
    refine ⟨M, Mem.le_refl _, _, cell_of hb1 3, ?_⟩
    rw [if_pos (by simpa using hp)]
    refine ⟨_, _, _, cell_of hb1 0, wd hA.w hn p0 (by omega) fun ad had hdd => ⟨_, hdd _ (Mem.le_refl _), via h91 ⟨_, rfl, gw_in hw.w p, _, _, _, _, rfl, newA_intro fun g2 m2 hg2 e2 hb2 hle2 => sto (c := #[.int .i64 0, .int .i64 0, .int .i64 0]) (t := 72) hb2 rfl (by simp) fun m3 e3 h3 hne3 => ?_⟩⟩⟩
    have h3 : m3 g2 = some (.cells #[.int .i64 (lookW a.ws p).1, .int .i64 (szW a.ws p), .int .i64 (serW a.ws p)] 72 (0, 0)) := h3
    have l3 : Mem.le M m3 := le_other hle2 hg2 hne3
    have L3 := Mem.le_trans hle l3
    have hb1 := l3 _ _ hb1
    have hgl3 := l3 _ _ hgl
    have hg2l : g2 ≠ gl := fun e => by rw [e] at hg2; rw [hg2] at hgl; cases hgl
    have er : (readH (gw a.ws p)).2 = okW (gw a.ws p) := by unfold readH; split <;> simp_all
    rw [er]
    have bad : tile1 a = none → ∀ M' mk', Mem.le m0 M' → M' gl = some (rowI mk' tl) → ret Q (.bool false) M' := fun h => no (tileO_n h)
    have bp := look_b hw p
    by_cases c1 : okW (gw a.ws p) = true
    case neg =>
      rw [if_neg c1, if_neg (fun h => by have := h.1; omega)] at hR
      rw [Bool.not_eq_true] at c1
      rw [c1, if_pos (by decide)]
      exact bad hR.symm _ _ L3 hgl3
    rw [if_pos c1] at hR
    rw [c1, if_neg (by decide)]
    refine ⟨_, cell_of h3 1, _, cell_of hb1 3, ?_⟩
    rw [w64 (x := p + szW a.ws p) (by omega) (by omega), w64 (x := p + szW a.ws p + 1) (by omega) (by omega)]
    by_cases c3 : p + szW a.ws p + 1 ≤ a.top
    case neg =>
      rw [if_neg (fun h => c3 h.2)] at hR
      rw [if_pos (by simp; omega)]
      exact bad hR.symm _ _ L3 hgl3
    rw [if_neg (by simp; omega)]
    refine ⟨_, cell_of h3 2, _, cell_of hb1 8, ?_⟩
    by_cases c2 : serW a.ws p < a.ser
    case neg =>
      rw [if_neg (fun h => c2 h.1)] at hR
      rw [if_pos (by simp; omega)]
      exact bad hR.symm _ _ L3 hgl3
    rw [if_neg (by simp; omega)]
    rw [if_pos ⟨c2, c3⟩] at hR
    refine set_mark hgl3 p0 (by omega) hl fun M4 k4 e4 => ⟨_, cell_of ((e4 g2 hg2l).trans h3) 1, ?_⟩
    rw [w64 (x := p + szW a.ws p) (by omega) (by omega), w64 (x := p + szW a.ws p + 1) (by omega) (by omega)]
    exact ih _ _ (by omega) (by omega) c3 (by rw [setI_len]; exact hl) hR M4 (le_put L3 hg e4) k4
def s53 : Spec := fun args m Q => ∃ (s r mkS : Sl) (a : Ar) (gl : Nat) (tl : TypeId) (m0 : Mem), args = [vA s r a, vs mkS] ∧ mkS.a = some ⟨gl, 0, none⟩ ∧ mkS.n = a.ws.length ∧ m gl = some (rowI (zeroA a) tl) ∧ Mem.le m0 m ∧ m0 gl = none ∧ ArAt m0 s r a ∧ a.wf ∧ NumP a ∧
  ∀ (M : Mem) (mk : List Int), Mem.le m0 M → M gl = some (rowI mk tl) → (∀ mk2, tileO a = some mk2 → mk = mk2) → Q (.bool (tileO a).isSome) M
theorem f53 (t : Tab) (h91 : look t 91 = s91) (h92 : look t 92 = s92) (h56 : look t 56 = s56) (h44 : look t 44 = s44) (h73 : look t 73 = s73) : ∀ args m Q, s53 args m Q → FA Tryz.prog (look t) kp53 Tryz.f53 args m Q := by
  rintro args m Q ⟨s, r, ⟨ma, mn, mc⟩, a, gl, tl, m0, rfl, rfl, rfl, hgl, h0, hg, hA, hw, hN, hQ⟩
  show FA Tryz.prog (look t) kp53 Tryz.f53 [.agg #[.slice s.a s.n s.c, .int .i64 a.semi, .int .i64 a.to, .int .i64 a.top, .bool a.cyc, .int .i64 a.scan, .int .i64 a.old, .int .i64 a.cop, .int .i64 a.ser, .slice r.a r.n r.c], .slice (some ⟨gl, 0, none⟩) a.ws.length mc] m Q
  rw [e53]
  have hh := halves hN
  have hsm := hN.sm
  have := hsm.t0
  have := hsm.t1
  have := hsm.s0
  refine newA_intro fun g m2 hg1 e2 hb1 hle2 => ?_
  have hgl2 := hle2 _ _ hgl
  have hgg : g ≠ gl := fun e => by rw [e] at hg1; rw [hg1] at hgl; cases hgl
  -- the memory without the marks
  obtain ⟨m1, hm1⟩ : ∃ m1 : Mem, m1 = fun b => if b = gl then none else m2 b := ⟨_, rfl⟩
  have q1 : m1 gl = none := by rw [hm1]; exact if_pos rfl
  have q2 : ∀ b, b ≠ gl → m1 b = m2 b := fun b hb => by rw [hm1]; exact if_neg hb
  clear hm1
  have l01 : Mem.le m0 m1 := fun b o hb => by
    by_cases e : b = gl
    · rw [e, hg] at hb; cases hb
    · rw [q2 b e]; exact hle2 _ _ (h0 _ _ hb)
  have l12 : Mem.le m1 m2 := fun b o hb => by
    by_cases e : b = gl
    · rw [e, q1] at hb; cases hb
    · rw [← q2 b e]; exact hb
  have hP : Ptr m1 g s r a := (q2 g hgg).trans hb1
  have hb1 : m2 g = _ := hb1
  refine ⟨_, _, _, cell_of hb1 0, _, cell_of hb1 1, _, cell_of hb1 2, _, cell_of hb1 3, _, cell_of hb1 4, _, cell_of hb1 5, _, cell_of hb1 6, _, cell_of hb1 7, _, cell_of hb1 8, _, _, _, cell_of hb1 9, _, cell_of hb1 2, via h73 ⟨s, r, a, _, rfl, by omega, by omega, by omega, hsm.s1, _, rfl, a.ws.length + 1, ?_⟩⟩
  refine loopT1 t h91 h92 h56 h44 h73 hw hN hP (hA.le l01) q1 (fun h M mk hle hM => ?_) (fun mk2 h M hle hM => ?_) a.ws.length _ (zeroA a) (by omega) (by omega) (by omega) (by unfold zeroA; rw [List.length_replicate]) rfl m2 l12 hgl2
  · have := hQ M mk (Mem.le_trans l01 hle) hM (fun mk2 e => by rw [h] at e; cases e)
    rw [h] at this
    exact ret_intro (Mem.le_refl _) this
  · have := hQ M mk2 (Mem.le_trans l01 hle) hM (fun mk3 e => by rw [h] at e; cases e; rfl)
    rw [h] at this
    exact ret_intro (Mem.le_refl _) this
end Go.Proofs.YtpdcjocjkbgddaaGreat.Abs
