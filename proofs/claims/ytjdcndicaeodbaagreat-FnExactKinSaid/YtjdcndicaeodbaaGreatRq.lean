/- Arenas: what a right arena is (plain). -/
import Derived.Test.YtjdcndicaeodbaaGreatRp
namespace Go.Proofs.YtjdcndicaeodbaaGreat.Abs
open Go.RowKit
set_option linter.unusedVariables false
set_option linter.unusedSimpArgs false
set_option maxRecDepth 20000
def serR (a : Ar) (mk : List Int) : Prop := ∀ p q : Int, 0 ≤ p → p < q → q < mk.length → hdM mk p → hdM mk q → serW a.ws p ≠ 0 → serW a.ws p ≠ serW a.ws q
def kdW (ws : List U64) (p : Int) : Int := (lookW ws p).1
open Classical in
/-- The tables from a place on, where had are the blocks of the ones before. -/
noncomputable def tabsP (a : Ar) (mk : List Int) : Nat → Int → List Int → Prop
  | 0, _, _ => True
  | d + 1, p, had => if hdM mk p ∧ kdW a.ws p = 2 then tabP a.ws p had ∧ tabsP a mk d (p + 1) (hadN a.ws p had) else tabsP a mk d (p + 1) had
def rootP (a : Ar) (mk : List Int) (v : Vl) : Prop := valOkB v = true ∧ v.1 ≠ 8 ∧ leadsB a mk v 1 = true
structure OkM (a : Ar) (mk : List Int) : Prop where
  N : NumP a
  t : tileO a = some mk
  s : serR a mk
  o : ∀ p : Int, 0 ≤ p → p < mk.length → hdM mk p → objP a mk p
  b : tabsP a mk a.ws.length 0 []
  r : ∀ v ∈ a.rs, rootP a mk v
def okP (a : Ar) : Prop := ∃ mk, OkM a mk
theorem leads_ok {a : Ar} {mk : List Int} {v : Vl} {frm : Int} (h : leadsB a mk v frm = true) (hr : isRefB v = true) : v.2 < mk.length ∧ gi mk v.2 ≠ 0 ∧ kdW a.ws (whereW a.ws v.2) = kindT v.1 := by
  unfold leadsB at h
  rw [hr, if_pos rfl] at h
  by_cases c : (mk.length : Int) ≤ v.2
  · rw [if_pos c] at h; cases h
  rw [if_neg c] at h
  split at h
  · rename_i d
    refine ⟨by omega, by omega, ?_⟩
    rw [decide_eq_true_eq] at h
    exact h
  · cases h
theorem objs_tag {a : Ar} {mk : List Int} {p x : Int} (h : objP a mk p) (hx : x ∈ slotsL (lookW a.ws p).1 (lookW a.ws p).2.1) : slotP a mk p (lookW a.ws p).1 x := h.1 x hx
theorem mem_every {f : Int} {n : Nat} (j : Nat) (h : j < n) : f + 2 * (j : Int) ∈ everyK f n := by
  unfold everyK
  exact List.mem_map.2 ⟨j, List.mem_range.2 h, rfl⟩
theorem text_at {a : Ar} {mk : List Int} (hw : a.wf) (hT : TileOk a mk) (ho : ∀ p : Int, 0 ≤ p → p < mk.length → hdM mk p → objP a mk p) {p : Int} (p0 : 0 ≤ p) (p1 : p < mk.length) (hp : hdM mk p) (hk : kdW a.ws p = 1) : TextAt a p := by
  have hH := hT.head p0 p1 hp
  obtain ⟨s1, s2, s3⟩ := (ho p p0 p1 hp).2.1 hk
  have := (gw_in hw.w (p + 1)).1
  have := hH.pz
  exact ⟨p0, s1, by omega, by omega⟩
theorem key_ok {a : Ar} {mk : List Int} (hw : a.wf) (hN : NumP a) (hT : TileOk a mk) (ho : ∀ p : Int, 0 ≤ p → p < mk.length → hdM mk p → objP a mk p) {v : Vl} {frm : Int} (h1 : valOkB v = true) (h2 : leadsB a mk v frm = true) (h3 : v.1 ≠ 8) (h4 : v.1 ≠ 9) (h5 : v.1 ≠ 0) : KeyOk a v := by
  have t := valOk_tag h1
  have hM := hT.mkOk hw hN
  have hn := hT.n
  refine ⟨h1, by omega, by omega, fun hr => ?_, fun e => ?_⟩
  · obtain ⟨l1, l2, l3⟩ := leads_ok h2 hr
    have := ref_pos h1 hr
    have := hM.w v.2 (by omega) l1 l2
    exact ⟨by omega, this⟩
  · have hr : isRefB v = true := by unfold isRefB kindT; rw [e]; rfl
    obtain ⟨l1, l2, l3⟩ := leads_ok h2 hr
    have := ref_pos h1 hr
    obtain ⟨w1, w2, w3⟩ := hT.where_ hw (by omega) l1 l2
    refine text_at hw hT ho w1 w2 w3 (l3.trans ?_)
    unfold kindT; rw [e]; rfl
theorem blk_ok {a : Ar} {mk : List Int} (hw : a.wf) (hN : NumP a) (hT : TileOk a mk) (ho : ∀ p : Int, 0 ≤ p → p < mk.length → hdM mk p → objP a mk p) {p : Int} (p0 : 0 ≤ p) (p1 : p < mk.length) (hp : hdM mk p) (hk : kdW a.ws p = 3) : BlkOk a p (blkN a.ws p) := by
  have hH := hT.head p0 p1 hp
  obtain ⟨e1, e2, e3, e4⟩ := hH.look hw
  have hk : (lookW a.ws p).1 = 3 := hk
  have hz := hH.pz
  have hn := hT.n
  have hs : (lookW a.ws p).2.1 = 16 ∨ (lookW a.ws p).2.1 = 32 ∨ (lookW a.ws p).2.1 = 64 ∨ (lookW a.ws p).2.1 = 128 ∨ (lookW a.ws p).2.1 = 256 := by
    rw [hk] at e2
    unfold sizeB at e2
    simpa using e2
  have hb : blkN a.ws p = (lookW a.ws p).2.1 / 4 := rfl
  refine ⟨p0, by omega, by omega, by omega, fun i i0 i1 => ?_⟩
  have hx : 1 + 4 * i ∈ slotsL (lookW a.ws p).1 (lookW a.ws p).2.1 := by
    unfold slotsL
    rw [hk]
    have ef : fromK 3 (lookW a.ws p).2.1 = 1 := by unfold fromK; rw [if_neg (by decide), if_pos (by decide)]
    rw [ef]
    have := mem_every (f := 1) (n := numK 1 (lookW a.ws p).2.1) (2 * i).toNat (by unfold numK; omega)
    rwa [show 1 + 2 * (((2 * i).toNat : Nat) : Int) = 1 + 4 * i by omega] at this
  obtain ⟨v1, v2, v3⟩ := (ho p p0 p1 hp).1 _ hx
  rw [show p + (1 + 4 * i) = p + 1 + 4 * i by omega] at v1 v2 v3
  refine ⟨v1, ?_⟩
  by_cases c : (valW a.ws (p + 1 + 4 * i)).1 = 0
  · exact .inl c
  · rw [hk] at v3
    refine .inr (key_ok hw hN hT ho v1 v2 (fun e => ?_) (fun e => ?_) c) <;> (unfold ruleB at v3; rw [e] at v3; revert v3; decide)
theorem tab_at {a : Ar} {mk : List Int} (hw : a.wf) (hN : NumP a) (hT : TileOk a mk) (ho : ∀ p : Int, 0 ≤ p → p < mk.length → hdM mk p → objP a mk p) {p : Int} (p0 : 0 ≤ p) (p1 : p < mk.length) (hp : hdM mk p) (hk : kdW a.ws p = 2) : TabAt a p := by
  have hH := hT.head p0 p1 hp
  obtain ⟨e1, e2, e3, e4⟩ := hH.look hw
  have hk : (lookW a.ws p).1 = 2 := hk
  have hz := hH.pz
  have hn := hT.n
  have hM := hT.mkOk hw hN
  have hs : (lookW a.ws p).2.1 = 3 := by
    rw [hk] at e2
    unfold sizeB at e2
    simpa using e2
  have hx : (2 : Int) ∈ slotsL (lookW a.ws p).1 (lookW a.ws p).2.1 := by rw [hk, hs]; decide
  obtain ⟨v1, v2, v3⟩ := (ho p p0 p1 hp).1 _ hx
  refine ⟨p0, by omega, v1, fun e => ?_⟩
  have hr : isRefB (valW a.ws (p + 2)) = true := by unfold isRefB kindT; rw [e]; rfl
  obtain ⟨l1, l2, l3⟩ := leads_ok v2 hr
  have := ref_pos v1 hr
  obtain ⟨w1, w2, w3⟩ := hT.where_ hw (by omega) l1 l2
  have hb := blk_ok hw hN hT ho w1 w2 w3 (l3.trans (by unfold kindT; rw [e]; rfl))
  exact ⟨by omega, hb, (look_b hw _).1, (hM.w _ (by omega) l1 l2).2.2⟩
theorem tabs_tag {a : Ar} {mk : List Int} : ∀ (d : Nat) (p : Int) (had : List Int), tabsP a mk d p had → ∀ q : Int, p ≤ q → q < p + d → hdM mk q → kdW a.ws q = 2 → (valW a.ws (q + 2)).1 = 0 ∨ (valW a.ws (q + 2)).1 = 8
  | 0, p, had, h, q, h1, h2, h3, h4 => by omega
  | d + 1, p, had, h, q, h1, h2, h3, h4 => by
    unfold tabsP at h
    by_cases e : q = p
    · subst e
      rw [if_pos ⟨h3, h4⟩] at h
      have h := h.1
      unfold tabP at h
      by_cases c : (valW a.ws (q + 2)).1 = 0
      · exact .inl c
      · rw [if_neg c] at h; exact .inr h.1
    · by_cases c : hdM mk p ∧ kdW a.ws p = 2
      · rw [if_pos c] at h; exact tabs_tag d _ _ h.2 q (by omega) (by omega) h3 h4
      · rw [if_neg c] at h; exact tabs_tag d _ _ h q (by omega) (by omega) h3 h4
theorem objQ_P {a : Ar} {mk : List Int} {p : Int} (h : objQ a mk p) : objP a mk p := by
  refine ⟨fun x hx => ?_, h.2⟩
  obtain ⟨h1, h2, h3⟩ := h.1 x hx
  refine ⟨h1, h2, ?_⟩
  unfold ruleI at h3
  rw [Bool.and_eq_true] at h3
  exact h3.1
theorem objP_Q {a : Ar} {mk : List Int} (hw : a.wf) {p : Int} (hH : HeadAt a p) (h : objP a mk p) (ht : kdW a.ws p = 2 → (valW a.ws (p + 2)).1 = 0 ∨ (valW a.ws (p + 2)).1 = 8) : objQ a mk p := by
  refine ⟨fun x hx => ?_, h.2⟩
  obtain ⟨h1, h2, h3⟩ := h.1 x hx
  refine ⟨h1, h2, ?_⟩
  unfold ruleI
  rw [h3]
  by_cases k : (lookW a.ws p).1 = 2
  · obtain ⟨e1, e2, e3, e4⟩ := hH.look hw
    have hs : (lookW a.ws p).2.1 = 3 := by
      rw [k] at e2
      unfold sizeB at e2
      simpa using e2
    rw [k, hs] at hx
    have hx : x ∈ [(2 : Int)] := hx
    rw [List.mem_singleton] at hx
    rw [hx, k]
    rcases ht k with t | t <;> rw [t] <;> rfl
  · rw [show ((lookW a.ws p).1 == 2) = false by rw [beq_eq_false_iff_ne]; exact k]; rfl
/-- The program looks at a table's slot sooner. -/
theorem okQ {a : Ar} {mk : List Int} (hw : a.wf) (hN : NumP a) (ht : tileO a = some mk) : ((∀ p : Int, 0 ≤ p → p < mk.length → hdM mk p → objP a mk p) ∧ tabsP a mk a.ws.length 0 []) ↔ ((∀ p : Int, 0 ≤ p → p < mk.length → hdM mk p → objQ a mk p) ∧ tabsP a mk a.ws.length 0 []) := by
  have hT := tile_ok hw hN ht
  have hn := hT.n
  constructor
  · rintro ⟨h1, h2⟩
    exact ⟨fun p p0 p1 hp => objP_Q hw (hT.head p0 p1 hp) (h1 p p0 p1 hp) fun hk => tabs_tag _ _ _ h2 p p0 (by omega) hp hk, h2⟩
  · rintro ⟨h1, h2⟩
    exact ⟨fun p p0 p1 hp => objQ_P (h1 p p0 p1 hp), h2⟩
end Go.Proofs.YtjdcndicaeodbaaGreat.Abs
