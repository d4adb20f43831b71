/- Arenas: how a half is gone over (plain). -/
import Derived.Test.YtjdcndicaeodbaaGreatRo
namespace Go.Proofs.YtjdcndicaeodbaaGreat.Abs
open Go.RowKit
set_option linter.unusedVariables false
set_option linter.unusedSimpArgs false
set_option maxRecDepth 20000
def szW (ws : List U64) (p : Int) : Int := (lookW ws p).2.1
def serW (ws : List U64) (p : Int) : Int := (lookW ws p).2.2
def setI (l : List Int) (i k : Int) : List Int := l.set i.toNat k
theorem setI_len (l : List Int) (i k : Int) : (setI l i k).length = l.length := by unfold setI; rw [List.length_set]
theorem gi_set {l : List Int} {i k q : Int} (i0 : 0 ≤ i) (i1 : i < l.length) (q0 : 0 ≤ q) : gi (setI l i k) q = if q = i then k else gi l q := by
  unfold gi setI
  rw [List.getD_eq_getElem?_getD, List.getElem?_set]
  by_cases c : q = i
  · subst c
    rw [if_pos rfl, if_pos (by omega), if_pos rfl]; rfl
  · rw [if_neg (by omega), if_neg c, ← List.getD_eq_getElem?_getD]
theorem hdW_b {w : Int} (h : inW w) : 0 ≤ (hdW w).2.1 ∧ (hdW w).2.1 ≤ 65535 ∧ 0 ≤ (hdW w).2.2 ∧ (hdW w).2.2 ≤ 17592186044416 := by
  obtain ⟨h0, h1⟩ := h
  unfold hdW
  exact ⟨by show 0 ≤ w / 16 % 65536; omega, by show w / 16 % 65536 ≤ 65535; omega, by show 0 ≤ w / 1048576; omega, by show w / 1048576 ≤ 17592186044416; omega⟩
theorem look_b {a : Ar} (hw : a.wf) (p : Int) : 0 ≤ szW a.ws p ∧ szW a.ws p ≤ 65535 ∧ 0 ≤ serW a.ws p ∧ serW a.ws p ≤ 17592186044416 := by
  have := hdW_b (gw_in hw.w p)
  unfold szW serW lookW readH
  split
  · exact this
  · exact ⟨by decide, by decide, by decide, by decide⟩
theorem ok_fwd {w : Int} (h0 : inW w) (h : okW w = true) : (fwd w).2 = false := by
  unfold fwd
  by_cases c : w < 9223372036854775808
  · rw [if_pos (.inl c)]
  · exfalso
    unfold okW hdOk at h
    rw [Bool.and_eq_true] at h
    have h := h.2
    split at h <;> rw [decide_eq_true_eq] at h <;> omega
theorem fwd_b (w : Int) : 0 ≤ (fwd w).1 ∧ (fwd w).1 ≤ 2147483647 := by
  unfold fwd
  split
  · exact ⟨by decide, by decide⟩
  · rename_i h; exact ⟨by show 0 ≤ w - 9223372036854775808; omega, by show w - 9223372036854775808 ≤ 2147483647; omega⟩
/-- Where a word leads to. -/
def toW (ws : List U64) (p : Int) : Int := (fwd (gw ws p)).1
/-- A half is gone over from a place on: the marks, and how many words are copied. -/
def wk (a : Ar) (to_ k : Int) : Nat → Int → List Int → List Int → Int → Option (List Int × Int)
  | 0, _, _, _, _ => none
  | f + 1, p, mk, led, sum =>
    if p = to_ then some (mk, sum) else
    if okW (gw a.ws p) = true then
      if serW a.ws p < a.ser ∧ p + szW a.ws p + 1 ≤ to_ then wk a to_ k f (p + szW a.ws p + 1) (setI mk p k) led sum else none
    else if k = 2 ∧ (fwd (gw a.ws p)).2 = true ∧ toW a.ws p < a.ws.length ∧ gi mk (toW a.ws p) = 1 ∧ toW a.ws p ∉ led ∧ p + szW a.ws (toW a.ws p) + 1 ≤ to_ then
      wk a to_ k f (p + szW a.ws (toW a.ws p) + 1) (setI mk p 3) (toW a.ws p :: led) (sum + szW a.ws (toW a.ws p) + 1)
    else none
/-- What stands at a marked place. -/
def headI (a : Ar) (to_ q : Int) : Prop := okW (gw a.ws q) = true ∧ serW a.ws q < a.ser ∧ q + szW a.ws q + 1 ≤ to_
def goneI (a : Ar) (mk : List Int) (q : Int) : Prop := (fwd (gw a.ws q)).2 = true ∧ toW a.ws q < a.ws.length ∧ gi mk (toW a.ws q) = 1
structure After (a : Ar) (k p to_ : Int) (mk mk' : List Int) (sum sum' : Int) : Prop where
  n : mk'.length = mk.length
  o : ∀ q, 0 ≤ q → q < p ∨ to_ ≤ q → gi mk' q = gi mk q
  i : ∀ q, p ≤ q → q < to_ → gi mk' q = gi mk q ∨ gi mk' q = k ∧ headI a to_ q ∨ k = 2 ∧ gi mk' q = 3 ∧ goneI a mk q
  s : sum ≤ sum' ∧ sum' - sum ≤ to_ - p
theorem wk_ok {a : Ar} (hw : a.wf) {to_ k : Int} : ∀ (f : Nat) (p : Int) (mk led : List Int) (sum : Int) (mk' : List Int) (sum' : Int), 0 ≤ p → p ≤ to_ → to_ ≤ mk.length → wk a to_ k f p mk led sum = some (mk', sum') → After a k p to_ mk mk' sum sum'
  | 0, p, mk, led, sum, mk', sum', _, _, _, h => by cases h
  | f + 1, p, mk, led, sum, mk', sum', p0, p1, tl, h => by
    unfold wk at h
    by_cases c : p = to_
    · rw [if_pos c] at h
      cases h
      exact ⟨rfl, fun _ _ _ => rfl, fun q h1 h2 => by omega, ⟨by omega, by omega⟩⟩
    rw [if_neg c] at h
    by_cases c1 : okW (gw a.ws p) = true
    · rw [if_pos c1] at h
      by_cases c2 : serW a.ws p < a.ser ∧ p + szW a.ws p + 1 ≤ to_
      · rw [if_pos c2] at h
        have b := look_b hw p
        have r := wk_ok hw f _ _ _ _ _ _ (by omega) c2.2 (by rw [setI_len]; exact tl) h
        have e : ∀ q, 0 ≤ q → gi (setI mk p k) q = if q = p then k else gi mk q := fun q q0 => gi_set p0 (by omega) q0
        refine ⟨by rw [r.n, setI_len], fun q q0 hq => ?_, fun q h1 h2 => ?_, ⟨r.s.1, by have := r.s.2; omega⟩⟩
        · rw [r.o q q0 (by omega), e q q0, if_neg (by omega)]
        · by_cases d : q < p + szW a.ws p + 1
          · have := r.o q (by omega) (.inl d)
            rw [e q (by omega)] at this
            by_cases d2 : q = p
            · rw [if_pos d2] at this
              subst d2
              exact .inr (.inl ⟨this, c1, c2.1, c2.2⟩)
            · rw [if_neg d2] at this; exact .inl this
          · have := r.i q (by omega) h2
            rw [e q (by omega), if_neg (by omega)] at this
            rcases this with t | t | ⟨t1, t2, t3, t4, t5⟩
            · exact .inl t
            · exact .inr (.inl t)
            · refine .inr (.inr ⟨t1, t2, t3, t4, ?_⟩)
              rw [e (toW a.ws q) (fwd_b _).1] at t5
              split at t5
              · omega
              · exact t5
      · rw [if_neg c2] at h; cases h
    · rw [if_neg c1] at h
      by_cases c2 : k = 2 ∧ (fwd (gw a.ws p)).2 = true ∧ toW a.ws p < a.ws.length ∧ gi mk (toW a.ws p) = 1 ∧ toW a.ws p ∉ led ∧ p + szW a.ws (toW a.ws p) + 1 ≤ to_
      · rw [if_pos c2] at h
        obtain ⟨k2, f2, t2, g2, l2, b2⟩ := c2
        have b := look_b hw (toW a.ws p)
        have r := wk_ok hw f _ _ _ _ _ _ (by omega) b2 (by rw [setI_len]; exact tl) h
        have e : ∀ q, 0 ≤ q → gi (setI mk p 3) q = if q = p then 3 else gi mk q := fun q q0 => gi_set p0 (by omega) q0
        refine ⟨by rw [r.n, setI_len], fun q q0 hq => ?_, fun q h1 h2 => ?_, ⟨by have := r.s.1; omega, by have := r.s.2; omega⟩⟩
        · rw [r.o q q0 (by omega), e q q0, if_neg (by omega)]
        · by_cases d : q < p + szW a.ws (toW a.ws p) + 1
          · have := r.o q (by omega) (.inl d)
            rw [e q (by omega)] at this
            by_cases d2 : q = p
            · rw [if_pos d2] at this
              subst d2
              exact .inr (.inr ⟨k2, this, f2, t2, g2⟩)
            · rw [if_neg d2] at this; exact .inl this
          · have := r.i q (by omega) h2
            rw [e q (by omega), if_neg (by omega)] at this
            rcases this with t | t | ⟨t1, t2, t3, t4, t5⟩
            · exact .inl t
            · exact .inr (.inl t)
            · refine .inr (.inr ⟨t1, t2, t3, t4, ?_⟩)
              rw [e (toW a.ws q) (fwd_b _).1] at t5
              split at t5
              · omega
              · exact t5
      · rw [if_neg c2] at h; cases h
/-- The marks of an arena that is tiled. -/
def scanP (a : Ar) (mk : List Int) : Prop := a.scan = a.top ∨ 0 ≤ a.scan ∧ a.scan < a.ws.length ∧ gi mk a.scan = 1
instance (a : Ar) (mk : List Int) : Decidable (scanP a mk) := by unfold scanP; infer_instance
def zeroA (a : Ar) : List Int := List.replicate a.ws.length 0
def tile1 (a : Ar) : Option (List Int × Int) := wk a a.top 1 (a.ws.length + 1) (startA a a.to) (zeroA a) [] 0
def tile2 (a : Ar) (mk : List Int) : Option (List Int × Int) := wk a a.old 2 (a.ws.length + 1) (startA a (1 - a.to)) mk [] 0
def tileO (a : Ar) : Option (List Int) :=
  match tile1 a with
  | none => none
  | some (mk, _) => if a.cyc = true then
      match tile2 a mk with
      | none => none
      | some (mk2, sum) => if sum = a.cop ∧ scanP a mk2 then some mk2 else none
    else some mk
theorem gi_zero (n : Nat) (q : Int) : gi (List.replicate n 0) q = 0 := by
  unfold gi
  rw [List.getD_eq_getElem?_getD, List.getElem?_replicate]
  split <;> rfl
def hdM (mk : List Int) (p : Int) : Prop := gi mk p = 1 ∨ gi mk p = 2
structure TileOk (a : Ar) (mk : List Int) : Prop where
  n : mk.length = a.ws.length
  v : ∀ p : Int, 0 ≤ p → p < mk.length → gi mk p = 0 ∨ gi mk p = 1 ∨ gi mk p = 2 ∨ gi mk p = 3
  h : ∀ p : Int, 0 ≤ p → p < mk.length → hdM mk p → okW (gw a.ws p) = true ∧ serW a.ws p < a.ser ∧ p + szW a.ws p < a.ws.length
  c : ∀ p : Int, 0 ≤ p → p < mk.length → gi mk p = 1 → startA a a.to ≤ p ∧ p + szW a.ws p + 1 ≤ a.top
  o : ∀ p : Int, 0 ≤ p → p < mk.length → gi mk p = 2 ∨ gi mk p = 3 → a.cyc = true ∧ startA a (1 - a.to) ≤ p ∧ p < a.old
  g : ∀ p : Int, 0 ≤ p → p < mk.length → gi mk p = 3 → (fwd (gw a.ws p)).2 = true ∧ toW a.ws p < a.ws.length ∧ gi mk (toW a.ws p) = 1
theorem halves {a : Ar} (h : NumP a) : startA a a.to ≤ a.top ∧ a.top ≤ endA a a.to ∧ endA a a.to ≤ a.ws.length ∧ 1 ≤ startA a a.to ∧ 1 ≤ startA a (1 - a.to) ∧ endA a (1 - a.to) ≤ a.ws.length ∧ (endA a a.to < startA a (1 - a.to) ∨ endA a (1 - a.to) < startA a a.to) := by
  have hsm := h.sm
  have e1 := startA_eq (a := a) hsm.t0 hsm.t1
  have e2 := startA_eq (a := a) (h := 1 - a.to) (by have := hsm.t1; omega) (by have := hsm.t0; omega)
  have e3 := endA_eq (a := a) hsm.t0 hsm.t1
  have e4 := endA_eq (a := a) (h := 1 - a.to) (by have := hsm.t1; omega) (by have := hsm.t0; omega)
  have := hsm.t0
  have := hsm.t1
  have := hsm.s0
  have := hsm.s1
  have := hsm.l
  have := h.p0
  have := h.p1
  refine ⟨h.p0, h.p1, ?_⟩
  rw [e1, e2, e3, e4]
  split <;> split <;> omega
theorem tile1_ok {a : Ar} (hw : a.wf) (h : NumP a) {mk : List Int} {x : Int} (ht : tile1 a = some (mk, x)) : mk.length = a.ws.length ∧ ∀ p : Int, 0 ≤ p → gi mk p = 0 ∨ gi mk p = 1 ∧ startA a a.to ≤ p ∧ headI a a.top p := by
  have hh := halves h
  have hz : (zeroA a).length = a.ws.length := by unfold zeroA; rw [List.length_replicate]
  have r := wk_ok hw _ _ _ _ _ _ _ (by omega) (by omega) (by omega) ht
  refine ⟨by rw [r.n, hz], fun p p0 => ?_⟩
  have e0 : gi (zeroA a) p = 0 := gi_zero _ _
  by_cases c : startA a a.to ≤ p ∧ p < a.top
  · rcases r.i p c.1 c.2 with t | t | t
    · exact .inl (by rw [t, e0])
    · exact .inr ⟨t.1, c.1, t.2⟩
    · omega
  · exact .inl (by rw [r.o p p0 (by omega), e0])
theorem tile2_ok {a : Ar} (hw : a.wf) (h : NumP a) (hc : a.cyc = true) {mk mk2 : List Int} {x y : Int} (ht : tile1 a = some (mk, x)) (ht2 : tile2 a mk = some (mk2, y)) :
    mk2.length = a.ws.length ∧ 0 ≤ y ∧ y ≤ a.old - startA a (1 - a.to) ∧ ∀ p : Int, 0 ≤ p → gi mk2 p = gi mk p ∧ (p < startA a (1 - a.to) ∨ a.old ≤ p) ∨ gi mk p = 0 ∧ startA a (1 - a.to) ≤ p ∧ p < a.old ∧ (gi mk2 p = 0 ∨ gi mk2 p = 2 ∧ headI a a.old p ∨ gi mk2 p = 3 ∧ goneI a mk p) := by
  have hh := halves h
  have hf := h.f
  unfold freeP at hf
  rw [if_pos hc] at hf
  obtain ⟨n1, t1⟩ := tile1_ok hw h ht
  have r := wk_ok hw _ _ _ _ _ _ _ (by omega) (by omega) (by omega) ht2
  refine ⟨by rw [r.n, n1], r.s.1, by have := r.s.2; omega, fun p p0 => ?_⟩
  by_cases c : startA a (1 - a.to) ≤ p ∧ p < a.old
  · have z : gi mk p = 0 := by
      rcases t1 p p0 with t | ⟨t, t2, t3⟩
      · exact t
      · have := t3.2.2
        have := (look_b hw p).1
        omega
    rcases r.i p c.1 c.2 with t | t | t
    · exact .inr ⟨z, c.1, c.2, .inl (t.trans z)⟩
    · exact .inr ⟨z, c.1, c.2, .inr (.inl t)⟩
    · exact .inr ⟨z, c.1, c.2, .inr (.inr t.2)⟩
  · exact .inl ⟨r.o p p0 (by omega), by omega⟩
theorem tile_ok {a : Ar} (hw : a.wf) (h : NumP a) {mk : List Int} (ht : tileO a = some mk) : TileOk a mk := by
  unfold tileO at ht
  have hh := halves h
  have hf := h.f
  unfold freeP at hf
  cases e1 : tile1 a with
  | none => rw [e1] at ht; cases ht
  | some x =>
    obtain ⟨mk1, s1⟩ := x
    rw [e1] at ht
    have ht : (if a.cyc = true then match tile2 a mk1 with
      | none => none
      | some (mk2, sum) => if sum = a.cop ∧ scanP a mk2 then some mk2 else none
    else some mk1) = some mk := ht
    obtain ⟨n1, t1⟩ := tile1_ok hw h e1
    cases hc : a.cyc with
    | false =>
      rw [hc, if_neg (by decide)] at ht
      cases ht
      refine ⟨n1, fun p p0 p1 => ?_, fun p p0 p1 hp => ?_, fun p p0 p1 hp => ?_, fun p p0 p1 hp => ?_, fun p p0 p1 hp => ?_⟩ <;> rcases t1 p p0 with t | ⟨t, t2, t3, t4, t5⟩
      · exact .inl t
      · exact .inr (.inl t)
      · unfold hdM at hp; omega
      · exact ⟨t3, t4, by omega⟩
      · omega
      · exact ⟨t2, t5⟩
      all_goals omega
    | true =>
      rw [hc, if_pos rfl] at ht hf
      cases e2 : tile2 a mk1 with
      | none => rw [e2] at ht; cases ht
      | some y =>
        obtain ⟨mk2, s2⟩ := y
        rw [e2] at ht
        have ht : (if s2 = a.cop ∧ scanP a mk2 then some mk2 else none) = some mk := ht
        obtain ⟨n2, u0, u1, t2⟩ := tile2_ok hw h hc e1 e2
        split at ht
        case isFalse => cases ht
        cases ht
        have keep : ∀ q, 0 ≤ q → gi mk1 q = 1 → gi mk q = 1 := fun q q0 hq => by
          rcases t2 q q0 with u | u
          · rw [u.1]; exact hq
          · omega
        refine ⟨n2, fun p p0 p1 => ?_, fun p p0 p1 hp => ?_, fun p p0 p1 hp => ?_, fun p p0 p1 hp => ?_, fun p p0 p1 hp => ?_⟩
        · rcases t2 p p0 with ⟨u, v⟩ | ⟨u, v1, v2, w | ⟨w, x⟩ | ⟨w, x⟩⟩
          · rcases t1 p p0 with t | ⟨t, _⟩ <;> omega
          all_goals omega
        · rcases t2 p p0 with ⟨u, v⟩ | ⟨u, v1, v2, w | ⟨w, x⟩ | ⟨w, x⟩⟩
          · rcases t1 p p0 with t | ⟨t, y1, y2, y3, y4⟩
            · unfold hdM at hp; omega
            · exact ⟨y2, y3, by omega⟩
          · unfold hdM at hp; omega
          · exact ⟨x.1, x.2.1, by have := x.2.2; omega⟩
          · unfold hdM at hp; omega
        · rcases t2 p p0 with ⟨u, v⟩ | ⟨u, v1, v2, w | ⟨w, x⟩ | ⟨w, x⟩⟩
          · rcases t1 p p0 with t | ⟨t, y1, y2, y3, y4⟩
            · omega
            · exact ⟨y1, y4⟩
          all_goals omega
        · rcases t2 p p0 with ⟨u, v⟩ | ⟨u, v1, v2, w | ⟨w, x⟩ | ⟨w, x⟩⟩
          · rcases t1 p p0 with t | ⟨t, y1, y2, y3, y4⟩ <;> (exfalso; omega)
          all_goals first | exact ⟨hc, v1, v2⟩ | (exfalso; omega)
        · rcases t2 p p0 with ⟨u, v⟩ | ⟨u, v1, v2, w | ⟨w, x⟩ | ⟨w, x⟩⟩
          · rcases t1 p p0 with t | ⟨t, y1, y2, y3, y4⟩ <;> (exfalso; omega)
          · exfalso; omega
          · exfalso; omega
          · exact ⟨x.1, x.2.1, keep _ (fwd_b _).1 x.2.2⟩
theorem TileOk.mkOk {a : Ar} {mk : List Int} (h : TileOk a mk) (hw : a.wf) (hN : NumP a) : MkOk a mk := by
  have hh := halves hN
  have hf := hN.f
  unfold freeP at hf
  refine ⟨h.n, h.v, fun p p0 p1 hp => ?_⟩
  have hn := h.n
  rcases h.v p p0 p1 with e | e | e | e
  · exact absurd e hp
  · have := ok_fwd (gw_in hw.w p) (h.h p p0 p1 (.inl e)).1
    have ew : whereW a.ws p = p := by unfold whereW; rw [this]; rfl
    refine ⟨by omega, by omega, ?_⟩
    unfold placeA; rw [ew]; split <;> rfl
  · have := ok_fwd (gw_in hw.w p) (h.h p p0 p1 (.inr e)).1
    have ew : whereW a.ws p = p := by unfold whereW; rw [this]; rfl
    refine ⟨by omega, by omega, ?_⟩
    unfold placeA; rw [ew]; split <;> rfl
  · obtain ⟨g1, g2, g3⟩ := h.g p p0 p1 e
    obtain ⟨o1, o2, o3⟩ := h.o p p0 p1 (.inr e)
    rw [o1, if_pos rfl] at hf
    have ew : whereW a.ws p = toW a.ws p := by unfold whereW; rw [g1]; rfl
    have := (fwd_b (gw a.ws p)).1
    have eo : otherA a p = true := by unfold otherA; rw [decide_eq_true_eq]; omega
    refine ⟨by rw [ew]; exact this, by rw [ew]; exact g2, ?_⟩
    unfold placeA; rw [eo]; rfl
theorem TileOk.head {a : Ar} {mk : List Int} (h : TileOk a mk) {p : Int} (p0 : 0 ≤ p) (p1 : p < mk.length) (hp : hdM mk p) : HeadAt a p := ⟨p0, (h.h p p0 p1 hp).1, (h.h p p0 p1 hp).2.2⟩
theorem TileOk.where_ {a : Ar} {mk : List Int} (h : TileOk a mk) (hw : a.wf) {p : Int} (p0 : 0 ≤ p) (p1 : p < mk.length) (hp : gi mk p ≠ 0) : 0 ≤ whereW a.ws p ∧ whereW a.ws p < mk.length ∧ hdM mk (whereW a.ws p) := by
  have hn := h.n
  rcases h.v p p0 p1 with e | e | e | e
  · exact absurd e hp
  · have := ok_fwd (gw_in hw.w p) (h.h p p0 p1 (.inl e)).1
    have ew : whereW a.ws p = p := by unfold whereW; rw [this]; rfl
    rw [ew]; exact ⟨p0, p1, .inl e⟩
  · have := ok_fwd (gw_in hw.w p) (h.h p p0 p1 (.inr e)).1
    have ew : whereW a.ws p = p := by unfold whereW; rw [this]; rfl
    rw [ew]; exact ⟨p0, p1, .inr e⟩
  · obtain ⟨g1, g2, g3⟩ := h.g p p0 p1 e
    have ew : whereW a.ws p = toW a.ws p := by unfold whereW; rw [g1]; rfl
    rw [ew]; exact ⟨(fwd_b (gw a.ws p)).1, by omega, .inl g3⟩
end Go.Proofs.YtjdcndicaeodbaaGreat.Abs
