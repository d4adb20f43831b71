/- Arenas: how a half is gone over (plain). -/
import Derived.Test.YtpdcjocjkbgddaaGreatRo
namespace Go.Proofs.YtpdcjocjkbgddaaGreat.Abs
open Go.RowKit
set_option linter.unusedVariables false
set_option linter.unusedSimpArgs false
set_option maxRecDepth 20000
def szW (ws : List U64) (p : Int) : Int := (lookW ws p).2.1
def serW (ws : List U64) (p : Int) : Int := (lookW ws p).2.2
def setI (l : List Int) (i k : Int) : List Int := l.set i.toNat k
theorem setI_len (l : List Int) (i k : Int) : (setI l i k).length = l.length := by unfold setI; rw [List.length_set]
theorem gi_set {l : List Int} {i k q : Int} (i0 : 0 ≤ i) (i1 : i < l.length) (q0 : 0 ≤ q) : gi (setI l i k) q = if q = i then k else gi l q := by
  unfold gi setI
  rw [List.getD_eq_getElem?_getD, List.getElem?_set]
  by_cases c : q = i
  · subst c
    rw [if_pos rfl, if_pos (by omega), if_pos rfl]; rfl
  · rw [if_neg (by omega), if_neg c, ← List.getD_eq_getElem?_getD]
theorem hdW_b {w : Int} (h : inW w) : 0 ≤ (hdW w).2.1 ∧ (hdW w).2.1 ≤ 65535 ∧ 0 ≤ (hdW w).2.2 ∧ (hdW w).2.2 ≤ 17592186044416 := by
  obtain ⟨h0, h1⟩ := h
  unfold hdW
  exact ⟨by show 0 ≤ w / 16 % 65536; omega, by show w / 16 % 65536 ≤ 65535; omega, by show 0 ≤ w / 1048576; omega, by show w / 1048576 ≤ 17592186044416; omega⟩
theorem look_b {a : Ar} (hw : a.wf) (p : Int) : 0 ≤ szW a.ws p ∧ szW a.ws p ≤ 65535 ∧ 0 ≤ serW a.ws p ∧ serW a.ws p ≤ 17592186044416 := by
  have := hdW_b (gw_in hw.w p)
  unfold szW serW lookW readH
  split
  · exact this
  · exact ⟨by decide, by decide, by decide, by decide⟩
theorem ok_fwd {w : Int} (h0 : inW w) (h : okW w = true) : (fwd w).2 = false := by
  unfold fwd
  by_cases c : w < 9223372036854775808
  · rw [if_pos (.inl c)]
  · exfalso
    unfold okW hdOk at h
    rw [Bool.and_eq_true] at h
    have h := h.2
    split at h <;> rw [decide_eq_true_eq] at h <;> omega
theorem fwd_b (w : Int) : 0 ≤ (fwd w).1 ∧ (fwd w).1 ≤ 2147483647 := by
  unfold fwd
  split
  · exact ⟨by decide, by decide⟩
  · rename_i h; exact ⟨by show 0 ≤ w - 9223372036854775808; omega, by show w - 9223372036854775808 ≤ 2147483647; omega⟩
/-- Where a word leads to. -/
def toW (ws : List U64) (p : Int) : Int := (fwd (gw ws p)).1
/-- A half is gone over from a place on: the marks, and how many words are copied. -/
def wk (a : Ar) (to_ k : Int) : Nat → Int → List Int → List Int → Int → Option (List Int × Int)
  | 0, _, _, _, _ => none
  | f + 1, p, mk, led, sum =>
    if p = to_ then some (mk, sum) else
    if okW (gw a.ws p) = true then
      if serW a.ws p < a.ser ∧ p + szW a.ws p + 1 ≤ to_ then wk a to_ k f (p + szW a.ws p + 1) (setI mk p k) led sum else none
    else if k = 2 ∧ (fwd (gw a.ws p)).2 = true ∧ toW a.ws p < a.ws.length ∧ gi mk (toW a.ws p) = 1 ∧ toW a.ws p ∉ led ∧ p + szW a.ws (toW a.ws p) + 1 ≤ to_ then
      wk a to_ k f (p + szW a.ws (toW a.ws p) + 1) (setI mk p 3) (toW a.ws p :: led) (sum + szW a.ws (toW a.ws p) + 1)
    else none
/-- What stands at a marked place. -/
def headI (a : Ar) (to_ q : Int) : Prop := okW (gw a.ws q) = true ∧ serW a.ws q < a.ser ∧ q + szW a.ws q + 1 ≤ to_
def goneI (a : Ar) (mk : List Int) (q : Int) : Prop := (fwd (gw a.ws q)).2 = true ∧ toW a.ws q < a.ws.length ∧ gi mk (toW a.ws q) = 1
structure After (a : Ar) (k p to_ : Int) (mk mk' : List Int) (sum sum' : Int) : Prop where
  n : mk'.length = mk.length
  o : ∀ q, 0 ≤ q → q < p ∨ to_ ≤ q → gi mk' q = gi mk q
  i : ∀ q, p ≤ q → q < to_ → gi mk' q = gi mk q ∨ gi mk' q = k ∧ headI a to_ q ∨ k = 2 ∧ gi mk' q = 3 ∧ goneI a mk q
  s : sum ≤ sum' ∧ sum' - sum ≤ to_ - p
theorem wk_ok {a : Ar} (hw : a.wf) {to_ k : Int} : ∀ (f : Nat) (p : Int) (mk led : List Int) (sum : Int) (mk' : List Int) (sum' : Int), 0 ≤ p → p ≤ to_ → to_ ≤ mk.length → wk a to_ k f p mk led sum = some (mk', sum') → After a k p to_ mk mk' sum sum'
  | 0, p, mk, led, sum, mk', sum', _, _, _, h => by cases h
  | f + 1, p, mk, led, sum, mk', sum', p0, p1, tl, h => by
    unfold wk at h
    by_cases c : p = to_
    · rw [if_pos c] at h
      cases h
      exact ⟨rfl, fun _ _ _ => rfl, fun q h1 h2 => by omega, ⟨by omega, by omega⟩⟩
    rw [if_neg c] at h
    by_cases c1 : okW (gw a.ws p) = true
    · rw [if_pos c1] at h
      by_cases c2 : serW a.ws p < a.ser ∧ p + szW a.ws p + 1 ≤ to_
      · rw [if_pos c2] at h
        have b := look_b hw p
        have r := wk_ok hw f _ _ _ _ _ _ (by omega) c2.2 (by rw [setI_len]; exact tl) h
        have e : ∀ q, 0 ≤ q → gi (setI mk p k) q = if q = p then k else gi mk q := fun q q0 => gi_set p0 (by omega) q0
        refine ⟨by rw [r.n, setI_len], fun q q0 hq => ?_, fun q h1 h2 => ?_, ⟨r.s.1, by have := r.s.2; omega⟩⟩
        · rw [r.o q q0 (by omega), e q q0, if_neg (by omega)]
        · by_cases d : q < p + szW a.ws p + 1
          · have := r.o q (by omega) (.inl d)
            rw [e q (by omega)] at this
            by_cases d2 : q = p
            · rw [if_pos d2] at this
              subst d2
              exact .inr (.inl ⟨this, c1, c2.1, c2.2⟩)
            · rw [if_neg d2] at this; exact .inl this
          · have := r.i q (by omega) h2
            rw [e q (by omega), if_neg (by omega)] at this
            rcases this with t | t | ⟨t1, t2, t3, t4, t5⟩
            · exact .inl t
            · exact .inr (.inl t)
            · refine .inr (.inr ⟨t1, t2, t3, t4, ?_⟩)
              rw [e (toW a.ws q) (fwd_b _).1] at t5
              split at t5
              · omega
              · exact t5
      · rw [if_neg c2] at h; cases h
    · rw [if_neg c1] at h
      by_cases c2 : k = 2 ∧ (fwd (gw a.ws p)).2 = true ∧ toW a.ws p < a.ws.length ∧ gi mk (toW a.ws p) = 1 ∧ toW a.ws p ∉ led ∧ p + szW a.ws (toW a.ws p) + 1 ≤ to_
      · rw [if_pos c2] at h
        obtain ⟨k2, f2, t2, g2, l2, b2⟩ := c2
        have b := look_b hw (toW a.ws p)
        have r := wk_ok hw f _ _ _ _ _ _ (by omega) b2 (by rw [setI_len]; exact tl) h
        have e : ∀ q, 0 ≤ q → gi (setI mk p 3) q = if q = p then 3 else gi mk q := fun q q0 => gi_set p0 (by omega) q0
        refine ⟨by rw [r.n, setI_len], fun q q0 hq => ?_, fun q h1 h2 => ?_, ⟨by have := r.s.1; omega, by have := r.s.2; omega⟩⟩
        · rw [r.o q q0 (by omega), e q q0, if_neg (by omega)]
        · by_cases d : q < p + szW a.ws (toW a.ws p) + 1
          · have := r.o q (by omega) (.inl d)
            rw [e q (by omega)] at this
            by_cases d2 : q = p
            · rw [if_pos d2] at this
              subst d2
              exact .inr (.inr ⟨k2, this, f2, t2, g2⟩)
            · rw [if_neg d2] at this; exact .inl this
          · have := r.i q (by omega) h2
            rw [e q (by omega), if_neg (by omega)] at this
            rcases this with t | t | ⟨t1, t2, t3, t4, t5⟩
            · exact .inl t
            · exact .inr (.inl t)
            · refine .inr (.inr ⟨t1, t2, t3, t4, ?_⟩)
              rw [e (toW a.ws q) (fwd_b _).1] at t5
              split at t5
              · omega
              · exact t5
      · rw [if_neg c2] at h; cases h
/-- The marks of an arena that is tiled. -/
def scanP (a : Ar) (mk : List Int) : Prop := a.scan = a.top ∨ 0 ≤ a.scan ∧ a.scan < a.ws.length ∧ gi mk a.scan = 1
instance (a : Ar) (mk : List Int) : Decidable (scanP a mk) := by unfold scanP; infer_instance
def zeroA (a : Ar) : List Int := List.replicate a.ws.length 0
def tile1 (a : Ar) : Option (List Int × Int) := wk a a.top 1 (a.ws.length + 1) (startA a a.to) (zeroA a) [] 0
def tile2 (a : Ar) (mk : List Int) : Option (List Int × Int) := wk a a.old 2 (a.ws.length + 1) (startA a (1 - a.to)) mk [] 0
def tileO (a : Ar) : Option (List Int) :=
  match tile1 a with
  | none => none
  | some (mk, _) => if a.cyc = true then
      match tile2 a mk with
      | none => none
      | some (mk2, sum) => if sum = a.cop ∧ scanP a mk2 then some mk2 else none
    else some mk
theorem gi_zero (n : Nat) (q : Int) : gi (List.replicate n 0) q = 0 := by
  unfold gi
  rw [List.getD_eq_getElem?_getD, List.getElem?_replicate]
  split <;> rfl
def hdM (mk : List Int) (p : Int) : Prop := gi mk p = 1 ∨ gi mk p = 2
structure TileOk (a : Ar) (mk : List Int) : Prop where
  n : mk.length = a.ws.length
  v : ∀ p : Int, 0 ≤ p → p < mk.length → gi mk p = 0 ∨ gi mk p = 1 ∨ gi mk p = 2 ∨ gi mk p = 3
  h : ∀ p : Int, 0 ≤ p → p < mk.length → hdM mk p → okW (gw a.ws p) = true ∧ serW a.ws p < a.ser ∧ p + szW a.ws p < a.ws.length
  c : ∀ p : Int, 0 ≤ p → p < mk.length → gi mk p = 1 → startA a a.to ≤ p ∧ p + szW a.ws p + 1 ≤ a.top
  o : ∀ p : Int, 0 ≤ p → p < mk.length → gi mk p = 2 ∨ gi mk p = 3 → a.cyc = true ∧ startA a (1 - a.to) ≤ p ∧ p < a.old
  g : ∀ p : Int, 0 ≤ p → p < mk.length → gi mk p = 3 → (fwd (gw a.ws p)).2 = true ∧ toW a.ws p < a.ws.length ∧ gi mk (toW a.ws p) = 1
theorem halves {a : Ar} (h : NumP a) : startA a a.to ≤ a.top ∧ a.top ≤ endA a a.to ∧ endA a a.to ≤ a.ws.length ∧ 1 ≤ startA a a.to ∧ 1 ≤ startA a (1 - a.to) ∧ endA a (1 - a.to) ≤ a.ws.length ∧ (endA a a.to < startA a (1 - a.to) ∨ endA a (1 - a.to) < startA a a.to) := by
  have hsm := h.sm
  have e1 := startA_eq (a := a) hsm.t0 hsm.t1
  have e2 := startA_eq (a := a) (h := 1 - a.to) (by have := hsm.t1; omega) (by have := hsm.t0; omega)
  have e3 := endA_eq (a := a) hsm.t0 hsm.t1
  have e4 := endA_eq (a := a) (h := 1 - a.to) (by have := hsm.t1; omega) (by have := hsm.t0; omega)
  have := hsm.t0
  have := hsm.t1
  have := hsm.s0
  have := hsm.s1
  have := hsm.l
  have := h.p0
  have := h.p1
  refine ⟨h.p0, h.p1, ?_⟩
  rw [e1, e2, e3, e4]
  split <;> split <;> omega
theorem tile1_ok {a : Ar} (hw : a.wf) (h : NumP a) {mk : List Int} {x : Int} (ht : tile1 a = some (mk, x)) : mk.length = a.ws.length ∧ ∀ p : Int, 0 ≤ p → gi mk p = 0 ∨ gi mk p = 1 ∧ startA a a.to ≤ p ∧ headI a a.top p := by
  have hh := halves h
  have hz : (zeroA a).length = a.ws.length := by unfold zeroA; rw [List.length_replicate]
  have r := wk_ok hw _ _ _ _ _ _ _ (by omega) (by omega) (by omega) ht
  refine ⟨by rw [r.n, hz], fun p p0 => ?_⟩
  have e0 : gi (zeroA a) p = 0 := gi_zero _ _
  by_cases c : startA a a.to ≤ p ∧ p < a.top
  · rcases r.i p c.1 c.2 with t | t | t
    · exact .inl (by rw [t, e0])
    · exact .inr ⟨t.1, c.1, t.2⟩
    · omega
  · exact .inl (by rw [r.o p p0 (by omega), e0])
theorem tile2_ok {a : Ar} (hw : a.wf) (h : NumP a) (hc : a.cyc = true) {mk mk2 : List Int} {x y : Int} (ht : tile1 a = some (mk, x)) (ht2 : tile2 a mk = some (mk2, y)) :
    mk2.length = a.ws.length ∧ 0 ≤ y ∧ y ≤ a.old - startA a (1 - a.to) ∧ ∀ p : Int, 0 ≤ p → gi mk2 p = gi mk p ∧ (p < startA a (1 - a.to) ∨ a.old ≤ p) ∨ gi mk p = 0 ∧ startA a (1 - a.to) ≤ p ∧ p < a.old ∧ (gi mk2 p = 0 ∨ gi mk2 p = 2 ∧ headI a a.old p ∨ gi mk2 p = 3 ∧ goneI a mk p) := by
  have hh := halves h
  have hf := h.f
  unfold freeP at hf
  rw [if_pos hc] at hf
  obtain ⟨n1, t1⟩ := tile1_ok hw h ht
  have r := wk_ok hw _ _ _ _ _ _ _ (by omega) (by omega) (by omega) ht2
  refine ⟨by rw [r.n, n1], r.s.1, by have := r.s.2; omega, fun p p0 => ?_⟩
  by_cases c : startA a (1 - a.to) ≤ p ∧ p < a.old
  · have z : gi mk p = 0 := by
      rcases t1 p p0 with t | ⟨t, t2, t3⟩
      · exact t
      · have := t3.2.2
        have := (look_b hw p).1
        omega
    rcases r.i p c.1 c.2 with t | t | t
    · exact .inr ⟨z, c.1, c.2, .inl (t.trans z)⟩
    · exact .inr ⟨z, c.1, c.2, .inr (.inl t)⟩
    · exact .inr ⟨z, c.1, c.2, .inr (.inr t.2)⟩
  · exact .inl ⟨r.o p p0 (by omega), by omega⟩
theorem tile_ok {a : Ar} (hw : a.wf) (h : NumP a) {mk : List Int} (ht : tileO a = some mk) : TileOk a mk := by
  unfold tileO at ht
  have hh := halves h
  have hf := h.f
  unfold freeP at hf
  cases e1 : tile1 a with
  | none => rw [e1] at ht; cases ht
  | some x =>
    obtain ⟨mk1, s1⟩ := x
    rw [e1] at ht
    have ht : (if a.cyc = true then match tile2 a mk1 with
      | none => none
      | some (mk2, sum) => if sum = a.cop ∧ scanP a mk2 then some mk2 else none
    else some mk1) = some mk := ht
    obtain ⟨n1, t1⟩ := tile1_ok hw h e1
    cases hc : a.cyc with
    | false =>
      rw [hc, if_neg (by decide)] at ht
      cases ht
      refine ⟨n1, fun p p0 p1 => ?_, fun p p0 p1 hp => ?_, fun p p0 p1 hp => ?_, fun p p0 p1 hp => ?_, fun p p0 p1 hp => ?_⟩ <;> rcases t1 p p0 with t | ⟨t, t2, t3, t4, t5⟩
      · exact .inl t
      · exact .inr (.inl t)
      · unfold hdM at hp; omega
      · exact ⟨t3, t4, by omega⟩
      · omega
      · exact ⟨t2, t5⟩
      all_goals omega
    | true =>
      rw [hc, if_pos rfl] at ht hf
      cases e2 : tile2 a mk1 with
      | none => rw [e2] at ht; cases ht
      | some y =>
        obtain ⟨mk2, s2⟩ := y
        rw [e2] at ht
        have ht : (if s2 = a.cop ∧ scanP a mk2 then some mk2 else none) = some mk := ht
        obtain ⟨n2, u0, u1, t2⟩ := tile2_ok hw h hc e1 e2
        split at ht
        case isFalse => cases ht
        cases ht
        have keep : ∀ q, 0 ≤ q → gi mk1 q = 1 → gi mk q = 1 := fun q q0 hq => by
          rcases t2 q q0 with u | u
          · rw [u.1]; exact hq
          · omega
        refine ⟨n2, fun p p0 p1 => ?_, fun p p0 p1 hp => ?_, fun p p0 p1 hp => ?_, fun p p0 p1 hp => ?_, fun p p0 p1 hp => ?_⟩
        · rcases t2 p p0 with ⟨u, v⟩ | ⟨u, v1, v2, w | ⟨w, x⟩ | ⟨w, x⟩⟩
          · rcases t1 p p0 with t | ⟨t, _⟩ <;> omega
          all_goals omega
        · rcases t2 p p0 with ⟨u, v⟩ | ⟨u, v1, v2, w | ⟨w, x⟩ | ⟨w, x⟩⟩
          · rcases t1 p p0 with t | ⟨t, y1, y2, y3, y4⟩
            · unfold hdM at hp; omega
            · exact ⟨y2, y3, by omega⟩
          · unfold hdM at hp; omega
          · exact ⟨x.1, x.2.1, by have := x.2.2; omega⟩
          · unfold hdM at hp; omega
        · rcases t2 p p0 with ⟨u, v⟩ | ⟨u, v1, v2, w | ⟨w, x⟩ | ⟨w, x⟩⟩
          · rcases t1 p p0 with t | ⟨t, y1, y2, y3, y4⟩
            · omega
            · exact ⟨y1, y4⟩
          all_goals omega
        · rcases t2 p p0 with ⟨u, v⟩ | ⟨u, v1, v2, w | ⟨w, x⟩ | ⟨w, x⟩⟩
          · rcases t1 p p0 with t | ⟨t, y1, y2, y3, y4⟩ <;> (exfalso; omega)
          all_goals first | exact ⟨hc, v1, v2⟩ | (exfalso; omega)
        · rcases t2 p p0 with ⟨u, v⟩ | ⟨u, v1, v2, w | ⟨w, x⟩ | ⟨w, x⟩⟩
          · rcases t1 p p0 with t | ⟨t, y1, y2, y3, y4⟩ <;> (exfalso; omega)
          · exfalso; omega
          · exfalso; omega
          · exact ⟨x.1, x.2.1, keep _ (fwd_b _).1 x.2.2⟩
theorem TileOk.mkOk {a : Ar} {mk : List Int} (h : TileOk a mk) (hw : a.wf) (hN : NumP a) : MkOk a mk := by
  have hh := halves hN
  have hf := hN.f
  unfold freeP at hf
  refine ⟨h.n, h.v, fun p p0 p1 hp => ?_⟩
  have hn := h.n
  rcases h.v p p0 p1 with e | e | e | e
  · exact absurd e hp
  · have := ok_fwd (gw_in hw.w p) (h.h p p0 p1 (.inl e)).1
    have ew : whereW a.ws p = p := by unfold whereW; rw [this]; rfl
    refine ⟨by omega, by omega, ?_⟩
    unfold placeA; rw [ew]; split <;> rfl
  · have := ok_fwd (gw_in hw.w p) (h.h p p0 p1 (.inr e)).1
    have ew : whereW a.ws p = p := by unfold whereW; rw [this]; rfl
    refine ⟨by omega, by omega, ?_⟩
    unfold placeA; rw [ew]; split <;> rfl
  · obtain ⟨g1, g2, g3⟩ := h.g p p0 p1 e
    obtain ⟨o1, o2, o3⟩ := h.o p p0 p1 (.inr e)
    rw [o1, if_pos rfl] at hf
    have ew : whereW a.ws p = toW a.ws p := by unfold whereW; rw [g1]; rfl
    have := (fwd_b (gw a.ws p)).1
    have eo : otherA a p = true := by unfold otherA; rw [decide_eq_true_eq]; omega
    refine ⟨by rw [ew]; exact this, by rw [ew]; exact g2, ?_⟩
    unfold placeA; rw [eo]; rfl
theorem TileOk.head {a : Ar} {mk : List Int} (h : TileOk a mk) {p : Int} (p0 : 0 ≤ p) (p1 : p < mk.length) (hp : hdM mk p) : HeadAt a p := ⟨p0, (h.h p p0 p1 hp).1, (h.h p p0 p1 hp).2.2⟩
theorem TileOk.where_ {a : Ar} {mk : List Int} (h : TileOk a mk) (hw : a.wf) {p : Int} (p0 : 0 ≤ p) (p1 : p < mk.length) (hp : gi mk p ≠ 0) : 0 ≤ whereW a.ws p ∧ whereW a.ws p < mk.length ∧ hdM mk (whereW a.ws p) := by
  have hn := h.n
  rcases h.v p p0 p1 with e | e | e | e
  · exact absurd e hp
  · have := ok_fwd (gw_in hw.w p) (h.h p p0 p1 (.inl e)).1
    have ew : whereW a.ws p = p := by unfold whereW; rw [this]; rfl
    rw [ew]; exact ⟨p0, p1, .inl e⟩
  · have := ok_fwd (gw_in hw.w p) (h.h p p0 p1 (.inr e)).1
    have ew : whereW a.ws p = p := by unfold whereW; rw [this]; rfl
    rw [ew]; exact ⟨p0, p1, .inr e⟩
  · obtain ⟨g1, g2, g3⟩ := h.g p p0 p1 e
    have ew : whereW a.ws p = toW a.ws p := by unfold whereW; rw [g1]; rfl
    rw [ew]; exact ⟨(fwd_b (gw a.ws p)).1, by omega, .inl g3⟩
end Go.Proofs.YtpdcjocjkbgddaaGreat.Abs
/- Arenas: what a right arena is (plain). -/
namespace Go.Proofs.YtpdcjocjkbgddaaGreat.Abs
open Go.RowKit
set_option linter.unusedVariables false
set_option linter.unusedSimpArgs false
set_option maxRecDepth 20000
def serR (a : Ar) (mk : List Int) : Prop := ∀ p q : Int, 0 ≤ p → p < q → q < mk.length → hdM mk p → hdM mk q → serW a.ws p ≠ 0 → serW a.ws p ≠ serW a.ws q
def kdW (ws : List U64) (p : Int) : Int := (lookW ws p).1
open Classical in
/-- The tables from a place on, where had are the blocks of the ones before. -/
noncomputable def tabsP (a : Ar) (mk : List Int) : Nat → Int → List Int → Prop
  | 0, _, _ => True
  | d + 1, p, had => if hdM mk p ∧ kdW a.ws p = 2 then tabP a.ws p had ∧ tabsP a mk d (p + 1) (hadN a.ws p had) else tabsP a mk d (p + 1) had
def rootP (a : Ar) (mk : List Int) (v : Vl) : Prop := valOkB v = true ∧ v.1 ≠ 8 ∧ leadsB a mk v 1 = true
structure OkM (a : Ar) (mk : List Int) : Prop where
  N : NumP a
  t : tileO a = some mk
  s : serR a mk
  o : ∀ p : Int, 0 ≤ p → p < mk.length → hdM mk p → objP a mk p
  b : tabsP a mk a.ws.length 0 []
  r : ∀ v ∈ a.rs, rootP a mk v
def okP (a : Ar) : Prop := ∃ mk, OkM a mk
theorem leads_ok {a : Ar} {mk : List Int} {v : Vl} {frm : Int} (h : leadsB a mk v frm = true) (hr : isRefB v = true) : v.2 < mk.length ∧ gi mk v.2 ≠ 0 ∧ kdW a.ws (whereW a.ws v.2) = kindT v.1 := by
  unfold leadsB at h
  rw [hr, if_pos rfl] at h
  by_cases c : (mk.length : Int) ≤ v.2
  · rw [if_pos c] at h; cases h
  rw [if_neg c] at h
  split at h
  · rename_i d
    refine ⟨by omega, by omega, ?_⟩
    rw [decide_eq_true_eq] at h
    exact h
  · cases h
theorem objs_tag {a : Ar} {mk : List Int} {p x : Int} (h : objP a mk p) (hx : x ∈ slotsL (lookW a.ws p).1 (lookW a.ws p).2.1) : slotP a mk p (lookW a.ws p).1 x := h.1 x hx
theorem mem_every {f : Int} {n : Nat} (j : Nat) (h : j < n) : f + 2 * (j : Int) ∈ everyK f n := by
  unfold everyK
  exact List.mem_map.2 ⟨j, List.mem_range.2 h, rfl⟩
theorem text_at {a : Ar} {mk : List Int} (hw : a.wf) (hT : TileOk a mk) (ho : ∀ p : Int, 0 ≤ p → p < mk.length → hdM mk p → objP a mk p) {p : Int} (p0 : 0 ≤ p) (p1 : p < mk.length) (hp : hdM mk p) (hk : kdW a.ws p = 1) : TextAt a p := by
  have hH := hT.head p0 p1 hp
  obtain ⟨s1, s2, s3⟩ := (ho p p0 p1 hp).2.1 hk
  have := (gw_in hw.w (p + 1)).1
  have := hH.pz
  exact ⟨p0, s1, by omega, by omega⟩
theorem key_ok {a : Ar} {mk : List Int} (hw : a.wf) (hN : NumP a) (hT : TileOk a mk) (ho : ∀ p : Int, 0 ≤ p → p < mk.length → hdM mk p → objP a mk p) {v : Vl} {frm : Int} (h1 : valOkB v = true) (h2 : leadsB a mk v frm = true) (h3 : v.1 ≠ 8) (h4 : v.1 ≠ 9) (h5 : v.1 ≠ 0) : KeyOk a v := by
  have t := valOk_tag h1
  have hM := hT.mkOk hw hN
  have hn := hT.n
  refine ⟨h1, by omega, by omega, fun hr => ?_, fun e => ?_⟩
  · obtain ⟨l1, l2, l3⟩ := leads_ok h2 hr
    have := ref_pos h1 hr
    have := hM.w v.2 (by omega) l1 l2
    exact ⟨by omega, this⟩
  · have hr : isRefB v = true := by unfold isRefB kindT; rw [e]; rfl
    obtain ⟨l1, l2, l3⟩ := leads_ok h2 hr
    have := ref_pos h1 hr
    obtain ⟨w1, w2, w3⟩ := hT.where_ hw (by omega) l1 l2
    refine text_at hw hT ho w1 w2 w3 (l3.trans ?_)
    unfold kindT; rw [e]; rfl
theorem blk_ok {a : Ar} {mk : List Int} (hw : a.wf) (hN : NumP a) (hT : TileOk a mk) (ho : ∀ p : Int, 0 ≤ p → p < mk.length → hdM mk p → objP a mk p) {p : Int} (p0 : 0 ≤ p) (p1 : p < mk.length) (hp : hdM mk p) (hk : kdW a.ws p = 3) : BlkOk a p (blkN a.ws p) := by
  have hH := hT.head p0 p1 hp
  obtain ⟨e1, e2, e3, e4⟩ := hH.look hw
  have hk : (lookW a.ws p).1 = 3 := hk
  have hz := hH.pz
  have hn := hT.n
  have hs : (lookW a.ws p).2.1 = 16 ∨ (lookW a.ws p).2.1 = 32 ∨ (lookW a.ws p).2.1 = 64 ∨ (lookW a.ws p).2.1 = 128 ∨ (lookW a.ws p).2.1 = 256 := by
    rw [hk] at e2
    unfold sizeB at e2
    simpa using e2
  have hb : blkN a.ws p = (lookW a.ws p).2.1 / 4 := rfl
  refine ⟨p0, by omega, by omega, by omega, fun i i0 i1 => ?_⟩
  have hx : 1 + 4 * i ∈ slotsL (lookW a.ws p).1 (lookW a.ws p).2.1 := by
    unfold slotsL
    rw [hk]
    have ef : fromK 3 (lookW a.ws p).2.1 = 1 := by unfold fromK; rw [if_neg (by decide), if_pos (by decide)]
    rw [ef]
    have := mem_every (f := 1) (n := numK 1 (lookW a.ws p).2.1) (2 * i).toNat (by unfold numK; omega)
    rwa [show 1 + 2 * (((2 * i).toNat : Nat) : Int) = 1 + 4 * i by omega] at this
  obtain ⟨v1, v2, v3⟩ := (ho p p0 p1 hp).1 _ hx
  rw [show p + (1 + 4 * i) = p + 1 + 4 * i by omega] at v1 v2 v3
  refine ⟨v1, ?_⟩
  by_cases c : (valW a.ws (p + 1 + 4 * i)).1 = 0
  · exact .inl c
  · rw [hk] at v3
    refine .inr (key_ok hw hN hT ho v1 v2 (fun e => ?_) (fun e => ?_) c) <;> (unfold ruleB at v3; rw [e] at v3; revert v3; decide)
theorem tab_at {a : Ar} {mk : List Int} (hw : a.wf) (hN : NumP a) (hT : TileOk a mk) (ho : ∀ p : Int, 0 ≤ p → p < mk.length → hdM mk p → objP a mk p) {p : Int} (p0 : 0 ≤ p) (p1 : p < mk.length) (hp : hdM mk p) (hk : kdW a.ws p = 2) : TabAt a p := by
  have hH := hT.head p0 p1 hp
  obtain ⟨e1, e2, e3, e4⟩ := hH.look hw
  have hk : (lookW a.ws p).1 = 2 := hk
  have hz := hH.pz
  have hn := hT.n
  have hM := hT.mkOk hw hN
  have hs : (lookW a.ws p).2.1 = 3 := by
    rw [hk] at e2
    unfold sizeB at e2
    simpa using e2
  have hx : (2 : Int) ∈ slotsL (lookW a.ws p).1 (lookW a.ws p).2.1 := by rw [hk, hs]; decide
  obtain ⟨v1, v2, v3⟩ := (ho p p0 p1 hp).1 _ hx
  refine ⟨p0, by omega, v1, fun e => ?_⟩
  have hr : isRefB (valW a.ws (p + 2)) = true := by unfold isRefB kindT; rw [e]; rfl
  obtain ⟨l1, l2, l3⟩ := leads_ok v2 hr
  have := ref_pos v1 hr
  obtain ⟨w1, w2, w3⟩ := hT.where_ hw (by omega) l1 l2
  have hb := blk_ok hw hN hT ho w1 w2 w3 (l3.trans (by unfold kindT; rw [e]; rfl))
  exact ⟨by omega, hb, (look_b hw _).1, (hM.w _ (by omega) l1 l2).2.2⟩
theorem tabs_tag {a : Ar} {mk : List Int} : ∀ (d : Nat) (p : Int) (had : List Int), tabsP a mk d p had → ∀ q : Int, p ≤ q → q < p + d → hdM mk q → kdW a.ws q = 2 → (valW a.ws (q + 2)).1 = 0 ∨ (valW a.ws (q + 2)).1 = 8
  | 0, p, had, h, q, h1, h2, h3, h4 => by omega
  | d + 1, p, had, h, q, h1, h2, h3, h4 => by
    unfold tabsP at h
    by_cases e : q = p
    · subst e
      rw [if_pos ⟨h3, h4⟩] at h
      have h := h.1
      unfold tabP at h
      by_cases c : (valW a.ws (q + 2)).1 = 0
      · exact .inl c
      · rw [if_neg c] at h; exact .inr h.1
    · by_cases c : hdM mk p ∧ kdW a.ws p = 2
      · rw [if_pos c] at h; exact tabs_tag d _ _ h.2 q (by omega) (by omega) h3 h4
      · rw [if_neg c] at h; exact tabs_tag d _ _ h q (by omega) (by omega) h3 h4
theorem objQ_P {a : Ar} {mk : List Int} {p : Int} (h : objQ a mk p) : objP a mk p := by
  refine ⟨fun x hx => ?_, h.2⟩
  obtain ⟨h1, h2, h3⟩ := h.1 x hx
  refine ⟨h1, h2, ?_⟩
  unfold ruleI at h3
  rw [Bool.and_eq_true] at h3
  exact h3.1
theorem objP_Q {a : Ar} {mk : List Int} (hw : a.wf) {p : Int} (hH : HeadAt a p) (h : objP a mk p) (ht : kdW a.ws p = 2 → (valW a.ws (p + 2)).1 = 0 ∨ (valW a.ws (p + 2)).1 = 8) : objQ a mk p := by
  refine ⟨fun x hx => ?_, h.2⟩
  obtain ⟨h1, h2, h3⟩ := h.1 x hx
  refine ⟨h1, h2, ?_⟩
  unfold ruleI
  rw [h3]
  by_cases k : (lookW a.ws p).1 = 2
  · obtain ⟨e1, e2, e3, e4⟩ := hH.look hw
    have hs : (lookW a.ws p).2.1 = 3 := by
      rw [k] at e2
      unfold sizeB at e2
      simpa using e2
    rw [k, hs] at hx
    have hx : x ∈ [(2 : Int)] := hx
    rw [List.mem_singleton] at hx
    rw [hx, k]
    rcases ht k with t | t <;> rw [t] <;> rfl
  · rw [show ((lookW a.ws p).1 == 2) = false by rw [beq_eq_false_iff_ne]; exact k]; rfl
/-- The program looks at a table's slot sooner. -/
theorem okQ {a : Ar} {mk : List Int} (hw : a.wf) (hN : NumP a) (ht : tileO a = some mk) : ((∀ p : Int, 0 ≤ p → p < mk.length → hdM mk p → objP a mk p) ∧ tabsP a mk a.ws.length 0 []) ↔ ((∀ p : Int, 0 ≤ p → p < mk.length → hdM mk p → objQ a mk p) ∧ tabsP a mk a.ws.length 0 []) := by
  have hT := tile_ok hw hN ht
  have hn := hT.n
  constructor
  · rintro ⟨h1, h2⟩
    exact ⟨fun p p0 p1 hp => objP_Q hw (hT.head p0 p1 hp) (h1 p p0 p1 hp) fun hk => tabs_tag _ _ _ h2 p p0 (by omega) hp hk, h2⟩
  · rintro ⟨h1, h2⟩
    exact ⟨fun p p0 p1 hp => objQ_P (h1 p p0 p1 hp), h2⟩
end Go.Proofs.YtpdcjocjkbgddaaGreat.Abs
/- Arenas: the objects of the half in use; the census; what can be reached, the nearest first (plain). -/
namespace Go.Proofs.YtpdcjocjkbgddaaGreat.Abs
open Go.RowKit
set_option linter.unusedVariables false
set_option linter.unusedSimpArgs false
set_option maxRecDepth 20000
def objsF (a : Ar) : Nat → Int → List Int
  | 0, _ => []
  | f + 1, p => if p < a.top then p :: objsF a f (p + szW a.ws p + 1) else []
def objsL (a : Ar) : List Int := objsF a (a.ws.length + 1) (startA a a.to)
theorem objsF_ok {a : Ar} (hw : a.wf) : ∀ (f : Nat) (p : Int) (mk led : List Int) (sum : Int) (r : List Int × Int), wk a a.top 1 f p mk led sum = some r → ∀ q ∈ objsF a f p, p ≤ q ∧ headI a a.top q
  | 0, p, mk, led, sum, r, h, q, hq => by cases hq
  | f + 1, p, mk, led, sum, r, h, q, hq => by
    unfold objsF at hq
    unfold wk at h
    by_cases c : p < a.top
    case neg => rw [if_neg c] at hq; cases hq
    rw [if_pos c, List.mem_cons] at hq
    rw [if_neg (by omega)] at h
    by_cases c1 : okW (gw a.ws p) = true
    · rw [if_pos c1] at h
      by_cases c2 : serW a.ws p < a.ser ∧ p + szW a.ws p + 1 ≤ a.top
      · rw [if_pos c2] at h
        rcases hq with rfl | hq
        · exact ⟨Int.le_refl _, c1, c2.1, c2.2⟩
        · have := objsF_ok hw f _ _ _ _ _ h q hq
          have b := (look_b hw p).1
          exact ⟨by omega, this.2⟩
      · rw [if_neg c2] at h; cases h
    · rw [if_neg c1, if_neg (fun h => by have := h.1; omega)] at h
      cases h
theorem objsL_ok {a : Ar} (hw : a.wf) {mk : List Int} (h : OkM a mk) : ∀ q ∈ objsL a, startA a a.to ≤ q ∧ headI a a.top q := by
  have ht := h.t
  unfold tileO at ht
  cases e : tile1 a with
  | none => rw [e] at ht; cases ht
  | some r => exact objsF_ok hw _ _ _ _ _ r e
def w6 (x : Int) : Int := IntKind.i64.wrap x
def cenB (ws : List U64) (out : List Int) (p : Int) : List Int :=
  setI (setI out (2 * kdW ws p - 2) (w6 (gi out (2 * kdW ws p - 2) + 1))) (2 * kdW ws p - 1) (w6 (gi out (2 * kdW ws p - 1) + szW ws p + 1))
def cenL (a : Ar) : List Int := (objsL a).foldl (cenB a.ws) (List.replicate 12 0)
theorem cenB_len (ws : List U64) (out : List Int) (p : Int) : (cenB ws out p).length = out.length := by unfold cenB; rw [setI_len, setI_len]
/-- What was come to: a place, from where, by which slot, by which way. -/
structure Stp where
  p : Int
  frm : Int
  slot : Int
  way : List Int
def come (ws : List U64) (st : List Int × List Stp) (v : Vl) (frm slot : Int) (way : List Int) : List Int × List Stp :=
  if isRefB v = true ∧ whereW ws v.2 ∉ st.1 then (whereW ws v.2 :: st.1, st.2 ++ [⟨whereW ws v.2, frm, slot, way ++ [slot]⟩]) else st
def slotAt (ws : List U64) (p k : Int) : Int := (slotsL (kdW ws p) (szW ws p)).getD k.toNat 0
/-- The slots of what was come to at place i, from slot k on. -/
def comeS (ws : List U64) (p i : Int) (way : List Int) : Nat → Int → List Int × List Stp → List Int × List Stp
  | 0, _, st => st
  | d + 1, k, st => comeS ws p i way d (k + 1) (come ws st (valW ws (p + slotAt ws p k)) i k way)
def slotN (ws : List U64) (p : Int) : Nat := (slotsL (kdW ws p) (szW ws p)).length
def bfs (ws : List U64) : Nat → Nat → List Int × List Stp → List Stp
  | 0, _, st => st.2
  | f + 1, i, st => match st.2[i]? with
    | none => st.2
    | some e => bfs ws f (i + 1) (comeS ws e.p i e.way (slotN ws e.p) 0 st)
theorem come_pre (ws : List U64) (st : List Int × List Stp) (v : Vl) (frm slot : Int) (way : List Int) : st.2 <+: (come ws st v frm slot way).2 := by
  unfold come
  split
  · exact List.prefix_append _ _
  · exact List.prefix_refl _
theorem comeS_pre (ws : List U64) (p i : Int) (way : List Int) : ∀ (d : Nat) (k : Int) (st : List Int × List Stp), st.2 <+: (comeS ws p i way d k st).2
  | 0, _, _ => List.prefix_refl _
  | d + 1, k, st => List.IsPrefix.trans (come_pre ..) (comeS_pre ws p i way d _ _)
theorem bfs_pre (ws : List U64) : ∀ (f i : Nat) (st : List Int × List Stp), st.2 <+: bfs ws f i st
  | 0, _, _ => List.prefix_refl _
  | f + 1, i, st => by
    unfold bfs
    split
    · exact List.prefix_refl _
    · exact List.IsPrefix.trans (comeS_pre ..) (bfs_pre ws f _ _)
/-- The Roots of a list. -/
def comeR (a : Ar) : List Int → List Int × List Stp → List Int × List Stp
  | [], st => st
  | r :: rest, st => comeR a rest (come a.ws st (a.rs.getD r.toNat (0, 0)) (-1) r [])
def allR (a : Ar) : List Int := (List.range a.rs.length).map fun (j : Nat) => (j : Int)
def reachL (a : Ar) (roots : List Int) : List Stp := bfs a.ws (a.ws.length + 1) 0 (comeR a roots ([], []))
def wayA (a : Ar) (ser : Int) : List Int × Bool :=
  match (reachL a (allR a)).find? (fun e => decide (serW a.ws e.p = ser)) with
  | none => ([], false)
  | some e => (e.way, true)
/-- Ways are told by where one came from. -/
def wayI (S : List Stp) : Prop := ∀ (i : Nat) (e : Stp), S[i]? = some e → e.frm = -1 ∧ e.way = [e.slot] ∨ ∃ (j : Nat) (e' : Stp), e.frm = (j : Int) ∧ j < i ∧ S[j]? = some e' ∧ e.way = e'.way ++ [e.slot]
theorem wayI_app {S : List Stp} (h : wayI S) (e : Stp) (he : e.frm = -1 ∧ e.way = [e.slot] ∨ ∃ (j : Nat) (e' : Stp), e.frm = (j : Int) ∧ S[j]? = some e' ∧ e.way = e'.way ++ [e.slot]) : wayI (S ++ [e]) := by
  intro i x hx
  have keep : ∀ (j : Nat) (y : Stp), S[j]? = some y → j < S.length ∧ (S ++ [e])[j]? = some y := fun j y hy => by
    have hl : j < S.length := by
      rcases Nat.lt_or_ge j S.length with c | c
      · exact c
      · rw [List.getElem?_eq_none c] at hy; cases hy
    exact ⟨hl, by rw [List.getElem?_append_left hl]; exact hy⟩
  rcases Nat.lt_or_ge i S.length with c | c
  · rw [List.getElem?_append_left c] at hx
    rcases h i x hx with t | ⟨j, y, t1, t2, t3, t4⟩
    · exact .inl t
    · exact .inr ⟨j, y, t1, t2, (keep j y t3).2, t4⟩
  · rw [List.getElem?_append_right c] at hx
    have : i - S.length = 0 := by
      rcases Nat.eq_zero_or_pos (i - S.length) with z | z
      · exact z
      · rw [List.getElem?_eq_none (by simp only [List.length_cons, List.length_nil]; omega)] at hx; cases hx
    rw [this] at hx
    cases hx
    rcases he with t | ⟨j, y, t1, t2, t3⟩
    · exact .inl t
    · exact .inr ⟨j, y, t1, by have := (keep j y t2).1; omega, (keep j y t2).2, t3⟩
end Go.Proofs.YtpdcjocjkbgddaaGreat.Abs
