/- Arenas: the objects of the half in use; the census; what can be reached, the nearest first (plain). -/
import Derived.Test.YtjdcndicaeodbaaGreatRq
namespace Go.Proofs.YtjdcndicaeodbaaGreat.Abs
open Go.RowKit
set_option linter.unusedVariables false
set_option linter.unusedSimpArgs false
set_option maxRecDepth 20000
def objsF (a : Ar) : Nat → Int → List Int
  | 0, _ => []
  | f + 1, p => if p < a.top then p :: objsF a f (p + szW a.ws p + 1) else []
def objsL (a : Ar) : List Int := objsF a (a.ws.length + 1) (startA a a.to)
theorem objsF_ok {a : Ar} (hw : a.wf) : ∀ (f : Nat) (p : Int) (mk led : List Int) (sum : Int) (r : List Int × Int), wk a a.top 1 f p mk led sum = some r → ∀ q ∈ objsF a f p, p ≤ q ∧ headI a a.top q
  | 0, p, mk, led, sum, r, h, q, hq => by cases hq
  | f + 1, p, mk, led, sum, r, h, q, hq => by
    unfold objsF at hq
    unfold wk at h
    by_cases c : p < a.top
    case neg => rw [if_neg c] at hq; cases hq
    rw [if_pos c, List.mem_cons] at hq
    rw [if_neg (by omega)] at h
    by_cases c1 : okW (gw a.ws p) = true
    · rw [if_pos c1] at h
      by_cases c2 : serW a.ws p < a.ser ∧ p + szW a.ws p + 1 ≤ a.top
      · rw [if_pos c2] at h
        rcases hq with rfl | hq
        · exact ⟨Int.le_refl _, c1, c2.1, c2.2⟩
        · have := objsF_ok hw f _ _ _ _ _ h q hq
          have b := (look_b hw p).1
          exact ⟨by omega, this.2⟩
      · rw [if_neg c2] at h; cases h
    · rw [if_neg c1, if_neg (fun h => by have := h.1; omega)] at h
      cases h
theorem objsL_ok {a : Ar} (hw : a.wf) {mk : List Int} (h : OkM a mk) : ∀ q ∈ objsL a, startA a a.to ≤ q ∧ headI a a.top q := by
  have ht := h.t
  unfold tileO at ht
  cases e : tile1 a with
  | none => rw [e] at ht; cases ht
  | some r => exact objsF_ok hw _ _ _ _ _ r e
def w6 (x : Int) : Int := IntKind.i64.wrap x
def cenB (ws : List U64) (out : List Int) (p : Int) : List Int :=
  setI (setI out (2 * kdW ws p - 2) (w6 (gi out (2 * kdW ws p - 2) + 1))) (2 * kdW ws p - 1) (w6 (gi out (2 * kdW ws p - 1) + szW ws p + 1))
def cenL (a : Ar) : List Int := (objsL a).foldl (cenB a.ws) (List.replicate 12 0)
theorem cenB_len (ws : List U64) (out : List Int) (p : Int) : (cenB ws out p).length = out.length := by unfold cenB; rw [setI_len, setI_len]
/-- What was come to: a place, from where, by which slot, by which way. -/
structure Stp where
  p : Int
  frm : Int
  slot : Int
  way : List Int
def come (ws : List U64) (st : List Int × List Stp) (v : Vl) (frm slot : Int) (way : List Int) : List Int × List Stp :=
  if isRefB v = true ∧ whereW ws v.2 ∉ st.1 then (whereW ws v.2 :: st.1, st.2 ++ [⟨whereW ws v.2, frm, slot, way ++ [slot]⟩]) else st
def slotAt (ws : List U64) (p k : Int) : Int := (slotsL (kdW ws p) (szW ws p)).getD k.toNat 0
/-- The slots of what was come to at place i, from slot k on. -/
def comeS (ws : List U64) (p i : Int) (way : List Int) : Nat → Int → List Int × List Stp → List Int × List Stp
  | 0, _, st => st
  | d + 1, k, st => comeS ws p i way d (k + 1) (come ws st (valW ws (p + slotAt ws p k)) i k way)
def slotN (ws : List U64) (p : Int) : Nat := (slotsL (kdW ws p) (szW ws p)).length
def bfs (ws : List U64) : Nat → Nat → List Int × List Stp → List Stp
  | 0, _, st => st.2
  | f + 1, i, st => match st.2[i]? with
    | none => st.2
    | some e => bfs ws f (i + 1) (comeS ws e.p i e.way (slotN ws e.p) 0 st)
theorem come_pre (ws : List U64) (st : List Int × List Stp) (v : Vl) (frm slot : Int) (way : List Int) : st.2 <+: (come ws st v frm slot way).2 := by
  unfold come
  split
  · exact List.prefix_append _ _
  · exact List.prefix_refl _
theorem comeS_pre (ws : List U64) (p i : Int) (way : List Int) : ∀ (d : Nat) (k : Int) (st : List Int × List Stp), st.2 <+: (comeS ws p i way d k st).2
  | 0, _, _ => List.prefix_refl _
  | d + 1, k, st => List.IsPrefix.trans (come_pre ..) (comeS_pre ws p i way d _ _)
theorem bfs_pre (ws : List U64) : ∀ (f i : Nat) (st : List Int × List Stp), st.2 <+: bfs ws f i st
  | 0, _, _ => List.prefix_refl _
  | f + 1, i, st => by
    unfold bfs
    split
    · exact List.prefix_refl _
    · exact List.IsPrefix.trans (comeS_pre ..) (bfs_pre ws f _ _)
/-- The Roots of a list. -/
def comeR (a : Ar) : List Int → List Int × List Stp → List Int × List Stp
  | [], st => st
  | r :: rest, st => comeR a rest (come a.ws st (a.rs.getD r.toNat (0, 0)) (-1) r [])
def allR (a : Ar) : List Int := (List.range a.rs.length).map fun (j : Nat) => (j : Int)
def reachL (a : Ar) (roots : List Int) : List Stp := bfs a.ws (a.ws.length + 1) 0 (comeR a roots ([], []))
def wayA (a : Ar) (ser : Int) : List Int × Bool :=
  match (reachL a (allR a)).find? (fun e => decide (serW a.ws e.p = ser)) with
  | none => ([], false)
  | some e => (e.way, true)
/-- Ways are told by where one came from. -/
def wayI (S : List Stp) : Prop := ∀ (i : Nat) (e : Stp), S[i]? = some e → e.frm = -1 ∧ e.way = [e.slot] ∨ ∃ (j : Nat) (e' : Stp), e.frm = (j : Int) ∧ j < i ∧ S[j]? = some e' ∧ e.way = e'.way ++ [e.slot]
theorem wayI_app {S : List Stp} (h : wayI S) (e : Stp) (he : e.frm = -1 ∧ e.way = [e.slot] ∨ ∃ (j : Nat) (e' : Stp), e.frm = (j : Int) ∧ S[j]? = some e' ∧ e.way = e'.way ++ [e.slot]) : wayI (S ++ [e]) := by
  intro i x hx
  have keep : ∀ (j : Nat) (y : Stp), S[j]? = some y → j < S.length ∧ (S ++ [e])[j]? = some y := fun j y hy => by
    have hl : j < S.length := by
      rcases Nat.lt_or_ge j S.length with c | c
      · exact c
      · rw [List.getElem?_eq_none c] at hy; cases hy
    exact ⟨hl, by rw [List.getElem?_append_left hl]; exact hy⟩
  rcases Nat.lt_or_ge i S.length with c | c
  · rw [List.getElem?_append_left c] at hx
    rcases h i x hx with t | ⟨j, y, t1, t2, t3, t4⟩
    · exact .inl t
    · exact .inr ⟨j, y, t1, t2, (keep j y t3).2, t4⟩
  · rw [List.getElem?_append_right c] at hx
    have : i - S.length = 0 := by
      rcases Nat.eq_zero_or_pos (i - S.length) with z | z
      · exact z
      · rw [List.getElem?_eq_none (by simp only [List.length_cons, List.length_nil]; omega)] at hx; cases hx
    rw [this] at hx
    cases hx
    rcases he with t | ⟨j, y, t1, t2, t3⟩
    · exact .inl t
    · exact .inr ⟨j, y, t1, by have := (keep j y t2).1; omega, (keep j y t2).2, t3⟩
end Go.Proofs.YtjdcndicaeodbaaGreat.Abs
