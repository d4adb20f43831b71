/- Kin: places that can be reached; sorted rows (plain). -/
import Derived.Test.YtjdcndicaeodbaaGreatSn
namespace Go.Proofs.YtjdcndicaeodbaaGreat.Abs
open Go.RowKit
set_option linter.unusedVariables false
set_option linter.unusedSimpArgs false
set_option maxRecDepth 20000
def comeP (ws : List U64) (L : List Int) (v : Vl) : List Int := if isRefB v = true ∧ whereW ws v.2 ∉ L then L ++ [whereW ws v.2] else L
def comeSP (ws : List U64) (p : Int) : Nat → Int → List Int → List Int
  | 0, _, L => L
  | d + 1, k, L => comeSP ws p d (k + 1) (comeP ws L (valW ws (p + slotAt ws p k)))
def bfsP (ws : List U64) : Nat → Nat → List Int → List Int
  | 0, _, L => L
  | f + 1, i, L => match L[i]? with
    | none => L
    | some p => bfsP ws f (i + 1) (comeSP ws p (slotN ws p) 0 L)
def comeRP (ws : List U64) : List Vl → List Int → List Int
  | [], L => L
  | v :: r, L => comeRP ws r (comeP ws L v)
def reachP (ws : List U64) (rs : List Vl) : List Int := bfsP ws (ws.length + 1) 0 (comeRP ws rs [])
/-- What was come to, and its places. -/
def RelP (st : List Int × List Stp) (L : List Int) : Prop := st.2.map (·.p) = L ∧ ∀ x, x ∈ st.1 ↔ x ∈ L
theorem RelP.come {ws : List U64} {st : List Int × List Stp} {L : List Int} (h : RelP st L) (v : Vl) (frm slot : Int) (way : List Int) : RelP (come ws st v frm slot way) (comeP ws L v) := by
  obtain ⟨h1, h2⟩ := h
  unfold Abs.come Abs.comeP
  by_cases c : isRefB v = true ∧ whereW ws v.2 ∉ st.1
  · have c' : isRefB v = true ∧ whereW ws v.2 ∉ L := ⟨c.1, fun h => c.2 ((h2 _).2 h)⟩
    rw [if_pos c, if_pos c']
    refine ⟨by rw [List.map_append, h1]; rfl, fun x => ?_⟩
    rw [List.mem_cons, List.mem_append, List.mem_singleton, h2 x]
    exact Or.comm
  · have c' : ¬ (isRefB v = true ∧ whereW ws v.2 ∉ L) := fun h => c ⟨h.1, fun h' => h.2 ((h2 _).1 h')⟩
    rw [if_neg c, if_neg c']
    exact ⟨h1, h2⟩
theorem RelP.comeS {ws : List U64} {p i : Int} {way : List Int} : ∀ (d : Nat) (k : Int) (st : List Int × List Stp) (L : List Int), RelP st L → RelP (comeS ws p i way d k st) (comeSP ws p d k L)
  | 0, _, _, _, h => h
  | d + 1, k, st, L, h => RelP.comeS d _ _ _ (h.come _ _ _ _)
theorem RelP.bfs {ws : List U64} : ∀ (f i : Nat) (st : List Int × List Stp) (L : List Int), RelP st L → (bfs ws f i st).map (·.p) = bfsP ws f i L
  | 0, _, _, _, h => h.1
  | f + 1, i, st, L, h => by
    unfold Abs.bfs Abs.bfsP
    have e : L[i]? = (st.2[i]?).map (·.p) := by rw [← h.1, List.getElem?_map]
    cases hs : st.2[i]? with
    | none => rw [e, hs]; exact h.1
    | some x =>
      rw [e, hs]
      exact RelP.bfs f (i + 1) _ _ (h.comeS _ _ _ _)
theorem RelP.comeR {a : Ar} : ∀ (l : List Int) (st : List Int × List Stp) (L : List Int), RelP st L → RelP (comeR a l st) (comeRP a.ws (l.map fun r => a.rs.getD r.toNat (0, 0)) L)
  | [], _, _, h => h
  | r :: l, st, L, h => RelP.comeR l _ _ (h.come _ _ _ _)
theorem reach_places (a : Ar) (l : List Int) : (reachL a l).map (·.p) = reachP a.ws (l.map fun r => a.rs.getD r.toNat (0, 0)) :=
  RelP.bfs _ _ _ _ (RelP.comeR l ([], []) [] ⟨rfl, fun x => Iff.rfl⟩)
structure BP (a : Ar) (mk : List Int) (L : List Int) : Prop where
  nd : L.Nodup
  rg : ∀ p ∈ L, 0 ≤ p ∧ p < a.ws.length ∧ hdM mk p
theorem BP.len {a : Ar} {mk L : List Int} (h : BP a mk L) : L.length ≤ a.ws.length := nodup_le _ _ h.nd fun p hp => ⟨(h.rg p hp).1, (h.rg p hp).2.1⟩
theorem BP.nil (a : Ar) (mk : List Int) : BP a mk [] := ⟨List.nodup_nil, fun p hp => by cases hp⟩
theorem BP.come {a : Ar} {mk L : List Int} (h : BP a mk L) {v : Vl} (hv : VOk a mk v) : BP a mk (comeP a.ws L v) := by
  unfold Abs.comeP
  split
  case isFalse => exact h
  case isTrue c =>
    obtain ⟨c1, c2⟩ := c
    obtain ⟨r1, r2, r3, r4, r5, r6⟩ := hv.r c1
    refine ⟨List.nodup_append.2 ⟨h.nd, by simp, fun x hx y hy e => ?_⟩, fun p hp => ?_⟩
    · rw [List.mem_singleton] at hy
      rw [e, hy] at hx
      exact c2 hx
    · rcases List.mem_append.1 hp with hp | hp
      · exact h.rg p hp
      · rw [List.mem_singleton] at hp
        rw [hp]; exact ⟨r3, r4, r5⟩
theorem comeP_pre (ws : List U64) (L : List Int) (v : Vl) : L <+: comeP ws L v := by
  unfold comeP
  split
  · exact List.prefix_append _ _
  · exact List.prefix_refl _
theorem BP.comeS {a : Ar} {mk : List Int} (hw : a.wf) (hk : OkM a mk) {p : Int} (p0 : 0 ≤ p) (p1 : p < a.ws.length) (hp : hdM mk p) : ∀ (d k : Nat) (L : List Int), k + d ≤ slotN a.ws p → BP a mk L → BP a mk (comeSP a.ws p d k L)
  | 0, _, _, _, h => h
  | d + 1, k, L, hd, h => BP.comeS hw hk p0 p1 hp d (k + 1) _ (by omega) (h.come (slot_vok hw hk p0 p1 hp (k := k) (by omega)).1)
theorem BP.bfs {a : Ar} {mk : List Int} (hw : a.wf) (hk : OkM a mk) : ∀ (f i : Nat) (L : List Int), BP a mk L → BP a mk (bfsP a.ws f i L)
  | 0, _, _, h => h
  | f + 1, i, L, h => by
    unfold Abs.bfsP
    cases e : L[i]? with
    | none => exact h
    | some x =>
      obtain ⟨x0, x1, x2⟩ := h.rg x (List.mem_of_getElem? e)
      exact BP.bfs hw hk f (i + 1) _ (BP.comeS hw hk x0 x1 x2 (slotN a.ws x) 0 L (by omega) h)
theorem BP.comeR {a : Ar} {mk : List Int} : ∀ (l : List Vl) (L : List Int), (∀ v ∈ l, VOk a mk v) → BP a mk L → BP a mk (comeRP a.ws l L)
  | [], _, _, h => h
  | v :: l, L, hl, h => BP.comeR l _ (fun x hx => hl x (by simp [hx])) (h.come (hl v (by simp)))
/-- The serials of places, those that are born. -/
def serL (ws : List U64) (L : List Int) : List Int := (L.map (serW ws)).filter fun s => decide (s ≠ 0)
def insK (l : List Int) (s : Int) : List Int := l.takeWhile (fun x => decide (x < s)) ++ [s] ++ l.dropWhile (fun x => decide (x < s))
def srt (l : List Int) : List Int := l.mergeSort fun x y => decide (x ≤ y)
theorem insK_perm (l : List Int) (s : Int) : (insK l s).Perm (s :: l) := by
  unfold insK
  have h1 : (l.takeWhile (fun x => decide (x < s)) ++ [s] ++ l.dropWhile (fun x => decide (x < s))).Perm ([s] ++ l.takeWhile (fun x => decide (x < s)) ++ l.dropWhile (fun x => decide (x < s))) := List.Perm.append_right _ List.perm_append_comm
  refine h1.trans ?_
  rw [List.append_assoc, List.takeWhile_append_dropWhile]
  exact List.Perm.refl _
theorem insK_sorted : ∀ (l : List Int) (s : Int), l.Pairwise (· ≤ ·) → (insK l s).Pairwise (· ≤ ·)
  | [], s, _ => by unfold insK; simp
  | x :: l, s, h => by
    obtain ⟨h1, h2⟩ := List.pairwise_cons.1 h
    have ih := insK_sorted l s h2
    unfold insK at ih ⊢
    by_cases c : x < s
    · rw [List.takeWhile_cons_of_pos (by simpa using c), List.dropWhile_cons_of_pos (by simpa using c)]
      refine List.pairwise_cons.2 ⟨fun y hy => ?_, ih⟩
      have hm := (insK_perm l s).mem_iff.1 (show y ∈ insK l s from hy)
      rcases List.mem_cons.1 hm with e | hm
      · omega
      · exact h1 y hm
    · rw [List.takeWhile_cons_of_neg (by simpa using c), List.dropWhile_cons_of_neg (by simpa using c)]
      refine List.pairwise_cons.2 ⟨fun y hy => ?_, h⟩
      rcases List.mem_cons.1 (show y ∈ x :: l from hy) with e | hm
      · omega
      · have := h1 y hm; omega
theorem fold_insK : ∀ (xs l : List Int), l.Pairwise (· ≤ ·) → (xs.foldl insK l).Pairwise (· ≤ ·) ∧ (xs.foldl insK l).Perm (xs ++ l)
  | [], l, h => ⟨h, List.Perm.refl _⟩
  | x :: xs, l, h => by
    have ih := fold_insK xs (insK l x) (insK_sorted l x h)
    refine ⟨ih.1, ih.2.trans ?_⟩
    refine ((insK_perm l x).append_left xs).trans ?_
    exact List.perm_middle
theorem srt_eq (xs : List Int) : srt xs = xs.foldl insK [] := by
  obtain ⟨h1, h2⟩ := fold_insK xs [] List.Pairwise.nil
  rw [List.append_nil] at h2
  have s1 : (srt xs).Pairwise (· ≤ ·) := by
    have := List.pairwise_mergeSort (le := fun x y : Int => decide (x ≤ y)) (fun a b c h1 h2 => by simp at h1 h2 ⊢; omega) (fun a b => by simp; omega) xs
    exact this.imp fun h => by simpa using h
  exact List.Perm.eq_of_pairwise (le := fun x y : Int => x ≤ y) (fun a b _ _ h1 h2 => by omega) s1 h1 ((List.mergeSort_perm _ _).trans h2.symm)
end Go.Proofs.YtjdcndicaeodbaaGreat.Abs
