/- Rows that are written: stores into a row, new rows, rows that grow; in terms of lists. No condition. -/
import Derived.Test.YtpdcjocjkbgddaaDoorAbw
namespace Go.Proofs.YtpdcjocjkbgddaaDoor.Abs
open Go.RowKit

theorem flat_nil {α : Type} [Enc α] : flat (Enc.e (α := α)) [] = [] := rfl
theorem flat_cons {α : Type} [Enc α] (x : α) (l : List α) : flat Enc.e (x :: l) = Enc.e x ++ flat Enc.e l := rfl
theorem flat_append {α : Type} [Enc α] (l r : List α) : flat (Enc.e (α := α)) (l ++ r) = flat Enc.e l ++ flat Enc.e r := by simp [flat]
theorem flat_one {α : Type} [Enc α] : ∀ l : List α, (flat Enc.e l).all one = true
  | [] => rfl
  | x :: l => by rw [flat_cons, List.all_append, Enc.one, flat_one l]; rfl
/-- One cell of a thing is written. -/
theorem flat_set {α : Type} [Enc α] : ∀ (l : List α) (i j : Nat) (v : Value) (x : α) (hi : i < l.length), j < Enc.s α → (Enc.e l[i]).set j v = Enc.e x → (flat Enc.e l).set (i * Enc.s α + j) v = flat Enc.e (l.set i x)
  | [], i, j, v, x, hi, _, _ => by simp at hi
  | y :: l, 0, j, v, x, hi, hj, h => by
    simp only [Nat.zero_mul, Nat.zero_add, List.set_cons_zero, flat_cons]
    rw [List.set_append_left _ _ (by rw [Enc.len]; exact hj)]
    rw [show (Enc.e y).set j v = Enc.e x from h]
  | y :: l, i + 1, j, v, x, hi, hj, h => by
    simp only [List.set_cons_succ, flat_cons]
    rw [List.set_append_right _ _ (by rw [Enc.len, Nat.add_mul]; omega), Enc.len, show (i + 1) * Enc.s α + j - Enc.s α = i * Enc.s α + j by rw [Nat.add_mul]; omega]
    rw [flat_set l i j v x (by simpa using hi) hj h]
/-- A store of one cell into a row. -/
theorem sto1 {α : Type} [Enc α] {m : Mem} {g : Nat} {t : TypeId} {l : List α} {spare : List Value} {i j : Nat} {v : Value} {a : Addr} {x : α} {K : Mem → Prop} (hm : m g = some (.cells (flat Enc.e l ++ spare).toArray t (0, 0))) (ha : a = ⟨g, i * Enc.s α + j, none⟩) (h1 : one v = true)
    (hi : i < l.length) (hj : j < Enc.s α) (hx : (Enc.e l[i]).set j v = Enc.e x) (hK : K (m.upd g (.cells (flat Enc.e (l.set i x) ++ spare).toArray t (0, 0)))) : stoA m a [v] K := by
  subst ha
  have hlen := flat_len l
  have hlt : i * Enc.s α + j < (flat Enc.e l).length := by
    rw [hlen]
    have : (i + 1) * Enc.s α ≤ l.length * Enc.s α := Nat.mul_le_mul_right _ hi
    rw [Nat.add_mul] at this
    omega
  refine sto hm (by simp [h1]) (by simp; omega) fun m' e _ _ => ?_
  rw [e]
  have : setAll (flat Enc.e l ++ spare).toArray (i * Enc.s α + j) [v] = (flat Enc.e (l.set i x) ++ spare).toArray := by
    simp only [setAll, List.setIfInBounds_toArray]
    rw [List.set_append_left _ _ hlt, flat_set l i j v x hi hj hx]
  rw [this]
  exact hK
theorem sto2 {α : Type} [Enc α] {m : Mem} {g : Nat} {t : TypeId} {l : List α} {spare : List Value} {i : Nat} {v w : Value} {a : Addr} {y x : α} {K : Mem → Prop} (hm : m g = some (.cells (flat Enc.e l ++ spare).toArray t (0, 0))) (ha : a = ⟨g, i * Enc.s α, none⟩) (h1 : one v = true) (h2 : one w = true)
    (hi : i < l.length) (hj : 1 < Enc.s α) (hy : (Enc.e l[i]).set 0 v = Enc.e y) (hx : (Enc.e y).set 1 w = Enc.e x) (hK : K (m.upd g (.cells (flat Enc.e (l.set i x) ++ spare).toArray t (0, 0)))) : stoA m a [v, w] K := by
  subst ha
  have hlen := flat_len l
  have hlt : i * Enc.s α + 1 < (flat Enc.e l).length := by
    rw [hlen]
    have : (i + 1) * Enc.s α ≤ l.length * Enc.s α := Nat.mul_le_mul_right _ hi
    rw [Nat.add_mul] at this
    omega
  refine sto hm (by simp [h1, h2]) (by simp; omega) fun m' e _ _ => ?_
  rw [e]
  have : setAll (flat Enc.e l ++ spare).toArray (i * Enc.s α) [v, w] = (flat Enc.e (l.set i x) ++ spare).toArray := by
    simp only [setAll, List.setIfInBounds_toArray]
    rw [List.set_append_left _ _ (by omega), List.set_append_left _ _ (by simpa using hlt)]
    have e0 := flat_set l i 0 v y hi (by omega) hy
    rw [Nat.add_zero] at e0
    rw [e0]
    have e1 := flat_set (l.set i y) i 1 w x (by simpa using hi) hj (by simpa using hx)
    rw [e1, List.set_set]
  rw [this]
  exact hK
theorem zeroRow_eq {α : Type} [Enc α] (z : α) (n : Nat) : zeroRow (Enc.e z).toArray (n * Enc.s α) = (flat Enc.e (List.replicate n z)).toArray := by
  apply Array.ext'
  unfold zeroRow
  simp only [Array.toList_map, Array.toList_range]
  induction n with
  | zero => simp [flat]
  | succ n ih =>
    rw [Nat.add_mul, Nat.one_mul, List.range_add, List.map_append, ih, List.replicate_succ', flat_append]
    congr 1
    simp only [flat, List.flatMap_cons, List.flatMap_nil, List.append_nil, List.map_map]
    apply List.ext_getElem
    · simp [Enc.len]
    · intro k h1 h2
      simp only [List.length_map, List.length_range] at h1
      simp only [List.getElem_map, List.getElem_range, Function.comp_apply, List.size_toArray, Enc.len]
      rw [Nat.add_comm, Nat.add_mul_mod_self_right, Nat.mod_eq_of_lt h1]
      simp [h2]
theorem upd_row {α : Type} (f : Nat → α) (xs : List α) (i : Nat) (h : i < xs.length) :
    ((List.range i).map f ++ xs.drop i).set i (f i) = (List.range (i + 1)).map f ++ xs.drop (i + 1) := by
  rw [List.set_append_right _ _ (by simp)]
  simp only [List.length_map, List.length_range, Nat.sub_self, List.range_succ, List.map_append, List.map_cons, List.map_nil, List.append_assoc, List.singleton_append]
  rw [List.drop_eq_getElem_cons h]
  rfl
theorem row_end {α : Type} (f : Nat → α) (xs : List α) : (List.range xs.length).map f ++ xs.drop xs.length = (List.range xs.length).map f := by simp
theorem map_range {α : Type} (xs : List α) (z : α) : (List.range xs.length).map (fun i => xs.getD i z) = xs := by
  apply List.ext_getElem?
  intro i
  rcases Nat.lt_or_ge i xs.length with h | h
  · simp [h]
  · simp [h]
theorem row_get {α : Type} (f : Nat → α) (xs : List α) (i : Nat) (h : i < xs.length) : ((List.range i).map f ++ xs.drop i)[i]'(by simp; omega) = xs[i] := by
  rw [List.getElem_append_right (by simp)]
  simp

/-! ### Rows that grow -/
theorem growBy_le (need : Nat) : ∀ (r c : Nat), Builtin.growBy need r c ≤ max c (need + (need + 768) / 4)
  | 0, c => by simp only [Builtin.growBy]; omega
  | r + 1, c => by
    simp only [Builtin.growBy]
    split
    · omega
    · have := growBy_le need r (c + (c + 768) / 4)
      omega
theorem nextcap_le {need c : Nat} (h : c < need) : Builtin.nextslicecap need c ≤ 2 * need + 1000 := by
  unfold Builtin.nextslicecap
  split
  · omega
  · split
    · omega
    · have := growBy_le need 4 c
      omega
theorem cellsAt_block {m : Mem} {g : Nat} {t : TypeId} {L spare : List Value} (h : m g = some (.cells (L ++ spare).toArray t (0, 0))) : CellsAt m (some ⟨g, 0, none⟩) L := by
  intro j v hj
  rw [add_eq rfl, cell_of h, Nat.zero_add]
  simp only [List.getElem?_toArray]
  rw [List.getElem?_append_left (List.getElem?_eq_some_iff.1 hj).1]
  exact hj
/-- One thing more at the end of a row of one's own. -/
theorem app_own {α : Type} [Enc α] {m : Mem} {g gs n c s bytes : Nat} {t : TypeId} {l : List α} {spare : List Value} {x : α} {z : Array Value} {K : Option Addr → Nat → Mem → Prop} (hs : Enc.s α = s) (hz : z.size = s) (hb : bytes ≠ 0) (hb2 : bytes ≤ 64)
    (hm : m g = some (.cells (flat Enc.e l ++ spare).toArray t (0, 0))) (hn : l.length = n) (hc : n * s + spare.length = c * s) (hx : m gs = some (.cells (Enc.e x).toArray t (0, 0))) (hl : n ≤ 2 ^ 40)
    (hK : ∀ (g' c' : Nat) (spare' : List Value) (m' : Mem), m' g' = some (.cells (flat Enc.e (l ++ [x]) ++ spare').toArray t (0, 0)) → (n + 1) * s + spare'.length = c' * s → (g' = g ∨ m g' = none) → (∀ b, b ≠ g' → m' b = m b) → K (some ⟨g', 0, none⟩) c' m') :
    appR m (some ⟨g, 0, none⟩) n c (some ⟨gs, 0, none⟩) 1 s bytes z t K := by
  have hsp : n + 1 ≤ c → s ≤ spare.length := by
    intro h
    have : (n + 1) * s ≤ c * s := Nat.mul_le_mul_right _ h
    rw [Nat.add_mul] at this
    omega
  refine ⟨Enc.e x, by rw [Enc.len, hs]; omega, cellsAt_block (spare := []) (by simpa using hx), fun h => ?_, fun h => ?_⟩
  · have h2 := hsp h
    have h3 : c * s = n * s + s + (spare.length - s) := by omega
    show stoA m ((⟨g, 0, none⟩ : Addr).add (n * s)) (Enc.e x) _
    rw [add_eq rfl, Nat.zero_add]
    refine sto (c := (flat Enc.e l ++ spare).toArray) (t := t) hm (Enc.one x) (by simp [flat_len, hn, hs, Enc.len]; omega) fun m' e he hne => ?_
    have hset : setAll (flat Enc.e l ++ spare).toArray (n * s) (Enc.e x) = (flat Enc.e (l ++ [x]) ++ spare.drop s).toArray := by
      have key : ∀ (vs A B : List Value), vs.length ≤ B.length → setAll (A ++ B).toArray A.length vs = (A ++ vs ++ B.drop vs.length).toArray := by
        intro vs
        induction vs with
        | nil => intro A B _; simp [setAll]
        | cons v r ih =>
          intro A B hB
          cases B with
          | nil => simp at hB
          | cons y B =>
            simp only [setAll, List.setIfInBounds_toArray]
            rw [List.set_append_right _ _ (Nat.le_refl _), Nat.sub_self, List.set_cons_zero]
            have := ih (A ++ [v]) B (by simpa using hB)
            simp only [List.length_append, List.length_singleton, List.append_assoc, List.singleton_append] at this
            rw [this]
            simp
      have hk := key (Enc.e x) (flat Enc.e l) spare (by rw [Enc.len, hs]; exact h2)
      rw [flat_len, hn, hs, Enc.len, hs] at hk
      rw [hk, flat_append]
      simp [flat]
    rw [hset] at e he
    refine hK g c (spare.drop s) m' he ?_ (.inl rfl) (fun b hb => hne b hb)
    rw [List.length_drop, Nat.add_mul]
    omega
  · refine ⟨hb, ?_, flat Enc.e l, by rw [flat_len, hn, hs], cellsAt_block hm, fun g' nc hnc hg' => ?_⟩
    · have h1 := nextcap_le h
      have h2 : Builtin.nextslicecap (n + 1) c * bytes ≤ (2 * (n + 1) + 1000) * 64 := Nat.mul_le_mul h1 hb2
      have h3 : (2 * (n + 1) + 1000) * 64 ≤ 2 ^ 48 := by clear h2 h1 hK; omega
      exact Nat.le_trans h2 h3
    · have e1 : ((flat Enc.e l).toArray ++ (Enc.e x).toArray ++ Builtin.zeroCells z (nc - (n + 1))) = (flat Enc.e (l ++ [x]) ++ (Builtin.zeroCells z (nc - (n + 1))).toList).toArray := by
        apply Array.ext'
        rw [flat_append]
        simp [flat]
      have e2 : (Builtin.zeroCells z (nc - (n + 1))).toList.length = (nc - (n + 1)) * s := by
        unfold Builtin.zeroCells
        simp [hz]
      rw [e1]
      refine hK g' nc (Builtin.zeroCells z (nc - (n + 1))).toList _ (upd_same _ _ _) ?_ (.inr hg') (fun b hb => upd_ne hb)
      rw [e2, ← Nat.add_mul]
      exact congrArg (· * s) (by omega)
end Go.Proofs.YtpdcjocjkbgddaaDoor.Abs
