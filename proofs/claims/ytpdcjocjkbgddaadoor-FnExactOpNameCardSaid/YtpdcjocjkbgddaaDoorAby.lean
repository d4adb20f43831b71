/- Rows that a whole row is put behind; parts of rows; the world behind the library's sort. No condition. -/
import Derived.Test.YtpdcjocjkbgddaaDoorAbx
import Derived.Sort.Row
import Derived.Sort.Grow
namespace Go.Proofs.YtpdcjocjkbgddaaDoor.Abs
open Go.RowKit
set_option linter.unusedVariables false

theorem set_all_mid : ∀ (vs A B : List Value), vs.length ≤ B.length → setAll (A ++ B).toArray A.length vs = (A ++ vs ++ B.drop vs.length).toArray := by
  intro vs
  induction vs with
  | nil => intro A B _; simp [setAll]
  | cons v r ih =>
    intro A B hB
    cases B with
    | nil => simp at hB
    | cons y B =>
      simp only [setAll, List.setIfInBounds_toArray]
      rw [List.set_append_right _ _ (Nat.le_refl _), Nat.sub_self, List.set_cons_zero]
      have := ih (A ++ [v]) B (by simpa using hB)
      simp only [List.length_append, List.length_singleton, List.append_assoc, List.singleton_append] at this
      rw [this]
      simp
/-- A row behind a row of one's own. -/
theorem app_list {α : Type} [Enc α] {m : Mem} {g n k c s bytes : Nat} {t : TypeId} {l l2 : List α} {spare : List Value} {src : Option Addr} {z : Array Value} {K : Option Addr → Nat → Mem → Prop} (hs : Enc.s α = s) (hz : z.size = s) (hb : bytes ≠ 0) (hb2 : bytes ≤ 64)
    (hm : m g = some (.cells (flat Enc.e l ++ spare).toArray t (0, 0))) (hn : l.length = n) (hk : l2.length = k) (hc : n * s + spare.length = c * s) (hx : Rd m src l2) (hl : n + k ≤ 2 ^ 40)
    (hK : ∀ (g' c' : Nat) (spare' : List Value) (m' : Mem), m' g' = some (.cells (flat Enc.e (l ++ l2) ++ spare').toArray t (0, 0)) → (n + k) * s + spare'.length = c' * s → (g' = g ∨ m g' = none) → (∀ b, b ≠ g' → m' b = m b) → K (some ⟨g', 0, none⟩) c' m') :
    appR m (some ⟨g, 0, none⟩) n c src k s bytes z t K := by
  have h2k : (flat Enc.e l2).length = k * s := by rw [flat_len, hk, hs]
  have h1n : (flat Enc.e l).length = n * s := by rw [flat_len, hn, hs]
  refine ⟨flat Enc.e l2, h2k, cells_of_rd hx, fun h => ?_, fun h => ?_⟩
  · have h2 : (n + k) * s ≤ c * s := Nat.mul_le_mul_right _ h
    rw [Nat.add_mul] at h2
    have hsp : k * s ≤ spare.length := by omega
    show stoA m ((⟨g, 0, none⟩ : Addr).add (n * s)) (flat Enc.e l2) _
    rw [add_eq rfl, Nat.zero_add]
    refine sto (c := (flat Enc.e l ++ spare).toArray) (t := t) hm (flat_one l2) (by simp [h1n, h2k]; omega) fun m' e he hne => ?_
    have hset : setAll (flat Enc.e l ++ spare).toArray (n * s) (flat Enc.e l2) = (flat Enc.e (l ++ l2) ++ spare.drop (k * s)).toArray := by
      have hk := set_all_mid (flat Enc.e l2) (flat Enc.e l) spare (by rw [h2k]; exact hsp)
      rw [h1n, h2k] at hk
      rw [hk, flat_append]
    rw [hset] at he
    refine hK g c (spare.drop (k * s)) m' he ?_ (.inl rfl) (fun b hb => hne b hb)
    rw [List.length_drop, Nat.add_mul]
    omega
  · refine ⟨hb, ?_, flat Enc.e l, h1n, cellsAt_block hm, fun g' nc hnc hg' => ?_⟩
    · have h1 := nextcap_le h
      have h2 : Builtin.nextslicecap (n + k) c * bytes ≤ (2 * (n + k) + 1000) * 64 := Nat.mul_le_mul h1 hb2
      have h3 : (2 * (n + k) + 1000) * 64 ≤ 2 ^ 48 := by clear h2 h1 hK; omega
      exact Nat.le_trans h2 h3
    · have e1 : ((flat Enc.e l).toArray ++ (flat Enc.e l2).toArray ++ Builtin.zeroCells z (nc - (n + k))) = (flat Enc.e (l ++ l2) ++ (Builtin.zeroCells z (nc - (n + k))).toList).toArray := by
        apply Array.ext'
        rw [flat_append]
        simp
      have e2 : (Builtin.zeroCells z (nc - (n + k))).toList.length = (nc - (n + k)) * s := by
        unfold Builtin.zeroCells
        simp [hz]
      rw [e1]
      refine hK g' nc (Builtin.zeroCells z (nc - (n + k))).toList _ (upd_same _ _ _) ?_ (.inr hg') (fun b hb => upd_ne hb)
      rw [e2, ← Nat.add_mul]
      exact congrArg (· * s) (by omega)
theorem Rd.take {α : Type} [Enc α] {m : Mem} {a : Option Addr} {l : List α} (h : Rd m a l) (k : Nat) : Rd m a (l.take k) := by
  cases a with
  | none => simp only [Rd] at *; subst h; simp
  | some ad =>
    intro i x hx j v hv
    refine h i x ?_ j v hv
    rw [List.getElem?_take] at hx
    split at hx
    · exact hx
    · cases hx
theorem Rd.drop {α : Type} [Enc α] {m : Mem} {a : Option Addr} {l : List α} (h : Rd m a l) (k : Nat) : Rd m (Option.map (·.add (k * Enc.s α)) a) (l.drop k) := by
  cases a with
  | none => simp only [Rd] at h; subst h; show List.drop k [] = []; simp
  | some ad =>
    intro i x hx j v hv
    rw [List.getElem?_drop] at hx
    have := h (k + i) x hx j v hv
    rw [add_add, ← Nat.add_assoc, ← Nat.add_mul]
    exact this
theorem Rd.nil {α : Type} [Enc α] {m : Mem} {a : Option Addr} : Rd m a ([] : List α) := by
  cases a with
  | none => rfl
  | some ad => intro i x hx; simp at hx
theorem flat_ints : ∀ ys : List Int, flat Enc.e ys = ys.map (Value.int .i64)
  | [] => rfl
  | y :: r => by rw [flat_cons, flat_ints r]; rfl
/-- The world behind a row that was put, with new blocks. -/
theorem rel_putRow {m : Mem} {w : World} {g q : Nat} {t : TypeId} {A spare : List Value} {ys : List Int} {os : Array Obj} (hw : ∀ b o, m b = some o → w.heap[b]? = some o) (hm : m g = some (.cells (A ++ spare).toArray t (0, 0))) (hl : A.length = ys.length) :
    Rel (fun b => m b = none) w (m.upd g (.cells (flat Enc.e ys ++ spare).toArray t (0, 0))) (Go.Sort.grow (Go.Sort.putRow (Value.int .i64) (Go.Sort.ahead w q) g 0 ys.toArray) os) := by
  have hg := hw _ _ hm
  have hgl : g < w.heap.size := (Array.getElem?_eq_some_iff.1 hg).1
  have hsz : (Go.Sort.putRow (Value.int .i64) (Go.Sort.ahead w q) g 0 ys.toArray).heap.size = w.heap.size := by simp [Go.Sort.putRow, Go.Sort.mapBlock, Go.Sort.ahead]
  have hin : ∀ b, b < w.heap.size → (Go.Sort.grow (Go.Sort.putRow (Value.int .i64) (Go.Sort.ahead w q) g 0 ys.toArray) os).heap[b]? = (w.heap.modify g (Go.Sort.onCells (Go.Sort.putCells (Value.int .i64) 0 ys.toArray)))[b]? := by
    intro b hb
    unfold Go.Sort.grow
    simp only
    rw [Array.getElem?_append_left (by rw [hsz]; exact hb)]
    rfl
  have hne : ∀ b, b ≠ g → b < w.heap.size → (Go.Sort.grow (Go.Sort.putRow (Value.int .i64) (Go.Sort.ahead w q) g 0 ys.toArray) os).heap[b]? = w.heap[b]? := by
    intro b hb hb2
    rw [hin b hb2, Array.getElem?_modify, if_neg (Ne.symm hb)]
  refine ⟨fun b o e => ?_, rfl, rfl, rfl, ?_, fun b hb hd => ?_⟩
  · by_cases hb : b = g
    · subst hb
      rw [upd_same] at e
      cases e
      rw [hin b hgl, Array.getElem?_modify, if_pos rfl, hg]
      simp only [Option.map_some, Go.Sort.onCells]
      congr 2
      apply Array.ext'
      apply List.ext_getElem?
      intro k
      unfold Go.Sort.putCells
      simp only [Array.toList_mapIdx, List.getElem?_mapIdx, Nat.zero_le, true_and, Nat.zero_add, Nat.sub_zero, List.size_toArray]
      have hf := flat_ints ys
      by_cases hk : k < ys.length
      · rw [List.getElem?_append_left (by omega), List.getElem?_append_left (by rw [flat_len]; show k < ys.length * 1; omega), hf]
        simp [hk, hl]
      · rw [List.getElem?_append_right (by omega), List.getElem?_append_right (by rw [flat_len]; show ys.length * 1 ≤ k; omega), flat_len]
        simp only [hk, if_false, hl]
        show Option.map (fun x => x) _ = spare[k - ys.length * 1]?
        rw [Nat.mul_one]
        simp
    · rw [upd_ne hb] at e
      have h1 := hw _ _ e
      rw [hne b hb (Array.getElem?_eq_some_iff.1 h1).1]
      exact h1
  · unfold Go.Sort.grow
    simp only [Array.size_append, hsz]
    omega
  · have hb' : b ≠ g := by rintro rfl; rw [hm] at hd; cases hd
    refine ⟨by rw [upd_ne hb']; exact hd, hne b hb' hb⟩
theorem holds_of {m : Mem} {w : World} {g : Nat} {t : TypeId} {spare : List Value} {l : List Int} (hw : ∀ b o, m b = some o → w.heap[b]? = some o) (hm : m g = some (.cells (flat Enc.e l ++ spare).toArray t (0, 0))) : Go.Sort.Holds (Value.int .i64) w g 0 l.toArray := by
  intro j hj
  have hj' : j < l.length := by simpa using hj
  have hg := hw _ _ hm
  refine ⟨?_, ?_⟩
  · have h1 := Rd.of_block (l := l) (spare := spare) hm rfl j l[j] (List.getElem?_eq_getElem hj') 0 (.int .i64 l[j]) rfl
    rw [add_eq rfl, cell_of hm] at h1
    unfold World.cell?
    rw [hg]
    simp only [Option.isSome_none, Bool.false_eq_true, if_false]
    have e1 : 0 + (j * Enc.s Int + 0) = 0 + j := by show 0 + (j * 1 + 0) = 0 + j; omega
    rw [e1] at h1
    rw [h1]
    simp [hj']
  · unfold World.frozen?
    rw [hg]
    simp
end Go.Proofs.YtpdcjocjkbgddaaDoor.Abs
