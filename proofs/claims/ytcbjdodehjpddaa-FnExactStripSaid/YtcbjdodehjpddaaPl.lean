/- Small facts about lists, loops with rounds and wrapping sums that the pure statements of this seat use; no program in sight. -/
import Derived.Test.YtcbjdodehjpddaaWWords
namespace Go.Proofs.Ytcbjdodehjpddaa.Pl
open Go.Proofs.YtcbjdodehjpddaaW.PrintWords Go.RowKit

theorem w64 {x : Int} (h0 : -9223372036854775808 ≤ x) (h1 : x ≤ 9223372036854775807) : wrap64 x = x := by
  unfold wrap64
  omega

/-- A loop that goes through the states S 0, S 1, .., S n; M: the rounds that a round itself takes. -/
theorem loop_up {σ ρ : Type} (l : Nat → σ → Option ρ) (M n : Nat) (S : Nat → σ) (r : ρ)
    (hs : ∀ i k, i < n → M ≤ k → l (k + 1) (S i) = l k (S (i + 1))) (he : ∀ k, M ≤ k → l (k + 1) (S n) = some r) :
    ∀ k, n + M < k → l k (S 0) = some r := by
  have key : ∀ d i, i + d = n → ∀ k, d + M < k → l k (S i) = some r := by
    intro d
    induction d with
    | zero =>
      intro i hi k hk
      obtain ⟨k, rfl⟩ : ∃ m, k = m + 1 := ⟨k - 1, by omega⟩
      have : i = n := by omega
      subst this
      exact he k (by omega)
    | succ d ih =>
      intro i hi k hk
      obtain ⟨k, rfl⟩ : ∃ m, k = m + 1 := ⟨k - 1, by omega⟩
      rw [hs i k (by omega) (by omega)]
      exact ih (i + 1) (by omega) k (by omega)
  intro k hk
  exact key n 0 (by omega) k (by omega)

theorem upd {α : Type} (f : Nat → α) (xs : List α) (i : Nat) (h : i < xs.length) :
    ((List.range i).map f ++ xs.drop i).set i (f i) = (List.range (i + 1)).map f ++ xs.drop (i + 1) := by
  rw [List.set_append_right _ _ (by simp)]
  simp only [List.length_map, List.length_range, Nat.sub_self, List.range_succ, List.map_append, List.map_cons, List.map_nil, List.append_assoc, List.singleton_append]
  rw [List.drop_eq_getElem_cons h]
  rfl
theorem upd_get {α : Type} (f : Nat → α) (xs : List α) (i : Nat) (z : α) :
    ((List.range i).map f ++ xs.drop i).getD i z = xs.getD i z := by
  rw [List.getD_eq_getElem?_getD, List.getD_eq_getElem?_getD, List.getElem?_append_right (by simp)]
  simp
theorem upd_len {α : Type} (f : Nat → α) (xs : List α) (i : Nat) (h : i ≤ xs.length) : ((List.range i).map f ++ xs.drop i).length = xs.length := by
  simp; omega
theorem upd_end {α : Type} (f : Nat → α) (xs : List α) : (List.range xs.length).map f ++ xs.drop xs.length = (List.range xs.length).map f := by
  simp
theorem set_get {α : Type} (xs : List α) (i : Nat) (a z : α) (h : i < xs.length) : (xs.set i a).getD i z = a := by
  simp [List.getD_eq_getElem?_getD, h]
theorem map_range {α β : Type} (g : α → β) (xs : List α) (z : α) : (List.range xs.length).map (fun i => g (xs.getD i z)) = xs.map g := by
  apply List.ext_getElem?
  intro i
  rcases Nat.lt_or_ge i xs.length with h | h
  · simp [h]
  · simp [h]
theorem range_get {α : Type} (f : Nat → α) (n i : Nat) (z : α) (h : i < n) : ((List.range n).map f).getD i z = f i := by
  simp [List.getD_eq_getElem?_getD, h]
theorem filter_take {α : Type} (p : α → Bool) (xs : List α) (i : Nat) (z : α) (h : i < xs.length) :
    (xs.take (i + 1)).filter p = (xs.take i).filter p ++ (if p (xs.getD i z) then [xs.getD i z] else []) := by
  rw [List.take_succ_eq_append_getElem h, List.filter_append]
  simp [List.getD_eq_getElem?_getD, h, List.filter_cons]
end Go.Proofs.Ytcbjdodehjpddaa.Pl
