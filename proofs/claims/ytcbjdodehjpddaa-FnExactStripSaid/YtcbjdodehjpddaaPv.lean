/- 'With enough rounds a loop answers': small laws on functions with a number of rounds; no program in sight. -/
import Derived.Test.YtcbjdodehjpddaaPl
namespace Go.Proofs.Ytcbjdodehjpddaa.Pv
open Go.Proofs.YtcbjdodehjpddaaW.PrintWords Go.RowKit

/-! ### 'with enough rounds' -/
theorem ev_some {α : Type} (r : α) : Ev (fun _ => some r) r := ⟨0, fun _ _ => rfl⟩
theorem ev_eq {α : Type} {g : Nat → Option α} {r : α} (h : ∀ k, g k = some r) : Ev g r := ⟨0, fun k _ => h k⟩
theorem ev_pos {α : Type} {c : Prop} [Decidable c] {g f : Nat → Option α} {r : α} (hc : c) (h : Ev g r) : Ev (fun k => if c then g k else f k) r := by
  obtain ⟨K, hK⟩ := h
  exact ⟨K, fun k hk => (if_pos hc).trans (hK k hk)⟩
theorem ev_neg {α : Type} {c : Prop} [Decidable c] {g f : Nat → Option α} {r : α} (hc : ¬ c) (h : Ev f r) : Ev (fun k => if c then g k else f k) r := by
  obtain ⟨K, hK⟩ := h
  exact ⟨K, fun k hk => (if_neg hc).trans (hK k hk)⟩
theorem ev_step {α : Type} {g : Nat → Option α} {r : α} (h : Ev (fun k => g (k + 1)) r) : Ev g r := Ev.step (f := fun k => g (k + 1)) (fun _ => rfl) h
theorem ev_bind {α β : Type} {g : Nat → Option α} {f : Nat → α → Option β} {a : α} {r : β} (h : Ev g a) (k : Ev (fun n => f n a) r) : Ev (fun n => (g n).bind (f n)) r := Ev.bind h k
theorem ev_congr {α : Type} {g f : Nat → Option α} {r : α} (h : ∀ k, g k = f k) (k : Ev f r) : Ev g r := Ev.congr h k
/-- A loop that goes through the states S 0, S 1, .., S n. -/
theorem ev_loop {σ ρ : Type} (l : Nat → σ → Option ρ) (n : Nat) (S : Nat → σ) (r : ρ)
    (hs : ∀ i, i < n → Ev (fun k => l k (S (i + 1))) r → Ev (fun k => l (k + 1) (S i)) r) (he : Ev (fun k => l (k + 1) (S n)) r) : Ev (fun k => l k (S 0)) r := by
  have key : ∀ d i, i + d = n → Ev (fun k => l k (S i)) r := by
    intro d
    induction d with
    | zero =>
      intro i hi
      have : i = n := by omega
      subst this
      exact ev_step he
    | succ d ih =>
      intro i hi
      exact ev_step (hs i (by omega) (ih (i + 1) (by omega)))
  exact key n 0 (by omega)
/-- A loop that may end early: what it answers from state i on is R i. -/
theorem ev_down {ρ : Type} (l : Nat → Nat → Option ρ) (n : Nat) (R : Nat → ρ)
    (hs : ∀ i, i < n → Ev (fun k => l k (i + 1)) (R (i + 1)) → Ev (fun k => l (k + 1) i) (R i)) (he : Ev (fun k => l (k + 1) n) (R n)) : ∀ i, i ≤ n → Ev (fun k => l k i) (R i) := by
  have key : ∀ d i, i + d = n → Ev (fun k => l k i) (R i) := by
    intro d
    induction d with
    | zero =>
      intro i hi
      have : i = n := by omega
      subst this
      exact ev_step he
    | succ d ih =>
      intro i hi
      exact ev_step (hs i (by omega) (ih (i + 1) (by omega)))
  intro i hi
  exact key (n - i) i (by omega)
/-- A loop with a measure. -/
theorem ev_wf {σ ρ : Type} (l : Nat → σ → Option ρ) (Inv : σ → Prop) (m : σ → Nat) (R : σ → ρ)
    (h : ∀ s, Inv s → (∀ s', Inv s' → m s' < m s → Ev (fun k => l k s') (R s')) → Ev (fun k => l (k + 1) s) (R s)) : ∀ s, Inv s → Ev (fun k => l k s) (R s) := by
  have key : ∀ d s, m s < d → Inv s → Ev (fun k => l k s) (R s) := by
    intro d
    induction d with
    | zero => intro s hs; omega
    | succ d ih =>
      intro s hs hi
      exact ev_step (h s hi (fun s' hi' hm => ih s' (by omega) hi'))
  intro s hi
  exact key (m s + 1) s (by omega) hi

theorem upd_same {α : Type} (f : Nat → α) (xs : List α) (i : Nat) (z : α) (h : i < xs.length) (hf : f i = xs.getD i z) :
    (List.range i).map f ++ xs.drop i = (List.range (i + 1)).map f ++ xs.drop (i + 1) := by
  rw [List.drop_eq_getElem_cons h, List.range_succ, List.map_append, List.append_assoc]
  simp only [List.map_cons, List.map_nil, List.singleton_append, hf]
  simp [List.getD_eq_getElem?_getD, h]
/-- As many numbers below n, each once, are at most n. -/
theorem nodup_le : ∀ (n : Nat) (l : List Nat), l.Nodup → (∀ x ∈ l, x < n) → l.length ≤ n := by
  intro n
  induction n with
  | zero =>
    intro l _ h
    cases l with
    | nil => simp
    | cons a t => exact absurd (h a (by simp)) (by omega)
  | succ n ih =>
    intro l hn h
    by_cases hm : n ∈ l
    · have h1 := ih (l.erase n) (hn.erase n) (fun x hx => by
        have h2 := (List.Nodup.mem_erase_iff hn).1 hx
        have h3 := h x h2.2
        have h4 : x ≠ n := h2.1
        omega)
      rw [List.length_erase_of_mem hm] at h1
      omega
    · have h1 := ih l hn (fun x hx => by
        have h3 := h x hx
        have h4 : x ≠ n := fun e => hm (e ▸ hx)
        omega)
      omega
end Go.Proofs.Ytcbjdodehjpddaa.Pv
