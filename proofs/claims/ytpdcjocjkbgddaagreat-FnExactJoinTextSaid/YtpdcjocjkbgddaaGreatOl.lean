/- From an argument's reading as data to the types with memory of their own. No condition. -/
import Derived.Test.YtpdcjocjkbgddaaGreatOq
import Derived.Test.YtpdcjocjkbgddaaGreatAd
namespace Go.Proofs.YtpdcjocjkbgddaaGreat.Abs
open Go.ChangeShapes Go.WideShapes Go.RowKit
set_option linter.unusedVariables false

structure KD {α : Type} (d : Kd α) (D : Ds α) (bg : α → Prop) : Prop where
  sz : d.sz = Enc.s D.H
  to : ∀ {m : Mem} {x : α} {cs : List Value}, d.K m x cs → ∃ h : D.H, cs = Enc.e h ∧ D.At m h x ∧ bg x
theorem KD.flat (α : Type) [Enc α] : KD (Kd.enc α) (Ds.flat α) (fun _ => True) := ⟨rfl, fun {m x cs} h => ⟨x, h, rfl, trivial⟩⟩
theorem KD.pair {α β : Type} {d : Kd α} {e : Kd β} {D : Ds α} {E : Ds β} {p : α → Prop} {q : β → Prop} (h : KD d D p) (g : KD e E q) : KD (Kd.pair d e) (Ds.pair D E) (fun x => p x.1 ∧ q x.2) := by
  refine ⟨by show d.sz + e.sz = _; rw [h.sz, g.sz]; rfl, fun {m x cs} hk => ?_⟩
  obtain ⟨c1, c2, rfl, k1, k2⟩ := hk
  obtain ⟨h1, rfl, a1, b1⟩ := h.to k1
  obtain ⟨h2, rfl, a2, b2⟩ := g.to k2
  exact ⟨(h1, h2), rfl, ⟨a1, a2⟩, b1, b2⟩
theorem KD.rows (α : Type) [Enc α] : KD (Kd.slice (Kd.enc α)) (Ds.rows α) (fun l => l.length ≤ 9223372036854775807) := by
  refine ⟨rfl, fun {m x cs} hk => ?_⟩
  obtain ⟨a, c, rfl, hl, hr⟩ := hk
  exact ⟨(⟨a, x.length, c⟩ : Sl), rfl, ⟨rfl, hr.rd⟩, hl⟩
theorem choose_list {α β : Type} {p : α → β → Prop} : ∀ (l : List α), (∀ x ∈ l, ∃ y, p x y) → ∃ ys : List β, ys.length = l.length ∧ ∀ (i : Nat) (x : α) (y : β), l[i]? = some x → ys[i]? = some y → p x y
  | [], _ => ⟨[], rfl, by simp⟩
  | x :: l, h => by
    obtain ⟨y, hy⟩ := h x (by simp)
    obtain ⟨ys, hl, hp⟩ := choose_list l (fun z hz => h z (by simp [hz]))
    refine ⟨y :: ys, by simp [hl], fun i a b ha hb => ?_⟩
    cases i with
    | zero => simp at ha hb; subst ha hb; exact hy
    | succ i => exact hp i a b (by simpa using ha) (by simpa using hb)
theorem KD.list {α : Type} {d : Kd α} {D : Ds α} {p : α → Prop} (h : KD d D p) : KD (Kd.slice d) (Ds.list D) (fun l => l.length ≤ 9223372036854775807 ∧ ∀ x ∈ l, p x) := by
  refine ⟨rfl, fun {m x cs} hk => ?_⟩
  obtain ⟨a, c, rfl, hl, hr⟩ := hk
  cases a with
  | none =>
    have hr : x = [] := hr
    subst hr
    exact ⟨(⟨none, 0, c⟩ : Sl), rfl, ⟨rfl, [], rfl, rfl, by simp⟩, by simp, by simp⟩
  | some ad =>
    have key : ∀ i : Fin x.length, ∃ h : D.H, D.At m h x[i] ∧ p x[i] ∧ ∀ (j : Nat) (v : Value), (Enc.e h)[j]? = some v → m.cell? (ad.add (i.val * Enc.s D.H + j)) = some v := by
      intro i
      obtain ⟨ce, h1, h2, h3⟩ := hr i.val x[i] (List.getElem?_eq_getElem i.isLt)
      obtain ⟨hh, rfl, h4, h5⟩ := h.to h2
      exact ⟨hh, h4, h5, fun j v hv => by have := h3 j v hv; rwa [h.sz] at this⟩
    obtain ⟨hs, hlen, hp⟩ := choose_list (p := fun (i : Fin x.length) (h : D.H) => D.At m h x[i] ∧ p x[i] ∧ ∀ (j : Nat) (v : Value), (Enc.e h)[j]? = some v → m.cell? (ad.add (i.val * Enc.s D.H + j)) = some v) (List.finRange x.length) (fun i _ => key i)
    have hlen : hs.length = x.length := by rw [hlen, List.length_finRange]
    have hp' : ∀ (i : Nat) (hi : i < x.length) (h : D.H), hs[i]? = some h → D.At m h x[i] ∧ p x[i] ∧ ∀ (j : Nat) (v : Value), (Enc.e h)[j]? = some v → m.cell? (ad.add (i * Enc.s D.H + j)) = some v := by
      intro i hi h hh
      exact hp i ⟨i, hi⟩ h (by rw [List.getElem?_eq_getElem (by rw [List.length_finRange]; exact hi)]; simp) hh
    refine ⟨(⟨some ad, x.length, c⟩ : Sl), rfl, ⟨rfl, hs, hlen, fun i h hh j v hv => ?_, fun i h y hh hy => ?_⟩, hl, fun y hy => ?_⟩
    · have hi : i < x.length := by rw [← hlen]; exact (List.getElem?_eq_some_iff.1 hh).1
      exact (hp' i hi h hh).2.2 j v hv
    · obtain ⟨hi, rfl⟩ := List.getElem?_eq_some_iff.1 hy
      exact (hp' i hi h hh).1
    · obtain ⟨i, hi, rfl⟩ := List.getElem_of_mem hy
      exact (hp' i hi hs[i] (List.getElem?_eq_getElem (by omega))).2.1
end Go.Proofs.YtpdcjocjkbgddaaGreat.Abs
