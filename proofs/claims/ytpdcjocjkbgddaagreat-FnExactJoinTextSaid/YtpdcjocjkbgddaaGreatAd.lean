/- Types with memory of their own: what it is that a value of such a type reads as a plain thing, and that the blocks it stands in are its own. No condition. -/
import Derived.Test.YtpdcjocjkbgddaaGreatAby
namespace Go.Proofs.YtpdcjocjkbgddaaGreat.Abs
open Go.RowKit
set_option linter.unusedVariables false

structure Sl where
  a : Option Addr
  n : Nat
  c : Nat
instance : Enc Sl := ⟨fun s => [.slice s.a s.n s.c], 1, fun _ => rfl, fun _ => rfl⟩
structure U64 where
  v : Int
  deriving DecidableEq, Inhabited
instance : Enc U64 := ⟨fun x => [.int .u64 x.v], 1, fun _ => rfl, fun _ => rfl⟩
structure U8 where
  v : Int
  deriving DecidableEq, Inhabited
instance : Enc U8 := ⟨fun x => [.int .u8 x.v], 1, fun _ => rfl, fun _ => rfl⟩

theorem le_none {m M : Mem} {g : Nat} (h : Mem.le m M) (hg : M g = none) : m g = none := by
  cases e : m g with
  | none => rfl
  | some o => rw [h _ _ e] at hg; cases hg
theorem le_other {m M M' : Mem} {g : Nat} (h : Mem.le m M) (hg : m g = none) (ho : ∀ b, b ≠ g → M' b = M b) : Mem.le m M' := by
  intro b x e
  have : b ≠ g := by rintro rfl; rw [hg] at e; cases e
  rw [ho b this]
  exact h b x e
theorem le_off {m M M' : Mem} {D : List Nat} (h : Mem.le m M) (hg : ∀ b ∈ D, m b = none) (ho : ∀ b, b ∉ D → M' b = M b) : Mem.le m M' := by
  intro b x e
  have : b ∉ D := fun hb => by rw [hg b hb] at e; cases e
  rw [ho b this]
  exact h b x e

/-- A thing of a row is written whole. -/
theorem sto_elem {α : Type} [Enc α] {m : Mem} {g i : Nat} {t : TypeId} {l : List α} {spare : List Value} {a : Addr} {x : α} {K : Mem → Prop} (hm : m g = some (.cells (flat Enc.e l ++ spare).toArray t (0, 0))) (ha : a = ⟨g, i * Enc.s α, none⟩) (hi : i < l.length)
    (hK : K (m.upd g (.cells (flat Enc.e (l.set i x) ++ spare).toArray t (0, 0)))) : stoA m a (Enc.e x) K := by
  subst ha
  have hl : l = l.take i ++ (l[i] :: l.drop (i + 1)) := by rw [← List.drop_eq_getElem_cons hi, List.take_append_drop]
  have hf : flat Enc.e l = flat Enc.e (l.take i) ++ (Enc.e l[i] ++ flat Enc.e (l.drop (i + 1))) := by
    conv => lhs; rw [hl]
    rw [flat_append, flat_cons]
  have hlen : (flat Enc.e (l.take i)).length = i * Enc.s α := by rw [flat_len, List.length_take]; congr 1; omega
  refine sto hm (Enc.one x) ?_ fun m' e _ _ => ?_
  · rw [hf]
    simp [hlen, Enc.len]
  · rw [e]
    have : setAll (flat Enc.e l ++ spare).toArray (i * Enc.s α) (Enc.e x) = (flat Enc.e (l.set i x) ++ spare).toArray := by
      have h1 := set_all_mid (Enc.e x) (flat Enc.e (l.take i)) (Enc.e l[i] ++ (flat Enc.e (l.drop (i + 1)) ++ spare)) (by simp [Enc.len])
      rw [hlen] at h1
      have h2 : flat Enc.e l ++ spare = flat Enc.e (l.take i) ++ (Enc.e l[i] ++ (flat Enc.e (l.drop (i + 1)) ++ spare)) := by rw [hf]; simp only [List.append_assoc]
      rw [h2, h1]
      have h3 : (Enc.e l[i] ++ (flat Enc.e (l.drop (i + 1)) ++ spare)).drop (Enc.e x).length = flat Enc.e (l.drop (i + 1)) ++ spare := by
        rw [Enc.len]
        exact List.drop_left' (Enc.len _)
      rw [h3]
      have h4 : l.set i x = l.take i ++ (x :: l.drop (i + 1)) := by rw [List.set_eq_take_append_cons_drop, if_pos hi]
      rw [h4, flat_append, flat_cons]
      simp only [List.append_assoc]
    rw [this]
    exact hK

/-- A row whose block is one's own. -/
def OwnL {α : Type} [Enc α] (m : Mem) (s : Sl) (l : List α) (D : List Nat) : Prop :=
  s.n = l.length ∧ ((s.a = none ∧ s.c = 0 ∧ l = [] ∧ D = []) ∨ ∃ g t spare, s.a = some ⟨g, 0, none⟩ ∧ D = [g] ∧ m g = some (.cells (flat Enc.e l ++ spare).toArray t (0, 0)) ∧ l.length * Enc.s α + spare.length = s.c * Enc.s α)
theorem OwnL.rd {α : Type} [Enc α] {m : Mem} {s : Sl} {l : List α} {D : List Nat} (h : OwnL m s l D) : Rd m s.a l := by
  obtain ⟨_, ⟨h1, _, h2, _⟩ | ⟨g, t, spare, h1, _, h2, _⟩⟩ := h
  · rw [h1, h2]; rfl
  · rw [h1]; exact Rd.of_block (spare := spare) h2 rfl
theorem OwnL.ext {α : Type} [Enc α] {m m' : Mem} {s : Sl} {l : List α} {D : List Nat} (h : OwnL m s l D) (he : ∀ b ∈ D, m' b = m b) : OwnL m' s l D := by
  obtain ⟨h0, ⟨h1, h2, h3⟩ | ⟨g, t, spare, h1, hD, h2, h3⟩⟩ := h
  · exact ⟨h0, .inl ⟨h1, h2, h3⟩⟩
  · exact ⟨h0, .inr ⟨g, t, spare, h1, hD, by rw [he g (by rw [hD]; simp)]; exact h2, h3⟩⟩
theorem OwnL.live {α : Type} [Enc α] {m : Mem} {s : Sl} {l : List α} {D : List Nat} (h : OwnL m s l D) : ∀ b ∈ D, ∃ o, m b = some o := by
  obtain ⟨_, ⟨_, _, _, h2⟩ | ⟨g, t, spare, h1, hD, h2, _⟩⟩ := h
  · rw [h2]; simp
  · intro b hb
    rw [hD, List.mem_singleton] at hb
    subst hb
    exact ⟨_, h2⟩

/-- A type with memory of its own: its header, what the header reads as, and in which blocks that stands. -/
structure Ds (α : Type) where
  H : Type
  enc : Enc H
  At : Mem → H → α → Prop
  Own : Mem → H → α → List Nat → Prop
  at_le : ∀ {m m' h x}, Mem.le m m' → At m h x → At m' h x
  own_at : ∀ {m h x D}, Own m h x D → At m h x
  own_ext : ∀ {m m' h x D}, Own m h x D → (∀ b ∈ D, m' b = m b) → Own m' h x D
  live : ∀ {m h x D}, Own m h x D → ∀ b ∈ D, ∃ o, m b = some o
instance {α : Type} (d : Ds α) : Enc d.H := d.enc
/-- Things without memory. -/
def Ds.flat (α : Type) [e : Enc α] : Ds α := ⟨α, e, fun _ h x => h = x, fun _ h x D => h = x ∧ D = [], fun _ h => h, fun h => h.1, fun h _ => h, fun h b hb => by rw [h.2] at hb; simp at hb⟩
def Ds.pair {α β : Type} (d : Ds α) (e : Ds β) : Ds (α × β) :=
  ⟨d.H × e.H, inferInstance, fun m h x => d.At m h.1 x.1 ∧ e.At m h.2 x.2, fun m h x D => ∃ D1 D2, D = D1 ++ D2 ∧ d.Own m h.1 x.1 D1 ∧ e.Own m h.2 x.2 D2,
    fun hl h => ⟨d.at_le hl h.1, e.at_le hl h.2⟩, fun ⟨_, _, _, h1, h2⟩ => ⟨d.own_at h1, e.own_at h2⟩,
    fun ⟨D1, D2, hD, h1, h2⟩ he => ⟨D1, D2, hD, d.own_ext h1 (fun b hb => he b (by rw [hD]; simp [hb])), e.own_ext h2 (fun b hb => he b (by rw [hD]; simp [hb]))⟩,
    fun ⟨D1, D2, hD, h1, h2⟩ b hb => by
      rw [hD, List.mem_append] at hb
      rcases hb with hb | hb
      · exact d.live h1 b hb
      · exact e.live h2 b hb⟩
/-- Rows of things without memory. -/
def Ds.rows (α : Type) [Enc α] : Ds (List α) :=
  ⟨Sl, inferInstance, fun m s l => s.n = l.length ∧ Rd m s.a l, fun m s l D => OwnL m s l D, fun hl h => ⟨h.1, h.2.le hl⟩, fun h => ⟨h.1, h.rd⟩, fun h he => h.ext he, fun h => h.live⟩
/-- Rows of things with memory. -/
def Ds.list {α : Type} (d : Ds α) : Ds (List α) :=
  ⟨Sl, inferInstance,
    fun m s l => s.n = l.length ∧ ∃ hs : List d.H, hs.length = l.length ∧ Rd m s.a hs ∧ ∀ (i : Nat) (h : d.H) (x : α), hs[i]? = some h → l[i]? = some x → d.At m h x,
    fun m s l D => ∃ (hs : List d.H) (Es : List (List Nat)) (D0 : List Nat), hs.length = l.length ∧ Es.length = l.length ∧ D = D0 ++ Es.flatten ∧ OwnL m s hs D0 ∧ ∀ (i : Nat) (h : d.H) (x : α) (E : List Nat), hs[i]? = some h → l[i]? = some x → Es[i]? = some E → d.Own m h x E,
    fun hl ⟨h0, hs, h1, h2, h3⟩ => ⟨h0, hs, h1, h2.le hl, fun i h x e1 e2 => d.at_le hl (h3 i h x e1 e2)⟩,
    fun {m s l D} ⟨hs, Es, D0, h1, h2, hD, h3, h4⟩ => ⟨h3.1.trans h1, hs, h1, h3.rd, fun i h x e1 e2 => by
      have hi : i < Es.length := by rw [h2]; exact (List.getElem?_eq_some_iff.1 e2).1
      exact d.own_at (h4 i h x _ e1 e2 (List.getElem?_eq_getElem hi))⟩,
    fun {m m' s l D} ⟨hs, Es, D0, h1, h2, hD, h3, h4⟩ he => ⟨hs, Es, D0, h1, h2, hD, h3.ext (fun b hb => he b (by rw [hD]; simp [hb])), fun i h x E e1 e2 e3 => d.own_ext (h4 i h x E e1 e2 e3) (fun b hb => he b (by
      rw [hD, List.mem_append]
      exact .inr (List.mem_flatten.2 ⟨E, List.mem_of_getElem? e3, hb⟩)))⟩,
    fun {m s l D} ⟨hs, Es, D0, h1, h2, hD, h3, h4⟩ b hb => by
      rw [hD, List.mem_append] at hb
      rcases hb with hb | hb
      · exact h3.live b hb
      · obtain ⟨E, hE, hb⟩ := List.mem_flatten.1 hb
        obtain ⟨i, hi, e⟩ := List.getElem_of_mem hE
        exact d.live (h4 i (hs[i]'(by omega)) (l[i]'(by omega)) E (List.getElem?_eq_getElem _) (List.getElem?_eq_getElem _) (by rw [List.getElem?_eq_getElem hi, e])) b hb⟩

theorem Ds.own_le {α : Type} (d : Ds α) {m m' : Mem} {h : d.H} {x : α} {D : List Nat} (hl : Mem.le m m') (ho : d.Own m h x D) : d.Own m' h x D :=
  d.own_ext ho fun b hb => by
    obtain ⟨o, e⟩ := d.live ho b hb
    rw [e]
    exact hl _ _ e
theorem apart_of {Es : List (List Nat)} (h : Es.flatten.Nodup) {i j : Nat} {A B : List Nat} (hi : Es[i]? = some A) (hj : Es[j]? = some B) (hne : i ≠ j) {b : Nat} (hb : b ∈ A) : b ∉ B := by
  intro hb'
  have hp := (List.pairwise_flatten.1 h).2
  obtain ⟨hi1, hi2⟩ := List.getElem?_eq_some_iff.1 hi
  obtain ⟨hj1, hj2⟩ := List.getElem?_eq_some_iff.1 hj
  rcases Nat.lt_or_gt_of_ne hne with hlt | hlt
  · have := (List.pairwise_iff_getElem.1 hp) i j hi1 hj1 hlt b (by rw [hi2]; exact hb) b (by rw [hj2]; exact hb')
    exact this rfl
  · have := (List.pairwise_iff_getElem.1 hp) j i hj1 hi1 hlt b (by rw [hj2]; exact hb') b (by rw [hi2]; exact hb)
    exact this rfl
/-- One thing of a row of things with memory turns. -/
theorem Ds.list_set {α : Type} (d : Ds α) {m m' : Mem} {s : Sl} {l : List α} {hs : List d.H} {Es : List (List Nat)} {D0 : List Nat} {i : Nat} {x' : α} {h' : d.H} {A : List Nat} (hl : hs.length = l.length) (he : Es.length = l.length) (hnd : (D0 ++ Es.flatten).Nodup)
    (how : ∀ (j : Nat) (h : d.H) (x : α) (E : List Nat), hs[j]? = some h → l[j]? = some x → Es[j]? = some E → d.Own m h x E) (hA : Es[i]? = some A) (h0 : OwnL m' s (hs.set i h') D0) (h1 : d.Own m' h' x' A) (hk : ∀ b ∈ Es.flatten, b ∉ A → m' b = m b) :
    (Ds.list d).Own m' s (l.set i x') (D0 ++ Es.flatten) := by
  refine ⟨hs.set i h', Es, D0, by simp [hl], by simp [he], rfl, h0, fun j h x E e1 e2 e3 => ?_⟩
  by_cases hj : i = j
  · subst hj
    rw [hA] at e3
    cases e3
    have hi : i < hs.length := by rw [hl, ← he]; exact (List.getElem?_eq_some_iff.1 hA).1
    rw [List.getElem?_set_self hi] at e1
    rw [List.getElem?_set_self (by omega)] at e2
    cases e1
    cases e2
    exact h1
  · rw [List.getElem?_set_ne hj] at e1 e2
    refine d.own_ext (how j h x E e1 e2 e3) fun b hb => hk b (List.mem_flatten.2 ⟨E, List.mem_of_getElem? e3, hb⟩) ?_
    exact apart_of (List.nodup_append.1 hnd).2.1 e3 hA (Ne.symm hj) hb
/-! ### The contracts of the functions that are made for each type -/
section
variable {α : Type}
/-- The size: it says nothing, or that the thing is small. -/
def szS (d : Ds α) (v : d.H → Value) (ok : α → Prop) : Spec := fun args m Q => ∃ (h : d.H) (x : α) (k : Int), args = [v h, .int .i64 k] ∧ d.At m h x ∧ 0 ≤ k ∧ k ≤ 2 ^ 20 ∧ ∀ r : Int, (r < 0 ∨ 0 ≤ r ∧ r ≤ k ∧ ok x) → Q (.int .i64 r) m
/-- A copy in blocks of its own. -/
def toS (d : Ds α) (v : d.H → Value) (v' : d.H → Value) (ok : α → Prop) : Spec := fun args m Q => ∃ (h : d.H) (x : α), args = [v h] ∧ d.At m h x ∧ ok x ∧
  ∀ (h' : d.H) (D : List Nat) (m' : Mem), Mem.le m m' → (∀ b ∈ D, m b = none) → D.Nodup → d.Own m' h' x D → Q (v' h') m'
def eqS [DecidableEq α] (d : Ds α) (v : d.H → Value) (ok : α → Prop) : Spec := fun args m Q => ∃ (h : d.H) (x : α) (h' : d.H) (y : α), args = [v h, v h'] ∧ d.At m h x ∧ d.At m h' y ∧ ok x ∧ Q (.bool (decide (x = y))) m
/-- Marks are written into what is one's own. -/
def mkS (d : Ds α) (v : d.H → Value) (mk : Int → α → α) (cnt : α → Nat) (ok : α → Prop) (B : Int) : Spec := fun args m Q => ∃ (h : d.H) (x : α) (D : List Nat) (k : Int), args = [v h, .int .i64 k] ∧ d.Own m h x D ∧ D.Nodup ∧ ok x ∧ 0 < k ∧ k ≤ B ∧
  ∀ m' : Mem, (∀ b, b ∉ D → m' b = m b) → d.Own m' h (mk k x) D → Q (.int .i64 (k + cnt x)) m'
/-- The marks are there still. -/
def hdS (d : Ds α) (v : d.H → Value) (mk : Int → α → α) (cnt : α → Nat) (ok : α → Prop) (B : Int) : Spec := fun args m Q => ∃ (h : d.H) (x : α) (k : Int), args = [v h, .int .i64 k] ∧ d.At m h (mk k x) ∧ ok x ∧ 0 < k ∧ k ≤ B ∧ Q (.int .i64 (k + cnt x)) m
end
def vs (s : Sl) : Value := .slice s.a s.n s.c
end Go.Proofs.YtpdcjocjkbgddaaGreat.Abs
