/- Tables of specifications, and small laws on what is known of memory, for proofs over the printed equations. No condition. -/
import Derived.Test.YtpdcjocjkbgddaaDoorAbv
namespace Go.Proofs.YtpdcjocjkbgddaaDoor.Abs
open Go.RowKit

/-! ### Tables -/
abbrev Tab := List (FuncId × Spec)
def look : Tab → FuncId → Spec
  | [], _ => fun _ _ _ => False
  | (g, s) :: r, f => match Nat.beq f g with
    | true => s
    | false => look r f
theorem via {t : Tab} {f : FuncId} {s : Spec} {args : List Value} {m : Mem} {K : Value → Mem → Prop} (h : look t f = s) (hs : s args m K) : look t f args m K := h ▸ hs
def AllMeets (P : Program) (t : Tab) : Prop := ∀ f, Meets P f (look t f)
theorem allMeets_nil (P : Program) : AllMeets P [] := fun _ _ _ _ h => h.elim
theorem AllMeets.cons {P : Program} {t : Tab} (h : AllMeets P t) {f : FuncId} {s : Spec} (hs : Meets P f s) : AllMeets P ((f, s) :: t) := by
  intro g
  unfold look
  cases e : Nat.beq g f with
  | true => rw [Nat.eq_of_beq_eq_true e]; exact hs
  | false => exact h g
theorem AllMeets.add {P : Program} {t : Tab} (h : AllMeets P t) (hm : P.follows .mixedOrders = true) {f : FuncId} {s : Spec} (kp : Option Nat → List Nat) {fn : Func} (hf : P.funcs[f]? = some fn) (hn : (fn.name == "runtime.NumGoroutine") = false)
    (hs : ∀ args m Q, s args m Q → FA P (look t) kp fn args m Q) : AllMeets P ((f, s) :: t) :=
  h.cons (meets_of hm h kp hf hn hs)

/-! ### Memory -/
theorem newA_intro {m : Mem} {o : Obj} {K : Nat → Mem → Prop} (h : ∀ g m', m g = none → m' = m.upd g o → m' g = some o → Mem.le m m' → K g m') : newA m o K :=
  fun g hg => h g _ hg rfl (upd_same m g o) (le_upd hg)
theorem cell_of {m : Mem} {g : Nat} {c : Array Value} {t : TypeId} {fr : Nat × Nat} (h : m g = some (.cells c t fr)) (k : Nat) : m.cell? ⟨g, k, none⟩ = c[k]? := by
  unfold Mem.cell?
  rw [h]
  rfl
theorem cell_le {m m' : Mem} (h : Mem.le m m') {a : Addr} {v : Value} (e : m.cell? a = some v) : m'.cell? a = some v := by
  unfold Mem.cell? at *
  cases hb : m a.block with
  | none => rw [hb] at e; cases e
  | some o => rw [hb] at e; rw [h _ _ hb]; exact e
theorem held {m : Mem} {a : Addr} {v : Value} (e : m.cell? a = some v) : ∀ q : Mem, Mem.le m q → q.cell? a = some v := fun _ h => cell_le h e
theorem ret_intro {Q : Value → Mem → Prop} {v : Value} {m m1 : Mem} (h : Mem.le m1 m) (hq : Q v m1) : ret Q v m := ⟨m1, h, hq⟩
theorem add_add (a : Addr) (x y : Nat) : (a.add x).add y = a.add (x + y) := by
  unfold Addr.add
  by_cases hy : y = 0
  · subst hy; simp
  · by_cases hx : x = 0
    · subst hx; simp [hy]
    · simp [hx, hy, Nat.add_assoc]
theorem ne_of_none {m : Mem} {g b : Nat} {o : Obj} (hg : m g = none) (hb : m b = some o) : b ≠ g := by
  rintro rfl
  rw [hg] at hb
  cases hb
theorem le_of_upd {m m' : Mem} {g : Nat} {o : Obj} (h : Mem.le m m') (hg : m' g = some o) : Mem.le (m.upd g o) m' := by
  intro b x e
  by_cases hb : b = g
  · subst hb
    rw [upd_same] at e
    cases e
    exact hg
  · rw [upd_ne hb] at e
    exact h b x e
theorem upd_mono {m m' : Mem} (h : Mem.le m m') (g : Nat) (o : Obj) : Mem.le (m.upd g o) (m'.upd g o) := by
  intro b x e
  by_cases hb : b = g
  · subst hb
    rw [upd_same] at e ⊢
    exact e
  · rw [upd_ne hb] at e ⊢
    exact h b x e
/-- A store into a known block. -/
theorem sto {m : Mem} {g k : Nat} {c : Array Value} {t : TypeId} {vs : List Value} {K : Mem → Prop} (h : m g = some (.cells c t (0, 0))) (h1 : vs.all one = true) (hk : k + vs.length ≤ c.size)
    (hK : ∀ m', m' = m.upd g (.cells (setAll c k vs) t (0, 0)) → m' g = some (.cells (setAll c k vs) t (0, 0)) → (∀ b, b ≠ g → m' b = m b) → K m') : stoA m ⟨g, k, none⟩ vs K := by
  unfold stoA
  cases vs with
  | nil =>
    refine hK m ?_ h (fun _ _ => rfl)
    funext x
    unfold Mem.upd setAll
    by_cases hx : x = g
    · rw [if_pos hx, hx, h]
    · rw [if_neg hx]
  | cons v r => exact ⟨h1, c, t, h, rfl, hk, hK _ rfl (upd_same _ _ _) (fun b hb => upd_ne hb)⟩

/-! ### Rows of things of some cells each -/
def flat {α : Type} (e : α → List Value) (l : List α) : List Value := l.flatMap e
class Enc (α : Type) where
  e : α → List Value
  s : Nat
  len : ∀ x, (e x).length = s
  one : ∀ x, (e x).all one = true
/-- From the address a on stand the things l. -/
def Rd {α : Type} [Enc α] (m : Mem) (a : Option Addr) (l : List α) : Prop :=
  match a with
  | some ad => ∀ (i : Nat) (x : α), l[i]? = some x → ∀ (j : Nat) (v : Value), (Enc.e x)[j]? = some v → m.cell? (ad.add (i * Enc.s α + j)) = some v
  | none => l = []
theorem Rd.le {α : Type} [Enc α] {m m' : Mem} {a : Option Addr} {l : List α} (h : Rd m a l) (hl : Mem.le m m') : Rd m' a l := by
  cases a with
  | none => exact h
  | some ad => exact fun i x hx j v hv => cell_le hl (h i x hx j v hv)
theorem flat_len {α : Type} [Enc α] (l : List α) : (flat Enc.e l).length = l.length * Enc.s α := by
  unfold flat
  induction l with
  | nil => simp
  | cons x l ih => simp only [List.flatMap_cons, List.length_append, ih, Enc.len, List.length_cons, Nat.add_mul, Nat.one_mul, Nat.add_comm]
theorem flat_get {α : Type} [Enc α] : ∀ (l : List α) (i : Nat) (x : α), l[i]? = some x → ∀ (j : Nat) (v : Value), (Enc.e x)[j]? = some v → (flat Enc.e l)[i * Enc.s α + j]? = some v
  | [], i, x, h, _, _, _ => by simp at h
  | y :: l, 0, x, h, j, v, hv => by
    simp at h
    subst h
    unfold flat
    have hj : j < (Enc.e y).length := (List.getElem?_eq_some_iff.1 hv).1
    simp only [List.flatMap_cons, Nat.zero_mul, Nat.zero_add]
    rw [List.getElem?_append_left hj]
    exact hv
  | y :: l, i + 1, x, h, j, v, hv => by
    have := flat_get l i x (by simpa using h) j v hv
    unfold flat at *
    simp only [List.flatMap_cons]
    rw [List.getElem?_append_right (by rw [Enc.len, Nat.add_mul]; omega)]
    rw [Enc.len, show (i + 1) * Enc.s α + j - Enc.s α = i * Enc.s α + j by rw [Nat.add_mul]; omega]
    exact this
/-- A block that is known whole holds a row. -/
theorem Rd.of_block {α : Type} [Enc α] {m : Mem} {g : Nat} {c : Array Value} {t : TypeId} {fr : Nat × Nat} {l : List α} {spare : List Value} (h : m g = some (.cells c t fr)) (hc : c.toList = flat Enc.e l ++ spare) : Rd m (some ⟨g, 0, none⟩) l := by
  intro i x hx j v hv
  rw [add_eq rfl, cell_of h]
  have h1 := flat_get l i x hx j v hv
  rw [← Array.getElem?_toList, hc, Nat.zero_add, List.getElem?_append_left (List.getElem?_eq_some_iff.1 h1).1]
  exact h1
theorem cells_of_rd {α : Type} [Enc α] {m : Mem} : ∀ {a : Option Addr} {l : List α}, Rd m a l → CellsAt m a (flat Enc.e l)
  | none, l, h => by
    simp only [Rd] at h
    subst h
    rfl
  | some ad, l, h => by
    suffices key : ∀ (l : List α) (k : Nat), (∀ (i : Nat) (x : α), l[i]? = some x → ∀ (j : Nat) (v : Value), (Enc.e x)[j]? = some v → m.cell? (ad.add (k + i * Enc.s α + j)) = some v) →
        ∀ j v, (flat Enc.e l)[j]? = some v → m.cell? (ad.add (k + j)) = some v by
      intro j v hj
      have := key l 0 (fun i x hx j v hv => by simpa using h i x hx j v hv) j v hj
      simpa using this
    intro l
    induction l with
    | nil => intro k _ j v hj; simp [flat] at hj
    | cons x l ih =>
      intro k hk j v hj
      unfold flat at hj
      simp only [List.flatMap_cons] at hj
      by_cases hlt : j < (Enc.e x).length
      · rw [List.getElem?_append_left hlt] at hj
        have := hk 0 x rfl j v hj
        simpa using this
      · rw [List.getElem?_append_right (by omega), Enc.len] at hj
        have hlt' : ¬ j < Enc.s α := by rw [← Enc.len x]; exact hlt
        have := ih (k + Enc.s α) (fun i y hy j v hv => by have := hk (i + 1) y (by simpa using hy) j v hv; rwa [Nat.add_mul, Nat.one_mul, ← Nat.add_assoc, Nat.add_right_comm k] at this) (j - Enc.s α) v hj
        rwa [show k + Enc.s α + (j - Enc.s α) = k + j by omega] at this
/-- Looking at place i of a row. -/
theorem idx {α : Type} [Enc α] {m : Mem} {a : Option Addr} {l : List α} {i : Int} {n : Nat} {K : Addr → Prop} (h : Rd m a l) (hn : l.length = n) (h0 : 0 ≤ i) (hi : i < n)
    (hK : ∀ ad, a = some ad → (∀ (j : Nat) (v : Value), (Enc.e (l[i.toNat]'(by omega)))[j]? = some v → m.cell? (ad.add (i.toNat * Enc.s α + j)) = some v) → K ad) : optA a fun ad => 0 ≤ i ∧ i < (n : Int) ∧ K ad := by
  have hlt : i.toNat < l.length := by omega
  cases a with
  | none =>
    simp only [Rd] at h
    subst h
    simp at hlt
  | some ad => exact ⟨h0, hi, hK ad rfl fun j v hv => h i.toNat _ (List.getElem?_eq_getElem hlt) j v hv⟩
theorem idx' {α : Type} [Enc α] {m : Mem} {a : Option Addr} {l : List α} {i : Int} {n : Nat} {K : Addr → Prop} (h : Rd m a l) (hn : l.length = n) (h0 : 0 ≤ i) (hi : i < n)
    (hK : ∀ ad, a = some ad → (∀ (j : Nat) (v : Value), (Enc.e (l[i.toNat]'(by omega)))[j]? = some v → m.cell? ((ad.add (i.toNat * Enc.s α)).add j) = some v) → K ad) : optA a fun ad => 0 ≤ i ∧ i < (n : Int) ∧ K ad :=
  idx h hn h0 hi fun ad ha hc => hK ad ha fun j v hv => by rw [add_add]; exact hc j v hv
theorem upd_none {m : Mem} {g b : Nat} {o : Obj} : (m.upd g o) b = none ↔ b ≠ g ∧ m b = none := by
  unfold Mem.upd
  by_cases h : b = g
  · simp [h]
  · simp [h]
theorem le_upd_fresh {m m' : Mem} {g : Nat} {o : Obj} (h : Mem.le m m') (hg : m g = none) : Mem.le m (m'.upd g o) := by
  intro b x e
  rw [upd_ne]
  · exact h b x e
  · rintro rfl
    rw [hg] at e
    cases e
theorem wsucc {i n : Nat} (h : i < n) (hn : n ≤ 2 ^ 40) : IntKind.i64.wrap ((i : Int) + (1 : Int)) = ((i + 1 : Nat) : Int) := by
  unfold IntKind.wrap
  simp [IntKind.bits, IntKind.signed]
  omega
theorem take_eq_iff {α : Type} [DecidableEq α] {l1 l2 : List α} {i : Nat} (h1 : i < l1.length) (h2 : i < l2.length) (h : l1.take i = l2.take i) : l1.take (i + 1) = l2.take (i + 1) ↔ l1[i] = l2[i] := by
  rw [List.take_succ_eq_append_getElem h1, List.take_succ_eq_append_getElem h2, h]
  exact ⟨fun e => by have := List.append_cancel_left e; simpa using this, fun e => by rw [e]⟩
instance : Enc Int := ⟨fun x => [.int .i64 x], 1, fun _ => rfl, fun _ => rfl⟩
instance : Enc Bool := ⟨fun x => [.bool x], 1, fun _ => rfl, fun _ => rfl⟩
instance : Enc ByteArray := ⟨fun x => [.string x], 1, fun _ => rfl, fun _ => rfl⟩
instance {α β : Type} [Enc α] [Enc β] : Enc (α × β) := ⟨fun x => Enc.e x.1 ++ Enc.e x.2, Enc.s α + Enc.s β, fun x => by simp [Enc.len], fun x => by simp [Enc.one]⟩
theorem w64 {x : Int} (h0 : -9223372036854775808 ≤ x) (h1 : x ≤ 9223372036854775807) : IntKind.i64.wrap x = x := by
  unfold IntKind.wrap
  simp [IntKind.bits, IntKind.signed]
  omega
end Go.Proofs.YtpdcjocjkbgddaaDoor.Abs
