/- An abstract run of the program's code over what is known of memory, and that it is sound: what the abstract run shows of a function holds of each call of it. No condition. -/
import Derived.Deep.Quiet
import Derived.Scope
import Derived.Below
namespace Go.Proofs.YtpdcjocjkbgddaaDoor.Abs
open Go.RowKit

/-- What is known of memory: some blocks. -/
abbrev Mem := Nat → Option Obj
def Mem.upd (m : Mem) (g : Nat) (o : Obj) : Mem := fun b => if b = g then some o else m b
def Mem.cell? (m : Mem) (a : Addr) : Option Value :=
  match m a.block with
  | some (.cells c _ _) => if a.spot.isSome then none else c[a.off]?
  | _ => none
def Mem.le (m m' : Mem) : Prop := ∀ b o, m b = some o → m' b = some o
theorem Mem.le_refl (m : Mem) : Mem.le m m := fun _ _ h => h
theorem Mem.le_trans {a b c : Mem} (h : Mem.le a b) (k : Mem.le b c) : Mem.le a c := fun x o e => k x o (h x o e)

/-- The world w has what is known; blocks that were there and are D (not known) are as they were. -/
structure Rel (D : Nat → Prop) (w0 : World) (m : Mem) (w : World) : Prop where
  emb : ∀ b o, m b = some o → w.heap[b]? = some o
  os : w.os = w0.os
  tape : w.tape = w0.tape
  output : w.output = w0.output
  size : w0.heap.size ≤ w.heap.size
  old : ∀ b, b < w0.heap.size → D b → m b = none ∧ w.heap[b]? = w0.heap[b]?

section
variable {D : Nat → Prop} {w0 w w' : World} {m m' : Mem}
theorem Rel.weaken (h : Rel D w0 m' w) (hm : Mem.le m m') : Rel D w0 m w :=
  ⟨fun b o e => h.emb b o (hm b o e), h.os, h.tape, h.output, h.size, fun b hb hd => by
    refine ⟨?_, (h.old b hb hd).2⟩
    cases e : m b with
    | none => rfl
    | some o =>
      have h1 := hm b o e
      rw [(h.old b hb hd).1] at h1
      cases h1⟩
theorem Rel.fresh (h : Rel D w0 m w) {g : Nat} (hg : w.heap.size ≤ g) : m g = none := by
  cases e : m g with
  | none => rfl
  | some o =>
    have h1 := h.emb g o e
    have h2 := (Array.getElem?_eq_some_iff.1 h1).1
    omega
theorem Rel.drew (h : Rel D w0 m w) (n : Nat) : Rel D w0 m { w with drawn := n } := ⟨h.emb, h.os, h.tape, h.output, h.size, h.old⟩
theorem Rel.push (h : Rel D w0 m w) (o : Obj) : Rel D w0 (m.upd w.heap.size o) { w with heap := w.heap.push o } := by
  refine ⟨fun b o' e => ?_, h.os, h.tape, h.output, ?_, fun b hb hd => ?_⟩
  · unfold Mem.upd at e
    show (w.heap.push o)[b]? = some o'
    by_cases hb : b = w.heap.size
    · rw [if_pos hb] at e
      rw [hb, Array.getElem?_push_size]
      exact e
    · rw [if_neg hb] at e
      have h1 := h.emb b o' e
      have h2 := (Array.getElem?_eq_some_iff.1 h1).1
      rw [Array.getElem?_push, if_neg hb]
      exact h1
  · show w0.heap.size ≤ (w.heap.push o).size
    have := h.size
    simp
    omega
  · have := h.size
    have hne : ¬ b = w.heap.size := by omega
    refine ⟨?_, ?_⟩
    · unfold Mem.upd
      rw [if_neg hne]
      exact (h.old b hb hd).1
    · show (w.heap.push o)[b]? = _
      rw [Array.getElem?_push, if_neg hne]
      exact (h.old b hb hd).2
/-- A known block is changed. -/
theorem Rel.change (h : Rel D w0 m w) {r : Nat} {o o' : Obj} (hr : m r = some o) {hp : Array Obj} (hs : hp.size = w.heap.size) (h1 : hp[r]? = some o') (h2 : ∀ b, b ≠ r → hp[b]? = w.heap[b]?) :
    Rel D w0 (m.upd r o') { w with heap := hp } := by
  refine ⟨fun b x e => ?_, h.os, h.tape, h.output, ?_, fun b hb hd => ?_⟩
  · unfold Mem.upd at e
    show hp[b]? = some x
    by_cases hb : b = r
    · rw [if_pos hb] at e
      rw [hb, h1]
      exact e
    · rw [if_neg hb] at e
      rw [h2 b hb]
      exact h.emb b x e
  · show w0.heap.size ≤ hp.size
    rw [hs]
    exact h.size
  · have hne : b ≠ r := by
      rintro rfl
      have := (h.old b hb hd).1
      rw [hr] at this
      cases this
    refine ⟨?_, ?_⟩
    · unfold Mem.upd
      rw [if_neg hne]
      exact (h.old b hb hd).1
    · show hp[b]? = _
      rw [h2 b hne]
      exact (h.old b hb hd).2
theorem Rel.cell (h : Rel D w0 m w) {a : Addr} {v : Value} (e : m.cell? a = some v) : w.cell? a = some v := by
  unfold Mem.cell? at e
  unfold World.cell?
  cases hb : m a.block with
  | none => rw [hb] at e; cases e
  | some o =>
    rw [hb] at e
    rw [h.emb _ _ hb]
    exact e
theorem Rel.compose (h : Rel D w0 m w) (k : Rel (fun b => m b = none) w m' w') : Rel D w0 m' w' := by
  refine ⟨k.emb, k.os.trans h.os, k.tape.trans h.tape, k.output.trans h.output, Nat.le_trans h.size k.size, fun b hb hd => ?_⟩
  have h1 := h.old b hb hd
  have h2 := k.old b (Nat.lt_of_lt_of_le hb h.size) h1.1
  exact ⟨h2.1, h2.2.trans h1.2⟩
theorem Rel.start (hm : ∀ b o, m b = some o → w.heap[b]? = some o) : Rel (fun b => m b = none) w m w :=
  ⟨hm, rfl, rfl, rfl, Nat.le_refl _, fun _ _ h => ⟨h, rfl⟩⟩
end

/-- A value that fits one cell. -/
def one : Value → Bool
  | .agg _ | .tuple _ => false
  | _ => true

section
variable (P : Program)
/-- The abstract run of a computation of the model. -/
def absS {α : Type} : Sem α → (α → Mem → Prop) → Mem → Prop
  | .pure a, Q, m => Q a m
  | .load _ a k, Q, m => match m.cell? a with
    | some v => absS (k v) Q m
    | none => False
  | .store _ a v k, Q, m => one v = true ∧ match m a.block with
    | some (.cells c e fr) => a.spot = none ∧ a.off < c.size ∧ (decide (fr.1 ≤ a.off) && decide (a.off < fr.2)) = false ∧ absS k Q (m.upd a.block (.cells (c.setIfInBounds a.off v) e fr))
    | _ => False
  | .new o k, Q, m => ∀ g, m g = none → absS (k g) Q (m.upd g o)
  | .shape r k, Q, m => match m r with
    | some (.cells c e _) => absS (k (some (e, c.size))) Q m
    | _ => False
  | .freeze _ _ _, _, _ => False
  | .frozen a k, Q, m => match m a.block with
    | some (.cells _ _ fr) => absS (k (decide (fr.1 ≤ a.off) && decide (a.off < fr.2))) Q m
    | _ => False
  | .getObj r k, Q, m => match m r with
    | some (.cells _ _ _) => False
    | some o => absS (k o) Q m
    | none => False
  | .setObj r o k, Q, m => match m r with
    | some (.cells _ _ _) => False
    | some _ => absS k Q (m.upd r o)
    | none => False
  | .choose q k, Q, m => if q.forced = true then absS (k 0) Q m else ∀ n, absS (k (q.cut n)) Q m
  | .sys _ _, _, _ => False
  | .program k, Q, m => absS (k P) Q m
  | .mark _ k, Q, m => absS k Q m
  | .halt _, _, _ => False

theorem absS_bind {α β : Type} (s : Sem α) (f : α → Sem β) (Q : β → Mem → Prop) (m : Mem) : absS P (s.bind f) Q m = absS P s (fun a m => absS P (f a) Q m) m := by
  induction s generalizing m with
  | pure a => rfl
  | load md a k ih =>
    simp only [Sem.bind, absS]
    cases m.cell? a with
    | none => rfl
    | some v => exact ih v m
  | store md a v k ih =>
    simp only [Sem.bind, absS, ih]
  | new o k ih => simp only [Sem.bind, absS, ih]
  | shape r k ih => simp only [Sem.bind, absS, ih]
  | freeze a n k ih => rfl
  | frozen a k ih => simp only [Sem.bind, absS, ih]
  | getObj r k ih => simp only [Sem.bind, absS, ih]
  | setObj r o k ih => simp only [Sem.bind, absS, ih]
  | choose q k ih => simp only [Sem.bind, absS, ih]
  | sys c k ih => rfl
  | program k ih => simp only [Sem.bind, absS, ih]
  | mark mk k ih => simp only [Sem.bind, absS, ih]
  | halt h => rfl

theorem absS_sound {α : Type} {D : Nat → Prop} {w0 : World} (s : Sem α) (Q : α → Mem → Prop) (m : Mem) (w : World) (h : absS P s Q m) (hr : Rel D w0 m w) :
    ∃ a w' m', s.run P w = .ok a w' ∧ Q a m' ∧ Rel D w0 m' w' := by
  induction s generalizing m w with
  | pure a => exact ⟨a, w, m, rfl, h, hr⟩
  | load md a k ih =>
    simp only [absS] at h
    simp only [Sem.run]
    cases e : m.cell? a with
    | none => rw [e] at h; exact h.elim
    | some v =>
      rw [e] at h
      rw [hr.cell e]
      exact ih v m w h hr
  | store md a v k ih =>
    simp only [absS] at h
    obtain ⟨h1, h2⟩ := h
    cases e : m a.block with
    | none => rw [e] at h2; exact h2.elim
    | some o =>
      rw [e] at h2
      cases o with
      | cells c t fr =>
        obtain ⟨hs, ho, hf, hk⟩ := h2
        have he := hr.emb _ _ e
        have hc : w.cell? a = some (c[a.off]) := by
          unfold World.cell?
          rw [he]
          simp [hs, ho]
        have hz : w.frozen? a = false := by
          unfold World.frozen?
          rw [he]
          exact hf
        have hrun : (Sem.store md a v k).run P w = k.run P (w.setCell a v) := by
          cases v <;> first | (simp only [Sem.run, hc, hz, Bool.false_eq_true, if_false]; done) | (cases h1; done)
        rw [hrun]
        refine ih _ _ hk ?_
        have hlt : a.block < w.heap.size := (Array.getElem?_eq_some_iff.1 he).1
        refine hr.change e (hp := w.heap.modify a.block fun
          | .cells c elem frozen => .cells (if a.spot.isSome then c else c.setIfInBounds a.off v) elem frozen
          | o => o) (by simp) ?_ (fun b hb => ?_)
        · rw [Array.getElem?_modify, if_pos rfl, he]
          simp [hs]
        · rw [Array.getElem?_modify, if_neg (fun e => hb e.symm)]
      | _ => exact h2.elim
  | new o k ih =>
    simp only [absS] at h
    simp only [Sem.run]
    exact ih _ _ _ (h _ (hr.fresh (Nat.le_refl _))) (hr.push o)
  | shape r k ih =>
    simp only [absS] at h
    simp only [Sem.run]
    cases e : m r with
    | none => rw [e] at h; exact h.elim
    | some o =>
      rw [e] at h
      cases o with
      | cells c t fr =>
        have : w.shape? r = some (t, c.size) := by unfold World.shape?; rw [hr.emb _ _ e]
        rw [this]
        exact ih _ _ _ h hr
      | _ => exact h.elim
  | freeze a n k ih => exact h.elim
  | frozen a k ih =>
    simp only [absS] at h
    simp only [Sem.run]
    cases e : m a.block with
    | none => rw [e] at h; exact h.elim
    | some o =>
      rw [e] at h
      cases o with
      | cells c t fr =>
        have : w.frozen? a = (decide (fr.1 ≤ a.off) && decide (a.off < fr.2)) := by unfold World.frozen?; rw [hr.emb _ _ e]
        rw [this]
        exact ih _ _ _ h hr
      | _ => exact h.elim
  | getObj r k ih =>
    simp only [absS] at h
    simp only [Sem.run]
    cases e : m r with
    | none => rw [e] at h; exact h.elim
    | some o =>
      rw [e] at h
      rw [hr.emb _ _ e]
      cases o with
      | cells c t fr => exact h.elim
      | _ => exact ih _ _ _ h hr
  | setObj r o k ih =>
    simp only [absS] at h
    simp only [Sem.run]
    cases e : m r with
    | none => rw [e] at h; exact h.elim
    | some o' =>
      rw [e] at h
      have he := hr.emb _ _ e
      have hlt : r < w.heap.size := (Array.getElem?_eq_some_iff.1 he).1
      have key : absS P k Q (m.upd r o) → ∃ a w' m', k.run P { w with heap := w.heap.setIfInBounds r o } = .ok a w' ∧ Q a m' ∧ Rel D w0 m' w' := fun h =>
        ih _ _ h (hr.change e (by simp) (by simp [hlt]) (fun b hb => by rw [Array.getElem?_setIfInBounds_ne (fun e => hb e.symm)]))
      rw [he]
      cases o' with
      | cells c t fr => exact h.elim
      | _ => exact key h
  | choose q k ih =>
    simp only [absS] at h
    simp only [Sem.run]
    by_cases hq : q.forced = true
    · rw [if_pos hq] at h
      rw [if_pos hq]
      exact ih _ _ _ h hr
    · rw [if_neg hq] at h
      rw [if_neg hq]
      exact ih _ _ _ (h _) (hr.drew _)
  | sys c k ih => exact h.elim
  | program k ih => exact ih _ _ _ h hr
  | mark mk k ih => exact ih _ _ h hr
  | halt x => exact h.elim

/-- A computation that only reads: its one answer. -/
def rdS {α : Type} : Sem α → (α → Prop) → Mem → Prop
  | .pure a, Q, _ => Q a
  | .load _ a k, Q, m => match m.cell? a with
    | some v => rdS (k v) Q m
    | none => False
  | .shape r k, Q, m => match m r with
    | some (.cells c e _) => rdS (k (some (e, c.size))) Q m
    | _ => False
  | .frozen a k, Q, m => match m a.block with
    | some (.cells _ _ fr) => rdS (k (decide (fr.1 ≤ a.off) && decide (a.off < fr.2))) Q m
    | _ => False
  | .getObj r k, Q, m => match m r with
    | some (.cells _ _ _) => False
    | some o => rdS (k o) Q m
    | none => False
  | .choose q k, Q, m => if q.forced = true then rdS (k 0) Q m else False
  | .program k, Q, m => rdS (k P) Q m
  | .mark _ k, Q, m => rdS k Q m
  | _, _, _ => False

theorem rdS_sound {α : Type} (s : Sem α) (Q : α → Prop) (m : Mem) (h : rdS P s Q m) : ∃ a, Q a ∧ ∀ (D : Nat → Prop) (w0 w : World), Rel D w0 m w → s.run P w = .ok a w := by
  induction s with
  | pure a => exact ⟨a, h, fun _ _ _ _ => rfl⟩
  | load md a k ih =>
    simp only [rdS] at h
    cases e : m.cell? a with
    | none => rw [e] at h; exact h.elim
    | some v =>
      rw [e] at h
      obtain ⟨x, hx, hw⟩ := ih v h
      exact ⟨x, hx, fun D w0 w hr => by simp only [Sem.run, hr.cell e]; exact hw D w0 w hr⟩
  | store md a v k ih => exact h.elim
  | new o k ih => exact h.elim
  | shape r k ih =>
    simp only [rdS] at h
    cases e : m r with
    | none => rw [e] at h; exact h.elim
    | some o =>
      rw [e] at h
      cases o with
      | cells c t fr =>
        obtain ⟨x, hx, hw⟩ := ih _ h
        exact ⟨x, hx, fun D w0 w hr => by
          have : w.shape? r = some (t, c.size) := by unfold World.shape?; rw [hr.emb _ _ e]
          simp only [Sem.run, this]
          exact hw D w0 w hr⟩
      | _ => exact h.elim
  | freeze a n k ih => exact h.elim
  | frozen a k ih =>
    simp only [rdS] at h
    cases e : m a.block with
    | none => rw [e] at h; exact h.elim
    | some o =>
      rw [e] at h
      cases o with
      | cells c t fr =>
        obtain ⟨x, hx, hw⟩ := ih _ h
        exact ⟨x, hx, fun D w0 w hr => by
          have : w.frozen? a = (decide (fr.1 ≤ a.off) && decide (a.off < fr.2)) := by unfold World.frozen?; rw [hr.emb _ _ e]
          simp only [Sem.run, this]
          exact hw D w0 w hr⟩
      | _ => exact h.elim
  | getObj r k ih =>
    simp only [rdS] at h
    cases e : m r with
    | none => rw [e] at h; exact h.elim
    | some o =>
      rw [e] at h
      cases o with
      | cells c t fr => exact h.elim
      | _ =>
        obtain ⟨x, hx, hw⟩ := ih _ h
        exact ⟨x, hx, fun D w0 w hr => by simp only [Sem.run, hr.emb _ _ e]; exact hw D w0 w hr⟩
  | setObj r o k ih => exact h.elim
  | choose q k ih =>
    simp only [rdS] at h
    by_cases hq : q.forced = true
    · rw [if_pos hq] at h
      obtain ⟨x, hx, hw⟩ := ih _ h
      exact ⟨x, hx, fun D w0 w hr => by simp only [Sem.run, if_pos hq]; exact hw D w0 w hr⟩
    · rw [if_neg hq] at h
      exact h.elim
  | sys c k ih => exact h.elim
  | program k ih =>
    obtain ⟨x, hx, hw⟩ := ih _ h
    exact ⟨x, hx, fun D w0 w hr => hw D w0 w hr⟩
  | mark mk k ih =>
    obtain ⟨x, hx, hw⟩ := ih h
    exact ⟨x, hx, fun D w0 w hr => hw D w0 w hr⟩
  | halt x => exact h.elim
end
end Go.Proofs.YtpdcjocjkbgddaaDoor.Abs
