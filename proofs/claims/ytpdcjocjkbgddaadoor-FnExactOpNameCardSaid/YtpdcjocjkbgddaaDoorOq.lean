/- What an argument's reading as data opens to, in terms of what is known of memory; and how a call ends that keeps what was known. No condition. -/
import Derived.Test.YtpdcjocjkbgddaaDoorAbx
import Derived.ProofKit
import Derived.ChangeArms
import Derived.Deep.Slices
import Derived.Below
import Derived.SizedLaws
import Derived.ShutString
import Derived.ChangeMaps
namespace Go.Proofs.YtpdcjocjkbgddaaDoor.Abs
open Go.ChangeShapes Go.WideShapes Go.RowKit
set_option linter.unusedVariables false

/-- All that a world's memory holds. -/
def memOf (w : World) : Mem := fun b => w.heap[b]?
theorem memOf_cell (w : World) (a : Addr) : (memOf w).cell? a = w.cell? a := by
  unfold Mem.cell? memOf World.cell?
  cases w.heap[a.block]? with
  | none => rfl
  | some o => rfl
theorem below_of {w w' : World} {M : Mem} {D : Nat → Prop} (hle : Mem.le (memOf w) M) (h : Rel D w M w') : Below w.heap.size w w' := by
  refine ⟨h.os, h.tape, h.output, h.size, fun k hk => ?_⟩
  have : memOf w k = some w.heap[k] := by unfold memOf; exact Array.getElem?_eq_getElem hk
  rw [h.emb _ _ (hle _ _ this), Array.getElem?_eq_getElem hk]

structure Kd (α : Type) where
  sz : Nat
  K : Mem → α → List Value → Prop
def Kd.enc (α : Type) [Enc α] : Kd α := ⟨Enc.s α, fun _ y cs => cs = Enc.e y⟩
def Kd.pair {β γ : Type} (d : Kd β) (d' : Kd γ) : Kd (β × γ) := ⟨d.sz + d'.sz, fun m p cs => ∃ c1 c2, cs = c1 ++ c2 ∧ d.K m p.1 c1 ∧ d'.K m p.2 c2⟩
def RdK {α : Type} (d : Kd α) (m : Mem) (a : Option Addr) (l : List α) : Prop :=
  match a with
  | none => l = []
  | some ad => ∀ (i : Nat) (x : α), l[i]? = some x → ∃ ce : List Value, ce.length = d.sz ∧ d.K m x ce ∧ ∀ (j : Nat) (v : Value), ce[j]? = some v → m.cell? (ad.add (i * d.sz + j)) = some v
def Kd.slice {α : Type} (d : Kd α) : Kd (List α) := ⟨1, fun m l cs => ∃ a c, cs = [.slice a l.length c] ∧ l.length ≤ 9223372036854775807 ∧ RdK d m a l⟩
theorem RdK.rd {α : Type} [Enc α] {m : Mem} {a : Option Addr} {l : List α} (h : RdK (Kd.enc α) m a l) : Rd m a l := by
  cases a with
  | none => exact h
  | some ad =>
    intro i x hx j v hv
    obtain ⟨ce, _, rfl, hc⟩ := h i x hx
    exact hc j v hv

/-- A value of type t that reads as data is a value of kind d. -/
def Opens {α : Type} (P : Program) (t : TypeId) (d : Kd α) (ok : α → Prop) : Prop :=
  ∀ (H : Type) (enc : TypeId × Value → H) (w : World) (spare : Nat → Bool) (fuel : Nat) (cs : List Value) (x : DataW H × List MemPlace),
    DataW.trod enc P w 0 spare true fuel t cs = some x → ∃ y : α, d.K (memOf w) y cs ∧ ok y

theorem opens_int {P : Program} {t : TypeId} (hu : P.underlying t = some (.int .i64)) : Opens P t (Kd.enc Int) (fun n => (Lit.int .i64 n).wf = true) := by
  intro H enc w spare fuel cs x h
  obtain ⟨n, rfl, _, hw⟩ := DataW.trod_int hu h
  exact ⟨n, rfl, hw⟩
theorem opens_bool {P : Program} {t : TypeId} (hu : P.underlying t = some .bool) : Opens P t (Kd.enc Bool) (fun _ => True) := by
  intro H enc w spare fuel cs x h
  obtain ⟨n, rfl, _⟩ := DataW.trod_bool hu h
  exact ⟨n, rfl, trivial⟩
theorem opens_string {P : Program} {t : TypeId} (hu : P.underlying t = some .string) : Opens P t (Kd.enc ByteArray) (fun s => s.size ≤ maxLen) := by
  intro H enc w spare fuel cs x h
  obtain ⟨n, rfl, _, hw⟩ := DataW.trod_string hu h
  exact ⟨n, rfl, hw⟩
theorem opens_slice {α : Type} {P : Program} {t e : TypeId} {d : Kd α} {ok : α → Prop} [Inhabited α] (hu : P.underlying t = some (.slice e)) (hc : P.cellsOf e = d.sz) (hd : Opens P e d ok) :
    Opens P t (Kd.slice d) (fun l => ∀ x ∈ l, ok x) := by
  intro H enc w spare fuel cs x h
  rcases Deep.open_slice hu h with ⟨rfl, _⟩ | ⟨a, len, cap, m, n, D, Pl, rfl, hb, hl, hm, hmm, _, hx⟩
  · exact ⟨[], ⟨none, 0, rfl, by simp, rfl⟩, by simp⟩
  · have hlm : len ≤ m := by rw [hmm]; split <;> omega
    have key : ∀ i, i < len → ∃ y : α, ∃ c, c.length = d.sz ∧ d.K (memOf w) y c ∧ (∀ j u, c[j]? = some u → (memOf w).cell? (a.add (i * d.sz + j)) = some u) ∧ ok y := by
      intro i hi
      obtain ⟨cs', h1, h2⟩ := hx i (by omega)
      obtain ⟨y, hy, hk⟩ := hd H enc w spare n cs' _ h2
      rw [hc] at h1
      obtain ⟨_, hlen, hcell⟩ := World.cells?_some h1
      refine ⟨y, cs', hlen, hy, fun j u hj => ?_, hk⟩
      have hjl := (List.getElem?_eq_some_iff.1 hj).1
      have h3 := hcell j (by omega)
      rw [hj] at h3
      rw [memOf_cell, ← add_add]
      exact h3
    obtain ⟨f, hf⟩ := Deep.choose_lt (p := fun i y => ∃ c, c.length = d.sz ∧ d.K (memOf w) y c ∧ (∀ j u, c[j]? = some u → (memOf w).cell? (a.add (i * d.sz + j)) = some u) ∧ ok y) key
    have hll : ((List.range len).map f).length = len := by simp
    refine ⟨(List.range len).map f, ⟨some a, cap, by rw [hll], by rw [hll]; unfold maxLen at hm; omega, fun i x hi => ?_⟩, fun x hx => ?_⟩
    · have hil := (List.getElem?_eq_some_iff.1 hi).1
      rw [hll] at hil
      have hp : x = f i := by
        rw [List.getElem?_map, List.getElem?_range hil] at hi
        simpa using hi.symm
      subst hp
      obtain ⟨c, h1, h2, h3, _⟩ := hf i hil
      exact ⟨c, h1, h2, h3⟩
    · obtain ⟨i, hi, rfl⟩ := List.mem_map.1 hx
      obtain ⟨c, _, _, _, h4⟩ := hf i (by simpa using hi)
      exact h4

/-- A struct's fields from an offset on. -/
def OpensFs {β : Type} (P : Program) (fs : List Field) (off : Nat) (d : Kd β) (ok : β → Prop) : Prop :=
  ∀ (H : Type) (enc : TypeId × Value → H) (w : World) (spare : Nat → Bool) (n : Nat) (cs : List Value), cs.length = off + d.sz →
    (∀ f ∈ fs, ∃ x, DataW.trod enc P w 0 spare true n f.type ((cs.drop f.offset).take (P.cellsOf f.type)) = some x) → ∃ y : β, d.K (memOf w) y (cs.drop off) ∧ ok y

theorem opensFs_one {β : Type} {P : Program} {f : Field} {off : Nat} {d : Kd β} {ok : β → Prop} (ho : f.offset = off) (hc : P.cellsOf f.type = d.sz) (hd : Opens P f.type d ok) : OpensFs P [f] off d ok := by
  intro H enc w spare n cs hl hx
  obtain ⟨x, h⟩ := hx f (by simp)
  rw [ho, hc, List.take_of_length_le (by rw [List.length_drop]; omega)] at h
  exact hd H enc w spare n _ _ h
theorem opensFs_cons {β γ : Type} {P : Program} {f : Field} {fs : List Field} {off : Nat} {d : Kd β} {d' : Kd γ} {ok : β → Prop} {ok' : γ → Prop} (ho : f.offset = off) (hc : P.cellsOf f.type = d.sz) (hd : Opens P f.type d ok) (hfs : OpensFs P fs (off + d.sz) d' ok') :
    OpensFs P (f :: fs) off (Kd.pair d d') (fun p => ok p.1 ∧ ok' p.2) := by
  intro H enc w spare n cs hl hx
  have hl' : cs.length = off + (d.sz + d'.sz) := hl
  obtain ⟨x, h⟩ := hx f (by simp)
  rw [ho, hc] at h
  obtain ⟨y, hy, hk⟩ := hd H enc w spare n _ _ h
  obtain ⟨z, hz, hk'⟩ := hfs H enc w spare n cs (by omega) (fun g hg => hx g (by simp [hg]))
  refine ⟨(y, z), ⟨(cs.drop off).take d.sz, (cs.drop off).drop d.sz, (List.take_append_drop _ _).symm, hy, ?_⟩, hk, hk'⟩
  rw [List.drop_drop]
  exact hz
theorem opens_struct {β : Type} {P : Program} {t : TypeId} {fs : Array Field} {d : Kd β} {ok : β → Prop} (hu : P.underlying t = some (.struct fs)) (hc : P.cellsOf t = d.sz) (hfs : OpensFs P fs.toList 0 d ok) : Opens P t d ok := by
  intro H enc w spare fuel cs x h
  obtain ⟨xs, n, _, _, hl, hlen, hx⟩ := DataW.trod_struct hu h
  obtain ⟨y, hy, hk⟩ := hfs H enc w spare n cs (by omega) (fun f hf => by
    obtain ⟨i, hi, rfl⟩ := List.getElem_of_mem hf
    rw [Array.length_toList] at hi
    have h1 := hx i (fs[i]) (by simp [hi])
    rw [List.getElem?_eq_getElem (by omega)] at h1
    exact ⟨_, by simpa using h1⟩)
  exact ⟨y, by simpa using hy, hk⟩
/-- A struct of things without memory of their own is such a thing. -/
theorem opens_flat {β γ : Type} [Enc β] [Enc γ] {P : Program} {t : TypeId} {ok : β × γ → Prop} (h : Opens P t (Kd.pair (Kd.enc β) (Kd.enc γ)) ok) : Opens P t (Kd.enc (β × γ)) ok := by
  intro H enc w spare fuel cs x hx
  obtain ⟨y, ⟨c1, c2, rfl, rfl, rfl⟩, hy'⟩ := h H enc w spare fuel cs x hx
  exact ⟨y, rfl, hy'⟩
theorem opensFs_flat {β γ : Type} [Enc β] [Enc γ] {P : Program} {fs : List Field} {off : Nat} {ok : β × γ → Prop} (h : OpensFs P fs off (Kd.pair (Kd.enc β) (Kd.enc γ)) ok) : OpensFs P fs off (Kd.enc (β × γ)) ok := by
  intro H enc w spare n cs hl hx
  obtain ⟨y, ⟨c1, c2, e, e1, e2⟩, hy'⟩ := h H enc w spare n cs hl hx
  refine ⟨y, ?_, hy'⟩
  have e1 : c1 = Enc.e y.1 := e1
  have e2 : c2 = Enc.e y.2 := e2
  rw [e, e1, e2]
  rfl
end Go.Proofs.YtpdcjocjkbgddaaDoor.Abs
