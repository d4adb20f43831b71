/- What an argument's reading as data opens to: for each kind of value (whole numbers, bools, strings, slices, structs, and these nested) the reading of a value of that type gives the plain Lean value that the walks over printed functions ask for; and how the row of a law over such arguments is closed. -/
import Derived.Test.YtcbjdodehjpddaaWWords
import Derived.ProofKit
import Derived.ChangeArms
import Derived.Deep.Slices
import Derived.Below
import Derived.SizedLaws
namespace Go.Proofs.Ytcbjdodehjpddaa.Opens
open Go.Proofs.YtcbjdodehjpddaaW.PrintWords Go.ChangeShapes Go.WideShapes
set_option linter.unusedVariables false

/-- A value of type t that reads as data is a value of kind d. -/
def Opens {α : Type} (P : Program) (t : TypeId) (d : Kd α) (ok : α → Prop) : Prop :=
  ∀ (H : Type) (enc : TypeId × Value → H) (w : World) (spare : Nat → Bool) (fuel : Nat) (cs : List Value) (x : DataW H × List MemPlace),
    DataW.trod enc P w 0 spare true fuel t cs = some x → ∃ y : α, d.K w y cs ∧ ok y

theorem opens_int {P : Program} {t : TypeId} {k : IntKind} (hu : P.underlying t = some (.int k)) : Opens P t (Kd.int k) (fun n => (Lit.int k n).wf = true) := by
  intro H enc w spare fuel cs x h
  obtain ⟨n, rfl, _, hw⟩ := DataW.trod_int hu h
  exact ⟨n, rfl, hw⟩
theorem opens_bool {P : Program} {t : TypeId} (hu : P.underlying t = some .bool) : Opens P t Kd.bool (fun _ => True) := by
  intro H enc w spare fuel cs x h
  obtain ⟨n, rfl, _⟩ := DataW.trod_bool hu h
  exact ⟨n, rfl, trivial⟩
theorem opens_string {P : Program} {t : TypeId} (hu : P.underlying t = some .string) : Opens P t Kd.string (fun s => s.size ≤ maxLen) := by
  intro H enc w spare fuel cs x h
  obtain ⟨n, rfl, _, hw⟩ := DataW.trod_string hu h
  exact ⟨n, rfl, hw⟩
theorem opens_slice {α : Type} {P : Program} {t e : TypeId} {d : Kd α} {ok : α → Prop} [Inhabited α] (hu : P.underlying t = some (.slice e)) (hc : P.cellsOf e = d.sz) (hd : Opens P e d ok) :
    Opens P t (Kd.slice e d) (fun l => l.length ≤ maxLen ∧ ∀ x ∈ l, ok x) := by
  intro H enc w spare fuel cs x h
  rcases Deep.open_slice hu h with ⟨rfl, _⟩ | ⟨a, len, cap, m, n, D, Pl, rfl, hb, hl, hm, hmm, _, hx⟩
  · exact ⟨[], ⟨none, 0, rfl, Nat.le_refl _, rfl, by simp, fun h => absurd h (Nat.lt_irrefl 0)⟩, by simp, by simp⟩
  · have hlm : len ≤ m := by rw [hmm]; split <;> omega
    have key : ∀ i, i < len → ∃ y : α, ∃ c, c.length = d.sz ∧ d.K w y c ∧ (∀ j u, c[j]? = some u → w.cell? (a.add (i * d.sz + j)) = some u) ∧ ok y := by
      intro i hi
      obtain ⟨cs', h1, h2⟩ := hx i (by omega)
      obtain ⟨y, hy, hk⟩ := hd H enc w spare n cs' _ h2
      rw [hc] at h1
      obtain ⟨_, hlen, hcell⟩ := World.cells?_some h1
      refine ⟨y, cs', hlen, hy, fun j u hj => ?_, hk⟩
      have hjl := (List.getElem?_eq_some_iff.1 hj).1
      have h3 := hcell j (by omega)
      rw [hj] at h3
      have h4 : (a.add (i * d.sz)).add j = a.add (i * d.sz + j) := by
        unfold Addr.add
        cases a with
        | mk b o p => simp only; split <;> simp_all <;> (try split) <;> simp_all <;> omega
      rw [h4] at h3
      exact h3
    obtain ⟨f, hf⟩ := Deep.choose_lt (p := fun i y => ∃ c, c.length = d.sz ∧ d.K w y c ∧ (∀ j u, c[j]? = some u → w.cell? (a.add (i * d.sz + j)) = some u) ∧ ok y) key
    have hll : ((List.range len).map f).length = len := by simp
    refine ⟨(List.range len).map f, ⟨some a, cap, by rw [hll], by rw [hll]; exact hl, hll.trans hll.symm, by rw [hll]; unfold maxLen at hm; omega, fun _ => ⟨a, rfl, fun j p hj => ?_⟩⟩, by rw [hll]; omega, fun x hx => ?_⟩
    · have hjl := (List.getElem?_eq_some_iff.1 hj).1
      rw [hll] at hjl
      have hp : p = f j := by
        rw [List.getElem?_map, List.getElem?_range hjl] at hj
        simpa using hj.symm
      subst hp
      obtain ⟨c, h1, h2, h3, _⟩ := hf j hjl
      exact ⟨c, h1, h2, h3⟩
    · obtain ⟨i, hi, rfl⟩ := List.mem_map.1 hx
      obtain ⟨c, _, _, _, h4⟩ := hf i (by simpa using hi)
      exact h4

/-- A struct's fields from an offset on. -/
def OpensFs {β : Type} (P : Program) (fs : List Field) (off : Nat) (d : Kd β) (ok : β → Prop) : Prop :=
  ∀ (H : Type) (enc : TypeId × Value → H) (w : World) (spare : Nat → Bool) (n : Nat) (cs : List Value), cs.length = off + d.sz →
    (∀ f ∈ fs, ∃ x, DataW.trod enc P w 0 spare true n f.type ((cs.drop f.offset).take (P.cellsOf f.type)) = some x) → ∃ y : β, d.K w y (cs.drop off) ∧ ok y

theorem opensFs_one {β : Type} {P : Program} {f : Field} {off : Nat} {d : Kd β} {ok : β → Prop} (ho : f.offset = off) (hc : P.cellsOf f.type = d.sz) (hd : Opens P f.type d ok) : OpensFs P [f] off d ok := by
  intro H enc w spare n cs hl hx
  obtain ⟨x, h⟩ := hx f (by simp)
  rw [ho, hc, List.take_of_length_le (by rw [List.length_drop]; omega)] at h
  exact hd H enc w spare n _ _ h
theorem opensFs_cons {β γ : Type} {P : Program} {f : Field} {fs : List Field} {off : Nat} {d : Kd β} {d' : Kd γ} {ok : β → Prop} {ok' : γ → Prop} (ho : f.offset = off) (hc : P.cellsOf f.type = d.sz) (hd : Opens P f.type d ok) (hfs : OpensFs P fs (off + d.sz) d' ok') :
    OpensFs P (f :: fs) off (Kd.pair d d') (fun p => ok p.1 ∧ ok' p.2) := by
  intro H enc w spare n cs hl hx
  have hl' : cs.length = off + (d.sz + d'.sz) := hl
  obtain ⟨x, h⟩ := hx f (by simp)
  rw [ho, hc] at h
  obtain ⟨y, hy, hk⟩ := hd H enc w spare n _ _ h
  obtain ⟨z, hz, hk'⟩ := hfs H enc w spare n cs (by omega) (fun g hg => hx g (by simp [hg]))
  refine ⟨(y, z), ⟨(cs.drop off).take d.sz, (cs.drop off).drop d.sz, (List.take_append_drop _ _).symm, hy, ?_⟩, hk, hk'⟩
  rw [List.drop_drop]
  exact hz
theorem opens_struct {β : Type} {P : Program} {t : TypeId} {fs : Array Field} {d : Kd β} {ok : β → Prop} (hu : P.underlying t = some (.struct fs)) (hc : P.cellsOf t = d.sz) (hfs : OpensFs P fs.toList 0 d ok) : Opens P t d ok := by
  intro H enc w spare fuel cs x h
  obtain ⟨xs, n, _, _, hl, hlen, hx⟩ := DataW.trod_struct hu h
  obtain ⟨y, hy, hk⟩ := hfs H enc w spare n cs (by omega) (fun f hf => by
    obtain ⟨i, hi, rfl⟩ := List.getElem_of_mem hf
    rw [Array.length_toList] at hi
    have h1 := hx i (fs[i]) (by simp [hi])
    rw [List.getElem?_eq_getElem (by omega)] at h1
    exact ⟨_, by simpa using h1⟩)
  exact ⟨y, by simpa using hy, hk⟩
theorem opens_iso {β γ : Type} {P : Program} {t : TypeId} {d : Kd β} {ok : β → Prop} (f : γ → β) (g : β → γ) (hg : ∀ b, f (g b) = b) (h : Opens P t d ok) : Opens P t (Kd.iso d f) (fun x => ok (f x)) := by
  intro H enc w spare fuel cs x hx
  obtain ⟨y, hy, hk⟩ := h H enc w spare fuel cs x hx
  exact ⟨g y, by show d.K w (f (g y)) cs; rw [hg]; exact hy, by show ok (f (g y)); rw [hg]; exact hk⟩
theorem opens_imp {β : Type} {P : Program} {t : TypeId} {d : Kd β} {ok ok' : β → Prop} (h : Opens P t d ok) (hk : ∀ x, ok x → ok' x) : Opens P t d ok' := by
  intro H enc w spare fuel cs x hx
  obtain ⟨y, hy, hy'⟩ := h H enc w spare fuel cs x hx
  exact ⟨y, hy, hk y hy'⟩
end Go.Proofs.Ytcbjdodehjpddaa.Opens
