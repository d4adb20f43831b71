/- The reference's Depths: it comes to the places in the order of a list of places to do, and notes how many values there are. -/
import Derived.Test.YtcbjdodehjpddaaDr
namespace Go.Proofs.Ytcbjdodehjpddaa.Abs
open Go.RowKit
set_option linter.unusedVariables false
set_option linter.unusedSimpArgs false
set_option maxRecDepth 20000

abbrev St := List Int × List Int
/-- What one place done makes of the state. -/
def stepD (code : List (Int × Int)) (st : St) (i : Nat) : St :=
  let p := st.2.getD i 0
  let x := code.getD p.toNat (0, 0)
  let n := st.1.getD p.toNat 0
  let s1 := if x.1 = 18 ∨ x.1 = 24 then st else meetM code.length st (IntKind.i64.wrap (p + 1)) (IntKind.i64.wrap (n + mv x.1 x.2))
  if x.1 = 18 ∨ x.1 = 20 ∨ x.1 = 21 then meetM code.length s1 x.2 n else if x.1 = 19 then meetM code.length s1 x.2 (IntKind.i64.wrap (n - 1)) else s1
def runD (code : List (Int × Int)) : Nat → Nat → St → List Int
  | 0, _, st => st.1
  | f + 1, i, st => if i < st.2.length then runD code f (i + 1) (stepD code st i) else st.1
def depthsM (code : List (Int × Int)) : List Int :=
  if code.length = 0 then [] else runD code (code.length + 1) 0 ((List.replicate code.length (-1)).set 0 0, [0])

structure InvD (N : Nat) (st : St) : Prop where
  len : st.1.length = N
  todo : ∀ p ∈ st.2, 0 ≤ p ∧ p < N ∧ 0 ≤ st.1.getD p.toNat 0
  cnt : st.2.length = st.1.countP (fun y => decide (0 ≤ y))
  rng : ∀ y ∈ st.1, -1 ≤ y ∧ y ≤ 9223372036854775807
theorem InvD.le {N : Nat} {st : St} (h : InvD N st) : st.2.length ≤ N := by
  rw [h.cnt, ← h.len]
  exact List.countP_le_length
theorem wrap_le (x : Int) : IntKind.i64.wrap x ≤ 9223372036854775807 ∧ -9223372036854775808 ≤ IntKind.i64.wrap x := by
  unfold IntKind.wrap
  simp [IntKind.bits, IntKind.signed]
  omega
theorem InvD.meet {N : Nat} {st : St} (h : InvD N st) {a v : Int} (hv : v ≤ 9223372036854775807) : InvD N (meetM N st a v) := by
  unfold meetM
  split
  · rename_i hc
    obtain ⟨⟨h0, h1⟩, h2, h3⟩ := hc
    have hlt : a.toNat < st.1.length := by rw [h.len]; omega
    have hg : st.1.getD a.toNat 0 = st.1[a.toNat] := by simp [List.getD_eq_getElem?_getD, hlt]
    rw [hg] at h2
    refine ⟨by simpa using h.len, fun p hp => ?_, ?_, fun y hy => ?_⟩
    · simp only [List.mem_append, List.mem_singleton] at hp
      have gs : ∀ q : Nat, (st.1.set a.toNat v).getD q 0 = if q = a.toNat then v else st.1.getD q 0 := by
        intro q
        simp only [List.getD_eq_getElem?_getD, List.getElem?_set]
        by_cases hq : a.toNat = q
        · subst hq; simp [hlt]
        · rw [if_neg hq, if_neg (fun e => hq e.symm)]
      simp only [gs]
      rcases hp with hp | rfl
      · have := h.todo p hp
        refine ⟨this.1, this.2.1, ?_⟩
        split <;> omega
      · refine ⟨h0, h1, ?_⟩
        rw [if_pos rfl]
        exact h3
    · simp only [List.length_append, List.length_singleton]
      rw [h.cnt, List.countP_set hlt]
      have e1 : (decide (0 ≤ st.1[a.toNat])) = false := by simp; omega
      have e2 : (decide (0 ≤ v)) = true := by simpa using h3
      simp [e1, e2]
    · rcases List.mem_or_eq_of_mem_set hy with hy | rfl
      · exact h.rng y hy
      · omega
  · exact h
theorem InvD.step {code : List (Int × Int)} {st : St} (h : InvD code.length st) {i : Nat} (hi : i < st.2.length) : InvD code.length (stepD code st i) := by
  have hn : st.1.getD (st.2.getD i 0).toNat 0 ≤ 9223372036854775807 := by
    have hp : st.2.getD i 0 ∈ st.2 := by rw [List.getD_eq_getElem?_getD, List.getElem?_eq_getElem hi]; exact List.getElem_mem hi
    have := h.todo _ hp
    have hlt : (st.2.getD i 0).toNat < st.1.length := by rw [h.len]; omega
    rw [List.getD_eq_getElem?_getD, List.getElem?_eq_getElem hlt]
    exact (h.rng _ (List.getElem_mem hlt)).2
  have h1 : InvD code.length (if (code.getD (st.2.getD i 0).toNat (0, 0)).1 = 18 ∨ (code.getD (st.2.getD i 0).toNat (0, 0)).1 = 24 then st else meetM code.length st (IntKind.i64.wrap (st.2.getD i 0 + 1)) (IntKind.i64.wrap (st.1.getD (st.2.getD i 0).toNat 0 + mv (code.getD (st.2.getD i 0).toNat (0, 0)).1 (code.getD (st.2.getD i 0).toNat (0, 0)).2))) := by
    split
    · exact h
    · exact h.meet (wrap_le _).1
  unfold stepD
  simp only
  split
  · exact h1.meet hn
  · split
    · exact h1.meet (wrap_le _).1
    · exact h1
theorem InvD.base (N : Nat) : InvD N (List.replicate N (-1), []) := by
  refine ⟨by simp, by simp, ?_, fun y hy => ?_⟩
  · simp [List.countP_replicate]
  · rw [(List.mem_replicate.1 hy).2]; omega
theorem meet_base {N : Nat} (h : 0 < N) : meetM N (List.replicate N (-1), []) 0 0 = ((List.replicate N (-1)).set 0 0, [0]) := by
  unfold meetM
  rw [if_pos]
  · simp
  · refine ⟨⟨by omega, by omega⟩, ?_, by omega⟩
    simp [List.getD_eq_getElem?_getD, h]
theorem meet_mem {N : Nat} {st : St} {a v : Int} : st.2 <+: (meetM N st a v).2 := by
  unfold meetM
  split
  · exact List.prefix_append _ _
  · exact List.prefix_rfl
theorem step_len {code : List (Int × Int)} {st : St} {i : Nat} : st.2.length ≤ (stepD code st i).2.length := by
  unfold stepD
  simp only
  have h1 : ∀ (c : Prop) [Decidable c] a v, st.2.length ≤ (if c then st else meetM code.length st a v).2.length := by
    intro c _ a v
    split
    · exact Nat.le_refl _
    · exact meet_mem.length_le
  split
  · exact Nat.le_trans (h1 _ _ _) meet_mem.length_le
  · split
    · exact Nat.le_trans (h1 _ _ _) meet_mem.length_le
    · exact h1 _ _ _

/-- What is known of memory in the loop. -/
structure MI (m M : Mem) (g1 go gt : Nat) (bx : Array Value) (st : St) (spare : List Value) (c : Nat) : Prop where
  le : Mem.le m M
  b1 : M g1 = some (.cells bx 38 (0, 0))
  ro : M go = some (row3 st.1 [])
  rt : M gt = some (row3 st.2 spare)
  sz : st.2.length * 1 + spare.length = c * 1
  ne : gt ≠ go
  fo : m go = none
  ft : m gt = none
section
variable {m M : Mem} {g1 go gt : Nat} {bx : Array Value} {st : St} {spare : List Value} {c : Nat}
theorem MI.push (h : MI m M g1 go gt bx st spare c) {g : Nat} {o : Obj} (hg : M g = none) : MI m (M.upd g o) g1 go gt bx st spare c := by
  have k := le_upd (o := o) hg
  exact ⟨Mem.le_trans h.le k, k _ _ h.b1, k _ _ h.ro, k _ _ h.rt, h.sz, h.ne, h.fo, h.ft⟩
theorem MI.meet (h : MI m M g1 go gt bx st spare c) {gt' c' : Nat} {spare' : List Value} {r : St} (hs : r.2.length * 1 + spare'.length = c' * 1) (hne : gt' ≠ go) (hg : gt' = gt ∨ M gt' = none) :
    MI m ((M.upd go (row3 r.1 [])).upd gt' (row3 r.2 spare')) g1 go gt' bx r spare' c' := by
  have hf : m gt' = none := by
    rcases hg with rfl | hg
    · exact h.ft
    · cases e : m gt' with
      | none => rfl
      | some o => have := h.le _ _ e; rw [hg] at this; cases this
  have n1 : g1 ≠ gt' := by
    rintro rfl
    rcases hg with rfl | hg
    · have := h.rt; rw [h.b1] at this; simp at this
    · rw [h.b1] at hg; cases hg
  have n2 : g1 ≠ go := by rintro rfl; have := h.ro; rw [h.b1] at this; simp at this
  refine ⟨le_upd_fresh (le_upd_fresh h.le h.fo) hf, ?_, ?_, upd_same _ _ _, hs, hne, h.fo, hf⟩
  · rw [upd_ne n1, upd_ne n2]; exact h.b1
  · rw [upd_ne (Ne.symm hne)]; exact upd_same _ _ _
end
end Go.Proofs.Ytcbjdodehjpddaa.Abs
