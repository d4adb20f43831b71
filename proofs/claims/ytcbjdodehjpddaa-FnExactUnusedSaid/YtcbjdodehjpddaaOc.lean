/- Modules: small laws for the functions that lay what is used. No condition. -/
import Derived.Test.YtcbjdodehjpddaaOb
namespace Go.Proofs.Ytcbjdodehjpddaa.Abs
open Go.RowKit
set_option linter.unusedVariables false
set_option linter.unusedSimpArgs false

def e01 (l : List Bool) : List Int := l.map fun b => if b then 1 else 0
def numV (bl : List Bool) : List Int := (List.range bl.length).map fun k => if bl.getD k false then (rank bl k : Int) else 0
def mix (bl : List Bool) (i : Nat) : List Int := (numV bl).take i ++ (e01 bl).drop i
theorem e01_len (l : List Bool) : (e01 l).length = l.length := by simp [e01]
theorem numV_len (l : List Bool) : (numV l).length = l.length := by simp [numV]
theorem e01_set (l : List Bool) (i : Nat) : (e01 l).set i 1 = e01 (l.set i true) := by unfold e01; rw [List.map_set]; rfl
theorem e01_get {l : List Bool} {i : Nat} (h : i < (e01 l).length) : (e01 l)[i] = if l[i]'(by simpa [e01] using h) then 1 else 0 := by simp [e01]
theorem e01_rep (n : Nat) : e01 (List.replicate n false) = List.replicate n 0 := by simp [e01]
theorem mix_len (bl : List Bool) (i : Nat) (h : i ≤ bl.length) : (mix bl i).length = bl.length := by simp [mix, numV_len, e01_len]; omega
theorem mix_zero (bl : List Bool) : mix bl 0 = e01 bl := by simp [mix]
theorem mix_end (bl : List Bool) : mix bl bl.length = numV bl := by
  unfold mix
  rw [List.take_of_length_le (by rw [numV_len]; omega), List.drop_eq_nil_of_le (by rw [e01_len]; omega), List.append_nil]
theorem mix_get {bl : List Bool} {i : Nat} (h : i < bl.length) : (mix bl i)[i]? = some (if bl[i] then 1 else 0) := by
  unfold mix
  rw [List.getElem?_append_right (by rw [List.length_take, numV_len]; omega), List.length_take, numV_len, Nat.min_eq_left (by omega), Nat.sub_self, List.getElem?_drop, Nat.add_zero]
  rw [List.getElem?_eq_getElem (by rw [e01_len]; exact h), e01_get]
theorem numV_get {bl : List Bool} {i : Nat} (h : i < bl.length) : (numV bl)[i]? = some (if bl[i] then (rank bl i : Int) else 0) := by
  unfold numV
  rw [List.getElem?_map, List.getElem?_range h]
  simp [List.getD_eq_getElem?_getD, h]
theorem mix_step {bl : List Bool} {i : Nat} (h : i < bl.length) (v : Int) (hv : v = if bl[i] then (rank bl i : Int) else 0) : (mix bl i).set i v = mix bl (i + 1) := by
  unfold mix
  have h1 : (e01 bl).drop i = (e01 bl)[i]'(by rw [e01_len]; exact h) :: (e01 bl).drop (i + 1) := List.drop_eq_getElem_cons (by rw [e01_len]; exact h)
  have h2 : (numV bl).take (i + 1) = (numV bl).take i ++ [v] := by
    have hl : i < (numV bl).length := by rw [numV_len]; exact h
    rw [List.take_succ_eq_append_getElem hl]
    have := numV_get h
    rw [List.getElem?_eq_getElem hl] at this
    rw [Option.some.inj this, hv]
  rw [h1, h2, List.set_append_right _ _ (by rw [List.length_take, numV_len]; omega), List.length_take, numV_len, Nat.min_eq_left (by omega), Nat.sub_self, List.set_cons_zero]
  simp
theorem mix_same {bl : List Bool} {i : Nat} (h : i < bl.length) (hb : bl[i] = false) : mix bl (i + 1) = mix bl i := by
  rw [← mix_step h 0 (by rw [hb]; rfl)]
  apply List.ext_getElem?
  intro k
  by_cases e : i = k
  · subst e
    rw [List.getElem?_set_self (by rw [mix_len _ _ (by omega)]; exact h), mix_get h, hb]
    rfl
  · rw [List.getElem?_set_ne e]
/-- What is known is forgotten but for some blocks. -/
def hide (M : Mem) (D : List Nat) : Mem := fun b => if b ∈ D then none else M b
theorem hide_le (M : Mem) (D : List Nat) : Mem.le (hide M D) M := by
  intro b o h
  unfold hide at h
  split at h
  · cases h
  · exact h
theorem hide_none {M : Mem} {D : List Nat} {b : Nat} (h : b ∈ D) : hide M D b = none := by unfold hide; rw [if_pos h]
theorem hide_off {M : Mem} {D : List Nat} {b : Nat} (h : b ∉ D) : hide M D b = M b := by unfold hide; rw [if_neg h]
theorem le_hide {m M : Mem} {D : List Nat} (h : Mem.le m M) (hD : ∀ b ∈ D, m b = none) : Mem.le m (hide M D) := by
  intro b o e
  rw [hide_off (fun hb => by rw [hD b hb] at e; cases e)]
  exact h b o e
/-- M0 but for the blocks D, which are as in M. -/
def weld (M0 M : Mem) (D : List Nat) : Mem := fun b => if b ∈ D then M b else M0 b
theorem weld_in {M0 M : Mem} {D : List Nat} {b : Nat} (h : b ∈ D) : weld M0 M D b = M b := by unfold weld; rw [if_pos h]
theorem weld_off {M0 M : Mem} {D : List Nat} {b : Nat} (h : b ∉ D) : weld M0 M D b = M0 b := by unfold weld; rw [if_neg h]
theorem weld_le {M0 M : Mem} {D : List Nat} (h : ∀ b, b ∉ D → ∀ o, M0 b = some o → M b = some o) : Mem.le (weld M0 M D) M := by
  intro b o e
  by_cases hb : b ∈ D
  · rwa [weld_in hb] at e
  · rw [weld_off hb] at e; exact h b hb o e
theorem get_of {α : Type} {l : List α} {i : Nat} {x : α} (h : i < l.length) (e : l[i]? = some x) : l[i] = x := by
  rw [List.getElem?_eq_getElem h] at e
  exact Option.some.inj e
def psA (R : US) (P : List Pr) (i : Nat) : List Pr := (P.take i).map (unP R) ++ P.drop i
theorem psA_zero (R : US) (P : List Pr) : psA R P 0 = P := by simp [psA]
theorem psA_end (R : US) (P : List Pr) : psA R P P.length = P.map (unP R) := by simp [psA]
theorem psA_len (R : US) (P : List Pr) (i : Nat) (h : i ≤ P.length) : (psA R P i).length = P.length := by simp [psA]; omega
theorem psA_get (R : US) (P : List Pr) (i : Nat) (h : i < P.length) (h' : i < (psA R P i).length) : (psA R P i)[i] = P[i] := by
  refine get_of h' ?_
  unfold psA
  rw [List.getElem?_append_right (by simp; omega)]
  simp [Nat.min_eq_left (Nat.le_of_lt h), h]
theorem psA_step (R : US) (P : List Pr) (i : Nat) (h : i < P.length) : (psA R P i).set i (unP R P[i]) = psA R P (i + 1) := by
  unfold psA
  rw [List.drop_eq_getElem_cons h, List.set_append_right _ _ (by simp; omega), List.length_map, List.length_take, Nat.min_eq_left (by omega), Nat.sub_self, List.set_cons_zero, List.take_succ_eq_append_getElem h, List.map_append]
  simp only [List.map_cons, List.map_nil, List.append_assoc, List.cons_append, List.nil_append]
/-- A code of which the first j instructions are turned. -/
def part (R : US) (c : List Ins) (j : Nat) : List Ins := (c.take j).map (renU R) ++ c.drop j
theorem part_zero (R : US) (c : List Ins) : part R c 0 = c := by simp [part]
theorem part_end (R : US) (c : List Ins) : part R c c.length = c.map (renU R) := by simp [part]
theorem part_len (R : US) (c : List Ins) (j : Nat) (h : j ≤ c.length) : (part R c j).length = c.length := by simp [part]; omega
theorem part_get (R : US) (c : List Ins) (j : Nat) (h : j < c.length) (h' : j < (part R c j).length) : (part R c j)[j] = c[j] := by
  refine get_of h' ?_
  unfold part
  rw [List.getElem?_append_right (by simp; omega)]
  simp [Nat.min_eq_left (Nat.le_of_lt h), h]
theorem part_step (R : US) (c : List Ins) (j : Nat) (h : j < c.length) (x : Ins) (hx : x = renU R c[j]) : (part R c j).set j x = part R c (j + 1) := by
  subst hx
  unfold part
  rw [List.drop_eq_getElem_cons h, List.set_append_right _ _ (by simp; omega), List.length_map, List.length_take, Nat.min_eq_left (by omega), Nat.sub_self, List.set_cons_zero, List.take_succ_eq_append_getElem h, List.map_append]
  simp only [List.map_cons, List.map_nil, List.append_assoc, List.cons_append, List.nil_append]
theorem part_same (R : US) (c : List Ins) (j : Nat) (h : j < c.length) (hx : renU R c[j] = c[j]) : part R c (j + 1) = part R c j := by
  rw [← part_step R c j h _ rfl, hx]
  have hl : j < (part R c j).length := by rw [part_len _ _ _ (by omega)]; exact h
  have := part_get R c j h hl
  rw [← this, List.set_getElem_self]
end Go.Proofs.Ytcbjdodehjpddaa.Abs
