/- Modules: jumps that are followed and code that is not come to, in plain words. No condition. -/
import Derived.Test.YtcbjdodehjpddaaOi
namespace Go.Proofs.Ytcbjdodehjpddaa.Abs
open Go.RowKit
set_option linter.unusedVariables false
set_option linter.unusedSimpArgs false

def leadsB (op : Int) : Bool := decide (18 ≤ op ∧ op ≤ 21)
def gI (c : List Ins) (p : Int) : Ins := c.getD p.toNat (0, 0)
def plainC (c : List Ins) : Bool := decide (1 ≤ (c.length : Int) ∧ (c.length : Int) ≤ 4000) && (decide ((gI c ((c.length : Int) - 1)).1 = 24) && c.all fun x => !leadsB x.1 || decide (0 ≤ x.2 ∧ x.2 ≤ (c.length : Int) - 1))
theorem plain_out {c : List Ins} (h : plainC c = true) : 0 < c.length ∧ c.length ≤ 4000 ∧ (gI c ((c.length : Int) - 1)).1 = 24 ∧ ∀ x ∈ c, leadsB x.1 = true → 0 ≤ x.2 ∧ x.2 < (c.length : Int) := by
  unfold plainC at h
  simp only [Bool.and_eq_true, decide_eq_true_eq, List.all_eq_true, Bool.or_eq_true, Bool.not_eq_true'] at h
  obtain ⟨h1, h2, h3⟩ := h
  refine ⟨by omega, by omega, h2, fun x hx hl => ?_⟩
  rcases h3 x hx with h | h
  · rw [hl] at h; cases h
  · omega
theorem gI_get {c : List Ins} {p : Int} (h0 : 0 ≤ p) (h1 : p < c.length) : ∃ h : p.toNat < c.length, gI c p = c[p.toNat] := by
  have h : p.toNat < c.length := by omega
  exact ⟨h, by simp [gI, List.getD_eq_getElem?_getD, h]⟩
theorem gI_mem {c : List Ins} {p : Int} (h0 : 0 ≤ p) (h1 : p < c.length) : gI c p ∈ c := by
  obtain ⟨h, e⟩ := gI_get h0 h1
  rw [e]
  exact List.getElem_mem h

def chase (c : List Ins) : Nat → Int → Int
  | 0, p => p
  | m + 1, p => if (gI c p).1 = 18 then chase c m (gI c p).2 else p
theorem chase_stop (c : List Ins) (m : Nat) (p : Int) (h : (gI c p).1 ≠ 18) : chase c m p = p := by
  cases m with
  | zero => rfl
  | succ m => simp only [chase]; rw [if_neg h]
theorem chase_go (c : List Ins) (m : Nat) (p : Int) (h : (gI c p).1 = 18) : chase c (m + 1) p = chase c m (gI c p).2 := by
  simp only [chase]; rw [if_pos h]
theorem chase_succ (c : List Ins) (m : Nat) : ∀ p, chase c (m + 1) p = chase c 1 (chase c m p) := by
  induction m with
  | zero => intro p; rfl
  | succ m ih =>
    intro p
    by_cases h : (gI c p).1 = 18
    · rw [chase_go c _ p h, chase_go c _ p h]; exact ih _
    · rw [chase_stop c _ p h, chase_stop c _ p h, chase_stop c _ p h]
theorem nodup_le : ∀ (n : Nat) (l : List Nat), l.Nodup → (∀ x ∈ l, x < n) → l.length ≤ n := by
  intro n
  induction n with
  | zero =>
    intro l _ h
    cases l with
    | nil => simp
    | cons a t => exact absurd (h a (by simp)) (by omega)
  | succ n ih =>
    intro l hn h
    by_cases hm : n ∈ l
    · have h1 := ih (l.erase n) (hn.erase n) (fun x hx => by
        have h2 := (List.Nodup.mem_erase_iff hn).1 hx
        have h3 := h x h2.2
        have h4 : x ≠ n := h2.1
        omega)
      rw [List.length_erase_of_mem hm] at h1
      omega
    · have h1 := ih l hn (fun x hx => by
        have h3 := h x hx
        have h4 : x ≠ n := fun e => hm (e ▸ hx)
        omega)
      omega
/-- In a plain code a way of jumps that does not end within its length never ends. -/
theorem chase_more {c : List Ins} (hp : plainC c = true) {p : Int} (h0 : 0 ≤ p) (h1 : p < c.length) (hj : (gI c (chase c c.length p)).1 = 18) : (gI c (chase c (c.length + 1) p)).1 = 18 := by
  obtain ⟨_, _, hlast, hm⟩ := plain_out hp
  have rngC : ∀ m, 0 ≤ chase c m p ∧ chase c m p < c.length := by
    intro m
    induction m with
    | zero => exact ⟨h0, h1⟩
    | succ m ih =>
      rw [chase_succ]
      by_cases h : (gI c (chase c m p)).1 = 18
      · rw [chase_go c 0 _ h]
        exact hm _ (gI_mem ih.1 ih.2) (by rw [h]; rfl)
      · rw [chase_stop c 1 _ h]
        exact ih
  have jmp : ∀ m, m ≤ c.length → (gI c (chase c m p)).1 = 18 := by
    intro m hmn
    by_cases h : (gI c (chase c m p)).1 = 18
    · exact h
    · have key : ∀ d, chase c (m + d) p = chase c m p := by
        intro d
        induction d with
        | zero => rfl
        | succ d ih => rw [← Nat.add_assoc, chase_succ, ih]; exact chase_stop c 1 _ h
      have h2 := key (c.length - m)
      rw [show m + (c.length - m) = c.length from by omega] at h2
      rw [h2] at hj
      exact absurd hj h
  have hdup : ∃ i j, i < j ∧ j ≤ c.length ∧ chase c i p = chase c j p := by
    apply Classical.byContradiction
    intro hno
    have hl := nodup_le c.length ((List.range (c.length + 1)).map fun m => (chase c m p).toNat) (by
      rw [List.Nodup, List.pairwise_map]
      refine List.Pairwise.imp_of_mem ?_ (List.pairwise_lt_range (n := c.length + 1))
      intro i j _ hjl hij e
      rw [List.mem_range] at hjl
      refine hno ⟨i, j, hij, by omega, ?_⟩
      have ri := rngC i
      have rj := rngC j
      omega) (fun x hx => by
        obtain ⟨m, _, rfl⟩ := List.mem_map.1 hx
        have := rngC m
        omega)
    simp at hl
    omega
  obtain ⟨i, j, hij, hjn, he⟩ := hdup
  have per : ∀ d, chase c (i + d) p = chase c (j + d) p := by
    intro d
    induction d with
    | zero => exact he
    | succ d ih => rw [← Nat.add_assoc, ← Nat.add_assoc, chase_succ, chase_succ c (j + d), ih]
  have h2 := per (c.length + 1 - j)
  rw [show j + (c.length + 1 - j) = c.length + 1 from by omega] at h2
  rw [← h2]
  exact jmp _ (by omega)
/-- What an instruction becomes when jumps are followed at most m times. -/
def thr (c : List Ins) (m : Nat) (x : Ins) : Ins :=
  if leadsB x.1 = true then (if (gI c (chase c m x.2)).1 = 18 then x else (x.1, chase c m x.2)) else x
theorem thr_same {c : List Ins} (hp : plainC c = true) {x : Ins} (hx : x ∈ c) : thr c (c.length + 1) x = thr c c.length x := by
  obtain ⟨_, _, _, hm⟩ := plain_out hp
  unfold thr
  by_cases hl : leadsB x.1 = true
  · rw [if_pos hl, if_pos hl]
    have h2 := hm x hx hl
    by_cases hj : (gI c (chase c c.length x.2)).1 = 18
    · rw [if_pos hj, if_pos (chase_more hp h2.1 h2.2 hj)]
    · rw [if_neg hj, chase_succ, chase_stop c 1 _ hj, if_neg hj]
  · rw [if_neg hl, if_neg hl]
def thrC (c : List Ins) : List Ins := if plainC c then c.map (thr c c.length) else c
theorem thrC_len (c : List Ins) : (thrC c).length = c.length := by unfold thrC; split <;> simp
/-- A row of which the first j things are turned. -/
def partF {α : Type} (f : α → α) (c : List α) (j : Nat) : List α := (c.take j).map f ++ c.drop j
theorem partF_zero {α : Type} (f : α → α) (c : List α) : partF f c 0 = c := by simp [partF]
theorem partF_end {α : Type} (f : α → α) (c : List α) : partF f c c.length = c.map f := by simp [partF]
theorem partF_len {α : Type} (f : α → α) (c : List α) (j : Nat) (h : j ≤ c.length) : (partF f c j).length = c.length := by simp [partF]; omega
theorem partF_get {α : Type} (f : α → α) (c : List α) (j : Nat) (h : j < c.length) (h' : j < (partF f c j).length) : (partF f c j)[j] = c[j] := by
  refine get_of h' ?_
  unfold partF
  rw [List.getElem?_append_right (by simp; omega)]
  simp [Nat.min_eq_left (Nat.le_of_lt h), h]
theorem partF_step {α : Type} (f : α → α) (c : List α) (j : Nat) (h : j < c.length) (x : α) (hx : x = f c[j]) : (partF f c j).set j x = partF f c (j + 1) := by
  subst hx
  unfold partF
  rw [List.drop_eq_getElem_cons h, List.set_append_right _ _ (by simp; omega), List.length_map, List.length_take, Nat.min_eq_left (by omega), Nat.sub_self, List.set_cons_zero, List.take_succ_eq_append_getElem h, List.map_append]
  simp only [List.map_cons, List.map_nil, List.append_assoc, List.cons_append, List.nil_append]
theorem partF_same {α : Type} (f : α → α) (c : List α) (j : Nat) (h : j < c.length) (hx : f c[j] = c[j]) : partF f c (j + 1) = partF f c j := by
  rw [← partF_step f c j h _ rfl, hx]
  have hl : j < (partF f c j).length := by rw [partF_len _ _ _ (by omega)]; exact h
  have := partF_get f c j h hl
  rw [← this, List.set_getElem_self]
/-- Code that is come to. -/
abbrev RS := List Bool × List Int
def comeM (st : RS) (p : Int) : RS := if p < st.1.length then (if st.1.getD p.toNat false then st else (st.1.set p.toNat true, st.2 ++ [p])) else st
def stepM (c : List Ins) (st : RS) (at_ : Int) : RS :=
  let st1 := if (gI c at_).1 = 18 ∨ (gI c at_).1 = 24 then st else comeM st (at_ + 1)
  if leadsB (gI c at_).1 then comeM st1 (gI c at_).2 else st1
def runM (c : List Ins) : Nat → Nat → RS → RS
  | 0, _, st => st
  | f + 1, i, st => if i < st.2.length then runM c f (i + 1) (stepM c st (st.2.getD i 0)) else st
def reachM (c : List Ins) : List Bool := (runM c c.length 0 ((List.replicate c.length false).set 0 true, [0])).1.set (c.length - 1) true
def ledTo (s : List Bool) (x : Ins) : Ins := if leadsB x.1 then (x.1, (rank s x.2.toNat : Int)) else x
def stripC (c : List Ins) : List Ins := if plainC c then (sel (reachM c) c).map (ledTo (reachM c)) else c
structure RI (n : Nat) (st : RS) : Prop where
  len : st.1.length = n
  cnt : st.1.count false + st.2.length = n
  mem : ∀ x ∈ st.2, 0 ≤ x ∧ x < (n : Int)
theorem comeM_ok {n : Nat} {st : RS} (I : RI n st) {p : Int} (h0 : 0 ≤ p) : RI n (comeM st p) := by
  obtain ⟨s, q⟩ := st
  have hl : s.length = n := I.len
  unfold comeM
  by_cases h : p < (s.length : Int)
  · rw [if_pos h]
    have hi : p.toNat < s.length := by omega
    cases hk : s[p.toNat] with
    | true =>
      have hg : s.getD p.toNat false = true := by simp [List.getD_eq_getElem?_getD, hi, hk]
      simp only [hg, if_true]
      exact I
    | false =>
      have hg : s.getD p.toNat false = false := by simp [List.getD_eq_getElem?_getD, hi, hk]
      simp only [hg, Bool.false_eq_true, if_false]
      have hk' : s[p.toNat]? = some false := by rw [List.getElem?_eq_getElem hi, hk]
      refine ⟨by simpa using hl, ?_, ?_⟩
      · have h1 := count_set_false s p.toNat hk'
        have h2 : s.count false + q.length = n := I.cnt
        show (s.set p.toNat true).count false + (q ++ [p]).length = n
        rw [List.length_append, List.length_singleton]
        omega
      · intro y hy
        rcases List.mem_append.1 hy with hy | hy
        · exact I.mem y hy
        · simp at hy; subst hy; exact ⟨h0, by omega⟩
  · rw [if_neg h]
    exact I
theorem stepM_ok {c : List Ins} (hp : plainC c = true) {st : RS} (I : RI c.length st) {p : Int} (h0 : 0 ≤ p) (h1 : p < c.length) : RI c.length (stepM c st p) := by
  obtain ⟨_, _, _, hm⟩ := plain_out hp
  unfold stepM
  have I1 : RI c.length (if (gI c p).1 = 18 ∨ (gI c p).1 = 24 then st else comeM st (p + 1)) := by
    split
    · exact I
    · exact comeM_ok I (by omega)
  by_cases hl : leadsB (gI c p).1 = true
  · simp only [hl, if_true]
    exact comeM_ok I1 (hm _ (gI_mem h0 h1) hl).1
  · simp only [hl, if_false, Bool.false_eq_true]
    exact I1
theorem runM_len {c : List Ins} (hp : plainC c = true) : ∀ (f i : Nat) (st : RS), RI c.length st → RI c.length (runM c f i st)
  | 0, _, _, I => I
  | f + 1, i, st, I => by
    unfold runM
    split
    · rename_i h
      have hv := I.mem st.2[i] (List.getElem_mem h)
      have e : st.2.getD i 0 = st.2[i] := by simp [List.getD_eq_getElem?_getD, h]
      rw [e]
      exact runM_len hp f (i + 1) _ (stepM_ok hp I hv.1 hv.2)
    · exact I
theorem ri0 {n : Nat} (h : 0 < n) : RI n ((List.replicate n false).set 0 true, [0]) := by
  refine ⟨by simp, ?_, by simp; omega⟩
  have := count_set_false (List.replicate n false) 0 (by rw [List.getElem?_replicate, if_pos h])
  show ((List.replicate n false).set 0 true).count false + 1 = n
  rw [this]
  simp
theorem reachM_len {c : List Ins} (hp : plainC c = true) : (reachM c).length = c.length := by
  unfold reachM
  rw [List.length_set]
  exact (runM_len hp _ _ _ (ri0 (plain_out hp).1)).len
theorem runM_stop {c : List Ins} {d i : Nat} {st : RS} (h : ¬ i < st.2.length) : runM c d i st = st := by
  cases d with
  | zero => rfl
  | succ d => unfold runM; rw [if_neg h]
theorem runM_go {c : List Ins} {d i : Nat} {st : RS} (h : i < st.2.length) : runM c (d + 1) i st = runM c d (i + 1) (stepM c st st.2[i]) := by
  conv => lhs; unfold runM
  rw [if_pos h]
  have e1 : st.2.getD i 0 = st.2[i] := by simp [List.getD_eq_getElem?_getD, h]
  rw [e1]
def threadP (p : Pr) : Pr := (p.1, p.2.1, p.2.2.1, thrC p.2.2.2)
def stripP (p : Pr) : Pr := (p.1, p.2.1, p.2.2.1, stripC p.2.2.2)
theorem stripC_len (c : List Ins) : (stripC c).length ≤ c.length := by
  unfold stripC
  split
  · rw [List.length_map]; exact sel_length_le _ _
  · exact Nat.le_refl _
end Go.Proofs.Ytcbjdodehjpddaa.Abs
