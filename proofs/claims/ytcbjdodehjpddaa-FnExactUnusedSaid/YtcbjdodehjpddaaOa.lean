/- Modules: what is used of a module, in plain words; its laws. No condition. -/
import Derived.Test.YtcbjdodehjpddaaNk
namespace Go.Proofs.Ytcbjdodehjpddaa.Abs
open Go.RowKit
set_option linter.unusedVariables false
set_option linter.unusedSimpArgs false

/-- What is kept of a row. -/
def sel {α : Type} : List Bool → List α → List α
  | b :: bs, x :: l => if b then x :: sel bs l else sel bs l
  | _, _ => []
def rank (bs : List Bool) (i : Nat) : Nat := (bs.take i).count true
theorem sel_take_succ {α : Type} : ∀ (bs : List Bool) (l : List α) (i : Nat) (h : i < l.length) (hb : i < bs.length), sel (bs.take (i + 1)) (l.take (i + 1)) = sel (bs.take i) (l.take i) ++ (if bs[i] then [l[i]] else [])
  | b :: bs, x :: l, 0, _, _ => by cases b <;> simp [sel]
  | b :: bs, x :: l, i + 1, h, hb => by
    have := sel_take_succ bs l i (by simpa using h) (by simpa using hb)
    simp only [List.take_succ_cons, sel, List.getElem_cons_succ, this]
    cases b <;> simp
  | [], _, _, _, hb => by simp at hb
  | _ :: _, [], _, h, _ => by simp at h
theorem sel_length {α : Type} : ∀ (bs : List Bool) (l : List α), bs.length = l.length → (sel bs l).length = bs.count true
  | [], [], _ => rfl
  | b :: bs, x :: l, h => by
    have := sel_length bs l (by simpa using h)
    cases b <;> simp [sel, this]
  | [], _ :: _, h => by simp at h
  | _ :: _, [], h => by simp at h
theorem sel_take_length {α : Type} {bs : List Bool} {l : List α} (h : bs.length = l.length) (i : Nat) : (sel (bs.take i) (l.take i)).length = rank bs i := by
  rw [sel_length _ _ (by simp [h])]; rfl
theorem sel_mem {α : Type} : ∀ (bs : List Bool) (l : List α) (x : α), x ∈ sel bs l → ∃ i : Nat, bs[i]? = some true ∧ l[i]? = some x
  | b :: bs, y :: l, x, h => by
    cases b with
    | true =>
      simp only [sel, if_true, List.mem_cons] at h
      rcases h with rfl | h
      · exact ⟨0, rfl, rfl⟩
      · obtain ⟨i, h1, h2⟩ := sel_mem bs l x h
        exact ⟨i + 1, by simpa using h1, by simpa using h2⟩
    | false =>
      simp only [sel, Bool.false_eq_true, if_false] at h
      obtain ⟨i, h1, h2⟩ := sel_mem bs l x h
      exact ⟨i + 1, by simpa using h1, by simpa using h2⟩
  | [], _, x, h => by simp [sel] at h
  | _ :: _, [], x, h => by simp [sel] at h
theorem sel_length_le {α : Type} : ∀ (bs : List Bool) (l : List α), (sel bs l).length ≤ l.length
  | b :: bs, x :: l => by
    have := sel_length_le bs l
    cases b <;> simp [sel] <;> omega
  | [], _ => by simp [sel]
  | _ :: _, [] => by simp [sel]

/-- Which protos and which texts are come to; and the protos in the order in which they are come to. -/
abbrev US := List Bool × List Bool × List Int
def stU (st : US) (x : Ins) : US :=
  if x.1 = 12 then (if st.1.getD x.2.toNat false then st else (st.1.set x.2.toNat true, st.2.1, st.2.2 ++ [x.2]))
  else if x.1 = 4 then (st.1, st.2.1.set x.2.toNat true, st.2.2) else st
def zPr : Pr := (0, 0, [], [])
def runU (ps : List Pr) : Nat → Nat → US → US
  | 0, _, st => st
  | f + 1, i, st => if i < st.2.2.length then runU ps f (i + 1) ((ps.getD (st.2.2.getD i 0).toNat zPr).2.2.2.foldl stU st) else st
def st0 (np nt : Nat) : US := ((List.replicate np false).set 0 true, List.replicate nt false, [0])
def reachU (M : Mo) : US := runU M.1 M.1.length 0 (st0 M.1.length M.2.length)
def renU (R : US) (x : Ins) : Ins := if x.1 = 12 then (12, (rank R.1 x.2.toNat : Int)) else if x.1 = 4 then (4, (rank R.2.1 x.2.toNat : Int)) else x
def unP (R : US) (p : Pr) : Pr := (p.1, p.2.1, p.2.2.1, p.2.2.2.map (renU R))
def unM (M : Mo) : Mo := ((sel (reachU M).1 M.1).map (unP (reachU M)), sel (reachU M).2.1 M.2)

/-- An instruction's number leads to a proto or a text that there is. -/
def okX (np nt : Nat) (x : Ins) : Prop := (x.1 = 12 → 0 ≤ x.2 ∧ x.2 < np) ∧ (x.1 = 4 → 0 ≤ x.2 ∧ x.2 < nt)
structure UI (np nt : Nat) (st : US) : Prop where
  lk : st.1.length = np
  lt : st.2.1.length = nt
  cnt : st.1.count false + st.2.2.length = np
  mem : ∀ x ∈ st.2.2, 0 ≤ x ∧ x < (np : Int)
  all : ∀ k : Nat, st.1[k]? = some true → (k : Int) ∈ st.2.2
/-- All that an instruction leads to is kept. -/
def clX (st : US) (x : Ins) : Prop := (x.1 = 12 → st.1[x.2.toNat]? = some true) ∧ (x.1 = 4 → st.2.1[x.2.toNat]? = some true)
structure LeU (a b : US) : Prop where
  k : ∀ i : Nat, a.1[i]? = some true → b.1[i]? = some true
  t : ∀ i : Nat, a.2.1[i]? = some true → b.2.1[i]? = some true
  q : ∃ r, b.2.2 = a.2.2 ++ r
theorem LeU.refl (a : US) : LeU a a := ⟨fun _ h => h, fun _ h => h, [], by simp⟩
theorem LeU.trans {a b c : US} (h : LeU a b) (g : LeU b c) : LeU a c := ⟨fun i e => g.k i (h.k i e), fun i e => g.t i (h.t i e), by
  obtain ⟨r, hr⟩ := h.q
  obtain ⟨s, hs⟩ := g.q
  exact ⟨r ++ s, by rw [hs, hr, List.append_assoc]⟩⟩
theorem clX_mono {a b : US} (h : LeU a b) {x : Ins} (c : clX a x) : clX b x := ⟨fun e => h.k _ (c.1 e), fun e => h.t _ (c.2 e)⟩
theorem set_true_get {l : List Bool} {i j : Nat} (h : l[i]? = some true) : (l.set j true)[i]? = some true := by
  rw [List.getElem?_set]
  have := (List.getElem?_eq_some_iff.1 h).1
  split
  · rename_i e; subst e; simp [this]
  · exact h
theorem count_set_false : ∀ (l : List Bool) (i : Nat), l[i]? = some false → (l.set i true).count false + 1 = l.count false
  | [], i, h => by simp at h
  | b :: l, 0, h => by simp at h; subst h; simp
  | b :: l, i + 1, h => by
    have := count_set_false l i (by simpa using h)
    cases b <;> simp [List.count_cons] <;> omega
theorem stU_ok {np nt : Nat} {st : US} (I : UI np nt st) {x : Ins} (hx : okX np nt x) : UI np nt (stU st x) ∧ LeU st (stU st x) ∧ clX (stU st x) x := by
  obtain ⟨kl, tl, q⟩ := st
  obtain ⟨op, a⟩ := x
  have hlk : kl.length = np := I.lk
  have hlt : tl.length = nt := I.lt
  unfold stU
  by_cases c : op = 12
  · obtain ⟨a0, a1⟩ := hx.1 c
    have a1 : a < (np : Int) := a1
    have a0 : 0 ≤ a := a0
    have hi : a.toNat < kl.length := by omega
    rw [if_pos c]
    cases hk : kl[a.toNat] with
    | true =>
      have hg : kl.getD a.toNat false = true := by simp [List.getD_eq_getElem?_getD, hi, hk]
      simp only [hg, if_true]
      exact ⟨I, LeU.refl _, fun _ => by show kl[a.toNat]? = _; rw [List.getElem?_eq_getElem hi, hk], fun e => by rw [c] at e; cases e⟩
    | false =>
      have hg : kl.getD a.toNat false = false := by simp [List.getD_eq_getElem?_getD, hi, hk]
      simp only [hg, Bool.false_eq_true, if_false]
      have hk' : kl[a.toNat]? = some false := by rw [List.getElem?_eq_getElem hi, hk]
      refine ⟨⟨by simpa using hlk, hlt, ?_, ?_, ?_⟩, ⟨fun i e => set_true_get e, fun i e => e, [a], rfl⟩, fun _ => ?_, fun e => by rw [c] at e; cases e⟩
      · have h1 := count_set_false kl a.toNat hk'
        have h2 : kl.count false + q.length = np := I.cnt
        show (kl.set a.toNat true).count false + (q ++ [a]).length = np
        rw [List.length_append, List.length_singleton]
        omega
      · intro y hy
        rcases List.mem_append.1 hy with hy | hy
        · exact I.mem y hy
        · simp at hy; subst hy; exact ⟨a0, a1⟩
      · intro k hk
        have hk : (kl.set a.toNat true)[k]? = some true := hk
        show (k : Int) ∈ q ++ [a]
        by_cases e : a.toNat = k
        · subst e
          simp
          omega
        · rw [List.getElem?_set_ne e] at hk
          exact List.mem_append.2 (.inl (I.all k hk))
      · show (kl.set a.toNat true)[a.toNat]? = some true
        rw [List.getElem?_set_self hi]
  · rw [if_neg c]
    by_cases c4 : op = 4
    · rw [if_pos c4]
      obtain ⟨a0, a1⟩ := hx.2 c4
      have a1 : a < (nt : Int) := a1
      have a0 : 0 ≤ a := a0
      refine ⟨⟨hlk, by simpa using hlt, I.cnt, I.mem, I.all⟩, ⟨fun i e => e, fun i e => set_true_get e, [], by simp⟩, fun e => absurd e c, fun _ => ?_⟩
      show (tl.set a.toNat true)[a.toNat]? = some true
      rw [List.getElem?_set_self (by omega)]
    · rw [if_neg c4]
      exact ⟨I, LeU.refl _, fun e => absurd e c, fun e => absurd e c4⟩
theorem foldU_ok {np nt : Nat} : ∀ (l : List Ins) (st : US), UI np nt st → (∀ x ∈ l, okX np nt x) → UI np nt (l.foldl stU st) ∧ LeU st (l.foldl stU st) ∧ ∀ x ∈ l, clX (l.foldl stU st) x
  | [], st, I, _ => ⟨I, LeU.refl _, by simp⟩
  | x :: l, st, I, h => by
    obtain ⟨I1, L1, c1⟩ := stU_ok I (h x (by simp))
    obtain ⟨I2, L2, c2⟩ := foldU_ok l (stU st x) I1 (fun y hy => h y (by simp [hy]))
    refine ⟨I2, L1.trans L2, fun y hy => ?_⟩
    rcases List.mem_cons.1 hy with rfl | hy
    · exact clX_mono L2 c1
    · exact c2 y hy
def okPsX (ps : List Pr) (nt : Nat) : Prop := ∀ p ∈ ps, ∀ x ∈ p.2.2.2, okX ps.length nt x
theorem runU_ok {ps : List Pr} {nt : Nat} (hps : okPsX ps nt) : ∀ (f i : Nat) (st : US), i + f = ps.length → UI ps.length nt st → (∀ j : Nat, j < i → ∀ v, st.2.2[j]? = some v → ∀ x ∈ (ps.getD v.toNat zPr).2.2.2, clX st x) →
    UI ps.length nt (runU ps f i st) ∧ ∀ v ∈ (runU ps f i st).2.2, ∀ x ∈ (ps.getD v.toNat zPr).2.2.2, clX (runU ps f i st) x
  | 0, i, st, hi, I, hc => by
    refine ⟨I, fun v hv x hx => ?_⟩
    obtain ⟨j, hj, e⟩ := List.getElem_of_mem hv
    have := I.cnt
    have hj : j < st.2.2.length := hj
    exact hc j (by omega) v (by rw [List.getElem?_eq_getElem hj]; exact congrArg some e) x hx
  | f + 1, i, st, hi, I, hc => by
    unfold runU
    by_cases h : i < st.2.2.length
    · rw [if_pos h]
      have hv := I.mem st.2.2[i] (List.getElem_mem h)
      have hv2 : (st.2.2[i]).toNat < ps.length := by omega
      have eg : st.2.2.getD i 0 = st.2.2[i] := by simp [List.getD_eq_getElem?_getD, h]
      rw [eg]
      have ep : ps.getD (st.2.2[i]).toNat zPr = ps[(st.2.2[i]).toNat] := by simp [List.getD_eq_getElem?_getD, hv2]
      obtain ⟨I2, L2, c2⟩ := foldU_ok (ps.getD (st.2.2[i]).toNat zPr).2.2.2 st I (by rw [ep]; exact hps _ (List.getElem_mem hv2))
      refine runU_ok hps f (i + 1) _ (by omega) I2 fun j hj v hjv x hx => ?_
      obtain ⟨r, hr⟩ := L2.q
      have hjl : j < st.2.2.length := by omega
      rw [hr, List.getElem?_append_left hjl] at hjv
      by_cases hji : j < i
      · exact clX_mono L2 (hc j hji v hjv x hx)
      · have : j = i := by omega
        subst this
        rw [List.getElem?_eq_getElem hjl] at hjv
        cases hjv
        exact c2 x hx
    · rw [if_neg h]
      refine ⟨I, fun v hv x hx => ?_⟩
      obtain ⟨j, hj, e⟩ := List.getElem_of_mem hv
      exact hc j (by omega) v (by rw [List.getElem?_eq_getElem hj, e]) x hx
theorem st0_ok {np nt : Nat} (h : 0 < np) : UI np nt (st0 np nt) := by
  refine ⟨by simp [st0], by simp [st0], ?_, by simp [st0]; omega, fun k hk => ?_⟩
  · have := count_set_false (List.replicate np false) 0 (by rw [List.getElem?_replicate, if_pos h])
    show ((List.replicate np false).set 0 true).count false + 1 = np
    rw [this]
    simp
  · have hk : ((List.replicate np false).set 0 true)[k]? = some true := hk
    by_cases e : k = 0
    · subst e; simp [st0]
    · rw [List.getElem?_set_ne (by omega), List.getElem?_replicate] at hk
      split at hk <;> simp at hk
/-- All that a kept proto leads to is kept. -/
theorem reach_closed {M : Mo} (h0 : 0 < M.1.length) (hps : okPsX M.1 M.2.length) : UI M.1.length M.2.length (reachU M) ∧ ∀ (i : Nat) (p : Pr), (reachU M).1[i]? = some true → M.1[i]? = some p → ∀ x ∈ p.2.2.2, clX (reachU M) x := by
  obtain ⟨I, hc⟩ := runU_ok hps M.1.length 0 (st0 M.1.length M.2.length) (by omega) (st0_ok h0) (fun j hj => by omega)
  refine ⟨I, fun i p hi hp x hx => hc (i : Int) (I.all i hi) x ?_⟩
  simpa [List.getD_eq_getElem?_getD, hp] using hx
theorem okPsX_of {M : Mo} (h : okB M = true) (hok : okM M) : okPsX M.1 M.2.length ∧ 0 < M.1.length := by
  unfold okB at h
  simp only [Bool.and_eq_true] at h
  obtain ⟨h1, _, _, _, _, h2, h3⟩ := h
  have hl : M.1.length ≤ 2 ^ 20 := hok.1.1
  have hl2 : M.2.length ≤ 2 ^ 20 := hok.2
  have h1 : (1 : Int) ≤ M.1.length ∧ (M.1.length : Int) ≤ 100 := of_decide_eq_true h1
  refine ⟨fun p hp x hx => ?_, by omega⟩
  have hc := List.all_eq_true.1 (List.all_eq_true.1 h3 p hp) x hx
  refine ⟨fun e => ?_, fun e => ?_⟩
  · unfold insB at hc
    simp only [e, show ¬ ((12 : Int) = 2) by decide, show ¬ ((12 : Int) = 3) by decide, show ¬ ((12 : Int) = 4) by decide, show ¬ ((12 : Int) = 5) by decide, show ¬ ((12 : Int) = 6) by decide, show ¬ ((12 : Int) = 7) by decide, show ¬ ((12 : Int) = 8) by decide, show ¬ ((12 : Int) = 9) by decide, show ¬ ((12 : Int) = 10) by decide, show ¬ ((12 : Int) = 11) by decide, if_false, if_true, Bool.and_eq_true] at hc
    have := of_decide_eq_true hc.1
    have hw : IntKind.i64.wrap ((M.1.length : Int) - 1) = (M.1.length : Int) - 1 := w64 (by omega) (by omega)
    rw [hw] at this
    omega
  · unfold insB at hc
    simp only [e, show ¬ ((4 : Int) = 2) by decide, show ¬ ((4 : Int) = 3) by decide, if_false, if_true] at hc
    have := of_decide_eq_true hc
    have hw : IntKind.i64.wrap ((M.2.length : Int) - 1) = (M.2.length : Int) - 1 := w64 (by omega) (by omega)
    rw [hw] at this
    omega
theorem unM_ok {M : Mo} (h : okM M) : okM (unM M) := by
  refine ⟨⟨?_, fun p hp => ?_⟩, ?_⟩
  · unfold unM
    rw [List.length_map]
    exact Nat.le_trans (sel_length_le _ _) h.1.1
  · obtain ⟨q, hq, rfl⟩ := List.mem_map.1 hp
    obtain ⟨i, _, hi⟩ := sel_mem _ _ _ hq
    have := h.1.2 q (List.mem_of_getElem? hi)
    exact ⟨this.1, by unfold unP; simpa using this.2⟩
  · exact Nat.le_trans (sel_length_le _ _) h.2
end Go.Proofs.Ytcbjdodehjpddaa.Abs
