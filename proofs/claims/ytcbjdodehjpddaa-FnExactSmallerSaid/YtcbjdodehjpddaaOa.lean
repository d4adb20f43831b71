/- Modules: what is used of a module, in plain words; its laws. No condition. -/
import Derived.Test.YtcbjdodehjpddaaNk
namespace Go.Proofs.Ytcbjdodehjpddaa.Abs
open Go.RowKit
set_option linter.unusedVariables false
set_option linter.unusedSimpArgs false

/-- What is kept of a row. -/
def sel {α : Type} : List Bool → List α → List α
  | b :: bs, x :: l => if b then x :: sel bs l else sel bs l
  | _, _ => []
def rank (bs : List Bool) (i : Nat) : Nat := (bs.take i).count true
theorem sel_take_succ {α : Type} : ∀ (bs : List Bool) (l : List α) (i : Nat) (h : i < l.length) (hb : i < bs.length), sel (bs.take (i + 1)) (l.take (i + 1)) = sel (bs.take i) (l.take i) ++ (if bs[i] then [l[i]] else [])
  | b :: bs, x :: l, 0, _, _ => by cases b <;> simp [sel]
  | b :: bs, x :: l, i + 1, h, hb => by
    have := sel_take_succ bs l i (by simpa using h) (by simpa using hb)
    simp only [List.take_succ_cons, sel, List.getElem_cons_succ, this]
    cases b <;> simp
  | [], _, _, _, hb => by simp at hb
  | _ :: _, [], _, h, _ => by simp at h
theorem sel_length {α : Type} : ∀ (bs : List Bool) (l : List α), bs.length = l.length → (sel bs l).length = bs.count true
  | [], [], _ => rfl
  | b :: bs, x :: l, h => by
    have := sel_length bs l (by simpa using h)
    cases b <;> simp [sel, this]
  | [], _ :: _, h => by simp at h
  | _ :: _, [], h => by simp at h
theorem sel_take_length {α : Type} {bs : List Bool} {l : List α} (h : bs.length = l.length) (i : Nat) : (sel (bs.take i) (l.take i)).length = rank bs i := by
  rw [sel_length _ _ (by simp [h])]; rfl
theorem sel_mem {α : Type} : ∀ (bs : List Bool) (l : List α) (x : α), x ∈ sel bs l → ∃ i : Nat, bs[i]? = some true ∧ l[i]? = some x
  | b :: bs, y :: l, x, h => by
    cases b with
    | true =>
      simp only [sel, if_true, List.mem_cons] at h
      rcases h with rfl | h
      · exact ⟨0, rfl, rfl⟩
      · obtain ⟨i, h1, h2⟩ := sel_mem bs l x h
        exact ⟨i + 1, by simpa using h1, by simpa using h2⟩
    | false =>
      simp only [sel, Bool.false_eq_true, if_false] at h
      obtain ⟨i, h1, h2⟩ := sel_mem bs l x h
      exact ⟨i + 1, by simpa using h1, by simpa using h2⟩
  | [], _, x, h => by simp [sel] at h
  | _ :: _, [], x, h => by simp [sel] at h
theorem sel_length_le {α : Type} : ∀ (bs : List Bool) (l : List α), (sel bs l).length ≤ l.length
  | b :: bs, x :: l => by
    have := sel_length_le bs l
    cases b <;> simp [sel] <;> omega
  | [], _ => by simp [sel]
  | _ :: _, [] => by simp [sel]

/-- Which protos and which texts are come to; and the protos in the order in which they are come to. -/
abbrev US := List Bool × List Bool × List Int
def stU (st : US) (x : Ins) : US :=
  if x.1 = 12 then (if st.1.getD x.2.toNat false then st else (st.1.set x.2.toNat true, st.2.1, st.2.2 ++ [x.2]))
  else if x.1 = 4 then (st.1, st.2.1.set x.2.toNat true, st.2.2) else st
def zPr : Pr := (0, 0, [], [])
def runU (ps : List Pr) : Nat → Nat → US → US
  | 0, _, st => st
  | f + 1, i, st => if i < st.2.2.length then runU ps f (i + 1) ((ps.getD (st.2.2.getD i 0).toNat zPr).2.2.2.foldl stU st) else st
def st0 (np nt : Nat) : US := ((List.replicate np false).set 0 true, List.replicate nt false, [0])
def reachU (M : Mo) : US := runU M.1 M.1.length 0 (st0 M.1.length M.2.length)
def renU (R : US) (x : Ins) : Ins := if x.1 = 12 then (12, (rank R.1 x.2.toNat : Int)) else if x.1 = 4 then (4, (rank R.2.1 x.2.toNat : Int)) else x
def unP (R : US) (p : Pr) : Pr := (p.1, p.2.1, p.2.2.1, p.2.2.2.map (renU R))
def unM (M : Mo) : Mo := ((sel (reachU M).1 M.1).map (unP (reachU M)), sel (reachU M).2.1 M.2)

/-- An instruction's number leads to a proto or a text that there is. -/
def okX (np nt : Nat) (x : Ins) : Prop := (x.1 = 12 → 0 ≤ x.2 ∧ x.2 < np) ∧ (x.1 = 4 → 0 ≤ x.2 ∧ x.2 < nt)
structure UI (np nt : Nat) (st : US) : Prop where
  lk : st.1.length = np
  lt : st.2.1.length = nt
  cnt : st.1.count false + st.2.2.length = np
  mem : ∀ x ∈ st.2.2, 0 ≤ x ∧ x < (np : Int)
  all : ∀ k : Nat, st.1[k]? = some true → (k : Int) ∈ st.2.2
/-- All that an instruction leads to is kept. -/
def clX (st : US) (x : Ins) : Prop := (x.1 = 12 → st.1[x.2.toNat]? = some true) ∧ (x.1 = 4 → st.2.1[x.2.toNat]? = some true)
structure LeU (a b : US) : Prop where
  k : ∀ i : Nat, a.1[i]? = some true → b.1[i]? = some true
  t : ∀ i : Nat, a.2.1[i]? = some true → b.2.1[i]? = some true
  q : ∃ r, b.2.2 = a.2.2 ++ r
theorem LeU.refl (a : US) : LeU a a := ⟨fun _ h => h, fun _ h => h, [], by simp⟩
theorem LeU.trans {a b c : US} (h : LeU a b) (g : LeU b c) : LeU a c := ⟨fun i e => g.k i (h.k i e), fun i e => g.t i (h.t i e), by
  obtain ⟨r, hr⟩ := h.q
  obtain ⟨s, hs⟩ := g.q
  exact ⟨r ++ s, by rw [hs, hr, List.append_assoc]⟩⟩
theorem clX_mono {a b : US} (h : LeU a b) {x : Ins} (c : clX a x) : clX b x := ⟨fun e => h.k _ (c.1 e), fun e => h.t _ (c.2 e)⟩
theorem set_true_get {l : List Bool} {i j : Nat} (h : l[i]? = some true) : (l.set j true)[i]? = some true := by
  rw [List.getElem?_set]
  have := (List.getElem?_eq_some_iff.1 h).1
  split
  · rename_i e; subst e; simp [this]
  · exact h
theorem count_set_false : ∀ (l : List Bool) (i : Nat), l[i]? = some false → (l.set i true).count false + 1 = l.count false
  | [], i, h => by simp at h
  | b :: l, 0, h => by simp at h; subst h; simp
  | b :: l, i + 1, h => by
    have := count_set_false l i (by simpa using h)
    cases b <;> simp [List.count_cons] <;> omega
theorem stU_ok {np nt : Nat} {st : US} (I : UI np nt st) {x : Ins} (hx : okX np nt x) : UI np nt (stU st x) ∧ LeU st (stU st x) ∧ clX (stU st x) x := by
  obtain ⟨kl, tl, q⟩ := st
  obtain ⟨op, a⟩ := x
  have hlk : kl.length = np := I.lk
  have hlt : tl.length = nt := I.lt
  unfold stU
  by_cases c : op = 12
  · obtain ⟨a0, a1⟩ := hx.1 c
    have a1 : a < (np : Int) := a1
    have a0 : 0 ≤ a := a0
    have hi : a.toNat < kl.length := by omega
    rw [if_pos c]
    cases hk : kl[a.toNat] with
    | true =>
      have hg : kl.getD a.toNat false = true := by simp [List.getD_eq_getElem?_getD, hi, hk]
      simp only [hg, if_true]
      exact ⟨I, LeU.refl _, fun _ => by show kl[a.toNat]? = _; rw [List.getElem?_eq_getElem hi, hk], fun e => by rw [c] at e; cases e⟩
    | false =>
      have hg : kl.getD a.toNat false = false := by simp [List.getD_eq_getElem?_getD, hi, hk]
      simp only [hg, Bool.false_eq_true, if_false]
      have hk' : kl[a.toNat]? = some false := by rw [List.getElem?_eq_getElem hi, hk]
      refine ⟨⟨by simpa using hlk, hlt, ?_, ?_, ?_⟩, ⟨fun i e => set_true_get e, fun i e => e, [a], rfl⟩, fun _ => ?_, fun e => by rw [c] at e; cases e⟩
      · have h1 := count_set_false kl a.toNat hk'
        have h2 : kl.count false + q.length = np := I.cnt
        show (kl.set a.toNat true).count false + (q ++ [a]).length = np
        rw [List.length_append, List.length_singleton]
        omega
      · intro y hy
        rcases List.mem_append.1 hy with hy | hy
        · exact I.mem y hy
        · simp at hy; subst hy; exact ⟨a0, a1⟩
      · intro k hk
        have hk : (kl.set a.toNat true)[k]? = some true := hk
        show (k : Int) ∈ q ++ [a]
        by_cases e : a.toNat = k
        · subst e
          simp
          omega
        · rw [List.getElem?_set_ne e] at hk
          exact List.mem_append.2 (.inl (I.all k hk))
      · show (kl.set a.toNat true)[a.toNat]? = some true
        rw [List.getElem?_set_self hi]
  · rw [if_neg c]
    by_cases c4 : op = 4
    · rw [if_pos c4]
      obtain ⟨a0, a1⟩ := hx.2 c4
      have a1 : a < (nt : Int) := a1
      have a0 : 0 ≤ a := a0
      refine ⟨⟨hlk, by simpa using hlt, I.cnt, I.mem, I.all⟩, ⟨fun i e => e, fun i e => set_true_get e, [], by simp⟩, fun e => absurd e c, fun _ => ?_⟩
      show (tl.set a.toNat true)[a.toNat]? = some true
      rw [List.getElem?_set_self (by omega)]
    · rw [if_neg c4]
      exact ⟨I, LeU.refl _, fun e => absurd e c, fun e => absurd e c4⟩
theorem foldU_ok {np nt : Nat} : ∀ (l : List Ins) (st : US), UI np nt st → (∀ x ∈ l, okX np nt x) → UI np nt (l.foldl stU st) ∧ LeU st (l.foldl stU st) ∧ ∀ x ∈ l, clX (l.foldl stU st) x
  | [], st, I, _ => ⟨I, LeU.refl _, by simp⟩
  | x :: l, st, I, h => by
    obtain ⟨I1, L1, c1⟩ := stU_ok I (h x (by simp))
    obtain ⟨I2, L2, c2⟩ := foldU_ok l (stU st x) I1 (fun y hy => h y (by simp [hy]))
    refine ⟨I2, L1.trans L2, fun y hy => ?_⟩
    rcases List.mem_cons.1 hy with rfl | hy
    · exact clX_mono L2 c1
    · exact c2 y hy
def okPsX (ps : List Pr) (nt : Nat) : Prop := ∀ p ∈ ps, ∀ x ∈ p.2.2.2, okX ps.length nt x
theorem runU_ok {ps : List Pr} {nt : Nat} (hps : okPsX ps nt) : ∀ (f i : Nat) (st : US), i + f = ps.length → UI ps.length nt st → (∀ j : Nat, j < i → ∀ v, st.2.2[j]? = some v → ∀ x ∈ (ps.getD v.toNat zPr).2.2.2, clX st x) →
    UI ps.length nt (runU ps f i st) ∧ ∀ v ∈ (runU ps f i st).2.2, ∀ x ∈ (ps.getD v.toNat zPr).2.2.2, clX (runU ps f i st) x
  | 0, i, st, hi, I, hc => by
    refine ⟨I, fun v hv x hx => ?_⟩
    obtain ⟨j, hj, e⟩ := List.getElem_of_mem hv
    have := I.cnt
    have hj : j < st.2.2.length := hj
    exact hc j (by omega) v (by rw [List.getElem?_eq_getElem hj]; exact congrArg some e) x hx
  | f + 1, i, st, hi, I, hc => by
    unfold runU
    by_cases h : i < st.2.2.length
    · rw [if_pos h]
      have hv := I.mem st.2.2[i] (List.getElem_mem h)
      have hv2 : (st.2.2[i]).toNat < ps.length := by omega
      have eg : st.2.2.getD i 0 = st.2.2[i] := by simp [List.getD_eq_getElem?_getD, h]
      rw [eg]
      have ep : ps.getD (st.2.2[i]).toNat zPr = ps[(st.2.2[i]).toNat] := by simp [List.getD_eq_getElem?_getD, hv2]
      obtain ⟨I2, L2, c2⟩ := foldU_ok (ps.getD (st.2.2[i]).toNat zPr).2.2.2 st I (by rw [ep]; exact hps _ (List.getElem_mem hv2))
      refine runU_ok hps f (i + 1) _ (by omega) I2 fun j hj v hjv x hx => ?_
      obtain ⟨r, hr⟩ := L2.q
      have hjl : j < st.2.2.length := by omega
      rw [hr, List.getElem?_append_left hjl] at hjv
      by_cases hji : j < i
      · exact clX_mono L2 (hc j hji v hjv x hx)
      · have : j = i := by omega
        subst this
        rw [List.getElem?_eq_getElem hjl] at hjv
        cases hjv
        exact c2 x hx
    · rw [if_neg h]
      refine ⟨I, fun v hv x hx => ?_⟩
      obtain ⟨j, hj, e⟩ := List.getElem_of_mem hv
      exact hc j (by omega) v (by rw [List.getElem?_eq_getElem hj, e]) x hx
theorem st0_ok {np nt : Nat} (h : 0 < np) : UI np nt (st0 np nt) := by
  refine ⟨by simp [st0], by simp [st0], ?_, by simp [st0]; omega, fun k hk => ?_⟩
  · have := count_set_false (List.replicate np false) 0 (by rw [List.getElem?_replicate, if_pos h])
    show ((List.replicate np false).set 0 true).count false + 1 = np
    rw [this]
    simp
  · have hk : ((List.replicate np false).set 0 true)[k]? = some true := hk
    by_cases e : k = 0
    · subst e; simp [st0]
    · rw [List.getElem?_set_ne (by omega), List.getElem?_replicate] at hk
      split at hk <;> simp at hk
/-- All that a kept proto leads to is kept. -/
theorem reach_closed {M : Mo} (h0 : 0 < M.1.length) (hps : okPsX M.1 M.2.length) : UI M.1.length M.2.length (reachU M) ∧ ∀ (i : Nat) (p : Pr), (reachU M).1[i]? = some true → M.1[i]? = some p → ∀ x ∈ p.2.2.2, clX (reachU M) x := by
  obtain ⟨I, hc⟩ := runU_ok hps M.1.length 0 (st0 M.1.length M.2.length) (by omega) (st0_ok h0) (fun j hj => by omega)
  refine ⟨I, fun i p hi hp x hx => hc (i : Int) (I.all i hi) x ?_⟩
  simpa [List.getD_eq_getElem?_getD, hp] using hx
theorem okPsX_of {M : Mo} (h : okB M = true) (hok : okM M) : okPsX M.1 M.2.length ∧ 0 < M.1.length := by
  unfold okB at h
  simp only [Bool.and_eq_true] at h
  obtain ⟨h1, _, _, _, _, h2, h3⟩ := h
  have hl : M.1.length ≤ 2 ^ 20 := hok.1.1
  have hl2 : M.2.length ≤ 2 ^ 20 := hok.2
  have h1 : (1 : Int) ≤ M.1.length ∧ (M.1.length : Int) ≤ 100 := of_decide_eq_true h1
  refine ⟨fun p hp x hx => ?_, by omega⟩
  have hc := List.all_eq_true.1 (List.all_eq_true.1 h3 p hp) x hx
  refine ⟨fun e => ?_, fun e => ?_⟩
  · unfold insB at hc
    simp only [e, show ¬ ((12 : Int) = 2) by decide, show ¬ ((12 : Int) = 3) by decide, show ¬ ((12 : Int) = 4) by decide, show ¬ ((12 : Int) = 5) by decide, show ¬ ((12 : Int) = 6) by decide, show ¬ ((12 : Int) = 7) by decide, show ¬ ((12 : Int) = 8) by decide, show ¬ ((12 : Int) = 9) by decide, show ¬ ((12 : Int) = 10) by decide, show ¬ ((12 : Int) = 11) by decide, if_false, if_true, Bool.and_eq_true] at hc
    have := of_decide_eq_true hc.1
    have hw : IntKind.i64.wrap ((M.1.length : Int) - 1) = (M.1.length : Int) - 1 := w64 (by omega) (by omega)
    rw [hw] at this
    omega
  · unfold insB at hc
    simp only [e, show ¬ ((4 : Int) = 2) by decide, show ¬ ((4 : Int) = 3) by decide, if_false, if_true] at hc
    have := of_decide_eq_true hc
    have hw : IntKind.i64.wrap ((M.2.length : Int) - 1) = (M.2.length : Int) - 1 := w64 (by omega) (by omega)
    rw [hw] at this
    omega
theorem unM_ok {M : Mo} (h : okM M) : okM (unM M) := by
  refine ⟨⟨?_, fun p hp => ?_⟩, ?_⟩
  · unfold unM
    rw [List.length_map]
    exact Nat.le_trans (sel_length_le _ _) h.1.1
  · obtain ⟨q, hq, rfl⟩ := List.mem_map.1 hp
    obtain ⟨i, _, hi⟩ := sel_mem _ _ _ hq
    have := h.1.2 q (List.mem_of_getElem? hi)
    exact ⟨this.1, by unfold unP; simpa using this.2⟩
  · exact Nat.le_trans (sel_length_le _ _) h.2
end Go.Proofs.Ytcbjdodehjpddaa.Abs
/- Modules: memory while what is used of a module is sought and laid. No condition. -/
namespace Go.Proofs.Ytcbjdodehjpddaa.Abs
open Go.RowKit
set_option linter.unusedVariables false
set_option linter.unusedSimpArgs false

/-- Two rows of one's own and a row that grows. -/
structure Un {α : Type} [Enc α] (tk : TypeId) (m M : Mem) (gk gt : Nat) (kl tl : List α) (s : Sl) (todo : List Int) (D : List Nat) : Prop where
  le : Mem.le m M
  bk : M gk = some (.cells (flat Enc.e kl).toArray tk (0, 0))
  bt : M gt = some (.cells (flat Enc.e tl).toArray tk (0, 0))
  q : OwnL M s todo D
  nd : (gk :: gt :: D).Nodup
  fr : ∀ b ∈ gk :: gt :: D, m b = none
section
variable {α : Type} [Enc α] {tk : TypeId} {m M M' : Mem} {gk gt : Nat} {kl tl : List α} {s : Sl} {todo : List Int} {D : List Nat} {K : Mem → Prop}
theorem Un.mono (I : Un tk m M gk gt kl tl s todo D) (h : Mem.le M M') : Un tk m M' gk gt kl tl s todo D :=
  ⟨Mem.le_trans I.le h, h _ _ I.bk, h _ _ I.bt, (Ds.rows Int).own_le h I.q, I.nd, I.fr⟩
theorem Un.ne (I : Un tk m M gk gt kl tl s todo D) : gk ≠ gt ∧ gk ∉ D ∧ gt ∉ D ∧ D.Nodup := by
  have := I.nd
  simp only [List.nodup_cons, List.mem_cons, not_or] at this
  exact ⟨this.1.1, this.1.2, this.2.1, this.2.2⟩
theorem Un.setK (I : Un tk m M gk gt kl tl s todo D) {i : Nat} {x : α} {a : Addr} (ha : a = ⟨gk, i * Enc.s α, none⟩) (hi : i < kl.length)
    (hK : ∀ M', Un tk m M' gk gt (kl.set i x) tl s todo D → (∀ b, b ≠ gk → M' b = M b) → K M') : stoA M a (Enc.e x) K := by
  obtain ⟨h1, h2, h3, h4⟩ := I.ne
  refine sto_elem (spare := []) (by rw [List.append_nil]; exact I.bk) ha hi (hK _ ⟨le_upd_fresh I.le (I.fr gk (by simp)), ?_, ?_, ?_, I.nd, I.fr⟩ (fun b hb => upd_ne hb))
  · rw [List.append_nil]; exact upd_same _ _ _
  · rw [upd_ne (Ne.symm h1)]; exact I.bt
  · exact I.q.ext fun b hb => upd_ne (by rintro rfl; exact h2 hb)
theorem Un.setT (I : Un tk m M gk gt kl tl s todo D) {i : Nat} {x : α} {a : Addr} (ha : a = ⟨gt, i * Enc.s α, none⟩) (hi : i < tl.length)
    (hK : ∀ M', Un tk m M' gk gt kl (tl.set i x) s todo D → (∀ b, b ≠ gt → M' b = M b) → K M') : stoA M a (Enc.e x) K := by
  obtain ⟨h1, h2, h3, h4⟩ := I.ne
  refine sto_elem (spare := []) (by rw [List.append_nil]; exact I.bt) ha hi (hK _ ⟨le_upd_fresh I.le (I.fr gt (by simp)), ?_, ?_, ?_, I.nd, I.fr⟩ (fun b hb => upd_ne hb))
  · rw [upd_ne h1]; exact I.bk
  · rw [List.append_nil]; exact upd_same _ _ _
  · exact I.q.ext fun b hb => upd_ne (by rintro rfl; exact h3 hb)
theorem Un.push (I : Un tk m M gk gt kl tl s todo D) {gs : Nat} {x : Int} {K : Option Addr → Nat → Mem → Prop} (hx : M gs = some (.cells #[.int .i64 x] 3 (0, 0))) (hl : todo.length ≤ 2 ^ 30)
    (hK : ∀ (s' : Sl) (D' : List Nat) (M' : Mem), s'.n = s.n + 1 → Un tk m M' gk gt kl tl s' (todo ++ [x]) D' → (∀ b o, M b = some o → b ∉ D → M' b = some o) → K s'.a s'.c M') :
    appR M s.a s.n s.c (some ⟨gs, 0, none⟩) 1 1 8 #[.int .i64 0] 3 K := by
  obtain ⟨h1, h2, h3, h4⟩ := I.ne
  refine app_sl (α := Int) (l := todo) (l2 := [x]) (D := D) rfl rfl (by decide) (by decide) (by decide) I.q rfl (Rd.of_block (spare := []) hx (by rfl)) (by simp; omega) fun s' D' M' hsn hO' hoff hfr hnd' => ?_
  have fr' : ∀ b ∈ D', b ∈ D ∨ M b = none := fun b hb => by
    rcases hfr with e | hfr
    · exact .inl (e ▸ hb)
    · exact .inr (hfr b hb)
  have nk : gk ∉ D' := fun hb => by
    rcases fr' _ hb with h | h
    · exact h2 h
    · rw [I.bk] at h; cases h
  have nt : gt ∉ D' := fun hb => by
    rcases fr' _ hb with h | h
    · exact h3 h
    · rw [I.bt] at h; cases h
  have fm : ∀ b ∈ D', m b = none := fun b hb => by
    rcases fr' _ hb with h | h
    · exact I.fr b (by simp [h])
    · exact le_none I.le h
  refine hK s' D' M' hsn ⟨le_off I.le fm hoff, by rw [hoff _ nk]; exact I.bk, by rw [hoff _ nt]; exact I.bt, hO', ?_, ?_⟩ fun b o ho hb => ?_
  · simp only [List.nodup_cons, List.mem_cons, not_or]
    exact ⟨⟨h1, nk⟩, nt, hnd'⟩
  · intro b hb
    simp only [List.mem_cons] at hb
    rcases hb with rfl | rfl | hb
    · exact I.fr _ (by simp)
    · exact I.fr _ (by simp)
    · exact fm b hb
  · rw [hoff b fun h => ?_]
    · exact ho
    · rcases fr' _ h with h | h
      · exact hb h
      · rw [ho] at h; cases h
end

/-- The module that is laid: its struct, two rows of numbers, its protos and texts. -/
structure Ou (m M : Mem) (go ga gb : Nat) (la lb : List Int) (ps : List Pr) (ts : List ByteArray) (s st : Sl) (D Dt : List Nat) : Prop where
  le : Mem.le m M
  bo : M go = some (.cells #[vs s, vs st] 55 (0, 0))
  ba : M ga = some (.cells (flat Enc.e la).toArray 3 (0, 0))
  bb : M gb = some (.cells (flat Enc.e lb).toArray 3 (0, 0))
  o : dPrs.Own M s ps D
  ot : dTx.Own M st ts Dt
  nd : (go :: ga :: gb :: (D ++ Dt)).Nodup
  fr : ∀ b ∈ go :: ga :: gb :: (D ++ Dt), m b = none
section
variable {m M M' : Mem} {go ga gb : Nat} {la lb : List Int} {ps : List Pr} {ts : List ByteArray} {s st : Sl} {D Dt : List Nat} {K : Mem → Prop}
theorem Ou.mono (I : Ou m M go ga gb la lb ps ts s st D Dt) (h : Mem.le M M') : Ou m M' go ga gb la lb ps ts s st D Dt :=
  ⟨Mem.le_trans I.le h, h _ _ I.bo, h _ _ I.ba, h _ _ I.bb, dPrs.own_le h I.o, dTx.own_le h I.ot, I.nd, I.fr⟩
structure OuNe (go ga gb : Nat) (D Dt : List Nat) : Prop where
  oa : go ≠ ga
  ob : go ≠ gb
  ab : ga ≠ gb
  oD : go ∉ D
  oT : go ∉ Dt
  aD : ga ∉ D
  aT : ga ∉ Dt
  bD : gb ∉ D
  bT : gb ∉ Dt
  dd : D.Nodup
  dt : Dt.Nodup
  DT : ∀ b ∈ D, b ∉ Dt
theorem ouNe {go ga gb : Nat} {D Dt : List Nat} : (go :: ga :: gb :: (D ++ Dt)).Nodup ↔ OuNe go ga gb D Dt := by
  simp only [List.nodup_cons, List.mem_cons, List.mem_append, not_or, List.nodup_append]
  constructor
  · rintro ⟨⟨h1, h2, h3, h4⟩, ⟨h5, h6, h7⟩, ⟨h8, h9⟩, h10, h11, h12⟩
    exact ⟨h1, h2, h5, h3, h4, h6, h7, h8, h9, h10, h11, fun b hb hb' => h12 b hb b hb' rfl⟩
  · rintro ⟨h1, h2, h5, h3, h4, h6, h7, h8, h9, h10, h11, h12⟩
    exact ⟨⟨h1, h2, h3, h4⟩, ⟨h5, h6, h7⟩, ⟨h8, h9⟩, h10, h11, fun b hb b' hb' e => h12 b hb (e ▸ hb')⟩
theorem Ou.ne (I : Ou m M go ga gb la lb ps ts s st D Dt) : OuNe go ga gb D Dt := ouNe.1 I.nd
theorem Ou.setA (I : Ou m M go ga gb la lb ps ts s st D Dt) {i : Nat} {x : Int} {a : Addr} (ha : a = ⟨ga, i * 1, none⟩) (hi : i < la.length)
    (hK : ∀ M', Ou m M' go ga gb (la.set i x) lb ps ts s st D Dt → (∀ b, b ≠ ga → M' b = M b) → K M') : stoA M a [.int .i64 x] K := by
  have N := I.ne
  refine sto_elem (α := Int) (x := x) (spare := []) (by rw [List.append_nil]; exact I.ba) ha hi (hK _ ⟨le_upd_fresh I.le (I.fr ga (by simp)), ?_, ?_, ?_, ?_, ?_, I.nd, I.fr⟩ (fun b hb => upd_ne hb))
  · rw [upd_ne N.oa]; exact I.bo
  · rw [List.append_nil]; exact upd_same _ _ _
  · rw [upd_ne (Ne.symm N.ab)]; exact I.bb
  · exact dPrs.own_ext I.o fun b hb => upd_ne (by rintro rfl; exact N.aD hb)
  · exact dTx.own_ext I.ot fun b hb => upd_ne (by rintro rfl; exact N.aT hb)
theorem Ou.setB (I : Ou m M go ga gb la lb ps ts s st D Dt) {i : Nat} {x : Int} {a : Addr} (ha : a = ⟨gb, i * 1, none⟩) (hi : i < lb.length)
    (hK : ∀ M', Ou m M' go ga gb la (lb.set i x) ps ts s st D Dt → (∀ b, b ≠ gb → M' b = M b) → K M') : stoA M a [.int .i64 x] K := by
  have N := I.ne
  refine sto_elem (α := Int) (x := x) (spare := []) (by rw [List.append_nil]; exact I.bb) ha hi (hK _ ⟨le_upd_fresh I.le (I.fr gb (by simp)), ?_, ?_, ?_, ?_, ?_, I.nd, I.fr⟩ (fun b hb => upd_ne hb))
  · rw [upd_ne N.ob]; exact I.bo
  · rw [upd_ne N.ab]; exact I.ba
  · rw [List.append_nil]; exact upd_same _ _ _
  · exact dPrs.own_ext I.o fun b hb => upd_ne (by rintro rfl; exact N.bD hb)
  · exact dTx.own_ext I.ot fun b hb => upd_ne (by rintro rfl; exact N.bT hb)
/-- A text is put behind the others. -/
theorem Ou.pushT (I : Ou m M go ga gb la lb ps ts s st D Dt) {gs : Nat} {x : ByteArray} {K : Option Addr → Nat → Mem → Prop} (hx : M gs = some (.cells #[.string x] 9 (0, 0))) (hl : ts.length ≤ 2 ^ 30)
    (hK : ∀ (st' : Sl) (Dt' : List Nat) (M1 : Mem), (∀ b, b ∉ Dt' → M1 b = M b) → (∀ b o, M b = some o → b ∉ Dt → M1 b = some o) → M1 go = some (.cells #[vs s, vs st] 55 (0, 0)) →
      (∀ M' : Mem, M' go = some (.cells #[vs s, .slice st'.a (st.n + 1) st'.c] 55 (0, 0)) → (∀ b, b ≠ go → M' b = M1 b) → Ou m M' go ga gb la lb ps (ts ++ [x]) s st' D Dt') → K st'.a st'.c M1) :
    appR M st.a st.n st.c (some ⟨gs, 0, none⟩) 1 1 16 #[.string ByteArray.empty] 9 K := by
  have N := I.ne
  refine app_sl (α := ByteArray) (l := ts) (l2 := [x]) (D := Dt) rfl rfl (by decide) (by decide) (by decide) I.ot rfl (Rd.of_block (spare := []) hx (by rfl)) (by simp; omega) fun s' D' M1 hsn hO' hoff hfr hnd' => ?_
  have fr' : ∀ b ∈ D', b ∈ Dt ∨ M b = none := fun b hb => by
    rcases hfr with e | hfr
    · exact .inl (e ▸ hb)
    · exact .inr (hfr b hb)
  have live : ∀ b o, M b = some o → b ∉ Dt → b ∉ D' := fun b o ho hb h => by
    rcases fr' _ h with h | h
    · exact hb h
    · rw [ho] at h; cases h
  have no := live _ _ I.bo N.oT
  have na := live _ _ I.ba N.aT
  have nb := live _ _ I.bb N.bT
  have nD : ∀ b ∈ D, b ∉ D' := fun b hb => by
    obtain ⟨o, ho⟩ := dPrs.live I.o b hb
    exact live _ _ ho (N.DT b hb)
  have fm : ∀ b ∈ D', m b = none := fun b hb => by
    rcases fr' _ hb with h | h
    · exact I.fr b (by simp [h])
    · exact le_none I.le h
  refine hK s' D' M1 hoff (fun b o ho hb => by rw [hoff b (live b o ho hb)]; exact ho) (by rw [hoff _ no]; exact I.bo) fun M' hM' hne => ?_
  have hsn : s'.n = st.n + 1 := hsn
  rw [← hsn] at hM'
  refine ⟨le_other (le_off I.le fm hoff) (I.fr go (by simp)) hne, hM', ?_, ?_, ?_, ?_, ouNe.2 ⟨N.oa, N.ob, N.ab, N.oD, no, N.aD, na, N.bD, nb, N.dd, hnd', nD⟩, ?_⟩
  · rw [hne _ (Ne.symm N.oa), hoff _ na]; exact I.ba
  · rw [hne _ (Ne.symm N.ob), hoff _ nb]; exact I.bb
  · exact dPrs.own_ext I.o fun b hb => by rw [hne b (by rintro rfl; exact N.oD hb), hoff b (nD b hb)]
  · exact dTx.own_ext hO' fun b hb => hne b (by rintro rfl; exact no hb)
  · intro b hb
    simp only [List.mem_cons, List.mem_append] at hb
    rcases hb with rfl | rfl | rfl | hb | hb
    · exact I.fr _ (by simp)
    · exact I.fr _ (by simp)
    · exact I.fr _ (by simp)
    · exact I.fr _ (by simp [hb])
    · exact fm b hb
/-- A proto with memory of its own is put behind the others. -/
theorem Ou.pushP (I : Ou m M go ga gb la lb ps ts s st D Dt) {gs : Nat} {x : Pr} {h' : PH} {E : List Nat} {M0 : Mem} {K : Option Addr → Nat → Mem → Prop} (hx : M gs = some (.cells #[.int .i64 h'.1, .int .i64 h'.2.1, vs h'.2.2.1, vs h'.2.2.2] 38 (0, 0))) (hl : ps.length ≤ 2 ^ 30)
    (hE : dPr.Own M h' x E) (hEn : E.Nodup) (hfr : ∀ b ∈ E, m b = none ∧ b ∉ go :: ga :: gb :: (D ++ Dt))
    (hK : ∀ (s' : Sl) (D' : List Nat) (M1 : Mem), (∀ b, b ∉ D' → M1 b = M b) → (∀ b o, M b = some o → b ∉ D → b ∉ E → M1 b = some o) → M1 go = some (.cells #[vs s, vs st] 55 (0, 0)) →
      (∀ M' : Mem, M' go = some (.cells #[.slice s'.a (s.n + 1) s'.c, vs st] 55 (0, 0)) → (∀ b, b ≠ go → M' b = M1 b) → Ou m M' go ga gb la lb (ps ++ [x]) ts s' st D' Dt) → K s'.a s'.c M1) :
    appR M s.a s.n s.c (some ⟨gs, 0, none⟩) 1 4 64 #[.int .i64 0, .int .i64 0, .slice none 0 0, .slice none 0 0] 38 K := by
  have N := I.ne
  have hE' : ∀ b ∈ E, b ≠ go ∧ b ≠ ga ∧ b ≠ gb ∧ b ∉ D ∧ b ∉ Dt := fun b hb => by
    have := (hfr b hb).2
    simp only [List.mem_cons, List.mem_append, not_or] at this
    exact this
  refine dPr.list_push (D := D) (E := E) (x := x) (h' := h') rfl rfl (by decide) (by decide) (by decide) I.o N.dd hE hEn (fun b hb => (hE' b hb).2.2.2.1) hx (by omega) fun s' D' M1 hsn ho hnd hin hout hoff => ?_
  have live : ∀ b o, M b = some o → b ∉ D → b ∉ E → b ∉ D' := fun b o ho hb hbE h => by
    rcases hin _ h with h | h | h
    · exact hb h
    · exact hbE h
    · rw [ho] at h; cases h
  have no := live _ _ I.bo N.oD fun h => (hE' _ h).1 rfl
  have na := live _ _ I.ba N.aD fun h => (hE' _ h).2.1 rfl
  have nb := live _ _ I.bb N.bD fun h => (hE' _ h).2.2.1 rfl
  have nT : ∀ b ∈ Dt, b ∉ D' := fun b hb => by
    obtain ⟨o, ho⟩ := dTx.live I.ot b hb
    exact live _ _ ho (fun h => N.DT b h hb) fun h => (hE' _ h).2.2.2.2 hb
  have fm : ∀ b ∈ D', m b = none := fun b hb => by
    rcases hin _ hb with h | h | h
    · exact I.fr b (by simp [h])
    · exact (hfr b h).1
    · exact le_none I.le h
  refine hK s' D' M1 hoff (fun b o ho hb hbE => by rw [hoff b (live b o ho hb hbE)]; exact ho) (by rw [hoff _ no]; exact I.bo) fun M' hM' hne => ?_
  rw [← hsn] at hM'
  refine ⟨le_other (le_off I.le fm hoff) (I.fr go (by simp)) hne, hM', ?_, ?_, ?_, ?_, ouNe.2 ⟨N.oa, N.ob, N.ab, no, N.oT, na, N.aT, nb, N.bT, hnd, N.dt, fun b hb hb' => nT b hb' hb⟩, ?_⟩
  · rw [hne _ (Ne.symm N.oa), hoff _ na]; exact I.ba
  · rw [hne _ (Ne.symm N.ob), hoff _ nb]; exact I.bb
  · exact dPrs.own_ext ho fun b hb => hne b (by rintro rfl; exact no hb)
  · exact dTx.own_ext I.ot fun b hb => by rw [hne b (by rintro rfl; exact N.oT hb), hoff b (nT b hb)]
  · intro b hb
    simp only [List.mem_cons, List.mem_append] at hb
    rcases hb with rfl | rfl | rfl | hb | hb
    · exact I.fr _ (by simp)
    · exact I.fr _ (by simp)
    · exact I.fr _ (by simp)
    · exact fm b hb
    · exact I.fr _ (by simp [hb])
/-- One proto: its header, its code, and what it is to write into the code. -/
theorem Ou.code (I : Ou m M go ga gb la lb ps ts s st D Dt) {i : Nat} (hi : i < ps.length) : ∃ (hs : List PH) (Dc : List Nat), ∃ h1 : hs.length = ps.length, Rd M s.a hs ∧ OwnL M (hs[i]'(by omega)).2.2.2 ps[i].2.2.2 Dc ∧ (∀ b ∈ Dc, b ∈ D) ∧
    ∀ (M' : Mem) (lc' : List Ins), OwnL M' (hs[i]'(by omega)).2.2.2 lc' Dc → (∀ b, b ∉ Dc → M' b = M b) → Ou m M' go ga gb la lb (ps.set i (ps[i].1, ps[i].2.1, ps[i].2.2.1, lc')) ts s st D Dt ∧ Rd M' s.a hs := by
  have N := I.ne
  obtain ⟨hs, Es, D0, h1, h2, hD, h3, h4⟩ := I.o
  have hil : i < hs.length := by rw [h1]; exact hi
  have hie : i < Es.length := by rw [h2]; exact hi
  have hown := h4 i _ _ _ (List.getElem?_eq_getElem hil) (List.getElem?_eq_getElem hi) (List.getElem?_eq_getElem hie)
  obtain ⟨E1, E2, hE, ⟨hp, rfl⟩, E3, E4, hE2, ⟨hsl, rfl⟩, Du, Dc, hE4, hu, hc⟩ := hown
  have hEs : Es[i] = Du ++ Dc := by rw [hE, hE2, hE4]; rfl
  have hcD : ∀ b ∈ Dc, b ∈ D := fun b hb => by rw [hD]; exact List.mem_append.2 (.inr (List.mem_flatten.2 ⟨Es[i], List.getElem_mem hie, by rw [hEs]; simp [hb]⟩))
  refine ⟨hs, Dc, h1, h3.rd, hc, hcD, fun M' lc' ho hoff => ?_⟩
  have hDn : (D0 ++ Es.flatten).Nodup := hD ▸ N.dd
  have hn := List.nodup_append.1 hDn
  have c0 : ∀ b ∈ D0, b ∉ Dc := fun b hb hb' => hn.2.2 b hb b (List.mem_flatten.2 ⟨Es[i], List.getElem_mem hie, by rw [hEs]; simp [hb']⟩) rfl
  have hEn : (Du ++ Dc).Nodup := by
    have := (List.pairwise_flatten.1 hn.2.1).1 Es[i] (List.getElem_mem hie)
    rw [hEs] at this
    exact this
  have cu : ∀ b ∈ Du, b ∉ Dc := fun b hb hb' => (List.nodup_append.1 hEn).2.2 b hb b hb' rfl
  refine ⟨⟨?_, ?_, ?_, ?_, ?_, ?_, I.nd, I.fr⟩, (h3.ext fun b hb => hoff b (c0 b hb)).rd⟩
  · exact le_off I.le (fun b hb => I.fr b (by simp [hcD b hb])) hoff
  · rw [hoff _ fun h => N.oD (hcD _ h)]; exact I.bo
  · rw [hoff _ fun h => N.aD (hcD _ h)]; exact I.ba
  · rw [hoff _ fun h => N.bD (hcD _ h)]; exact I.bb
  · have := dPr.list_set (m := M) (m' := M') (s := s) (l := ps) (hs := hs) (Es := Es) (D0 := D0) (i := i) (x' := (ps[i].1, ps[i].2.1, ps[i].2.2.1, lc')) (h' := hs[i]) (A := Es[i]) h1 h2 hDn h4 (List.getElem?_eq_getElem hie) ?_ ?_ ?_
    · rw [hD]; exact this
    · rw [List.set_getElem_self]; exact h3.ext fun b hb => hoff b (c0 b hb)
    · rw [hE, hE2, hE4]
      exact ⟨[], _, rfl, ⟨hp, rfl⟩, [], _, rfl, ⟨hsl, rfl⟩, Du, Dc, rfl, OwnL.ext hu fun b hb => hoff b (cu b hb), ho⟩
    · intro b _ hb
      exact hoff b fun h => hb (by rw [hEs]; simp [h])
  · exact dTx.own_ext I.ot fun b hb => hoff b fun h => N.DT b (hcD _ h) hb
theorem OwnL.setE {α : Type} [Enc α] {M : Mem} {s : Sl} {l : List α} {D : List Nat} (h : OwnL M s l D) {j : Nat} (hj : j < l.length) (x : α) : ∃ ad : Addr, s.a = some ad ∧ ∀ K : Mem → Prop, (∀ M', OwnL M' s (l.set j x) D → (∀ b, b ∉ D → M' b = M b) → K M') → stoA M (ad.add (j * Enc.s α)) (Enc.e x) K := by
  obtain ⟨hn, ⟨_, _, hl, _⟩ | ⟨g, t, spare, ha, hD, hm, hsz⟩⟩ := h
  · rw [hl] at hj; simp at hj
  · refine ⟨_, ha, fun K hK => ?_⟩
    refine sto_elem hm (by rw [add_eq rfl, Nat.zero_add]) hj (hK _ ⟨by simpa using hn, .inr ⟨g, t, spare, ha, hD, upd_same _ _ _, by simpa using hsz⟩⟩ fun b hb => upd_ne fun e => hb (by rw [hD, e]; simp))
theorem OwnL.setI {M : Mem} {s : Sl} {l : List Ins} {D : List Nat} (h : OwnL M s l D) {j : Nat} (hj : j < l.length) (v : Int) : ∃ ad : Addr, s.a = some ad ∧ ∀ K : Mem → Prop, (∀ M', OwnL M' s (l.set j (l[j].1, v)) D → (∀ b, b ∉ D → M' b = M b) → K M') → stoA M ((ad.add (j * 2)).add 1) [.int .i64 v] K := by
  obtain ⟨hn, ⟨_, _, hl, _⟩ | ⟨g, t, spare, ha, hD, hm, hsz⟩⟩ := h
  · rw [hl] at hj; simp at hj
  · refine ⟨_, ha, fun K hK => ?_⟩
    refine sto1 (i := j) (j := 1) (x := (l[j].1, v)) hm (by rw [add_add, add_eq rfl, Nat.zero_add]; rfl) rfl hj (by decide) rfl (hK _ ⟨by simpa using hn, .inr ⟨g, t, spare, ha, hD, upd_same _ _ _, by simpa using hsz⟩⟩ fun b hb => upd_ne fun e => hb (by rw [hD, e]; simp))
end
end Go.Proofs.Ytcbjdodehjpddaa.Abs
/- Modules: small laws for the functions that lay what is used. No condition. -/
namespace Go.Proofs.Ytcbjdodehjpddaa.Abs
open Go.RowKit
set_option linter.unusedVariables false
set_option linter.unusedSimpArgs false

def e01 (l : List Bool) : List Int := l.map fun b => if b then 1 else 0
def numV (bl : List Bool) : List Int := (List.range bl.length).map fun k => if bl.getD k false then (rank bl k : Int) else 0
def mix (bl : List Bool) (i : Nat) : List Int := (numV bl).take i ++ (e01 bl).drop i
theorem e01_len (l : List Bool) : (e01 l).length = l.length := by simp [e01]
theorem numV_len (l : List Bool) : (numV l).length = l.length := by simp [numV]
theorem e01_set (l : List Bool) (i : Nat) : (e01 l).set i 1 = e01 (l.set i true) := by unfold e01; rw [List.map_set]; rfl
theorem e01_get {l : List Bool} {i : Nat} (h : i < (e01 l).length) : (e01 l)[i] = if l[i]'(by simpa [e01] using h) then 1 else 0 := by simp [e01]
theorem e01_rep (n : Nat) : e01 (List.replicate n false) = List.replicate n 0 := by simp [e01]
theorem mix_len (bl : List Bool) (i : Nat) (h : i ≤ bl.length) : (mix bl i).length = bl.length := by simp [mix, numV_len, e01_len]; omega
theorem mix_zero (bl : List Bool) : mix bl 0 = e01 bl := by simp [mix]
theorem mix_end (bl : List Bool) : mix bl bl.length = numV bl := by
  unfold mix
  rw [List.take_of_length_le (by rw [numV_len]; omega), List.drop_eq_nil_of_le (by rw [e01_len]; omega), List.append_nil]
theorem mix_get {bl : List Bool} {i : Nat} (h : i < bl.length) : (mix bl i)[i]? = some (if bl[i] then 1 else 0) := by
  unfold mix
  rw [List.getElem?_append_right (by rw [List.length_take, numV_len]; omega), List.length_take, numV_len, Nat.min_eq_left (by omega), Nat.sub_self, List.getElem?_drop, Nat.add_zero]
  rw [List.getElem?_eq_getElem (by rw [e01_len]; exact h), e01_get]
theorem numV_get {bl : List Bool} {i : Nat} (h : i < bl.length) : (numV bl)[i]? = some (if bl[i] then (rank bl i : Int) else 0) := by
  unfold numV
  rw [List.getElem?_map, List.getElem?_range h]
  simp [List.getD_eq_getElem?_getD, h]
theorem mix_step {bl : List Bool} {i : Nat} (h : i < bl.length) (v : Int) (hv : v = if bl[i] then (rank bl i : Int) else 0) : (mix bl i).set i v = mix bl (i + 1) := by
  unfold mix
  have h1 : (e01 bl).drop i = (e01 bl)[i]'(by rw [e01_len]; exact h) :: (e01 bl).drop (i + 1) := List.drop_eq_getElem_cons (by rw [e01_len]; exact h)
  have h2 : (numV bl).take (i + 1) = (numV bl).take i ++ [v] := by
    have hl : i < (numV bl).length := by rw [numV_len]; exact h
    rw [List.take_succ_eq_append_getElem hl]
    have := numV_get h
    rw [List.getElem?_eq_getElem hl] at this
    rw [Option.some.inj this, hv]
  rw [h1, h2, List.set_append_right _ _ (by rw [List.length_take, numV_len]; omega), List.length_take, numV_len, Nat.min_eq_left (by omega), Nat.sub_self, List.set_cons_zero]
  simp
theorem mix_same {bl : List Bool} {i : Nat} (h : i < bl.length) (hb : bl[i] = false) : mix bl (i + 1) = mix bl i := by
  rw [← mix_step h 0 (by rw [hb]; rfl)]
  apply List.ext_getElem?
  intro k
  by_cases e : i = k
  · subst e
    rw [List.getElem?_set_self (by rw [mix_len _ _ (by omega)]; exact h), mix_get h, hb]
    rfl
  · rw [List.getElem?_set_ne e]
/-- What is known is forgotten but for some blocks. -/
def hide (M : Mem) (D : List Nat) : Mem := fun b => if b ∈ D then none else M b
theorem hide_le (M : Mem) (D : List Nat) : Mem.le (hide M D) M := by
  intro b o h
  unfold hide at h
  split at h
  · cases h
  · exact h
theorem hide_none {M : Mem} {D : List Nat} {b : Nat} (h : b ∈ D) : hide M D b = none := by unfold hide; rw [if_pos h]
theorem hide_off {M : Mem} {D : List Nat} {b : Nat} (h : b ∉ D) : hide M D b = M b := by unfold hide; rw [if_neg h]
theorem le_hide {m M : Mem} {D : List Nat} (h : Mem.le m M) (hD : ∀ b ∈ D, m b = none) : Mem.le m (hide M D) := by
  intro b o e
  rw [hide_off (fun hb => by rw [hD b hb] at e; cases e)]
  exact h b o e
/-- M0 but for the blocks D, which are as in M. -/
def weld (M0 M : Mem) (D : List Nat) : Mem := fun b => if b ∈ D then M b else M0 b
theorem weld_in {M0 M : Mem} {D : List Nat} {b : Nat} (h : b ∈ D) : weld M0 M D b = M b := by unfold weld; rw [if_pos h]
theorem weld_off {M0 M : Mem} {D : List Nat} {b : Nat} (h : b ∉ D) : weld M0 M D b = M0 b := by unfold weld; rw [if_neg h]
theorem weld_le {M0 M : Mem} {D : List Nat} (h : ∀ b, b ∉ D → ∀ o, M0 b = some o → M b = some o) : Mem.le (weld M0 M D) M := by
  intro b o e
  by_cases hb : b ∈ D
  · rwa [weld_in hb] at e
  · rw [weld_off hb] at e; exact h b hb o e
theorem get_of {α : Type} {l : List α} {i : Nat} {x : α} (h : i < l.length) (e : l[i]? = some x) : l[i] = x := by
  rw [List.getElem?_eq_getElem h] at e
  exact Option.some.inj e
def psA (R : US) (P : List Pr) (i : Nat) : List Pr := (P.take i).map (unP R) ++ P.drop i
theorem psA_zero (R : US) (P : List Pr) : psA R P 0 = P := by simp [psA]
theorem psA_end (R : US) (P : List Pr) : psA R P P.length = P.map (unP R) := by simp [psA]
theorem psA_len (R : US) (P : List Pr) (i : Nat) (h : i ≤ P.length) : (psA R P i).length = P.length := by simp [psA]; omega
theorem psA_get (R : US) (P : List Pr) (i : Nat) (h : i < P.length) (h' : i < (psA R P i).length) : (psA R P i)[i] = P[i] := by
  refine get_of h' ?_
  unfold psA
  rw [List.getElem?_append_right (by simp; omega)]
  simp [Nat.min_eq_left (Nat.le_of_lt h), h]
theorem psA_step (R : US) (P : List Pr) (i : Nat) (h : i < P.length) : (psA R P i).set i (unP R P[i]) = psA R P (i + 1) := by
  unfold psA
  rw [List.drop_eq_getElem_cons h, List.set_append_right _ _ (by simp; omega), List.length_map, List.length_take, Nat.min_eq_left (by omega), Nat.sub_self, List.set_cons_zero, List.take_succ_eq_append_getElem h, List.map_append]
  simp only [List.map_cons, List.map_nil, List.append_assoc, List.cons_append, List.nil_append]
/-- A code of which the first j instructions are turned. -/
def part (R : US) (c : List Ins) (j : Nat) : List Ins := (c.take j).map (renU R) ++ c.drop j
theorem part_zero (R : US) (c : List Ins) : part R c 0 = c := by simp [part]
theorem part_end (R : US) (c : List Ins) : part R c c.length = c.map (renU R) := by simp [part]
theorem part_len (R : US) (c : List Ins) (j : Nat) (h : j ≤ c.length) : (part R c j).length = c.length := by simp [part]; omega
theorem part_get (R : US) (c : List Ins) (j : Nat) (h : j < c.length) (h' : j < (part R c j).length) : (part R c j)[j] = c[j] := by
  refine get_of h' ?_
  unfold part
  rw [List.getElem?_append_right (by simp; omega)]
  simp [Nat.min_eq_left (Nat.le_of_lt h), h]
theorem part_step (R : US) (c : List Ins) (j : Nat) (h : j < c.length) (x : Ins) (hx : x = renU R c[j]) : (part R c j).set j x = part R c (j + 1) := by
  subst hx
  unfold part
  rw [List.drop_eq_getElem_cons h, List.set_append_right _ _ (by simp; omega), List.length_map, List.length_take, Nat.min_eq_left (by omega), Nat.sub_self, List.set_cons_zero, List.take_succ_eq_append_getElem h, List.map_append]
  simp only [List.map_cons, List.map_nil, List.append_assoc, List.cons_append, List.nil_append]
theorem part_same (R : US) (c : List Ins) (j : Nat) (h : j < c.length) (hx : renU R c[j] = c[j]) : part R c (j + 1) = part R c j := by
  rw [← part_step R c j h _ rfl, hx]
  have hl : j < (part R c j).length := by rw [part_len _ _ _ (by omega)]; exact h
  have := part_get R c j h hl
  rw [← this, List.set_getElem_self]
end Go.Proofs.Ytcbjdodehjpddaa.Abs
