/- Arenas: ways: the program's closure that comes to a value. -/
import Derived.Test.YtjdcndicaeodbaaSo
namespace Go.Proofs.Ytjdcndicaeodbaa.Abs
open Go.RowKit
set_option linter.unusedVariables false
set_option linter.unusedSimpArgs false
set_option maxRecDepth 20000
/-- What stands in memory while the program goes over what can be reached: the rows of ways stand in a part that nobody changes. -/
structure StI (m0 lo M : Mem) (gd gq n : Nat) (tq : TypeId) (ls : Sl) (seen : List Int) (S : List Stp) (mB : Mem) (hs : List (Int × Sl)) (D : List Nat) : Prop where
  a : Mem.le m0 lo
  b : Mem.le lo mB
  c : Mem.le mB M
  d0 : mB gd = none
  q0 : mB gq = none
  dq : gd ≠ gq
  l : ∃ row, M gd = some (rowB row 4) ∧ RLed n row seen
  q : M gq = some (.cells #[vs ls] tq (0, 0))
  o : OwnL M ls hs D
  fr : ∀ b ∈ D, mB b = none
  nd : gd ∉ D
  nq : gq ∉ D
  n : hs.length = S.length
  h : ∀ (i : Nat) (h : Int × Sl) (e : Stp), hs[i]? = some h → S[i]? = some e → h.1 = e.p ∧ ∃ E, OwnL mB h.2 e.way E ∧ ∀ b ∈ E, m0 b = none
def StE (m0 lo M : Mem) (gd gq n : Nat) (tq : TypeId) (ls : Sl) (seen : List Int) (S : List Stp) : Prop := ∃ mB hs D, StI m0 lo M gd gq n tq ls seen S mB hs D
theorem StI.mono {m0 lo M M' mB : Mem} {gd gq n : Nat} {tq : TypeId} {ls : Sl} {seen : List Int} {S : List Stp} {hs : List (Int × Sl)} {D : List Nat} (h : StI m0 lo M gd gq n tq ls seen S mB hs D) (hl : Mem.le M M') : StI m0 lo M' gd gq n tq ls seen S mB hs D := by
  obtain ⟨row, k1, k2⟩ := h.l
  exact ⟨h.a, h.b, Mem.le_trans h.c hl, h.d0, h.q0, h.dq, ⟨row, hl _ _ k1, k2⟩, hl _ _ h.q, (Ds.rows (Int × Sl)).own_le hl h.o, h.fr, h.nd, h.nq, h.n, h.h⟩
theorem StI.mark {m0 lo M M' mB : Mem} {gd gq n : Nat} {tq : TypeId} {ls : Sl} {seen seen' : List Int} {S : List Stp} {hs : List (Int × Sl)} {D : List Nat} {row : List Bool} (h : StI m0 lo M gd gq n tq ls seen S mB hs D) (k : M' gd = some (rowB row 4)) (hr : RLed n row seen') (he : ∀ b, b ≠ gd → M' b = M b) : StI m0 lo M' gd gq n tq ls seen' S mB hs D :=
  ⟨h.a, h.b, le_put h.c h.d0 he, h.d0, h.q0, h.dq, ⟨row, k, hr⟩, (he _ h.dq.symm).trans h.q, h.o.ext fun b hb => he b fun e => h.nd (e ▸ hb), h.fr, h.nd, h.nq, h.n, h.h⟩
theorem StI.lo_le {m0 lo M mB : Mem} {gd gq n : Nat} {tq : TypeId} {ls : Sl} {seen : List Int} {S : List Stp} {hs : List (Int × Sl)} {D : List Nat} (h : StI m0 lo M gd gq n tq ls seen S mB hs D) : Mem.le lo M := Mem.le_trans h.b h.c
/-- One entry more in the queue. -/
theorem StI.push {m0 lo M Mx mB : Mem} {gd gq n : Nat} {tq : TypeId} {ls sw : Sl} {seen : List Int} {S : List Stp} {hs : List (Int × Sl)} {D Dw : List Nat} {x frm slot : Int} {way : List Int} {Q : Value → Mem → Prop} (h : StI m0 lo M gd gq n tq ls seen S mB hs D) (hl : S.length ≤ 2 ^ 30) (hle : Mem.le M Mx) (hO : OwnL Mx sw way Dw) (hfr : ∀ b ∈ Dw, M b = none)
    {P : Mem → Prop} (hP : ∀ q : Mem, Mem.le lo q → q gq = some (.cells #[vs ls] tq (0, 0)) → P q)
    (hQ : ∀ (M' : Mem) (ls' : Sl), StE m0 lo M' gd gq n tq ls' seen (S ++ [⟨x, frm, slot, way⟩]) → ret Q (.tuple #[]) M') :
    newA Mx (.cells #[.int .i64 x, .slice sw.a sw.n sw.c] 78 (0, 0)) fun g m46 => P m46 ∧ appR m46 ls.a ls.n ls.c (some ⟨g, 0, none⟩) 1 2 32 #[.int .i64 0, .slice none 0 0] 78 fun ra rc m49 => P m49 ∧ stoA m49 ⟨gq, 0, none⟩ [.slice ra (ls.n + 1) rc] fun m50 => ret Q (.tuple #[]) m50 := by
  refine newA_intro fun g m46 hg e hb hle2 => ?_
  have l46 := Mem.le_trans hle hle2
  have T46 := h.mono l46
  refine ⟨hP _ T46.lo_le T46.q, ?_⟩
  refine app_sl (α := Int × Sl) (l := hs) (l2 := [(x, sw)]) (D := D) rfl rfl (by decide) (by decide) (by decide) T46.o rfl (Rd.of_block (spare := []) hb (by rfl)) (by rw [h.n]; omega) fun ls' D' m49 hsn hO' hoff hfr' hnd' => ?_
  have frame : ∀ b o, b ∉ D → m46 b = some o → m49 b = some o := fun b o hb ho => by
    have : b ∉ D' := by
      rcases hfr' with rfl | hfr'
      · exact hb
      · exact fun hb' => by rw [hfr' b hb'] at ho; cases ho
    rw [hoff b this]; exact ho
  have hgdD' : gd ∉ D' := by
    obtain ⟨row, k1, _⟩ := T46.l
    rcases hfr' with rfl | hfr'
    · exact h.nd
    · exact fun hb' => by rw [hfr' _ hb'] at k1; cases k1
  have hgqD' : gq ∉ D' := by
    have k1 := T46.q
    rcases hfr' with rfl | hfr'
    · exact h.nq
    · exact fun hb' => by rw [hfr' _ hb'] at k1; cases k1
  have q49 : m49 gq = _ := frame _ _ h.nq T46.q
  have lo49 : Mem.le lo m49 := fun b o hb => frame b o (fun hbD => by have := h.b _ _ hb; rw [h.fr b hbD] at this; cases this) (T46.lo_le _ _ hb)
  refine ⟨hP _ lo49 q49, sto (c := #[vs ls]) (t := tq) q49 rfl (by simp) fun m50 e50 h50 hne50 => hQ m50 ls' ?_⟩
  have hsn : ls'.n = ls.n + 1 := hsn
  have h50 : m50 gq = some (.cells #[vs ls'] tq (0, 0)) := by rw [h50, ← hsn]; rfl
  obtain ⟨mB', hmB⟩ : ∃ mB' : Mem, mB' = fun b => if b = gd ∨ b = gq ∨ b ∈ D then none else m46 b := ⟨_, rfl⟩
  have q1 : ∀ b, b = gd ∨ b = gq ∨ b ∈ D → mB' b = none := fun b hb => by rw [hmB]; exact if_pos hb
  have q2 : ∀ b, ¬ (b = gd ∨ b = gq ∨ b ∈ D) → mB' b = m46 b := fun b hb => by rw [hmB]; exact if_neg hb
  clear hmB
  have lBB : Mem.le mB mB' := fun b o hb => by
    have : ¬ (b = gd ∨ b = gq ∨ b ∈ D) := by
      rintro (c | c | c)
      · rw [c, h.d0] at hb; cases hb
      · rw [c, h.q0] at hb; cases hb
      · rw [h.fr b c] at hb; cases hb
    rw [q2 b this]; exact T46.c _ _ hb
  have lB50 : Mem.le mB' m50 := fun b o hb => by
    by_cases c : b = gd ∨ b = gq ∨ b ∈ D
    · rw [q1 b c] at hb; cases hb
    · rw [q2 b c] at hb
      have c1 : b ≠ gq := fun e => c (.inr (.inl e))
      rw [hne50 b c1]
      exact frame b o (fun hb' => c (.inr (.inr hb'))) hb
  have hDw : ∀ b ∈ Dw, ¬ (b = gd ∨ b = gq ∨ b ∈ D) := fun b hb => by
    rintro (c | c | c)
    · obtain ⟨row, k1, _⟩ := h.l
      have := hfr b hb
      rw [c, k1] at this; cases this
    · have := hfr b hb
      rw [c, h.q] at this; cases this
    · obtain ⟨o, ho⟩ := h.o.live b c
      rw [hfr b hb] at ho; cases ho
  have hOB : OwnL mB' sw way Dw := ((Ds.rows Int).own_le hle2 hO : OwnL m46 sw way Dw).ext fun b hb => q2 b (hDw b hb)
  obtain ⟨row, k1, k2⟩ := T46.l
  refine ⟨mB', hs ++ [(x, sw)], D', ⟨h.a, Mem.le_trans h.b lBB, lB50, q1 gd (.inl rfl), q1 gq (.inr (.inl rfl)), h.dq, ⟨row, (hne50 gd h.dq).trans (frame _ _ h.nd k1), k2⟩, h50, hO'.ext fun b hb => hne50 b fun e => hgqD' (e ▸ hb), ?_, hgdD', hgqD', ?_, ?_⟩⟩
  · intro b hb
    rcases hfr' with e' | hfr'
    · exact q1 b (.inr (.inr (e' ▸ hb)))
    · by_cases c : b = gd ∨ b = gq ∨ b ∈ D
      · exact q1 b c
      · rw [q2 b c]; exact hfr' b hb
  · rw [List.length_append, List.length_append, h.n]; rfl
  · intro i y e hi he
    rcases Nat.lt_or_ge i S.length with c | c
    · rw [List.getElem?_append_left (by rw [h.n]; exact c)] at hi
      rw [List.getElem?_append_left c] at he
      obtain ⟨h1, E, h2, h3⟩ := h.h i y e hi he
      exact ⟨h1, E, (Ds.rows Int).own_le lBB h2, h3⟩
    · have ei : i = S.length := by
        have := (List.getElem?_eq_some_iff.1 he).1
        rw [List.length_append] at this
        have : i < S.length + 1 := this
        omega
      subst ei
      rw [List.getElem?_append_right (by rw [h.n]; exact Nat.le_refl _), h.n, Nat.sub_self] at hi
      rw [List.getElem?_append_right (Nat.le_refl _), Nat.sub_self] at he
      cases hi
      cases he
      exact ⟨rfl, Dw, hOB, fun b hb => le_none (Mem.le_trans h.a h.lo_le) (hfr b hb)⟩
/-- A row of one's own grows by what is read. -/
theorem app_rd {m M : Mem} {s : Sl} {l l2 : List Int} {D : List Nat} {src : Option Addr} {k : Nat} {K : Option Addr → Nat → Mem → Prop} (hle : Mem.le m M) (hO : OwnL M s l D) (hD : ∀ b ∈ D, m b = none) (hk : l2.length = k) (hx : Rd M src l2) (hl : l.length + k ≤ 2 ^ 40)
    (hK : ∀ (s' : Sl) (M' : Mem) (D' : List Nat), s'.n = s.n + k → Mem.le m M' → OwnL M' s' (l ++ l2) D' → (∀ b ∈ D', m b = none) → K s'.a s'.c M') :
    appR M s.a s.n s.c src k 1 8 #[.int .i64 0] 3 K := by
  refine app_sl (α := Int) (l := l) (l2 := l2) (D := D) rfl rfl (by decide) (by decide) (by decide) hO hk hx hl fun s' D' M' hsn hO' hoff hfr hnd' => ?_
  have hD' : ∀ b ∈ D', m b = none := by
    rcases hfr with rfl | hfr
    · exact hD
    · exact fun b hb' => le_none hle (hfr b hb')
  exact hK s' M' D' hsn (le_off hle hD' hoff) hO' hD'
def s45 : Spec := fun args m Q => ∃ (s r w ls : Sl) (a : Ar) (mk : List Int) (v : Vl) (frm slot : Int) (way : List Int) (g g36 gd gq : Nat) (ty tq : TypeId) (m0 lo : Mem) (seen : List Int) (S : List Stp), args = [vVl v, vs w, .int .i64 slot, .pointer (some ⟨g, 0, none⟩), .pointer (some ⟨g36, 0, none⟩), .pointer (some ⟨gq, 0, none⟩)] ∧
  a.wf ∧ NumP a ∧ Ptr lo g s r a ∧ ArAt lo s r a ∧ lo g36 = some (.cells #[.slice (some ⟨gd, 0, none⟩) a.ws.length a.ws.length] ty (0, 0)) ∧ VOk a mk v ∧ StE m0 lo m gd gq a.ws.length tq ls seen S ∧ S.length ≤ 2 ^ 30 ∧ Rd lo w.a way ∧ w.n = way.length ∧ way.length ≤ 2 ^ 30 ∧
  ∀ (M' : Mem) (ls' : Sl), StE m0 lo M' gd gq a.ws.length tq ls' (come a.ws (seen, S) v frm slot way).1 (come a.ws (seen, S) v frm slot way).2 → Q (.tuple #[]) M'
theorem f45 (t : Tab) (h46 : look t 46 = s46) (h47 : look t 47 = s47) : ∀ args m Q, s45 args m Q → FA Try.prog (look t) kp45 Try.f45 args m Q := by
  rintro args m Q ⟨s, r, w, ls, a, mk, v, frm, slot, way, g, g36, gd, gq, ty, tq, m0, lo, seen, S, rfl, hw, hN, hP, hA, hbs, hv, hE, hSl, hwR, hwn, hwl, hQ⟩
  show FA Try.prog (look t) kp45 Try.f45 [.agg #[.int .i64 v.1, .int .i64 v.2], .slice w.a w.n w.c, .int .i64 slot, .pointer (some ⟨g, 0, none⟩), .pointer (some ⟨g36, 0, none⟩), .pointer (some ⟨gq, 0, none⟩)] m Q
  rw [e45]
  obtain ⟨mB, hs, D, hT⟩ := hE
  refine newA_intro fun g1 m2 hg1 e2 hb1 hle2 => ⟨_, cell_of hb1 0, _, cell_of hb1 1, via h46 ⟨v, rfl, _, rfl, ?_⟩⟩
  have T2 := hT.mono hle2
  have l2 := T2.lo_le
  unfold Abs.come at hQ
  cases hr : isRefB v with
  | false =>
    rw [if_pos (by decide)]
    rw [hr, if_neg (fun h => by cases h.1)] at hQ
    exact ret_intro (Mem.le_refl _) (hQ m2 ls ⟨mB, hs, D, T2⟩)
  | true =>
  rw [if_neg (by decide)]
  obtain ⟨r1, r2, r3, r4, r5, r6⟩ := hv.r hr
  refine ⟨_, cell_of hb1 0, _, cell_of hb1 1, via h47 ⟨g, s, r, a, v, rfl, l2 _ _ hP, hA.le l2, hN.sm, hw, _, rfl, ?_⟩⟩
  rw [r6]
  obtain ⟨row, k1, k2⟩ := T2.l
  refine ⟨_, _, _, cell_of (l2 _ _ hbs) 0, rl (Rd.of_block (spare := []) k1 (by simp)) k2.1 r3 r4 fun ad had hd => ⟨_, hd _ (Mem.le_refl _), ?_⟩⟩
  have hbi := k2.2 _ r3 r4
  by_cases c : whereW a.ws v.2 ∈ seen
  · rw [hbi.2 c, if_neg (by decide)]
    rw [if_neg (fun h => h.2 c)] at hQ
    exact ret_intro (Mem.le_refl _) (hQ m2 ls ⟨mB, hs, D, T2⟩)
  have hf : row.getD (whereW a.ws v.2).toNat false = false := by
    cases e : row.getD (whereW a.ws v.2).toNat false with
    | true => exact absurd (hbi.1 e) c
    | false => rfl
  rw [hf, if_pos (by decide)]
  rw [if_pos ⟨hr, c⟩] at hQ
  refine ⟨_, _, _, cell_of (l2 _ _ hbs) 0, set_led k1 r3 (by have := k2.1; omega) k2.1 fun M4 k4 e4 => ?_⟩
  have T4 := T2.mark k4 (k2.put r3 r4) e4
  have hwR4 : ∀ q, Mem.le M4 q → Rd q w.a way := fun q hq => hwR.le (Mem.le_trans T4.lo_le hq)
  refine ⟨fun q => Mem.le lo q ∧ q gq = some (.cells #[vs ls] tq (0, 0)), ⟨T4.lo_le, T4.q⟩, ls.a, ls.n, ls.c, fun q hq => cell_of hq.2 0, ?_⟩
  have hS30 : ∀ q, Mem.le M4 q → (Mem.le lo q ∧ q gq = some (.cells #[vs ls] tq (0, 0))) := fun q hq => ⟨Mem.le_trans T4.lo_le hq, hq _ _ T4.q⟩
  have fin : ∀ (sw : Sl) (Mx : Mem) (Dw : List Nat), Mem.le M4 Mx → OwnL Mx sw (way ++ [slot]) Dw → (∀ b ∈ Dw, M4 b = none) → newA Mx (.cells #[.int .i64 (whereW a.ws v.2), .slice sw.a sw.n sw.c] 78 (0, 0)) fun g m46 => (Mem.le lo m46 ∧ m46 gq = some (.cells #[vs ls] tq (0, 0))) ∧ appR m46 ls.a ls.n ls.c (some ⟨g, 0, none⟩) 1 2 32 #[.int .i64 0, .slice none 0 0] 78 fun ra rc m49 => (Mem.le lo m49 ∧ m49 gq = some (.cells #[vs ls] tq (0, 0))) ∧ stoA m49 ⟨gq, 0, none⟩ [.slice ra (ls.n + 1) rc] fun m50 => ret Q (.tuple #[]) m50 := by
    intro sw Mx Dw h1 h2 h3
    exact T4.push (x := whereW a.ws v.2) (frm := frm) (slot := slot) hSl h1 h2 h3 (P := fun q => Mem.le lo q ∧ q gq = some (.cells #[vs ls] tq (0, 0))) (fun q p1 p2 => ⟨p1, p2⟩) fun M' ls' hE => ret_intro (Mem.le_refl _) (hQ M' ls' hE)
  have nil_ : ∀ (gz : Nat) (mz : Mem), mz gz = some (.cells #[] 3 (0, 0)) → OwnL mz ⟨some ⟨gz, 0, none⟩, 0, 0⟩ ([] : List Int) [gz] := fun gz mz hz => ⟨rfl, .inr ⟨gz, 3, [], rfl, rfl, hz, rfl⟩⟩
  have one_ : ∀ (gz : Nat) (mz : Mem), mz gz = some (.cells #[.int .i64 slot] 3 (0, 0)) → Rd mz (some ⟨gz, 0, none⟩) [slot] := fun gz mz hz => Rd.of_block (spare := []) hz (by rfl)
  have sing : ∀ (gz : Nat) (mz : Mem), mz gz = none → ∀ b ∈ [gz], mz b = none := fun gz mz hz b hb => by rw [List.mem_singleton] at hb; rw [hb]; exact hz
  constructor
  · refine newA_intro fun g5 m5 hg5 e5 hb5 hle5 => ⟨hS30 _ hle5, ?_, ?_⟩
    · refine app_rd (s := ⟨some ⟨g5, 0, none⟩, 0, 0⟩) hle5 (nil_ g5 m5 hb5) (sing g5 M4 hg5) hwn.symm (hwR4 _ hle5) (by show 0 + w.n ≤ _; omega) fun s1 M1 D1 hsn1 hle1 hO1 hD1 => ⟨hS30 _ hle1, newA_intro fun g6 m6 hg6 e6 hb6 hle6 => ?_⟩
      have l6 := Mem.le_trans hle1 hle6
      refine ⟨hS30 _ l6, ?_⟩
      have hsn1 : s1.n = 0 + w.n := hsn1
      rw [← hsn1]
      refine app_rd l6 ((Ds.rows Int).own_le hle6 hO1) hD1 rfl (one_ g6 m6 hb6) (by show way.length + 1 ≤ _; omega) fun s2 M2 D2 hsn2 hle2' hO2 hD2 => ⟨hS30 _ hle2', ?_⟩
      rw [← hsn2]
      exact fin s2 M2 D2 hle2' hO2 hD2
    · refine newA_intro fun g6 m6 hg6 e6 hb6 hle6 => ?_
      have l6 := Mem.le_trans hle5 hle6
      have n56 : g5 ≠ g6 := fun e => by rw [← e, hb5] at hg6; cases hg6
      obtain ⟨mm, hmm⟩ : ∃ mm : Mem, mm = fun b => if b = g5 then none else m6 b := ⟨_, rfl⟩
      have z1 : mm g5 = none := by rw [hmm]; exact if_pos rfl
      have z2 : ∀ b, b ≠ g5 → mm b = m6 b := fun b hb => by rw [hmm]; exact if_neg hb
      clear hmm
      have lm6 : Mem.le mm m6 := fun b o hb => by
        by_cases e : b = g5
        · rw [e, z1] at hb; cases hb
        · rw [← z2 b e]; exact hb
      have l4m : Mem.le M4 mm := fun b o hb => by
        have : b ≠ g5 := fun e => by rw [e, hg5] at hb; cases hb
        rw [z2 b this]; exact l6 _ _ hb
      refine ⟨hS30 _ l6, app_rd (m := mm) (s := ⟨some ⟨g5, 0, none⟩, 0, 0⟩) lm6 (nil_ g5 m6 (hle6 _ _ hb5)) (sing g5 mm z1) hwn.symm (hwR4 _ l6) (by show 0 + w.n ≤ _; omega) fun s1 M1 D1 hsn1 hle1 hO1 hD1 => ⟨hS30 _ (Mem.le_trans l4m hle1), ?_⟩⟩
      have hsn1 : s1.n = 0 + w.n := hsn1
      rw [← hsn1]
      refine app_rd (m := M4) (Mem.le_trans l4m hle1) hO1 (fun b hb => le_none l4m (hD1 b hb)) rfl (one_ g6 M1 (hle1 _ _ ((z2 g6 n56.symm).trans hb6))) (by show way.length + 1 ≤ _; omega) fun s2 M2 D2 hsn2 hle2' hO2 hD2 => ⟨hS30 _ hle2', ?_⟩
      rw [← hsn2]
      exact fin s2 M2 D2 hle2' hO2 hD2
  · refine newA_intro fun g6 m6 hg6 e6 hb6 hle6 => ⟨hS30 _ hle6, newA_intro fun g5 m5 hg5 e5 hb5 hle5 => ?_⟩
    have l5 := Mem.le_trans hle6 hle5
    refine ⟨hS30 _ l5, app_rd (m := m6) (s := ⟨some ⟨g5, 0, none⟩, 0, 0⟩) hle5 (nil_ g5 m5 hb5) (sing g5 m6 hg5) hwn.symm (hwR4 _ l5) (by show 0 + w.n ≤ _; omega) fun s1 M1 D1 hsn1 hle1 hO1 hD1 => ⟨hS30 _ (Mem.le_trans hle6 hle1), ?_⟩⟩
    have hsn1 : s1.n = 0 + w.n := hsn1
    rw [← hsn1]
    refine app_rd (m := M4) (Mem.le_trans hle6 hle1) hO1 (fun b hb => le_none hle6 (hD1 b hb)) rfl (one_ g6 M1 (hle1 _ _ hb6)) (by show way.length + 1 ≤ _; omega) fun s2 M2 D2 hsn2 hle2' hO2 hD2 => ⟨hS30 _ hle2', ?_⟩
    rw [← hsn2]
    exact fin s2 M2 D2 hle2' hO2 hD2
end Go.Proofs.Ytjdcndicaeodbaa.Abs
