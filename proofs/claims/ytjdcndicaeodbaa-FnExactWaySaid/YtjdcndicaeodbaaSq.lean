/- Arenas: ways: the program's function. -/
import Derived.Test.YtjdcndicaeodbaaSp
namespace Go.Proofs.Ytjdcndicaeodbaa.Abs
open Go.RowKit
set_option linter.unusedVariables false
set_option linter.unusedSimpArgs false
set_option maxRecDepth 20000
theorem StE.weak {m0 lo lo' M : Mem} {gd gq n : Nat} {tq : TypeId} {ls : Sl} {seen : List Int} {S : List Stp} (h : StE m0 lo' M gd gq n tq ls seen S) (h1 : Mem.le m0 lo) (h2 : Mem.le lo lo') : StE m0 lo M gd gq n tq ls seen S := by
  obtain ⟨mB, hs, D, hT⟩ := h
  exact ⟨mB, hs, D, ⟨h1, Mem.le_trans h2 hT.b, hT.c, hT.d0, hT.q0, hT.dq, hT.l, hT.q, hT.o, hT.fr, hT.nd, hT.nq, hT.n, hT.h⟩⟩
/-- The part that nobody changes may be all but what is changed. -/
theorem StI.base {m0 lo M mB : Mem} {gd gq n : Nat} {tq : TypeId} {ls : Sl} {seen : List Int} {S : List Stp} {hs : List (Int × Sl)} {D : List Nat} (h : StI m0 lo M gd gq n tq ls seen S mB hs D) :
    ∃ lo' : Mem, Mem.le mB lo' ∧ Mem.le lo' M ∧ (∀ b, b ≠ gd → b ≠ gq → b ∉ D → lo' b = M b) ∧ StE m0 lo' M gd gq n tq ls seen S := by
  obtain ⟨lo', hm⟩ : ∃ lo' : Mem, lo' = fun b => if b = gd ∨ b = gq ∨ b ∈ D then none else M b := ⟨_, rfl⟩
  have q1 : ∀ b, b = gd ∨ b = gq ∨ b ∈ D → lo' b = none := fun b hb => by rw [hm]; exact if_pos hb
  have q2 : ∀ b, ¬ (b = gd ∨ b = gq ∨ b ∈ D) → lo' b = M b := fun b hb => by rw [hm]; exact if_neg hb
  clear hm
  have l1 : Mem.le mB lo' := fun b o hb => by
    have : ¬ (b = gd ∨ b = gq ∨ b ∈ D) := by
      rintro (c | c | c)
      · rw [c, h.d0] at hb; cases hb
      · rw [c, h.q0] at hb; cases hb
      · rw [h.fr b c] at hb; cases hb
    rw [q2 b this]; exact h.c _ _ hb
  have l2 : Mem.le lo' M := fun b o hb => by
    by_cases c : b = gd ∨ b = gq ∨ b ∈ D
    · rw [q1 b c] at hb; cases hb
    · rw [← q2 b c]; exact hb
  refine ⟨lo', l1, l2, fun b h1 h2 h3 => q2 b (by rintro (c | c | c); exact h1 c; exact h2 c; exact h3 c), lo', hs, D, ⟨Mem.le_trans h.a (Mem.le_trans h.b l1), Mem.le_refl _, l2, q1 gd (.inl rfl), q1 gq (.inr (.inl rfl)), h.dq, h.l, h.q, h.o, fun b hb => q1 b (.inr (.inr hb)), h.nd, h.nq, h.n, fun i x e hi he => ?_⟩⟩
  obtain ⟨z1, E, z2, z3⟩ := h.h i x e hi he
  exact ⟨z1, E, (Ds.rows Int).own_le l1 z2, z3⟩
theorem slotsI_loop (t : Tab) (h45 : look t 45 = s45) (h49 : look t 49 = s49) {Q : Value → Mem → Prop} {s r sl w : Sl} {a : Ar} {mk : List Int} {m0 lo : Mem} {g g36 gd gq g81 nf iN : Nat} {ty tq tw : TypeId} {ser p : Int} {way : List Int} (hw : a.wf) (hk : OkM a mk) (hP : Ptr lo g s r a) (hA0 : ArAt lo s r a) (hbs : lo g36 = some (.cells #[.slice (some ⟨gd, 0, none⟩) a.ws.length a.ws.length] ty (0, 0)))
    (hbt : lo g81 = some (.cells #[.int .i64 p, .slice w.a w.n w.c] tw (0, 0))) (hwR : Rd lo w.a way) (hwn : w.n = way.length) (hwl : way.length ≤ 2 ^ 30)
    (hsn : sl.n = slotN a.ws p) (hsR : Rd lo sl.a (slotsL (kdW a.ws p) (szW a.ws p))) (p0 : 0 ≤ p) (p1 : p < a.ws.length) (hp : hdM mk p) {st1 : List Int × List Stp}
    (hQ : ∀ (ls' : Sl) (M' : Mem), StE m0 lo M' gd gq a.ws.length tq ls' st1.1 st1.2 → L22_12 (look t) nf Q ser g gq g g36 gq (IntKind.i64.wrap ((iN : Int) + 1)) M') :
    ∀ (d k : Nat) (st : List Int × List Stp) (ls : Sl) (M : Mem), k + d = slotN a.ws p → comeS a.ws p (iN : Int) way d k st = st1 → BI a mk st → (∃ e, st.2[iN]? = some e ∧ e.p = p ∧ e.way = way) → StE m0 lo M gd gq a.ws.length tq ls st.1 st.2 →
      L22_19 (look t) nf (d + 1) Q ser g gq g g36 gq (iN : Int) g81 sl.a sl.n sl.c (sl.n : Int) (k : Int) M := by
  have hN := hw.n
  have hsl : slotN a.ws p = (slotsL (kdW a.ws p) (szW a.ws p)).length := rfl
  have hT0 := tile_ok hw hk.N hk.t
  have bp := look_b hw p
  have hsb : slotN a.ws p ≤ 65536 := by
    unfold slotN slotsL
    rw [everyK_len]
    have hH := hT0.head p0 (by have := hT0.n; omega) hp
    obtain ⟨e1, e2, e3, e4⟩ := hH.look hw
    have := kinds e2
    unfold numK fromK
    unfold kdW at *
    unfold szW at *
    rcases this with h | h | h | h | h | h <;> rw [h] <;> simp <;> omega
  intro d
  induction d with
  | zero =>
    intro k st ls M hkd hc hI he hT
    rw [l22_19]
    refine ⟨M, Mem.le_refl _, ?_⟩
    rw [if_neg (by simp; omega)]
    have hc : st = st1 := hc
    subst hc
    exact hQ ls M hT
  | succ d ih =>
    intro k st ls M hkd hc hI he hT
    obtain ⟨e, he, hep, hew⟩ := he
    unfold comeS at hc
    have hkl : k < slotN a.ws p := by omega
    obtain ⟨hv, x1, x2, x3⟩ := slot_vok hw hk p0 p1 hp hkl
    have hf : frmOk st.2 (iN : Int) way := .inr ⟨iN, e, rfl, he, hew.symm⟩
    have hI2 := hI.come (slot := (k : Int)) hv hf
    have hlo : Mem.le lo M := by obtain ⟨mB, hs, D, hT⟩ := hT; exact hT.lo_le
    rw [l22_19]
    refine ⟨M, Mem.le_refl _, ?_⟩
    rw [if_pos (by simp; omega)]
    refine li (hsR.le hlo) (by omega) (by omega) (by omega) fun ad' had' hd' => ⟨_, hd' _ (Mem.le_refl _), ?_⟩
    have eg : gi (slotsL (kdW a.ws p) (szW a.ws p)) (k : Int) = slotAt a.ws p k := rfl
    rw [eg]
    refine ⟨Mem.le lo, hlo, _, held (cell_of hbt 0), _, _, _, held (cell_of hbt 1), ?_⟩
    rw [w64 (x := p + slotAt a.ws p k) (by omega) (by omega)]
    refine via h49 ⟨g, s, r, a, _, rfl, ⟨hlo _ _ hP, hA0.le hlo, hw, by omega, by omega⟩, by omega, _, _, rfl, hlo, via h45 ⟨s, r, w, ls, a, mk, _, (iN : Int), (k : Int), way, g, g36, gd, gq, ty, tq, m0, lo, st.1, st.2, rfl, hw, hk.N, hP, hA0, hbs, hv, hT, by have := hI.len; omega, hwR, hwn, hwl, fun M' ls' hE => ⟨rfl, ?_, ?_⟩⟩⟩
    · obtain ⟨mB, hs, D, hT'⟩ := hE; exact hT'.lo_le
    · rw [wsucc (n := 65536) (by omega) (by decide)]
      exact ih (k + 1) _ ls' M' (by omega) (by rw [← hc]; rfl) hI2 ⟨e, pre_get (come_pre ..) he, hep, hew⟩ hE
theorem queue_loop (t : Tab) (h45 : look t 45 = s45) (h49 : look t 49 = s49) (h36 : look t 36 = s36) (h48 : look t 48 = s48) {Q : Value → Mem → Prop} {s r : Sl} {a : Ar} {mk : List Int} {m0 lo : Mem} {g g36 gd gq : Nat} {ty tq : TypeId} {ser : Int} {Sf : List Stp} (hw : a.wf) (hk : OkM a mk) (hm0 : Mem.le m0 lo) (hP : Ptr lo g s r a) (hA0 : ArAt lo s r a) (hbs : lo g36 = some (.cells #[.slice (some ⟨gd, 0, none⟩) a.ws.length a.ws.length] ty (0, 0)))
    (hQ : ∀ (s' : Sl) (M' : Mem) (D' : List Nat), Mem.le m0 M' → OwnL M' s' (wayOf (Sf.find? (serIs a.ws ser))).1 D' → (∀ b ∈ D', m0 b = none) → ret Q (.tuple #[vs s', .bool (wayOf (Sf.find? (serIs a.ws ser))).2]) M') :
    ∀ (f i : Nat) (st : List Int × List Stp) (ls : Sl) (M : Mem), a.ws.length ≤ f + i → bfs a.ws f i st = Sf → BI a mk st → (Sf.drop i).find? (serIs a.ws ser) = Sf.find? (serIs a.ws ser) → StE m0 lo M gd gq a.ws.length tq ls st.1 st.2 →
      L22_12 (look t) (f + 1) Q ser g gq g g36 gq (i : Int) M := by
  have hN := hw.n
  have hT0 := tile_ok hw hk.N hk.t
  have endc : ∀ (f i : Nat) (st : List Int × List Stp) (ls : Sl) (M : Mem), st.2.length ≤ i → st.2 = Sf → (Sf.drop i).find? (serIs a.ws ser) = Sf.find? (serIs a.ws ser) → StE m0 lo M gd gq a.ws.length tq ls st.1 st.2 → L22_12 (look t) (f + 1) Q ser g gq g g36 gq (i : Int) M := by
    intro f i st ls M hi hB hfd hT
    obtain ⟨mB, hs, D, hT⟩ := hT
    have hn := hT.o.1
    have hhn := hT.n
    rw [l22_12]
    refine ⟨M, Mem.le_refl _, _, _, _, cell_of hT.q 0, ?_⟩
    rw [if_neg (by simp; omega)]
    rw [List.drop_eq_nil_of_le (by rw [← hB]; omega)] at hfd
    rw [← hfd] at hQ
    exact hQ ⟨none, 0, 0⟩ M [] (Mem.le_trans hT.a hT.lo_le) ⟨rfl, .inl ⟨rfl, rfl, rfl, rfl⟩⟩ fun b hb => by cases hb
  intro f
  induction f with
  | zero =>
    intro i st ls M hf hB hI hfd hT
    exact endc 0 i st ls M (by have := hI.len; omega) hB hfd hT
  | succ f ih =>
    intro i st ls M hf hB hI hfd hT
    have hl := hI.len
    cases hse : st.2[i]? with
    | none =>
      unfold bfs at hB
      rw [hse] at hB
      exact endc (f + 1) i st ls M (List.getElem?_eq_none_iff.1 hse) hB hfd hT
    | some e =>
    have hpre := bfs_pre a.ws (f + 1) i st
    rw [hB] at hpre
    have hSe : Sf[i]? = some e := pre_get hpre hse
    have hSl := (List.getElem?_eq_some_iff.1 hSe).1
    have hSi : Sf[i] = e := (List.getElem?_eq_some_iff.1 hSe).2
    rw [List.drop_eq_getElem_cons hSl, hSi, List.find?_cons] at hfd
    unfold bfs at hB
    rw [hse] at hB
    have hB : bfs a.ws f (i + 1) (comeS a.ws e.p (i : Int) e.way (slotN a.ws e.p) 0 st) = Sf := hB
    have hlt := (List.getElem?_eq_some_iff.1 hse).1
    obtain ⟨e0, e1, ehd⟩ := hI.hd e (List.mem_of_getElem? hse)
    have hH := hT0.head e0 (by have := hT0.n; omega) ehd
    obtain ⟨_, he2, _, _⟩ := hH.look hw
    have bp := look_b hw e.p
    obtain ⟨mB, hs, D, hT⟩ := hT
    have hn := hT.o.1
    have hhn := hT.n
    have hhl : i < hs.length := by omega
    obtain ⟨h, hh⟩ : ∃ h, h = hs[i] := ⟨_, rfl⟩
    have hhs : hs[i]? = some h := by rw [List.getElem?_eq_getElem hhl, hh]
    obtain ⟨z1, E, z2, z3⟩ := hT.h i h e hhs hse
    have hwl := way_len hI.wy i e hse
    have hlo := hT.lo_le
    rw [l22_12]
    refine ⟨M, Mem.le_refl _, _, _, _, cell_of hT.q 0, ?_⟩
    rw [if_pos (by simp; omega)]
    refine ⟨_, _, _, cell_of hT.q 0, idx' (i := (i : Int)) hT.o.rd hn.symm (by omega) (by omega) fun ad had hd => ?_⟩
    have hd : ∀ (j : Nat) (x : Value), (Enc.e h)[j]? = some x → M.cell? ((ad.add (Int.toNat (i : Int) * 2)).add j) = some x := by rw [hh]; exact hd
    refine ⟨_, hd 0 (.int .i64 h.1) rfl, _, _, _, hd 1 (.slice h.2.a h.2.n h.2.c) rfl, newA_intro fun g1 m1 hg1 q1 hb1 hle1 => sto (c := #[.int .i64 0, .slice none 0 0]) (t := 78) hb1 rfl (by simp) fun m3 q3 h3 hne3 => ?_⟩
    have h3 : m3 g1 = some (.cells #[.int .i64 h.1, .slice h.2.a h.2.n h.2.c] 78 (0, 0)) := h3
    have l3 : Mem.le M m3 := le_other hle1 hg1 hne3
    rw [z1] at h3
    refine ⟨_, cell_of h3 0, via h36 ⟨g, s, r, a, e.p, rfl, ⟨(Mem.le_trans hlo l3) _ _ hP, hA0.le (Mem.le_trans hlo l3), hw, e0, e1⟩, _, _, _, rfl, newA_intro fun g4 m4 hg4 q4 hb4 hle4 => sto (c := #[.int .i64 0, .int .i64 0, .int .i64 0]) (t := 54) hb4 rfl (by simp) fun m6 q6 h6 hne6 => ?_⟩⟩
    have h6 : m6 g4 = some (.cells #[.int .i64 (kdW a.ws e.p), .int .i64 (szW a.ws e.p), .int .i64 (serW a.ws e.p)] 54 (0, 0)) := h6
    have l36 : Mem.le m3 m6 := le_other hle4 hg4 hne6
    have l6 : Mem.le M m6 := Mem.le_trans l3 l36
    have hbw := l36 _ _ h3
    refine ⟨_, cell_of h6 2, ?_⟩
    by_cases c : serW a.ws e.p = ser
    · rw [if_pos (by simpa using c)]
      have hp : serIs a.ws ser e = true := by unfold serIs; rw [decide_eq_true c]
      rw [hp] at hfd
      have hfd : some e = Sf.find? (serIs a.ws ser) := hfd
      rw [← hfd] at hQ
      exact ⟨_, _, _, cell_of hbw 1, hQ h.2 m6 E (Mem.le_trans hT.a (Mem.le_trans hlo l6)) ((Ds.rows Int).own_le (Mem.le_trans hT.c l6) z2) z3⟩
    · rw [if_neg (by simpa using c)]
      have hp : serIs a.ws ser e = false := by unfold serIs; rw [decide_eq_false c]
      rw [hp] at hfd
      refine ⟨_, cell_of h6 0, _, cell_of h6 1, via h48 ⟨_, _, rfl, bp.1, bp.2.1, he2, fun sl M2 D2 hle2 hO2 hD2 => ⟨_, _, _, rfl, slotN a.ws e.p + 1, ?_⟩⟩⟩
      have T6 := hT.mono l6
      have T2 := T6.mono hle2
      obtain ⟨lo', b1, b2, b3, b4⟩ := T2.base
      have ll : Mem.le lo lo' := Mem.le_trans hT.b b1
      have hg1k : g1 ≠ gd ∧ g1 ≠ gq ∧ g1 ∉ D := by
        refine ⟨fun e => ?_, fun e => ?_, fun e => ?_⟩
        · obtain ⟨row, k1, _⟩ := hT.l; rw [e, k1] at hg1; cases hg1
        · rw [e, hT.q] at hg1; cases hg1
        · obtain ⟨o, ho⟩ := hT.o.live _ e; rw [hg1] at ho; cases ho
      have hbt : lo' g1 = some (.cells #[.int .i64 e.p, .slice h.2.a h.2.n h.2.c] 78 (0, 0)) := (b3 g1 hg1k.1 hg1k.2.1 hg1k.2.2).trans (hle2 _ _ hbw)
      have hO1 : OwnL lo' sl (slotsL (kdW a.ws e.p) (szW a.ws e.p)) D2 := hO2.ext fun b hb => by
        refine b3 b (fun e => ?_) (fun e => ?_) (fun e => ?_)
        · obtain ⟨row, k1, _⟩ := T6.l
          have := hD2 b hb; rw [e, k1] at this; cases this
        · have := hD2 b hb; rw [e, T6.q] at this; cases this
        · obtain ⟨o, ho⟩ := T6.o.live b e
          rw [hD2 b hb] at ho; cases ho
      have hwrow : OwnL lo' h.2 e.way E := (Ds.rows Int).own_le b1 z2
      refine slotsI_loop t h45 h49 (m0 := m0) (lo := lo') (w := h.2) (p := e.p) (way := e.way) (st1 := comeS a.ws e.p (i : Int) e.way (slotN a.ws e.p) 0 st) hw hk (ll _ _ hP) (hA0.le ll) (ll _ _ hbs) hbt hwrow.rd hwrow.1 (by omega) hO1.1 hO1.rd e0 e1 ehd (fun ls' M' hE => ?_) (slotN a.ws e.p) 0 st ls M2 (by omega) rfl hI ⟨e, hse, rfl, rfl⟩ b4
      rw [wsucc (n := 2 ^ 21) (by omega) (by decide)]
      exact ih (i + 1) _ ls' M' (by omega) hB (BI.comeS hw hk e0 e1 ehd _ 0 st (by omega) hI (.inr ⟨i, e, rfl, hse, rfl⟩)) hfd (hE.weak hm0 ll)
theorem rootsI_loop (t : Tab) (h45 : look t 45 = s45) {Q : Value → Mem → Prop} {s r : Sl} {a : Ar} {mk : List Int} {m0 lo : Mem} {g g36 gd gq : Nat} {ty tq : TypeId} {ser : Int} {st1 : List Int × List Stp} (hw : a.wf) (hk : OkM a mk) (hP : Ptr lo g s r a) (hA0 : ArAt lo s r a) (hbs : lo g36 = some (.cells #[.slice (some ⟨gd, 0, none⟩) a.ws.length a.ws.length] ty (0, 0)))
    (hQ : ∀ (ls' : Sl) (M' : Mem), StE m0 lo M' gd gq a.ws.length tq ls' st1.1 st1.2 → ∃ k, L22_12 (look t) k Q ser g gq g g36 gq 0 M') :
    ∀ (d i : Nat) (st : List Int × List Stp) (ls : Sl) (M : Mem), i + d = a.rs.length → comeR a ((allR a).drop i) st = st1 → BI a mk st → StE m0 lo M gd gq a.ws.length tq ls st.1 st.2 →
      L22_7 (look t) (d + 1) Q ser g gq g g36 gq r.a r.n r.c (r.n : Int) (i : Int) M := by
  have hkn := hA0.k
  have hR := hw.r
  have hN := hw.n
  have hal := allR_len a
  intro d
  induction d with
  | zero =>
    intro i st ls M hi hB hI hT
    rw [l22_7]
    refine ⟨M, Mem.le_refl _, ?_⟩
    rw [if_neg (by simp; omega)]
    rw [List.drop_eq_nil_of_le (by omega)] at hB
    have hB : st = st1 := hB
    subst hB
    exact hQ ls M hT
  | succ d ih =>
    intro i st ls M hi hB hI hT
    have hlt : i < (allR a).length := by omega
    have e : (allR a)[i] = (i : Int) := by simp [allR]
    rw [List.drop_eq_getElem_cons hlt, e] at hB
    unfold comeR at hB
    have hxl : i < a.rs.length := by omega
    obtain ⟨v, hvd⟩ : ∃ v, v = a.rs[i] := ⟨_, rfl⟩
    have egd : a.rs.getD (i : Int).toNat (0, 0) = v := by rw [Int.toNat_natCast, List.getD_eq_getElem?_getD, List.getElem?_eq_getElem hxl, hvd]; rfl
    rw [egd] at hB
    obtain ⟨hv, hwv⟩ := root_vok hw hk (v := v) (by rw [hvd]; exact List.getElem_mem _)
    have hI2 := hI.come (frm := -1) (slot := (i : Int)) (way := []) hv (.inl ⟨rfl, rfl⟩)
    have hlo : Mem.le lo M := by obtain ⟨mB, hs, D, hT⟩ := hT; exact hT.lo_le
    rw [l22_7]
    refine ⟨M, Mem.le_refl _, ?_⟩
    rw [if_pos (by simp; omega), wsucc (n := 2 ^ 20) (by omega) (by decide)]
    refine idx' (i := (i : Int)) (hA0.r.le hlo) hkn (by omega) (by omega) fun ad had hd => ?_
    have hd : ∀ (j : Nat) (x : Value), (Enc.e v)[j]? = some x → M.cell? ((ad.add (Int.toNat (i : Int) * 2)).add j) = some x := by rw [hvd]; exact hd
    refine ⟨_, hd 0 (.int .i64 v.1) rfl, _, hd 1 (.int .i64 v.2) rfl, newA_intro fun g1 m1 hg1 q1 hb1 hle1 => sto (c := #[.int .i64 0, .int .i64 0]) (t := 74) hb1 rfl (by simp) fun m3 q3 h3 hne3 => ?_⟩
    have h3 : m3 g1 = some (.cells #[.int .i64 v.1, .int .i64 v.2] 74 (0, 0)) := h3
    have l3 : Mem.le M m3 := le_other hle1 hg1 hne3
    have T3 : StE m0 lo m3 gd gq a.ws.length tq ls st.1 st.2 := by obtain ⟨mB, hs, D, hT⟩ := hT; exact ⟨mB, hs, D, hT.mono l3⟩
    refine ⟨_, cell_of h3 0, _, cell_of h3 1, via h45 ⟨s, r, ⟨none, 0, 0⟩, ls, a, mk, v, -1, (i : Int), [], g, g36, gd, gq, ty, tq, m0, lo, st.1, st.2, rfl, hw, hk.N, hP, hA0, hbs, hv, T3, by have := hI.len; omega, rfl, rfl, by decide, fun M' ls' hE => ⟨rfl, ?_⟩⟩⟩
    exact ih (i + 1) _ ls' M' (by omega) hB hI2 hE
def s22 : Spec := s21
theorem f22 (t : Tab) (h34 : look t 34 = s34) (h45 : look t 45 = s45) (h49 : look t 49 = s49) (h36 : look t 36 = s36) (h48 : look t 48 = s48) : ∀ args m Q, s22 args m Q → FA Try.prog (look t) kp22 Try.f22 args m Q := by
  rintro args m Q ⟨s, r, a, ser, rfl, hA, hw, hQ⟩
  show FA Try.prog (look t) kp22 Try.f22 [.agg #[.slice s.a s.n s.c, .int .i64 a.semi, .int .i64 a.to, .int .i64 a.top, .bool a.cyc, .int .i64 a.scan, .int .i64 a.old, .int .i64 a.cop, .int .i64 a.ser, .slice r.a r.n r.c], .int .i64 ser] m Q
  rw [e22]
  have hn := hA.n
  have hN := hw.n
  refine newA_intro fun g m2 hg1 e2 hb1 hle2 => ⟨_, _, _, cell_of hb1 0, _, cell_of hb1 1, _, cell_of hb1 2, _, cell_of hb1 3, _, cell_of hb1 4, _, cell_of hb1 5, _, cell_of hb1 6, _, cell_of hb1 7, _, cell_of hb1 8, _, _, _, cell_of hb1 9, via h34 ⟨s, r, a, rfl, hA.le hle2, hw, _, rfl, ?_⟩⟩
  have none_ : ¬ (okP a ∧ 1 ≤ ser) → ret Q (.tuple #[.slice none 0 0, .bool false]) m2 := fun h => by
    have e : wayR a ser = ([], false) := by unfold wayR; rw [if_neg h]
    rw [e] at hQ
    exact ret_intro (Mem.le_refl _) (hQ ⟨none, 0, 0⟩ m2 [] hle2 ⟨rfl, .inl ⟨rfl, rfl, rfl, rfl⟩⟩ fun b hb => by cases hb)
  by_cases hk : okP a
  case neg => rw [pB_no hk, if_pos (by decide)]; exact none_ fun h => hk h.1
  rw [pB_yes hk, if_neg (by decide)]
  by_cases hs : 1 ≤ ser
  case neg => rw [if_pos (by simp; omega)]; exact none_ fun h => hs h.2
  rw [if_neg (by simp; omega)]
  have e : wayR a ser = wayOf ((reachL a (allR a)).find? (serIs a.ws ser)) := by unfold wayR; rw [if_pos ⟨hk, hs⟩]
  rw [e] at hQ
  obtain ⟨mk, hk⟩ := hk
  refine ⟨_, _, _, cell_of hb1 0, ?_⟩
  rw [← hn]
  refine ⟨by omega, Int.le_refl _, by omega, by omega, newA_intro fun gd m3 hgd q3 hb3 hle3 => newA_intro fun g36 m4 hg36 q4 hb4 hle4 => sto (c := #[.slice none 0 0]) (t := 71) hb4 rfl (by simp) fun m5 q5 h5 hne5 => newA_intro fun g39 m6 hg39 q6 hb6 hle6 => newA_intro fun gq m7 hgq q7 hb7 hle7 => sto (c := #[.slice none 0 0]) (t := 72) hb7 rfl (by simp) fun m8 q8 h8 hne8 => ?_⟩
  have hb3 : m3 gd = some (rowB (List.replicate a.ws.length false) 4) := by
    rw [hb3]
    unfold rowB
    rw [List.append_nil, ← zeroRow_eq]
    rfl
  have h5 : m5 g36 = some (.cells #[.slice (some ⟨gd, 0, none⟩) a.ws.length a.ws.length] 71 (0, 0)) := h5
  have h8 : m8 gq = some (.cells #[vs ⟨some ⟨g39, 0, none⟩, 0, 0⟩] 72 (0, 0)) := h8
  have l5 : Mem.le m3 m5 := le_other hle4 hg36 hne5
  have l8 : Mem.le m6 m8 := le_other hle7 hgq hne8
  have l58 : Mem.le m5 m8 := Mem.le_trans hle6 l8
  have l38 : Mem.le m3 m8 := Mem.le_trans l5 l58
  have d1 : gd ≠ g36 := fun e => by rw [← e, hb3] at hg36; cases hg36
  have d2 : gd ≠ g39 := fun e => by rw [← e, l5 _ _ hb3] at hg39; cases hg39
  have d3 : gd ≠ gq := fun e => by rw [← e, hle6 _ _ (l5 _ _ hb3)] at hgq; cases hgq
  have d4 : g36 ≠ g39 := fun e => by rw [← e, h5] at hg39; cases hg39
  have d5 : g36 ≠ gq := fun e => by rw [← e, hle6 _ _ h5] at hgq; cases hgq
  have d6 : g39 ≠ gq := fun e => by rw [← e, hb6] at hgq; cases hgq
  obtain ⟨lo, hlo⟩ : ∃ lo : Mem, lo = fun b => if b = gd ∨ b = gq ∨ b = g39 then none else m8 b := ⟨_, rfl⟩
  have z1 : ∀ b, b = gd ∨ b = gq ∨ b = g39 → lo b = none := fun b hb => by rw [hlo]; exact if_pos hb
  have z2 : ∀ b, ¬ (b = gd ∨ b = gq ∨ b = g39) → lo b = m8 b := fun b hb => by rw [hlo]; exact if_neg hb
  clear hlo
  have lM : Mem.le lo m8 := fun b o hb => by
    by_cases c : b = gd ∨ b = gq ∨ b = g39
    · rw [z1 b c] at hb; cases hb
    · rw [← z2 b c]; exact hb
  have l2lo : Mem.le m2 lo := fun b o hb => by
    have : ¬ (b = gd ∨ b = gq ∨ b = g39) := by
      rintro (c | c | c)
      · rw [c, hgd] at hb; cases hb
      · have := (Mem.le_trans (Mem.le_trans hle3 l5) hle6) _ _ hb; rw [c, hgq] at this; cases this
      · have := (Mem.le_trans hle3 l5) _ _ hb; rw [c, hg39] at this; cases this
    rw [z2 b this]; exact l38 _ _ (hle3 _ _ hb)
  have hbs : lo g36 = _ := (z2 g36 (by rintro (c | c | c); exact d1 c.symm; exact d5 c; exact d4 c)).trans (l58 _ _ h5)
  have hE : StE m2 lo m8 gd gq a.ws.length 72 ⟨some ⟨g39, 0, none⟩, 0, 0⟩ [] [] := by
    refine ⟨lo, [], [g39], ⟨l2lo, Mem.le_refl _, lM, z1 gd (.inl rfl), z1 gq (.inr (.inl rfl)), d3, ⟨_, l38 _ _ hb3, rled0 _⟩, h8, ⟨rfl, .inr ⟨g39, 78, [], rfl, rfl, by rw [l8 _ _ hb6]; rfl, rfl⟩⟩, fun b hb => by rw [List.mem_singleton] at hb; rw [hb]; exact z1 g39 (.inr (.inr rfl)), by rw [List.mem_singleton]; exact d2, by rw [List.mem_singleton]; exact d6.symm, rfl, fun i h e hi he => by simp at he⟩⟩
  refine ⟨_, _, _, cell_of ((Mem.le_trans hle3 l38) _ _ hb1) 9, a.rs.length + 1, ?_⟩
  refine rootsI_loop t h45 (m0 := m2) (lo := lo) (st1 := comeR a (allR a) ([], [])) hw hk (l2lo _ _ hb1) (hA.le (Mem.le_trans hle2 l2lo)) hbs (fun ls' M' hE' => ⟨a.ws.length + 2, ?_⟩) a.rs.length 0 ([], []) ⟨some ⟨g39, 0, none⟩, 0, 0⟩ m8 (by omega) rfl (BI.nil a mk) hE
  exact queue_loop t h45 h49 h36 h48 (Sf := reachL a (allR a)) hw hk l2lo (l2lo _ _ hb1) (hA.le (Mem.le_trans hle2 l2lo)) hbs (fun s' M2 D' q1 q2 q3 => ret_intro (Mem.le_refl _) (hQ s' M2 D' (Mem.le_trans hle2 q1) q2 fun b hb => le_none hle2 (q3 b hb))) (a.ws.length + 1) 0 _ ls' M' (by omega) rfl (BI.comeR hw hk _ _ (allR_in a) (BI.nil a mk)) rfl hE'
end Go.Proofs.Ytjdcndicaeodbaa.Abs
