-- Printed by a turned copy of the print (wip/gen/patchprint.py), with contracts given by hand.
import Derived.Test.YtcbjdodehjpddaaPFnExactStripx0
import Derived.Test.YtcbjdodehjpddaaPFnExactStripx5
import Derived.Test.YtcbjdodehjpddaaPFnExactStripx6
namespace Go.Proofs.Ytcbjdodehjpddaa.PFnExactStrip
open Go.RowKit Go.Proofs.YtcbjdodehjpddaaW.PrintWords Go.Proofs.YtcbjdodehjpddaaW.PrintLast Go.Proofs.YtcbjdodehjpddaaW.PrintMore
attribute [local go_sem] max2_int min2_int max_two min_two max_three min_three max_four min_four   -- for this text's walks alone
set_option linter.unusedVariables false
set_option linter.unusedSimpArgs false

/-! ### impl_Strip: function 30 -/
-- rounds making --INFO 3 --INFO 4 --INFO 73 (the hand walk of impl.Strip)
def comeM (s : List Bool) (q : List Int) (p : Int) : List Bool × List Int := if p < s.length then if s.getD p.toNat false = true then (s, q) else (s.set p.toNat true, q ++ [p]) else (s, q)
def ComePost (p : Int) (g4 g5 : Nat) (s : List Bool) (q : List Int) (a4 : Option Addr) (c4 : Nat) (O4 O5 : Nat → Prop) (w0 w : World) (e : Ending) (w' : World) : Prop :=
  e = .returned (.tuple #[]) ∧ ∃ a5' c5', w'.heap[g4]? = some (.cells #[.slice a4 s.length c4] 87 (0, 0)) ∧
      w'.heap[g5]? = some (.cells #[.slice a5' (comeM s q p).2.length c5'] 44 (0, 0)) ∧ Kd.R Kd.bool 4 w' w0.heap.size O4 (.slice a4 s.length c4) (comeM s q p).1 ∧ Kd.R (Kd.int .i64) 3 w' w0.heap.size (fun k => O5 k ∨ w.heap.size ≤ k) (.slice a5' (comeM s q p).2.length c5') (comeM s q p).2 ∧
      Below w0.heap.size w0 w' ∧ Kept w w' (fun k => k = g5 ∨ O4 k ∨ O5 k)
theorem come_same {p : Int} {g4 g5 : Nat} {s : List Bool} {q : List Int} {a4 a5 : Option Addr} {c4 c5 : Nat} {O4 O5 : Nat → Prop} {w0 w : World} (hm : comeM s q p = (s, q))
    (hB : Below w0.heap.size w0 w) (h4 : w.heap[g4]? = some (.cells #[.slice a4 s.length c4] 87 (0, 0))) (h5 : w.heap[g5]? = some (.cells #[.slice a5 q.length c5] 44 (0, 0)))
    (hs : Kd.R Kd.bool 4 w w0.heap.size O4 (.slice a4 s.length c4) s) (hr : Kd.R (Kd.int .i64) 3 w w0.heap.size O5 (.slice a5 q.length c5) q) : ComePost p g4 g5 s q a4 c4 O4 O5 w0 w (.returned (.tuple #[])) w := by
  unfold ComePost
  rw [hm]
  exact ⟨rfl, a5, c5, h4, h5, hs, Kd.R_mono hr (fun _ h => .inl h), hB, Kept.refl _ _⟩
set_option maxHeartbeats 800000 in
set_option maxRecDepth 100000 in
theorem come (p : Int) (g4 g5 : Nat) (s : List Bool) (q : List Int) (a4 a5 : Option Addr) (c4 c5 : Nat) (O4 O5 : Nat → Prop) (w0 w : World) (h0 : 0 ≤ p) (hn : s.length ≤ 4000) (hq : q.length ≤ 4000)
    (hB : Below w0.heap.size w0 w) (h4 : w.heap[g4]? = some (.cells #[.slice a4 s.length c4] 87 (0, 0))) (h5 : w.heap[g5]? = some (.cells #[.slice a5 q.length c5] 44 (0, 0)))
    (hs : Kd.R Kd.bool 4 w w0.heap.size O4 (.slice a4 s.length c4) s) (hr : Kd.R (Kd.int .i64) 3 w w0.heap.size O5 (.slice a5 q.length c5) q) (n4 : ∀ k, O4 k → k ≠ g4 ∧ k ≠ g5 ∧ ¬ O5 k) (n5 : ∀ k, O5 k → k ≠ g4 ∧ k ≠ g5) (ne : g4 ≠ g5) (b5 : w0.heap.size ≤ g5) :
    Calls Try.prog 66 #[.int .i64 p, .pointer (some ⟨g4, 0, none⟩), .pointer (some ⟨g5, 0, none⟩)] w (ComePost p g4 g5 s q a4 c4 O4 O5 w0 w) := by
  have hu87 := Try.underlying87
  have hu44 := Try.underlying44
  have cc4 := blk_cell h4 0
  have cc5 := blk_cell h5 0
  have cf5 := blk_frozen h5 0
  have HR := Go.Lib.hid hr
  have HS := Go.Lib.hid hs
  have H4 := Go.Lib.hid h4
  have H5 := Go.Lib.hid h5
  have HB := Go.Lib.hid hB
  clear hr hs h4 h5 hB
  simp at cc4 cc5
  by_cases hl : p < s.length
  · have hcell := Kd.R_reads' HS.out
    obtain ⟨ad, rfl, hc⟩ := Kd.at_bool hcell.2.2 p h0 hl
    clear hcell
    by_cases hb : s.getD p.toNat false = true
    · rw [show rdOf false s p = true from hb] at hc
      have HM := Go.Lib.hid (show comeM s q p = (s, q) by unfold comeM; rw [if_pos hl, if_pos hb])
      clear hb
      go_enter Try.func66, Try.ntmps66
      go_wp2_with fail
      go_end0
      exact come_same HM.out HB.out H4.out H5.out HS.out HR.out
    · obtain ⟨g, cap, ev, hbg, hgl, _⟩ := Kd.R_form HS.out (by omega)
      injection ev with e1 e2 e3
      injection e1 with e1
      subst e1
      subst e3
      have hput := Kd.R_cell false HS.out p h0 hl
      rw [show rdOf false s p = false from by simpa [rdOf] using hb] at hc hput
      have HM := Go.Lib.hid (show comeM s q p = (s.set p.toNat true, q ++ [p]) by unfold comeM; rw [if_pos hl, if_neg hb])
      clear hb
      have hcf := hput.2
      clear hput
      simp only [add_plain] at hc
      have hO := n4 g (HS.out.1 g rfl)
      have g1 : ¬ g = g4 := hO.1
      have g2 : ¬ g4 = g := fun e => hO.1 e.symm
      have g3 : ¬ g = g5 := hO.2.1
      have g4' : ¬ g5 = g := fun e => hO.2.1 e.symm
      have HP := Go.Lib.hid (Kd.R_put HS.out p true)
      have HW := Go.Lib.hid (show w0.heap.size ≤ w.heap.size from HB.out.size)
      have HG := Go.Lib.hid hgl
      have HN4 := Go.Lib.hid n4
      have HN5 := Go.Lib.hid n5
      have HB5 := Go.Lib.hid b5
      clear n4 n5 b5 hbg hgl hO
      go_enter Try.func66, Try.ntmps66
      go_wp2_with (at_builtin; (refine Kd.R_append (Kd.int .i64) (w0 := w0) w0.heap.size rfl (.tmp 18) (.tmp 20) 44 3 (.int .i64 0) 8 rfl Try.underlying44 info3 rfl (by decide) (by omega) (.slice a5 q.length c5) q p [.int .i64 p] (fun k => O5 k ∨ w.heap.size ≤ k) (fun _ => False) rfl ?aX ?aP (fun _ hk => hk.elim) ?aF ?aO ?aB ?aS ?aL ?_; (case aX => first | rfl | (go_simp; done)); (case aP => exact rfl); (case aF => exact fun k hk => .inr (by simpa using hk)); (case aO => exact Kd.R_mono (Kd.R_far (p := ⟨g, p.toNat, none⟩) HR.out (fun k hk e => by have e : k = g := e; exact (HN4.out g (HS.out.1 g rfl)).2.2 (by rw [← e]; exact hk)) _) (fun _ h => .inl h)); (case aB => exact HB.out.setCell (by first | exact (Kd.R_base HS.out g rfl) | omega) _); (case aS => simpa using HW.out); (case aL => omega); intro v1 w1 hown hb1 hg1 hat; obtain ⟨a5', c5', rfl⟩ := Kd.R_slice hown; have B5 := blk_grown (blk_far H5.out (p := ⟨g, p.toNat, none⟩) g4' (.bool true)) hg1 (Kd.R_away HR.out (fun k hk => (HN5.out k hk).2)); have cc6 := blk_cell B5 0; have cf6 := blk_frozen B5 0; simp at cc6; have E5 := Go.Lib.hid B5; clear B5; have E1 := Go.Lib.hid hown; have E2 := Go.Lib.hid hb1; have E3 := Go.Lib.hid hg1; have E4 := Go.Lib.hid hat; clear hown hb1 hg1 hat))
      go_end0
      have hne4 : some g4 ≠ (Value.slice a5 q.length c5).ownBlock := Kd.R_away HR.out (fun k hk => (HN5.out k hk).1)
      have hneg : some g ≠ (Value.slice a5 q.length c5).ownBlock := fun e => (HN4.out g (HS.out.1 g rfl)).2.2 (HR.out.1 g e.symm)
      refine ⟨rfl, a5', c5', ?_, ?_, ?_, ?_, ?_, ?_⟩
      · exact blk_far (blk_grown (blk_far H4.out (p := ⟨g, p.toNat, none⟩) g2 (.bool true)) E3.out hne4) (p := ⟨g5, 0, none⟩) ne _
      · rw [HM.out]
        simpa using blk_set E5.out 0 (.slice a5' (q ++ [p]).length c5')
      · rw [HM.out]
        exact Kd.R_far (Kd.R_grown HP.out.1 E3.out (fun k hk e => (HN4.out k hk).2.2 (HR.out.1 k e.symm))) (p := ⟨g5, 0, none⟩) (fun k hk => (HN4.out k hk).2.1) _
      · rw [HM.out]
        refine Kd.R_far E1.out (p := ⟨g5, 0, none⟩) (fun k hk => ?_) _
        rcases hk with hk | hk
        · exact (HN5.out k hk).2
        · have := blk_lt H5.out
          intro e
          have e : k = g5 := e
          omega
      · exact E2.out.setCell HB5.out _
      · exact (Kept.of_grown E3.out ((Kept.refl w _).setCell (p := ⟨g, p.toNat, none⟩) (.inl (.inr (.inl (HS.out.1 g rfl)))) _) (fun k hk => .inl (.inr (.inr (HR.out.1 k hk))))).setCell (p := ⟨g5, 0, none⟩) (.inl (.inl rfl)) _
  · have HM := Go.Lib.hid (show comeM s q p = (s, q) by unfold comeM; rw [if_neg hl])
    go_enter Try.func66, Try.ntmps66
    go_wp2_with fail
    go_end0
    exact come_same HM.out HB.out H4.out H5.out HS.out HR.out

def Typ (w : World) (t : Nat) (k : Nat) : Prop := ∃ cells, w.heap[k]? = some (.cells cells t (0, 0))
theorem typ_ne {w : World} {t t' k k' : Nat} (h : Typ w t k) (h' : Typ w t' k') (hne : t ≠ t') : k ≠ k' := by
  rintro rfl
  obtain ⟨c, hc⟩ := h
  obtain ⟨c', hc'⟩ := h'
  rw [hc] at hc'
  injection hc' with e
  injection e with _ e _
  exact hne e
theorem R_typ {α : Type} {enc : α → Value} {h1 : ∀ x, (enc x).oneCell' = true} {e : Nat} {w : World} {base : Nat} {ok : Nat → Prop} {v : Value} {xs : List α} (h : (Kd.scalar enc h1).R e w base ok v xs) : (Kd.scalar enc h1).R e w base (Typ w e) v xs :=
  Kd.R_mono (Kd.R_bound h) (fun k hk => by
    obtain ⟨_, _, _, q, hq, c, hc⟩ := hk
    have : q = e := by
      have hq' : q ∈ [e] := hq
      simpa using hq'
    subst this
    exact ⟨c, hc⟩)
/-- The closure, its rows told apart by their types. -/
def ComePost' (p : Int) (g4 g5 n : Nat) (s : List Bool) (q : List Int) (a4 : Option Addr) (c4 : Nat) (w0 w : World) (e : Ending) (w' : World) : Prop :=
  e = .returned (.tuple #[]) ∧ ∃ a5' c5', w'.heap[g4]? = some (.cells #[.slice a4 n c4] 87 (0, 0)) ∧
      w'.heap[g5]? = some (.cells #[.slice a5' (comeM s q p).2.length c5'] 44 (0, 0)) ∧ Kd.R Kd.bool 4 w' w0.heap.size (fun _ => True) (.slice a4 n c4) (comeM s q p).1 ∧ Kd.R (Kd.int .i64) 3 w' w0.heap.size (fun _ => True) (.slice a5' (comeM s q p).2.length c5') (comeM s q p).2 ∧
      Below w0.heap.size w0 w' ∧ Kept w w' (fun k => k = g5 ∨ Typ w 4 k ∨ Typ w 3 k)
theorem come' (p : Int) (g4 g5 n m : Nat) (s : List Bool) (q : List Int) (a4 a5 : Option Addr) (c4 c5 : Nat) (w0 w : World) (h0 : 0 ≤ p) (es : s.length = n) (eq : q.length = m) (hn : n ≤ 4000) (hq : m ≤ 4000)
    (hB : Below w0.heap.size w0 w) (h4 : w.heap[g4]? = some (.cells #[.slice a4 n c4] 87 (0, 0))) (h5 : w.heap[g5]? = some (.cells #[.slice a5 m c5] 44 (0, 0)))
    (hs : Kd.R Kd.bool 4 w w0.heap.size (fun _ => True) (.slice a4 n c4) s) (hr : Kd.R (Kd.int .i64) 3 w w0.heap.size (fun _ => True) (.slice a5 m c5) q) (b5 : w0.heap.size ≤ g5) :
    Calls Try.prog 66 #[.int .i64 p, .pointer (some ⟨g4, 0, none⟩), .pointer (some ⟨g5, 0, none⟩)] w (ComePost' p g4 g5 n s q a4 c4 w0 w) := by
  subst es
  subst eq
  have t4 : Typ w 87 g4 := ⟨_, h4⟩
  have t5 : Typ w 44 g5 := ⟨_, h5⟩
  refine (come p g4 g5 s q a4 a5 c4 c5 (Typ w 4) (Typ w 3) w0 w h0 hn hq hB h4 h5 (R_typ hs) (R_typ hr) (fun k hk => ⟨typ_ne hk t4 (by decide), typ_ne hk t5 (by decide), fun hk' => typ_ne hk hk' (by decide) rfl⟩) (fun k hk => ⟨typ_ne hk t4 (by decide), typ_ne hk t5 (by decide)⟩) (typ_ne t4 t5 (by decide)) b5).mono ?_
  rintro e w' ⟨he, a5', c5', h1, h2, h3, h4, h5, h6⟩
  exact ⟨he, a5', c5', h1, h2, Kd.R_mono h3 (fun _ _ => trivial), Kd.R_mono h4 (fun _ _ => trivial), h5, h6⟩
theorem typ_kept {w w' : World} {S : Nat → Prop} {g t : Nat} {cs : Array Value} (h : w.heap[g]? = some (.cells cs t (0, 0))) (hk : Kept w w' S) (hS : ∀ k, S k → Typ w t k → False) : w'.heap[g]? = some (.cells cs t (0, 0)) :=
  blk_kept h hk (fun hs => hS g hs ⟨_, h⟩)
theorem R_kept_typ {α : Type} {d : Kd α} {e : Nat} {w w' : World} {base : Nat} {v : Value} {xs : List α} {S : Nat → Prop} (h : d.R e w base (fun _ => True) v xs) (hk : Kept w w' S) (hS : ∀ k t, S k → t ∈ e :: d.E → Typ w t k → False) : d.R e w' base (fun _ => True) v xs :=
  Kd.R_mono (Kd.R_kept (Kd.R_bound h) hk (fun k hk hs => by
    obtain ⟨_, _, _, t, ht, c, hc⟩ := hk
    exact hS k t hs ht ⟨c, hc⟩)) (fun _ _ => trivial)
theorem bcell {W w1 : World} (hb : Below W.heap.size W w1) : (∀ b o, b < W.heap.size → w1.cell? ⟨b, o, none⟩ = W.cell? ⟨b, o, none⟩) ∧ (∀ b o, b < W.heap.size → w1.frozen? ⟨b, o, none⟩ = W.frozen? ⟨b, o, none⟩) :=
  ⟨fun b o h => hb.cell (p := ⟨b, o, none⟩) h, fun b o h => hb.frozen (p := ⟨b, o, none⟩) h⟩
theorem box4 {w : World} {g T : Nat} {v0 v1 v2 v3 : Value} (h : w.heap[g]? = some (.cells #[v0, v1, v2, v3] T (0, 0))) : w.cell? ⟨g, 0, none⟩ = some v0 ∧ w.cell? ⟨g, 1, none⟩ = some v1 ∧ w.cell? ⟨g, 2, none⟩ = some v2 ∧ w.cell? ⟨g, 3, none⟩ = some v3 :=
  ⟨(blk_cell h 0).trans rfl, (blk_cell h 1).trans rfl, (blk_cell h 2).trans rfl, (blk_cell h 3).trans rfl⟩
def stepM (c : List S73) (st : List Bool × List Int) (i : Nat) : List Bool × List Int :=
  if 18 ≤ (rd_T73 c (rd st.2 i)).f0 ∧ (rd_T73 c (rd st.2 i)).f0 ≤ 21 then
    comeM (if (rd_T73 c (rd st.2 i)).f0 = 18 ∨ (rd_T73 c (rd st.2 i)).f0 = 24 then st else comeM st.1 st.2 (rd st.2 i + 1)).1 (if (rd_T73 c (rd st.2 i)).f0 = 18 ∨ (rd_T73 c (rd st.2 i)).f0 = 24 then st else comeM st.1 st.2 (rd st.2 i + 1)).2 (rd_T73 c (rd st.2 i)).f1
  else if (rd_T73 c (rd st.2 i)).f0 = 18 ∨ (rd_T73 c (rd st.2 i)).f0 = 24 then st else comeM st.1 st.2 (rd st.2 i + 1)
def stM (c : List S73) : Nat → List Bool × List Int
  | 0 => comeM (List.replicate c.length false) [] 0
  | i + 1 => if i < (stM c i).2.length then stepM c (stM c i) i else stM c i
/-- What holds of places that are noted. -/
def InvM (n : Nat) (st : List Bool × List Int) : Prop := st.1.length = n ∧ (∀ p ∈ st.2, 0 ≤ p ∧ p < n) ∧ st.2.length = st.1.count true
theorem comeM_inv {n : Nat} {s : List Bool} {q : List Int} {p : Int} (h : InvM n (s, q)) (h0 : 0 ≤ p) : InvM n (comeM s q p) := by
  obtain ⟨h1, h2, h3⟩ := h
  simp only at h1 h2 h3
  unfold comeM
  by_cases hl : p < s.length
  · rw [if_pos hl]
    by_cases hb : s.getD p.toNat false = true
    · rw [if_pos hb]
      exact ⟨h1, h2, h3⟩
    · rw [if_neg hb]
      refine ⟨by simpa using h1, fun x hx => ?_, ?_⟩
      · rcases List.mem_append.1 hx with hx | hx
        · exact h2 x hx
        · have : x = p := by simpa using hx
          omega
      · have hlt : p.toNat < s.length := by omega
        have hf : s[p.toNat] = false := by simpa [List.getD_eq_getElem?_getD, hlt] using hb
        simp only [List.length_append, List.length_singleton]
        rw [List.count_set hlt, hf, h3]
        simp
  · rw [if_neg hl]
    exact ⟨h1, h2, h3⟩
theorem rd_in {n : Nat} {st : List Bool × List Int} (h : InvM n st) (hn : 0 < n) (i : Nat) : 0 ≤ rd st.2 (i : Int) ∧ rd st.2 (i : Int) < n := by
  by_cases hl : i < st.2.length
  · have : rd st.2 (i : Int) ∈ st.2 := by
      simp only [rd, Int.toNat_natCast]
      rw [List.getD_eq_getElem?_getD, List.getElem?_eq_getElem hl]
      exact List.getElem_mem hl
    exact h.2.1 _ this
  · have : rd st.2 (i : Int) = 0 := by
      simp only [rd, Int.toNat_natCast]
      rw [List.getD_eq_getElem?_getD, List.getElem?_eq_none (by omega)]
      rfl
    omega
theorem stM_inv {c : List S73} (hn : 0 < c.length) (hc : ∀ i : Nat, i < c.length → 18 ≤ (rd_T73 c (i : Int)).f0 → (rd_T73 c (i : Int)).f0 ≤ 21 → 0 ≤ (rd_T73 c (i : Int)).f1) (i : Nat) : InvM c.length (stM c i) := by
  induction i with
  | zero =>
    refine comeM_inv ⟨by simp, by simp, ?_⟩ (by omega)
    simp [List.count_replicate]
  | succ i ih =>
    obtain ⟨h0, h1⟩ := rd_in ih hn i
    show InvM c.length (if i < (stM c i).2.length then stepM c (stM c i) i else stM c i)
    by_cases hlt : i < (stM c i).2.length
    case neg =>
      rw [if_neg hlt]
      exact ih
    rw [if_pos hlt]
    have hs : InvM c.length (if (rd_T73 c (rd (stM c i).2 i)).f0 = 18 ∨ (rd_T73 c (rd (stM c i).2 i)).f0 = 24 then stM c i else comeM (stM c i).1 (stM c i).2 (rd (stM c i).2 i + 1)) := by
      split
      · exact ih
      · exact comeM_inv ih (by omega)
    unfold stepM
    by_cases hj : 18 ≤ (rd_T73 c (rd (stM c i).2 i)).f0 ∧ (rd_T73 c (rd (stM c i).2 i)).f0 ≤ 21
    · rw [if_pos hj]
      refine comeM_inv hs ?_
      have := hc (rd (stM c i).2 i).toNat (by omega)
      rw [show (((rd (stM c i).2 i).toNat : Nat) : Int) = rd (stM c i).2 i from Int.toNat_of_nonneg h0] at this
      exact this hj.1 hj.2
    · rw [if_neg hj]
      exact hs
theorem stM_stop {c : List S73} {i : Nat} (h : (stM c i).2.length ≤ i) (j : Nat) : stM c (i + j) = stM c i := by
  induction j with
  | zero => rfl
  | succ j ih =>
    show (if i + j < (stM c (i + j)).2.length then stepM c (stM c (i + j)) (i + j) else stM c (i + j)) = stM c i
    rw [ih, if_neg (by omega)]
/-- What can be come to. -/
def reachM (c : List S73) : List Bool := (stM c c.length).1
theorem reach_is {c : List S73} {i : Nat} {s : List Bool} {q : List Int} (h : (s, q) = stM c i) (hi : i ≤ q.length) (hn : ¬ i < q.length) (hq : q.length ≤ c.length) : reachM c = s := by
  have h2 : (stM c i).2.length ≤ i := by
    rw [← h]
    simp only
    omega
  have := stM_stop h2 (c.length - i)
  rw [show i + (c.length - i) = c.length by omega] at this
  unfold reachM
  rw [this, ← h]
structure F1 (a b : Int) (u : List S101) (c : List S73) (A2 A3 A2' A3' a4 : Option Addr) (c2 c3 c2' c3' c4 go_ g4 : Nat) (w wr : World) (st : List Bool × List Int) : Prop where
  bp : wr.heap[w.heap.size]? = some (.cells #[.int .i64 a, .int .i64 b, .slice A2 u.length c2, .slice A3 c.length c3] 38 (0, 0))
  br : wr.heap[w.heap.size + 1]? = some (.cells #[.int .i64 0, .int .i64 0, .slice none 0 0, .slice none 0 0] 38 (0, 0))
  bo : wr.heap[go_]? = some (.cells #[.int .i64 a, .int .i64 b, .slice A2' u.length c2', .slice A3' c.length c3'] 38 (0, 0))
  ru : Kd.R k101 101 wr w.heap.size (fun _ => True) (.slice A2' u.length c2') u
  rc : Kd.R k73 73 wr w.heap.size (fun _ => True) (.slice A3' c.length c3') c
  b4 : wr.heap[g4]? = some (.cells #[.slice a4 c.length c4] 87 (0, 0))
  b5 : ∃ a5 c5, wr.heap[g4 + 1 + 1]? = some (.cells #[.slice a5 st.2.length c5] 44 (0, 0)) ∧ Kd.R (Kd.int .i64) 3 wr w.heap.size (fun _ => True) (.slice a5 st.2.length c5) st.2
  rs : Kd.R Kd.bool 4 wr w.heap.size (fun _ => True) (.slice a4 c.length c4) st.1
  bw : Below w.heap.size w wr
theorem inv_len {n : Nat} {s : List Bool} {q : List Int} (h : InvM n (s, q)) : q.length ≤ n := by
  have h1 := h.2.2
  have h2 := List.count_le_length (a := true) (l := s)
  have h3 := h.1
  simp only at h1 h3
  omega
theorem F1_alloc {a b : Int} {u : List S101} {c : List S73} {A2 A3 A2' A3' a4 : Option Addr} {c2 c3 c2' c3' c4 go_ g4 : Nat} {w wr : World} {st : List Bool × List Int} (h : F1 a b u c A2 A3 A2' A3' a4 c2 c3 c2' c3' c4 go_ g4 w wr st) (o : Obj) :
    F1 a b u c A2 A3 A2' A3' a4 c2 c3 c2' c3' c4 go_ g4 w (wr.alloc o) st := by
  obtain ⟨h1, h2, h3, h4, h5, h6, ⟨a5, c5, h7, h8⟩, h9, h10⟩ := h
  exact ⟨blk_alloc h1 o, blk_alloc h2 o, blk_alloc h3 o, Kd.R_alloc h4 o, Kd.R_alloc h5 o, blk_alloc h6 o, ⟨a5, c5, blk_alloc h7 o, Kd.R_alloc h8 o⟩, Kd.R_alloc h9 o, below_alloc h10 o⟩
theorem F1_drewN {a b : Int} {u : List S101} {c : List S73} {A2 A3 A2' A3' a4 : Option Addr} {c2 c3 c2' c3' c4 go_ g4 : Nat} {w wr : World} {st : List Bool × List Int} (h : F1 a b u c A2 A3 A2' A3' a4 c2 c3 c2' c3' c4 go_ g4 w wr st) (n : Nat) :
    F1 a b u c A2 A3 A2' A3' a4 c2 c3 c2' c3' c4 go_ g4 w (wr.drewN n) st := by
  obtain ⟨h1, h2, h3, h4, h5, h6, ⟨a5, c5, h7, h8⟩, h9, h10⟩ := h
  have hb : Below wr.heap.size wr (wr.drewN n) := Drawn0.below ⟨n, rfl⟩
  exact ⟨h1, h2, h3, Kd.R_below h4 hb, Kd.R_below h5 hb, h6, ⟨a5, c5, h7, Kd.R_below h8 hb⟩, Kd.R_below h9 hb, below_then h10 h10.size hb⟩
theorem F1_come {a b : Int} {u : List S101} {c : List S73} {A2 A3 A2' A3' a4 : Option Addr} {c2 c3 c2' c3' c4 go_ g4 : Nat} {w wr : World} {s : List Bool} {q : List Int} (h : F1 a b u c A2 A3 A2' A3' a4 c2 c3 c2' c3' c4 go_ g4 w wr (s, q)) (hI : InvM c.length (s, q)) (hlen : c.length ≤ 4000) (b4 : w.heap.size ≤ g4) (p : Int) (h0 : 0 ≤ p) :
    Calls Try.prog 66 #[.int .i64 p, .pointer (some ⟨g4, 0, none⟩), .pointer (some ⟨g4 + 1 + 1, 0, none⟩)] wr (fun e w' => e = .returned (.tuple #[]) ∧ F1 a b u c A2 A3 A2' A3' a4 c2 c3 c2' c3' c4 go_ g4 w w' (comeM s q p) ∧ ∀ (g : Nat) (cs : Array Value), wr.heap[g]? = some (Obj.cells cs 73 (0, 0)) → w'.heap[g]? = some (Obj.cells cs 73 (0, 0))) := by
  obtain ⟨h1, h2, h3, h4, h5, h6, ⟨a5, c5, h7, h8⟩, h9, h10⟩ := h
  refine (come' p g4 (g4 + 1 + 1) c.length q.length s q a4 a5 c4 c5 w wr h0 hI.1 rfl hlen (Nat.le_trans (inv_len hI) hlen) h10 h6 h7 h9 h8 (by omega)).mono ?_
  rintro e w4 ⟨rfl, a5', c5', H4, H5, HS, HQ, HBw, HK⟩
  have hS : ∀ k t, (k = g4 + 1 + 1 ∨ Typ wr 4 k ∨ Typ wr 3 k) → t ≠ 44 → t ≠ 4 → t ≠ 3 → Typ wr t k → False := by
    rintro k t (hk | hk | hk) n1 n2 n3 ht
    · exact typ_ne ht ⟨_, h7⟩ n1 hk
    · exact typ_ne ht hk n2 rfl
    · exact typ_ne ht hk n3 rfl
  refine ⟨rfl, ⟨typ_kept h1 HK (fun k hk ht => hS k 38 hk (by decide) (by decide) (by decide) ht), typ_kept h2 HK (fun k hk ht => hS k 38 hk (by decide) (by decide) (by decide) ht), typ_kept h3 HK (fun k hk ht => hS k 38 hk (by decide) (by decide) (by decide) ht), R_kept_typ h4 HK (fun k t hk hm ht => hS k t hk (by rcases List.mem_cons.1 hm with h | h <;> simp_all [k101, Kd.iso, Kd.pair, Kd.int, Kd.bool, Kd.scalar]) (by rcases List.mem_cons.1 hm with h | h <;> simp_all [k101, Kd.iso, Kd.pair, Kd.int, Kd.bool, Kd.scalar]) (by rcases List.mem_cons.1 hm with h | h <;> simp_all [k101, Kd.iso, Kd.pair, Kd.int, Kd.bool, Kd.scalar]) ht), R_kept_typ h5 HK (fun k t hk hm ht => hS k t hk (by rcases List.mem_cons.1 hm with h | h <;> simp_all [k73, Kd.iso, Kd.pair, Kd.int, Kd.bool, Kd.scalar]) (by rcases List.mem_cons.1 hm with h | h <;> simp_all [k73, Kd.iso, Kd.pair, Kd.int, Kd.bool, Kd.scalar]) (by rcases List.mem_cons.1 hm with h | h <;> simp_all [k73, Kd.iso, Kd.pair, Kd.int, Kd.bool, Kd.scalar]) ht), H4, ⟨a5', c5', H5, HQ⟩, HS, HBw⟩, fun g cs hg => typ_kept hg HK (fun k hk ht => hS k 73 hk (by decide) (by decide) (by decide) ht)⟩
theorem calls_gen {P : Program} {f : Nat} {xs : Array Value} {w : World} {Q : Ending → World → Prop} (h : ∀ w', w' = w → Calls P f xs w' Q) : Calls P f xs w Q := h w rfl
theorem F1_drawn {a b : Int} {u : List S101} {c : List S73} {A2 A3 A2' A3' a4 : Option Addr} {c2 c3 c2' c3' c4 go_ g4 : Nat} {w wr wr' : World} {st : List Bool × List Int} (h : F1 a b u c A2 A3 A2' A3' a4 c2 c3 c2' c3' c4 go_ g4 w wr st) (hd : Drawn0 wr wr') :
    F1 a b u c A2 A3 A2' A3' a4 c2 c3 c2' c3' c4 go_ g4 w wr' st := by
  obtain ⟨n, rfl⟩ := hd
  exact F1_drewN h n
theorem blk_drawn {w w' : World} {g : Nat} {o : Obj} (h : w.heap[g]? = some o) (hd : Drawn0 w w') : w'.heap[g]? = some o := by
  obtain ⟨n, rfl⟩ := hd
  exact h
theorem isJump_true {o : Int} (h : 18 ≤ o ∧ o ≤ 21) : impl_isJump.f o = some true := by
  unfold impl_isJump.f impl_within.f
  rw [if_pos (show o ≥ 18 from h.1), decide_eq_true h.2]
  rfl
theorem isJump_false {o : Int} (h : ¬ (18 ≤ o ∧ o ≤ 21)) : impl_isJump.f o = some false := by
  unfold impl_isJump.f impl_within.f
  by_cases h1 : o ≥ 18
  · rw [if_pos h1, decide_eq_false (by omega)]
    rfl
  · rw [if_neg h1]
    rfl
theorem comeM_len (s : List Bool) (q : List Int) (p : Int) : q.length ≤ (comeM s q p).2.length := by
  unfold comeM
  split
  · split
    · exact Nat.le_refl _
    · simp
  · exact Nat.le_refl _
theorem stepM_len (c : List S73) (st : List Bool × List Int) (i : Nat) : st.2.length ≤ (stepM c st i).2.length := by
  unfold stepM
  split
  · refine Nat.le_trans ?_ (comeM_len _ _ _)
    split
    · exact Nat.le_refl _
    · exact comeM_len _ _ _
  · split
    · exact Nat.le_refl _
    · exact comeM_len _ _ _
theorem round_end {a b : Int} {u : List S101} {c : List S73} {A2 A3 A2' A3' a4 : Option Addr} {c2 c3 c2' c3' c4 go_ g4 : Nat} {w wr : World} {s : List Bool} {q : List Int} {st : List Bool × List Int} {i : Nat} (h : F1 a b u c A2 A3 A2' A3' a4 c2 c3 c2' c3' c4 go_ g4 w wr st) (hst : (s, q) = stM c i) (he : stepM c (s, q) i = st) (hi : i < q.length) (hq : q.length ≤ c.length) (hc : c.length ≤ 4000) :
    (∃ i_1 : Nat, Value.int .i64 ((i : Int) + 1) = Value.int .i64 (i_1 : Int) ∧ i_1 ≤ (stM c i_1).2.length ∧ F1 a b u c A2 A3 A2' A3' a4 c2 c3 c2' c3' c4 go_ g4 w wr (stM c i_1)) ∧
      4001 - (intOf (Value.int .i64 ((i : Int) + 1))).toNat < 4001 - (intOf (Value.int .i64 (i : Int))).toNat := by
  have e : stM c (i + 1) = st := by
    show (if i < (stM c i).2.length then stepM c (stM c i) i else stM c i) = st
    rw [← hst, if_pos hi, he]
  have hl := stepM_len c (s, q) i
  rw [he] at hl
  simp only at hl
  refine ⟨⟨i + 1, by simp, ?_, ?_⟩, ?_⟩
  · rw [e]
    omega
  · rw [e]
    exact h
  · show 4001 - ((i : Int) + 1).toNat < 4001 - (i : Int).toNat
    omega
structure F2 (a b : Int) (u : List S101) (c : List S73) (A2 A3 A2' a4 : Option Addr) (c2 c3 c2' c4 go_ g4 : Nat) (w wr : World) (s : List Bool) (v3 vr : Value) (o : List S73) : Prop where
  bp : wr.heap[w.heap.size]? = some (.cells #[.int .i64 a, .int .i64 b, .slice A2 u.length c2, .slice A3 c.length c3] 38 (0, 0))
  br : wr.heap[w.heap.size + 1]? = some (.cells #[.int .i64 0, .int .i64 0, .slice none 0 0, .slice none 0 0] 38 (0, 0))
  bo : wr.heap[go_]? = some (.cells #[.int .i64 a, .int .i64 b, .slice A2' u.length c2', v3] 38 (0, 0))
  ru : Kd.R k101 101 wr w.heap.size (fun _ => True) (.slice A2' u.length c2') u
  ro : Kd.R k73 73 wr w.heap.size (fun _ => True) vr o
  b4 : wr.heap[g4]? = some (.cells #[.slice a4 c.length c4] 87 (0, 0))
  rs : Kd.R Kd.bool 4 wr w.heap.size (fun _ => True) (.slice a4 c.length c4) s
  bw : Below w.heap.size w wr
section
variable {a b : Int} {u : List S101} {c : List S73} {A2 A3 A2' a4 : Option Addr} {c2 c3 c2' c4 go_ g4 : Nat} {w wr wr' : World} {s : List Bool} {v3 vr : Value} {o : List S73}
theorem F2_grown (h : F2 a b u c A2 A3 A2' a4 c2 c3 c2' c4 go_ g4 w wr s v3 vr o) (hg : wr.grownBy wr' none) (hb : Below w.heap.size w wr') : F2 a b u c A2 A3 A2' a4 c2 c3 c2' c4 go_ g4 w wr' s v3 vr o := by
  obtain ⟨h1, h2, h3, h4, h5, h6, h7, h8⟩ := h
  have hn : ∀ g : Nat, some g ≠ none := fun g e => by cases e
  exact ⟨blk_grown h1 hg (hn _), blk_grown h2 hg (hn _), blk_grown h3 hg (hn _), Kd.R_grown h4 hg (fun k _ => hn k), Kd.R_grown h5 hg (fun k _ => hn k), blk_grown h6 hg (hn _), Kd.R_grown h7 hg (fun k _ => hn k), hb⟩
theorem F2_alloc (h : F2 a b u c A2 A3 A2' a4 c2 c3 c2' c4 go_ g4 w wr s v3 vr o) (ob : Obj) : F2 a b u c A2 A3 A2' a4 c2 c3 c2' c4 go_ g4 w (wr.alloc ob) s v3 vr o := by
  obtain ⟨h1, h2, h3, h4, h5, h6, h7, h8⟩ := h
  exact ⟨blk_alloc h1 _, blk_alloc h2 _, blk_alloc h3 _, Kd.R_alloc h4 _, Kd.R_alloc h5 _, blk_alloc h6 _, Kd.R_alloc h7 _, below_alloc h8 _⟩
theorem F2_drawn (h : F2 a b u c A2 A3 A2' a4 c2 c3 c2' c4 go_ g4 w wr s v3 vr o) (hd : Drawn0 wr wr') : F2 a b u c A2 A3 A2' a4 c2 c3 c2' c4 go_ g4 w wr' s v3 vr o := by
  obtain ⟨n, rfl⟩ := hd
  obtain ⟨h1, h2, h3, h4, h5, h6, h7, h8⟩ := h
  have hb : Below wr.heap.size wr (wr.drewN n) := Drawn0.below ⟨n, rfl⟩
  exact ⟨h1, h2, h3, Kd.R_below h4 hb, Kd.R_below h5 hb, h6, Kd.R_below h7 hb, below_then h8 h8.size hb⟩
/-- A step that writes rows of whole numbers alone. -/
theorem F2_kept3 (h : F2 a b u c A2 A3 A2' a4 c2 c3 c2' c4 go_ g4 w wr s v3 vr o) (hk : Kept wr wr' (Typ wr 3)) (hb : Below w.heap.size w wr') : F2 a b u c A2 A3 A2' a4 c2 c3 c2' c4 go_ g4 w wr' s v3 vr o := by
  obtain ⟨h1, h2, h3, h4, h5, h6, h7, h8⟩ := h
  have hS : ∀ k t, Typ wr 3 k → t ≠ 3 → Typ wr t k → False := fun k t hs ht h => typ_ne h hs ht rfl
  exact ⟨typ_kept h1 hk (fun k hk ht => hS k 38 hk (by decide) ht), typ_kept h2 hk (fun k hk ht => hS k 38 hk (by decide) ht), typ_kept h3 hk (fun k hk ht => hS k 38 hk (by decide) ht), R_kept_typ h4 hk (fun k t hk hm ht => hS k t hk (by rcases List.mem_cons.1 hm with h | h <;> simp_all [k101, Kd.iso, Kd.pair, Kd.int, Kd.bool, Kd.scalar]) ht), R_kept_typ h5 hk (fun k t hk hm ht => hS k t hk (by rcases List.mem_cons.1 hm with h | h <;> simp_all [k73, Kd.iso, Kd.pair, Kd.int, Kd.bool, Kd.scalar]) ht), typ_kept h6 hk (fun k hk ht => hS k 87 hk (by decide) ht), R_kept_typ h7 hk (fun k t hk hm ht => hS k t hk (by rcases List.mem_cons.1 hm with h | h <;> simp_all [Kd.bool, Kd.scalar]) ht), hb⟩
/-- A step that writes the box of the result alone. -/
theorem F2_code (h : F2 a b u c A2 A3 A2' a4 c2 c3 c2' c4 go_ g4 w wr s v3 vr o) (hgo : w.heap.size + 1 < go_) (v3' : Value) {o' : List S73} (hr : Kd.R k73 73 wr w.heap.size (fun _ => True) v3' o') :
    F2 a b u c A2 A3 A2' a4 c2 c3 c2' c4 go_ g4 w (wr.setCell ⟨go_, 3, none⟩ v3') s v3' v3' o' := by
  obtain ⟨h1, h2, h3, h4, h5, h6, h7, h8⟩ := h
  have hk : Kept wr (wr.setCell ⟨go_, 3, none⟩ v3') (fun k => k = go_) := (Kept.refl wr (fun k => k = go_)).setCell (p := ⟨go_, 3, none⟩) (.inl rfl) _
  have hS : ∀ k t, k = go_ → t ≠ 38 → Typ wr t k → False := fun k t hs ht h => typ_ne h ⟨_, h3⟩ ht hs
  refine ⟨blk_far h1 (p := ⟨go_, 3, none⟩) (by show w.heap.size ≠ go_; omega) _, blk_far h2 (p := ⟨go_, 3, none⟩) (by show w.heap.size + 1 ≠ go_; omega) _, ?_, R_kept_typ h4 hk (fun k t hk hm ht => hS k t hk (by rcases List.mem_cons.1 hm with h | h <;> simp_all [k101, Kd.iso, Kd.pair, Kd.int, Kd.bool, Kd.scalar]) ht), R_kept_typ hr hk (fun k t hk hm ht => hS k t hk (by rcases List.mem_cons.1 hm with h | h <;> simp_all [k73, Kd.iso, Kd.pair, Kd.int, Kd.bool, Kd.scalar]) ht), typ_kept h6 hk (fun k hk ht => hS k 87 hk (by decide) ht), R_kept_typ h7 hk (fun k t hk hm ht => hS k t hk (by rcases List.mem_cons.1 hm with h | h <;> simp_all [Kd.bool, Kd.scalar]) ht), h8.setCell (by show w.heap.size ≤ go_; omega) _⟩
  simpa using blk_set h3 3 v3'
/-- The rows of whole numbers behind the same step. -/
theorem pl_code {pl : List Int} {vp : Value} {cs : Array Value} (h : Kd.R (Kd.int .i64) 3 wr w.heap.size (fun _ => True) vp pl) (h3 : wr.heap[go_]? = some (.cells cs 38 (0, 0))) (v3' : Value) : Kd.R (Kd.int .i64) 3 (wr.setCell ⟨go_, 3, none⟩ v3') w.heap.size (fun _ => True) vp pl := by
  have hk : Kept wr (wr.setCell ⟨go_, 3, none⟩ v3') (fun k => k = go_) := (Kept.refl wr (fun k => k = go_)).setCell (p := ⟨go_, 3, none⟩) (.inl rfl) _
  have hS : ∀ k t, k = go_ → t ≠ 38 → Typ wr t k → False := fun k t hs ht h => typ_ne h ⟨_, h3⟩ ht hs
  exact R_kept_typ h hk (fun k t hk hm ht => hS k t hk (by rcases List.mem_cons.1 hm with h | h <;> simp_all [Kd.int, Kd.scalar]) ht)
theorem k73_typ {v : Value} (h : Kd.R k73 73 wr w.heap.size (fun _ => True) v o) (k : Nat) (hk : some k = v.ownBlock) : Typ wr 73 k := by
  obtain ⟨_, _, _, t, ht, c, hc⟩ := (Kd.R_bound h).1 k hk.symm
  have : t = 73 := by
    rcases List.mem_cons.1 ht with h | h
    · exact h
    · simp [k73, Kd.iso, Kd.pair, Kd.int, Kd.scalar] at h
  subst this
  exact ⟨c, hc⟩
/-- A step that writes rows of instructions alone. -/
theorem F2_kept73 (h : F2 a b u c A2 A3 A2' a4 c2 c3 c2' c4 go_ g4 w wr s v3 vr o) (hk : Kept wr wr' (Typ wr 73)) (hb : Below w.heap.size w wr') {vr' : Value} {o' : List S73} (hr : Kd.R k73 73 wr' w.heap.size (fun _ => True) vr' o') : F2 a b u c A2 A3 A2' a4 c2 c3 c2' c4 go_ g4 w wr' s v3 vr' o' := by
  obtain ⟨h1, h2, h3, h4, h5, h6, h7, h8⟩ := h
  have hS : ∀ k t, Typ wr 73 k → t ≠ 73 → Typ wr t k → False := fun k t hs ht h => typ_ne h hs ht rfl
  exact ⟨typ_kept h1 hk (fun k hk ht => hS k 38 hk (by decide) ht), typ_kept h2 hk (fun k hk ht => hS k 38 hk (by decide) ht), typ_kept h3 hk (fun k hk ht => hS k 38 hk (by decide) ht), R_kept_typ h4 hk (fun k t hk hm ht => hS k t hk (by rcases List.mem_cons.1 hm with h | h <;> simp_all [k101, Kd.iso, Kd.pair, Kd.int, Kd.bool, Kd.scalar]) ht), hr, typ_kept h6 hk (fun k hk ht => hS k 87 hk (by decide) ht), R_kept_typ h7 hk (fun k t hk hm ht => hS k t hk (by rcases List.mem_cons.1 hm with h | h <;> simp_all [Kd.bool, Kd.scalar]) ht), hb⟩
theorem pl_kept73 {pl : List Int} {vp : Value} (h : Kd.R (Kd.int .i64) 3 wr w.heap.size (fun _ => True) vp pl) (hk : Kept wr wr' (Typ wr 73)) : Kd.R (Kd.int .i64) 3 wr' w.heap.size (fun _ => True) vp pl := by
  have hS : ∀ k t, Typ wr 73 k → t ≠ 73 → Typ wr t k → False := fun k t hs ht h => typ_ne h hs ht rfl
  exact R_kept_typ h hk (fun k t hk hm ht => hS k t hk (by rcases List.mem_cons.1 hm with h | h <;> simp_all [Kd.int, Kd.scalar]) ht)
theorem app_kept {v : Value} (h : Kd.R k73 73 wr w.heap.size (fun _ => True) v o) (hg : wr.grownBy wr' v.ownBlock) : Kept wr wr' (Typ wr 73) :=
  Kept.of_grown hg (Kept.refl wr _) (fun k hk => .inl (k73_typ h k hk.symm))
theorem F1_last {A3' : Option Addr} {c3' : Nat} {q : List Int} {gs : Nat} {i : Nat} (h : F1 a b u c A2 A3 A2' A3' (some ⟨gs, 0, none⟩) c2 c3 c2' c3' c4 go_ g4 w wr (s, q)) (hs : s.length = c.length) :
    F2 a b u c A2 A3 A2' (some ⟨gs, 0, none⟩) c2 c3 c2' c4 go_ g4 w (wr.setCell ⟨gs, i, none⟩ (.bool true)) (s.set i true) (.slice A3' c.length c3') (.slice A3' c.length c3') c := by
  obtain ⟨h1, h2, h3, h4, h5, h6, h7, h8, h9⟩ := h
  have h8' : Kd.R Kd.bool 4 wr w.heap.size (fun _ => True) (.slice (some ⟨gs, 0, none⟩) s.length c4) s := by rw [hs]; exact h8
  have ht := R_typ h8'
  have hk : Kept wr (wr.setCell ⟨gs, i, none⟩ (.bool true)) (Typ wr 4) := (Kept.refl wr _).setCell (p := ⟨gs, i, none⟩) (.inl (ht.1 gs rfl)) _
  have hS : ∀ k t, Typ wr 4 k → t ≠ 4 → Typ wr t k → False := fun k t hs ht h => typ_ne h hs ht rfl
  have hp := (Kd.R_put h8' (i : Int) true).1
  rw [hs, Int.toNat_natCast] at hp
  have h4s : ∀ t ∈ (101 : Nat) :: k101.E, t ≠ 4 := by decide
  exact ⟨typ_kept h1 hk (fun k hk ht => hS k 38 hk (by decide) ht), typ_kept h2 hk (fun k hk ht => hS k 38 hk (by decide) ht), typ_kept h3 hk (fun k hk ht => hS k 38 hk (by decide) ht), R_kept_typ h4 hk (fun k t hk hm ht => hS k t hk (by rcases List.mem_cons.1 hm with h | h <;> simp_all [k101, Kd.iso, Kd.pair, Kd.int, Kd.bool, Kd.scalar]) ht), R_kept_typ h5 hk (fun k t hk hm ht => hS k t hk (by rcases List.mem_cons.1 hm with h | h <;> simp_all [k73, Kd.iso, Kd.pair, Kd.int, Kd.bool, Kd.scalar]) ht), typ_kept h6 hk (fun k hk ht => hS k 87 hk (by decide) ht), hp, h9.setCell (Kd.R_base h8' gs rfl) _⟩
end
/-- The kept instructions and their places. -/
def keepM (c : List S73) (s : List Bool) : Nat → List S73 × List Int
  | 0 => ([], List.replicate c.length 0)
  | i + 1 => (if s.getD i false = true then (keepM c s i).1 ++ [rd_T73 c (i : Int)] else (keepM c s i).1, (keepM c s i).2.set i ((keepM c s i).1.length : Int))
theorem keepM_len (c : List S73) (s : List Bool) (i : Nat) : (keepM c s i).1.length ≤ i ∧ (keepM c s i).2.length = c.length := by
  induction i with
  | zero => simp [keepM]
  | succ i ih =>
    refine ⟨?_, ?_⟩
    · show (if s.getD i false = true then (keepM c s i).1 ++ [rd_T73 c (i : Int)] else (keepM c s i).1).length ≤ i + 1
      split
      · simp only [List.length_append, List.length_singleton]
        omega
      · omega
    · show ((keepM c s i).2.set i ((keepM c s i).1.length : Int)).length = c.length
      rw [List.length_set]
      exact ih.2

theorem keepM_pos {c : List S73} {s : List Bool} {j : Nat} {ol : List S73} {pl : List Int} {x : S73} {o y : Int} (hb : s.getD j false = true) (h1 : ol = (keepM c s j).1) (h2 : pl = (keepM c s j).2) (h3 : x = rd_T73 c (j : Int)) (h4 : o = x.f0) (h5 : y = x.f1) : keepM c s (j + 1) = (ol ++ [(⟨o, y⟩ : S73)], pl.set j (ol.length : Int)) := by
  show (if s.getD j false = true then (keepM c s j).1 ++ [rd_T73 c (j : Int)] else (keepM c s j).1, (keepM c s j).2.set j ((keepM c s j).1.length : Int)) = _
  rw [if_pos hb, ← h1, ← h2, ← h3, h4, h5]
theorem keepM_neg {c : List S73} {s : List Bool} {j : Nat} {ol : List S73} {pl : List Int} (hb : ¬ s.getD j false = true) (h1 : ol = (keepM c s j).1) (h2 : pl = (keepM c s j).2) : keepM c s (j + 1) = (ol, pl.set j (ol.length : Int)) := by
  show (if s.getD j false = true then (keepM c s j).1 ++ [rd_T73 c (j : Int)] else (keepM c s j).1, (keepM c s j).2.set j ((keepM c s j).1.length : Int)) = _
  rw [if_neg hb, ← h1, ← h2]
theorem round2_end {a b : Int} {u : List S101} {c : List S73} {A2 A3 A2' a4 : Option Addr} {c2 c3 c2' c4 go_ g4 gp cp : Nat} {w wr : World} {s : List Bool} {A3o : Option Addr} {c3o j n : Nat} {ol : List S73} {pl : List Int}
    (hF : F2 a b u c A2 A3 A2' a4 c2 c3 c2' c4 go_ g4 w wr s (.slice A3o ol.length c3o) (.slice A3o ol.length c3o) ol) (hP : Kd.R (Kd.int .i64) 3 wr w.heap.size (fun _ => True) (.slice (some ⟨gp, 0, none⟩) n cp) pl) (hn : n = c.length)
    (he : keepM c s (j + 1) = (ol, pl)) (hj : j < c.length) (hc : c.length ≤ 4000) :
    (∃ j_1 : Nat, Value.int .i64 ((j : Int) + 1) = Value.int .i64 (j_1 : Int) ∧ j_1 ≤ c.length ∧ ∃ A3o c3o, F2 a b u c A2 A3 A2' a4 c2 c3 c2' c4 go_ g4 w wr s (.slice A3o (keepM c s j_1).1.length c3o) (.slice A3o (keepM c s j_1).1.length c3o) (keepM c s j_1).1 ∧ Kd.R (Kd.int .i64) 3 wr w.heap.size (fun _ => True) (.slice (some ⟨gp, 0, none⟩) c.length cp) (keepM c s j_1).2) ∧
      4001 - (intOf (Value.int .i64 ((j : Int) + 1))).toNat < 4001 - (intOf (Value.int .i64 (j : Int))).toNat := by
  subst hn
  refine ⟨⟨j + 1, by simp, by omega, A3o, c3o, ?_, ?_⟩, ?_⟩
  · rw [he]
    exact hF
  · rw [he]
    exact hP
  · show 4001 - ((j : Int) + 1).toNat < 4001 - (j : Int).toNat
    omega
theorem ins_elem {W : World} {base g n cap : Nat} {xs : List S73} (h : Kd.R k73 73 W base (fun _ => True) (.slice (some ⟨g, 0, none⟩) n cap) xs) (i : Nat) (hi : i < n) :
    W.cell? ⟨g, i * 2, none⟩ = some (.int .i64 (rd_T73 xs (i : Int)).f0) ∧ W.cell? ⟨g, i * 2 + 1, none⟩ = some (.int .i64 (rd_T73 xs (i : Int)).f1) ∧ W.frozen? ⟨g, i * 2 + 1, none⟩ = false ∧
      ∀ z : Int, Kd.R k73 73 (W.setCell ⟨g, i * 2 + 1, none⟩ (.int .i64 z)) base (fun _ => True) (.slice (some ⟨g, 0, none⟩) n cap) (xs.set i (⟨(rd_T73 xs (i : Int)).f0, z⟩ : S73)) ∧ W.grownBy (W.setCell ⟨g, i * 2 + 1, none⟩ (.int .i64 z)) (some g) := by
  obtain ⟨ce, hcl, hM, hcc, hfr⟩ := Kd.R_elem h z73 (i : Int) (by omega) (by omega)
  obtain rfl := k73_openM hM
  refine ⟨hcc 0 _ rfl, hcc 1 _ rfl, hfr 1, fun z => ?_⟩
  exact Kd.R_seg h (i : Int) (by omega) (by omega) (seg := [.int .i64 z]) (j := 1) hcl hcc (show 2 ≤ 2 from by decide) (x' := (⟨(rd_T73 xs (i : Int)).f0, z⟩ : S73)) (k73_mkM _ _ _ (⟨(rd_T73 xs (i : Int)).f0, z⟩ : S73)) (okp := fun k => True ∧ k ≠ g) (fun _ hk => hk)
/-- The jumps led to the new places. -/
def jumpM (pl : List Int) (ol : List S73) : Nat → List S73
  | 0 => ol
  | j + 1 => if 18 ≤ (rd_T73 (jumpM pl ol j) (j : Int)).f0 ∧ (rd_T73 (jumpM pl ol j) (j : Int)).f0 ≤ 21 then (jumpM pl ol j).set j ⟨(rd_T73 (jumpM pl ol j) (j : Int)).f0, rd pl (rd_T73 (jumpM pl ol j) (j : Int)).f1⟩ else jumpM pl ol j
theorem jumpM_len (pl : List Int) (ol : List S73) (j : Nat) : (jumpM pl ol j).length = ol.length := by
  induction j with
  | zero => rfl
  | succ j ih =>
    unfold jumpM
    split
    · rw [List.length_set, ih]
    · exact ih
theorem jumpM_get (pl : List Int) (ol : List S73) (j i : Nat) (h : j ≤ i) : rd_T73 (jumpM pl ol j) (i : Int) = rd_T73 ol (i : Int) := by
  induction j with
  | zero => rfl
  | succ j ih =>
    unfold jumpM
    split
    · rw [← ih (by omega)]
      simp only [rd_T73, Int.toNat_natCast]
      simp [List.getD_eq_getElem?_getD, List.getElem?_set_ne (show j ≠ i by omega)]
    · exact ih (by omega)
theorem keepM_mem (c : List S73) (s : List Bool) (n : Nat) (hn : n ≤ c.length) (j : Nat) (hj : j < (keepM c s n).1.length) : ∃ i : Nat, i < c.length ∧ rd_T73 (keepM c s n).1 (j : Int) = rd_T73 c (i : Int) := by
  induction n with
  | zero => simp [keepM] at hj
  | succ n ih =>
    have e : (keepM c s (n + 1)).1 = (if s.getD n false = true then (keepM c s n).1 ++ [rd_T73 c (n : Int)] else (keepM c s n).1) := rfl
    rw [e] at hj ⊢
    split
    · rename_i hs
      rw [if_pos hs, List.length_append, List.length_singleton] at hj
      by_cases hl : j < (keepM c s n).1.length
      · obtain ⟨i, hi, he⟩ := ih (by omega) hl
        refine ⟨i, hi, ?_⟩
        rw [← he]
        simp only [rd_T73, Int.toNat_natCast]
        simp [List.getD_eq_getElem?_getD, List.getElem?_append_left hl]
      · refine ⟨n, by omega, ?_⟩
        have : j = (keepM c s n).1.length := by omega
        subst this
        show ((keepM c s n).1 ++ [rd_T73 c (n : Int)]).getD ((((keepM c s n).1.length : Nat) : Int)).toNat _ = _
        rw [Int.toNat_natCast, List.getD_eq_getElem?_getD, List.getElem?_append_right (Nat.le_refl _)]
        simp
    · rename_i hs
      rw [if_neg hs] at hj
      exact ih (by omega) hj
theorem round3_end {a b : Int} {u : List S101} {c : List S73} {A2 A3 A2' a4 : Option Addr} {c2 c3 c2' c4 go_ g4 gp cp : Nat} {w wr : World} {s : List Bool} {A3o : Option Addr} {c3o j m n : Nat} {ol ol' : List S73} {pl : List Int}
    (hF : F2 a b u c A2 A3 A2' a4 c2 c3 c2' c4 go_ g4 w wr s (.slice A3o m c3o) (.slice A3o m c3o) ol') (hP : Kd.R (Kd.int .i64) 3 wr w.heap.size (fun _ => True) (.slice (some ⟨gp, 0, none⟩) n cp) pl)
    (he : jumpM pl ol (j + 1) = ol') (hj : j < ol.length) (hc : ol.length ≤ 4000) :
    (∃ j_1 : Nat, Value.int .i64 ((j : Int) + 1) = Value.int .i64 (j_1 : Int) ∧ j_1 ≤ ol.length ∧ F2 a b u c A2 A3 A2' a4 c2 c3 c2' c4 go_ g4 w wr s (.slice A3o m c3o) (.slice A3o m c3o) (jumpM pl ol j_1) ∧ Kd.R (Kd.int .i64) 3 wr w.heap.size (fun _ => True) (.slice (some ⟨gp, 0, none⟩) n cp) pl) ∧
      4001 - (intOf (Value.int .i64 ((j : Int) + 1))).toNat < 4001 - (intOf (Value.int .i64 (j : Int))).toNat := by
  refine ⟨⟨j + 1, by simp, by omega, ?_, hP⟩, ?_⟩
  · rw [he]
    exact hF
  · show 4001 - ((j : Int) + 1).toNat < 4001 - (j : Int).toNat
    omega
theorem jumpM_pos {pl : List Int} {ol oo : List S73} {j : Nat} {x : S73} {o y : Int} (h1 : oo = jumpM pl ol j) (h3 : x = rd_T73 oo (j : Int)) (h4 : o = x.f0) (h5 : y = x.f1) (hj : 18 ≤ o ∧ o ≤ 21) : jumpM pl ol (j + 1) = oo.set j ⟨(rd_T73 oo (j : Int)).f0, rd pl y⟩ := by
  subst h1 h3 h4 h5
  show (if _ then _ else _) = _
  rw [if_pos hj]
theorem jumpM_neg {pl : List Int} {ol oo : List S73} {j : Nat} {x : S73} {o : Int} (h1 : oo = jumpM pl ol j) (h3 : x = rd_T73 oo (j : Int)) (h4 : o = x.f0) (hj : ¬ (18 ≤ o ∧ o ≤ 21)) : jumpM pl ol (j + 1) = oo := by
  subst h1 h3 h4
  show (if _ then _ else _) = _
  rw [if_neg hj]
/-- What Strip makes of a plain code. -/
def stripM (c : List S73) : List S73 :=
  jumpM (keepM c ((reachM c).set (c.length - 1) true) c.length).2 (keepM c ((reachM c).set (c.length - 1) true) c.length).1 (keepM c ((reachM c).set (c.length - 1) true) c.length).1.length
def StripPost (a b : Int) (u : List S101) (r : List S73) (w : World) (e : Ending) (w' : World) : Prop :=
  ∃ v2_ v3_ : Value, e = .returned (.agg #[.int .i64 a, .int .i64 b, v2_, v3_]) ∧ Kd.R k101 101 w' w.heap.size (fun _ => True) v2_ u ∧ Kd.R k73 73 w' w.heap.size (fun _ => True) v3_ r ∧ Below w.heap.size w w'
theorem strip_end {a b : Int} {u : List S101} {c : List S73} {A2 A3 A2' a4 : Option Addr} {c2 c3 c2' c4 go_ g4 : Nat} {w wr W : World} {s : List Bool} {v2 v3 : Value} {o r : List S73}
    (hF : F2 a b u c A2 A3 A2' a4 c2 c3 c2' c4 go_ g4 w wr s v3 v3 o) (hu : Kd.R k101 101 wr w.heap.size (fun _ => True) v2 u) (ho : Kd.R k73 73 wr w.heap.size (fun _ => True) v3 o) (hk : Kept wr W (fun k => k = w.heap.size + 1)) (hb : Below w.heap.size w W) (hr : r = o) :
    StripPost a b u r w (.returned (.agg #[.int .i64 a, .int .i64 b, v2, v3])) W := by
  subst hr
  have hS : ∀ k t, k = w.heap.size + 1 → t ≠ 38 → Typ wr t k → False := fun k t hs ht h => typ_ne h ⟨_, hF.br⟩ ht hs
  exact ⟨v2, v3, rfl, R_kept_typ hu hk (fun k t hk hm ht => hS k t hk (by rcases List.mem_cons.1 hm with h | h <;> simp_all [k101, Kd.iso, Kd.pair, Kd.int, Kd.bool, Kd.scalar]) ht), R_kept_typ ho hk (fun k t hk hm ht => hS k t hk (by rcases List.mem_cons.1 hm with h | h <;> simp_all [k73, Kd.iso, Kd.pair, Kd.int, Kd.bool, Kd.scalar]) ht), hb⟩
theorem pl_drawn {w wr wr' : World} {pl : List Int} {vp : Value} (h : Kd.R (Kd.int .i64) 3 wr w.heap.size (fun _ => True) vp pl) (hd : Drawn0 wr wr') : Kd.R (Kd.int .i64) 3 wr' w.heap.size (fun _ => True) vp pl := by
  obtain ⟨n, rfl⟩ := hd
  exact Kd.R_below h (Drawn0.below ⟨n, rfl⟩)
theorem strip_end' {a b : Int} {c : List S73} {x0 x1 x2 x3 : Value} {w wr W : World} {v2 v3 : Value} {u : List S101}
    (hbr : wr.heap[w.heap.size + 1]? = some (.cells #[x0, x1, x2, x3] 38 (0, 0))) (hu : Kd.R k101 101 wr w.heap.size (fun _ => True) v2 u) (ho : Kd.R k73 73 wr w.heap.size (fun _ => True) v3 c) (hk : Kept wr W (fun k => k = w.heap.size + 1)) (hb : Below w.heap.size w W) :
    StripPost a b u c w (.returned (.agg #[.int .i64 a, .int .i64 b, v2, v3])) W := by
  have hS : ∀ k t, k = w.heap.size + 1 → t ≠ 38 → Typ wr t k → False := fun k t hs ht h => typ_ne h ⟨_, hbr⟩ ht hs
  exact ⟨v2, v3, rfl, R_kept_typ hu hk (fun k t hk hm ht => hS k t hk (by rcases List.mem_cons.1 hm with h | h <;> simp_all [k101, Kd.iso, Kd.pair, Kd.int, Kd.bool, Kd.scalar]) ht), R_kept_typ ho hk (fun k t hk hm ht => hS k t hk (by rcases List.mem_cons.1 hm with h | h <;> simp_all [k73, Kd.iso, Kd.pair, Kd.int, Kd.bool, Kd.scalar]) ht), hb⟩
set_option maxHeartbeats 800000 in
set_option maxRecDepth 100000 in
theorem strip_not (k : Nat) (a b : Int) (A2 : Option Addr) (c2 : Nat) (u : List S101) (A3 : Option Addr) (c3 : Nat) (c : List S73) (w : World) (hr2 : Kd.C k101 w A2 u.length u) (hc2 : u.length ≤ c2) (hr3 : Kd.C k73 w A3 c.length c) (hc3 : c.length ≤ c3)
   (hcopy : impl_copyProto.f a b u c = some (a, b, u, c)) (hpl : impl_isPlainProto.f k a b u c = some false) :
   Calls Try.prog 30 #[.agg #[.int .i64 a, .int .i64 b, .slice A2 u.length c2, .slice A3 c.length c3]] w (StripPost a b u c w) := by
  have hu38 := Try.underlying38
  have hu73 := Try.underlying73
  have X2 := Go.Lib.hid hr2
  have X3 := Go.Lib.hid hr3
  have XC := Go.Lib.hid hcopy
  have XP := Go.Lib.hid hpl
  clear hr2 hr3 hcopy hpl
  go_enter Try.func30, Try.ntmps30
  go_wp2_with fail
  refine (impl_copyProto.calls a b _ _ u _ _ c a b u c _ (Kd.C_below X2.out ?_) hc2 (Kd.C_below X3.out ?_) hc3 XC.out).mono ?_
  · exact below_alloc (below_alloc (Below.refl _ _) _) _
  · exact below_alloc (below_alloc (Below.refl _ _) _) _
  rintro e w1 ⟨v2, v3, rfl, hR2, hR3, hB1⟩
  obtain ⟨A2', c2', rfl⟩ := Kd.R_slice hR2
  obtain ⟨A3', c3', rfl⟩ := Kd.R_slice hR3
  have R2 := Go.Lib.hid hR2
  have R3 := Go.Lib.hid hR3
  have B1 := Go.Lib.hid hB1
  have Bp := blk_below (blk_alloc (blk_new w (.cells #[.int .i64 a, .int .i64 b, .slice A2 u.length c2, .slice A3 c.length c3] 38)) (.cells #[.int .i64 0, .int .i64 0, .slice none 0 0, .slice none 0 0] 38)) hB1
  have Br := blk_below (blk_new (w.alloc (.cells #[.int .i64 a, .int .i64 b, .slice A2 u.length c2, .slice A3 c.length c3] 38)) (.cells #[.int .i64 0, .int .i64 0, .slice none 0 0, .slice none 0 0] 38)) hB1
  rw [World.size_alloc] at Br
  have p0 := blk_cell Bp 0
  have p1 := blk_cell Bp 1
  have p2 := blk_cell Bp 2
  have p3 := blk_cell Bp 3
  simp at p0 p1 p2 p3
  have HBp := Go.Lib.hid Bp
  have HBr := Go.Lib.hid Br
  clear Bp Br
  have hz : w.heap.size + 2 ≤ w1.heap.size := by have := hB1.size; simp at this; omega
  have hz0 : w.heap.size < w1.heap.size := by omega
  have hz1 : w.heap.size + 1 < w1.heap.size := by omega
  have hz2 : ¬ w.heap.size = w1.heap.size := by omega
  have hz3 : ¬ w.heap.size + 1 = w1.heap.size := by omega
  have hz4 : ¬ w1.heap.size = w.heap.size := by omega
  have hz5 : ¬ w1.heap.size = w.heap.size + 1 := by omega
  clear hR2 hR3 hB1
  go_wp2_with fail
  have hBa : Below w.heap.size w (w1.alloc (.cells #[.int .i64 a, .int .i64 b, .slice A2' u.length c2', .slice A3' c.length c3'] 38)) := below_alloc (below_then (below_alloc (below_alloc (Below.refl _ _) _) _) (by simp only [World.size_alloc]; omega) B1.out) _
  refine (impl_isPlainProto.calls k a b _ _ u _ _ c false _ (Kd.C_below X2.out hBa) hc2 (Kd.C_below X3.out hBa) hc3 XP.out).mono ?_
  rintro e w2 ⟨rfl, hB2⟩
  have Bp := blk_below (blk_alloc HBp.out _) hB2
  have Br := blk_below (blk_alloc HBr.out _) hB2
  have Bo := blk_below (blk_new w1 _) hB2
  have R2b := Go.Lib.hid (Kd.R_below (Kd.R_alloc R2.out _) hB2)
  have R3b := Go.Lib.hid (Kd.R_below (Kd.R_alloc R3.out _) hB2)
  have hBw := below_then hBa hBa.size hB2
  have hs2 := hB2.size
  simp only [World.size_alloc] at hs2
  have hgr : w.heap.size + 1 < w2.heap.size := by omega
  obtain ⟨go_, hgo⟩ : ∃ g, g = w1.heap.size := ⟨_, rfl⟩
  rw [← hgo] at Bo
  obtain ⟨o0, o1, o2, o3⟩ := box4 Bo
  obtain ⟨p0', p1', p2', p3'⟩ := box4 Bp
  have KBp := Go.Lib.hid Bp
  have KBr := Go.Lib.hid Br
  have KBo := Go.Lib.hid Bo
  have KHB := Go.Lib.hid hBw
  have R2c := Go.Lib.hid (Kd.R_lower R2b.out (base' := w.heap.size) (by simp only [World.size_alloc]; omega))
  have R3c := Go.Lib.hid (Kd.R_lower R3b.out (base' := w.heap.size) (by simp only [World.size_alloc]; omega))
  clear p0 p1 p2 p3 HBp HBr R2 R3 B1 hBa hB2 Bp Br Bo R2b R3b hBw
  rw [← hgo]
  have hgo1 : ¬ go_ = w.heap.size + 1 := by omega
  have hgo2 : ¬ w.heap.size + 1 = go_ := by omega
  have HGO := Go.Lib.hid (show w.heap.size + 1 < go_ by omega)
  clear hgo hz hz0 hz1 hz2 hz3 hz4 hz5
  obtain ⟨d0, d1, d2, d3⟩ := box4 KBr.out
  have d0f := blk_frozen KBr.out 0
  have d1f := blk_frozen KBr.out 1
  have d2f := blk_frozen KBr.out 2
  have d3f := blk_frozen KBr.out 3
  obtain ⟨W, hW⟩ : ∃ W, W = ((((w2.setCell ⟨w.heap.size + 1, 0, none⟩ (.int .i64 a)).setCell ⟨w.heap.size + 1, 1, none⟩ (.int .i64 b)).setCell ⟨w.heap.size + 1, 2, none⟩ (.slice A2' u.length c2')).setCell ⟨w.heap.size + 1, 3, none⟩ (.slice A3' c.length c3')) := ⟨_, rfl⟩
  have hbr4 : W.heap[w.heap.size + 1]? = some (.cells #[.int .i64 a, .int .i64 b, .slice A2' u.length c2', .slice A3' c.length c3'] 38 (0, 0)) := by
    rw [hW]
    exact (blk_set (blk_set (blk_set (blk_set KBr.out 0 (.int .i64 a)) 1 (.int .i64 b)) 2 (.slice A2' u.length c2')) 3 (.slice A3' c.length c3')).trans rfl
  have hkW : Kept w2 W (fun k => k = w.heap.size + 1) := by
    rw [hW]
    exact ((((Kept.refl w2 (fun k => k = w.heap.size + 1)).setCell (p := ⟨w.heap.size + 1, 0, none⟩) (.inl rfl) _).setCell (p := ⟨w.heap.size + 1, 1, none⟩) (.inl rfl) _).setCell (p := ⟨w.heap.size + 1, 2, none⟩) (.inl rfl) _).setCell (p := ⟨w.heap.size + 1, 3, none⟩) (.inl rfl) _
  have hbW : Below w.heap.size w W := by
    rw [hW]
    exact (((KHB.out.setCell (p := ⟨w.heap.size + 1, 0, none⟩) (by show w.heap.size ≤ w.heap.size + 1; omega) _).setCell (p := ⟨w.heap.size + 1, 1, none⟩) (by show w.heap.size ≤ w.heap.size + 1; omega) _).setCell (p := ⟨w.heap.size + 1, 2, none⟩) (by show w.heap.size ≤ w.heap.size + 1; omega) _).setCell (p := ⟨w.heap.size + 1, 3, none⟩) (by show w.heap.size ≤ w.heap.size + 1; omega) _
  have HE := Go.Lib.hid (show StripPost a b u c w (.returned (.agg #[.int .i64 a, .int .i64 b, .slice A2' u.length c2', .slice A3' c.length c3'])) W from strip_end' KBr.out R2c.out R3c.out hkW hbW)
  obtain ⟨q0, q1, q2, q3⟩ := box4 hbr4
  have HWE := Go.Lib.hid hW
  have HB4 := Go.Lib.hid hbr4
  clear hbr4 hkW hbW hW
  go_wp2_with fail
  rw [← HWE.out]
  refine bodyPost_ret (results_cell_row rfl _ _ (w.heap.size + 1) 38 #[.int .i64 a, .int .i64 b, .slice A2' u.length c2', .slice A3' c.length c3'] (0, 0) _ rfl HB4.out Try.underlying38 rfl (by kernel_rfl)) rfl ?_
  exact HE.out
set_option maxHeartbeats 800000 in
set_option maxRecDepth 100000 in
theorem strip_calls (k : Nat) (a b : Int) (A2 : Option Addr) (c2 : Nat) (u : List S101) (A3 : Option Addr) (c3 : Nat) (c : List S73) (w : World) (hr2 : Kd.C k101 w A2 u.length u) (hc2 : u.length ≤ c2) (hr3 : Kd.C k73 w A3 c.length c) (hc3 : c.length ≤ c3)
   (hcopy : impl_copyProto.f a b u c = some (a, b, u, c)) (hpl : impl_isPlainProto.f k a b u c = some true) (hlen : c.length ≤ 4000) (hpos : 0 < c.length) (hcode : ∀ i : Nat, i < c.length → 18 ≤ (rd_T73 c (i : Int)).f0 → (rd_T73 c (i : Int)).f0 ≤ 21 → 0 ≤ (rd_T73 c (i : Int)).f1) (hcode2 : ∀ i : Nat, i < c.length → 18 ≤ (rd_T73 c (i : Int)).f0 → (rd_T73 c (i : Int)).f0 ≤ 21 → (rd_T73 c (i : Int)).f1 < c.length) :
   Calls Try.prog 30 #[.agg #[.int .i64 a, .int .i64 b, .slice A2 u.length c2, .slice A3 c.length c3]] w (StripPost a b u (stripM c) w) := by
  have hu38 := Try.underlying38
  have hu73 := Try.underlying73
  have X2 := Go.Lib.hid hr2
  have X3 := Go.Lib.hid hr3
  have XC := Go.Lib.hid hcopy
  have XP := Go.Lib.hid hpl
  have HC2 := Go.Lib.hid hcode2
  clear hr2 hr3 hcopy hpl hcode2
  go_enter Try.func30, Try.ntmps30
  go_wp2_with fail
  refine (impl_copyProto.calls a b _ _ u _ _ c a b u c _ (Kd.C_below X2.out ?_) hc2 (Kd.C_below X3.out ?_) hc3 XC.out).mono ?_
  · exact below_alloc (below_alloc (Below.refl _ _) _) _
  · exact below_alloc (below_alloc (Below.refl _ _) _) _
  rintro e w1 ⟨v2, v3, rfl, hR2, hR3, hB1⟩
  obtain ⟨A2', c2', rfl⟩ := Kd.R_slice hR2
  obtain ⟨A3', c3', rfl⟩ := Kd.R_slice hR3
  have R2 := Go.Lib.hid hR2
  have R3 := Go.Lib.hid hR3
  have B1 := Go.Lib.hid hB1
  have Bp := blk_below (blk_alloc (blk_new w (.cells #[.int .i64 a, .int .i64 b, .slice A2 u.length c2, .slice A3 c.length c3] 38)) (.cells #[.int .i64 0, .int .i64 0, .slice none 0 0, .slice none 0 0] 38)) hB1
  have Br := blk_below (blk_new (w.alloc (.cells #[.int .i64 a, .int .i64 b, .slice A2 u.length c2, .slice A3 c.length c3] 38)) (.cells #[.int .i64 0, .int .i64 0, .slice none 0 0, .slice none 0 0] 38)) hB1
  rw [World.size_alloc] at Br
  have p0 := blk_cell Bp 0
  have p1 := blk_cell Bp 1
  have p2 := blk_cell Bp 2
  have p3 := blk_cell Bp 3
  simp at p0 p1 p2 p3
  have HBp := Go.Lib.hid Bp
  have HBr := Go.Lib.hid Br
  clear Bp Br
  have hz : w.heap.size + 2 ≤ w1.heap.size := by have := hB1.size; simp at this; omega
  have hz0 : w.heap.size < w1.heap.size := by omega
  have hz1 : w.heap.size + 1 < w1.heap.size := by omega
  have hz2 : ¬ w.heap.size = w1.heap.size := by omega
  have hz3 : ¬ w.heap.size + 1 = w1.heap.size := by omega
  have hz4 : ¬ w1.heap.size = w.heap.size := by omega
  have hz5 : ¬ w1.heap.size = w.heap.size + 1 := by omega
  clear hR2 hR3 hB1
  go_wp2_with fail
  have hBa : Below w.heap.size w (w1.alloc (.cells #[.int .i64 a, .int .i64 b, .slice A2' u.length c2', .slice A3' c.length c3'] 38)) := below_alloc (below_then (below_alloc (below_alloc (Below.refl _ _) _) _) (by simp only [World.size_alloc]; omega) B1.out) _
  refine (impl_isPlainProto.calls k a b _ _ u _ _ c true _ (Kd.C_below X2.out hBa) hc2 (Kd.C_below X3.out hBa) hc3 XP.out).mono ?_
  rintro e w2 ⟨rfl, hB2⟩
  have Bp := blk_below (blk_alloc HBp.out _) hB2
  have Br := blk_below (blk_alloc HBr.out _) hB2
  have Bo := blk_below (blk_new w1 _) hB2
  have R2b := Go.Lib.hid (Kd.R_below (Kd.R_alloc R2.out _) hB2)
  have R3b := Go.Lib.hid (Kd.R_below (Kd.R_alloc R3.out _) hB2)
  have hBw := below_then hBa hBa.size hB2
  have hs2 := hB2.size
  simp only [World.size_alloc] at hs2
  have hgr : w.heap.size + 1 < w2.heap.size := by omega
  obtain ⟨go_, hgo⟩ : ∃ g, g = w1.heap.size := ⟨_, rfl⟩
  rw [← hgo] at Bo
  obtain ⟨o0, o1, o2, o3⟩ := box4 Bo
  obtain ⟨p0', p1', p2', p3'⟩ := box4 Bp
  have KBp := Go.Lib.hid Bp
  have KBr := Go.Lib.hid Br
  have KBo := Go.Lib.hid Bo
  have KHB := Go.Lib.hid hBw
  have R2c := Go.Lib.hid (Kd.R_lower R2b.out (base' := w.heap.size) (by simp only [World.size_alloc]; omega))
  have R3c := Go.Lib.hid (Kd.R_lower R3b.out (base' := w.heap.size) (by simp only [World.size_alloc]; omega))
  clear p0 p1 p2 p3 HBp HBr R2 R3 B1 hBa hB2 Bp Br Bo R2b R3b hBw
  rw [← hgo]
  have HGO := Go.Lib.hid (show w.heap.size + 1 < go_ by omega)
  clear hgo hz hz0 hz1 hz2 hz3 hz4 hz5
  go_wp2_with (first | ((with_reducible refine gate_dst (N := 23) rfl ?_); refine Kd.R_make Kd.bool (w0 := w) w.heap.size 4 rfl (N := 23) rfl 87 _ _ rfl (c.length : Int) rfl rfl Try.underlying87 (.bool false) 1 info4 rfl (by decide) (by omega) false (ok := fun _ => True) (okp := fun _ => True) rfl (fun _ hk => hk) trivial (by omega) (by omega) KHB.out KHB.out.size ?_; intro v23 w3 hs hb hg hnew; obtain ⟨a23, c23, rfl⟩ := Kd.R_slice hs; have hq := Go.Lib.hid hs; clear hs))
  have hgn : ∀ g : Nat, some g ≠ none := fun g e => by cases e
  have KBp3 := Go.Lib.hid (blk_grown KBp.out hg (hgn _))
  have KBr3 := Go.Lib.hid (blk_grown KBr.out hg (hgn _))
  have KBo3 := Go.Lib.hid (blk_grown KBo.out hg (hgn _))
  have R23 := Go.Lib.hid (Kd.R_grown R2c.out hg (fun k _ => hgn k))
  have R33 := Go.Lib.hid (Kd.R_grown R3c.out hg (fun k _ => hgn k))
  have HB3 := Go.Lib.hid hb
  have hq0 := Go.Lib.hid (show Kd.R Kd.bool 4 w3 w.heap.size (fun _ => True) (.slice a23 c.length c23) (List.replicate c.length false) by simpa using hq.out)
  have hsz3 : w.heap.size ≤ w3.heap.size := HB3.out.size
  clear KBp KBr KBo R2c R3c hg hb hq hnew o0 o1 o2 o3 p0' p1' p2' p3'
  have hgp3 : w.heap.size < w3.heap.size := blk_lt KBp3.out
  have hgr3 : w.heap.size + 1 < w3.heap.size := blk_lt KBr3.out
  have hgo3 : go_ < w3.heap.size := blk_lt KBo3.out
  have W4 := Go.Lib.hid (blk_alloc (blk_alloc (blk_new w3 (.cells #[.slice a23 c.length c23] 87)) (.cells #[] 3)) (.cells #[.slice (some ⟨w3.heap.size + 1, 0, none⟩) 0 0] 44))
  have W5 := Go.Lib.hid (blk_new ((w3.alloc (.cells #[.slice a23 c.length c23] 87)).alloc (.cells #[] 3)) (.cells #[.slice (some ⟨w3.heap.size + 1, 0, none⟩) 0 0] 44))
  have Q5 := Go.Lib.hid (show Kd.R (Kd.int .i64) 3 (((w3.alloc (.cells #[.slice a23 c.length c23] 87)).alloc (.cells #[] 3)).alloc (.cells #[.slice (some ⟨w3.heap.size + 1, 0, none⟩) 0 0] 44)) w.heap.size (fun _ => True) (.slice (some ⟨w3.heap.size + 1, 0, none⟩) 0 0) [] by
    refine Kd.R_alloc ?_ _
    have h := own_lit_of (enc := Value.int .i64) (w3.alloc (.cells #[.slice a23 c.length c23] 87)) w.heap.size 3 [] (by simp only [World.size_alloc]; omega) (by simp)
    rw [World.size_alloc] at h
    exact Kd.R_of_own h (fun _ _ => trivial))
  have HB5 := Go.Lib.hid (show Below w.heap.size w (((w3.alloc (.cells #[.slice a23 c.length c23] 87)).alloc (.cells #[] 3)).alloc (.cells #[.slice (some ⟨w3.heap.size + 1, 0, none⟩) 0 0] 44)) from below_alloc (below_alloc (below_alloc HB3.out _) _) _)
  have V2 := Go.Lib.hid (blk_alloc (blk_alloc (blk_alloc KBp3.out (.cells #[.slice a23 c.length c23] 87)) (.cells #[] 3)) (.cells #[.slice (some ⟨w3.heap.size + 1, 0, none⟩) 0 0] 44))
  have V3 := Go.Lib.hid (blk_alloc (blk_alloc (blk_alloc KBr3.out (.cells #[.slice a23 c.length c23] 87)) (.cells #[] 3)) (.cells #[.slice (some ⟨w3.heap.size + 1, 0, none⟩) 0 0] 44))
  have V4 := Go.Lib.hid (blk_alloc (blk_alloc (blk_alloc KBo3.out (.cells #[.slice a23 c.length c23] 87)) (.cells #[] 3)) (.cells #[.slice (some ⟨w3.heap.size + 1, 0, none⟩) 0 0] 44))
  have V5 := Go.Lib.hid (Kd.R_alloc (Kd.R_alloc (Kd.R_alloc R23.out (.cells #[.slice a23 c.length c23] 87)) (.cells #[] 3)) (.cells #[.slice (some ⟨w3.heap.size + 1, 0, none⟩) 0 0] 44))
  have V6 := Go.Lib.hid (Kd.R_alloc (Kd.R_alloc (Kd.R_alloc R33.out (.cells #[.slice a23 c.length c23] 87)) (.cells #[] 3)) (.cells #[.slice (some ⟨w3.heap.size + 1, 0, none⟩) 0 0] 44))
  have V7 := Go.Lib.hid (Kd.R_alloc (Kd.R_alloc (Kd.R_alloc hq0.out (.cells #[.slice a23 c.length c23] 87)) (.cells #[] 3)) (.cells #[.slice (some ⟨w3.heap.size + 1, 0, none⟩) 0 0] 44))
  refine (come' 0 w3.heap.size (w3.heap.size + 1 + 1) c.length 0 (List.replicate c.length false) [] a23 (some ⟨w3.heap.size + 1, 0, none⟩) c23 0 w _ (by omega) (by simp) rfl hlen (by omega) HB5.out W4.out ?_ V7.out Q5.out (by omega)).mono ?_
  · have := W5.out
    simpa only [World.size_alloc] using this
  rintro e w4 ⟨rfl, a5, c5, H4, H5, HS, HQ, HBw, HK⟩
  have hS : ∀ k t, (k = w3.heap.size + 1 + 1 ∨ Typ (((w3.alloc (.cells #[.slice a23 c.length c23] 87)).alloc (.cells #[] 3)).alloc (.cells #[.slice (some ⟨w3.heap.size + 1, 0, none⟩) 0 0] 44)) 4 k ∨ Typ (((w3.alloc (.cells #[.slice a23 c.length c23] 87)).alloc (.cells #[] 3)).alloc (.cells #[.slice (some ⟨w3.heap.size + 1, 0, none⟩) 0 0] 44)) 3 k) → t ≠ 44 → t ≠ 4 → t ≠ 3 → Typ (((w3.alloc (.cells #[.slice a23 c.length c23] 87)).alloc (.cells #[] 3)).alloc (.cells #[.slice (some ⟨w3.heap.size + 1, 0, none⟩) 0 0] 44)) t k → False := by
    rintro k t (hk | hk | hk) n1 n2 n3 ht
    · have h5 := W5.out
      simp only [World.size_alloc] at h5
      exact typ_ne ht ⟨_, h5⟩ n1 hk
    · exact typ_ne ht hk n2 rfl
    · exact typ_ne ht hk n3 rfl
  have Bp := Go.Lib.hid (typ_kept V2.out HK (fun k hk ht => hS k 38 hk (by decide) (by decide) (by decide) ht))
  have Br := Go.Lib.hid (typ_kept V3.out HK (fun k hk ht => hS k 38 hk (by decide) (by decide) (by decide) ht))
  have Bo := Go.Lib.hid (typ_kept V4.out HK (fun k hk ht => hS k 38 hk (by decide) (by decide) (by decide) ht))
  have Ru := Go.Lib.hid (R_kept_typ V5.out HK (fun k t hk hm ht => hS k t hk (by rcases List.mem_cons.1 hm with h | h <;> simp_all [k101, Kd.iso, Kd.pair, Kd.int, Kd.bool, Kd.scalar]) (by rcases List.mem_cons.1 hm with h | h <;> simp_all [k101, Kd.iso, Kd.pair, Kd.int, Kd.bool, Kd.scalar]) (by rcases List.mem_cons.1 hm with h | h <;> simp_all [k101, Kd.iso, Kd.pair, Kd.int, Kd.bool, Kd.scalar]) ht))
  have Rc := Go.Lib.hid (R_kept_typ V6.out HK (fun k t hk hm ht => hS k t hk (by rcases List.mem_cons.1 hm with h | h <;> simp_all [k73, Kd.iso, Kd.pair, Kd.int, Kd.bool, Kd.scalar]) (by rcases List.mem_cons.1 hm with h | h <;> simp_all [k73, Kd.iso, Kd.pair, Kd.int, Kd.bool, Kd.scalar]) (by rcases List.mem_cons.1 hm with h | h <;> simp_all [k73, Kd.iso, Kd.pair, Kd.int, Kd.bool, Kd.scalar]) ht))
  have B4 := Go.Lib.hid H4
  have B5 := Go.Lib.hid H5
  have Rs := Go.Lib.hid HS
  have Rq := Go.Lib.hid HQ
  have BW := Go.Lib.hid HBw
  clear H4 H5 HS HQ HBw HK hS V2 V3 V4 V5 V6 V7 Q5 HB5 W4 W5 hq0 KBp3 KBr3 KBo3 R23 R33 HB3 KHB
  obtain ⟨g4, hg4⟩ : ∃ g, g = w3.heap.size := ⟨_, rfl⟩
  rw [← hg4]
  rw [← hg4] at B4 B5
  obtain ⟨gp, hgp⟩ : ∃ g, g = w.heap.size := ⟨_, rfl⟩
  go_wp2_with fail
  have FF := Go.Lib.hid (show F1 a b u c A2 A3 A2' A3' a23 c2 c3 c2' c3' c23 go_ g4 w w4 (stM c 0) from ⟨Bp.out, Br.out, Bo.out, Ru.out, Rc.out, B4.out, ⟨a5, c5, B5.out, Rq.out⟩, Rs.out, BW.out⟩)
  have G4 := Go.Lib.hid (show w.heap.size ≤ g4 by omega)
  have HC := Go.Lib.hid hcode
  have HPos := Go.Lib.hid hpos
  clear Bp Br Bo Ru Rc B4 B5 Rs Rq BW hgp3 hgr3 hgo3 hsz3 hs2 hgr hcode hpos
  rw [← hg4]
  clear hg4 hgp gp
  go_loopw [7] (fun v7 wr => ∃ i : Nat, v7 = .int .i64 i ∧ i ≤ (stM c i).2.length ∧ F1 a b u c A2 A3 A2' A3' a23 c2 c3 c2' c3' c23 go_ g4 w wr (stM c i)) (fun v7 _ => 4001 - (intOf v7).toNat)
  case atStart => exact ⟨0, rfl, Nat.zero_le _, FF.out⟩
  case round =>
    obtain ⟨i, rfl, hi, F⟩ := hrel
    clear FF
    have hinv := stM_inv HPos.out HC.out i
    obtain ⟨⟨s, q⟩, hst⟩ : ∃ st, st = stM c i := ⟨_, rfl⟩
    have HST := Go.Lib.hid hst
    rw [← hst] at hi hinv F
    clear hst
    simp only at hi hinv
    obtain ⟨a5, c5, hb5, hrq⟩ := F.b5
    have K5 := Go.Lib.hid hb5
    have KQ := Go.Lib.hid hrq
    have KF := Go.Lib.hid F
    have KI := Go.Lib.hid hinv
    simp only at hrq hb5
    have e5 : wr.cell? ⟨g4 + 1 + 1, 0, none⟩ = some (.slice a5 q.length c5) := (blk_cell hb5 0).trans rfl
    clear hb5 hrq F hinv
    by_cases hlt : i < q.length
    · have hql : q.length ≤ c.length := by
        have h1 := KI.out.2.2
        have h2 := List.count_le_length (a := true) (l := s)
        have h3 := KI.out.1
        simp only at h1 h3
        omega
      have hpm : rd q i ∈ q := by
        simp only [rd, Int.toNat_natCast]
        rw [List.getD_eq_getElem?_getD, List.getElem?_eq_getElem hlt]
        exact List.getElem_mem hlt
      obtain ⟨hp0, hp1⟩ := KI.out.2.1 _ hpm
      obtain ⟨adq, rfl, hcq⟩ := Kd.at_int (xs := q) (Kd.R_reads' KQ.out).2.2 (i : Int) (by omega) (by show (i : Int) < (q.length : Int); omega)
      rw [Int.toNat_natCast] at hcq
      obtain ⟨ad3, hA3, hx0, hx1⟩ := at_T73 (Kd.C_below X3.out KF.out.bw) (rd q i) hp0 hp1
      obtain ⟨e0, e1, e2, e3⟩ := box4 KF.out.bp
      rw [hA3] at e3
      obtain ⟨p, hp⟩ : ∃ p, p = rd q (i : Int) := ⟨_, rfl⟩
      obtain ⟨x, hx⟩ : ∃ x, x = rd_T73 c p := ⟨_, rfl⟩
      have HP := Go.Lib.hid hp
      rw [← hp] at hcq hx0 hx1 hp0 hp1
      rw [← hx] at hx0 hx1
      have HX := Go.Lib.hid hx
      have HA3 := Go.Lib.hid hA3
      clear hp hx hpm hA3
      have hzz : w.heap.size < wr.heap.size := blk_lt KF.out.bp
      have hz5 : g4 + 1 + 1 < wr.heap.size := blk_lt K5.out
      have hzq : adq.block < wr.heap.size := by have := World.block_lt_of_cell? wr _ hcq; simpa only [add_block] using this
      have hz3 : ad3.block < wr.heap.size := by have := World.block_lt_of_cell? wr _ hx0; simpa only [add_block] using this
      obtain ⟨o, ho⟩ : ∃ o, o = x.f0 := ⟨_, rfl⟩
      obtain ⟨y, hy⟩ : ∃ y, y = x.f1 := ⟨_, rfl⟩
      rw [← ho] at hx0
      rw [← hy] at hx1
      have al : ∀ (ob : Obj) (ad : Addr) (v : Value), wr.cell? ad = some v → (wr.alloc ob).cell? ad = some v := fun ob ad v h => (World.cell?_alloc_lt wr _ _ (World.block_lt_of_cell? wr _ h)).trans h
      have hcq' := al (.cells #[.int .i64 0, .int .i64 0] 73) _ _ hcq
      have hx0' := al (.cells #[.int .i64 0, .int .i64 0] 73) _ _ hx0
      have hx1' := al (.cells #[.int .i64 0, .int .i64 0] 73) _ _ hx1
      have e3' := al (.cells #[.int .i64 0, .int .i64 0] 73) _ _ e3
      have e5' := al (.cells #[.int .i64 0, .int .i64 0] 73) _ _ e5
      have hcq2 := al (.cells #[.int .i64 o, .int .i64 y] 73) _ _ hcq
      have e52 := al (.cells #[.int .i64 o, .int .i64 y] 73) _ _ e5
      have HF1 := Go.Lib.hid (F1_alloc KF.out (.cells #[.int .i64 o, .int .i64 y] 73))
      have hsx := Go.Lib.hid (blk_new wr (.cells #[.int .i64 o, .int .i64 y] 73))
      clear al
      have HO := Go.Lib.hid ho
      have HY := Go.Lib.hid hy
      clear ho hy
      have hy0 : 18 ≤ o → o ≤ 21 → 0 ≤ y := by
        intro h1 h2
        have := HC.out p.toNat (by omega)
        rw [show ((p.toNat : Nat) : Int) = p from Int.toNat_of_nonneg hp0, ← HX.out, ← HO.out, ← HY.out] at this
        exact this h1 h2
      have HY0 := Go.Lib.hid hy0
      clear hy0
      by_cases h18 : o = 18
      · subst h18
        have hy0 := HY0.out (by omega) (by omega)
        go_wp2
        go_region
        go_wp2_with fail
        refine calls_gen ?_
        intro w5' h5'
        have F5 := Go.Lib.hid (F1_drawn HF1.out (show Drawn0 (wr.alloc (.cells #[.int .i64 18, .int .i64 y] 73)) w5' from ⟨⟨1, h5'⟩⟩))
        have B5 := Go.Lib.hid (blk_drawn hsx.out (show Drawn0 (wr.alloc (.cells #[.int .i64 18, .int .i64 y] 73)) w5' from ⟨⟨1, h5'⟩⟩))
        clear h5'
        refine (impl_isJump.calls 18 true _ (isJump_true (by omega))).mono ?_
        rintro e w5 ⟨rfl, hd5⟩
        have F6 := Go.Lib.hid (F1_drawn F5.out hd5)
        have B6 := Go.Lib.hid (blk_drawn B5.out hd5)
        clear hd5
        have b60 : w5.cell? ⟨wr.heap.size, 0, none⟩ = some (.int .i64 18) := (blk_cell B6.out 0).trans rfl
        have b61 : w5.cell? ⟨wr.heap.size, 1, none⟩ = some (.int .i64 y) := (blk_cell B6.out 1).trans rfl
        go_wp2_with fail
        refine (F1_come F6.out KI.out hlen G4.out y hy0).mono ?_
        rintro e w7 ⟨rfl, F7, _⟩
        have HF7 := Go.Lib.hid F7
        clear F7
        go_wp2_with fail
        have hE : stepM c (s, q) i = comeM s q y := by
          unfold stepM
          simp only [← HP.out, ← HX.out, ← HO.out, ← HY.out]
          rw [if_pos (by decide), if_pos (by decide)]
        exact round_end HF7.out HST.out hE hlt hql hlen
      · by_cases h24 : o = 24
        · subst h24
          go_wp2
          go_region
          go_wp2_with fail
          refine calls_gen ?_
          intro w5' h5'
          have F5 := Go.Lib.hid (F1_drawn HF1.out (show Drawn0 (wr.alloc (.cells #[.int .i64 24, .int .i64 y] 73)) w5' from ⟨⟨1, h5'⟩⟩))
          have B5 := Go.Lib.hid (blk_drawn hsx.out (show Drawn0 (wr.alloc (.cells #[.int .i64 24, .int .i64 y] 73)) w5' from ⟨⟨1, h5'⟩⟩))
          clear h5'
          refine (impl_isJump.calls 24 false _ (isJump_false (by omega))).mono ?_
          rintro e w5 ⟨rfl, hd5⟩
          have F6 := Go.Lib.hid (F1_drawn F5.out hd5)
          have B6 := Go.Lib.hid (blk_drawn B5.out hd5)
          clear hd5
          have b60 : w5.cell? ⟨wr.heap.size, 0, none⟩ = some (.int .i64 24) := (blk_cell B6.out 0).trans rfl
          have b61 : w5.cell? ⟨wr.heap.size, 1, none⟩ = some (.int .i64 y) := (blk_cell B6.out 1).trans rfl
          have HF7 := Go.Lib.hid F6.out
          go_wp2_with fail
          have hE : stepM c (s, q) i = (s, q) := by
            unfold stepM
            simp only [← HP.out, ← HX.out, ← HO.out, ← HY.out]
            rw [if_neg (by decide), if_pos (by decide)]
          exact round_end HF7.out HST.out hE hlt hql hlen
        · by_cases hj : 18 ≤ o ∧ o ≤ 21
          · have hn1 : (o != 18) = true := by simpa using h18
            have hn2 : (o != 24) = true := by simpa using h24
            obtain ⟨hj1, hj2⟩ := hj
            have hy0 := HY0.out hj1 hj2
            go_wp2
            go_region
            go_wp2_with fail
            refine calls_gen ?_
            intro w5' h5'
            have F5 := Go.Lib.hid (F1_drawn HF1.out (show Drawn0 (wr.alloc (.cells #[.int .i64 o, .int .i64 y] 73)) w5' from by first | exact ⟨⟨0, h5'⟩⟩ | exact ⟨⟨1, h5'⟩⟩))
            have B5 := Go.Lib.hid (blk_drawn hsx.out (show Drawn0 (wr.alloc (.cells #[.int .i64 o, .int .i64 y] 73)) w5' from by first | exact ⟨⟨0, h5'⟩⟩ | exact ⟨⟨1, h5'⟩⟩))
            clear h5'
            refine (F1_come F5.out KI.out hlen G4.out (p + 1) (by omega)).mono ?_
            rintro e w9 ⟨rfl, F9, hb9⟩
            have B9 := Go.Lib.hid (hb9 _ _ B5.out)
            have HF9 := Go.Lib.hid F9
            have KI9 := Go.Lib.hid (comeM_inv (p := p + 1) KI.out (by omega))
            have b90 : w9.cell? ⟨wr.heap.size, 0, none⟩ = some (.int .i64 o) := (blk_cell B9.out 0).trans rfl
            have b91 : w9.cell? ⟨wr.heap.size, 1, none⟩ = some (.int .i64 y) := (blk_cell B9.out 1).trans rfl
            clear F9 hb9
            go_wp2_with fail
            refine (impl_isJump.calls o true _ (isJump_true (by omega))).mono ?_
            rintro e w5 ⟨rfl, hd5⟩
            have F6 := Go.Lib.hid (F1_drawn HF9.out hd5)
            have B6 := Go.Lib.hid (blk_drawn B9.out hd5)
            clear hd5
            have b60 : w5.cell? ⟨wr.heap.size, 0, none⟩ = some (.int .i64 o) := (blk_cell B6.out 0).trans rfl
            have b61 : w5.cell? ⟨wr.heap.size, 1, none⟩ = some (.int .i64 y) := (blk_cell B6.out 1).trans rfl
            go_wp2_with fail
            refine (F1_come F6.out KI9.out hlen G4.out y hy0).mono ?_
            rintro e w7 ⟨rfl, F7, _⟩
            have HF7 := Go.Lib.hid F7
            clear F7
            go_wp2_with fail
            have hE : stepM c (s, q) i = comeM (comeM s q (p + 1)).1 (comeM s q (p + 1)).2 y := by
              unfold stepM
              simp only [← HP.out, ← HX.out, ← HO.out, ← HY.out]
              rw [if_pos (by omega), if_neg (by omega)]
            exact round_end HF7.out HST.out hE hlt hql hlen
          · have hn1 : (o != 18) = true := by simpa using h18
            have hn2 : (o != 24) = true := by simpa using h24
            go_wp2
            go_region
            go_wp2_with fail
            refine calls_gen ?_
            intro w5' h5'
            have F5 := Go.Lib.hid (F1_drawn HF1.out (show Drawn0 (wr.alloc (.cells #[.int .i64 o, .int .i64 y] 73)) w5' from by first | exact ⟨⟨0, h5'⟩⟩ | exact ⟨⟨1, h5'⟩⟩))
            have B5 := Go.Lib.hid (blk_drawn hsx.out (show Drawn0 (wr.alloc (.cells #[.int .i64 o, .int .i64 y] 73)) w5' from by first | exact ⟨⟨0, h5'⟩⟩ | exact ⟨⟨1, h5'⟩⟩))
            clear h5'
            refine (F1_come F5.out KI.out hlen G4.out (p + 1) (by omega)).mono ?_
            rintro e w9 ⟨rfl, F9, hb9⟩
            have B9 := Go.Lib.hid (hb9 _ _ B5.out)
            have HF9 := Go.Lib.hid F9
            have KI9 := Go.Lib.hid (comeM_inv (p := p + 1) KI.out (by omega))
            have b90 : w9.cell? ⟨wr.heap.size, 0, none⟩ = some (.int .i64 o) := (blk_cell B9.out 0).trans rfl
            have b91 : w9.cell? ⟨wr.heap.size, 1, none⟩ = some (.int .i64 y) := (blk_cell B9.out 1).trans rfl
            clear F9 hb9
            go_wp2_with fail
            refine (impl_isJump.calls o false _ (isJump_false (by omega))).mono ?_
            rintro e w5 ⟨rfl, hd5⟩
            have F6 := Go.Lib.hid (F1_drawn HF9.out hd5)
            have B6 := Go.Lib.hid (blk_drawn B9.out hd5)
            clear hd5
            have b60 : w5.cell? ⟨wr.heap.size, 0, none⟩ = some (.int .i64 o) := (blk_cell B6.out 0).trans rfl
            have b61 : w5.cell? ⟨wr.heap.size, 1, none⟩ = some (.int .i64 y) := (blk_cell B6.out 1).trans rfl
            have HF7 := Go.Lib.hid F6.out
            go_wp2_with fail
            have hE : stepM c (s, q) i = comeM s q (p + 1) := by
              unfold stepM
              simp only [← HP.out, ← HX.out, ← HO.out, ← HY.out]
              rw [if_neg (by omega), if_neg (by omega)]
            exact round_end HF7.out HST.out hE hlt hql hlen
    · have hpos := HPos.out
      have hR := Go.Lib.hid (reach_is HST.out hi hlt (inv_len KI.out))
      obtain ⟨hn1, hn2, hn3⟩ := KI.out
      simp only at hn1
      have hrs : Kd.R Kd.bool 4 wr w.heap.size (fun _ => True) (.slice a23 s.length c23) s := by rw [hn1]; exact KF.out.rs
      obtain ⟨gs, cap, ev, hbg, hgl, _⟩ := Kd.R_form hrs (by omega)
      injection ev with ev1 _ ev3
      subst ev1
      subst ev3
      have e4 : wr.cell? ⟨g4, 0, none⟩ = some (.slice (some ⟨gs, 0, none⟩) c.length c23) := (blk_cell KF.out.b4 0).trans rfl
      have hcell := Kd.R_cell false hrs (c.length - 1 : Int) (by omega) (by omega)
      rw [show ((c.length : Int) - 1).toNat = c.length - 1 by omega] at hcell
      obtain ⟨hc1, hc2'⟩ := hcell
      obtain ⟨s', hs'⟩ : ∃ s', s' = s.set (c.length - 1) true := ⟨_, rfl⟩
      have HS' := Go.Lib.hid hs'
      have HN1 := Go.Lib.hid hn1
      clear hn1 hn2 hn3 hrs hs' hbg hgl
      go_wp2_with (first
        | ((with_reducible refine gate_store (t := 4) (p := 68) rfl ?_); refine store_event (t := 4) (p := 68) (v := ?vo68) (w1 := wr.setCell ⟨gs, c.length - 1, none⟩ (.bool true)) ?hg ?ho ?hn ?hr ?_; (case ho => rfl); (case hg => rfl); (case hn => rfl); (case hr => first | (go_simp; done) | (go_simp; rfl)); intro w5 hw5; have F5 := Go.Lib.hid (show F2 a b u c A2 A3 A2' (some ⟨gs, 0, none⟩) c2 c3 c2' c23 go_ g4 w w5 s' (.slice A3' c.length c3') (.slice A3' c.length c3') c by rw [hw5, HS'.out]; exact F1_last KF.out HN1.out); have q4 : w5.cell? ⟨g4, 0, none⟩ = some (.slice (some ⟨gs, 0, none⟩) c.length c23) := (blk_cell F5.out.b4 0).trans rfl; clear hw5)
        | ((with_reducible refine gate_dst (N := 71) rfl ?_); refine Kd.R_make (Kd.int .i64) (w0 := w) w.heap.size 3 rfl (N := 71) rfl 44 _ _ rfl (c.length : Int) rfl rfl Try.underlying44 (.int .i64 0) 8 info3 rfl (by decide) (by omega) 0 (ok := fun _ => True) (okp := fun _ => True) rfl (fun _ hk => hk) trivial (by omega) (by omega) F5.out.bw F5.out.bw.size ?_; intro v71 w6 hs hb hg hnew; obtain ⟨ap, cp, rfl⟩ := Kd.R_slice hs; have P6 := Go.Lib.hid hs; have F6 := Go.Lib.hid (F2_grown F5.out hg hb); clear hs hb hg hnew; obtain ⟨x0, x1, x2, x3⟩ := box4 F6.out.bo; have x3f := blk_frozen F6.out.bo 3)
        | ((with_reducible refine gate_store (t := 36) (p := 72) rfl ?_); refine store_event (t := 36) (p := 72) (v := ?vo72) (w1 := w6.setCell ⟨go_, 3, none⟩ (.slice none 0 0)) ?hg ?ho ?hn ?hr ?_; (case ho => rfl); (case hg => rfl); (case hn => rfl); (case hr => first | (go_simp; done) | (go_simp; rfl)); intro w7 hw7; have F7 := Go.Lib.hid (show F2 a b u c A2 A3 A2' (some ⟨gs, 0, none⟩) c2 c3 c2' c23 go_ g4 w w7 s' (.slice none 0 0) (.slice none 0 0) [] by rw [hw7]; exact F2_code F6.out HGO.out _ (Kd.R_nil k73 73 w6 w.heap.size _)); have P7 := Go.Lib.hid (pl_code P6.out F6.out.bo (.slice none 0 0)); rw [← hw7] at P7; obtain ⟨y0, y1, y2, y3⟩ := box4 F7.out.bp; clear hw7))
      go_wp2_with fail
      have HLN := Go.Lib.hid (show s'.length = c.length by rw [HS'.out, List.length_set]; exact HN1.out)
      obtain ⟨gp, capp, evp, hgpb, hgpl, _⟩ := Kd.R_form P7.out (by simp only [List.length_replicate]; omega)
      injection evp with ev1 _ ev3
      subst ev1
      subst ev3
      have FF := Go.Lib.hid (show ∃ A3o c3o, F2 a b u c A2 A3 A2' (some ⟨gs, 0, none⟩) c2 c3 c2' c23 go_ g4 w w7 s' (.slice A3o (keepM c s' 0).1.length c3o) (.slice A3o (keepM c s' 0).1.length c3o) (keepM c s' 0).1 ∧ Kd.R (Kd.int .i64) 3 w7 w.heap.size (fun _ => True) (.slice (some ⟨gp, 0, none⟩) c.length cp) (keepM c s' 0).2 from ⟨none, 0, F7.out, by simpa [keepM] using P7.out⟩)
      clear hgpb hgpl F7 P7 y0 y1 y2 y3 F6 P6 F5 q4 x0 x1 x2 x3 x3f e4 hc1 hc2' KF KI K5 KQ hlt hi e5 HST
      go_loopw [76] (fun v76 w2_ => ∃ j : Nat, v76 = .int .i64 j ∧ j ≤ c.length ∧ ∃ A3o c3o, F2 a b u c A2 A3 A2' (some ⟨gs, 0, none⟩) c2 c3 c2' c23 go_ g4 w w2_ s' (.slice A3o (keepM c s' j).1.length c3o) (.slice A3o (keepM c s' j).1.length c3o) (keepM c s' j).1 ∧ Kd.R (Kd.int .i64) 3 w2_ w.heap.size (fun _ => True) (.slice (some ⟨gp, 0, none⟩) c.length cp) (keepM c s' j).2) (fun v76 _ => 4001 - (intOf v76).toNat)
      case atStart => exact ⟨0, rfl, Nat.zero_le _, FF.out⟩
      case round =>
        obtain ⟨j, rfl, hj, A3o, c3o, hF, hP⟩ := hrel
        clear FF
        by_cases hlt2 : j < c.length
        · obtain ⟨hl1, hl2⟩ := keepM_len c s' j
          obtain ⟨ol, hol⟩ : ∃ ol, ol = (keepM c s' j).1 := ⟨_, rfl⟩
          obtain ⟨pl, hpl'⟩ : ∃ pl, pl = (keepM c s' j).2 := ⟨_, rfl⟩
          rw [← hol] at hF hl1
          rw [← hpl'] at hP hl2
          obtain ⟨ad3, hA3, hx0, hx1⟩ := at_T73 (Kd.C_below X3.out hF.bw) (j : Int) (by omega) (by omega)
          obtain ⟨x, hx⟩ : ∃ x, x = rd_T73 c (j : Int) := ⟨_, rfl⟩
          rw [← hx, Int.toNat_natCast] at hx0 hx1
          obtain ⟨o, ho⟩ : ∃ o, o = x.f0 := ⟨_, rfl⟩
          obtain ⟨y, hy⟩ : ∃ y, y = x.f1 := ⟨_, rfl⟩
          rw [← ho] at hx0
          rw [← hy] at hx1
          have hP' : Kd.R (Kd.int .i64) 3 wr w.heap.size (fun _ => True) (.slice (some ⟨gp, 0, none⟩) pl.length cp) pl := by rw [hl2]; exact hP
          obtain ⟨hq1, hq2⟩ := Kd.R_cell 0 hP' (j : Int) (by omega) (by omega)
          rw [Int.toNat_natCast] at hq1 hq2
          obtain ⟨f0, f1, f2, f3⟩ := box4 hF.bo
          have g4c : wr.cell? ⟨g4, 0, none⟩ = some (.slice (some ⟨gs, 0, none⟩) c.length c23) := (blk_cell hF.b4 0).trans rfl
          have al : ∀ (ob : Obj) (ad : Addr) (v : Value), wr.cell? ad = some v → (wr.alloc ob).cell? ad = some v := fun ob ad v h => (World.cell?_alloc_lt wr _ _ (World.block_lt_of_cell? wr _ h)).trans h
          have hx0' := al (.cells #[.int .i64 0, .int .i64 0] 73) _ _ hx0
          have hx1' := al (.cells #[.int .i64 0, .int .i64 0] 73) _ _ hx1
          have f3' := al (.cells #[.int .i64 o, .int .i64 y] 73) _ _ f3
          have hq1' := al (.cells #[.int .i64 o, .int .i64 y] 73) _ _ hq1
          have zq : gp < wr.heap.size := by have := World.block_lt_of_cell? wr _ hq1; simpa only [add_block] using this
          have zx : ad3.block < wr.heap.size := by have := World.block_lt_of_cell? wr _ hx0; simpa only [add_block] using this
          clear al
          have zf : (wr.alloc (.cells #[.int .i64 o, .int .i64 y] 73)).frozen? ⟨gp, j, none⟩ = false := (below_alloc (Below.refl wr.heap.size wr) (.cells #[.int .i64 o, .int .i64 y] 73)).frozen (p := ⟨gp, j, none⟩) zq |>.trans hq2
          have HF := Go.Lib.hid (F2_alloc hF (.cells #[.int .i64 o, .int .i64 y] 73))
          have HPl := Go.Lib.hid (Kd.R_alloc hP' (.cells #[.int .i64 o, .int .i64 y] 73))
          have HBX := Go.Lib.hid (blk_new wr (.cells #[.int .i64 o, .int .i64 y] 73))
          have HOL := Go.Lib.hid hol
          have HPL := Go.Lib.hid hpl'
          have HX := Go.Lib.hid hx
          have HO := Go.Lib.hid ho
          have HY := Go.Lib.hid hy
          subst hA3
          clear hF hP hP' hol hpl' hx ho hy
          by_cases hb : s'.getD j false = true
          · go_wp2_with (first
              | ((with_reducible refine gate_store (t := 3) (p := 86) rfl ?_); refine store_event (t := 3) (p := 86) (v := ?vo86) (w1 := (wr.alloc (.cells #[.int .i64 o, .int .i64 y] 73)).setCell ⟨gp, j, none⟩ (.int .i64 (ol.length : Int))) ?hg ?ho ?hn ?hr ?_; (case ho => rfl); (case hg => rfl); (case hn => rfl); (case hr => first | (go_simp; done) | (go_simp; rfl)); intro w8 hw8; have hK8 : Kept (wr.alloc (.cells #[.int .i64 o, .int .i64 y] 73)) w8 (Typ (wr.alloc (.cells #[.int .i64 o, .int .i64 y] 73)) 3) := (by rw [hw8]; exact (Kept.refl _ _).setCell (p := ⟨gp, j, none⟩) (.inl ((R_typ HPl.out).1 gp rfl)) _); have hb8 : Below w.heap.size w w8 := (by rw [hw8]; exact HF.out.bw.setCell (p := ⟨gp, j, none⟩) (Kd.R_base HPl.out gp rfl) _); have F8 := Go.Lib.hid (F2_kept3 HF.out hK8 hb8); have P8 := Go.Lib.hid (show Kd.R (Kd.int .i64) 3 w8 w.heap.size (fun _ => True) (.slice (some ⟨gp, 0, none⟩) pl.length cp) (pl.set j (ol.length : Int)) by rw [hw8]; exact (Kd.R_put HPl.out (j : Int) (ol.length : Int)).1); have X8 := Go.Lib.hid (show w8.heap[wr.heap.size]? = some (.cells #[.int .i64 o, .int .i64 y] 73 (0, 0)) from typ_kept HBX.out hK8 (fun k hk ht => typ_ne ht hk (by decide) rfl)); clear hK8 hb8 hw8; have k4 : w8.cell? ⟨g4, 0, none⟩ = some (.slice (some ⟨gs, 0, none⟩) c.length c23) := (blk_cell F8.out.b4 0).trans rfl; obtain ⟨l0, l1, l2, l3⟩ := box4 F8.out.bo; have m0 : w8.cell? ⟨wr.heap.size, 0, none⟩ = some (.int .i64 o) := (blk_cell X8.out 0).trans rfl; have m1 : w8.cell? ⟨wr.heap.size, 1, none⟩ = some (.int .i64 y) := (blk_cell X8.out 1).trans rfl; have ms : w8.cell? ⟨gs, j, none⟩ = some (.bool true) := (by have := (Kd.R_cell false (show Kd.R Kd.bool 4 w8 w.heap.size (fun _ => True) (.slice (some ⟨gs, 0, none⟩) s'.length c23) s' by rw [HLN.out]; exact F8.out.rs) (j : Int) (by omega) (by rw [HLN.out]; omega)).1; rw [Int.toNat_natCast] at this; rw [this]; simpa [rdOf] using hb))
              | (at_builtin; (refine Kd.R_append k73 (w0 := w) w.heap.size rfl (.tmp 92) (.tmp 94) 36 73 (.agg #[.int .i64 0, .int .i64 0]) 16 rfl Try.underlying36 info73 rfl (by decide) (by omega) (.slice A3o ol.length c3o) ol (⟨o, y⟩ : S73) [.int .i64 o, .int .i64 y] (fun _ => True) (fun _ => False) rfl (by first | (go_simp; done) | (go_simp; rfl)) ?aP (fun _ hk => hk.elim) ?aF ?aO ?aB ?aS ?aL ?_; (case aP => exact k73_mkM _ _ _ (⟨o, y⟩ : S73)); (case aF => exact fun _ _ => trivial); (case aO => exact (by (with_reducible repeat (first | apply Kd.R_alloc | apply Kd.R_drewN | apply Kd.R_drew)); exact F8.out.ro)); (case aB => exact (by repeat (first | exact F8.out.bw | apply below_alloc | apply pw_below_drewN | apply below_drew1))); (case aS => exact (by have h8s := F8.out.bw.size; first | omega | (simp only [World.size_alloc]; omega) | (simp; omega))); (case aL => first | omega | (simp; omega)); intro v1 w9 hown hb1 hg1 hat; obtain ⟨a9, c9, rfl⟩ := Kd.R_slice hown; go_loud (have hk9 : Kept w8 w9 (Typ w8 73) := Kept.of_grown hg1 (Kept.refl w8 _) (fun k hk => .inl (k73_typ F8.out.ro k hk.symm)); have F9 := Go.Lib.hid (F2_kept73 F8.out hk9 hb1 hown); have P9 := Go.Lib.hid (pl_kept73 P8.out hk9); clear hk9 hown hb1 hg1 hat; obtain ⟨r0, r1, r2, r3⟩ := box4 F9.out.bo; have r3f := blk_frozen F9.out.bo 3)))
              | ((with_reducible refine gate_store (t := 36) (p := 96) rfl ?_); refine store_event (t := 36) (p := 96) (v := ?vo96) (w1 := w9.setCell ⟨go_, 3, none⟩ (.slice a9 (ol ++ [(⟨o, y⟩ : S73)]).length c9)) ?hg ?ho ?hn ?hr ?_; (case ho => rfl); (case hg => rfl); (case hn => rfl); (case hr => first | (go_simp; done) | (go_simp; rfl)); intro w10 hw10; have F10 := Go.Lib.hid (show F2 a b u c A2 (some ad3) A2' (some ⟨gs, 0, none⟩) c2 c3 c2' c23 go_ g4 w  w10 s' (.slice a9 (ol ++ [(⟨o, y⟩ : S73)]).length c9) (.slice a9 (ol ++ [(⟨o, y⟩ : S73)]).length c9) (ol ++ [(⟨o, y⟩ : S73)]) by rw [hw10]; exact F2_code F9.out HGO.out _ F9.out.ro); have P10 := Go.Lib.hid (pl_code P9.out F9.out.bo (.slice a9 (ol ++ [(⟨o, y⟩ : S73)]).length c9)); rw [← hw10] at P10; clear hw10))
            exact round2_end F10.out P10.out hl2 (keepM_pos hb HOL.out HPL.out HX.out HO.out HY.out) hlt2 hlen
          · go_wp2_with (first
              | ((with_reducible refine gate_store (t := 3) (p := 86) rfl ?_); refine store_event (t := 3) (p := 86) (v := ?vo86) (w1 := (wr.alloc (.cells #[.int .i64 o, .int .i64 y] 73)).setCell ⟨gp, j, none⟩ (.int .i64 (ol.length : Int))) ?hg ?ho ?hn ?hr ?_; (case ho => rfl); (case hg => rfl); (case hn => rfl); (case hr => first | (go_simp; done) | (go_simp; rfl)); intro w8 hw8; have hK8 : Kept (wr.alloc (.cells #[.int .i64 o, .int .i64 y] 73)) w8 (Typ (wr.alloc (.cells #[.int .i64 o, .int .i64 y] 73)) 3) := (by rw [hw8]; exact (Kept.refl _ _).setCell (p := ⟨gp, j, none⟩) (.inl ((R_typ HPl.out).1 gp rfl)) _); have hb8 : Below w.heap.size w w8 := (by rw [hw8]; exact HF.out.bw.setCell (p := ⟨gp, j, none⟩) (Kd.R_base HPl.out gp rfl) _); have F8 := Go.Lib.hid (F2_kept3 HF.out hK8 hb8); have P8 := Go.Lib.hid (show Kd.R (Kd.int .i64) 3 w8 w.heap.size (fun _ => True) (.slice (some ⟨gp, 0, none⟩) pl.length cp) (pl.set j (ol.length : Int)) by rw [hw8]; exact (Kd.R_put HPl.out (j : Int) (ol.length : Int)).1); have X8 := Go.Lib.hid (show w8.heap[wr.heap.size]? = some (.cells #[.int .i64 o, .int .i64 y] 73 (0, 0)) from typ_kept HBX.out hK8 (fun k hk ht => typ_ne ht hk (by decide) rfl)); clear hK8 hb8 hw8; have k4 : w8.cell? ⟨g4, 0, none⟩ = some (.slice (some ⟨gs, 0, none⟩) c.length c23) := (blk_cell F8.out.b4 0).trans rfl; obtain ⟨l0, l1, l2, l3⟩ := box4 F8.out.bo; have m0 : w8.cell? ⟨wr.heap.size, 0, none⟩ = some (.int .i64 o) := (blk_cell X8.out 0).trans rfl; have m1 : w8.cell? ⟨wr.heap.size, 1, none⟩ = some (.int .i64 y) := (blk_cell X8.out 1).trans rfl; have ms : w8.cell? ⟨gs, j, none⟩ = some (.bool false) := (by have := (Kd.R_cell false (show Kd.R Kd.bool 4 w8 w.heap.size (fun _ => True) (.slice (some ⟨gs, 0, none⟩) s'.length c23) s' by rw [HLN.out]; exact F8.out.rs) (j : Int) (by omega) (by rw [HLN.out]; omega)).1; rw [Int.toNat_natCast] at this; rw [this]; simpa [rdOf] using hb))
              | (at_builtin; (refine Kd.R_append k73 (w0 := w) w.heap.size rfl (.tmp 92) (.tmp 94) 36 73 (.agg #[.int .i64 0, .int .i64 0]) 16 rfl Try.underlying36 info73 rfl (by decide) (by omega) (.slice A3o ol.length c3o) ol (⟨o, y⟩ : S73) [.int .i64 o, .int .i64 y] (fun _ => True) (fun _ => False) rfl (by first | (go_simp; done) | (go_simp; rfl)) ?aP (fun _ hk => hk.elim) ?aF ?aO ?aB ?aS ?aL ?_; (case aP => exact k73_mkM _ _ _ (⟨o, y⟩ : S73)); (case aF => exact fun _ _ => trivial); (case aO => exact (by (with_reducible repeat (first | apply Kd.R_alloc | apply Kd.R_drewN | apply Kd.R_drew)); exact F8.out.ro)); (case aB => exact (by repeat (first | exact F8.out.bw | apply below_alloc | apply pw_below_drewN | apply below_drew1))); (case aS => exact (by have h8s := F8.out.bw.size; first | omega | (simp only [World.size_alloc]; omega) | (simp; omega))); (case aL => first | omega | (simp; omega)); intro v1 w9 hown hb1 hg1 hat; obtain ⟨a9, c9, rfl⟩ := Kd.R_slice hown; go_loud (have hk9 : Kept w8 w9 (Typ w8 73) := Kept.of_grown hg1 (Kept.refl w8 _) (fun k hk => .inl (k73_typ F8.out.ro k hk.symm)); have F9 := Go.Lib.hid (F2_kept73 F8.out hk9 hb1 hown); have P9 := Go.Lib.hid (pl_kept73 P8.out hk9); clear hk9 hown hb1 hg1 hat; obtain ⟨r0, r1, r2, r3⟩ := box4 F9.out.bo; have r3f := blk_frozen F9.out.bo 3)))
              | ((with_reducible refine gate_store (t := 36) (p := 96) rfl ?_); refine store_event (t := 36) (p := 96) (v := ?vo96) (w1 := w9.setCell ⟨go_, 3, none⟩ (.slice a9 (ol ++ [(⟨o, y⟩ : S73)]).length c9)) ?hg ?ho ?hn ?hr ?_; (case ho => rfl); (case hg => rfl); (case hn => rfl); (case hr => first | (go_simp; done) | (go_simp; rfl)); intro w10 hw10; have F10 := Go.Lib.hid (show F2 a b u c A2 (some ad3) A2' (some ⟨gs, 0, none⟩) c2 c3 c2' c23 go_ g4 w  w10 s' (.slice a9 (ol ++ [(⟨o, y⟩ : S73)]).length c9) (.slice a9 (ol ++ [(⟨o, y⟩ : S73)]).length c9) (ol ++ [(⟨o, y⟩ : S73)]) by rw [hw10]; exact F2_code F9.out HGO.out _ F9.out.ro); have P10 := Go.Lib.hid (pl_code P9.out F9.out.bo (.slice a9 (ol ++ [(⟨o, y⟩ : S73)]).length c9)); rw [← hw10] at P10; clear hw10))
            exact round2_end F8.out P8.out hl2 (keepM_neg hb HOL.out HPL.out) hlt2 hlen
        · obtain ⟨hl1, hl2⟩ := keepM_len c s' j
          have hjn : j = c.length := by omega
          subst hjn
          obtain ⟨f0, f1, f2, f3⟩ := box4 hF.bo
          obtain ⟨ol, hol⟩ : ∃ ol, ol = (keepM c s' c.length).1 := ⟨_, rfl⟩
          obtain ⟨pl, hpl'⟩ : ∃ pl, pl = (keepM c s' c.length).2 := ⟨_, rfl⟩
          rw [← hol] at hF hl1 f3
          rw [← hpl'] at hP hl2
          have HF := Go.Lib.hid hF
          have HPl := Go.Lib.hid hP
          have HOL := Go.Lib.hid hol
          have HPL := Go.Lib.hid hpl'
          clear hF hP hol hpl'
          go_wp2_with fail
          clear hlt2 hj f0 f1 f2 f3
          go_loopw [101] (fun v101 w3_ => ∃ j : Nat, v101 = .int .i64 j ∧ j ≤ ol.length ∧ F2 a b u c A2 A3 A2' (some ⟨gs, 0, none⟩) c2 c3 c2' c23 go_ g4 w w3_ s' (.slice A3o ol.length c3o) (.slice A3o ol.length c3o) (jumpM pl ol j) ∧ Kd.R (Kd.int .i64) 3 w3_ w.heap.size (fun _ => True) (.slice (some ⟨gp, 0, none⟩) c.length cp) pl) (fun v101 _ => 4001 - (intOf v101).toNat)
          case atStart => exact ⟨0, rfl, Nat.zero_le _, HF.out, HPl.out⟩
          case round =>
            obtain ⟨j, rfl, hj, hF, hP⟩ := hrel
            clear HF HPl
            by_cases hlt3 : j < ol.length
            · obtain ⟨oo, hoo⟩ : ∃ oo, oo = jumpM pl ol j := ⟨_, rfl⟩
              obtain ⟨i0, hi0, hi1⟩ := keepM_mem c s' c.length (Nat.le_refl _) j (by rw [← HOL.out]; exact hlt3)
              rw [← HOL.out, ← jumpM_get pl ol j j (Nat.le_refl _), ← hoo] at hi1
              have ha := HC.out i0 hi0
              have hb2 := HC2.out i0 hi0
              rw [← hi1] at ha hb2
              rw [← hoo] at hF
              obtain ⟨gr, cr, evr, _, _, _⟩ := Kd.R_form hF.ro (by rw [hoo, jumpM_len]; omega)
              injection evr with er1 er2 er3
              clear er2
              subst er1
              subst er3
              obtain ⟨hx0, hx1, hxf, _⟩ := ins_elem hF.ro j hlt3
              obtain ⟨x, hx⟩ : ∃ x, x = rd_T73 oo (j : Int) := ⟨_, rfl⟩
              rw [← hx] at hx0 hx1 ha hb2
              obtain ⟨o, ho⟩ : ∃ o, o = x.f0 := ⟨_, rfl⟩
              obtain ⟨y, hy⟩ : ∃ y, y = x.f1 := ⟨_, rfl⟩
              rw [← ho] at hx0 ha hb2
              rw [← hy] at hx1 ha hb2
              have al : ∀ (ob : Obj) (ad : Addr) (v : Value), wr.cell? ad = some v → (wr.alloc ob).cell? ad = some v := fun ob ad v h => (World.cell?_alloc_lt wr _ _ (World.block_lt_of_cell? wr _ h)).trans h
              have hx0' := al (.cells #[.int .i64 0, .int .i64 0] 73) _ _ hx0
              have hx1' := al (.cells #[.int .i64 0, .int .i64 0] 73) _ _ hx1
              clear al
              have HF := Go.Lib.hid (F2_alloc hF (.cells #[.int .i64 o, .int .i64 y] 73))
              have HPl := Go.Lib.hid (Kd.R_alloc hP (.cells #[.int .i64 o, .int .i64 y] 73))
              have HBX := Go.Lib.hid (blk_new wr (.cells #[.int .i64 o, .int .i64 y] 73))
              have HOO := Go.Lib.hid hoo
              have HX := Go.Lib.hid hx
              have HO := Go.Lib.hid ho
              have HY := Go.Lib.hid hy
              have HA := Go.Lib.hid ha
              have HB2 := Go.Lib.hid hb2
              clear hF hP hoo hx ho hy hi1 hxf ha hb2
              go_wp2_with fail
              refine calls_gen ?_
              intro w5' h5'
              have hd5' : Drawn0 (wr.alloc (.cells #[.int .i64 o, .int .i64 y] 73)) w5' := by first | exact ⟨⟨0, h5'⟩⟩ | exact ⟨⟨1, h5'⟩⟩
              have F5 := Go.Lib.hid (F2_drawn HF.out hd5')
              have P5 := Go.Lib.hid (pl_drawn HPl.out hd5')
              have B5 := Go.Lib.hid (blk_drawn HBX.out hd5')
              clear h5' hd5' HF HPl HBX hx0 hx1 hx0' hx1'
              by_cases hjmp : 18 ≤ o ∧ o ≤ 21
              · have ha := HA.out hjmp.1 hjmp.2
                have hb2 := HB2.out hjmp.1 hjmp.2
                refine (impl_isJump.calls o true _ (isJump_true hjmp)).mono ?_
                rintro e w5 ⟨rfl, hd5⟩
                have F6 := Go.Lib.hid (F2_drawn F5.out hd5)
                have P6 := Go.Lib.hid (pl_drawn P5.out hd5)
                have B6 := Go.Lib.hid (blk_drawn B5.out hd5)
                clear hd5
                have b61 : w5.cell? ⟨wr.heap.size, 1, none⟩ = some (.int .i64 y) := (blk_cell B6.out 1).trans rfl
                obtain ⟨z0, z1, z2, z3⟩ := box4 F6.out.bo
                obtain ⟨t0, t1, tf, tn⟩ := ins_elem F6.out.ro j hlt3
                have TN := Go.Lib.hid (tn (rd pl y))
                obtain ⟨pq, _⟩ := Kd.R_cell 0 (show Kd.R (Kd.int .i64) 3 w5 w.heap.size (fun _ => True) (.slice (some ⟨gp, 0, none⟩) pl.length cp) pl by rw [hl2]; exact P6.out) y ha (by omega)
                rw [show rdOf 0 pl y = rd pl y from rfl] at pq
                have hTY : Typ w5 73 gr := k73_typ F6.out.ro gr rfl
                have HTY := Go.Lib.hid hTY
                clear tn hTY
                have hk6 : Kept w5 (w5.setCell ⟨gr, j * 2 + 1, none⟩ (.int .i64 (rd pl y))) (Typ w5 73) := (Kept.refl _ _).setCell (p := ⟨gr, j * 2 + 1, none⟩) (.inl HTY.out) _
                have hb6 : Below w.heap.size w (w5.setCell ⟨gr, j * 2 + 1, none⟩ (.int .i64 (rd pl y))) := F6.out.bw.setCell (p := ⟨gr, j * 2 + 1, none⟩) (Kd.R_base F6.out.ro gr rfl) _
                have F7 := Go.Lib.hid (F2_kept73 F6.out hk6 hb6 TN.out.1)
                have P7 := Go.Lib.hid (pl_kept73 P6.out hk6)
                clear hk6 hb6
                go_wp2
                go_region
                all_goals go_wp2_with fail
                all_goals first
                  | exact round3_end F7.out P7.out (jumpM_pos HOO.out HX.out HO.out HY.out hjmp) hlt3 (by omega)
                  | exact round3_end (F2_drawn F7.out ⟨⟨1, rfl⟩⟩) (pl_drawn P7.out ⟨⟨1, rfl⟩⟩) (jumpM_pos HOO.out HX.out HO.out HY.out hjmp) hlt3 (by omega)
                  | trace_state
              · refine (impl_isJump.calls o false _ (isJump_false hjmp)).mono ?_
                rintro e w5 ⟨rfl, hd5⟩
                have F6 := Go.Lib.hid (F2_drawn F5.out hd5)
                have P6 := Go.Lib.hid (pl_drawn P5.out hd5)
                have B6 := Go.Lib.hid (blk_drawn B5.out hd5)
                clear hd5
                have b61 : w5.cell? ⟨wr.heap.size, 1, none⟩ = some (.int .i64 y) := (blk_cell B6.out 1).trans rfl
                go_wp2_with fail
                exact round3_end F6.out P6.out (jumpM_neg HOO.out HX.out HO.out hjmp) hlt3 (by omega)
            · have hjn : j = ol.length := by omega
              subst hjn
              obtain ⟨e0, e1, e2, e3⟩ := box4 hF.bo
              obtain ⟨d0, d1, d2, d3⟩ := box4 hF.br
              have d0f := blk_frozen hF.br 0
              have d1f := blk_frozen hF.br 1
              have d2f := blk_frozen hF.br 2
              have d3f := blk_frozen hF.br 3
              have HF := Go.Lib.hid hF
              have HRu := Go.Lib.hid hF.ru
              have HRo := Go.Lib.hid hF.ro
              have hgo1 : ¬ go_ = w.heap.size + 1 := by have := HGO.out; omega
              have hgo2 : ¬ w.heap.size + 1 = go_ := by have := HGO.out; omega
              obtain ⟨W, hW⟩ : ∃ W, W = ((((wr.setCell ⟨w.heap.size + 1, 0, none⟩ (.int .i64 a)).setCell ⟨w.heap.size + 1, 1, none⟩ (.int .i64 b)).setCell ⟨w.heap.size + 1, 2, none⟩ (.slice A2' u.length c2')).setCell ⟨w.heap.size + 1, 3, none⟩ (.slice A3o ol.length c3o)) := ⟨_, rfl⟩
              have hbr4 : W.heap[w.heap.size + 1]? = some (.cells #[.int .i64 a, .int .i64 b, .slice A2' u.length c2', .slice A3o ol.length c3o] 38 (0, 0)) := by
                rw [hW]
                exact (blk_set (blk_set (blk_set (blk_set HF.out.br 0 (.int .i64 a)) 1 (.int .i64 b)) 2 (.slice A2' u.length c2')) 3 (.slice A3o ol.length c3o)).trans rfl
              have hkW : Kept wr W (fun k => k = w.heap.size + 1) := by
                rw [hW]
                exact ((((Kept.refl wr (fun k => k = w.heap.size + 1)).setCell (p := ⟨w.heap.size + 1, 0, none⟩) (.inl rfl) _).setCell (p := ⟨w.heap.size + 1, 1, none⟩) (.inl rfl) _).setCell (p := ⟨w.heap.size + 1, 2, none⟩) (.inl rfl) _).setCell (p := ⟨w.heap.size + 1, 3, none⟩) (.inl rfl) _
              have hbW : Below w.heap.size w W := by
                rw [hW]
                exact (((HF.out.bw.setCell (p := ⟨w.heap.size + 1, 0, none⟩) (by show w.heap.size ≤ w.heap.size + 1; omega) _).setCell (p := ⟨w.heap.size + 1, 1, none⟩) (by show w.heap.size ≤ w.heap.size + 1; omega) _).setCell (p := ⟨w.heap.size + 1, 2, none⟩) (by show w.heap.size ≤ w.heap.size + 1; omega) _).setCell (p := ⟨w.heap.size + 1, 3, none⟩) (by show w.heap.size ≤ w.heap.size + 1; omega) _
              have HE := Go.Lib.hid (show StripPost a b u (stripM c) w (.returned (.agg #[.int .i64 a, .int .i64 b, .slice A2' u.length c2', .slice A3o ol.length c3o])) W from strip_end HF.out HRu.out HRo.out hkW hbW (by unfold stripM; rw [hR.out, ← HS'.out, ← HOL.out, ← HPL.out]))
              obtain ⟨q0, q1, q2, q3⟩ := box4 hbr4
              have HWE := Go.Lib.hid hW
              have HB4 := Go.Lib.hid hbr4
              clear hF hP hbr4 hkW hbW hW
              go_wp2_with fail
              rw [← HWE.out]
              refine bodyPost_ret (results_cell_row rfl _ _ (w.heap.size + 1) 38 #[.int .i64 a, .int .i64 b, .slice A2' u.length c2', .slice A3o ol.length c3o] (0, 0) _ rfl HB4.out Try.underlying38 rfl (by kernel_rfl)) rfl ?_
              exact HE.out
/-- A code on which the way through is told. -/
def codeOk (c : List S73) : Prop := 0 < c.length ∧ c.length ≤ 4000 ∧ ∀ x ∈ c, 18 ≤ x.f0 → x.f0 ≤ 21 → 0 ≤ x.f1 ∧ x.f1 < c.length
instance (c : List S73) : Decidable (codeOk c) := by unfold codeOk; infer_instance
def impl_Strip.f (k : Nat) (a0_0 : Int) (a0_1 : Int) (l0_2 : List (S101)) (l0_3 : List (S73)) : Option (Int × Int × (List (S101)) × (List (S73))) :=
  (impl_copyProto.f a0_0 a0_1 l0_2 l0_3).bind fun t => (impl_isPlainProto.f k a0_0 a0_1 l0_2 l0_3).bind fun p => if p = true then (if codeOk l0_3 then some (a0_0, a0_1, l0_2, stripM l0_3) else none) else some t
theorem impl_Strip.mono : ∀ a0 a1 a2 a3 k, LeO (impl_Strip.f k a0 a1 a2 a3) (impl_Strip.f (k + 1) a0 a1 a2 a3) := by
  intro a0 a1 a2 a3 k r h
  obtain ⟨t, ht, h⟩ := Option.bind_eq_some_iff.1 h
  obtain ⟨p, hp, h⟩ := Option.bind_eq_some_iff.1 h
  exact Option.bind_eq_some_iff.2 ⟨t, ht, Option.bind_eq_some_iff.2 ⟨p, impl_isPlainProto.mono a0 a1 a2 a3 k p hp, h⟩⟩
theorem copy_is {a b : Int} {u : List S101} {c : List S73} {t : Int × Int × (List (S101)) × (List (S73))} (h : impl_copyProto.f a b u c = some t) : t = (a, b, u, c) := by
  unfold impl_copyProto.f at h
  split at h
  · split at h
    · exact (Option.some.inj h).symm
    · cases h
  · cases h
theorem codeOk_at {c : List S73} (h : codeOk c) (i : Nat) (hi : i < c.length) (h1 : 18 ≤ (rd_T73 c (i : Int)).f0) (h2 : (rd_T73 c (i : Int)).f0 ≤ 21) : 0 ≤ (rd_T73 c (i : Int)).f1 ∧ (rd_T73 c (i : Int)).f1 < c.length := by
  have hm : rd_T73 c (i : Int) ∈ c := by
    simp only [rd_T73, Int.toNat_natCast]
    rw [List.getD_eq_getElem?_getD, List.getElem?_eq_getElem hi]
    exact List.getElem_mem hi
  exact h.2.2 _ hm h1 h2
theorem impl_Strip.calls (k : Nat) (a0_0 : Int) (a0_1 : Int) (A0_2 : Option Addr) (c0_2 : Nat) (l0_2 : List (S101)) (A0_3 : Option Addr) (c0_3 : Nat) (l0_3 : List (S73)) (r1 : Int) (r2 : Int) (r3 : List (S101)) (r4 : List (S73)) (w : World) (hr0_2 : Kd.C k101 w A0_2 l0_2.length l0_2) (hc0_2 : l0_2.length ≤ c0_2) (hr0_3 : Kd.C k73 w A0_3 l0_3.length l0_3) (hc0_3 : l0_3.length ≤ c0_3) (h : impl_Strip.f k a0_0 a0_1 l0_2 l0_3 = some (r1, r2, r3, r4)) :
    Calls Try.prog 30 #[.agg #[.int .i64 a0_0, .int .i64 a0_1, .slice A0_2 l0_2.length c0_2, .slice A0_3 l0_3.length c0_3]] w fun e w' => ∃ v2_ v3_ : Value, e = .returned (.agg #[.int .i64 r1, .int .i64 r2, v2_, v3_]) ∧ Kd.R k101 101 w' w.heap.size (fun _ => True) v2_ r3 ∧ Kd.R k73 73 w' w.heap.size (fun _ => True) v3_ r4 ∧ Below w.heap.size w w' := by
  obtain ⟨t, ht, h⟩ := Option.bind_eq_some_iff.1 h
  obtain ⟨p, hp, h⟩ := Option.bind_eq_some_iff.1 h
  obtain rfl := copy_is ht
  cases p with
  | true =>
    rw [if_pos rfl] at h
    by_cases hc : codeOk l0_3
    · rw [if_pos hc] at h
      simp only [Option.some.injEq, Prod.mk.injEq] at h
      obtain ⟨rfl, rfl, rfl, rfl⟩ := h
      exact strip_calls k a0_0 a0_1 A0_2 c0_2 l0_2 A0_3 c0_3 l0_3 w hr0_2 hc0_2 hr0_3 hc0_3 ht hp hc.2.1 hc.1 (fun i hi h1 h2 => (codeOk_at hc i hi h1 h2).1) (fun i hi h1 h2 => (codeOk_at hc i hi h1 h2).2)
    · rw [if_neg hc] at h
      cases h
  | false =>
    rw [if_neg (by simp)] at h
    simp only [Option.some.injEq, Prod.mk.injEq] at h
    obtain ⟨rfl, rfl, rfl, rfl⟩ := h
    exact strip_not k a0_0 a0_1 A0_2 c0_2 l0_2 A0_3 c0_3 l0_3 w hr0_2 hc0_2 hr0_3 hc0_3 ht hp


end Go.Proofs.Ytcbjdodehjpddaa.PFnExactStrip
