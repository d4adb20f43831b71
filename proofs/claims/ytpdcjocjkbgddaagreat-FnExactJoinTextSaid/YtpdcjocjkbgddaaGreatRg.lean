/- Arenas: marks, and where values lead. -/
import Derived.Test.YtpdcjocjkbgddaaGreatRf
namespace Go.Proofs.YtpdcjocjkbgddaaGreat.Abs
open Go.RowKit
set_option linter.unusedVariables false
set_option linter.unusedSimpArgs false
set_option maxRecDepth 20000
theorem po {α : Type} {x : α} {K : α → Prop} (h : K x) : optA (some x) K := h
def gi (l : List Int) (i : Int) : Int := l.getD i.toNat 0
theorem ri {m : Mem} {a : Option Addr} {l : List Int} {i : Int} {n : Nat} {K : Addr → Prop} (h : Rd m a l) (hn : l.length = n) (h0 : 0 ≤ i) (hi : i < n)
    (hK : ∀ ad, a = some ad → (∀ q : Mem, Mem.le m q → q.cell? (ad.add (i.toNat * 1)) = some (.int .i64 (gi l i))) → K ad) : optA a fun ad => 0 ≤ i ∧ i < (n : Int) ∧ K ad :=
  at1 (0 : Int) (fun x : Int => .int .i64 x) (fun _ => rfl) h hn h0 hi hK
def u8s (l : List Int) : List U8 := l.map U8.mk
theorem u8s_get (l : List Int) (i : Nat) : ((u8s l).getD i ⟨0⟩).v = l.getD i 0 := by
  unfold u8s
  rw [List.getD_eq_getElem?_getD, List.getD_eq_getElem?_getD, List.getElem?_map]
  cases l[i]? <;> rfl
theorem ru {m : Mem} {a : Option Addr} {l : List Int} {i : Int} {n : Nat} {K : Addr → Prop} (h : Rd m a (u8s l)) (hn : l.length = n) (h0 : 0 ≤ i) (hi : i < n)
    (hK : ∀ ad, a = some ad → (∀ q : Mem, Mem.le m q → q.cell? (ad.add (i.toNat * 1)) = some (.int .u8 (gi l i))) → K ad) : optA a fun ad => 0 ≤ i ∧ i < (n : Int) ∧ K ad :=
  at1 (⟨0⟩ : U8) (fun x : U8 => .int .u8 x.v) (fun _ => rfl) h (by unfold u8s; rw [List.length_map]; exact hn) h0 hi fun ad ha hd => hK ad ha fun q hq => by
    have := hd q hq
    rw [u8s_get] at this
    exact this
/-- Marks of an arena that is tiled. -/
structure MkOk (a : Ar) (mk : List Int) : Prop where
  n : mk.length = a.ws.length
  v : ∀ p : Int, 0 ≤ p → p < mk.length → gi mk p = 0 ∨ gi mk p = 1 ∨ gi mk p = 2 ∨ gi mk p = 3
  w : ∀ p : Int, 0 ≤ p → p < mk.length → gi mk p ≠ 0 → 0 ≤ whereW a.ws p ∧ whereW a.ws p < a.ws.length ∧ placeA a p = whereW a.ws p
def leadsB (a : Ar) (mk : List Int) (v : Vl) (frm : Int) : Bool :=
  if isRefB v then if mk.length ≤ v.2 then false else
    if gi mk v.2 = 1 ∧ frm ≠ 3 ∨ (gi mk v.2 = 2 ∨ gi mk v.2 = 3) ∧ frm ≠ 1 then decide ((lookW a.ws (whereW a.ws v.2)).1 = kindT v.1) else false else true
theorem ref_pos {v : Vl} (h : valOkB v = true) (hr : isRefB v = true) : 0 < v.2 := by
  unfold valOkB at h
  have hk : kindT v.1 ≠ 0 := by unfold isRefB at hr; simpa using hr
  unfold kindT at hk
  repeat' split at h
  all_goals first | (simp at h; omega) | (rename_i c; simp [c] at hk; done)
def s59 : Spec := fun args m Q => ∃ (s r mkS : Sl) (a : Ar) (mk : List Int) (v : Vl) (frm : Int), args = [vA s r a, vs mkS, vVl v, .int .i64 frm] ∧ ArAt m s r a ∧ a.wf ∧ mkS.n = mk.length ∧ Rd m mkS.a mk ∧ MkOk a mk ∧ valOkB v = true ∧ Q (.bool (leadsB a mk v frm)) m
theorem f59 (t : Tab) (h100 : look t 100 = s100) (h101 : look t 101 = s101) (h97 : look t 97 = s97) (h56 : look t 56 = s56) : ∀ args m Q, s59 args m Q → FA Tryz.prog (look t) kp59 Tryz.f59 args m Q := by
  rintro args m Q ⟨s, r, mkS, a, mk, v, frm, rfl, hA, hw, hmn, hM, hO, hv, hQ⟩
  show FA Tryz.prog (look t) kp59 Tryz.f59 [.agg #[.slice s.a s.n s.c, .int .i64 a.semi, .int .i64 a.to, .int .i64 a.top, .bool a.cyc, .int .i64 a.scan, .int .i64 a.old, .int .i64 a.cop, .int .i64 a.ser, .slice r.a r.n r.c], .slice mkS.a mkS.n mkS.c, .agg #[.int .i64 v.1, .int .i64 v.2], .int .i64 frm] m Q
  rw [e59]
  unfold leadsB at hQ
  refine newA_intro fun g1 m2 hg1 e2 hb1 hle2 => newA_intro fun g3 m4 hg3 e4 hb3 hle4 => ⟨_, cell_of hb3 0, _, cell_of hb3 1, via h100 ⟨v, rfl, _, rfl, ?_⟩⟩
  have hb1 := hle4 _ _ hb1
  have hA4 := hA.le (Mem.le_trans hle2 hle4)
  have l4 := Mem.le_trans hle2 hle4
  cases hr : isRefB v with
  | false => rw [if_pos (by decide)]; rw [hr] at hQ; exact ret_intro l4 hQ
  | true =>
    rw [if_neg (by decide)]
    rw [hr, if_pos rfl] at hQ
    have hp := ref_pos hv hr
    refine ⟨_, cell_of hb3 1, ?_⟩
    by_cases c : (mk.length : Int) ≤ v.2
    · rw [if_pos (by simp; omega)]; rw [if_pos c] at hQ; exact ret_intro l4 hQ
    · rw [if_neg (by simp; omega)]; rw [if_neg c] at hQ
      refine ⟨_, cell_of hb3 1, ri (hM.le l4) hmn.symm (by omega) (by omega) fun ad had hd => ⟨_, hd _ (Mem.le_refl _), ?_⟩⟩
      have hv1 := hO.v v.2 (by omega) (by omega)
      have hw1 := hO.w v.2 (by omega) (by omega)
      have hnn := hO.n
      by_cases c0 : gi mk v.2 = 0
      · rw [c0]
        iterate 3 rw [if_neg (by decide)]
        rw [if_neg (by omega)] at hQ
        exact ⟨Mem.le m4, Mem.le_refl _, ret_intro l4 hQ⟩
      obtain ⟨w0, w1, w2⟩ := hw1 c0
      have t1 : gi mk v.2 = 1 ∧ frm ≠ 3 ∨ (gi mk v.2 = 2 ∨ gi mk v.2 = 3) ∧ frm ≠ 1 → ret Q (.bool ((lookW a.ws (whereW a.ws v.2)).1 == kindT v.1)) m4 := by
        intro hc
        rw [if_pos hc] at hQ
        exact ret_bool l4 hQ (by apply Bool.eq_iff_iff.2; simp)
      rcases hv1.resolve_left c0 with e | e | e
      · rw [e] at t1 hQ ⊢
        rw [if_pos (by decide)]
        by_cases d : frm = 3
        · subst d
          rw [if_neg (by decide)]
          iterate 2 rw [if_neg (by decide)]
          rw [if_neg (by decide)] at hQ
          exact ⟨Mem.le m4, Mem.le_refl _, ret_intro l4 hQ⟩
        · rw [if_pos (by simpa using d)]
          exact ⟨Mem.le m4, Mem.le_refl _, _, _, _, held (cell_of hb1 0), _, held (cell_of hb1 1), _, held (cell_of hb1 2), _, held (cell_of hb1 3), _, held (cell_of hb1 4), _, held (cell_of hb1 5), _, held (cell_of hb1 6), _, held (cell_of hb1 7), _, held (cell_of hb1 8), _, _, _, held (cell_of hb1 9), _, _, _, held (cell_of hb1 0), _, held (cell_of hb1 1), _, held (cell_of hb1 2), _, held (cell_of hb1 3), _, held (cell_of hb1 4), _, held (cell_of hb1 5), _, held (cell_of hb1 6), _, held (cell_of hb1 7), _, held (cell_of hb1 8), _, _, _, held (cell_of hb1 9), _, held (cell_of hb3 1), _, held (cell_of hb3 0), via h97 ⟨s, r, a, _, rfl, ⟨hA4, hw, by omega, by omega⟩, _, rfl, Mem.le_refl _, via h56 ⟨s, r, a, _, rfl, ⟨hA4, hw, w0, w1⟩, _, _, _, rfl, Mem.le_refl _, via h101 ⟨_, rfl, _, rfl, Mem.le_refl _, t1 (.inl ⟨rfl, d⟩)⟩⟩⟩⟩
      · rw [e] at t1 hQ ⊢
        rw [if_neg (by decide), if_pos (by decide)]
        refine ⟨Mem.le m4, Mem.le_refl _, ?_⟩
        by_cases d : frm = 1
        · subst d
          rw [if_neg (by decide)]
          rw [if_neg (by decide)] at hQ
          exact ret_intro l4 hQ
        · rw [if_pos (by simpa using d)]
          exact ⟨_, _, _, held (cell_of hb1 0), _, held (cell_of hb1 1), _, held (cell_of hb1 2), _, held (cell_of hb1 3), _, held (cell_of hb1 4), _, held (cell_of hb1 5), _, held (cell_of hb1 6), _, held (cell_of hb1 7), _, held (cell_of hb1 8), _, _, _, held (cell_of hb1 9), _, _, _, held (cell_of hb1 0), _, held (cell_of hb1 1), _, held (cell_of hb1 2), _, held (cell_of hb1 3), _, held (cell_of hb1 4), _, held (cell_of hb1 5), _, held (cell_of hb1 6), _, held (cell_of hb1 7), _, held (cell_of hb1 8), _, _, _, held (cell_of hb1 9), _, held (cell_of hb3 1), _, held (cell_of hb3 0), via h97 ⟨s, r, a, _, rfl, ⟨hA4, hw, by omega, by omega⟩, _, rfl, Mem.le_refl _, via h56 ⟨s, r, a, _, rfl, ⟨hA4, hw, w0, w1⟩, _, _, _, rfl, Mem.le_refl _, via h101 ⟨_, rfl, _, rfl, Mem.le_refl _, t1 (.inr ⟨.inl rfl, d⟩)⟩⟩⟩⟩
      · rw [e] at t1 hQ ⊢
        iterate 2 rw [if_neg (by decide)]
        rw [if_pos (by decide)]
        refine ⟨Mem.le m4, Mem.le_refl _, ?_⟩
        by_cases d : frm = 1
        · subst d
          rw [if_neg (by decide)]
          rw [if_neg (by decide)] at hQ
          exact ret_intro l4 hQ
        · rw [if_pos (by simpa using d)]
          exact ⟨_, _, _, held (cell_of hb1 0), _, held (cell_of hb1 1), _, held (cell_of hb1 2), _, held (cell_of hb1 3), _, held (cell_of hb1 4), _, held (cell_of hb1 5), _, held (cell_of hb1 6), _, held (cell_of hb1 7), _, held (cell_of hb1 8), _, _, _, held (cell_of hb1 9), _, _, _, held (cell_of hb1 0), _, held (cell_of hb1 1), _, held (cell_of hb1 2), _, held (cell_of hb1 3), _, held (cell_of hb1 4), _, held (cell_of hb1 5), _, held (cell_of hb1 6), _, held (cell_of hb1 7), _, held (cell_of hb1 8), _, _, _, held (cell_of hb1 9), _, held (cell_of hb3 1), _, held (cell_of hb3 0), via h97 ⟨s, r, a, _, rfl, ⟨hA4, hw, by omega, by omega⟩, _, rfl, Mem.le_refl _, via h56 ⟨s, r, a, _, rfl, ⟨hA4, hw, w0, w1⟩, _, _, _, rfl, Mem.le_refl _, via h101 ⟨_, rfl, _, rfl, Mem.le_refl _, t1 (.inr ⟨.inr rfl, d⟩)⟩⟩⟩⟩
/-- The survey of an arena. -/
structure Svy (m : Mem) (gs g : Nat) (s r is : Sl) (ms mb : Option Nat) (a : Ar) (mk : List Int) : Prop where
  b : m gs = some (.cells #[.pointer (some ⟨g, 0, none⟩), vs is, .map ms, .map mb] 86 (0, 0))
  p : Ptr m g s r a
  a : ArAt m s r a
  n : mk.length = is.n
  r : Rd m is.a (u8s mk)
theorem Svy.le {m m' : Mem} {gs g : Nat} {s r is : Sl} {ms mb : Option Nat} {a : Ar} {mk : List Int} (h : Svy m gs g s r is ms mb a mk) (hl : Mem.le m m') : Svy m' gs g s r is ms mb a mk := ⟨hl _ _ h.b, hl _ _ h.p, h.a.le hl, h.n, h.r.le hl⟩
def frmA (a : Ar) (mk : List Int) (at_ : Int) : Int := if at_ < 0 then 1 else if gi mk at_ = 1 then if a.cyc = true ∧ a.scan ≤ at_ then 2 else 1 else 3
def s109 : Spec := fun args m Q => ∃ (gs g : Nat) (s r is : Sl) (ms mb : Option Nat) (a : Ar) (mk : List Int) (v : Vl) (at_ : Int), args = [.pointer (some ⟨gs, 0, none⟩), vVl v, .int .i64 at_] ∧ Svy m gs g s r is ms mb a mk ∧ a.sm ∧ a.wf ∧ MkOk a mk ∧ valOkB v = true ∧ (at_ < 0 ∨ 0 ≤ at_ ∧ at_ < mk.length ∧ (gi mk at_ = 1 ∨ gi mk at_ = 2)) ∧ Q (.bool (leadsB a mk v (frmA a mk at_))) m
theorem f109 (t : Tab) (h137 : look t 137 = s137) (h136 : look t 136 = s136) (h129 : look t 129 = s129) (h86 : look t 86 = s86) : ∀ args m Q, s109 args m Q → FA Tryz.prog (look t) kp109 Tryz.f109 args m Q := by
  rintro args m Q ⟨gs, g, s, r, is, ms, mb, a, mk, v, at_, rfl, hS, hsm, hw, hO, hv, hat, hQ⟩
  show FA Tryz.prog (look t) kp109 Tryz.f109 [.pointer (some ⟨gs, 0, none⟩), .agg #[.int .i64 v.1, .int .i64 v.2], .int .i64 at_] m Q
  rw [e109]
  unfold leadsB at hQ
  refine newA_intro fun g1 m2 hg1 e2 hb1 hle2 => ⟨_, cell_of hb1 0, _, cell_of hb1 1, via h137 ⟨v, rfl, _, rfl, ?_⟩⟩
  have hS2 := hS.le hle2
  have hs2 := hS2.b
  have hP2 := hS2.p
  have hA2 := hS2.a
  cases hr : isRefB v with
  | false => rw [if_pos (by decide)]; rw [hr] at hQ; exact ret_intro hle2 hQ
  | true =>
    rw [if_neg (by decide)]
    rw [hr, if_pos rfl] at hQ
    have hp := ref_pos hv hr
    have hmn := hS.n
    refine ⟨Mem.le m2, Mem.le_refl _, _, held (cell_of hb1 1), _, _, _, held (cell_of hs2 1), ?_⟩
    by_cases c : (mk.length : Int) ≤ v.2
    · rw [if_pos (by simp; omega)]; rw [if_pos c] at hQ; exact ret_intro hle2 hQ
    · rw [if_neg (by simp; omega)]; rw [if_neg c] at hQ
      refine ⟨Mem.le m2, Mem.le_refl _, _, _, _, held (cell_of hs2 1), _, held (cell_of hb1 1), ru hS2.r hmn (by omega) (by omega) fun ad had hd => ⟨_, hd, ?_⟩⟩
      have hv1 := hO.v v.2 (by omega) (by omega)
      have hw1 := hO.w v.2 (by omega) (by omega)
      have hnn := hO.n
      have t0 : ¬ (gi mk v.2 = 1 ∧ frmA a mk at_ ≠ 3 ∨ (gi mk v.2 = 2 ∨ gi mk v.2 = 3) ∧ frmA a mk at_ ≠ 1) → ret Q (.bool false) m2 := by
        intro hc
        rw [if_neg hc] at hQ
        exact ret_intro hle2 hQ
      have t1 : gi mk v.2 = 1 ∧ frmA a mk at_ ≠ 3 ∨ (gi mk v.2 = 2 ∨ gi mk v.2 = 3) ∧ frmA a mk at_ ≠ 1 → ret Q (.bool ((lookW a.ws (placeA a v.2)).1 == kindT v.1)) m2 := by
        intro hc
        have w2 := (hw1 (by omega)).2.2
        rw [if_pos hc] at hQ
        rw [w2]
        exact ret_bool hle2 hQ (by apply Bool.eq_iff_iff.2; simp)
      generalize hx : gi mk v.2 = x at *
      rcases hat with hneg | ⟨a0, a1, ha⟩
      · have hf : frmA a mk at_ = 1 := by unfold frmA; rw [if_pos hneg]
        rw [hf] at t0 t1
        rw [if_pos (by simpa using hneg)]
        rcases hv1 with rfl | rfl | rfl | rfl
        · rw [if_pos (by decide)]; exact t0 (by decide)
        · obtain ⟨w0, w1, w2⟩ := hw1 (by decide)
          have hc : (1 : Int) = 1 ∧ (1 : Int) ≠ 3 ∨ ((1 : Int) = 2 ∨ (1 : Int) = 3) ∧ (1 : Int) ≠ 1 := by decide
          rw [if_neg (by decide), if_pos (by decide), if_neg (by decide)]
          exact ⟨Mem.le m2, Mem.le_refl _, _, held (cell_of hs2 0), _, held (cell_of hs2 0), _, held (cell_of hb1 0), _, held (cell_of hb1 1), _, held (cell_of hb1 0), via h129 ⟨g, s, r, a, v, rfl, hP2, hA2, hsm, hw, _, rfl, Mem.le_refl _, via h86 ⟨g, s, r, a, _, rfl, ⟨hP2, hA2, hw, by rw [w2]; exact w0, by rw [w2]; exact w1⟩, _, _, _, rfl, Mem.le_refl _, via h136 ⟨_, rfl, _, rfl, Mem.le_refl _, t1 hc⟩⟩⟩⟩
        · rw [if_neg (by decide), if_neg (by decide), if_pos (by decide), if_pos (by simpa using hneg)]; exact t0 (by decide)
        · rw [if_neg (by decide), if_neg (by decide), if_pos (by decide), if_pos (by simpa using hneg)]; exact t0 (by decide)
      · rw [if_neg (by simpa using a0)]
        refine ⟨_, _, _, cell_of hs2 1, ru hS2.r hmn (by omega) (by omega) fun ad2 had2 hd2 => ⟨_, hd2 _ (Mem.le_refl _), ?_⟩⟩
        have hf : frmA a mk at_ = if gi mk at_ = 1 then if a.cyc = true ∧ a.scan ≤ at_ then 2 else 1 else 3 := by unfold frmA; rw [if_neg (by omega)]
        rw [hf] at t0 t1
        generalize hy : gi mk at_ = y at *
        rcases hv1 with rfl | rfl | hx2
        · rw [if_pos (by decide)]; exact t0 (by rintro (⟨h, _⟩ | ⟨h | h, _⟩) <;> exact absurd h (by decide))
        · obtain ⟨w0, w1, w2⟩ := hw1 (by decide)
          rw [if_neg (by decide), if_pos (by decide)]
          rcases ha with rfl | rfl
          · rw [if_neg (by decide), if_neg (by decide)]
            rw [if_pos rfl] at t1
            have hc : (1 : Int) = 1 ∧ (if a.cyc = true ∧ a.scan ≤ at_ then (2 : Int) else 1) ≠ 3 ∨ ((1 : Int) = 2 ∨ (1 : Int) = 3) ∧ (if a.cyc = true ∧ a.scan ≤ at_ then (2 : Int) else 1) ≠ 1 := .inl ⟨rfl, by split <;> decide⟩
            exact ⟨Mem.le m2, Mem.le_refl _, _, held (cell_of hs2 0), _, held (cell_of hs2 0), _, held (cell_of hb1 0), _, held (cell_of hb1 1), _, held (cell_of hb1 0), via h129 ⟨g, s, r, a, v, rfl, hP2, hA2, hsm, hw, _, rfl, Mem.le_refl _, via h86 ⟨g, s, r, a, _, rfl, ⟨hP2, hA2, hw, by rw [w2]; exact w0, by rw [w2]; exact w1⟩, _, _, _, rfl, Mem.le_refl _, via h136 ⟨_, rfl, _, rfl, Mem.le_refl _, t1 hc⟩⟩⟩⟩
          · rw [if_pos (by decide)]
            exact t0 (by rw [if_neg (by decide)]; decide)
        · have x0 : ¬ x = 0 := by omega
          have x1 : ¬ x = 1 := by omega
          obtain ⟨w0, w1, w2⟩ := hw1 x0
          rw [if_neg (by simpa using x0), if_neg (by simpa using x1), if_pos (by simpa using x1)]
          rcases ha with rfl | rfl
          · rw [if_pos (by decide), if_neg (by simp; omega)]
            rw [if_pos rfl] at t0 t1
            refine ⟨_, cell_of hs2 0, po ⟨_, cell_of hP2 4, ?_⟩⟩
            by_cases hcy : a.cyc = true
            · rw [if_neg (by rw [hcy]; decide)]
              refine ⟨_, cell_of hs2 0, po ⟨_, cell_of hP2 5, ?_⟩⟩
              by_cases hsc : at_ < a.scan
              · rw [if_pos (by simpa using hsc)]
                exact t0 (by rw [if_neg (by omega)]; omega)
              · rw [if_neg (by simpa using hsc)]
                have hc : x = 1 ∧ (if a.cyc = true ∧ a.scan ≤ at_ then (2 : Int) else 1) ≠ 3 ∨ (x = 2 ∨ x = 3) ∧ (if a.cyc = true ∧ a.scan ≤ at_ then (2 : Int) else 1) ≠ 1 := .inr ⟨hx2, by rw [if_pos ⟨hcy, by omega⟩]; decide⟩
                exact ⟨Mem.le m2, Mem.le_refl _, _, held (cell_of hs2 0), _, held (cell_of hs2 0), _, held (cell_of hb1 0), _, held (cell_of hb1 1), _, held (cell_of hb1 0), via h129 ⟨g, s, r, a, v, rfl, hP2, hA2, hsm, hw, _, rfl, Mem.le_refl _, via h86 ⟨g, s, r, a, _, rfl, ⟨hP2, hA2, hw, by rw [w2]; exact w0, by rw [w2]; exact w1⟩, _, _, _, rfl, Mem.le_refl _, via h136 ⟨_, rfl, _, rfl, Mem.le_refl _, t1 hc⟩⟩⟩⟩
            · rw [if_pos (by simpa using hcy)]
              exact t0 (by rw [if_neg (fun h => hcy h.1)]; omega)
          · rw [if_neg (by decide)]
            rw [if_neg (by decide)] at t1
            have hc : x = 1 ∧ (3 : Int) ≠ 3 ∨ (x = 2 ∨ x = 3) ∧ (3 : Int) ≠ 1 := .inr ⟨hx2, by decide⟩
            exact ⟨Mem.le m2, Mem.le_refl _, _, held (cell_of hs2 0), _, held (cell_of hs2 0), _, held (cell_of hb1 0), _, held (cell_of hb1 1), _, held (cell_of hb1 0), via h129 ⟨g, s, r, a, v, rfl, hP2, hA2, hsm, hw, _, rfl, Mem.le_refl _, via h86 ⟨g, s, r, a, _, rfl, ⟨hP2, hA2, hw, by rw [w2]; exact w0, by rw [w2]; exact w1⟩, _, _, _, rfl, Mem.le_refl _, via h136 ⟨_, rfl, _, rfl, Mem.le_refl _, t1 hc⟩⟩⟩⟩
end Go.Proofs.YtpdcjocjkbgddaaGreat.Abs
