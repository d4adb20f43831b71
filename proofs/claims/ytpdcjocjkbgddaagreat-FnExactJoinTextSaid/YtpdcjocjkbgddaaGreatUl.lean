/- Arenas copied, Roots asked for. -/
import Derived.Test.YtpdcjocjkbgddaaGreatUk
namespace Go.Proofs.YtpdcjocjkbgddaaGreat.Abs
open Go.RowKit
set_option linter.unusedVariables false
set_option linter.unusedSimpArgs false
set_option maxRecDepth 20000
theorem own_emp {α : Type} [Enc α] (m : Mem) : OwnL m ⟨none, 0, 0⟩ ([] : List α) [] := ⟨rfl, .inl ⟨rfl, rfl, rfl, rfl⟩⟩
theorem own_one {α : Type} [Enc α] {m : Mem} {g : Nat} {t : TypeId} (h : m g = some (.cells #[] t (0, 0))) : OwnL m ⟨some ⟨g, 0, none⟩, 0, 0⟩ ([] : List α) [g] := ⟨rfl, .inr ⟨g, t, [], rfl, rfl, h, by simp⟩⟩
/-- What was put into new blocks alone. -/
theorem le_new {m M : Mem} {D : List Nat} (h : ∀ b, b ∉ D → M b = m b) (hD : ∀ b ∈ D, m b = none) : Mem.le m M := fun b o ho => by
  rw [h b fun hb => by rw [hD b hb] at ho; cases ho]
  exact ho
def s60 : Spec := fun args m Q => ∃ (s : Sl) (l : List U64), args = [vs s] ∧ s.n = l.length ∧ Rd m s.a l ∧ l.length ≤ 2 ^ 20 ∧ ∀ (s' : Sl) (D : List Nat) (M : Mem), Mem.le m M → OwnL M s' l D → (∀ b ∈ D, m b = none) → Q (vs s') M
theorem f60 (t : Tab) : ∀ args m Q, s60 args m Q → FA Tryz.prog (look t) kp60 Tryz.f60 args m Q := by
  rintro args m Q ⟨⟨sa, sn, sc⟩, l, rfl, hn, hR, hl, hQ⟩
  have hn : sn = l.length := hn
  have hR : Rd m sa l := hR
  show FA Tryz.prog (look t) kp60 Tryz.f60 [.slice sa sn sc] m Q
  rw [e60]
  refine newA_intro fun g1 m2 hg1 e2 hb1 hle2 => ?_
  refine app_sl (α := U64) (s := ⟨some ⟨g1, 0, none⟩, 0, 0⟩) (D := [g1]) (l := []) (l2 := l) rfl rfl (by decide) (by decide) (by decide) (own_one hb1) hn.symm (hR.le hle2) (by simp; omega) fun s' D' m' k1 k2 k3 k4 k5 => ?_
  obtain ⟨ta, tn, tc⟩ := s'
  have k1 : tn = 0 + sn := k1
  subst k1
  have hD : ∀ b ∈ D', m b = none := fun b hb => by
    rcases k4 with k4 | k4
    · rw [k4, List.mem_singleton] at hb; rw [hb]; exact hg1
    · exact le_none hle2 (k4 b hb)
  refine ret_intro (Mem.le_refl _) (hQ ⟨ta, 0 + sn, tc⟩ D' m' (fun b o ho => ?_) k2 hD)
  have hb : b ∉ D' := fun hb => by rw [hD b hb] at ho; cases ho
  rw [k3 b hb]
  exact hle2 _ _ ho
def s62 : Spec := s60
theorem f62 (t : Tab) : ∀ args m Q, s62 args m Q → FA Tryz.prog (look t) kp62 Tryz.f62 args m Q := by
  rintro args m Q ⟨⟨sa, sn, sc⟩, l, rfl, hn, hR, hl, hQ⟩
  have hn : sn = l.length := hn
  have hR : Rd m sa l := hR
  show FA Tryz.prog (look t) kp62 Tryz.f62 [.slice sa sn sc] m Q
  rw [e62]
  refine app_sl (α := U64) (s := ⟨none, 0, 0⟩) (D := []) (l := []) (l2 := l) rfl rfl (by decide) (by decide) (by decide) (own_emp m) hn.symm hR (by simp; omega) fun s' D' m' k1 k2 k3 k4 k5 => ?_
  obtain ⟨ta, tn, tc⟩ := s'
  have k1 : tn = 0 + sn := k1
  subst k1
  have hD : ∀ b ∈ D', m b = none := fun b hb => by
    rcases k4 with k4 | k4
    · rw [k4] at hb; cases hb
    · exact k4 b hb
  exact ret_intro (Mem.le_refl _) (hQ ⟨ta, 0 + sn, tc⟩ D' m' (le_new k3 hD) k2 hD)
/-- What an arena's copy is. -/
def CpK (m : Mem) (a : Ar) (K : Value → Mem → Prop) : Prop := ∀ (s' r' : Sl) (D : List Nat) (M : Mem), Mem.le m M → Wo M s' r' a D → (∀ b ∈ D, m b = none) → K (vA s' r' a) M
def cpT (Q : Value → Mem → Prop) (g1 g3 : Nat) (m24 : Mem) : Prop :=
  shN_2 (fun _ _ _ _ => True) Q m24 g1 g3
theorem cpT_ok {Q : Value → Mem → Prop} {g1 g3 : Nat} {s r : Sl} {a : Ar} {D1 D2 : List Nat} {M m : Mem} (p : Ptr M g1 s r a) (o1 : OwnL M s a.ws D1) (o2 : OwnL M r a.rs D2) (h3 : M g3 = some (.cells #[.slice none 0 0, .int .i64 0, .int .i64 0, .int .i64 0, .bool false, .int .i64 0, .int .i64 0, .int .i64 0, .int .i64 0, .slice none 0 0] 29 (0, 0))) (n3 : g3 ∉ D1 ++ D2) (z3 : m g3 = none) (hd : ∀ b ∈ D1, b ∉ D2) (hf : ∀ b ∈ D1 ++ D2, m b = none) (hl : Mem.le m M) (hQ : CpK m a Q) : cpT Q g1 g3 M := by
  unfold cpT
  obtain ⟨wa, wn, wc⟩ := s
  obtain ⟨ra, rn, rc⟩ := r
  refine ⟨_, _, _, cell_of p 0, _, cell_of p 1, _, cell_of p 2, _, cell_of p 3, _, cell_of p 4, _, cell_of p 5, _, cell_of p 6, _, cell_of p 7, _, cell_of p 8, _, _, _, cell_of p 9, ?_⟩
  refine sto_ar h3 fun m1 e1 q1 ne1 => ?_
  have p3 : Ptr m1 g3 ⟨wa, wn, wc⟩ ⟨ra, rn, rc⟩ a := q1
  refine ⟨_, _, _, cell_of p3 0, _, cell_of p3 1, _, cell_of p3 2, _, cell_of p3 3, _, cell_of p3 4, _, cell_of p3 5, _, cell_of p3 6, _, cell_of p3 7, _, cell_of p3 8, _, _, _, cell_of p3 9, ?_⟩
  have L : Mem.le m m1 := le_other hl z3 ne1
  have o1' := o1.ext (m' := m1) fun b hb => ne1 b fun e => n3 (by rw [← e]; simp [hb])
  have o2' := o2.ext (m' := m1) fun b hb => ne1 b fun e => n3 (by rw [← e]; simp [hb])
  exact ret_intro (Mem.le_refl _) (hQ _ _ (D1 ++ D2) m1 L ⟨D1, D2, o1', o2', rfl, List.nodup_append.2 ⟨own_nd o1, own_nd o2, fun x hx y hy e => hd x hx (e ▸ hy)⟩⟩ hf)
def s27 : Spec := fun args m Q => ∃ (s r : Sl) (a : Ar), args = [vA s r a] ∧ ArAt m s r a ∧ a.wf ∧ CpK m a Q
theorem f27 (t : Tab) (h60 : look t 60 = s60) : ∀ args m Q, s27 args m Q → FA Tryz.prog (look t) kp27 Tryz.f27 args m Q := by
  rintro args m Q ⟨s, r, a, rfl, hA, hw, hQ⟩
  show FA Tryz.prog (look t) kp27 Tryz.f27 [.agg #[.slice s.a s.n s.c, .int .i64 a.semi, .int .i64 a.to, .int .i64 a.top, .bool a.cyc, .int .i64 a.scan, .int .i64 a.old, .int .i64 a.cop, .int .i64 a.ser, .slice r.a r.n r.c]] m Q
  rw [e27]
  refine newA_intro fun g1 m1 hg1 e1 hb1 hle1 => newA_intro fun g3 m2 hg3 e2 hb3 hle2 => ?_
  have l2 := Mem.le_trans hle1 hle2
  have p1 : m2 g1 = some (.cells (cA s r a) 29 (0, 0)) := hle2 _ _ hb1
  have n13 : g1 ≠ g3 := ne_of_none hg3 hb1
  have z3 := le_none hle1 hg3
  refine ⟨_, _, _, cell_of p1 0, via h60 ⟨s, a.ws, rfl, hA.n.symm, hA.w.le l2, hw.n, fun s' D1 M hle o1 f1 => ?_⟩⟩
  obtain ⟨wa, wn, wc⟩ := s'
  have p1' := hle _ _ p1
  refine ⟨_, _, _, rfl, sto p1' rfl (by show 0 + 1 ≤ 10; decide) fun m3 e3 q3 ne3 => ?_⟩
  have q3 : Ptr m3 g1 ⟨wa, wn, wc⟩ r a := q3
  have b3 : m3 g3 = some (.cells #[.slice none 0 0, .int .i64 0, .int .i64 0, .int .i64 0, .bool false, .int .i64 0, .int .i64 0, .int .i64 0, .int .i64 0, .slice none 0 0] 29 (0, 0)) := (ne3 g3 (Ne.symm n13)).trans (hle _ _ hb3)
  have d11 : g1 ∉ D1 := fun h => by have := f1 g1 h; rw [p1] at this; cases this
  have d13 : g3 ∉ D1 := fun h => by have := f1 g3 h; rw [hb3] at this; cases this
  have o13 := o1.ext (m' := m3) fun b hb => ne3 b fun e => d11 (e ▸ hb)
  have L3 : Mem.le m m3 := le_other (Mem.le_trans l2 hle) hg1 ne3
  refine newA_intro fun g5 m4 hg5 e4 hb5 hle4 => ⟨_, _, _, cell_of (hle4 _ _ q3) 9, ?_⟩
  refine app_sl (α := Vl) (s := ⟨some ⟨g5, 0, none⟩, 0, 0⟩) (D := [g5]) (l := []) (l2 := a.rs) rfl rfl (by decide) (by decide) (by decide) (own_one hb5) hA.k ((hA.r.le L3).le hle4) (by have := hA.k; have := hw.r; simp; omega) fun t' D2 m5 k1 k2 k3 k4 k5 => ?_
  obtain ⟨ta, tn, tc⟩ := t'
  have k1 : tn = 0 + r.n := k1
  subst k1
  have hD : ∀ b ∈ D2, m3 b = none := fun b hb => by
    rcases k4 with k4 | k4
    · rw [k4, List.mem_singleton] at hb; rw [hb]; exact hg5
    · exact le_none hle4 (k4 b hb)
  have L5 : Mem.le m3 m5 := fun b o ho => by
    rw [k3 b fun hb => by rw [hD b hb] at ho; cases ho]
    exact hle4 _ _ ho
  refine sto (L5 _ _ q3) rfl (by show 9 + 1 ≤ 10; decide) fun m6 e6 q6 ne6 => ?_
  have q6 : Ptr m6 g1 ⟨wa, wn, wc⟩ ⟨ta, 0 + r.n, tc⟩ a := q6
  have d21 : g1 ∉ D2 := fun h => by have h1 := hD g1 h; have h2 : m3 g1 = _ := q3; rw [h2] at h1; cases h1
  have d23 : g3 ∉ D2 := fun h => by have h1 := hD g3 h; rw [b3] at h1; cases h1
  have o16 := (o13.ext (m' := m5) fun b hb => by obtain ⟨o, ho⟩ := o13.live b hb; rw [ho, L5 _ _ ho]).ext (m' := m6) fun b hb => ne6 b fun e => d11 (e ▸ hb)
  have o26 := k2.ext (m' := m6) fun b hb => ne6 b fun e => d21 (e ▸ hb)
  refine cpT_ok q6 o16 o26 ((ne6 g3 (Ne.symm n13)).trans (L5 _ _ b3)) (fun h => by rcases List.mem_append.1 h with h | h; exact d13 h; exact d23 h) z3 (fun b hb hb2 => by obtain ⟨o, ho⟩ := o13.live b hb; rw [hD b hb2] at ho; cases ho) (fun b hb => ?_) (le_other (Mem.le_trans L3 L5) hg1 ne6) hQ
  rcases List.mem_append.1 hb with h | h
  · exact le_none l2 (f1 b h)
  · exact le_none L3 (hD b h)
def s31 : Spec := s27
theorem f31 (t : Tab) (h62 : look t 62 = s62) : ∀ args m Q, s31 args m Q → FA Tryz.prog (look t) kp31 Tryz.f31 args m Q := by
  rintro args m Q ⟨s, r, a, rfl, hA, hw, hQ⟩
  show FA Tryz.prog (look t) kp31 Tryz.f31 [.agg #[.slice s.a s.n s.c, .int .i64 a.semi, .int .i64 a.to, .int .i64 a.top, .bool a.cyc, .int .i64 a.scan, .int .i64 a.old, .int .i64 a.cop, .int .i64 a.ser, .slice r.a r.n r.c]] m Q
  rw [e31]
  refine newA_intro fun g1 m1 hg1 e1 hb1 hle1 => newA_intro fun g3 m2 hg3 e2 hb3 hle2 => ?_
  have l2 := Mem.le_trans hle1 hle2
  have p1 : m2 g1 = some (.cells (cA s r a) 29 (0, 0)) := hle2 _ _ hb1
  have n13 : g1 ≠ g3 := ne_of_none hg3 hb1
  have z3 := le_none hle1 hg3
  refine ⟨_, _, _, cell_of p1 0, via h62 ⟨s, a.ws, rfl, hA.n.symm, hA.w.le l2, hw.n, fun s' D1 M hle o1 f1 => ?_⟩⟩
  obtain ⟨wa, wn, wc⟩ := s'
  have p1' := hle _ _ p1
  refine ⟨_, _, _, rfl, sto p1' rfl (by show 0 + 1 ≤ 10; decide) fun m3 e3 q3 ne3 => ?_⟩
  have q3 : Ptr m3 g1 ⟨wa, wn, wc⟩ r a := q3
  have b3 : m3 g3 = some (.cells #[.slice none 0 0, .int .i64 0, .int .i64 0, .int .i64 0, .bool false, .int .i64 0, .int .i64 0, .int .i64 0, .int .i64 0, .slice none 0 0] 29 (0, 0)) := (ne3 g3 (Ne.symm n13)).trans (hle _ _ hb3)
  have d11 : g1 ∉ D1 := fun h => by have := f1 g1 h; rw [p1] at this; cases this
  have d13 : g3 ∉ D1 := fun h => by have := f1 g3 h; rw [hb3] at this; cases this
  have o13 := o1.ext (m' := m3) fun b hb => ne3 b fun e => d11 (e ▸ hb)
  have L3 : Mem.le m m3 := le_other (Mem.le_trans l2 hle) hg1 ne3
  refine ⟨_, _, _, cell_of q3 9, ?_⟩
  refine app_sl (α := Vl) (s := ⟨none, 0, 0⟩) (D := []) (l := []) (l2 := a.rs) rfl rfl (by decide) (by decide) (by decide) (own_emp m3) hA.k (hA.r.le L3) (by have := hA.k; have := hw.r; simp; omega) fun t' D2 m5 k1 k2 k3 k4 k5 => ?_
  obtain ⟨ta, tn, tc⟩ := t'
  have k1 : tn = 0 + r.n := k1
  subst k1
  have hD : ∀ b ∈ D2, m3 b = none := fun b hb => by
    rcases k4 with k4 | k4
    · rw [k4] at hb; cases hb
    · exact k4 b hb
  have L5 : Mem.le m3 m5 := le_new k3 hD
  refine sto (L5 _ _ q3) rfl (by show 9 + 1 ≤ 10; decide) fun m6 e6 q6 ne6 => ?_
  have q6 : Ptr m6 g1 ⟨wa, wn, wc⟩ ⟨ta, 0 + r.n, tc⟩ a := q6
  have d21 : g1 ∉ D2 := fun h => by have h1 := hD g1 h; have h2 : m3 g1 = _ := q3; rw [h2] at h1; cases h1
  have d23 : g3 ∉ D2 := fun h => by have h1 := hD g3 h; rw [b3] at h1; cases h1
  have o16 := (o13.ext (m' := m5) fun b hb => by obtain ⟨o, ho⟩ := o13.live b hb; rw [ho, L5 _ _ ho]).ext (m' := m6) fun b hb => ne6 b fun e => d11 (e ▸ hb)
  have o26 := k2.ext (m' := m6) fun b hb => ne6 b fun e => d21 (e ▸ hb)
  refine cpT_ok q6 o16 o26 ((ne6 g3 (Ne.symm n13)).trans (L5 _ _ b3)) (fun h => by rcases List.mem_append.1 h with h | h; exact d13 h; exact d23 h) z3 (fun b hb hb2 => by obtain ⟨o, ho⟩ := o13.live b hb; rw [hD b hb2] at ho; cases ho) (fun b hb => ?_) (le_other (Mem.le_trans L3 L5) hg1 ne6) hQ
  rcases List.mem_append.1 hb with h | h
  · exact le_none l2 (f1 b h)
  · exact le_none L3 (hD b h)
def s26 : Spec := fun args m Q => ∃ (s r : Sl) (a : Ar) (x : Int), args = [vA s r a, .int .i64 x] ∧ ArAt m s r a ∧ a.wf ∧ Q (.bool (decide (0 ≤ x ∧ x < a.rs.length))) m
theorem f26 (t : Tab) (h44 : look t 44 = s44) : ∀ args m Q, s26 args m Q → FA Tryz.prog (look t) kp26 Tryz.f26 args m Q := by
  rintro args m Q ⟨s, r, a, x, rfl, hA, hw, hQ⟩
  show FA Tryz.prog (look t) kp26 Tryz.f26 [.agg #[.slice s.a s.n s.c, .int .i64 a.semi, .int .i64 a.to, .int .i64 a.top, .bool a.cyc, .int .i64 a.scan, .int .i64 a.old, .int .i64 a.cop, .int .i64 a.ser, .slice r.a r.n r.c], .int .i64 x] m Q
  rw [e26]
  have hk := hA.k
  have hr := hw.r
  refine newA_intro fun g m2 hg1 e2 hb1 hle2 => ⟨_, _, _, cell_of hb1 9, ?_⟩
  rw [w64 (x := (r.n : Int) - 1) (by omega) (by omega)]
  refine via h44 ⟨_, _, _, rfl, _, rfl, ret_bool hle2 hQ ?_⟩
  apply Bool.eq_iff_iff.2
  rw [decide_eq_true_eq, decide_eq_true_eq]
  omega
def s33 : Spec := fun args m Q => ∃ (g : Nat) (s r l : Sl) (a : Ar) (xs : List Int), args = [.pointer (some ⟨g, 0, none⟩), vs l] ∧ Ptr m g s r a ∧ ArAt m s r a ∧ a.wf ∧ l.n = xs.length ∧ Rd m l.a xs ∧ xs.length ≤ 2 ^ 20 ∧ Q (.bool (decide (∀ x ∈ xs, 0 ≤ x ∧ x < a.rs.length))) m
theorem f33 (t : Tab) (h47 : look t 47 = s47) : ∀ args m Q, s33 args m Q → FA Tryz.prog (look t) kp33 Tryz.f33 args m Q := by
  rintro args m Q ⟨g, s, r, ⟨la, ln, lc⟩, a, xs, rfl, hP, hA, hw, hn, hR, hxl, hQ⟩
  have hn : ln = xs.length := hn
  have hR : Rd m la xs := hR
  show FA Tryz.prog (look t) kp33 Tryz.f33 [.pointer (some ⟨g, 0, none⟩), .slice la ln lc] m Q
  rw [e33]
  have hk := hA.k
  have hr := hw.r
  suffices key : ∀ (d i : Nat), i + d = xs.length → (∀ j : Nat, (h : j < xs.length) → j < i → 0 ≤ xs[j] ∧ xs[j] < a.rs.length) → L33_2 (look t) (d + 1) Q g la ln lc (ln : Int) (i : Int) m from ⟨xs.length + 1, key xs.length 0 (by omega) fun j _ hj => by omega⟩
  intro d
  induction d with
  | zero =>
    intro i hi hz
    rw [l33_2]
    refine ⟨m, Mem.le_refl _, ?_⟩
    rw [if_neg (by simp; omega)]
    refine ret_bool (Mem.le_refl _) hQ (Eq.symm (decide_eq_true fun x hx => ?_))
    obtain ⟨j, hj, e⟩ := List.mem_iff_getElem.1 hx
    rw [← e]
    exact hz j hj (by omega)
  | succ d ih =>
    intro i hi hz
    have hlt : i < xs.length := by omega
    rw [l33_2]
    refine ⟨m, Mem.le_refl _, ?_⟩
    rw [if_pos (by simp; omega), wsucc (n := 2 ^ 20) (by omega) (by decide)]
    refine li hR hn.symm (by omega) (by omega) fun ad had hd => ⟨_, hd _ (Mem.le_refl _), _, _, _, cell_of hP 9, ?_⟩
    rw [gi_mem hlt, w64 (x := (r.n : Int) - 1) (by omega) (by omega)]
    refine via h47 ⟨_, _, _, rfl, _, rfl, ?_⟩
    by_cases c : 0 ≤ xs[i] ∧ xs[i] ≤ (r.n : Int) - 1
    · rw [decide_eq_true c, if_neg (by decide)]
      refine ih (i + 1) (by omega) fun j hj hj2 => ?_
      by_cases e : j = i
      · subst e; omega
      · exact hz j hj (by omega)
    · rw [decide_eq_false c, if_pos (by decide)]
      refine ret_bool (Mem.le_refl _) hQ (Eq.symm (decide_eq_false fun h => c ?_))
      have := h xs[i] (List.getElem_mem _)
      omega
end Go.Proofs.YtpdcjocjkbgddaaGreat.Abs
/- Cells that are made. -/
namespace Go.Proofs.YtpdcjocjkbgddaaGreat.Abs
open Go.RowKit
set_option linter.unusedVariables false
set_option linter.unusedSimpArgs false
set_option maxRecDepth 20000
/-- What stands when an object was asked for. -/
theorem ask_ok {a : Ar} {k n : Int} (h : OkC a) (hsz : sizeB k n = true) : (askA k n a).1.ws.length = a.ws.length ∧ (askA k n a).1.rs.length = a.rs.length ∧ a.ws.length ≤ 8000 ∧
    ((askA k n a).2.2 = 0 → 1 ≤ (askA k n a).2.1 ∧ (askA k n a).2.1 + n + 1 ≤ a.ws.length) := by
  have sm := h.num.1.sm
  have s1 := sm.s1
  have hl := sm.l
  unfold askA
  split
  · exact ⟨rfl, rfl, by omega, fun e => by cases e⟩
  · obtain ⟨p1, p2⟩ := pace_ok h
    obtain ⟨r1, r2⟩ := room_ok (n := n) p1
    have sz := p2.trans r2
    have hN := r1.num.1
    have hf := free_le hN
    generalize roomA n (paceA a) = b at *
    have l1 := sz.len
    have l2 := sz.rl
    unfold putA
    split
    · exact ⟨l1, l2, by omega, fun e => by cases e⟩
    · refine ⟨?_, ?_, by omega, fun _ => ⟨?_, ?_⟩⟩
      · show (if bornB k = true then _ else _ : Ar).ws.length = _
        split
        · show (clrW (setW b.ws _ _) _ _).length = _
          rw [clrW_len, setW_len]; exact l1
        · show (clrW (setW b.ws _ _) _ _).length = _
          rw [clrW_len, setW_len]; exact l1
      · show (if bornB k = true then _ else _ : Ar).rs.length = _
        split
        · exact l2
        · exact l2
      · show 1 ≤ b.top
        omega
      · show b.top + n + 1 ≤ _
        omega
theorem okC_of {a : Ar} (hw : a.wf) (h : okP a) : OkC a := by
  obtain ⟨mk, h⟩ := h
  exact ok_cyc hw h
/-- A cell is made, in a right arena. -/
def ncR (a : Ar) (f i : Int) : Ar × Int :=
  if (askA 5 2 a).2.2 = 0 then ({ putV (askA 5 2 a).1 ((askA 5 2 a).2.1 + 1) ((askA 5 2 a).1.rs.getD f.toNat (0, 0)) with rs := (askA 5 2 a).1.rs.set i.toNat (9, (askA 5 2 a).2.1) }, (askA 5 2 a).2.2) else ((askA 5 2 a).1, (askA 5 2 a).2.2)
open Classical in
noncomputable def ncA (a : Ar) (f i : Int) : Ar × Int := if okP a ∧ (0 ≤ f ∧ f < a.rs.length) ∧ 0 ≤ i ∧ i < a.rs.length then ncR a f i else (a, 1)
def ncK (m : Mem) (q : Ar × Int) (Q : Value → Mem → Prop) : Prop := ∀ (s' r' : Sl) (D : List Nat) (M : Mem), Mem.le m M → Wo M s' r' q.1 D → (∀ b ∈ D, m b = none) → Q (.tuple #[vA s' r' q.1, .int .i64 q.2]) M
/-- An arena of one's own and a number are handed back. -/
theorem ret_nc {Q : Value → Mem → Prop} {g1 g3 : Nat} {s r : Sl} {q : Ar × Int} {D : List Nat} {M m : Mem} (im : Im M g1 s r q.1 D) (h3 : M g3 = some (.cells #[.slice none 0 0, .int .i64 0, .int .i64 0, .int .i64 0, .bool false, .int .i64 0, .int .i64 0, .int .i64 0, .int .i64 0, .slice none 0 0] 29 (0, 0))) (z3 : m g3 = none) (d3 : g3 ∉ D)
    (hO : Off D m M) (hD : ∀ b ∈ D, m b = none) (hQ : ncK m q Q) : stT Q g1 g3 q.2 M :=
  stT_ok im h3 z3 d3 hO fun m' o w => hQ s r D m' (le_new o hD) w hD
end Go.Proofs.YtpdcjocjkbgddaaGreat.Abs
